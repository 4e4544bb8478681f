/- A piece. -/
import Derived.Test.YtbicafgmfgdckaaGreatDoorMgAn
import Derived.Test.YtbicafgmfgdckaaGreatDoorMgAd
import Derived.StillTailTactics
import Derived.Walk
set_option maxRecDepth 100000
set_option maxHeartbeats 16000000
set_option linter.all false
namespace Go.Proofs.YtbicafgmfgdckaaGreatDoor
open Go.Proofs.Tryz
open Go Go.RowKit
theorem Amv (k:Nat) (h:k < 256):Value.int .u8 (k:Int)=U8 (BitVec.ofNat 8 k):=by
 have:(BitVec.ofNat 8 k).toNat=k:=by rw[BitVec.toNat_ofNat];omega
 unfold U8;rw[this]
theorem Aey (s:BitVec 32) (k:Nat) (h:k < 256) (w:World) (n:Nat):Calls prog 95 #[Af s,.int .u8 k] (w.drewN n) fun e w''=>e=.returned (Af (Avv.word s (BitVec.ofNat 8 k)))/\∃m,w''=w.drewN m:=by
 rw[Amv k h];exact Aez s _ w n
theorem Ank (w:World) (s:BitVec 32) (win:Nat) (h1:1<=win) (h63:win<=63) :
  Calls prog 73 #[Af s,.int .i64 win] w fun e w'=>∃b,w.heap.size<=b/\e=.returned (.tuple #[.pointer (some ⟨b,0,none⟩),.int .i64 0])/\Dn w' b s win []/\Below w.heap.size w w':=by
 obtain⟨Z,hz,hs,zw,zr,z0,z1,z2,z3⟩:=Abx
 go_enter func73,ntmps73
 go_wp2;have hf:=Akp w s win Z 155 hs zw zr z1 z2 z3;have hb:Below w.heap.size w (w.alloc (.cells (Z.setIfInBounds 319 (.int .i64 win)) 155)):=(Below.refl _ _).alloc (Nat.le_refl _) _;clear hz hs zw zr z0 z1 z2 z3;generalize w.alloc (.cells (Z.setIfInBounds 319 (.int .i64 win)) 155)=w1 at *;generalize Z.setIfInBounds 319 (.int .i64 win)=Z' at *;generalize decide ((win:Int) < 1)=q1;generalize decide ((63:Int) < win)=q2
 go_loopw [17] (fun i wr=>Ap2 w s win i wr) (fun i _=>256 - (intOf i).toNat)
 case atStart=>exact⟨0,by omega,rfl,hf,hb⟩
 case round =>
  clear hf hb;obtain⟨k,hk,rfl,hf,hb⟩:=hrel;by_cases hlt:k < 256
  ·obtain⟨v,c1,_⟩:=hf.words k hlt;have c2:=hf.thawed k;have WQ:=Aey s k hlt
   go_wp2_with fail
   refine Cb 9 (by kernel_rfl) (by kernel_rfl) rfl ?_;simp only[List.take_succ_cons,List.take_zero,List.drop_zero]
   repeat (first|go_big_quiet_step (exact WQ _ _) | quiet_step (exact WQ _ _))
   refine wpQuiet_nil ?_;intro j;go_wp2;refine B9 (Db (by kernel_rfl) ?_);simp only[List.drop_succ_cons,List.drop_nil];refine wpQuiet_nil ?_;intro j';have hf2:=Lib.hid (((hf.drewN j).step hlt).drewN j');have hb2:=Lib.hid (below_drewN ((below_drewN hb j).setCell (p:=⟨w.heap.size,k,none⟩) (Nat.le_refl _) (Af (Avv.word s (BitVec.ofNat 8 k)))) j');clear hf hb c1 c2;go_wp2
   go_roundw
   case rel=>exact⟨k+1,by omega,by go_num,hf2.out,hb2.out⟩
   case measure=>simp[intOf];omega
  ·obtain rfl:k=256:=by omega
   go_wp2
   go_ret2
   exact⟨_,Nat.le_refl _,rfl,hf.done h1,hb⟩
namespace Avu
abbrev B:=BitVec 8
structure Sh where
 L:Nat
 M:Nat
 K:Nat
 W:Nat
 s:BitVec 32
structure Sh.Good (h:Sh):Prop where
 w1:1<=h.W
 w63:h.W<=63
 wl:h.W<=h.L
 lm:h.L<=h.M
 m:h.M<=8192
 k:h.K<=20
def Ad5 (n:Nat) (l:List B):List B:=l.drop (l.length - n)
def maskOf (k:Nat):BitVec 32:=1#32 <<< k - 1#32
def ends (h:Sh) (b:List B):Bool:=if b.length=h.M then true else if b.length < h.L then false else decide (Avv.sum h.s (Ad5 h.W b) &&& maskOf h.K=0#32)
def feed (h:Sh):List B->List B->List (List B) × List B
 | held,[]=>([],held)
 | held,c::r=>if ends h (held++[c]) then ((held++[c])::(feed h [] r).1,(feed h [] r).2) else feed h (held++[c]) r
theorem feed_nil (h:Sh) (held:List B):feed h held []=([],held):=rfl
theorem feed_cons (h:Sh) (held:List B) (c:B) (r:List B) :
  feed h held (c::r)=if ends h (held++[c]) then ((held++[c])::(feed h [] r).1,(feed h [] r).2) else feed h (held++[c]) r:=rfl
theorem feed_append (h:Sh):∀(a b held:List B),feed h held (a++b)=((feed h held a).1++(feed h (feed h held a).2 b).1,(feed h (feed h held a).2 b).2)
 | [],b,held=>by simp[feed_nil]
 | c::a,b,held=>by
  rw[List.cons_append,feed_cons,feed_cons];split
  ·rw[feed_append h a b []];rfl
  ·rw[feed_append h a b (held++[c])]
theorem feed_snoc (h:Sh) (a held:List B) (c:B) :
  feed h held (a++[c])=if ends h ((feed h held a).2++[c]) then ((feed h held a).1++[(feed h held a).2++[c]],[]) else ((feed h held a).1,(feed h held a).2++[c]):=by
 rw[feed_append,feed_cons];split<;>simp[feed_nil]
theorem feed_join (h:Sh):∀(a held:List B),(feed h held a).1.flatten++(feed h held a).2=held++a
 | [],held=>by simp[feed_nil]
 | c::a,held=>by
  rw[feed_cons];split
  ·simp only[List.flatten_cons];rw[List.append_assoc,feed_join h a []];simp
  ·rw[feed_join h a];simp
def Open (h:Sh) (held:List B):Prop:=∀n,1<=n->n<=held.length->ends h (held.take n)=false
theorem open_nil (h:Sh):Open h []:=fun n h1 h2=>by simp at h2;omega
theorem open_snoc {h:Sh} {held:List B} {c:B} (ho:Open h held) (he:ends h (held++[c])=false):Open h (held++[c]):=by
 intro n h1 h2;rw[List.length_append,List.length_singleton] at h2;by_cases hn:n<=held.length
 ·rw[List.take_append_of_le_length hn];exact ho n h1 hn
 ·rw[List.take_of_length_le (by rw[List.length_append,List.length_singleton];omega)];exact he
theorem feed_open (h:Sh):∀(a held:List B),Open h held->Open h (feed h held a).2
 | [],_,ho=>ho
 | c::a,held,ho=>by
  rw[feed_cons];split
  ·exact feed_open h a [] (open_nil h)
  ·rename_i he;exact feed_open h a _ (open_snoc ho (Bool.eq_false_iff.2 he))
def Whole (h:Sh) (c:List B):Prop:=ends h c=true/\∃d x,c=d++[x]/\Open h d
theorem open_lt {h:Sh} (g:h.Good) {held:List B} (ho:Open h held):held.length < h.M:=by
 have h1:=g.w1;have h2:=g.wl;have h3:=g.lm;rcases Nat.lt_or_ge held.length h.M with hl|hl
 ·exact hl
 ·exfalso;have:=ho h.M (by omega) hl;unfold ends at this;rw[if_pos (by rw[List.length_take];omega)] at this;cases this
def split (h:Sh) (b:List B):List (List B):=(feed h [] b).1++(if (feed h [] b).2=[] then [] else [(feed h [] b).2])
def endedB (h:Sh) (b:List B):Bool:=decide ((feed h [] b).2=[])
theorem split_join (h:Sh) (b:List B):(split h b).flatten=b:=by
 have:=feed_join h b [];unfold split;split
 ·rename_i e;rw[e] at this;simpa using this
 ·rw[List.flatten_append];simpa using this
def pre (l:List (List B)) (p:Nat):Nat:=((l.take p).map List.length).sum
theorem feed_few (h:Sh):∀(a held:List B),(feed h held a).1.length<=a.length
 | [],_=>Nat.le_refl _
 | c::a,held=>by
  rw[feed_cons];split
  ·have:=feed_few h a [];simp;omega
  ·have:=feed_few h a (held++[c]);simp;omega
end Avu
def Ka (n:Nat) (l:List (BitVec 8)):List (BitVec 8):=l.drop (l.length - n)
theorem Abg (n:Nat) (l:List (BitVec 8)):(Ka n l).length=min n l.length:=by
 unfold Ka;rw[List.length_drop];omega
theorem Tt {n:Nat} {l:List (BitVec 8)} (h:l.length<=n):Ka n l=l:=by
 unfold Ka;rw[show l.length - n=0 by omega,List.drop_zero]
theorem Ac8 (n:Nat) (l:List (BitVec 8)) (c:BitVec 8) (hn:0 < n):Lp n (Ka n l) c=Ka n (l++[c]):=by
 unfold Lp;rw[Abg];by_cases h:l.length < n
 ·rw[if_pos (by omega),Tt (by omega),Tt (by rw[List.length_append,List.length_singleton];omega)]
 ·rw[if_neg (by omega)];unfold Ka;rw[List.length_append,List.length_singleton,List.drop_drop,List.drop_append_of_le_length (by omega)]
  congr 2
  omega
theorem Agi {n m:Nat} (l:List (BitVec 8)) (h:n+m<=l.length):Ka n (l.drop m)=Ka n l:=by
 unfold Ka;rw[List.drop_drop,List.length_drop];congr 1;omega
theorem Dn.drewN {w:World} {b:Nat} {s:BitVec 32} {win:Nat} {L:List (BitVec 8)} (h:Dn w b s win L) (n:Nat):Dn (w.drewN n) b s win L:=by
 obtain⟨at_,ring,h1,h2⟩:=h;exact⟨at_,ring,h1.drewN n,h2⟩
theorem Touch.of_only {F:Nat->Prop} {b:Nat} {w w':World} (h:D8 b w w') (hb:F b):Touch F w w' :=
 ⟨h.os,h.tape,h.output,h.size,fun k hk hn=>h.block k hk (fun e=>hn (Option.some.inj e ▸ hb))⟩
def Ca (L M K W:Int) (s:BitVec 32):Value:=.agg #[.int .i64 L,.int .i64 M,.int .i64 K,.int .i64 W,Af s]
def K5 (L M K W:Int):Bool:=decide (1<=W/\W<=63/\W<=L/\L<=M/\M<=8192/\0<=K/\K<=20)
theorem Aaa (L M K W:Int) (s:BitVec 32) (w:World) (h1:1<=W) (h2:W<=63) (h3:W<=L) (h4:L<=M) (h5:M<=8192) (h6:0<=K) (h7:K<=20) :
  Calls prog 20 #[Ca L M K W s] w fun e w'=>e=.returned (.int .i64 0)/\Below w.heap.size w w':=by
 unfold Ca
 go_enter func20,ntmps20
 go_wp2
 go_ret
 exact⟨rfl,(Below.refl _ _).alloc (Nat.le_refl _) _⟩
theorem Ape (L M K W:Int) (s:BitVec 32) (w:World) (h:W < 1\/63 < W\/L < W\/M < L\/8192 < M\/K < 0\/20 < K) :
  Calls prog 20 #[Ca L M K W s] w fun e w'=>e=.returned (.int .i64 2)/\Below w.heap.size w w':=by
 unfold Ca;have key:W < 1\/(1<=W/\63 < W)\/(1<=W/\W<=63/\L < W)\/(1<=W/\W<=63/\W<=L/\M < L)\/(1<=W/\W<=63/\W<=L/\L<=M/\8192 < M)\/(1<=W/\W<=63/\W<=L/\L<=M/\M<=8192/\K < 0)\/(1<=W/\W<=63/\W<=L/\L<=M/\M<=8192/\0<=K/\20 < K):=by omega
 clear h;rcases key with h1|⟨h1,h2⟩|⟨h1,h2,h3⟩|⟨h1,h2,h3,h4⟩|⟨h1,h2,h3,h4,h5⟩|⟨h1,h2,h3,h4,h5,h6⟩|⟨h1,h2,h3,h4,h5,h6,h7⟩
 all_goals
  go_enter func20,ntmps20
  go_wp2
  go_ret
  exact⟨rfl,(Below.refl _ _).alloc (Nat.le_refl _) _⟩
theorem Rt {L M K W:Int}:K5 L M K W=true↔1<=W/\W<=63/\W<=L/\L<=M/\M<=8192/\0<=K/\K<=20:=by unfold K5;rw[decide_eq_true_eq]
theorem Asq {L M K W:Int}:K5 L M K W=false↔W < 1\/63 < W\/L < W\/M < L\/8192 < M\/K < 0\/20 < K:=by
 unfold K5;rw[decide_eq_false_iff_not];omega
def shV (h:Avu.Sh):Value:=Ca h.L h.M h.K h.W h.s
theorem Afm {P:Program} {f:FuncId} {args:Array Value} {v:Value} {w:World} {n:Nat} (h:Calls P f args (w.drewN n) fun e w'=>e=.returned v/\w.drewN n=w') :
  Calls P f args (w.drewN n) fun e w''=>e=.returned v/\∃m,w''=w.drewN m:=h.mono fun _ _ ⟨he,hw⟩=>⟨he,n,hw.symm⟩
def two (i:Nat):BitVec 32:=1#32 <<< i
theorem Aku {h:Avu.Sh} {l:List (BitVec 8)} (e:l.length=h.M):Avu.ends h l=true:=by unfold Avu.ends;rw[if_pos e]
theorem X9 {h:Avu.Sh} {l:List (BitVec 8)} (e:l.length≠h.M) (e2:l.length < h.L):Avu.ends h l=false:=by unfold Avu.ends;rw[if_neg e,if_pos e2]
theorem Ao2 {h:Avu.Sh} {l:List (BitVec 8)} (e:l.length≠h.M) (e2:¬l.length < h.L):Avu.ends h l=decide (Avv.sum h.s (Ka h.W l) &&& Avu.maskOf h.K=0#32):=by unfold Avu.ends;rw[if_neg e,if_neg e2];rfl
theorem Ak8 (w:World) (cs:Array Value) (E:TypeId) (wr:World) (hb:Below (w.alloc (.cells cs E)).heap.size (w.alloc (.cells cs E)) wr) (i:Nat):wr.cell? ⟨w.heap.size,i,none⟩=cs[i]?:=by
 rw[hb.cell (p:=⟨w.heap.size,i,none⟩) (by simp),De]
theorem Ac2:Aet prog 25 37 (.slice none 0 0) 24:=⟨by kernel_rfl,by kernel_rfl,rfl⟩
def Auo (a:Option Addr) (w:World) (k:Nat):Prop:=k < w.heap.size/\∀ad,a=some ad->ad.block≠k
theorem Am7 {w:World} {a:Option Addr} {cap:Nat} {l:List (BitVec 8)} (h:A0 w a cap l) (hl:l≠[]):∃b off,a=some ⟨b,off,none⟩/\b < w.heap.size:=by
 rcases h.bytes with e|⟨b,off,e,hb⟩
 ·exact(hl e).elim
 ·have h0:0 < l.length:=List.length_pos_iff.2 hl;exact⟨b,off,e,World.block_lt_of_cell? w _ (hb 0 h0)⟩
theorem Wc {w:World} {a:Option Addr} {cap:Nat} {l:List (BitVec 8)} (h:A0 w a cap l) (hl:l≠[]):∀ad,a=some ad->ad.block < w.heap.size:=fun ad e=>by
 obtain⟨b,off,e2,hb⟩:=Am7 h hl;rw[e] at e2;cases e2;exact hb
structure Avb (h:Avu.Sh) (a:Option Addr) (cap:Nat) (l:List (BitVec 8)) (w w1:World) (s v:Value) (en:Bool) (k:Nat) (vs:List Value) (ls:List (List (BitVec 8))) (wr:World) (A:Option Addr):Prop where
 le:k<=l.length
 sv:s=.slice A (l.length - k) (cap - k)
 reads:A0 wr A (cap - k) (l.drop k)
 blk:∀ad,A=some ad->∃ad0,a=some ad0/\ad.block=ad0.block
 rows:Bl (Auo a w) wr w1.heap.size 37 v vs ls
 splitEq:Avu.split h l=ls++Avu.split h (l.drop k)
 few:ls.length<=k
 ended:Avu.endedB h l=if l.drop k=[] then en else Avu.endedB h (l.drop k)
 below:Below w1.heap.size w1 wr
def Avt:Value->Nat | .slice _ n _=>n|_=>0
structure Ek (w:World) (b r:Nat) (h:Avu.Sh) (v:Value):Prop where
 c0:w.cell? ⟨b,0,none⟩=some (.int .i64 h.L)
 c1:w.cell? ⟨b,1,none⟩=some (.int .i64 h.M)
 c2:w.cell? ⟨b,2,none⟩=some (.int .i64 h.K)
 c3:w.cell? ⟨b,3,none⟩=some (.int .i64 h.W)
 c4:w.cell? ⟨b,4,none⟩=some (Af h.s)
 c5:w.cell? ⟨b,5,none⟩=some (.pointer (some ⟨r,0,none⟩))
 c6:w.cell? ⟨b,6,none⟩=some (Af (Avu.maskOf h.K))
 c7:w.cell? ⟨b,7,none⟩=some v
 thawed:∀o,w.frozen? ⟨b,o,none⟩=false
def Hn (h:Avu.Sh) (held:List (BitVec 8)):List (BitVec 8):=Ka h.W (held.drop (h.L - h.W))
structure D6 (w:World) (B b r:Nat) (v:Value) (h:Avu.Sh) (held:List (BitVec 8)):Prop where
 at_:Ek w b r h v
 ne:r≠b
 roll:Dn w r h.s h.W (Hn h held)
 own:C6 w B 5 v held
 vb:v.ownBlock≠some b
 vr:v.ownBlock≠some r
 low:B<=b/\B<=r
def Fu (b r:Nat) (v:Value) (k:Nat):Prop:=k=b\/k=r\/v.ownBlock=some k
section
variable {w w':World} {B b r:Nat} {v v':Value} {h:Avu.Sh} {held:List (BitVec 8)}
theorem Ek.lt (c:Ek w b r h v):b < w.heap.size:=World.block_lt_of_cell? w _ c.c0
theorem Ek.touch {F:Nat->Prop} (c:Ek w b r h v) (t:Touch F w w') (hn:¬F b):Ek w' b r h v :=
 ⟨t.cell c.c0 hn,t.cell c.c1 hn,t.cell c.c2 hn,t.cell c.c3 hn,t.cell c.c4 hn,t.cell c.c5 hn,t.cell c.c6 hn,t.cell c.c7 hn,fun o=>by rw[t.frozen c.lt hn];exact c.thawed o⟩
theorem Ek.hold (c:Ek w b r h v) (u:Value):Ek (w.setCell ⟨b,7,none⟩ u) b r h u :=
 ⟨Aq c.c0 (by omega),Aq c.c1 (by omega),Aq c.c2 (by omega),Aq c.c3 (by omega),Aq c.c4 (by omega),Aq c.c5 (by omega),Aq c.c6 (by omega),Kq c.c7,fun o=>by rw[World.frozen?_setCell];exact c.thawed o⟩
theorem B0.touch {F:Nat->Prop} {s x:BitVec 32} {win n at_:Nat} {ring:Nat->BitVec 8} (c:B0 w r s win n at_ x ring) (t:Touch F w w') (hn:¬F r):B0 w' r s win n at_ x ring :=
 ⟨fun i hi=>t.cell (c.words i hi) hn,fun i hi=>t.cell (c.ring i hi) hn,t.cell c.win hn,t.cell c.n hn,t.cell c.at_ hn,t.cell c.x hn,fun o=>(t.frozen (a:=⟨r,o,none⟩) (World.block_lt_of_cell? w ⟨r,319,none⟩ c.win) hn).trans (c.thawed o)⟩
theorem Dn.touch {F:Nat->Prop} {s:BitVec 32} {win:Nat} {L:List (BitVec 8)} (c:Dn w r s win L) (t:Touch F w w') (hn:¬F r):Dn w' r s win L:=by
 obtain⟨at_,ring,h1,h2⟩:=c;exact⟨at_,ring,h1.touch t hn,h2⟩
theorem Dn.lt {s:BitVec 32} {win:Nat} {L:List (BitVec 8)} (c:Dn w r s win L):r < w.heap.size:=by
 obtain⟨at_,ring,h1,h2⟩:=c;exact World.block_lt_of_cell? w _ h1.win
theorem D6.touch {F:Nat->Prop} (c:D6 w B b r v h held) (t:Touch F w w') (hn:∀k,Fu b r v k->¬F k):D6 w' B b r v h held :=
 ⟨c.at_.touch t (hn b (.inl rfl)),c.ne,c.roll.touch t (hn r (.inr (.inl rfl))),t.owns c.own fun k hk=>hn k (.inr (.inr hk)),c.vb,c.vr,c.low⟩
theorem D6.foot_lt (c:D6 w B b r v h held) {k:Nat} (hk:Fu b r v k):B<=k/\k < w.heap.size:=by
 rcases hk with rfl|rfl|hk
 ·exact⟨c.low.1,c.at_.lt⟩
 ·exact⟨c.low.2,c.roll.lt⟩
 ·exact Dm c.own hk
end
theorem Nv (h:Avu.Sh) (held:List (BitVec 8)) (hl:held.length<=h.L - h.W):Hn h held=[]:=by
 unfold Hn;rw[List.drop_eq_nil_of_le hl];unfold Ka;simp
theorem Agm (h:Avu.Sh) (g:h.Good) (held:List (BitVec 8)) (c:BitVec 8) (hl:h.L - h.W<=held.length):Hn h (held++[c])=Lp h.W (Hn h held) c:=by
 unfold Hn;rw[List.drop_append_of_le_length hl,Ac8 _ _ _ g.w1]
theorem Agn (h:Avu.Sh) (g:h.Good) (held:List (BitVec 8)) (hl:h.L<=held.length):Hn h held=Ka h.W held:=Agi held (by have:=g.wl;omega)
theorem S5 {w:World} {b r:Nat} {h:Avu.Sh} {v:Value} (c:Ek w b r h v) :
  Calls prog 74 #[.pointer (some ⟨b,0,none⟩)] w fun e w'=>e=.returned (.bool true)/\w=w':=by
 have c5:=c.c5
 go_enter func74,ntmps74
 go_wp2
 go_ret
 exact⟨rfl,rfl⟩
def Atc (B b r:Nat) (v:Value) (h:Avu.Sh) (held:List (BitVec 8)) (w:World) (e:Ending) (w':World):Prop :=
 e=.returned v/\D6 w' B b r (.slice none 0 0) h []/\C6 w' B 5 v held/\Touch (Fu b r (.slice none 0 0)) w w'
theorem Tu {w:World} {B b r:Nat} {v:Value} {h:Avu.Sh} {held:List (BitVec 8)} (c:D6 w B b r v h held) :
  Calls prog 76 #[.pointer (some ⟨b,0,none⟩)] w (Atc B b r v h held w):=by
 have c7:=c.at_.c7;have f7:=c.at_.thawed 7;have hne:=c.ne;have c5:(w.setCell ⟨b,7,none⟩ (.slice none 0 0)).cell? ⟨b,5,none⟩=some (.pointer (some ⟨r,0,none⟩)):=(c.at_.hold _).c5;have t1:Touch (fun k=>k=b) w (w.setCell ⟨b,7,none⟩ (.slice none 0 0)):=Touch.set w b 7 _ rfl;have CL:=Ak4 _ r h.s h.W _ (c.roll.touch t1 c.ne);have hv:∃a n cap,v=.slice a n cap:=by obtain⟨a,cap,e,_⟩:=c.own.reads;exact⟨a,_,cap,e⟩
 obtain⟨a,n,cap,rfl⟩:=hv
 go_enter func76,ntmps76
 go_wp2_with fail
 refine CL.mono ?_;rintro e w2 ⟨rfl,h2,o2⟩;go_wp2
 go_ret
 have t2:Touch (fun k=>k=r) (w.setCell ⟨b,7,none⟩ (.slice none 0 0)) w2:=.of_only o2 rfl;refine⟨rfl,⟨((c.at_.hold _).touch t2 (fun e=>hne e.symm)),hne,?_,Ij _ _ _,by simp[Value.ownBlock],by simp[Value.ownBlock],c.low⟩,?_,?_⟩
 ·rw[Nv h [] (by simp)];exact h2
 ·exact t2.owns (t1.owns c.own fun k hk e=>c.vb (by rw[hk,e])) fun k hk e=>c.vr (by rw[hk,e])
 ·exact(t1.mono fun k e=>.inl e).trans (t2.mono fun k e=>.inr (.inl e))
theorem Agu {w:World} {B b r:Nat} {v:Value} {h:Avu.Sh} {held:List (BitVec 8)} (c:D6 w B b r v h held) :
  Calls prog 41 #[.pointer (some ⟨b,0,none⟩)] w (Atc B b r v h held w):=by
 have OK:=S5 c.at_;have TK:=Tu c
 go_enter func41,ntmps41
 go_wp2_with fail
 refine OK.mono ?_;rintro e w' ⟨rfl,rfl⟩
 go_wp2_with fail
 refine TK.mono ?_;rintro e w' ⟨rfl,h1⟩;go_wp2
 go_ret
 exact⟨rfl,h1⟩
theorem Ak6:Aet prog 37 5 (.int .u8 0) 1:=⟨by kernel_rfl,by kernel_rfl,rfl⟩
theorem Px {w:World} {B:Nat} {E:TypeId} {size n:Nat} {v:Value} {xs:List Value} (h:w.ownsRow B E size v n xs):∃a cap,v=.slice a n cap:=by
 rcases h.2 with⟨rfl,rfl⟩|⟨g,cap,cur,rfl,_⟩
 ·exact⟨none,0,rfl⟩
 ·exact⟨_,_,rfl⟩
def Atf (B b r:Nat) (v:Value) (h:Avu.Sh) (held:List (BitVec 8)) (c:BitVec 8) (w:World) (e:Ending) (w':World):Prop :=
 ∃v',e=.returned (.bool (Avu.ends h (held++[c])))/\D6 w' B b r v' h (held++[c])/\Touch (Fu b r v) w w'/\(v'.ownBlock=v.ownBlock\/∃k,v'.ownBlock=some k/\w.heap.size<=k)
theorem Ajr {w w2 w3:World} {B b r:Nat} {v v':Value} {h:Avu.Sh} {held:List (BitVec 8)} {c:BitVec 8} (k:D6 w B b r v h held) (ca:Ek w2 b r h v') (t:Touch (Fu b r v) w w2)
  (ho:C6 w2 B 5 v' (held++[c])) (hb:v'.ownBlock=v.ownBlock\/∃k,v'.ownBlock=some k/\w.heap.size<=k) (o:Touch (fun k=>k=r) w2 w3) (hr:Dn w3 r h.s h.W (Hn h (held++[c]))) :
  Atf B b r v h held c w (.returned (.bool (Avu.ends h (held++[c])))) w3:=by
 have hvb:v'.ownBlock≠some b:=fun e=>by
  rcases hb with e2|⟨k',e2,e3⟩
  ·exact k.vb (e2.symm.trans e)
  ·rw[e] at e2;injection e2 with e2;have:=k.at_.lt;omega
 have hvr:v'.ownBlock≠some r:=fun e=>by
  rcases hb with e2|⟨k',e2,e3⟩
  ·exact k.vr (e2.symm.trans e)
  ·rw[e] at e2;injection e2 with e2;have:=k.roll.lt;omega
 exact⟨v',rfl,⟨ca.touch o (fun e=>k.ne e.symm),k.ne,hr,o.owns ho fun q hq e=>hvr (by rw[hq,e]),hvb,hvr,k.low⟩,t.trans (o.mono fun q e=>.inr (.inl e)),hb⟩
theorem Agt {w:World} {B b r:Nat} {v:Value} {h:Avu.Sh} {held:List (BitVec 8)} (g:h.Good) (k:D6 w B b r v h held) (hl:held.length<=1048576) (hB:B<=w.heap.size) (c:BitVec 8) :
  Calls prog 75 #[.pointer (some ⟨b,0,none⟩),U8 c] w (Atf B b r v h held c w):=by
 have c7:=k.at_.c7;have t0:Touch (Fu b r v) w (w.alloc (.cells #[U8 c] 5)):=(Touch.refl _ _).alloc _;have hrow:=(Touch.row (F:=fun _=>False) ((Touch.refl _ w).alloc (.cells #[U8 c] 5)) k.own fun _ _ f=>f);have hcell:(w.alloc (.cells #[U8 c] 5)).cell? ⟨w.heap.size,0,none⟩=some (U8 c):=De w _ _ 0;have zq:B<=(w.alloc (.cells #[U8 c] 5)).heap.size:=by simp;omega
 have TA:∀w1,(w.alloc (.cells #[U8 c] 5)).grownBy w1 v.ownBlock->Touch (fun q=>v.ownBlock=some q) w w1:=fun w1 hg=>((Touch.refl _ w).alloc _).trans (.of_grown hg fun _ hk=>hk);have KA:∀w1,Touch (fun q=>v.ownBlock=some q) w w1->Ek w1 b r h v:=fun w1 t=>k.at_.touch t k.vb;have hv:∃a cap,v=.slice a held.length cap:=by obtain⟨a,cap,e,_⟩:=k.own.reads;exact⟨a,cap,e⟩
 obtain⟨a,cap,hv⟩:=hv;rw[hv] at c7;have HV:=Lib.hid hv;clear hv;have g1:=g.w1;have g2:=g.wl;have g3:=g.lm;have g4:=g.m;have hwr:IntKind.i64.wrap ((h.L:Int) - (h.W:Int))=(h.L:Int) - h.W:=IntWalk.i64_in _ (by omega)
 go_enter func75,ntmps75
 go_wp2_with (at_builtin;refine Da Ak6 rfl _ _ rfl B v held.length (held.map U8) HV.out.symm hrow ⟨w.heap.size,0,none⟩ 1 (U8 c) rfl hcell rfl (by omega) (by omega) zq ?_;intro v' w1 h1 hg hb;have t1:=TA w1 hg;have ca:=KA w1 t1;have d7:=ca.c7;have f7:=ca.thawed 7;obtain⟨a',cap',rfl⟩:=Px h1)
 have hv2:(Value.slice a' (held.length+1) cap').ownBlock≠some b:=fun e=>by
  rcases hb with e2|e2
  ·exact k.vb (e2.symm.trans e)
  ·rw[e] at e2;injection e2 with e2;have:=k.at_.lt;simp at e2;omega
 have hb2:(Value.slice a' (held.length+1) cap').ownBlock=v.ownBlock\/∃q,(Value.slice a' (held.length+1) cap').ownBlock=some q/\w.heap.size<=q:=by
  rcases hb with e2|e2
  ·exact .inl e2
  ·exact .inr ⟨_,e2,by simp⟩
 have ts:Touch (fun q=>q=b) w1 (w1.setCell ⟨b,7,none⟩ (.slice a' (held.length+1) cap')):=Touch.set _ _ _ _ rfl;have ca2:=ca.hold (.slice a' (held.length+1) cap');have tt:Touch (fun q=>q=b\/v.ownBlock=some q) w (w1.setCell ⟨b,7,none⟩ (.slice a' (held.length+1) cap')):=(t1.mono fun q e=>.inr e).trans (ts.mono fun q e=>.inl e);have ic:C6 (w1.setCell ⟨b,7,none⟩ (.slice a' (held.length+1) cap')) B 5 (.slice a' (held.length+1) cap') (held++[c]) :=
  ts.owns (by unfold C6;rw[List.length_append,List.length_singleton,List.map_append];exact h1) fun q hq e=>hv2 (by rw[hq,e])
 have r2:Dn (w1.setCell ⟨b,7,none⟩ (.slice a' (held.length+1) cap')) r h.s h.W (Hn h held):=k.roll.touch tt fun e=>e.elim k.ne k.vr;have t2:Touch (Fu b r v) w (w1.setCell ⟨b,7,none⟩ (.slice a' (held.length+1) cap')):=tt.mono fun q e=>e.elim .inl fun e=>.inr (.inr e);have HB:=Lib.hid hb2;clear d7 f7 hv2 hb hb2 ts ca tt h1 hg t1 c7 t0 hrow hcell zq TA KA;generalize w1.setCell ⟨b,7,none⟩ (.slice a' (held.length+1) cap')=w2 at *;have x9:(held++[c]).length=held.length+1:=by simp
 have key:(held.length+1=h.M)\/(held.length+1≠h.M/\held.length+1 < h.L/\h.L - h.W < held.length+1)\/(held.length+1≠h.M/\held.length+1 < h.L/\held.length+1<=h.L - h.W)\/(held.length+1≠h.M/\h.L<=held.length+1):=by omega
 have c0:=ca2.c0;have c1:=ca2.c1;have c3:=ca2.c3;have c5:=ca2.c5;have FIN:=fun(w3:World) (o:Touch (fun k=>k=r) w2 w3) (hr:Dn w3 r h.s h.W (Hn h (held++[c])))=>Ajr k ca2 t2 ic HB.out o hr;have PA:=fun n=>Aq2 (w2.drewN n) r h.s h.W (Hn h held) c (r2.drewN n) g.w63;have hq:=fun(hle:h.L - h.W<=held.length)=>(Agm h g held c hle).symm;have KA:=fun(w3:World) (o:Touch (fun k=>k=r) w2 w3)=>ca2.touch o (fun e=>k.ne e.symm);rcases key with A|⟨A,A2,A3⟩|⟨A,A2,A3⟩|⟨A,A2⟩
 ·have hp:(h.L:Int) - (h.W:Int) < (held.length:Int)+1:=by omega
  have hm:((held.length:Int)+1==(h.M:Int))=true:=by rw[beq_iff_eq];omega
  go_quiet (fail)
  go_wp2_with fail
  refine(PA _).mono ?_;rintro e w3 ⟨rfl,r3,o3⟩;rw[hq (by omega)] at r3;have o:Touch (fun k=>k=r) w2 w3:=Touch.trans ((Touch.refl _ w2).drewN nq) (.of_only o3 rfl);have d1:=(KA w3 o).c1;generalize Avv.sum h.s (Lp h.W (Hn h held) c)=X at *;clear o3 c0 c1 c3 c5 PA KA hq;have FIN:=fun n=>FIN _ (o.drewN n) (r3.drewN n);rw[Aku (x9.trans A)] at FIN
  go_wp2_with fail
  go_quiet (fail)
  go_wp2
  go_ret
  exact FIN _
 ·have hp:(h.L:Int) - (h.W:Int) < (held.length:Int)+1:=by omega
  have hm:((held.length:Int)+1==(h.M:Int))=false:=by rw[beq_eq_false_iff_ne];omega
  have hL:decide ((h.L:Int)<=(held.length:Int)+1)=false:=by rw[decide_eq_false_iff_not];omega
  go_quiet (fail)
  go_wp2_with fail
  refine(PA _).mono ?_;rintro e w3 ⟨rfl,r3,o3⟩;rw[hq (by omega)] at r3;have o:Touch (fun k=>k=r) w2 w3:=Touch.trans ((Touch.refl _ w2).drewN nq) (.of_only o3 rfl);have d1:=(KA w3 o).c1;have d0:=(KA w3 o).c0;generalize Avv.sum h.s (Lp h.W (Hn h held) c)=X at *;clear o3 c0 c1 c3 c5 PA KA hq;have FIN:=fun n=>FIN _ (o.drewN n) (r3.drewN n);rw[X9 (fun e=>A (x9.symm.trans e)) (by omega)] at FIN
  go_wp2_with fail
  go_quiet (fail)
  go_wp2
  go_ret
  exact FIN _
 ·have hp:¬(h.L:Int) - (h.W:Int) < (held.length:Int)+1:=by omega
  have hm:((held.length:Int)+1==(h.M:Int))=false:=by rw[beq_eq_false_iff_ne];omega
  have hL:decide ((h.L:Int)<=(held.length:Int)+1)=false:=by rw[decide_eq_false_iff_not];omega
  have r3:Dn w2 r h.s h.W (Hn h (held++[c])):=by
   rw[Nv h _ (by omega)];rw[Nv h _ (by omega)] at r2;exact r2
  clear PA KA hq;have FIN:=fun n m=>FIN _ (((Touch.refl _ w2).drewN n).drewN m) ((r3.drewN n).drewN m);rw[X9 (fun e=>A (x9.symm.trans e)) (by omega)] at FIN
  go_quiet (fail)
  go_wp2_with fail
  go_quiet (fail)
  go_wp2
  go_ret
  exact FIN _ _
 ·have hp:(h.L:Int) - (h.W:Int) < (held.length:Int)+1:=by omega
  have hm:((held.length:Int)+1==(h.M:Int))=false:=by rw[beq_eq_false_iff_ne];omega
  have hL:decide ((h.L:Int)<=(held.length:Int)+1)=true:=by rw[decide_eq_true_eq];omega
  go_quiet (fail)
  go_wp2_with fail
  refine(PA _).mono ?_;rintro e w3 ⟨rfl,r3,o3⟩;rw[hq (by omega)] at r3;have o:Touch (fun k=>k=r) w2 w3:=Touch.trans ((Touch.refl _ w2).drewN nq) (.of_only o3 rfl);have d1:=(KA w3 o).c1;have d0:=(KA w3 o).c0;have d5:=(KA w3 o).c5;have d6:=(KA w3 o).c6;generalize Avv.sum h.s (Lp h.W (Hn h held) c)=X at *;clear o3 c0 c1 c3 c5 PA KA hq;have FIN:=fun n=>FIN _ (o.drewN n) (r3.drewN n);have VA:=fun n=>Ail (w3.drewN n) r h.s h.W _ (r3.drewN n);rw[Ao2 (fun e=>A (x9.symm.trans e)) (by omega),<- Agn h g _ (by omega)] at FIN;generalize Avv.sum h.s (Hn h (held++[c]))=Y at *
  go_wp2_with fail
  go_quiet (exact Afm (VA _))
  go_wp2
  go_ret
  exact FIN _
def WF (w:World) (b r:Nat) (v0 v:Value) (k:Nat):Prop:=Fu b r v k\/(k < w.heap.size/\¬Fu b r v0 k)
structure Hh (w:World) (B b r:Nat) (v0:Value) (h:Avu.Sh) (held l:List (BitVec 8)) (k:Nat) (v ov:Value) (vs:List Value) (wr:World):Prop where
 le:k<=l.length
 cut:D6 wr B b r v h (Avu.feed h held (l.take k)).2
 rows:Bl (WF w b r v0 v) wr B 37 ov vs (Avu.feed h held (l.take k)).1
 touch:Touch (Fu b r v0) w wr
 foot:∀q,Fu b r v q->Fu b r v0 q\/w.heap.size<=q
theorem Z6 (h:Avu.Sh) (held l:List (BitVec 8)) (k:Nat) (hk:k < l.length) :
  Avu.feed h held (l.take (k+1))=if Avu.ends h ((Avu.feed h held (l.take k)).2++[Ad l k]) then ((Avu.feed h held (l.take k)).1++[(Avu.feed h held (l.take k)).2++[Ad l k]],[]) else ((Avu.feed h held (l.take k)).1,(Avu.feed h held (l.take k)).2++[Ad l k]):=by
 rw[Y9 l k hk,Avu.feed_snoc]
theorem Nw {b r:Nat} {v v':Value} {n k:Nat} (hb:v'.ownBlock=v.ownBlock\/∃q,v'.ownBlock=some q/\n<=q) (hk:Fu b r v' k):Fu b r v k\/n<=k:=by
 rcases hk with e|e|e
 ·exact .inl (.inl e)
 ·exact .inl (.inr (.inl e))
 ·rcases hb with e2|⟨q,e2,e3⟩
  ·exact .inl (.inr (.inr (e2 ▸ e)))
  ·rw[e] at e2;injection e2 with e2;exact .inr (by omega)
theorem X5 {b r:Nat} {v:Value} {k:Nat} (hk:Fu b r (.slice none 0 0) k):Fu b r v k:=by
 rcases hk with e|e|e
 ·exact .inl e
 ·exact .inr (.inl e)
 ·simp[Value.ownBlock] at e
theorem Gv {b r:Nat} {k:Nat} (hk:Fu b r (.slice none 0 0) k):k=b\/k=r:=by
 rcases hk with e|e|e
 ·exact .inl e
 ·exact .inr e
 ·simp[Value.ownBlock] at e
section
variable {w wr w2 w3 w5:World} {B b r:Nat} {v0 v v' ov ov':Value} {h:Avu.Sh} {held l:List (BitVec 8)} {k:Nat} {vs:List Value}
theorem Hh.no (i:Hh w B b r v0 h held l k v ov vs wr) (hk:k < l.length) (he:Avu.ends h ((Avu.feed h held (l.take k)).2++[Ad l k])=false)
  (c:D6 w2 B b r v' h ((Avu.feed h held (l.take k)).2++[Ad l k])) (t:Touch (Fu b r v) wr w2) (hb:v'.ownBlock=v.ownBlock\/∃q,v'.ownBlock=some q/\wr.heap.size<=q) :
  Hh w B b r v0 h held l (k+1) v' ov vs w2:=by
 have hf:=Z6 h held l k hk;rw[he,if_neg (by simp)] at hf;have hs:=i.touch.size;refine⟨by omega,by rw[hf];exact c,?_,i.touch.trans' t i.foot,fun q hq=>?_⟩
 ·rw[hf];refine(i.rows.less (G:=fun q=>WF w b r v0 v' q\/Fu b r v q) ?_).touch (t.mono fun q e=>.inr e) |>.less fun q e=>.inl (.inl e);rintro q ((e|e) | e)
  ·rcases Nw hb e with e2|e2
   ·exact .inl (.inl e2)
   ·exact .inr e2
  ·exact .inl (.inr e)
  ·exact .inl (.inl e)
 ·rcases Nw hb hq with e|e
  ·exact i.foot q e
  ·exact .inr (by omega)
theorem Hh.yes (i:Hh w B b r v0 h held l k v ov vs wr) (hk:k < l.length) (he:Avu.ends h ((Avu.feed h held (l.take k)).2++[Ad l k])=true)
  (c:D6 w2 B b r v' h ((Avu.feed h held (l.take k)).2++[Ad l k])) (t:Touch (Fu b r v) wr w2) (hb:v'.ownBlock=v.ownBlock\/∃q,v'.ownBlock=some q/\wr.heap.size<=q)
  (c3:D6 w3 B b r (.slice none 0 0) h []) (ho:C6 w3 B 5 v' ((Avu.feed h held (l.take k)).2++[Ad l k])) (t3:Touch (Fu b r (.slice none 0 0)) w2 w3)
  (h1:w5.ownsRow B 37 1 ov' ((Avu.feed h held (l.take k)).1.length+1) (vs++[v'])) (hg:(w3.alloc (.cells #[v'] 37)).grownBy w5 ov.ownBlock) (bo:ov'.ownBlock=ov.ownBlock\/ov'.ownBlock=some (w3.alloc (.cells #[v'] 37)).heap.size) :
  Hh w B b r v0 h held l (k+1) (.slice none 0 0) ov' (vs++[v']) w5:=by
 have hf:=Z6 h held l k hk;rw[he,if_pos rfl] at hf;have hs:=i.touch.size;have rows2:Bl (fun q=>WF w b r v0 v' q\/Fu b r v q) w2 B 37 ov vs (Avu.feed h held (l.take k)).1:=by
  refine(i.rows.less ?_).touch (t.mono fun q e=>.inr e);rintro q ((e|e) | e)
  ·rcases Nw hb e with e2|e2
   ·exact .inl (.inl e2)
   ·exact .inr e2
  ·exact .inl (.inr e)
  ·exact .inl (.inl e)
 have rows3:Bl (fun q=>WF w b r v0 (.slice none 0 0) q\/v'.ownBlock=some q) w3 B 37 ov vs (Avu.feed h held (l.take k)).1:=by
  refine(rows2.touch (t3.mono fun q e=>.inl (.inl (X5 e)))).less ?_;rintro q ((e|e) | e)
  ·exact .inl (.inl (.inl (X5 e)))
  ·exact .inl (.inl (.inr e))
  ·exact .inl (.inl (.inl (.inr (.inr e))))
 have t4:Touch (fun _=>False) w3 (w3.alloc (.cells #[v'] 37)):=(Touch.refl _ _).alloc _;have rows4:Bl (WF w b r v0 (.slice none 0 0)) (w3.alloc (.cells #[v'] 37)) B 37 ov vs (Avu.feed h held (l.take k)).1 :=
  (rows3.less (fun q e=>.inl (.inl e))).touch (t4.mono fun _ f=>f.elim)
 have hov:∀q,ov.ownBlock=some q->¬(q=b\/q=r):=fun q hq e=>rows4.out q hq (.inl (e.elim .inl fun e=>.inr (.inl e)));have t5:Touch (fun q=>ov.ownBlock=some q) (w3.alloc (.cells #[v'] 37)) w5:=.of_grown hg fun q hq=>hq;have tl:Touch (Fu b r v0) w w3:=(i.touch.trans' t i.foot).trans' t3 fun q e=>.inl (by
  rcases Gv e with rfl|rfl
  ·exact .inl rfl
  ·exact .inr (.inl rfl))
 have hvo:∀q,v'.ownBlock=some q->¬WF w b r v0 (.slice none 0 0) q:=by
  rintro q hq (e|e)
  ·rcases Gv e with rfl|rfl
   ·exact c.vb hq
   ·exact c.vr hq
  ·rcases Nw hb (b:=b) (r:=r) (.inr (.inr hq)) with e2|e2
   ·rcases i.foot q e2 with e3|e3
    ·exact e.2 e3
    ·have:=e.1;omega
   ·have:=e.1;omega
 have hov0:∀q,ov.ownBlock=some q->Fu b r v0 q\/w.heap.size<=q:=fun q hq=>by
  by_cases hlt:q < w.heap.size
  ·by_cases pz:Fu b r v0 q
   ·exact .inl pz
   ·exact(rows4.out q hq (.inr ⟨hlt,pz⟩)).elim
  ·exact .inr (by omega)
 have ch:Kg (WF w b r v0 (.slice none 0 0)) (w3.alloc (.cells #[v'] 37)) v' ((Avu.feed h held (l.take k)).2++[Ad l k]):=by
  obtain⟨a,cap,e,rd⟩:=ho.reads;refine⟨a,cap,e,t4.reads rd fun _ _ f=>f,fun ad e2=>?_⟩;subst e2;have hq:∃g,v'.ownBlock=some g/\g=ad.block:=by
   rcases ho.2 with⟨e3,_⟩|⟨g,cap3,cur,e3,_⟩
   ·rw[e3] at e;injection e with e _ _;cases e
   ·rw[e3] at e;injection e with e _ _;injection e with e;exact⟨g,by rw[e3];rfl,by rw[<- e]⟩
  obtain⟨q,hq,rfl⟩:=hq;exact⟨hvo _ hq,Nat.lt_of_lt_of_le (Dm ho hq).2 (by simp)⟩
 refine⟨by omega,?_,?_,(tl.trans (t4.mono fun _ f=>f.elim)).trans' t5 hov0,?_⟩
 ·rw[hf];refine(c3.touch t4 fun _ _ f=>f).touch t5 fun q e=>?_;intro hq;exact hov q hq (Gv e)
 ·rw[hf];refine rows4.snoc ch ?_ h1 hg bo ?_
  ·rintro q (e|e)
   ·have:=(c3.foot_lt e).2;simp;omega
   ·have:=tl.size;simp;omega
  ·intro ad n cp e hv;obtain⟨q,hq⟩:∃q,v'.ownBlock=some q:=by
    rcases ho.2 with⟨e3,h0⟩|⟨g,cap3,cur,e3,_⟩
    ·simp at h0
    ·exact⟨g,by rw[e3];rfl⟩
   have e4:q=ad.block:=by
    rcases ho.2 with⟨e3,h0⟩|⟨g,cap3,cur,e3,_⟩
    ·simp at h0
    ·rw[e3] at e hq;injection e with e _ _;injection e with e;simp only[Value.ownBlock,Option.some.injEq] at hq;rw[<- hq,<- e]
   exact rows3.out ad.block hv (.inr (by rw[hq,e4]))
 ·intro q hq;rcases Gv hq with rfl|rfl
  ·exact .inl (.inl rfl)
  ·exact .inl (.inr (.inl rfl))
end
def Ag5 (B b r:Nat) (v0:Value) (h:Avu.Sh) (held l:List (BitVec 8)) (w:World) (e:Ending) (w':World):Prop :=
 ∃v ov vs,e=.returned ov/\D6 w' B b r v h (Avu.feed h held l).2/\Bl (WF w b r v0 v) w' B 37 ov vs (Avu.feed h held l).1/\Touch (Fu b r v0) w w'/\∀q,Fu b r v q->Fu b r v0 q\/w.heap.size<=q
def App (w:World) (B b r:Nat) (v0:Value) (h:Avu.Sh) (held l:List (BitVec 8)) (ov i:Value) (wr:World):Prop :=
 ∃k v vs,i=.int .i64 (k:Nat)/\Hh w B b r v0 h held l k v ov vs wr
theorem Yz {w:World} {B b r:Nat} {v0:Value} {h:Avu.Sh} {held:List (BitVec 8)} (g:h.Good) (c:D6 w B b r v0 h held) (hB:B<=w.heap.size) (hop:Avu.Open h held)
  (g0 off cap:Nat) (l:List (BitVec 8)) (hl:l.length<=1048576) (hby:Bf w g0 off l) (hoff:¬Fu b r v0 g0) :
  Calls prog 40 #[.pointer (some ⟨b,0,none⟩),.slice (some ⟨g0,off,none⟩) l.length cap] w (Ag5 B b r v0 h held l w):=by
 have OK:=S5 c.at_;have i0:Hh w B b r v0 h held l 0 v0 (.slice none 0 0) [] w:=⟨Nat.zero_le _,c,Lq _ _ _ _,Touch.refl _ _,fun q hq=>.inl hq⟩;have HL:=Lib.hid hl
 go_enter func40,ntmps40
 go_wp2_with fail
 refine OK.mono ?_;rintro e w' ⟨rfl,rfl⟩;go_wp2
 go_loopw [5,13] (fun ov i wr=>App w B b r v0 h held l ov i wr) (fun _ i _=>l.length - (intOf i).toNat)
 case atStart=>exact⟨0,v0,[],rfl,i0⟩
 case round =>
  clear i0 OK;obtain⟨k,v,vs,rfl,i⟩:=hrel;by_cases hlt:k < l.length
  ·have hc:=i.touch.bytes hby hoff k hlt;have hbnd:=Avu.open_lt g (Avu.feed_open h (l.take k) held hop);have hM:=g.m;have hBr:=Nat.le_trans hB i.touch.size;have PU:=Agt g i.cut (by omega) hBr (Ad l k);have ln:=Avu.feed_few h (l.take k) held;have hlk:(l.take k).length<=k:=List.length_take_le _ _;generalize hx:Ad l k=x at *;clear hbnd hM
   go_wp2_with fail
   refine PU.mono ?_;rintro e w2 ⟨v',rfl,c2,t2,hb2⟩;subst hx;cases he:Avu.ends h ((Avu.feed h held (l.take k)).2++[Ad l k])
   ·have i2:=i.no hlt he c2 t2 hb2;have HI:=Lib.hid i2;clear i2 i c c2 t2 hb2 he PU hc ln hlk;go_wp2
    go_roundw
    case rel=>exact⟨k+1,_,_,by go_num,HI.out⟩
    case measure=>simp[intOf];omega
   ·have TK:=Tu c2;have HE:=Lib.hid he;clear he PU hc
    go_wp2_with fail
    refine TK.mono ?_;rintro e w3 ⟨rfl,c3,mz,t3⟩;obtain⟨a',cp',rfl⟩:=Px mz;generalize hn':((Avu.feed h held (l.take k)).2++[Ad l k]).length=n' at *;have t4:Touch (fun _=>False) w3 (w3.alloc (.cells #[.slice a' n' cp'] 37)):=(Touch.refl _ _).alloc _;have hrow:=t4.row (t3.row (t2.row i.rows.row fun q hq e=>i.rows.out q hq (.inl e)) fun q hq e=>by
     rcases Gv e with rfl|rfl
     ·exact i.rows.out q hq (.inl (.inl rfl))
     ·exact i.rows.out _ hq (.inl (.inr (.inl rfl)))) fun _ _ f=>f
    have hcell:(w3.alloc (.cells #[.slice a' n' cp'] 37)).cell? ⟨w3.heap.size,0,none⟩=some (.slice a' n' cp'):=De w3 _ _ 0;have hsz:B<=(w3.alloc (.cells #[.slice a' n' cp'] 37)).heap.size:=by
     have h1:=t2.size;have h2:=t3.size;simp;omega
    have HI:=Lib.hid i;have HC:=Lib.hid c2;have HT:=Lib.hid t2;have HB:=Lib.hid hb2;have H3:=Lib.hid c3;have HO:=Lib.hid mz;have HT3:=Lib.hid t3;have HN:=Lib.hid hn';clear i c c2 t2 hb2 c3 mz t3 t4 hn' TK hby hoff
    go_wp2_with (at_builtin;refine Da Ac2 rfl _ _ rfl B u5 (Avu.feed h held (l.take k)).1.length vs rfl hrow ⟨w3.heap.size,0,none⟩ 1 (.slice a' n' cp') rfl hcell rfl (by omega) (by omega) hsz ?_;intro ov' w5 h1 hg bo)
    go_roundw
    case rel=>exact⟨k+1,_,_,by go_num,HI.out.yes hlt HE.out HC.out HT.out HB.out H3.out HO.out HT3.out h1 hg bo⟩
    case measure=>simp[intOf];omega
  ·have hk:=i.le;obtain rfl:k=l.length:=by omega
   have h1:=i.cut;have h2:=i.rows;rw[List.take_length] at h1 h2;have HI:=Lib.hid i;have H1:=Lib.hid h1;have H2:=Lib.hid h2;clear i h1 h2 hby c;go_wp2
   go_ret
   exact⟨v,_,vs,rfl,H1.out,H2.out,HI.out.touch,HI.out.foot⟩
theorem Y0 {w:World} {B b r:Nat} {v0:Value} {h:Avu.Sh} {held:List (BitVec 8)} (c:D6 w B b r v0 h held) (a:Option Addr) (cap:Nat) :
  Calls prog 40 #[.pointer (some ⟨b,0,none⟩),.slice a 0 cap] w (Ag5 B b r v0 h held [] w):=by
 have OK:=S5 c.at_;have HC:=Lib.hid c;clear c
 go_enter func40,ntmps40
 go_wp2_with fail
 refine OK.mono ?_;rintro e w' ⟨rfl,rfl⟩;go_wp2;refine wp_loop_once ?_;go_wp2
 go_ret
 exact⟨v0,_,[],rfl,HC.out,Lq _ _ _ _,Touch.refl _ _,fun q hq=>.inl hq⟩
theorem Abo {w:World} {B b r:Nat} {v0:Value} {h:Avu.Sh} {held:List (BitVec 8)} (g:h.Good) (c:D6 w B b r v0 h held) (hB:B<=w.heap.size) (hop:Avu.Open h held)
  (a:Option Addr) (cap:Nat) (l:List (BitVec 8)) (hl:l.length<=1048576) (hr:A0 w a cap l) (hoff:l≠[]->∀ad,a=some ad->¬Fu b r v0 ad.block) :
  Calls prog 40 #[.pointer (some ⟨b,0,none⟩),.slice a l.length cap] w (Ag5 B b r v0 h held l w):=by
 by_cases hne:l=[]
 ·subst hne;exact Y0 c a cap
 ·rcases hr.bytes with e|⟨g0,off,rfl,hb⟩
  ·exact(hne e).elim
  ·exact Yz g c hB hop g0 off cap l hl hb (hoff hne _ rfl)
def Ave (h:Avu.Sh) (w:World) (e:Ending) (w':World):Prop :=
 ∃b r,e=.returned (.tuple #[.pointer (some ⟨b,0,none⟩),.int .i64 0])/\D6 w' w.heap.size b r (.slice none 0 0) h []/\Below w.heap.size w w'
theorem Aeg (h:Avu.Sh) (g:h.Good) (w:World):Calls prog 39 #[shV h] w (Ave h w):=by
 have CH:=fun v=>Aaa h.L h.M h.K h.W h.s v (by have:=g.w1;omega) (by have:=g.w63;omega) (by have:=g.wl;omega) (by have:=g.lm;omega) (by have:=g.m;omega) (by omega) (by have:=g.k;omega);have NW:=fun v=>Ank v h.s h.W g.w1 g.w63;have bx:=Ak8 w #[.int .i64 h.L,.int .i64 h.M,.int .i64 h.K,.int .i64 h.W,Af h.s] 24;have hb0:=(Below.refl w.heap.size w).alloc (Nat.le_refl _) (.cells #[.int .i64 h.L,.int .i64 h.M,.int .i64 h.K,.int .i64 h.W,Af h.s] 24);unfold shV Ca at *
 go_enter func39,ntmps39
 go_wp2_with fail
 generalize w.alloc (.cells #[.int .i64 h.L,.int .i64 h.M,.int .i64 h.K,.int .i64 h.W,Af h.s] 24)=w1 at *;refine(CH _).mono ?_;rintro e w2 ⟨rfl,hb2⟩;have c3:=bx _ hb2 3;have c4:=bx _ hb2 4
 go_wp2_with fail
 refine(NW _).mono ?_;rintro e w3 ⟨r,hr,rfl,hR,hb3⟩;have hb4:=hb2.trans (hb3.mono hb2.size);clear c3 c4;have c0:=bx _ hb4 0;have c1:=bx _ hb4 1;have c2:=bx _ hb4 2;have c3:=bx _ hb4 3;have c4:=bx _ hb4 4;have sh:=fun(t:TypeId)=>Acf t 1 .i64 (h.K:Int) (by decide) (by decide) (by omega)
 go_wp2_with fail
 go_still_tail 7,(by kernel_rfl)
 change wpList _ _ _ _ _ w3.drew
 have bo:=hb4.drew;have hR5:Dn w3.drew r h.s h.W []:=hR.drewN 1;have iq:w.heap.size<=r:=Nat.le_trans (Nat.le_trans hb0.size hb2.size) hr;clear c0 c1 c2 c3 c4 hR hb3;generalize w3.drew=w4 at *;have hlt:=hR5.lt;have h0:=hb0.trans (bo.mono hb0.size);go_wp2
 go_ret2
 refine⟨w4.heap.size,r,rfl,⟨⟨?_,?_,?_,?_,?_,?_,?_,?_,fun o=>R3 _ _ _ o⟩,by omega,?_,Ij _ _ _,by simp[Value.ownBlock],by simp[Value.ownBlock],h0.size,iq⟩,h0.alloc h0.size _⟩
 all_goals first|exact De _ _ _ _|skip
 rw[Nv h [] (by simp)];exact hR5.touch (F:=fun _=>False) ((Touch.refl _ _).alloc _) fun f=>f
def Asu (h:Avu.Sh) (l:List (BitVec 8)) (w:World) (e:Ending) (w':World):Prop :=
 ∃v vs,e=.returned (.tuple #[v,.int .i64 0])/\Bl (fun k=>k < w.heap.size) w' w.heap.size 37 v vs (Avu.split h l)/\Below w.heap.size w w'
theorem Acu (h:Avu.Sh) (l:List (BitVec 8)):((Avu.feed h [] l).2=[]/\Avu.split h l=(Avu.feed h [] l).1)\/((Avu.feed h [] l).2≠[]/\Avu.split h l=(Avu.feed h [] l).1++[(Avu.feed h [] l).2]):=by
 by_cases e:(Avu.feed h [] l).2=[]
 ·exact .inl ⟨e,by unfold Avu.split;rw[if_pos e,List.append_nil]⟩
 ·exact .inr ⟨e,by unfold Avu.split;rw[if_neg e]⟩
theorem Zn {w:World} {B:Nat} {E:TypeId} {g:Addr} {n cap:Nat} {l:List (BitVec 8)} (h:C6 w B E (.slice (some g) n cap) l):(Value.slice (some g) n cap).ownBlock=some g.block:=by
 rcases h.2 with⟨e3,_⟩|⟨g',cap3,cur,e3,_⟩
 ·injection e3 with e _ _;cases e
 ·injection e3 with e _ _;injection e with e;rw[e];rfl
theorem C6.chunk {F:Nat->Prop} {w:World} {B:Nat} {E:TypeId} {v:Value} {l:List (BitVec 8)} (h:C6 w B E v l) (hF:∀k,v.ownBlock=some k->¬F k):Kg F w v l:=by
 obtain⟨a,cap,e,r⟩:=h.reads;subst e;refine⟨a,cap,rfl,r,fun ad e=>?_⟩;subst e;have:=Zn h;exact⟨hF _ this,(Dm h this).2⟩
theorem Y1 (h:Avu.Sh) (g:h.Good) (a:Option Addr) (cap:Nat) (l:List (BitVec 8)) (w:World) (hl:l.length<=1048576) (hr:A0 w a cap l) :
  Calls prog 24 #[shV h,.slice a l.length cap] w (Asu h l w):=by
 have ha:=Wc hr;have CH:=fun v=>Aeg h g v;have hb0:=(Below.refl w.heap.size w).alloc (Nat.le_refl _) (.cells #[.int .i64 h.L,.int .i64 h.M,.int .i64 h.K,.int .i64 h.W,Af h.s] 24);have ux:=hr.keeps (Bm.below hb0);have hs0:=hb0.size;unfold shV Ca at *
 go_enter func24,ntmps24
 go_wp2_with fail
 generalize w.alloc (.cells #[.int .i64 h.L,.int .i64 h.M,.int .i64 h.K,.int .i64 h.W,Af h.s] 24)=w1 at *;refine(CH _).mono ?_;rintro e w2 ⟨b,r,rfl,c,hb2⟩;have hb:=c.low.1;have zg:=c.low.2;have WR:=Abo g c hb2.size (Avu.open_nil h) a cap l hl (ux.keeps (Bm.below hb2)) fun hne ad e f=>by
  have:=ha hne ad e;rcases Gv f with e2|e2<;>omega
 go_wp2_with fail
 refine WR.mono ?_;rintro e w3 ⟨v,ov,vs,rfl,c3,o3,t3,f3⟩;have EN:=Agu c3
 go_wp2_with fail
 refine EN.mono ?_;rintro e w4 ⟨rfl,c4,kz,t4⟩;have zq:∀k,Fu b r (.slice none 0 0) k->w1.heap.size<=k:=fun k f=>by rcases Gv f with e|e<;>omega
 have bj:Below w.heap.size w w4:=by
  refine hb0.trans ((hb2.mono hs0).trans (((t3.below zq hb2.size).mono hs0).trans ((t4.below zq ?_).mono hs0)));exact Nat.le_trans hb2.size t3.size
 have rows4:Bl (fun k=>k < w.heap.size\/v.ownBlock=some k) w4 w.heap.size 37 ov vs (Avu.feed h [] l).1:=by
  have q:=(o3.touch (t4.mono (fun k f=>.inl (X5 f)))).less (G:=fun k=>k < w.heap.size\/v.ownBlock=some k) ?_
  ·exact⟨V9 q.row (fun k hk=>Nat.le_trans hs0 (Dm q.row hk).1),q.len,q.out,q.chunk,q.apart⟩
  ·have:=hb2.size;rintro k (e|e)
   ·exact .inl (.inr ⟨by omega,fun f=>by have:=zq k f;omega⟩)
   ·exact .inl (.inl (.inr (.inr e)))
 have ln:=Avu.feed_few h l [];rcases Acu h l with⟨e1,e2⟩|⟨e1,e2⟩
 ·obtain⟨va,vc,rfl⟩:=Px kz;rw[e1] at kz;have hres:=Lib.hid (show Bl (fun k=>k < w.heap.size) w4 w.heap.size 37 ov vs (Avu.split h l) by rw[e2];exact rows4.less fun k e=>.inl (.inl e));have hz:(((Avu.feed h [] l).2.length:Nat):Int)=0:=by rw[e1];rfl
  rw[e1];clear c c3 o3 t3 f3 c4 kz t4 rows4 hr ux CH WR EN e1 e2 ln hz;go_wp2
  go_ret2
  exact⟨_,vs,rfl,hres.out,bj⟩
 ·obtain⟨va,vc,rfl⟩:=Px kz;have hpos:(0:Int) < (((Avu.feed h [] l).2.length:Nat):Int):=by
   have:=List.length_pos_iff.2 e1;omega
  have hch:Kg (fun k=>k < w.heap.size) w4 (.slice va (Avu.feed h [] l).2.length vc) (Avu.feed h [] l).2:=kz.chunk fun k hk=>by
   have:=(Dm kz hk).1;omega
  have hvv:∀ad,va=some ad->ov.ownBlock≠some ad.block:=fun ad e hv=>by
   subst e;exact rows4.out _ hv (.inr (Zn kz))
  generalize hn:(Avu.feed h [] l).2.length=n at *;have t5:Touch (fun _=>False) w4 (w4.alloc (.cells #[.slice va n vc] 37)):=(Touch.refl _ _).alloc _;have rows5:=(rows4.less (G:=fun k=>k < w.heap.size) fun k e=>.inl (.inl e)).touch (t5.mono fun _ f=>f.elim);have hch5:=hch.touch (t5.mono fun _ f=>f.elim);have hrow:=rows5.row;have hcell:(w4.alloc (.cells #[.slice va n vc] 37)).cell? ⟨w4.heap.size,0,none⟩=some (.slice va n vc):=De w4 _ _ 0;have o9:=bj.alloc bj.size (.cells #[.slice va n vc] 37);have hsz:=o9.size;have H5:=Lib.hid rows5;have HC:=Lib.hid hch5;have HV:=Lib.hid hvv;have HL:=Lib.hid o9;have E2:=Lib.hid e2;clear c c3 o3 t3 f3 c4 kz t4 rows4 hr ux CH WR EN e1 e2 hn hch hvv t5 rows5 hch5 o9 bj hb2 hb0 ha
  go_wp2_with (at_builtin;refine Da Ac2 rfl _ _ rfl w.heap.size ov (Avu.feed h [] l).1.length vs rfl hrow ⟨w4.heap.size,0,none⟩ 1 (.slice va n vc) rfl hcell rfl (by omega) (by omega) hsz ?_;intro ov' w5 h1 hg bo)
  go_ret2
  refine⟨_,_,rfl,by rw[E2.out];exact H5.out.snoc HC.out (fun k hk=>by omega) h1 hg bo (fun ad m c e=>by injection e with e _ _;exact HV.out ad e),?_⟩;refine HL.out.trans ((Touch.of_grown (F:=fun k=>ov.ownBlock=some k) hg fun k hk=>hk).below (fun k hk=>(Dm hrow hk).1) hsz)
abbrev Pt:=List (BitVec 8) × Nat
def C0 (p:Pt):List Value:=F4 p.1++([.int .i64 (p.2:Int)]:List Value)
def Hm (c:List (BitVec 8)):Pt:=(Sha.sum c,c.length)
def Iz (h:Avu.Sh) (l:List (BitVec 8)):List Pt:=(Avu.split h l).map Hm
theorem Nn {p:Pt} (h:p.1.length=32):(C0 p).length=33:=by
 unfold C0 F4;rw[List.length_append,List.length_map,h];rfl
theorem Tl (h:Avu.Sh) (l:List (BitVec 8)):∀p∈Iz h l,p.1.length=32:=fun p hp=>by
 obtain⟨c,_,rfl⟩:=List.mem_map.1 hp;exact Cg c
theorem Aj5 (p:Pt):∀u∈C0 p,u.oneCell'=true:=fun u hu=>by
 unfold C0 at hu;rcases List.mem_append.1 hu with h|h
 ·exact Adc _ u h
 ·rw[List.mem_singleton] at h;subst h;rfl
def O9:Pt:=(Ng,0)
theorem Aj1:(prog.info? 60).map (fun i=>(i.zero,i.size,i.bytes))=some (some (.agg (C0 O9).toArray),33,40):=by kernel_rfl
theorem Afp:(Value.agg (C0 O9).toArray).cells.size=33:=by
 show (C0 O9).toArray.size=33;rw[List.size_toArray,Nn (by simp[O9,Ng])]
theorem Aem (n:Int) (c0 c1 c2 c3 c4 c5 c6 c7 c8 c9 c10 c11 c12 c13 c14 c15 c16 c17 c18 c19 c20 c21 c22 c23 c24 c25 c26 c27 c28 c29 c30 c31:Value):Program.built prog 60 [(0,.agg ([c0,c1,c2,c3,c4,c5,c6,c7,c8,c9,c10,c11,c12,c13,c14,c15,c16,c17,c18,c19,c20,c21,c22,c23,c24,c25,c26,c27,c28,c29,c30,c31]:List Value).toArray),(1,.int .i64 n)]=some (([c0,c1,c2,c3,c4,c5,c6,c7,c8,c9,c10,c11,c12,c13,c14,c15,c16,c17,c18,c19,c20,c21,c22,c23,c24,c25,c26,c27,c28,c29,c30,c31]:List Value)++([.int .i64 n]:List Value)).toArray:=by kernel_rfl
theorem Ag0 (C:List Value) (hC:C.length=32) (n:Int):Program.built prog 60 [(0,.agg C.toArray),(1,.int .i64 n)]=some (C++([.int .i64 n]:List Value)).toArray:=by
 match C,hC with
 | c0::c1::c2::c3::c4::c5::c6::c7::c8::c9::c10::c11::c12::c13::c14::c15::c16::c17::c18::c19::c20::c21::c22::c23::c24::c25::c26::c27::c28::c29::c30::c31::[],_=>exact Aem n c0 c1 c2 c3 c4 c5 c6 c7 c8 c9 c10 c11 c12 c13 c14 c15 c16 c17 c18 c19 c20 c21 c22 c23 c24 c25 c26 c27 c28 c29 c30 c31
theorem Aax (p q:Pt) (hp:p.1.length=32) (hq:q.1.length=32) (w:World) :
  (binOp .neq 60 (.agg (C0 p).toArray) (.agg (C0 q).toArray)).run prog w=.ok (.bool (p != q)) w:=by
 have u3:=underlying3;have a3:=Tryz.isAgg3;have z3:=Tryz.sizeOf3;have u4:=underlying40;have a4:=Tryz.isAgg40;have z4:=Tryz.sizeOf40;have hS:prog.underlying 60=some (.struct (prog.fieldsOf 60)):=by kernel_rfl
 have hP:prog.stoodInHeld 60=false:=by kernel_rfl
 have hid:=run_equalIn_bytes (P:=prog) w 9997 40 5 32 underlying40 underlying5 (fun w=>by kernel_rfl) (p.1.map ub) (q.1.map ub) (by simpa using hp) (by simpa using hq);rw[Ha,Ha,Ou] at hid;have e1:∀p:Pt,p.1.length=32->(C0 p).take 32=p.1.map U8:=fun p hp=>by
  unfold C0 F4;simp[hp]
 have e2:∀p:Pt,p.1.length=32->(C0 p).toArray[32]?=some (.int .i64 (p.2:Int)):=fun p hp=>by
  unfold C0 F4;rw[List.getElem?_toArray,List.getElem?_append_right (by simp[hp])];simp[hp]
 have hnb:(p != q)=!(p.1==q.1&&p.2==q.2):=by
  obtain⟨p1,p2⟩:=p;obtain⟨q1,q2⟩:=q;rfl
 rw[run_neq_struct,show (10000:Nat)=9999+1 from rfl,run_equalIn_agg w 9999 60 _ _ hS hP];simp only[Program.fieldsOf,underlying60];go_simp;have e3:((p.2:Int)=(q.2:Int))=(p.2=q.2):=propext (by omega);simp only[e3];by_cases h1:p.1=q.1<;>by_cases h2:p.2=q.2<;>simp[h1,h2]
theorem Bl.texts {F:Nat->Prop} {w:World} {B:Nat} {E:TypeId} {v:Value} {vs:List Value} {ls:Dg} (h:Bl F w B E v vs ls):∃a cap,v=.slice a ls.length cap/\La w a cap ls:=by
 obtain⟨a,cap,e,h1,h2,h3⟩:=h.form;refine⟨a,cap,e,h2,h3,?_⟩;by_cases hn:ls=[]
 ·exact .inl hn
 ·right;obtain⟨g,cap',x,c,e2,_⟩:=h.at_ (i:=0) (List.length_pos_iff.2 hn);rw[e] at e2;injection e2 with e3 _ e4;refine⟨g,0,e3,fun i hi=>?_⟩;obtain⟨g',cap'',x,c,e5,h5,h6,_⟩:=h.at_ hi;rw[e,e3] at e5;injection e5 with e6 _ _;injection e6 with e6;injection e6 with e6 _ _;subst e6;rw[Nat.zero_add];exact⟨x,c,h5,h6⟩
theorem Acs (h:Avu.Sh) (l:List (BitVec 8)):∀c∈Avu.split h l,c.length<=l.length:=fun c hc=>by
 have:=(List.sublist_flatten_of_mem hc).length_le
 rwa [Avu.split_join] at this
theorem Ai2 (h:Avu.Sh) (l:List (BitVec 8)):(Avu.split h l).length<=l.length+1:=by
 have:=Avu.feed_few h l [];unfold Avu.split;rw[List.length_append];split<;>simp<;>omega
def Asv (w:World) (n:Nat) (x:Value) (wr:World):Prop:=∃i:Nat,i<=n/\x=.int .i64 i/\Below w.heap.size w wr
theorem Ys (w:World) (a a2:Option Addr) (cap cap2:Nat) (L:List Pt) (hk:∀k∈L,k.1.length=32) (hr1:Gn C0 33 w a cap L) (hr2:Gn C0 33 w a2 cap2 L) :
  Calls prog 10 #[.slice a L.length cap,.slice a2 L.length cap2] w fun e w'=>e=.returned (.bool true)/\Below w.heap.size w w':=by
 have hfit1:=hr1.fits;have xp:=hr1.room;have hfit2:=hr2.fits;have xo:=hr2.room;have HR1:=Lib.hid hr1;have HR2:=Lib.hid hr2;have HK:=Lib.hid hk;clear hr1 hr2 hk
 go_enter func10,ntmps10
 go_wp2_with fail
 go_loopw [5] (fun y wr=>Asv w L.length y wr) (fun y _=>L.length - (intOf y).toNat)
 case atStart=>exact⟨0,Nat.zero_le _,rfl,Below.refl _ _⟩
 case round =>
  obtain⟨i,hi,rfl,hbr⟩:=hrel;by_cases hlt:i < L.length
  ·have hne:L≠[]:=fun e=>by rw[e] at hlt;simp at hlt
   obtain⟨b1,o1,rfl,ip⟩:=(HR1.out.below hbr).rows.resolve_left hne;obtain⟨b2,o2,rfl,hrow2⟩:=(HR2.out.below hbr).rows.resolve_left hne;have hkey:=HK.out L[i] (List.getElem_mem hlt);have js:wr.rangeAt b1 (o1+i * 33) (C0 L[i]):=ip i hlt;have hm2:wr.rangeAt b2 (o2+i * 33) (C0 L[i]):=hrow2 i hlt;have vq:(prog.info? 60).map (·.size)=some (C0 L[i]).length:=by rw[Nn hkey];kernel_rfl
   have HNE:=fun w=>Aax L[i] L[i] hkey hkey w;rw[bne_self_eq_false] at HNE;have HBR:=Lib.hid hbr;clear ip hrow2 hkey hbr hne;generalize C0 L[i]=M at *
   go_wp2_with fail
   refine wp_region_quiet_lit (by kernel_rfl) (by kernel_rfl) ?_
   repeat (first
    |(go_big_quiet_want;refine Hq (fun w' e=>(show w'.rangeAt b1 (o1+i * 33) M from by obtain⟨_,rfl⟩:=e;exact js)) underlying60 rfl vq rfl rfl ?_;simp only[Act.put,List.setIfInBounds_toArray,List.set_cons_succ,List.set_cons_zero];go_big_quiet_on)
    |(go_big_quiet_want;refine Hq (fun w' e=>(show w'.rangeAt b2 (o2+i * 33) M from by obtain⟨_,rfl⟩:=e;exact hm2)) underlying60 rfl vq rfl rfl ?_;simp only[Act.put,List.setIfInBounds_toArray,List.set_cons_succ,List.set_cons_zero];go_big_quiet_on)
    | go_big_quiet_step (fail)
    | quiet_step (fail))
   refine wpQuiet_nil ?_;rintro _ ⟨nq,rfl⟩;have HB5:=Lib.hid (below_drewN HBR.out nq);clear HNE js hm2;go_wp2
   go_roundw
   case rel=>exact⟨i+1,by omega,by go_num,HB5.out⟩
   case measure=>simp[intOf];omega
  ·obtain rfl:i=L.length:=by omega
   go_wp2
   go_ret
   exact⟨rfl,hbr⟩
open Go.Conc
section
variable {I I' I2:Ab} {w w' w2 w1:World} {a:Option Addr} {cap:Nat} {ls:Dg} {Tp:Tape} {d:Nat} {ρ:Bn}
def D7 (I:Ab) (w:World):Nat->Prop:=fun b=>I.S 0 b/\∃cs t fr,w.heap[b]?=some (.cells cs t fr)
noncomputable abbrev LW (I:Ab) (w:World) (Tp:Tape) (d:Nat):World:=re (Eb (Cw (D7 I w)) (D7 I w) w) Tp d
def Hx (I:Ab) (w:World) (a:Option Addr):Prop:=∀ad,a=some ad->ad.spot=none/\D7 I w ad.block
theorem K3:Hx I w none:=fun ad e=>by cases e
theorem Hx.vr {n c:Nat} (h:Hx I w a):VR (Cw (D7 I w)) (.slice a n c) (.slice a n c):=by
 cases a with
 | none=>exact .snil _ _
 | some ad=>exact .slice _ _ ⟨⟨rfl,(h ad rfl).2⟩,rfl,rfl⟩
theorem Rj {ad:Addr} {v:Value} (h:w.cell? ad=some v) (hv:VR (Cw (D7 I w)) v v):(LW I w Tp d).cell? ad=some v:=Nq (ρ:=Cw (D7 I w)) (F:=D7 I w) h hv
theorem Afx {ad:Addr} {k:IntKind} {n:Int} (h:w.cell? ad=some (.int k n)):(LW I w Tp d).cell? ad=some (.int k n):=Rj h (.int k n)
theorem Adz {l:List (BitVec 8)} (h:A0 w a cap l):A0 (LW I w Tp d) a cap l:=⟨h.fits,h.room,h.null,h.bytes.imp id fun⟨b,off,e,h⟩=>⟨b,off,e,fun i hi=>Afx (h i hi)⟩⟩
structure Er (I:Ab) (w:World) (a:Option Addr) (cap:Nat) (ls:Dg):Prop where
 txts:La w a cap ls
 held:Hx I w a
 rows:∀b off i x n c,a=some ⟨b,off,none⟩->i < ls.length->w.cell? ⟨b,off+i,none⟩=some (.slice x n c)->Hx I w x/\∀ad,x=some ad->0 < n
theorem Er.lone (h:Er I w a cap ls):La (LW I w Tp d) a cap ls:=by
 refine⟨h.txts.fits,h.txts.room,?_⟩;rcases h.txts.rows with e|⟨b,off,e,hb⟩
 ·exact .inl e
 ·refine .inr ⟨b,off,e,fun i hi=>?_⟩;obtain⟨x,c,h1,h2⟩:=hb i hi;exact⟨x,c,Rj h1 (h.rows b off i x _ c e hi h1).1.vr,Adz h2⟩
structure Tx {α:Type} (enc:α->List Value) (K:Nat) (I:Ab) (w:World) (a:Option Addr) (cap:Nat) (l:List α):Prop where
 rows:Gn enc K w a cap l
 held:Hx I w a
section
variable {α:Type} {enc:α->List Value} {K:Nat} {l:List α}
theorem Tx.lone (h:Tx enc K I w a cap l) (hi:∀x∈l,∀v∈enc x,∃k n,v=.int k n):Gn enc K (LW I w Tp d) a cap l:=by
 refine⟨h.rows.fits,h.rows.room,?_⟩;rcases h.rows.rows with e|⟨b,off,e,hb⟩
 ·exact .inl e
 ·refine .inr ⟨b,off,e,fun i hlt j v hv=>?_⟩;obtain⟨k,n,rfl⟩:=hi l[i] (List.getElem_mem hlt) v (List.mem_of_getElem? hv);exact Afx (hb i hlt j _ hv)
end
structure B4 (I:Ab) (w:World) (I':Ab) (w':World):Prop where
 hs:I.hs<=I'.hs
 bk:∀b,b < I.hs->I'.bk b=I.bk b
 heap:∀b,b < I.hs->I.bk b=.priv 0->w'.heap[b]?=w.heap[b]?
theorem B4.refl (I:Ab) (w:World):B4 I w I w:=⟨Nat.le_refl _,fun _ _=>rfl,fun _ _ _=>rfl⟩
theorem B4.trans (h:B4 I w I' w') (h':B4 I' w' I2 w2):B4 I w I2 w2 :=
 ⟨Nat.le_trans h.hs h'.hs,fun b hb=>(h'.bk b (Nat.lt_of_lt_of_le hb h.hs)).trans (h.bk b hb),fun b hb hp=>(h'.heap b (Nat.lt_of_lt_of_le hb h.hs) ((h.bk b hb).trans hp)).trans (h.heap b hb hp)⟩
theorem B4.of (l:C1 I I') (h:∀b,b < I.hs->w'.heap[b]?=w.heap[b]?):B4 I w I' w':=⟨l.hs,l.bk,fun b hb _=>h b hb⟩
theorem B4.own (h:B4 I w I' w') {b:Nat} (k:D7 I w b):D7 I' w' b:=by
 obtain⟨⟨h1,h2⟩,cs,t,fr,h3⟩:=k;exact⟨⟨Nat.lt_of_lt_of_le h1 h.hs,(h.bk b h1).trans h2⟩,cs,t,fr,(h.heap b h1 h2).trans h3⟩
theorem B4.cell (h:B4 I w I' w') {ad:Addr} (k:D7 I w ad.block):w'.cell? ad=w.cell? ad:=by
 obtain⟨⟨h1,h2⟩,_⟩:=k;unfold World.cell?;rw[h.heap _ h1 h2]
theorem Hx.stays (h:Hx I w a) (k:B4 I w I' w'):Hx I' w' a:=fun ad e=>⟨(h ad e).1,k.own (h ad e).2⟩
theorem Hx.reads {l:List (BitVec 8)} (h:Hx I w a) (k:B4 I w I' w') (hr:A0 w a cap l):A0 w' a cap l :=
 ⟨hr.fits,hr.room,hr.null,hr.bytes.imp id fun⟨b,off,e,hb⟩=>⟨b,off,e,fun i hi=>(k.cell (ad:=⟨b,off+i,none⟩) (h _ e).2).trans (hb i hi)⟩⟩
theorem Er.stays (h:Er I w a cap ls) (k:B4 I w I' w'):Er I' w' a cap ls:=by
 refine⟨⟨h.txts.fits,h.txts.room,?_⟩,h.held.stays k,fun b off i x n c e hi hc=>?_⟩
 ·rcases h.txts.rows with e|⟨b,off,e,hb⟩
  ·exact .inl e
  ·refine .inr ⟨b,off,e,fun i hi=>?_⟩;obtain⟨x,c,h1,h2⟩:=hb i hi;have hx:=h.rows b off i x _ c e hi h1;exact⟨x,c,(k.cell (ad:=⟨b,off+i,none⟩) (h.held _ e).2).trans h1,hx.1.reads k h2⟩
 ·rw[k.cell (ad:=⟨b,off+i,none⟩) (h.held _ e).2] at hc;obtain⟨q1,q2⟩:=h.rows b off i x n c e hi hc;exact⟨q1.stays k,q2⟩
theorem Tx.stays {α:Type} {enc:α->List Value} {K:Nat} {l:List α} (h:Tx enc K I w a cap l) (k:B4 I w I' w'):Tx enc K I' w' a cap l:=by
 refine⟨⟨h.rows.fits,h.rows.room,?_⟩,h.held.stays k⟩;rcases h.rows.rows with e|⟨b,off,e,hb⟩
 ·exact .inl e
 ·refine .inr ⟨b,off,e,fun i hi j v hv=>?_⟩;have:=hb i hi j v hv;rw[<- this];exact k.cell (ad:=⟨b,off+i * K+j,none⟩) (h.held _ e).2
theorem Tm (sm:Hi (D7 I w) I.hs ρ w1 w') (st:B4 I w I' w') (hs':I'.hs=w'.heap.size) (hnew:∀b,I.hs<=b->b < I'.hs->I'.bk b=.priv 0) {b:Nat} (hb:ρ b b) {cs:Array Value} {t:TypeId} {fr:Nat × Nat} (hc:w1.heap[b]?=some (.cells cs t fr)):D7 I' w' b:=by
 rcases sm.where_ b b hb with h|h
 ·exact st.own h
 ·obtain⟨cs',fr',e,_⟩:=sm.obj b cs t fr hb hc;have hlt:b < I'.hs:=by rw[hs'];exact(Array.getElem?_eq_some_iff.1 e).1
  exact⟨⟨hlt,hnew b h hlt⟩,cs',t,fr',e⟩
theorem Oa {ad:Addr} {v:Value} (h:w.cell? ad=some v):∃cs t fr,w.heap[ad.block]?=some (.cells cs t fr):=by
 unfold World.cell? at h;cases hb:w.heap[ad.block]? with
 | none=>rw[hb] at h;cases h
 | some o =>
  cases o with
  | cells cs t fr=>exact⟨cs,t,fr,rfl⟩
  | _=>rw[hb] at h;cases h
theorem Yp {B:Nat} {E:TypeId} {v v':Value} {vs:List Value} (sm:Hi (D7 I w) I.hs ρ w1 w') (st:B4 I w I' w') (hs':I'.hs=w'.heap.size) (hnew:∀b,I.hs<=b->b < I'.hs->I'.bk b=.priv 0)
  (ho:Bl (fun _=>False) w1 B E v vs ls) (hf:Ag9 vs) (hv:VR ρ v v'):∃a c,v'=.slice a ls.length c/\Er I' w' a c ls:=by
 obtain⟨a,c,rfl,hnil,h1,h2⟩:=ho.form;rcases ho.row.2 with⟨e2,hl0⟩|⟨g,cap,cur,e2,_,hg,_⟩
 ·injection e2 with e2 e3 e4;subst e2 e4;have hl:ls=[]:=List.eq_nil_of_length_eq_zero hl0;subst hl;obtain⟨rfl,_⟩:=sm.slice (fun ad e=>by cases e) hv;exact⟨none,0,rfl,⟨h1,h2,.inl rfl⟩,K3,fun b off i x n c e=>by cases e⟩
 ·injection e2 with e2 e3 e4;subst e2 e4;obtain⟨rfl,hρ⟩:=sm.slice (fun ad e=>by cases e;rfl) hv;have hρg:=hρ _ rfl;have each:∀i,i < ls.length->∃x c,w1.cell? ⟨g,i,none⟩=some (.slice x (Sd ls i).length c)/\A0 w1 x c (Sd ls i)/\∀ad,x=some ad->0 < (Sd ls i).length:=fun i hi=>by
   obtain⟨g',cap',x,c,e5,h5,h6,_⟩:=ho.at_ hi;injection e5 with e5;injection e5 with e5;injection e5 with e5;subst e5;refine⟨x,c,h5,h6,fun ad e=>?_⟩;subst e;have hvs:vs.getD i undef=.slice (some ad) (Sd ls i).length c:=by
    have:=ho.row.cells (g:=g) rfl i (vs.getD i undef) (by rw[List.getElem?_eq_getElem (by rw[ho.len];exact hi),List.getD_eq_getElem?_getD,List.getElem?_eq_getElem (by rw[ho.len];exact hi)];rfl);rw[Addr.add_lit,Nat.zero_add] at this;rw[this] at h5;injection h5
   exact hf i ad _ c (by rw[ho.len];exact hi) hvs
  have hsp:∀i x c,i < ls.length->A0 w1 x c (Sd ls i)->(∀ad,x=some ad->0 < (Sd ls i).length)->∀ad,x=some ad->ad.spot=none:=fun i x c hi hr hp ad e=>by
   obtain⟨b,off,e2,_⟩:=hr.bytes.resolve_left fun q=>by have:=hp ad e;rw[q] at this;simp at this
   rw[e] at e2;injection e2 with e2;rw[e2]
  refine⟨_,_,rfl,⟨h1,h2,.inr ⟨g,0,rfl,fun i hi=>?_⟩⟩,fun ad e=>?_,fun b off i x n c e hi hc=>?_⟩
  ·obtain⟨x,c,h5,h6,h7⟩:=each i hi;obtain⟨q1,q2⟩:=sm.slice_cell (hsp i x c hi h6 h7) hρg h5;refine⟨x,c,by rw[Nat.zero_add];exact q1,h6.fits,h6.room,h6.null,h6.bytes.imp id fun⟨b,off,e,hb⟩=>⟨b,off,e,fun j hj=>sm.int (q2 _ e) (hb j hj)⟩⟩
  ·injection e with e;subst e;exact⟨rfl,Tm sm st hs' hnew hρg hg⟩
  ·injection e with e;injection e with e e' _;subst e e';rw[Nat.zero_add] at hc;obtain⟨x',c',h5,h6,h7⟩:=each i hi;obtain⟨q1,q2⟩:=sm.slice_cell (hsp i x' c' hi h6 h7) hρg h5;rw[q1] at hc;injection hc with hc;injection hc with e1 e2 e3;subst e1 e2 e3;refine⟨fun ad e=>⟨hsp i _ _ hi h6 h7 ad e,?_⟩,h7⟩;obtain⟨b,off,e2,hb⟩:=h6.bytes.resolve_left fun q=>by have:=h7 ad e;rw[q] at this;simp at this
   have hρb:=q2 _ e;have h8:=hb 0 (h7 ad e);obtain⟨cs,t,fr,h9⟩:=Oa h8;rw[e] at e2;injection e2 with e2;subst e2;exact Tm sm st hs' hnew hρb h9
end
def Ahi:List Nat:=[5,13,12,7,16,28,17,18,19,27,47,48,49,50,83,84,85,20,8,10,11,26,45,46,82,103]
def As8:Nat->Bool:=fun _=>false
theorem We:∀f,Ahi.contains f=true->Cj prog As8 Ahi f=true:=by
 have h:Ahi.all (fun f=>Cj prog As8 Ahi f)=true:=by kernel_rfl
 intro f hf;exact List.all_eq_true.1 h f (by simpa using hf)
open Go.ConcR (KK wgBlock WgAt stA smA rd wr mk DC0)
open Go.ConcN (sumTo upd upd_same upd_ne RelBy PermW WgLive)
section
variable {ty:TypeId} {top:Nat} {I I' I1 I2:Ab} {p:Ph} {c:Ir} {w w' w1 w2:World} {i j n:Nat} {P:Program} {Post:Value->World->Prop} {es:Array Event} {g g':Goroutine} {b:Frame} {a:Act} {k:List Item} {cs:List Frame}
structure Lon (i:Nat) (I:Ab) (w:World):Prop where
 lone:Tc i I
 tag:I.tag i=.solo\/I.tag i=.pre
 deaf:I.deaf i=0
 hs:I.hs=w.heap.size
theorem Lon.ng (s:Lon i I w):I.tag i≠.gone:=by rcases s.tag with e|e<;>(rw[e];simp)
theorem Lon.ns (s:Lon i I w):¬(I.tag i).tied:=by rcases s.tag with e|e<;>(rw[e];exact fun h=>h)
theorem B3.lon (s:B3 I w):Lon 0 I w:=⟨⟨s.ph,.inl ⟨rfl,s.col⟩⟩,.inl s.tag,s.deaf,s.hs⟩
structure Cp (X:Nat->Prop) (i:Nat) (I:Ab) (w:World) (I':Ab) (w':World):Prop where
 hs:I.hs<=I'.hs
 cnt:I'.cnt=I.cnt
 bk:∀b,b < I.hs->(∀j,j≠i->I.bk b≠.priv j)->I'.bk b=I.bk b
 heap:∀b,b < I.hs->¬X b->(I.bk b=.priv i\/I.bk b=.shd i\/(∃m,m<=i/\I.bk b=.fix m)\/(i=0/\I.bk b=.lock))->w'.heap[b]?=w.heap[b]?
 tape:w'.tape=w.tape
 col:I'.col=I.col
 tag:I'.tag i=I.tag i
theorem Cp.refl (X:Nat->Prop) (i:Nat) (I:Ab) (w:World):Cp X i I w I w:=⟨Nat.le_refl _,rfl,fun _ _ _=>rfl,fun _ _ _ _=>rfl,rfl,rfl,rfl⟩
theorem Mp {X:Nat->Prop} (l:Cp X i I w I' w') {b:Nat} (hb:b < I.hs) (h:I.bk b=.priv i\/I.bk b=.shd i\/(∃m,m<=i/\I.bk b=.fix m)\/(i=0/\I.bk b=.lock)):I'.bk b=I.bk b:=l.bk b hb fun j hj e=>by
 rcases h with q|q|⟨m,_,q⟩|⟨_,q⟩<;>(rw[q] at e;cases e);exact hj rfl
theorem Cp.trans {X Y Z:Nat->Prop} (h:Cp X i I w I1 w1) (h':Cp Y i I1 w1 I2 w2) (hX:∀b,X b->Z b) (hY:∀b,b < I.hs->Y b->Z b):Cp Z i I w I2 w2:=by
 refine⟨Nat.le_trans h.hs h'.hs,h'.cnt.trans h.cnt,fun b hb hj=>?_,fun b hb hx q=>?_,h'.tape.trans h.tape,h'.col.trans h.col,h'.tag.trans h.tag⟩
 ·have e1:=h.bk b hb hj;exact(h'.bk b (Nat.lt_of_lt_of_le hb h.hs) fun j hj'=>by rw[e1];exact hj j hj').trans e1
 ·exact(h'.heap b (Nat.lt_of_lt_of_le hb h.hs) (fun r=>hx (hY b hb r)) (by rw[Mp h hb q];exact q)).trans (h.heap b hb (fun r=>hx (hX b r)) q)
theorem Lon.rel (s:Lon i I w) (hI:Ae ty top I2 w2) (h:G5 i I w I2 w2):Lon i I2 w2/\Cp (fun _=>False) i I w I2 w2:=by
 have l:=h.live s.ng;obtain⟨lp,lc⟩:=s.lone;have hnc:I.nc i:=by
  rcases lc with⟨_,q⟩|⟨q,_⟩
  ·exact .inr q
  ·exact .inl q
 have hp2:=l.pn lp hnc;have e:I2.cnt=I.cnt/\∀b,b < I.hs->(I.bk b=.shd i\/(i=0/\I.bk b=.lock))->w2.heap[b]?=w.heap[b]?:=by
  rcases lc with⟨q1,q2⟩|⟨q1,c,q2,q3,_⟩
  ·obtain⟨r1,_,r3⟩:=l.still q1 q2 lp;exact⟨r3,fun b _ _=>by rw[r1]⟩
  ·obtain⟨r1,r2⟩:=l.pre q1 c q2 q3 lp;exact⟨r2,fun b hb q=>q.elim (r1 b hb) fun q=>absurd q.1 q1⟩
 refine⟨⟨⟨hp2,?_⟩,by rw[h.tag];exact s.tag,h.deaf.trans s.deaf,hI.hs⟩,l.hs,e.1,l.bk,fun b hb _ q=>?_,l.tape,l.col,h.tag⟩
 ·rcases lc with⟨q1,q2⟩|⟨q1,c,q2,q3,q4⟩
  ·exact .inl ⟨q1,l.col.trans q2⟩
  ·exact .inr ⟨q1,c,l.col.trans q2,q3,h.tag.trans q4⟩
 ·rcases q with q|q|q|q
  ·exact l.keep b hb (.inl q)
  ·exact e.2 b hb (.inl q)
  ·exact l.keep b hb (.inr q)
  ·exact e.2 b hb (.inr q)
structure D5 (i:Nat) (I:Ab) (w:World) (b:Nat) (k:BK) (o:Obj):Prop where
 lt:b < I.hs
 bk:I.bk b=k
 heap:w.heap[b]?=some o
theorem D5.next {X:Nat->Prop} {b:Nat} {k:BK} {o:Obj} (h:D5 i I w b k o) (hk:k=.priv i\/k=.shd i) (l:Cp X i I w I' w') (hx:¬X b):D5 i I' w' b k o:=by
 have q:I.bk b=.priv i\/I.bk b=.shd i\/(∃m,m<=i/\I.bk b=.fix m)\/(i=0/\I.bk b=.lock):=by
  rw[h.bk];rcases hk with e|e
  ·exact .inl e
  ·exact .inr (.inl e)
 exact⟨Nat.lt_of_lt_of_le h.lt l.hs,(Mp l h.lt q).trans h.bk,(l.heap b h.lt hx q).trans h.heap⟩
theorem Gf (sh:Bool) (s:Lon i I w) (hr:g.status=.running) (h:∀w2,(stepG P (i==0) g w2).goes fun g' w' es=>∃o,w'.heap=w2.heap.push o/\w'.tape=w2.tape/\w'.os=w2.os/\w'.output=w2.output/\(∀e∈es,False) /\
  ∀I' w1,Lon i I' w1->Cp (fun _=>False) i I w I' w1->I.hs<=w2.heap.size->D5 i I' w1 w2.heap.size (if sh then .shd i else .priv i) o->LV P ty top Post i I' w1 g'):LV P ty top Post i I w g:=by
 refine An hr s.ng fun I2 w2 hrl hI hi=>?_;obtain⟨s2,l2⟩:=s.rel hI hrl;obtain⟨g',w',es,hst,o,e1,e2,e3,e4,e5,hK⟩:=Dd (h w2);obtain rfl:=Ie e5;have hsz:w'.heap.size=w2.heap.size+1:=by rw[e1];simp
 have hold:∀b,b < w2.heap.size->w'.heap[b]?=w2.heap[b]?:=fun b hb=>by rw[e1,Array.getElem?_push,if_neg (Nat.ne_of_lt hb)]
 have hnew:w'.heap[w2.heap.size]?=some o:=by rw[e1,Array.getElem?_push,if_pos rfl]
 have hle:I.hs<=w2.heap.size:=by rw[<- s2.hs];exact l2.hs
 cases sh with
 | true =>
  have bk':∀b,b < I2.hs->(I2.share i).bk b=I2.bk b:=fun b hb=>upd_ne _ _ (by omega);have av:Cp (fun _=>False) i I2 w2 (I2.share i) w':=⟨Nat.le_succ _,rfl,fun b hb _=>bk' b hb,fun b hb _ _=>hold b (by rw[<- s2.hs];exact hb),e2,rfl,rfl⟩;refine .go g' w' #[] _ hst (Ao6 hI s2.lone hsz e2 hold (.of e3 e4) _) (hK _ _ ⟨s2.lone,s2.tag,s2.deaf,?_⟩ (l2.trans av (fun _ q=>q) fun _ _ q=>q) hle ⟨?_,?_,hnew⟩)
  ·show I2.hs+1=_;rw[hsz,s2.hs]
  ·show _ < I2.hs+1;rw[s2.hs];exact Nat.lt_succ_self _
  ·rw[<- s2.hs];exact upd_same _ _ _
 | false =>
  have ho:Own (I2.S i) (I2.F i) w2 w' #[]:=Dc e1 e2 e3 e4 (by simp);have av:Cp (fun _=>False) i I2 w2 (I2.grown i w') w':=⟨by show I2.hs<=w'.heap.size;rw[hsz,s2.hs];exact Nat.le_succ _,rfl,fun b hb _=>Ce hb,fun b hb _ _=>hold b (by rw[<- s2.hs];exact hb),e2,rfl,rfl⟩;exact .go g' w' #[] _ hst (Ya hI hi (by exact s2.ns) ho _) (hK _ _ ⟨s2.lone,s2.tag,s2.deaf,rfl⟩ (l2.trans av (fun _ q=>q) fun _ _ q=>q) hle ⟨by show _ < w'.heap.size;rw[hsz];exact Nat.lt_succ_self _,K4 (Nat.le_of_eq s2.hs),hnew⟩)
theorem Sr {B:Nat} {v old:Value} {t:TypeId} (s:Lon i I w) (hr:g.status=.running) (f:D5 i I w B (.priv i) (.cells #[old] t (0,0))) (h:∀w2,w2.heap[B]?=some (.cells #[old] t (0,0))->(stepG P (i==0) g w2).goes fun g' w' es=>w'=w2.setCell ⟨B,0,none⟩ v/\(∀e∈es,e=⟨.cell ⟨B,0,none⟩,true,false⟩) /\
  ∀I' w1,Lon i I' w1->Cp (fun b=>b=B) i I w I' w1->D5 i I' w1 B (.priv i) (.cells #[v] t (0,0))->LV P ty top Post i I' w1 g'):LV P ty top Post i I w g:=by
 refine An hr s.ng fun I2 w2 hrl hI hi=>?_;obtain⟨s2,l2⟩:=s.rel hI hrl;have f2:=f.next (.inl rfl) l2 id
 obtain⟨g',w',es,hst,e1,e2,hK⟩:=Dd (h w2 f2.heap);subst e1;have ho:Own (I2.S i) (I2.F i) w2 (w2.setCell ⟨B,0,none⟩ v) es:=Vk w2 _ _ ⟨f2.lt,f2.bk⟩ e2;have hsz:(w2.setCell ⟨B,0,none⟩ v).heap.size=w2.heap.size:=C5 _ _ _;have av:Cp (fun b=>b=B) i I2 w2 (I2.grown i (w2.setCell ⟨B,0,none⟩ v)) (w2.setCell ⟨B,0,none⟩ v):=⟨by show I2.hs<=(w2.setCell ⟨B,0,none⟩ v).heap.size;rw[hsz,s2.hs];exact Nat.le_refl _,rfl,fun b hb _=>Ce hb,fun b hb hx _=>Bh _ _ _ hx,rfl,rfl,rfl⟩;refine .go g' _ es _ hst (Ya hI hi (by exact s2.ns) ho _) (hK _ _ ⟨s2.lone,s2.tag,s2.deaf,rfl⟩ (l2.trans av (fun _ q=>q.elim) fun _ _ q=>q) ⟨by show B < (w2.setCell ⟨B,0,none⟩ v).heap.size;rw[hsz,<- s2.hs];exact f2.lt,(Ce f2.lt).trans f2.bk,?_⟩);rw[Bg,if_pos rfl,f2.heap];simp
theorem Akd (s:Lon i I w) (hr:g.status=.running) (hs:∀w,stepG P (i==0) g w=.go g' w #[]) (B:∀I2 w2,Lon i I2 w2->Cp (fun _=>False) i I w I2 w2->Ae ty top I2 w2->∃p Fx,p.f=i/\Ap4 ty top I2 w2 p Fx /\
  (Ae ty top (I2.enter p Fx) w2->LV P ty top Post i (I2.enter p Fx) w2 g')):LV P ty top Post i I w g:=by
 refine An hr s.ng fun I2 w2 hrl hI hi=>?_;obtain⟨s2,l2⟩:=s.rel hI hrl;obtain⟨p,Fx,rfl,hB,hK⟩:=B I2 w2 s2 l2 hI;have aj:=Ao7 (P:=P) (Post:=Post) hI hB (mayWake P g=true);exact .go g' w2 #[] (I2.enter p Fx) (hs w2) aj (hK aj.inv)
end
open Go.Conc.Lib Go.ConcR.Gen
section
variable {ty:TypeId} {top:Nat} {I I' I2:Ab} {p:Ph} {w w' w2:World} {i j k n:Nat} {Post:Value->World->Prop} {es:Array Event} {g g':Goroutine}
def Auu (p:Ph) (i:Nat) (I0:Ab) (w0:World) (m:Nat) (tm:Array Value) (I:Ab) (w:World):Prop :=
 ∃x:Nat,∃v6 v10 v11 v12 v13 v14 v15 v16 v17 v18 v19 v20 v21 v22 v23:Value,m=p.n - x/\x<=p.n/\tm=#[.int .i64 p.n,.chan (some p.jobs),.chan (some p.stop),undef,undef,undef,v6,.chan (some p.jobs),.int .i64 p.n,.int .i64 x,v10,v11,v12,v13,v14,v15,v16,v17,v18,v19,v20,v21,v22,v23]/\I.ph=some p/\I.tag i=.feed/\I.deaf i=0/\I.next=x/\N2 i I0 w0 I w
theorem Agd {c:Frame} {cs:List Frame} (hp:I.ph=some p) (hf:p.f=i) (ht:I.tag i=.feed) (hd:I.deaf i=0) (h0:I.next=0) (hb:p.n<=1000000)
  (hK:∀I' w',N2 i I w I' w'->I'.ph=some p->I'.tag i=.shut->I'.deaf i=0->Ae ty top I' w'->LV prog ty top Post i I' w' (G (c.finish (.tuple #[])) cs)) :
  LV prog ty top Post i I w (G ((base 37).at ⟨#[.int .i64 p.n,.chan (some p.jobs),.chan (some p.stop)]++Array.replicate 21 undef,[]⟩ [.code (Tryz.f37.body.getD .skip)]) (c::cs)):=by
 have hg:I.tag i≠.gone:=by rw[ht];simp
 have gi:i≠0\/p.f=0:=by rw[<- hf];exact(Dq hp).2
 simp only[Tryz.f37,Option.getD_some];walk_nrm;refine Am (Au ?_);simp only[ix,Nat.reduceAdd];refine Ai fun v W H=>?_;go_simp;refine H _ ?_;clear H W v;(try walk_nrm);refine Bz (fun _=>Iw rfl rfl (by k_ne) rfl) ?_;(try walk_nrm);refine len (Am (Au ?_));simp only[ix,Nat.reduceAdd];(iterate 2 (refine Ai fun v W H=>?_;go_simp;refine H _ ?_;clear H W v;try walk_nrm));refine len ?_;refine Bz (fun _=>stepG_block) ?_;refine Bz (fun _=>stepG_loop) ?_;refine Lw (Auu p i I w) (m:=p.n) ⟨0,_,_,_,_,_,_,_,_,_,_,_,_,_,_,_,by omega,by omega,rfl,hp,ht,hd,h0,.refl _ _ _⟩ fun m ih tm I1 w1 h=>?_;clear ht hg hp hd h0;obtain⟨x,v6,v10,v11,v12,v13,v14,v15,v16,v17,v18,v19,v20,v21,v22,v23,rfl,hx,rfl,hp,ht,hd,hnx,ji⟩:=h;have hg:I1.tag i≠.gone:=by rw[ht];simp
 refine Am (Au ?_);simp only[ix,Nat.reduceAdd];refine Ai fun v W H=>?_;go_simp;refine H _ ?_;clear H W v;(try walk_nrm);refine len ?_;by_cases ft:x < p.n
 ·simp only[ft,decide_true];refine Am (Hd ?_);refine Gz (Am ?_);refine Bz (fun _=>stepG_block) ?_;refine Am (Au ?_);simp only[ix,Nat.reduceAdd];(iterate 2 (refine Ai fun v W H=>?_;go_simp;refine H _ ?_;clear H W v;try walk_nrm));refine len (Am ?_);refine Am (Au ?_);simp only[ix,Nat.reduceAdd];refine Ai fun v W H=>?_;go_simp;refine H _ ?_;clear H W v;(try walk_nrm);refine len (Am (Au ?_));simp only[ix,Nat.reduceAdd];refine Im (cases:=#[rcase p.stop (.agg #[])]) (blocking:=false) (shape:=.select) rfl rfl (by k_ne) hg (fun _=>by kernel_rfl) (fun _=>by kernel_rfl) (fun I2 w2 hrl hI=>.peek p _ ((hrl.live hg).ph _ ⟨hp,gi⟩) hf.symm (hrl.tag.trans ht) rfl rfl) fun I2 w2 hrl hI kk v ok I3 w3 hR bq=>?_;have l:=hrl.live hg;have hp2:=l.ph _ ⟨hp,gi⟩;have ht2:=hrl.tag.trans ht;have hd2:=hrl.deaf.trans hd;have gj:I2.next=x:=(l.feed _ ⟨hp,gi⟩ hf).1.trans hnx
  have gm:=ji.trans l.kept;obtain⟨rfl,rfl,rfl,hpk⟩:=Ada hR hI ht2;rcases hpk with⟨rfl,rfl⟩|⟨rfl,hst⟩;rotate_left
  ·have hg:I3.tag i≠.gone:=by rw[ht2];simp
   obtain⟨u,hu⟩:∃u,commResult #[rcase p.stop (.agg #[])] .select 0 v false=.tuple #[.int .i64 0,.bool false,u]:=⟨v,by first|rfl|kernel_rfl⟩;rw[hu];clear hR hrl l ih hp ht hd;walk_nrm;(iterate 2 (refine Ai fun v W H=>?_;go_simp;refine H _ ?_;clear H W v;try walk_nrm));refine len ?_;refine Bz (fun _=>stepG_block) ?_;refine Hd ?_;refine Bz (fun _=>stepG_ret') ?_;refine My rfl hp2 hf ht2 (.inr hst) fun I' w' hr1 hp1 ht1 hd1 ia=>?_;refine Ak rfl (by rw[ht1];simp) (fun w2=>stepG_leave rfl rfl func37 (results_none rfl _ _ _) (by kernel_rfl)) ?_;exact hK I' w' (gm.trans hr1.kept) hp1 ht1 (hd1.trans hd2) ia
  clear hR hrl l hp ht hd hnx ji hg hI;have hg:I3.tag i≠.gone:=by rw[ht2];simp
  rw[show commResult #[rcase p.stop (.agg #[])] .select (-1) undef false=.tuple #[.int .i64 (-1),.bool false,.agg #[]] from by kernel_rfl];walk_nrm;(iterate 2 (refine Ai fun v W H=>?_;go_simp;refine H _ ?_;clear H W v;try walk_nrm));refine len ?_;refine Bz (fun _=>stepG_block) ?_;refine Gl (Gz ?_);refine Bz (fun _=>stepG_inBlock) ?_;refine Am (Am ?_);refine Am (Au ?_);simp only[ix,Nat.reduceAdd];refine Ai fun v W H=>?_;go_simp;refine H _ ?_;clear H W v;(try walk_nrm);refine len (Au ?_);simp only[ix,Nat.reduceAdd];refine Ai fun v W H=>?_;go_simp;refine H _ ?_;clear H W v;(try walk_nrm);refine len (Au ?_);simp only[ix,Nat.reduceAdd];refine Ai fun v W H=>?_;go_simp;refine H _ ?_;clear H W v;(try walk_nrm);refine len (Am (Au ?_));simp only[ix,Nat.reduceAdd];refine Im (cases:=#[scase p.jobs (.int .i64 x) (.int .i64 0),rcase p.stop (.agg #[])]) (blocking:=true) (shape:=.select) rfl rfl (by k_ne) hg (fun _=>by kernel_rfl) (fun _=>by kernel_rfl) (fun I4 w4 hrl hI=>?_) fun I4 w4 hrl hI kk v ok I5 w5 hR qo=>?_
  ·have l:=hrl.live hg;have e:I4.next=x:=(l.feed _ ⟨hp2,gi⟩ hf).1.trans gj
   exact .feed p _ _ (l.ph _ ⟨hp2,gi⟩) hf.symm (hrl.tag.trans ht2) rfl (by rw[e];exact ft) (by rw[e])
  have l:=hrl.live hg;have jq:=l.ph _ ⟨hp2,gi⟩;have di:=hrl.tag.trans ht2;have lu:=hrl.deaf.trans hd2;have hnx4:I4.next=x:=(l.feed _ ⟨hp2,gi⟩ hf).1.trans gj
  have pc:=gm.trans l.kept;obtain⟨rfl,zk⟩:=Aed hR hI jq di;rcases zk with⟨rfl,rfl,h,s,hbh,vo,rfl,rfl⟩|⟨rfl,hst,rfl,rfl⟩;rotate_left
  ·have hg:I5.tag i≠.gone:=by rw[di];simp
   obtain⟨u,hu⟩:∃u,commResult #[scase p.jobs (.int .i64 x) (.int .i64 0),rcase p.stop (.agg #[])] .select 1 v false=.tuple #[.int .i64 1,.bool false,u]:=⟨v,by first|rfl|kernel_rfl⟩;rw[hu];clear hR hrl l ih hp2 ht2 hd2 gm;walk_nrm;(iterate 3 (refine Ai fun v W H=>?_;go_simp;refine H _ ?_;clear H W v;try walk_nrm));refine len ?_;refine Bz (fun _=>stepG_block) ?_;refine Gl (Hd ?_);refine Bz (fun _=>stepG_ret') ?_;refine My rfl jq hf di (.inr hst) fun I' w' hr1 hp1 ht1 hd1 ia=>?_;refine Ak rfl (by rw[ht1];simp) (fun w2=>stepG_leave rfl rfl func37 (results_none rfl _ _ _) (by kernel_rfl)) ?_;exact hK I' w' (pc.trans hr1.kept) hp1 ht1 (hd1.trans lu) ia
  replace pc:=pc.trans (Akm hI jq h s);have hne:i≠h:=fun e=>by subst e;rw[di] at vo;cases vo
  have ij:(I4.pass p h).tag i=.feed:=(upd_ne _ _ hne).trans di;have qc:(I4.pass p h).deaf i=0:=lu;have hnx5:(I4.pass p h).next=x+1:=by show I4.next+1=_;rw[hnx4]
  have ol:(I4.pass p h).ph=some p:=jq;generalize I4.pass p h=I6,w4.setChan p.jobs 0 #[] false s s false=w6 at pc ij qc hnx5 ol qo ⊢;clear hR hrl l hp2 ht2 hd2 gj gm hg hI jq di lu hnx4;have hg:I6.tag i≠.gone:=by rw[ij];simp
  rw[show commResult #[scase p.jobs (.int .i64 x) (.int .i64 0),rcase p.stop (.agg #[])] .select 0 undef false=.tuple #[.int .i64 0,.bool false,.agg #[]] from by kernel_rfl];walk_nrm;(iterate 3 (refine Ai fun v W H=>?_;go_simp;refine H _ ?_;clear H W v;try walk_nrm));refine len ?_;refine Bz (fun _=>stepG_block) ?_;refine Hd (Gz ?_);refine Bz (fun _=>stepG_inBlock) ?_;refine Bz (fun _=>stepG_inBlock) ?_;refine Au ?_;simp only[ix,Nat.reduceAdd];(iterate 2 (refine Ai fun v W H=>?_;go_simp;refine H _ ?_;clear H W v;try walk_nrm));refine len ?_;refine Bz (fun _=>stepG_inLoop) ?_;rw[show IntKind.i64.wrap ((x:Int)+1)=((x+1:Nat):Int) from by rw[IntKind.wrap_i64];omega];refine ih (p.n - (x+1)) (by omega) _ _ _ ⟨x+1,_,_,_,_,_,_,_,_,_,_,_,_,_,_,_,rfl,by omega,rfl,ol,ij,qc,hnx5,pc⟩
 ·simp only[ft,decide_false];refine Am (Gl ?_);refine Bz (fun _=>stepG_exit rfl) ?_;refine Bz (fun _=>stepG_end) ?_;refine My rfl hp hf ht (.inl (by omega)) fun I' w' hr1 hp1 ht1 hd1 ia=>?_;refine Ak rfl (by rw[ht1];simp) (fun w2=>stepG_leave rfl rfl func37 (results_none rfl _ _ _) (by kernel_rfl)) ?_;exact hK I' w' (ji.trans hr1.kept) hp1 ht1 (hd1.trans hd) ia
end
end Go.Proofs.YtbicafgmfgdckaaGreatDoor
