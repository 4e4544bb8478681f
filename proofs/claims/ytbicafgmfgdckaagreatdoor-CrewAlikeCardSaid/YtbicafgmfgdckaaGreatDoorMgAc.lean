/- A piece. -/
import Derived.Test.YtbicafgmfgdckaaGreatDoorMgAb
import Derived.Laws.CopyOwn
set_option maxRecDepth 100000
set_option maxHeartbeats 16000000
set_option linter.all false
namespace Go.Proofs.YtbicafgmfgdckaaGreatDoor
open Go.Proofs.Tryz
open Go Go.RowKit
theorem Z9 {a:Option Addr} {cap n:Nat} {ad:Addr} (e:Cf a cap n=some ad):∃ad0,a=some ad0/\ad.block=ad0.block:=by
 unfold Cf at e;split at e
 ·exact⟨ad,e,rfl⟩
 ·cases a with
  | none=>cases e
  | some ad0 =>
   rw[Option.map_some] at e;injection e with e;exact⟨ad0,rfl,by rw[<- e];unfold Addr.add;split<;>rfl⟩
def Abu (b:Nat) (v:Value) (w:World):Prop:=w.cell? ⟨b,9,none⟩=some v
theorem Aea {w:World} {B b:Nat} {v:Value} {l:List (BitVec 8)} (h:Nf w B b v l) (hB:B<=w.heap.size) (hl:Sha.left l≠[])
  (a:Option Addr) (cap:Nat) (m:List (BitVec 8)) (hr:A0 w a cap m) (hlm:l.length+m.length<=1048576) (hoff:m≠[]->∀ad,a=some ad->ad.block≠b/\v.ownBlock≠some ad.block) (h0:0 < B) (hk:C2 w) (hs:64<=(Sha.left l).length+m.length) :
  Calls prog 43 #[.pointer (some ⟨b,0,none⟩),.slice a m.length cap] w (Ah7 B b v l m w):=by
 have bj:=h.low;have OK:=Vp h.at_;have cN:=h.at_.n_;have fN:=h.at_.thawed 10;have h1:=h.at_.setN ((l.length:Int)+m.length);have c9:=h1.rest;have f9:=h1.thawed 9;have t1:Touch (fun q=>q=b) w (w.setCell ⟨b,10,none⟩ (.int .i64 ((l.length:Int)+m.length))):=Touch.set w b 10 _ rfl;have hvb:=h.vb;have hr1:=hr.touch' t1 fun hm ad e=>(hoff hm ad e).1;have i6:=t1.owns h.own fun q hq e=>hvb (by rw[hq,e]);have fy:=Sha.held_append l m;have hleft:=Sha.left_append l m;have hrl:(Sha.left l).length < 64:=by rw[Sha.left_length];omega
 generalize Sha.left l=r at *;generalize Sha.held l=s0 at *;have hvf:∃c a',v=.slice a' r.length c:=by obtain⟨a',cap',e,_⟩:=i6.reads;exact⟨cap',a',e⟩
 obtain⟨cap',a',rfl⟩:=hvf;have HH:=Lib.hid h;have HHL:=Lib.hid fy;have HLL:=Lib.hid hleft;have HK:=Lib.hid hk;clear h fy hleft hk;have ux:0 < r.length:=List.length_pos_iff.2 hl;have hr0':(0:Int) < r.length:=by omega
 obtain⟨x1,hx1⟩:∃x,m.take (64 - r.length)=x:=⟨_,rfl⟩;have zx:x1.length=64 - r.length:=by rw[<- hx1,List.length_take];omega
 have hrx:=hr.take (64 - r.length);rw[hx1] at hrx;have hn:64 - (r.length:Int)=x1.length:=by omega
 have hle:x1.length<=m.length:=by omega
 have hmin:min (x1.length:Int) m.length=x1.length:=by omega
 have r7:=hr.drop x1.length hle;have zm:(m.drop x1.length).length=m.length - x1.length:=List.length_drop;have HX1:=Lib.hid hx1;have HX1L:=Lib.hid zx;clear hx1 zx
 go_enter func43,ntmps43
 go_wp2_with fail
 refine OK.mono ?_;rintro e w' ⟨rfl,rfl⟩;clear OK
 go_wp2_with fail
 have hs1:=fun w=>Gb (P:=prog) Ay w a m.length cap .i64 x1.length x1.length rfl (Nat.le_trans hle hr.fits);have hs2:=fun w=>Ey (P:=prog) Ay w a m.length cap .i64 x1.length x1.length rfl hle;clear cN fN;generalize w.setCell ⟨b,10,none⟩ (.int .i64 ((l.length:Int)+m.length))=w1 at *;refine B7 [([0,1,2,3,5,6,7],some 4),([],some 8),([9,10],some 11),([],none)] (fun _=>True) (by kernel_rfl) (by kernel_rfl) (fun _ _ d _ _ h=>by cases d<;>exact h) trivial ?_;refine Bb (show wpQuiet _ _ _ _ (_::_::_::_::_::_::_::[]) _ from ?_)
 repeat (go_big_quiet_step (fail))
 refine wpQuiet_nil (show wpList _ _ _ (_::[]) _ _ from ?_);have hid:Touch (fun q=>q=b) w1 w1.drew:=(Touch.refl _ _).drewN 1;have d1:Lc w1.drew b true s0.list (.slice a' r.length cap') ((l.length:Int)+m.length):=h1.drewN 1;have e9:w1.drew.cell? ⟨b,9,none⟩=some (.slice a' r.length cap'):=c9;have ro:A0 w1.drew a cap x1:=by have:=hr1.take (64 - r.length);rw[HX1.out] at this;exact this.keeps (Bm.drewN w1 1)
 have oo:C6 w1.drew B 5 (.slice a' r.length cap') r:=i6;have hz:B<=w1.drew.heap.size:=Nat.le_trans hB t1.size;clear h1 c9 hr1 i6 f9;generalize w1.drew=w6 at *
 go_wp2_with fail
 refine Ap (fun _ h=>h) trivial ?_;refine Bb (show wpQuiet _ _ _ _ [] _ from ?_);refine wpQuiet_nil (show wpList _ _ _ (_::[]) _ _ from ?_);have hlen:r.length+x1.length<=140737488355328:=by omega
 go_wp2_with (at_builtin;refine As Ay rfl _ _ rfl B (.slice a' r.length cap') r rfl oo a cap x1 rfl ro hlen hz ?_;intro v' w7 i5 vw gz)
 refine Ap (fun _ h=>h) trivial ?_;refine Bb (show wpQuiet _ _ _ _ (_::_::[]) _ from ?_)
 repeat (go_big_quiet_step (fail))
 refine wpQuiet_nil (show wpList _ _ _ (_::[]) _ _ from ?_);have t7:Touch (fun q=>(Value.slice a' r.length cap').ownBlock=some q) w6 w7:=.of_grown vw fun k hk=>hk;have d7:=d1.touch t7 hvb;have f9:=d7.thawed 9;have c9:=d7.rest;have mg:(r++x1).length=64:=by rw[List.length_append,HX1L.out];omega
 obtain⟨y,hy⟩:∃x,r++x1=x:=⟨_,rfl⟩;rw[hy] at i5 mg;obtain⟨g7,c7,hv7,hrow,hg7B,hg7l⟩:=i5.row (by omega);rw[mg] at hv7 hrow;subst hv7;have d8:=d7.setRest (.slice (some ⟨g7,0,none⟩) 64 c7);have e9:=d8.rest;have t8:Touch (fun q=>q=b) w7 (w7.setCell ⟨b,9,none⟩ (.slice (some ⟨g7,0,none⟩) 64 c7)):=Touch.set w7 b 9 _ rfl;have HY:=Lib.hid hy;have HR:=Lib.hid hrow;clear hy i5 d7 vw hr0'
 go_wp2_with fail
 refine Ap (fun _ h=>h) trivial ?_;refine Dy (show wpQuiet _ _ _ _ [] _ from ?_);refine wpQuiet_nil ?_;refine Ez ?_;generalize w7.setCell ⟨b,9,none⟩ (.slice (some ⟨g7,0,none⟩) 64 c7)=w8 at *
 go_wp2_with fail
 have ut:Dz w8 B 5 g7 c7 64 y:=by
  have hne7:g7≠b:=by
   intro e;rcases gz with e2|e2
   ·exact hvb (by rw[<- e2,e];rfl)
   ·injection e2 with e2;have e3:g7=w6.heap.size:=e2;have:=d1.lt;omega
  have:=t8.owns HR.out.owns fun q hq e2=>by injection hq with hq;exact hne7 (hq.trans e2)
  exact⟨by have h3:=mg;unfold C6 at this;rw[h3] at this;exact this,mg⟩
 have hkb:C2 w8:=by
  have hvB:¬((Value.slice a' r.length cap').ownBlock=some 0):=fun e=>by have:=Dm oo e;omega
  exact(((HK.out.touch t1 (show ¬(0=b) by omega)).touch hid (show ¬(0=b) by omega)).touch t7 hvB).touch t8 (show ¬(0=b) by omega)
 have TK:=fun w' (hx:Bf w' g7 0 y) (hy:C2 w')=>Pn s0 g7 0 c7 y w' mg (by have:=HR.out.reads.fits;omega) HR.out.reads.room hx hy;have hby8:Bf w8 g7 0 y:=by
  intro q hq;have:=ut.cell q (by omega);rw[Nat.zero_add];exact this
 have C9:∀x:Of (Abu b (.slice (some ⟨g7,0,none⟩) 64 c7)),x.to.cell? ⟨b,9,none⟩=some (.slice (some ⟨g7,0,none⟩) 64 c7):=fun x=>x.ok
 haveI:Nonempty (Of (Abu b (.slice (some ⟨g7,0,none⟩) 64 c7))):=As4 (w:=w8) e9
 refine B7 [([0,1,2,3,5,6,7,8],some 4),([],some 9),([10,11],some 12),([],none)] (fun w'=>∃x:Of (Abu b (.slice (some ⟨g7,0,none⟩) 64 c7)),w'=x.to) (by kernel_rfl) (by kernel_rfl) (fun _ _ d _ _ h=>by cases d<;>exact h) (Wi (w:=w8.drew) (S:=Abu b (.slice (some ⟨g7,0,none⟩) 64 c7)) e9) ?_;refine Bb (show wpQuiet _ _ _ _ (_::_::_::_::_::_::_::_::[]) _ from ?_)
 repeat (go_big_quiet_step (fail))
 refine wpQuiet_nil (show wpList _ _ _ (_::[]) _ _ from ?_);have hid9:Touch (fun q=>q=b) w8 w8.drew:=(Touch.refl _ _).drewN 1;have d9:Lc w8.drew b true s0.list (.slice (some ⟨g7,0,none⟩) 64 c7) ((l.length:Int)+m.length):=d8.drewN 1;have b9:Bf w8.drew g7 0 y:=hby8;have k9:C2 w8.drew:=hkb;clear hby8 d8 e9;generalize w8.drew=w9 at *
 go_wp2_with (refine Es d9 rfl _ rfl rfl ?_)
 refine Ap (fun _ h=>h) (Wi d9.rest) ?_;refine Bb (show wpQuiet _ _ _ _ [] _ from ?_);refine wpQuiet_nil (show wpList _ _ _ (_::[]) _ _ from ?_)
 go_wp2_with fail
 refine(TK w9 b9 k9).mono ?_;rintro e w10 ⟨rfl,jf⟩;have d10:=d9.below jf;have ry:(Sha.take s0 y).list.length=8:=rfl;generalize hs1:Sha.take s0 y=s1 at *;have HS1:=Lib.hid hs1;clear hs1 TK b9
 go_wp2_with fail
 refine Ap (fun _ h=>h) (Wi d10.rest) ?_;refine Bb (show wpQuiet _ _ _ _ (_::_::[]) _ from ?_)
 repeat (go_big_quiet_step (fail))
 refine wpQuiet_nil (show wpList _ _ _ (_::[]) _ _ from ?_)
 go_wp2_with (refine Fo d10 s1.list ry rfl _ _ rfl rfl rfl ?_;intro w11 d11 t11)
 refine Ap (fun _ h=>h) (Wi d11.rest) ?_;refine Dy (show wpQuiet _ _ _ _ [] _ from ?_);refine wpQuiet_nil ?_;refine Ez ?_;have f9:=d11.thawed 9;have c9:=d11.rest;have d12:=d11.setRest (.slice none 0 0);have t12:Touch (fun q=>q=b) w11 (w11.setCell ⟨b,9,none⟩ (.slice none 0 0)):=Touch.set w11 b 9 _ rfl;clear C9 d11 d10
 go_wp2_with fail
 generalize w11.setCell ⟨b,9,none⟩ (.slice none 0 0)=w12 at *;have tA:Touch (fun q=>q=b\/(Value.slice a' r.length cap').ownBlock=some q) w w12 :=
  (((((((t1.mono fun q e=>.inl e).trans (hid.mono fun q e=>.inl e)).trans (t7.mono fun q e=>.inr e)).trans (t8.mono fun q e=>.inl e)).trans (hid9.mono fun q e=>.inl e)).trans (.of_below jf)).trans (t11.mono fun q e=>.inl e)).trans (t12.mono fun q e=>.inl e)
 have yg:C2 w12:=HK.out.touch tA (fun e=>by
  rcases e with e|e
  ·have e2:0=b:=e;omega
  ·have:=Dm oo e;omega)
 obtain⟨m1,js⟩:∃q,m.drop x1.length=q:=⟨_,rfl⟩;rw[js] at r7 zm;have hmm:m=x1++m1:=by
  have e:=List.take_append_drop x1.length m;rw[js,HX1L.out,HX1.out] at e;exact e.symm
 have hm0:m1≠[]->m≠[]:=fun h e=>by rw[e] at js;simp at js;exact h js
 have hoff1:m1≠[]->∀ad,Cf a cap x1.length=some ad->ad.block≠b:=fun h ad e=>by
  obtain⟨ad0,e1,e2⟩:=Z9 e;rw[e2];exact(hoff (hm0 h) ad0 e1).1
 have hr1:A0 w12 (Cf a cap x1.length) (cap - x1.length) m1:=r7.touch' tA fun h ad e=>by
  obtain⟨ad0,e1,e2⟩:=Z9 e;have:=hoff (hm0 h) ad0 e1;rw[e2];rintro(e3|e3)
  ·exact this.1 e3
  ·exact this.2 e3
 have T1:=Lib.hid tA;have HK1:=Lib.hid yg;have HMM:=Lib.hid hmm;rw[<- zm];have HDL:=Lib.hid zm;clear zm r7 hs1 hs2 hr hrx js hmm hm0 hoff t1 hid t7 t8 hid9 t11 t12 oo yg f9 c9 gz jf d1 d9 hmin hn hkb k9 hrow ut tA ro;generalize Cf a cap x1.length=a1 at *;generalize cap - x1.length=cap1 at *
 go_loopw [1] (fun x wr=>Aev b s1 (.slice none 0 0) ((l.length:Int)+m.length) m1 w12 x wr) (fun x _=>match x with | .slice _ n _=>n|_=>0)
 case atStart=>exact⟨0,a1,cap1,by omega,rfl,hr1,hoff1,d12,Touch.refl _ _⟩
 case round =>
  clear d12 hr1;obtain⟨k,a2,c1,hk64,rfl,hr2,hof,hat,ht⟩:=hrel;have hpl:(m1.drop (64 * k)).length=m1.length - 64 * k:=List.length_drop;by_cases hlt:64 * k+64<=m1.length
  ·have hne:m1.drop (64 * k)≠[]:=fun e=>by rw[e] at hpl;simp at hpl;omega
   obtain⟨g,off,rfl,gy⟩:∃g off,a2=some ⟨g,off,none⟩/\Bf wr g off (m1.drop (64 * k)):=hr2.bytes.resolve_left hne;have hm0:m1≠[]:=fun e=>by rw[e] at hne;simp at hne
   have hgb:g≠b:=hof hm0 _ rfl;have hfit:=hr2.fits;have hroom:=hr2.room;have iu:((m1.drop (64 * k)).take 64).length=64:=by rw[List.length_take,hpl];omega
   have hbs:=Sha.blocks_succ k s1 m1;have hr3:=hr2.drop 64 (by rw[hpl];omega);rw[List.drop_drop,show 64 * k+64=64 * (k+1) by omega] at hr3;rw[hpl] at hfit;have hsl1:=fun w=>Gb (P:=prog) Ay w (some ⟨g,off,none⟩) (m1.length - 64 * k) c1 .i64 64 64 rfl (by omega);have hsl2:=fun w=>Ey (P:=prog) Ay w (some ⟨g,off,none⟩) (m1.length - 64 * k) c1 .i64 64 64 rfl (by omega);have qz:=gy.take 64;generalize hp:(m1.drop (64 * k)).take 64=p at *;generalize hs:Sha.blocks k s1 m1=s at *;have hkr:C2 wr:=HK1.out.touch ht (show ¬(0=b) by omega);have TK:=fun w' (hx:Bf w' g off p) (hy:C2 w')=>Pn s g off c1 p w' iu (by omega) (by omega) hx hy;have bp:Lc wr.drew b true s.list (.slice none 0 0) ((l.length:Int)+m.length):=hat.drewN 1;have jc:Bf wr.drew g off p:=qz;have hk1:C2 wr.drew:=hkr;have HP:=Lib.hid hp;have HS:=Lib.hid hs;have HBS:=Lib.hid hbs;have HT:=Lib.hid ht;have HR3:=Lib.hid hr3;have HOF:=Lib.hid hof;have sf:(64:Int)<=((m1.length - 64 * k:Nat):Int):=by omega
   clear hp hs hbs ht hr2 hr3 hof hat gy qz hkr hne hpl;generalize mo:m1.length - 64 * k=q at *;have HQ:=Lib.hid mo;clear mo
   go_wp2_with fail
   refine B7 [([0,1,2,3,5,6],some 4),([],some 7),([8,9],some 10),([],none)] (fun _=>True) (by kernel_rfl) (by kernel_rfl) (fun _ _ d _ _ h=>by cases d<;>exact h) trivial ?_;refine Bb (show wpQuiet _ _ _ _ (_::_::_::_::_::_::[]) _ from ?_)
   repeat (go_big_quiet_step (fail))
   refine wpQuiet_nil (show wpList _ _ _ (_::[]) _ _ from ?_);have hid:Touch (fun q=>q=b) wr wr.drew:=(Touch.refl _ _).drewN 1;generalize wr.drew=w6 at *;have HID:=Lib.hid hid;clear hid
   go_wp2_with (refine Es bp rfl _ rfl rfl ?_)
   refine Ap (fun _ h=>h) trivial ?_;refine Bb (show wpQuiet _ _ _ _ [] _ from ?_);refine wpQuiet_nil (show wpList _ _ _ (_::[]) _ _ from ?_)
   go_wp2_with fail
   refine(TK w6 jc hk1).mono ?_;rintro e w7 ⟨rfl,gz⟩;have dz:=bp.below gz;have ry:(Sha.take s p).list.length=8:=rfl;generalize Sha.take s p=s' at *;have HB7:=Lib.hid gz;clear TK jc hk1 bp gz
   go_wp2_with fail
   refine Ap (fun _ h=>h) trivial ?_;refine Bb (show wpQuiet _ _ _ _ (_::_::[]) _ from ?_)
   repeat (go_big_quiet_step (fail))
   refine wpQuiet_nil (show wpList _ _ _ (_::[]) _ _ from ?_)
   go_wp2_with (refine Fo dz s'.list ry rfl _ _ rfl rfl rfl ?_;intro w8 qi t8)
   refine Ap (fun _ h=>h) trivial ?_;refine Dy (show wpQuiet _ _ _ _ [] _ from ?_);refine wpQuiet_nil ?_;refine Ez ?_;have HTT:=Lib.hid ((HID.out.trans (.of_below HB7.out)).trans t8);have HA:=Lib.hid qi;clear dz qi t8;go_wp2
   go_roundw
   case rel =>
    have hq:=HQ.out;refine⟨k+1,_,_,by omega,?_,(HR3.out.touch' HTT.out fun hne ad e=>?_),fun hne ad e=>?_,?_,HT.out.trans HTT.out⟩
    ·rw[show m1.length - 64 * (k+1)=q - 64 by omega]
    ·rw[Gw e];exact hgb
    ·rw[Gw e];exact hgb
    ·rw[HBS.out];exact HA.out
   case measure=>simp;omega
  ·have vh:m1.length / 64=k:=by omega
   have CL:=S6 a2 c1 (m1.drop (64 * k)) wr hr2 (by rw[hpl];omega);rw[hpl] at CL;have hlt2:((m1.length - 64 * k:Nat):Int) < 64:=by omega
   generalize hd:m1.drop (64 * k)=d at *;generalize hs:Sha.blocks k s1 m1=s at *;have HD:=Lib.hid hd;have HS:=Lib.hid hs;have HA:=Lib.hid hat;have HT:=Lib.hid ht;have HKQ:=Lib.hid vh;clear hd hs hat ht vh hr2 hof hpl hlt;generalize mo:m1.length - 64 * k=q at *;clear mo
   go_wp2_with fail
   refine CL.mono ?_;rintro e w5 ⟨vv,rfl,cj,bo⟩;have fe:=HA.out.below bo;have f9:=fe.thawed 9;have c9:=fe.rest;obtain⟨a5,c5,rfl,_⟩:=cj.reads;have HO:=Lib.hid cj;have HB5:=Lib.hid bo;have HA5:=Lib.hid fe;have HA6:=Lib.hid (fe.setRest (.slice a5 d.length c5));clear cj bo fe CL;go_wp2;refine bodyPost_end (results_none rfl _ _ _) rfl ?_;have hown:∀q,(Value.slice a5 d.length c5).ownBlock=some q->wr.heap.size<=q:=fun q hq=>(Dm HO.out hq).1;have hbl:=HA.out.lt;have hsz1:=T1.out.size;have xf:=HT.out.size;have t6:Touch (fun q=>q=b) w5 (w5.setCell ⟨b,9,none⟩ (.slice a5 d.length c5)):=Touch.set w5 b 9 _ rfl;have hh:=HHL.out;have hl2:=HLL.out;have hyl:y.length=64:=mg;have hlen:(r.length+m.length) / 64=1+k:=by
    have e1:y.length=r.length+x1.length:=by rw[<- HY.out,List.length_append]
    have e2:m.length=x1.length+m1.length:=by rw[HMM.out,List.length_append]
    have e3:=HKQ.out;omega
   have hrm:r++m=y++m1:=by rw[HMM.out,<- List.append_assoc,HY.out]
   rw[hlen,hrm] at hh hl2;rw[Sha.blocks_append 1 k s0 y m1 (by omega),show Sha.blocks 1 s0 y=Sha.take s0 (y.take 64) from rfl,List.take_of_length_le (by omega),HS1.out,HS.out] at hh;rw[List.drop_append,List.drop_eq_nil_of_le (by omega),List.nil_append,show 64 * (1+k) - y.length=64 * k by omega,HD.out] at hl2;refine⟨_,rfl,⟨?_,?_,?_,bj⟩,?_,fun q hq=>.inr (by have:=hown q hq;omega)⟩
   ·rw[hh,List.length_append,Int.natCast_add];exact HA6.out
   ·rw[hl2];exact(t6.owns HO.out fun q hq e=>by have:=hown q hq;omega).mono (by omega)
   ·intro e;have:=hown b e;omega
   ·exact((T1.out.trans (HT.out.mono fun q e=>.inl e)).trans (.of_below HB5.out)).trans (t6.mono fun q e=>.inl e)
theorem Agj {w:World} {B b:Nat} {v:Value} {l:List (BitVec 8)} (h:Nf w B b v l) (hB:B<=w.heap.size) (h0:0 < B) (hk:C2 w)
  (a:Option Addr) (cap:Nat) (m:List (BitVec 8)) (hr:A0 w a cap m) (hlm:l.length+m.length<=1048576) (hoff:m≠[]->∀ad,a=some ad->ad.block≠b/\v.ownBlock≠some ad.block) :
  Calls prog 43 #[.pointer (some ⟨b,0,none⟩),.slice a m.length cap] w (Ah7 B b v l m w):=by
 by_cases hl:Sha.left l=[]
 ·exact Ad9 h hB h0 hk hl a cap m hr hlm fun hm ad e=>(hoff hm ad e).1
 ·by_cases hs:(Sha.left l).length+m.length < 64
  ·exact Abk h hB hl a cap m hr hlm hoff hs
  ·exact Aea h hB hl a cap m hr hlm hoff h0 hk (by omega)
theorem Anl (x:BitVec 32) (k:Nat):(x.setWidth 64 >>> k).setWidth 8=(x >>> k).setWidth 8:=by
 apply BitVec.eq_of_getLsbD_eq;intro i hi;simp only[BitVec.getLsbD_setWidth,BitVec.getLsbD_ushiftRight,hi,decide_true,Bool.true_and];by_cases h:k+i < 64
 ·simp[h]
 ·rw[BitVec.getLsbD_of_ge _ _ (by omega)];simp[h]
theorem Yf (x:BitVec 32):beB (x.setWidth 64) 4=Sha.bytes4 x:=by
 have h0:=Anl x 0;simp only[BitVec.ushiftRight_zero] at h0;simp only[beB,Ts,show List.range 4=[0,1,2,3] from rfl,List.map_cons,List.map_nil,List.reverse_cons,List.reverse_nil,List.nil_append,List.cons_append,Nat.mul_zero,Nat.mul_one,Anl,BitVec.ushiftRight_zero,Sha.bytes4]
theorem Zp (N k:Nat) (h:N < 2 ^ 64):(BitVec.ofNat 64 N >>> k).setWidth 8=BitVec.ofNat 8 (N / 2 ^ k):=by
 apply BitVec.eq_of_toNat_eq;simp[BitVec.toNat_setWidth,BitVec.toNat_ushiftRight,Nat.shiftRight_eq_div_pow,Nat.mod_eq_of_lt h]
theorem Ah3 (N:Nat) (h:N < 2 ^ 64):beB (BitVec.ofNat 64 N) 8=Sha.be8 N:=by
 have h0:=Zp N 0 h;simp only[BitVec.ushiftRight_zero,Nat.pow_zero,Nat.div_one] at h0;simp only[beB,Ts,show List.range 8=[0,1,2,3,4,5,6,7] from rfl,List.map_cons,List.map_nil,List.reverse_cons,List.reverse_nil,List.nil_append,List.cons_append,Nat.mul_zero,Nat.mul_one,BitVec.ushiftRight_zero,Zp N _ h,Nat.pow_zero,Nat.div_one,Sha.be8]
theorem Ah1 (n:Nat) (h:n<=1048576):Value.int .u64 (8 * (n:Int))=F6 (BitVec.ofNat 64 (8 * n)):=by
 have:(BitVec.ofNat 64 (8 * n)).toNat=8 * n:=by rw[BitVec.toNat_ofNat];omega
 unfold F6;rw[this];simp
theorem Wj (n:Nat):Sha.noughts n < 64:=Nat.mod_lt _ (by decide)
theorem Vi:∃z:List (BitVec 8),z=List.replicate 32 0#8/\∀w,Sem.run prog (zeroValue 40) w=.ok (.agg (z.map U8).toArray) w:=⟨_,rfl,fun w=>by kernel_rfl⟩
theorem Fc {B:Nat} {E:TypeId} {w w2 w3:World} {o:Obj} {v:Value} {l:List (BitVec 8)} (hb:Below B w w2) (hB:B<=w.heap.size) (ho:C6 (w2.alloc o) B E v l) (hg:(w2.alloc o).grownBy w3 v.ownBlock):Below B w w3:=by
 have h1:=hb.size;have h2:B<=(w2.alloc o).heap.size:=by simp;omega
 exact(hb.alloc (by omega) o).trans ((Touch.of_grown (F:=fun k=>v.ownBlock=some k) hg fun k hk=>hk).below (fun k hk=>(Dm ho hk).1) h2)
def Ah8 (B:Nat) (p:List (BitVec 8)) (n:Nat) (w:World) (x:Value) (wr:World):Prop :=
 ∃j,j<=n/\C6 wr B 5 x (p++List.replicate j 0#8)/\Below B w wr
def Auj (T:List (BitVec 8)) (s0:Sha.St) (z:List (BitVec 8)) (w:World) (gs:Nat) (x:Value) (wr:World):Prop :=
 ∃(k:Nat) (a:Option Addr) (cap:Nat),64 * k<=T.length/\x=.slice a (T.length - 64 * k) cap/\A0 wr a cap (T.drop (64 * k))/\(∀ad,a=some ad->ad.block≠gs) /\
  Aw wr gs 132 (Sha.blocks k s0 T).list/\wr.heap[w.heap.size]?=some (.cells (z.map U8).toArray 40 (0,0))/\C2 wr/\Below w.heap.size w wr
theorem Aav (g k:Nat) (hk:4 * k < 32) (w:World):(Instr.sliceAt 40 (.pointer (some ⟨g,0,none⟩)) (some (.int .i64 (4 * (k:Int)))) none none).run prog w=.ok (.slice (some ⟨g,4 * k,none⟩) (32 - 4 * k) (32 - 4 * k)) w:=by
 have hu:prog.underlying 40=some (.array 32 5):=by kernel_rfl
 obtain⟨i,hi,_,hz1,_⟩:=info_parts Ay.info;have h1:4 * (k:Int)<=32:=by omega
 have h2:¬(32=4 * k):=by omega
 have h3:(0:Int)<=4 * k:=by omega
 have h4:(4 * (k:Int)).toNat=4 * k:=by omega
 simp[Instr.sliceAt,Instr.sureAddr,run_underlying hu,Instr.sliceBounds,Instr.sliceBound,asIntOf,sizeOf,typeInfo,hi,hz1,h1,h2,h3,h4,Addr.add_lit]
theorem T9 (f:Bv) (hf:f.length=8) (k:Nat) (hk:k < 8) (w:World):(Instr.index 132 (.agg (Bu f)) (.int .i64 k)).run prog w=.ok (Af (Ac f k)) w:=by
 have hu:prog.underlying 132=some (.array 8 22):=by kernel_rfl
 have hu2:prog.underlying 22=some (.int .u32):=by kernel_rfl
 have hs:∀w,(sizeOf 22).run prog w=.ok 1 w:=fun w=>by kernel_rfl
 have hg:=Ah6 f k (by omega);have h1:(k:Int) < 8:=by omega
 simp[Instr.index,run_underlying hu,asIntOf,h1,part,isAgg,run_underlying hu2,hs,hg];intro h;omega
def Asz (f:Bv) (z:List (BitVec 8)) (w:World) (gd:Nat) (i:Value) (wr:World):Prop :=
 ∃k:Nat,k<=8/\i=.int .i64 k/\wr.heap[gd]?=some (.cells (((f.take k).flatMap Sha.bytes4++List.replicate (32 - 4 * k) 0#8).map U8).toArray 40 (0,0)) /\
  wr.heap[w.heap.size]?=some (.cells (z.map U8).toArray 40 (0,0))/\Below w.heap.size w wr
theorem Hc (f:Bv):(f.flatMap Sha.bytes4).length=4 * f.length:=by
 induction f with
 | nil=>rfl
 | cons a f ih=>rw[List.flatMap_cons,List.length_append,ih];simp[Sha.bytes4];omega
theorem Aan (f:Bv) (k:Nat) (hk:k < f.length) (hf:f.length=8):splice (((f.take k).flatMap Sha.bytes4++List.replicate (32 - 4 * k) 0#8).map U8) (4 * k) ((Sha.bytes4 (Ac f k)).map U8)=(((f.take (k+1)).flatMap Sha.bytes4++List.replicate (32 - 4 * (k+1)) 0#8).map U8):=by
 have h1:((f.take k).flatMap Sha.bytes4).length=4 * k:=by rw[Hc,List.length_take];omega
 have h2:(Sha.bytes4 (Ac f k)).length=4:=rfl;have h3:f.take (k+1)=f.take k++[Ac f k]:=by
  rw[List.take_succ_eq_append_getElem hk];simp[Ac,List.getD_eq_getElem?_getD,List.getElem?_eq_getElem hk]
 unfold splice;rw[<- List.map_take,<- List.map_drop,List.length_map,h2,List.take_append_of_le_length (by omega),List.take_of_length_le (by omega),h3,List.flatMap_append,List.drop_append,List.drop_eq_nil_of_le (by omega),h1,List.nil_append,List.drop_replicate];rw[List.map_append,List.map_append,List.append_assoc,show [Ac f k].flatMap Sha.bytes4=Sha.bytes4 (Ac f k) by simp,show 32 - 4 * k - (4 * k+4 - 4 * k)=32 - 4 * (k+1) by omega]
theorem Aov {w:World} {B b:Nat} {v:Value} {l:List (BitVec 8)} (h:Nf w B b v l) (hB:B<=w.heap.size) (h0:0 < B) (hk:C2 w) (hlm:l.length<=1048576) :
  Calls prog 44 #[.pointer (some ⟨b,0,none⟩)] w fun e w'=>e=.returned (.agg ((Sha.sum l).map U8).toArray)/\Below w.heap.size w w':=by
 obtain⟨z,hz0,hz⟩:=Vi;have hzl:z.length=32:=by rw[hz0];rfl
 have HZ0:=Lib.hid hz0;clear hz0;have hb1:Below w.heap.size w (w.alloc (.cells (z.map U8).toArray 40)):=(Below.refl _ _).alloc (Nat.le_refl _) _;have bp:=h.at_.below hb1;have OK:=Vp bp;have c9:=bp.rest;have i6:=h.own.below hb1;obtain⟨a,cap,rfl,hr1⟩:=i6.reads;have hll:(Sha.left l).length < 64:=by rw[Sha.left_length];omega
 have CL:=S6 a cap (Sha.left l) (w.alloc (.cells (z.map U8).toArray 40)) hr1 (by omega);have cz:=Sha.sum_held l;have r2:(w.alloc (.cells (z.map U8).toArray 40)).heap[w.heap.size]?=some (.cells (z.map U8).toArray 40 (0,0)):=heap_alloc_new w _;have HSUM:=Lib.hid cz;have HK:=Lib.hid hk;clear h cz hk i6;generalize Sha.sum l=D at *;generalize hrl:Sha.left l=r at *;generalize Sha.held l=s0 at *;have HRL:=Lib.hid hrl;clear hrl
 go_enter func44,ntmps44
 go_wp2_with fail
 have HBL:=Lib.hid bp.lt;generalize w.alloc (.cells (z.map U8).toArray 40)=w1 at *;refine OK.mono ?_;rintro e w' ⟨rfl,rfl⟩;clear OK
 go_wp2_with fail
 refine CL.mono ?_;rintro e w2 ⟨vt,rfl,ic,hb2⟩;have xf:=hb2.size;have hr2:=H6 w2 #[.int .u8 128] 5 (0,0) [0x80#8] rfl (by decide);have jr:=ic.below (w':=w2.alloc (.cells #[.int .u8 128] 5)) ((Below.refl _ _).alloc (Nat.le_refl _) _);have hz2:w1.heap.size<=(w2.alloc (.cells #[.int .u8 128] 5)).heap.size:=by simp;omega
 have hlen:r.length+1<=140737488355328:=by omega
 go_wp2_with (at_builtin;refine As Ay rfl _ _ rfl w1.heap.size vt r rfl jr (some ⟨w2.heap.size,0,none⟩) 1 [0x80#8] rfl hr2 hlen hz2 ?_;intro v3 w3 mz hg3 _)
 have hb3:Below w1.heap.size w1 w3:=Fc hb2 (Nat.le_refl _) jr hg3
 go_loopw [3] (fun x wr=>Ah8 w1.heap.size (r++[0x80#8]) (Sha.noughts r.length) w1 x wr) (fun x _=>match x with | .slice _ n _=>200 - n|_=>0)
 case atStart=>exact⟨0,by omega,by simpa using mz,hb3⟩
 case round =>
  clear mz hb3 hg3 jr hz2 hr2 ic;obtain⟨j,hj,ho,ae⟩:=hrel;obtain⟨t,ht⟩:∃t,r++[0x80#8]++List.replicate j 0#8=t:=⟨_,rfl⟩;have htl:t.length=r.length+1+j:=by rw[<- ht];simp;omega
  have hnl:=Wj r.length;have hnn:Sha.noughts r.length=(119 - r.length % 64) % 64:=rfl;rw[ht] at ho;obtain⟨at_,ct,rfl,hrt⟩:=ho.reads;have HT:=Lib.hid ht;clear ht;by_cases hlt:j < Sha.noughts r.length
  ·have hne:¬((t.length:Int) % 64=56):=by omega
   have hne':((t.length:Int) % 64 != 56)=true:=by simpa using hne
   have rf:t.length<=127:=by omega
   have hbs:=ae.size;have rz:=H6 wr #[.int .u8 0] 5 (0,0) [0#8] rfl (by decide);have ho':=ho.below (w':=wr.alloc (.cells #[.int .u8 0] 5)) ((Below.refl _ _).alloc (Nat.le_refl _) _);have hz':w1.heap.size<=(wr.alloc (.cells #[.int .u8 0] 5)).heap.size:=by simp;omega
   have hlen':t.length+1<=140737488355328:=by omega
   have HTL:=Lib.hid htl;clear htl
   go_wp2_with (at_builtin;refine As Ay rfl _ _ rfl w1.heap.size (.slice at_ t.length ct) t rfl ho' (some ⟨wr.heap.size,0,none⟩) 1 [0#8] rfl rz hlen' hz' ?_;intro v5 w5 cj lj _)
   have bo:=Fc ae (Nat.le_refl _) ho' lj;obtain⟨x,hx⟩:∃x,t++[0#8]=x:=⟨_,rfl⟩;have hxl:x.length=t.length+1:=by rw[<- hx,List.length_append,List.length_singleton]
   rw[hx] at cj;obtain⟨a5,c5,rfl,_⟩:=cj.reads;have HO5:=Lib.hid cj;have HB5:=Lib.hid bo;have HX:=Lib.hid hx;have HXL:=Lib.hid hxl;clear cj bo hx hxl ho' lj ho rz hrt
   go_roundw
   case rel =>
    refine⟨j+1,hlt,?_,HB5.out⟩;rw[List.replicate_succ',<- List.append_assoc,HT.out,HX.out];exact HO5.out
   case measure =>
    have h1:=HXL.out;show 200 - x.length < 200 - t.length;omega
  ·obtain rfl:j=Sha.noughts r.length:=by omega
   have heq:(t.length:Int) % 64=56:=by omega
   have heq':((t.length:Int) % 64 != 56)=false:=by simpa using heq
   have rf:t.length<=127:=by omega
   have hbs:=ae.size;have ig:Sha.tail r l.length=t++Sha.be8 (8 * l.length):=by rw[<- HT.out];rfl
   have hmod:t.length % 64=56:=by omega
   have HTA:=Lib.hid ig;have c10:=(bp.below ae).n_;have yz:=bp.below ae;have HMOD:=Lib.hid hmod;clear ig htl hnn hnl hj hlt hmod hr1 c9 CL bp;have BG:Calls prog 81 #[.int .u64 (8 * (l.length:Int)),.int .i64 8] wr fun e w' =>
     e=.returned (.slice (some ⟨wr.heap.size,0,none⟩) 8 8)/\Dz w' wr.heap.size 5 wr.heap.size 8 8 (Sha.be8 (8 * l.length))/\Below wr.heap.size wr w':=by
    rw[Ah1 _ hlm,<- Ah3 _ (by omega)];exact Ah2 _ 8 (by omega) (by omega) wr
   go_wp2_with fail
   refine BG.mono ?_;rintro e w6 ⟨rfl,qs,qg⟩;have hr6':=qs.reads;have xy:=ho.below qg;have hs6:=qg.size;have hz6:w1.heap.size<=w6.heap.size:=by omega
   have ve:t.length+(Sha.be8 (8 * l.length)).length<=140737488355328:=by
    rw[show (Sha.be8 (8 * l.length)).length=8 from rfl];omega
   obtain⟨z8,zb,jm⟩:=Od;have fc:(prog.info? 132).map (·.size)=some (Bu s0.list).size:=by rw[Bi,show s0.list.length=8 from rfl];kernel_rfl
   have hsz:(Bu z8).size=(Bu s0.list).size:=by rw[Bi,Bi,jm];rfl
   have hov:=Hu s0.list;have hat6:=yz.below qg;have hvb:∀q,(Value.slice at_ t.length ct).ownBlock=some q->w1.heap.size<=q:=fun q hq=>(Dm ho hq).1;have hbl:=yz.lt;have hblw:b < w1.heap.size:=HBL.out
   go_wp2_with (first
    |(at_builtin;refine As Ay rfl _ _ rfl w1.heap.size (.slice at_ t.length ct) t rfl xy (some ⟨wr.heap.size,0,none⟩) 8 (Sha.be8 (8 * l.length)) rfl hr6' ve hz6 ?_;intro v7 w7 i5 vw _;have t7:Touch (fun q=>(Value.slice at_ t.length ct).ownBlock=some q) w6 w7:=.of_grown vw fun k hk=>hk;have dz:=hat6.touch t7 (fun e=>by have:=hvb b e;omega);have h8:(w7.alloc (.cells (Bu z8) 132)).heap[w7.heap.size]?=some (.cells (Bu z8) 132 (0,0)):=Aw.new w7 _ z8)
    |(refine Es dz rfl _ rfl rfl ?_)
    |(refine wpList_store_row rfl 132 _ _ rfl w7.heap.size (Bu s0.list) rfl rfl _ (Bu z8) h8 fc hsz hov ?_))
   have t9:Touch (fun q=>q=w7.heap.size) w7 ((w7.alloc (.cells (Bu z8) 132)).setRow w7.heap.size (Bu s0.list)):=((Touch.refl _ _).alloc _).trans (Touch.setRow _ _ _ rfl);have d9:Aw ((w7.alloc (.cells (Bu z8) 132)).setRow w7.heap.size (Bu s0.list)) w7.heap.size 132 s0.list:=(Aw.new w7 132 z8).row s0.list;generalize hT:Sha.tail r l.length=T at *;rw[<- HTA.out] at i5;have hTl:T.length=t.length+8:=by rw[HTA.out,List.length_append];rfl
   obtain⟨a7,c7,rfl,uv⟩:=i5.reads;have hb67:Below w1.heap.size w6 w7:=t7.below (fun q hq=>hvb q hq) hz6;have yx:Below w1.heap.size w1 w7:=(ae.trans (qg.mono hbs)).trans hb67;have hs17:=yx.size;have yw:=yx.trans (t9.below (fun q e=>by have e2:q=w7.heap.size:=e;omega) hs17);have hs1:=hb1.size;have hs1':=Dk r2;have r9:=(yw.block w.heap.size (Dk r2)).trans r2;have yr:Below w.heap.size w _:=hb1.trans (yw.mono hs1);have yf:=HK.out.keeps (Bm.below yr);have hag:∀ad,a7=some ad->ad.block≠w7.heap.size:=fun ad e=>by
    have:=(Dm i5 (k:=ad.block) (by rw[e];rfl)).2;omega
   have zh:=uv.touch' t9 fun _ ad e=>hag ad e;have hT64:T.length % 64=0:=by have:=HMOD.out;omega
   have hTle:T.length<=192:=by omega
   have HT64:=Lib.hid hT64;clear hTl fc hsz hov hat6 hvb hbl hblw qs hr6' xy ve hz6 BG c10 yz heq heq' rf ho hrt h8 dz vw i5 uv hb67 t7 t9 qg yx ae yw r2 zb jm;have hgsl:w.heap.size < w7.heap.size:=by omega
   generalize hgs:w7.heap.size=gs at *;have HGS:=Lib.hid hgsl;clear hgsl hgs;generalize (w7.alloc (.cells (Bu z8) 132)).setRow gs (Bu s0.list)=w9 at *;simp only[Act.put]
   go_loopw [3] (fun x wr=>Auj T s0 z w gs x wr) (fun x _=>match x with | .slice _ n _=>n|_=>0)
   case atStart=>exact⟨0,a7,c7,by omega,rfl,zh,hag,d9,r9,yf,yr⟩
   case round =>
    clear zh hag d9 r9 yf yr;obtain⟨k,a8,c8,hk8,rfl,se,hag,hat,r9,yf,ae⟩:=hrel;have hpl:(T.drop (64 * k)).length=T.length - 64 * k:=List.length_drop;by_cases hlt:64 * k+64<=T.length
    ·have hne:T.drop (64 * k)≠[]:=fun e=>by rw[e] at hpl;simp at hpl;omega
     obtain⟨g,off,rfl,gy⟩:∃g off,a8=some ⟨g,off,none⟩/\Bf wr g off (T.drop (64 * k)):=se.bytes.resolve_left hne;have hgb:g≠gs:=hag _ rfl;have hfit:=se.fits;have hroom:=se.room;have iu:((T.drop (64 * k)).take 64).length=64:=by rw[List.length_take,hpl];omega
     have hbs:=Sha.blocks_succ k s0 T;have hr3:=se.drop 64 (by rw[hpl];omega);rw[List.drop_drop,show 64 * k+64=64 * (k+1) by omega] at hr3;rw[hpl] at hfit;have hs1:=fun w=>Gb (P:=prog) Ay w (some ⟨g,off,none⟩) (T.length - 64 * k) c8 .i64 64 64 rfl (by omega);have hs2:=fun w=>Ey (P:=prog) Ay w (some ⟨g,off,none⟩) (T.length - 64 * k) c8 .i64 64 64 rfl (by omega);have qz:=gy.take 64;generalize hp:(T.drop (64 * k)).take 64=p at *;generalize hs:Sha.blocks k s0 T=s at *;have TK:=fun w' (hx:Bf w' g off p) (hy:C2 w')=>Pn s g off c8 p w' iu (by omega) (by omega) hx hy;have bp:Aw wr.drew gs 132 s.list:=hat;have jc:Bf wr.drew g off p:=qz;have hk1:C2 wr.drew:=yf;have HP:=Lib.hid hp;have HS:=Lib.hid hs;have HBS:=Lib.hid hbs;have HBW:=Lib.hid ae;have HR3:=Lib.hid hr3;have HR9:=Lib.hid r9;have HK9:=Lib.hid yf;have sf:(0:Int) < ((T.length - 64 * k:Nat):Int):=by omega
     clear hp hs hbs ae hr3 se hag hat gy qz yf r9 hne hpl;generalize mo:T.length - 64 * k=q at *;have HQ:=Lib.hid mo;clear mo;have hid:Touch (fun q=>q=gs) wr wr.drew:=(Touch.refl _ _).drewN 1;have ud:(prog.info? 132).map (·.size)=some (Bu s.list).size:=by rw[Bi,show s.list.length=8 from rfl];kernel_rfl
     go_wp2_with fail
     refine B7 [([1,2],some 0),([],some 3),([],some 4),([],none)] (fun _=>True) (by kernel_rfl) (by kernel_rfl) (fun _ _ d _ _ h=>by cases d<;>exact h) trivial ?_;refine Bb (show wpQuiet _ _ _ _ (_::_::[]) _ from ?_)
     repeat (go_big_quiet_step (fail))
     refine wpQuiet_nil (show wpList _ _ _ (_::[]) _ _ from ?_);generalize wr.drew=w6 at *;have HID:=Lib.hid hid;clear hid;have h61:w6.heap[gs]?=some (.cells (Bu s.list) 132 (0,0)):=bp
     go_wp2_with (refine wpList_load_row rfl 132 _ rfl gs rfl _ (Bu s.list) _ _ h61 underlying132 rfl ud ?_)
     refine Ap (fun _ h=>h) trivial ?_;refine Bb (show wpQuiet _ _ _ _ [] _ from ?_);refine wpQuiet_nil (show wpList _ _ _ (_::[]) _ _ from ?_)
     go_wp2_with fail
     refine(TK w6 jc hk1).mono ?_;rintro e w7 ⟨rfl,gz⟩;have dz:=bp.below gz;have ry:(Sha.take s p).list.length=8:=rfl;generalize Sha.take s p=s' at *;have hsz:(Bu s.list).size=(Bu s'.list).size:=by rw[Bi,Bi,ry];rfl
     have fc:(prog.info? 132).map (·.size)=some (Bu s'.list).size:=by rw[Bi,ry];kernel_rfl
     have hov:=Hu s'.list;have h71:w7.heap[gs]?=some (.cells (Bu s.list) 132 (0,0)):=dz;have HB7:=Lib.hid gz;clear TK jc hk1 bp gz h61
     go_wp2_with fail
     refine Ap (fun _ h=>h) trivial ?_;refine Bb (show wpQuiet _ _ _ _ [] _ from ?_);refine wpQuiet_nil (show wpList _ _ _ (_::[]) _ _ from ?_);have HA:=Lib.hid (dz.row s'.list);have t8:Touch (fun q=>q=gs) w7 (w7.setRow gs (Bu s'.list)):=Touch.setRow _ _ _ rfl;have HTT:=Lib.hid ((HID.out.trans (.of_below HB7.out)).trans t8);clear t8 dz
     go_wp2_with (refine wpList_store_row rfl 132 _ _ rfl gs (Bu s'.list) rfl rfl _ (Bu s.list) h71 fc hsz hov ?_)
     refine Ap (fun _ h=>h) trivial ?_;refine Dy (show wpQuiet _ _ _ _ [] _ from ?_);refine wpQuiet_nil ?_;refine Ez ?_;clear h71;generalize w7.setRow gs (Bu s'.list)=w8 at *;go_wp2
     go_roundw
     case rel =>
      have hq:=HQ.out;have ht64:=HT64.out;have hgs2:w.heap.size < gs:=HGS.out;refine⟨k+1,_,_,by omega,?_,(HR3.out.touch' HTT.out fun hne ad e=>?_),fun ad e=>?_,?_,?_,HK9.out.touch HTT.out (show ¬(0=gs) by omega),HBW.out.trans (HTT.out.below (fun q e=>by have e2:q=gs:=e;omega) HBW.out.size)⟩
      ·rw[show T.length - 64 * (k+1)=q - 64 by omega]
      ·rw[Gw e];exact hgb
      ·rw[Gw e];exact hgb
      ·rw[HBS.out];exact HA.out
      ·rw[HTT.out.block _ (Dk HR9.out) (show ¬(w.heap.size=gs) by omega)];exact HR9.out
     case measure=>simp;omega
    ·have vh:T.length / 64=k:=by have:=HT64.out;omega
     have hq0:T.length - 64 * k=0:=by have:=HT64.out;omega
     rw[hq0];have ud:(prog.info? 132).map (·.size)=some (Bu (Sha.blocks k s0 T).list).size:=by rw[Bi,show (Sha.blocks k s0 T).list.length=8 from rfl];kernel_rfl
     have cz:=HSUM.out;rw[vh] at cz;generalize Sha.blocks k s0 T=S at *;have ma:S.list.length=8:=rfl;have um:D=S.list.flatMap Sha.bytes4:=cz;have HS2:=Lib.hid um;clear cz um vh hq0 se hag;generalize S.list=f at *;have hrow:(wr.alloc (.cells (z.map U8).toArray 40)).heap[gs]?=some (.cells (Bu f) 132 (0,0)):=hat.touch (F:=fun _=>False) ((Touch.refl _ _).alloc _) fun e=>e;have hd0:(wr.alloc (.cells (z.map U8).toArray 40)).heap[wr.heap.size]?=some (.cells (z.map U8).toArray 40 (0,0)):=heap_alloc_new wr _;have r10:(wr.alloc (.cells (z.map U8).toArray 40)).heap[w.heap.size]?=some (.cells (z.map U8).toArray 40 (0,0)):=(Below.heap_alloc wr _ _ (Dk r9)).trans r9;have jf:Below w.heap.size w (wr.alloc (.cells (z.map U8).toArray 40)):=ae.alloc ae.size _;have hgd:=Dk r9;generalize hgde:wr.heap.size=gd at *;clear r9 yf ae hat hlt hpl
     go_wp2_with (refine wpList_load_row rfl 132 _ rfl gs rfl _ (Bu f) _ _ hrow underlying132 rfl ud ?_)
     clear hrow ud;generalize wr.alloc (.cells (z.map U8).toArray 40)=w11 at *
     go_loopw [49] (fun i wr=>Asz f z w gd i wr) (fun i _=>8 - (intOf i).toNat)
     case atStart=>exact⟨0,by omega,rfl,by simpa [HZ0.out] using hd0,r10,jf⟩
     case round =>
      clear hd0 r10 jf;obtain⟨i,hi8,rfl,hd,r9,ae⟩:=hrel;by_cases hlt:i < 8
      ·have hix:=T9 f ma i hlt;have hsl:=Aav gd i (by omega);have hsp:=Aan f i (by omega) ma;have hfl:((f.take i).flatMap Sha.bytes4++List.replicate (32 - 4 * i) 0#8).length=32:=by rw[List.length_append,Hc,List.length_take,List.length_replicate];omega
       generalize (f.take i).flatMap Sha.bytes4++List.replicate (32 - 4 * i) 0#8=cur at *;generalize Ac f i=x at *;have BG:=fun w'=>Ah2 (x.setWidth 64) 4 (by decide) (by decide) w';rw[Yf] at BG;have h0i:(0:Int)<=4 * i:=by omega
       have HSP:=Lib.hid hsp;clear hsp;have hdd:wr.drew.heap[gd]?=some (.cells (cur.map U8).toArray 40 (0,0)):=hd;have rdd:wr.drew.heap[w.heap.size]?=some (.cells (z.map U8).toArray 40 (0,0)):=r9;have bdd:Below w.heap.size w wr.drew:=ae.drew;clear hd r9 ae
       go_wp2_with fail
       refine B7 [([0,1,2,3,4],some 5),([],some 6),([],none)] (fun _=>True) (by kernel_rfl) (by kernel_rfl) (fun _ _ d _ _ h=>by cases d<;>exact h) trivial ?_;refine Bb (show wpQuiet _ _ _ _ (_::_::_::_::_::[]) _ from ?_)
       repeat (go_big_quiet_step (fail))
       refine wpQuiet_nil (show wpList _ _ _ (_::[]) _ _ from ?_);generalize wr.drew=w12 at *
       go_wp2_with fail
       refine(BG w12).mono ?_;rintro e w13 ⟨rfl,hr13,je⟩;have hd13:=(je.block gd (Dk hdd)).trans hdd;have r13:=(je.block w.heap.size (Dk rdd)).trans rdd;have b13:=bdd.trans (je.mono bdd.size);have hn4:((Sha.bytes4 x).map U8).length=Nat.min 4 (32 - 4 * i):=by
        rw[List.length_map,show (Sha.bytes4 x).length=4 from rfl];exact(Nat.min_eq_left (by omega)).symm
       have hcells:∀j v,((Sha.bytes4 x).map U8)[j]?=some v->w13.cell? ((⟨w12.heap.size,0,none⟩:Addr).add j)=some v:=fun j v hv=>by
        have hj:j < 4:=by have:=(List.getElem?_eq_some_iff.1 hv).1;simpa [Sha.bytes4] using this
        rw[List.getElem?_map,List.getElem?_eq_getElem (show j < (Sha.bytes4 x).length from hj)] at hv;rw[Addr.add_lit,Nat.zero_add,hr13.cell j hj,Cm (show j < (Sha.bytes4 x).length from hj)];exact hv
       have hfit:4 * i+((Sha.bytes4 x).map U8).length<=(cur.map U8).length:=by
        rw[List.length_map,List.length_map,hfl,show (Sha.bytes4 x).length=4 from rfl];omega
       have hone:∀v∈(Sha.bytes4 x).map U8,v.oneCell'=true:=fun v hv=>by obtain⟨y,_,rfl⟩:=List.mem_map.1 hv;rfl
       have hsz1:(prog.info? 5).map (·.size)=some 1:=by kernel_rfl
       have hBg:w.heap.size+1<=gd:=hgd;clear BG hix hsl hdd rdd bdd je hr13 h0i
       go_wp2_with fail
       refine Ap (fun _ h=>h) trivial ?_;refine Bb (show wpQuiet _ _ _ _ [] _ from ?_);refine wpQuiet_nil (show wpList _ _ _ (_::[]) _ _ from ?_);refine wpList_copy_splice rfl _ _ 37 37 rfl 5 Ay.slice hsz1 (some ⟨gd,4 * i,none⟩) (some ⟨w12.heap.size,0,none⟩) (32 - 4 * i) (32 - 4 * i) 4 4 rfl rfl gd (4 * i) (cur.map U8) 40 hd13 ((Sha.bytes4 x).map U8) hn4 (fun _=>⟨rfl,⟨w12.heap.size,0,none⟩,rfl,hcells⟩) hfit hone (w.heap.size+1) w13 (Below.refl _ _) hBg ?_;intro w14 hd14 lw
       go_wp2_with fail
       refine Ap (S':=fun _=>True) (fun _ h=>h) trivial ?_;refine Dy (show wpQuiet _ _ _ _ [] _ from ?_);refine wpQuiet_nil ?_;refine Ez ?_;have r14:=(lw.block w.heap.size (Nat.lt_succ_self _)).trans r13;have b14:Below w.heap.size w w14:=b13.trans (lw.mono (Nat.le_succ _));have HD14:=Lib.hid hd14.out;have HR14:=Lib.hid r14;have HB14:=Lib.hid b14;clear hcells hd13 r13 b13 hd14 lw r14 b14 hn4 hfit hone;go_wp2
       go_roundw
       case rel =>
        refine⟨i+1,by omega,by go_num,?_,HR14.out,HB14.out⟩;rw[<- HSP.out];exact HD14.out
       case measure=>simp[intOf];omega
      ·obtain rfl:i=8:=by omega
       rw[List.take_of_length_le (by omega),show 32 - 4 * 8=0 from rfl,List.replicate_zero,List.append_nil,<- HS2.out] at hd;have hDl:D.length=32:=by rw[HS2.out,Hc,ma]
       have fc:(prog.info? 40).map (·.size)=some (D.map U8).toArray.size:=by rw[List.size_toArray,List.length_map,hDl];kernel_rfl
       have ky:(z.map U8).toArray.size=(D.map U8).toArray.size:=by rw[List.size_toArray,List.size_toArray,List.length_map,List.length_map,hDl,hzl]
       have hov:(D.map U8).toArray.all (·.oneCell')=true:=by
        rw[Array.all_eq_true_iff_forall_mem];intro v hv;rw[List.mem_toArray] at hv;obtain⟨y,_,rfl⟩:=List.mem_map.1 hv;rfl
       have hr2:(wr.setRow w.heap.size (D.map U8).toArray).heap[w.heap.size]?=some (.cells (D.map U8).toArray 40 (0,0)):=setRow_heap wr w.heap.size _ _ 40 _ r9;have tR:Touch (fun q=>q=w.heap.size) wr (wr.setRow w.heap.size (D.map U8).toArray):=Touch.setRow wr _ _ rfl;have HB:=Lib.hid ae;clear ae;generalize hE:(D.map U8).toArray=E at *;have HE:=Lib.hid hE;clear hE
       go_wp2_with (first | (refine wpList_load_row rfl 40 _ rfl gd rfl _ E _ _ hd underlying40 rfl fc ?_) | (refine wpList_store_row rfl 40 _ _ rfl w.heap.size E rfl rfl _ (z.map U8).toArray r9 fc ky hov ?_))
       refine bodyPost_ret (results_cell_row rfl _ _ w.heap.size _ E _ _ rfl hr2 underlying40 rfl fc) rfl ?_;exact⟨by rw[HE.out],HB.out.trans (tR.below (fun q e=>by have e2:q=w.heap.size:=e;omega) HB.out.size)⟩
theorem C2.lt {w:World} (h:C2 w):0 < w.heap.size:=World.block_lt_of_cell? w ⟨0,0,none⟩ (h 0 (by decide))
theorem Abp (s:Sha.St):s.bytes.length=32:=by rw[Sha.St.bytes,Hc];rfl
theorem Cg (l:List (BitVec 8)):(Sha.sum l).length=32:=Abp _
theorem Abi (D:List (BitVec 8)) (h:D.length=32):(prog.info? 40).map (·.size)=some (D.map U8).toArray.size:=by rw[List.size_toArray,List.length_map,h];kernel_rfl
theorem Abj (D:List (BitVec 8)):(D.map U8).toArray.all (·.oneCell')=true:=by
 rw[Array.all_eq_true_iff_forall_mem];intro v hv;rw[List.mem_toArray] at hv;obtain⟨y,_,rfl⟩:=List.mem_map.1 hv;rfl
theorem Ack (a:Option Addr) (cap:Nat) (l:List (BitVec 8)) (w:World) (hr:A0 w a cap l) (hl:l.length<=1048576) (hk:C2 w) (hlt:l≠[]->∀ad,a=some ad->ad.block < w.heap.size) :
  Calls prog 25 #[.slice a l.length cap] w fun e w'=>e=.returned (.agg ((Sha.sum l).map U8).toArray)/\Below w.heap.size w w':=by
 obtain⟨z,hz0,hz⟩:=Vi;have hzl:z.length=32:=by rw[hz0];rfl
 clear hz0;have hb1:Below w.heap.size w (w.alloc (.cells (z.map U8).toArray 40)):=(Below.refl _ _).alloc (Nat.le_refl _) _;have NW:=Arb (w.alloc (.cells (z.map U8).toArray 40));have r2:(w.alloc (.cells (z.map U8).toArray 40)).heap[w.heap.size]?=some (.cells (z.map U8).toArray 40 (0,0)):=heap_alloc_new w _;have hDl:=Cg l;have HS:∀(w':World) (B b:Nat) (v:Value),Nf w' B b v l->B<=w'.heap.size->0 < B->C2 w'->Calls prog 44 #[.pointer (some ⟨b,0,none⟩)] w' fun e w''=>e=.returned (.agg ((Sha.sum l).map U8).toArray)/\Below w'.heap.size w' w'':=fun w' B b v h hB h0 hk=>Aov h hB h0 hk hl;have hkl:=hk.lt;have hsz1:w.heap.size < (w.alloc (.cells (z.map U8).toArray 40)).heap.size:=Dk r2;have HK:=Lib.hid hk;clear hk;generalize Sha.sum l=D at *;have fc:=Abi D hDl;have hov:=Abj D;have ky:(z.map U8).toArray.size=(D.map U8).toArray.size:=by rw[List.size_toArray,List.size_toArray,List.length_map,List.length_map,hDl,hzl]
 go_enter func25,ntmps25
 go_wp2_with fail
 generalize w.alloc (.cells (z.map U8).toArray 40)=w1 at *;refine NW.mono ?_;rintro e w2 ⟨b,rfl,hbl,hh,hb2⟩;have ly:=hb1.trans (hb2.mono hb1.size);have WR:=Agj hh hb2.size (by omega) (HK.out.keeps (Bm.below ly)) a cap l (hr.keeps (Bm.below ly)) (by simp;omega) (fun hm ad e=>⟨by have:=hlt hm ad e;omega,by simp[Value.ownBlock]⟩);clear NW
 go_wp2_with fail
 refine WR.mono ?_;rintro e w3 ⟨v3,rfl,hh3,bg,_⟩;rw[List.nil_append] at hh3;have hb3:Below w1.heap.size w2 w3:=bg.below (fun q e=>by
  rcases e with e|e
  ·omega
  ·simp[Value.ownBlock] at e) hb2.size
 have je:=ly.trans (hb3.mono hb1.size);have hs13:w1.heap.size<=w3.heap.size:=Nat.le_trans hb2.size hb3.size;have SU:=HS w3 w1.heap.size b v3 hh3 hs13 (by omega) (HK.out.keeps (Bm.below je));have r3:=((hb2.trans hb3).block w.heap.size hsz1).trans r2;clear WR HS
 go_wp2_with fail
 refine SU.mono ?_;rintro e w4 ⟨rfl,hb4⟩;have lw:=je.trans (hb4.mono je.size);have r4:=(hb4.block w.heap.size (Dk r3)).trans r3;have hr4:(w4.setRow w.heap.size (D.map U8).toArray).heap[w.heap.size]?=some (.cells (D.map U8).toArray 40 (0,0)):=setRow_heap w4 w.heap.size _ _ 40 _ r4;have tR:Touch (fun q=>q=w.heap.size) w4 (w4.setRow w.heap.size (D.map U8).toArray):=Touch.setRow w4 _ _ rfl;clear SU hh hh3;generalize hE:(D.map U8).toArray=E at *;have HE:=Lib.hid hE;clear hE
 go_wp2_with (refine wpList_store_row rfl 40 _ _ rfl w.heap.size E rfl rfl _ (z.map U8).toArray r4 fc ky hov ?_)
 refine bodyPost_ret (results_cell_row rfl _ _ w.heap.size _ E _ _ rfl hr4 underlying40 rfl fc) rfl ?_;exact⟨by rw[HE.out],lw.trans (tR.below (fun q e=>by have e2:q=w.heap.size:=e;omega) lw.size)⟩
theorem Aor (x:BitVec 64) (k:Nat):Ts x (k+1)=Ts x k++[(x >>> (8 * k)).setWidth 8]:=by simp[Ts,List.range_succ]
theorem Atv (y:BitVec 64):(y % 256#64).setWidth 8=y.setWidth 8:=by
 apply BitVec.eq_of_toNat_eq;simp[BitVec.toNat_setWidth,BitVec.toNat_umod]
theorem Aud (y:BitVec 64):y / 256#64=y >>> 8:=by
 apply BitVec.eq_of_toNat_eq;simp[BitVec.toNat_udiv,BitVec.toNat_ushiftRight,Nat.shiftRight_eq_div_pow]
def Asw (x:BitVec 64) (n B:Nat) (w:World) (x0 s i:Value) (wr:World):Prop :=
 ∃k:Nat,k<=n/\x0=F6 (x >>> (8 * k))/\C6 wr B 5 s (Ts x k)/\i=.int .i64 k/\Below B w wr
theorem Ac1 (x:BitVec 64) (n:Nat) (h1:1<=n) (h8:n<=8) (w:World):Calls prog 50 #[F6 x,.int .i64 n] w fun e w' =>
  ∃v,e=.returned v/\C6 w' w.heap.size 5 v (Ts x n)/\Below w.heap.size w w':=by
 have hb1:(1:Int)<=n:=by omega
 have hb2:(n:Int)<=8:=by omega
 obtain⟨B,hB⟩:∃B,w.heap.size=B:=⟨_,rfl⟩;rw[hB]
 go_enter func50,ntmps50
 go_wp2
 go_loopw [0,5,6] (fun x0 s i wr=>Asw x n B w x0 s i wr) (fun _ _ i _=>n - (intOf i).toNat)
 case atStart=>exact⟨0,by omega,by simp,Ij _ _ _,rfl,hB ▸ Below.refl _ _⟩
 case round =>
  obtain⟨k,hk,rfl,ho,rfl,ae⟩:=hrel;have hlk:=Gt x k;have il:=Aor x k;generalize hll:Ts x k=l at *;have HLL:=Lib.hid hll;clear hll;generalize hy:x >>> (8 * k)=y at *;have HY:=Lib.hid hy;have HSN:=Lib.hid il;clear hy il;obtain⟨a,cap,rfl,_⟩:=ho.reads;by_cases hlt:k < n
  ·have hbs:=ae.size;have rz:=H6 wr #[U8 (y.setWidth 8)] 5 (0,0) [y.setWidth 8] rfl (by simp);have ho':=ho.below (w':=wr.alloc (.cells #[U8 (y.setWidth 8)] 5)) ((Below.refl _ _).alloc (Nat.le_refl _) _);have hz':B<=(wr.alloc (.cells #[U8 (y.setWidth 8)] 5)).heap.size:=by simp;omega
   have hlen:l.length+1<=140737488355328:=by omega
   have hm:=Atv y;have hd:=Aud y;clear hlk
   go_wp2_with (at_builtin;refine As Ay rfl _ _ rfl B (.slice a l.length cap) l rfl ho' (some ⟨wr.heap.size,0,none⟩) 1 [y.setWidth 8] rfl rz hlen hz' ?_;intro v5 w5 cj lj _)
   go_roundw
   case rel =>
    refine⟨k+1,by omega,?_,?_,by go_num,Fc ae (by omega) ho' lj⟩
    ·rw[<- HY.out,<- BitVec.shiftRight_add];rfl
    ·rw[HSN.out];exact cj
   case measure=>simp[intOf];omega
  ·obtain rfl:k=n:=by omega
   go_wp2
   go_ret
   exact⟨_,rfl,HLL.out ▸ ho,ae⟩
theorem Ac4 (l:List (BitVec 8)) (k m:Nat) (h:k+m+1=l.length):l.reverse.take (k+1)=l.reverse.take k++[Ad l m]:=by
 rw[List.take_succ_eq_append_getElem (by simp;omega),List.getElem_reverse,Cm (by omega)]
 congr 3
 omega
def Apt (l:List (BitVec 8)) (B:Nat) (w:World) (s i:Value) (wr:World):Prop :=
 ∃(k:Nat),k<=l.length/\C6 wr B 5 s (l.reverse.take k)/\i=.int .i64 ((l.length:Int) - 1 - k)/\Below B w wr
theorem Zl (a:Option Addr) (cap:Nat) (l:List (BitVec 8)) (w:World) (hr:A0 w a cap l) (hl:l.length<=1000):Calls prog 83 #[.slice a l.length cap] w fun e w' =>
  ∃v,e=.returned v/\C6 w' w.heap.size 5 v l.reverse/\Below w.heap.size w w':=by
 obtain⟨B,hB⟩:∃B,w.heap.size=B:=⟨_,rfl⟩;rw[hB];have hlN:(l.length:Int)<=1000:=by omega
 go_enter func83,ntmps83
 go_wp2
 go_loopw [3,4] (fun s i wr=>Apt l B w s i wr) (fun _ i _=>(intOf i+1).toNat)
 case atStart=>exact⟨0,by omega,Ij _ _ _,by simp,hB ▸ Below.refl _ _⟩
 case round =>
  obtain⟨k,hk,ho,rfl,ae⟩:=hrel;by_cases hlt:k < l.length
  ·obtain⟨m,hm⟩:∃m:Nat,(l.length:Int) - 1 - k=m:=⟨l.length - 1 - k,by omega⟩;have vk:k+m+1=l.length:=by omega
   rw[hm];obtain⟨b,off,rfl,hby⟩:=hr.bytes.resolve_left (fun e=>by rw[e] at hlt;simp at hlt);have hc:wr.cell? ⟨b,off+m,none⟩=some (U8 (Ad l m)):=(hby.mono (Bm.below (hB ▸ ae) ⟨b,·,none⟩)) m (by omega);have il:=Ac4 l k m vk;have hlk:(l.reverse.take k).length<=1000:=by rw[List.length_take,List.length_reverse];omega
   generalize l.reverse.take k=t at *;obtain⟨a5,c5,rfl,_⟩:=ho.reads;have HSN:=Lib.hid il;have HM:=Lib.hid hm;have cu:m < l.length:=by omega
   have HKM:=Lib.hid vk;clear il hm vk hby hr;generalize Ad l m=c at *;have hbs:=ae.size;have rz:=H6 wr #[U8 c] 5 (0,0) [c] rfl (by simp);have ho':=ho.below (w':=wr.alloc (.cells #[U8 c] 5)) ((Below.refl _ _).alloc (Nat.le_refl _) _);have hz':B<=(wr.alloc (.cells #[U8 c] 5)).heap.size:=by simp;omega
   have hlen:t.length+1<=140737488355328:=by omega
   go_wp2_with (at_builtin;refine As Ay rfl _ _ rfl B (.slice a5 t.length c5) t rfl ho' (some ⟨wr.heap.size,0,none⟩) 1 [c] rfl rz hlen hz' ?_;intro v6 w5 cj lj _)
   go_roundw
   case rel =>
    have h2:=HM.out;refine⟨k+1,by omega,?_,by simp only[Value.int.injEq,true_and];omega,Fc ae (by omega) ho' lj⟩;rw[HSN.out];exact cj
   case measure=>simp[intOf]<;>omega
  ·obtain rfl:k=l.length:=by omega
   rw[show (l.length:Int) - 1 - (l.length:Nat)=-1 by omega];rw[List.take_of_length_le (by simp)] at ho;clear hr;go_wp2
   go_ret
   exact⟨_,rfl,ho,ae⟩
theorem Atq (x:BitVec 64) (c:BitVec 8):x * 256#64+c.setWidth 64=x <<< 8 ||| c.setWidth 64:=by
 have h1:x * 256#64=x <<< 8:=by
  apply BitVec.eq_of_toNat_eq;simp[BitVec.toNat_mul,BitVec.toNat_shiftLeft,Nat.shiftLeft_eq]
 rw[h1];apply BitVec.add_eq_or_of_and_eq_zero;apply BitVec.eq_of_getLsbD_eq;intro i hi;simp only[BitVec.getLsbD_and,BitVec.getLsbD_shiftLeft,BitVec.getLsbD_setWidth,hi,decide_true,Bool.true_and,BitVec.getLsbD_zero];by_cases h:i < 8
 ·simp[h]
 ·rw[BitVec.getLsbD_of_ge c _ (by omega)];simp
def Asy (l:List (BitVec 8)) (w:World) (x i:Value) (wr:World):Prop :=
 ∃(k:Nat),k<=l.length/\x=F6 (Gm (l.reverse.take k))/\i=.int .i64 ((l.length:Int) - 1 - k)/\wr=w
theorem Am1 (b off cap:Nat) (l:List (BitVec 8)) (w:World) (h1:1<=l.length) (h8:l.length<=8) (hb:Bf w b off l) :
  Calls prog 85 #[.slice (some ⟨b,off,none⟩) l.length cap] w fun e w'=>e=.returned (.tuple #[F6 (Gm l.reverse),.bool true])/\w=w':=by
 have hl0:¬((l.length:Int)=0):=by omega
 have vg:((l.length:Int)==0)=false:=by simpa using hl0
 have jh:(l.length:Int)<=8:=by omega
 go_enter func85,ntmps85
 go_wp2
 go_loopw [4,5] (fun x i wr=>Asy l w x i wr) (fun _ i _=>(intOf i+1).toNat)
 case atStart=>exact⟨0,Nat.zero_le _,rfl,by simp,rfl⟩
 case round =>
  obtain⟨k,hk,rfl,rfl,hw⟩:=hrel;by_cases hlt:k < l.length
  ·obtain⟨m,hm⟩:∃m:Nat,(l.length:Int) - 1 - k=m:=⟨l.length - 1 - k,by omega⟩;have vk:k+m+1=l.length:=by omega
   rw[hm];have hc:wr.cell? ⟨b,off+m,none⟩=some (U8 (Ad l m)):=hw ▸ hb m (by omega);have il:=Ac4 l k m vk;have hbg:Gm (l.reverse.take (k+1))=Gm (l.reverse.take k) * 256#64+(Ad l m).setWidth 64:=by
    rw[Atq,il];unfold Gm;rw[List.foldl_append];rfl
   have HM:=Lib.hid hm;have HG:=Lib.hid hbg;have cu:m < l.length:=by omega
   have HW:=Lib.hid hw;have HKM:=Lib.hid vk;clear il hm hbg vk hb hw;generalize Ad l m=c at *;generalize Gm (l.reverse.take k)=x at *;go_wp2
   go_roundw
   case rel =>
    have h2:=HM.out;exact⟨k+1,by omega,by rw[HG.out],by simp only[Value.int.injEq,true_and];omega,HW.out⟩
   case measure=>simp[intOf]<;>omega
  ·obtain rfl:k=l.length:=by omega
   rw[show (l.length:Int) - 1 - (l.length:Nat)=-1 by omega];rw[List.take_of_length_le (by simp)];have HW:=Lib.hid hw;clear hw hb;go_wp2
   go_ret2
   exact⟨rfl,HW.out.symm⟩
theorem Va {P:Program} (w:World) (B:Nat) (t ty e:TypeId) (z:Value) (bytes:Nat) (T:Aet P t e z bytes) (g n cap:Nat) (xs:List Value) (hown:w.ownsRow B e 1 (.slice (some ⟨g,0,none⟩) n cap) n xs)
  (ad:Addr) (c:Nat) (u:Value) (hu:w.cell? ad=some u) (h1:u.oneCell'=true) (hlen:n+1<=9223372036854775807) (hby:(n+1) * bytes<=140737488355328) (hbase:B<=w.heap.size) :
  ∃v' w',(Builtin.append_ #[t,t] ty #[.slice (some ⟨g,0,none⟩) n cap,.slice (some ad) 1 c]).run P w=.ok v' w'/\w'.ownsRow B e 1 v' (n+1) (xs++[u])/\w.grownBy w' (some g) /\
   (v'.ownBlock=some g\/v'.ownBlock=some w.heap.size)/\∀j,j < n->w'.cell? ⟨g,j,none⟩=w.cell? ⟨g,j,none⟩:=by
 obtain⟨i,hi,hz0,hz1,hz2⟩:=info_parts T.info;have hnews:∀j x,[u][j]?=some x->w.cell? (ad.add j)=some x:=fun j x hj=>by
  cases j with
  | zero=>simp at hj;subst hj;rw[Aab];exact hu
  | succ j=>simp at hj
 have hone:∀x∈[u],x.oneCell'=true:=fun x hx=>by simp at hx;subst hx;exact h1
 by_cases hroom:n+1<=cap
 ·obtain⟨w',hr,ho,hg⟩:=run_append_fits (P:=P) w B t ty e i 1 T.slice hi hz1 g n cap xs hown ad 1 c [u] (by simp) hnews hone hroom;refine⟨_,w',hr,ho,hg,.inl rfl,fun j hj=>?_⟩;rw[ho.cellAt j (by omega),hown.cellAt j (by omega),List.getElem?_append_left (by rw[hown.1];omega)]
 ·obtain⟨v',w',hr,ho,hg,_,hb⟩:=run_append_own_at (P:=P) w B t ty e i z 1 bytes T.slice hi hz0 hz1 hz2 T.one (by decide) _ n xs hown ad 1 c [u] (by simp) hnews hone (by unfold maxLen;omega) hby hbase;refine⟨v',w',hr,ho,hg,hb,fun j hj=>?_⟩;have hcap:cap<=n:=by omega
  have hlt:g < w.heap.size:=(hown.lt g rfl).2;have hold:∀j x,xs[j]?=some x->w.cell? ((⟨g,0,none⟩:Addr).add j)=some x:=hown.cells (g:=g) rfl;have hr2:=run_append_grow (P:=P) w t ty e i z T.slice hi hz0 ⟨g,0,none⟩ n cap xs (by rw[hz1];exact hown.1) hold ad 1 c [u] (by rw[hz1];rfl) hnews (by omega) (by omega) (growslice_fits (by omega) (by rw[hz2];exact hby));rw[hr] at hr2;injection hr2 with _ hw;rw[hw,World.cell?_of_block (w:=w)];exact Below.heap_alloc w.drew _ g hlt
theorem Oe {P:Program} {w:World} {ops:Array Oper} {rest:List Oper} {o:Oper} {act:Act} {Q:Exit->Act->World->Prop} {t e:TypeId} {z:Value} {bytes:Nat} (T:Aet P t e z bytes)
  (hgd:o.guard=none) (s x:Operand) (ho:o.op=.call { callee:=.builtin .append,args:=#[s,x],argTypes:=#[t,t] })
  (B g n cap:Nat) (xs:List Value) (hs:act.eval s=.slice (some ⟨g,0,none⟩) n cap) (hown:w.ownsRow B e 1 (.slice (some ⟨g,0,none⟩) n cap) n xs)
  (ad:Addr) (c:Nat) (u:Value) (hx:act.eval x=.slice (some ad) 1 c) (hu:w.cell? ad=some u) (h1:u.oneCell'=true)
  (hlen:n+1<=9223372036854775807) (hby:(n+1) * bytes<=140737488355328) (hbase:B<=w.heap.size)
  (h:∀v' w',w'.ownsRow B e 1 v' (n+1) (xs++[u])->w.grownBy w' (some g)->(v'.ownBlock=some g\/v'.ownBlock=some w.heap.size)->(∀j,j < n->w'.cell? ⟨g,j,none⟩=w.cell? ⟨g,j,none⟩)->wpList P ops Q rest (act.put o.dst v') w') :
  wpList P ops Q (o::rest) act w:=by
 refine wpList_plain hgd fun K hK=>?_;obtain⟨v',w',hr,h2,h3,h4,h5⟩:=Va (P:=P) w B t o.type e z bytes T g n cap xs hown ad c u hu h1 hlen hby hbase;unfold Oper.wp execOp;simp only[ho,resolve,invoke,builtin,Sem.run_bind,Sem.run_pure,Result.andThen_ok,List.map_toArray,List.map_cons,List.map_nil,hs,hx,hr];exact hK _ _ (h v' w' h2 h3 h4 h5)
def Cr (w:World) (B:Nat) (v:Value) (f:Bv):Prop:=w.ownsRow B 22 1 v f.length (f.map Af)
theorem Y5:Aet prog 102 22 (.int .u32 0) 4:=⟨by kernel_rfl,by kernel_rfl,rfl⟩
section
variable {w w':World} {B:Nat} {v:Value} {f:Bv}
theorem Aj2 (w:World) (B:Nat):Cr w B (.slice none 0 0) []:=World.ownsRow_nil w B _ 1
theorem Cr.below (h:Cr w B v f) (hb:Below w.heap.size w w'):Cr w' B v f:=Touch.row (F:=fun _=>False) (.of_below hb) h fun _ _ e=>e
theorem Cr.touch {F:Nat->Prop} (h:Cr w B v f) (t:Touch F w w') (hn:∀k,v.ownBlock=some k->¬F k):Cr w' B v f:=t.row h hn
theorem Cr.form (h:Cr w B v f) (hf:f≠[]):∃g cap,v=.slice (some ⟨g,0,none⟩) f.length cap/\f.length<=cap/\cap<=9223372036854775807/\B<=g/\g < w.heap.size/\∀j,j < f.length->w.cell? ⟨g,j,none⟩=some (Af (Ac f j)):=by
 have hl:f.length≠0:=fun e=>hf (List.eq_nil_of_length_eq_zero e);rcases h.2 with⟨_,h0⟩|⟨g,cap,cur,rfl,hb,hh,hn,hc,_⟩
 ·exact(hl h0).elim
 ·refine⟨g,cap,rfl,hn,by unfold maxLen at hc;omega,hb,Dk hh,fun j hj=>?_⟩;rw[World.ownsRow.cellAt h j (by omega),List.getElem?_map,List.getElem?_eq_getElem hj];simp[Ac,List.getD_eq_getElem?_getD,List.getElem?_eq_getElem hj]
theorem Cr.anyForm (h:Cr w B v f):∃a cap,v=.slice a f.length cap:=by
 rcases h.2 with⟨rfl,h0⟩|⟨g,cap,cur,rfl,_⟩
 ·exact⟨none,0,by rw[h0]⟩
 ·exact⟨_,_,rfl⟩
end
theorem Pm (x:BitVec 32) (N:Int) (h1:1<=N) (h2:N<=31) (w:World) (j:Nat):Calls prog 84 #[Af x,.int .u64 N] (w.drewN j) fun e w''=>e=.returned (Af (Sha.rotr x N.toNat))/\∃m,w''=w.drewN m:=by
 obtain⟨n,rfl⟩:∃n:Nat,N=n:=⟨N.toNat,by omega⟩;exact(Fp x n (by omega) (by omega) _).mono fun _ _ ⟨he,hw⟩=>⟨he,j,hw.symm⟩
theorem Avo (x:BitVec 32):x / 8#32=x >>> 3:=by
 apply BitVec.eq_of_toNat_eq;simp[BitVec.toNat_udiv,BitVec.toNat_ushiftRight,Nat.shiftRight_eq_div_pow]
theorem Asi (x:BitVec 32):x / 1024#32=x >>> 10:=by
 apply BitVec.eq_of_toNat_eq;simp[BitVec.toNat_udiv,BitVec.toNat_ushiftRight,Nat.shiftRight_eq_div_pow]
theorem Aiv (S:Bv) (k:Nat) (h:k < S.length):S.take (k+1)=S.take k++[Ac S k]:=by
 rw[List.take_succ_eq_append_getElem h];simp[Ac,List.getD_eq_getElem?_getD,List.getElem?_eq_getElem h]
theorem Ab0 (S:Bv) (k j:Nat) (h:j < k):Ac (S.take k) j=Ac S j:=by simp[Ac,List.getD_eq_getElem?_getD,h]
theorem Ael (w:World) (u:Value) (t:TypeId):(w.alloc (.cells #[u] t)).cell? ⟨w.heap.size,0,none⟩=some u:=by
 unfold World.cell?;rw[heap_alloc_new];rfl
theorem Cr.at_ {w:World} {B:Nat} {a:Option Addr} {c k:Nat} {f:Bv} (h:Cr w B (.slice a f.length c) f) (hk:f.length=k):w.ownsRow B 22 1 (.slice a k c) k (f.map Af):=by subst hk;exact h
theorem Cr.snoc {w:World} {B k:Nat} {v:Value} {f:Bv} {x:BitVec 32} (h:w.ownsRow B 22 1 v (k+1) (f.map Af++[Af x])) (hk:f.length=k):Cr w B v (f++[x]):=by
 subst hk;unfold Cr;rw[List.length_append,List.map_append];exact h
def Ale (S:Bv) (B:Nat) (w:World) (s i:Value) (wr:World):Prop :=
 ∃k:Nat,k<=64/\Cr wr B s (S.take k)/\i=.int .i64 k/\Below B w wr
def Gi (g m n:Nat) (x y:BitVec 32) (w:World):Prop:=w.cell? ⟨g,m,none⟩=some (Af x)/\w.cell? ⟨g,n,none⟩=some (Af y)
theorem Y2 {B:Nat} {w w2 w3:World} {o:Obj} {v:Value} {f:Bv} (hb:Below B w w2) (hB:B<=w.heap.size) (ho:Cr (w2.alloc o) B v f) (hg:(w2.alloc o).grownBy w3 v.ownBlock):Below B w w3:=by
 have h1:=hb.size;have h2:B<=(w2.alloc o).heap.size:=by simp;omega
 exact(hb.alloc (by omega) o).trans ((Touch.of_grown (F:=fun k=>v.ownBlock=some k) hg fun k hk=>hk).below (fun k hk=>(Dm ho hk).1) h2)
theorem Afg (b off cap:Nat) (l:List (BitVec 8)) (w:World) (hl:l.length=64) (hcap:64<=cap) (hcm:cap<=9223372036854775807) (hb:Bf w b off l) :
  Calls prog 49 #[.slice (some ⟨b,off,none⟩) 64 cap] w fun e w'=>∃v,e=.returned v/\Cr w' w.heap.size v (Sha.sched l)/\Below w.heap.size w w':=by
 have ma:=Sha.length_sched l;have bj:=Lib.hid (Sha.sched_low l);have pj:=Lib.hid (Sha.sched_high l);generalize Sha.sched l=S at *;obtain⟨B,hB⟩:∃B,w.heap.size=B:=⟨_,rfl⟩;rw[hB]
 go_enter func49,ntmps49
 go_wp2
 go_loopw [3,4] (fun s i wr=>Ale S B w s i wr) (fun _ i _=>64 - (intOf i).toNat)
 case atStart=>exact⟨0,by omega,Aj2 _ _,rfl,hB ▸ Below.refl _ _⟩
 case round =>
  obtain⟨k,hk,ho,rfl,ae⟩:=hrel;by_cases hlt:k < 64
  ·have htk:=Aiv S k (by omega);have hfl:(S.take k).length=k:=by rw[List.length_take];omega
   have hwt:=fun j (h:j < k)=>Ab0 S k j h;by_cases h16:k < 16
   ·have hs:=fun w=>Ii (P:=prog) Ay w (some ⟨b,off,none⟩) 64 cap .i64 .i64 (4 * k) (4 * k+4) (4 * (k:Int)) (4 * (k:Int)+4) (by omega) (by omega) (by omega) (by omega);have wn:Cf (some ⟨b,off,none⟩) cap (4 * k)=some ⟨b,off+4 * k,none⟩:=by
     unfold Cf;rw[if_neg (by omega),Option.map_some,Addr.add_lit]
    rw[wn,show 4 * k+4 - 4 * k=4 by omega] at hs;have kr:((l.drop (4 * k)).take 4).length=4:=by rw[List.length_take,List.length_drop];omega
    have gy:Bf wr b (off+4 * k) ((l.drop (4 * k)).take 4):=((hb.mono (Bm.below (hB ▸ ae) ⟨b,·,none⟩)).drop (4 * k)).take 4;have hrm:A0 wr (some ⟨b,off+4 * k,none⟩) (cap - 4 * k) ((l.drop (4 * k)).take 4):=⟨by omega,by omega,(by intro e;cases e),.inr ⟨_,_,rfl,gy⟩⟩;have hbig:=Au9 _ kr;have bt:∀j,j < 4->Ad ((l.drop (4 * k)).take 4) j=Ad l (4 * k+j):=fun j hj=>by rw[Na hj,Nb]
    rw[bt 0 (by omega),bt 1 (by omega),bt 2 (by omega),bt 3 (by omega)] at hbig;have jd:(Gm ((l.drop (4 * k)).take 4)).setWidth 32=Ac S k:=hbig.trans (bj.out k h16).symm;generalize (l.drop (4 * k)).take 4=m at *;have BK:=Zl (some ⟨b,off+4 * k,none⟩) (cap - 4 * k) m wr hrm (by omega);rw[kr] at BK;have HBIG:=Lib.hid jd;have HTK:=Lib.hid htk;have HHB:=Lib.hid hb;have HRM4:=Lib.hid kr;clear hbig jd bt wn htk hb kr hrm gy;generalize S.take k=f at *;have hbs:=ae.size
    go_wp2_with fail
    refine BK.mono ?_;rintro e w2 ⟨v2,rfl,ic,hb2⟩;obtain⟨mr,hmr⟩:∃q,m.reverse=q:=⟨_,rfl⟩;have cu:mr.length=4:=by rw[<- hmr,List.length_reverse];exact HRM4.out
    have hbig:(Gm mr.reverse).setWidth 32=Ac S k:=by rw[<- hmr,List.reverse_reverse];exact HBIG.out
    rw[hmr] at ic;clear hmr;obtain⟨a2,c2,rfl,hr2⟩:=ic.reads;obtain⟨b2,off2,rfl,hby2⟩:=hr2.bytes.resolve_left (fun e=>by rw[e] at cu;simp at cu);have GT:=Am1 b2 off2 c2 mr w2 (by omega) (by omega) hby2;generalize Gm mr.reverse=x at *;have HB2:=Lib.hid hbig;have HML:=Lib.hid cu;clear hbig cu;clear BK hs
    go_wp2_with fail
    refine GT.mono ?_;rintro e w3 ⟨rfl,rfl⟩;have mz:=Cr.below ho hb2;have hcell:(w2.alloc (.cells #[Af (x.setWidth 32)] 22)).cell? ⟨w2.heap.size,0,none⟩=some (Af (x.setWidth 32)):=Ael w2 _ _;have xz:=Cr.below mz (w':=w2.alloc (.cells #[Af (x.setWidth 32)] 22)) ((Below.refl _ _).alloc (Nat.le_refl _) _);have hs2:=hb2.size;have hz':B<=(w2.alloc (.cells #[Af (x.setWidth 32)] 22)).heap.size:=by simp;omega
    obtain⟨a0,c0,rfl⟩:=ho.anyForm;have kz:=xz.at_ hfl;have HO3:=Lib.hid xz;have hbb:=(ae.trans (hb2.mono (hB ▸ hbs)));clear ho GT mz xz
    go_wp2_with (at_builtin;refine Da Y5 rfl _ _ rfl B (.slice a0 k c0) k (f.map Af) rfl kz ⟨w2.heap.size,0,none⟩ 1 (Af (x.setWidth 32)) rfl hcell rfl (by omega) (by omega) hz' ?_;intro v5 w5 cj lj _)
    go_roundw
    case rel =>
     refine⟨k+1,by omega,?_,by go_num,Y2 hbb (by omega) HO3.out (by rw[hfl];exact lj)⟩;rw[HTK.out,<- HB2.out];exact Cr.snoc cj hfl
    case measure=>simp[intOf];omega
   ·obtain⟨n15,e15⟩:∃n:Nat,(k:Int) - 15=n:=⟨k - 15,by omega⟩;obtain⟨n2,e2⟩:∃n:Nat,(k:Int) - 2=n:=⟨k - 2,by omega⟩;obtain⟨n16,e16⟩:∃n:Nat,(k:Int) - 16=n:=⟨k - 16,by omega⟩;obtain⟨n7,e7⟩:∃n:Nat,(k:Int) - 7=n:=⟨k - 7,by omega⟩;have l15:n15 < k:=by omega
    have l2:n2 < k:=by omega
    have l16:n16 < k:=by omega
    have l7:n7 < k:=by omega
    have ac:=pj.out k (by omega) hlt;have bv:Ac S k=Ac S n16+Sha.small0 (Ac S n15)+Ac S n7+Sha.small1 (Ac S n2):=by
     rw[show n16=k - 16 by omega,show n15=k - 15 by omega,show n7=k - 7 by omega,show n2=k - 2 by omega];exact ac
    rw[<- hwt n16 l16,<- hwt n15 l15,<- hwt n7 l7,<- hwt n2 l2] at bv;generalize S.take k=f at *;obtain⟨g,c0,rfl,hc1,hc2,hBg,hgl,hcell⟩:=Cr.form ho (fun e=>by rw[e] at hfl;simp at hfl;omega);have c15:=hcell n15 (by omega);have c2:=hcell n2 (by omega);have c16:=hcell n16 (by omega);have c7:=hcell n7 (by omega);have HN:=Lib.hid bv;have HTK:=Lib.hid htk;have HBW:=Lib.hid ae;have HHB:=Lib.hid hb;have kz:=ho.at_ hfl;have HO:=Lib.hid kz;have HFL:=Lib.hid hfl;rw[hfl];clear ac bv htk hwt ae hb hcell ho kz hfl;generalize Ac f n15=x15 at *;generalize Ac f n2=x2 at *;generalize Ac f n16=x16 at *;generalize Ac f n7=x7 at *;have d8:=Avo x15;have d1024:=Asi x2;go_wp2
    go_quiet (exact Pm _ _ (by decide) (by decide) _ _)
    have f2:(wr.drewN nq).cell? ⟨g,n2,none⟩=some (Af x2):=c2;have f16:(wr.drewN nq).cell? ⟨g,n16,none⟩=some (Af x16):=c16;have f7:(wr.drewN nq).cell? ⟨g,n7,none⟩=some (Af x7):=c7;have HO1:Hid ((wr.drewN nq).ownsRow B 22 1 (.slice (some ⟨g,0,none⟩) k c0) k (f.map Af)):=Lib.hid HO.out;have HB1:Hid (Below B w (wr.drewN nq)):=Lib.hid (below_drewN HBW.out nq);clear c15 c2 c16 c7 HO HBW hgl;generalize wr.drewN nq=w6 at *;go_wp2
    go_quiet (exact Pm _ _ (by decide) (by decide) _ _)
    have g16:(w6.drewN nq).cell? ⟨g,n16,none⟩=some (Af x16):=f16;have g7:(w6.drewN nq).cell? ⟨g,n7,none⟩=some (Af x7):=f7;have HO2:Hid ((w6.drewN nq).ownsRow B 22 1 (.slice (some ⟨g,0,none⟩) k c0) k (f.map Af)):=Lib.hid HO1.out;have HB2:Hid (Below B w (w6.drewN nq)):=Lib.hid (below_drewN HB1.out nq);clear f2 f16 f7 HO1 HB1;generalize w6.drewN nq=w7 at *;generalize hp:Sha.rotr x15 7 ^^^ Sha.rotr x15 18 ^^^ x15 >>> 3=p at *;generalize hq:Sha.rotr x2 17 ^^^ Sha.rotr x2 19 ^^^ x2 >>> 10=q at *;have HP:=Lib.hid hp;have HQ:=Lib.hid hq;clear hp hq d8 d1024
    go_wp2_with fail
    have C16:∀x:Of (Gi g n16 n7 x16 x7),x.to.cell? ⟨g,n16,none⟩=some (Af x16):=fun x=>x.ok.1;have C7:∀x:Of (Gi g n16 n7 x16 x7),x.to.cell? ⟨g,n7,none⟩=some (Af x7):=fun x=>x.ok.2;have tw:Gi g n16 n7 x16 x7 w7:=⟨g16,g7⟩
    haveI:Nonempty (Of (Gi g n16 n7 x16 x7)):=As4 tw
    refine B7 [([0,1,2,3,4,5,6,7,8,9,10,11,12,13,14,15],some 16),([],some 17),([18],none)] (fun w'=>∃x:Of (Gi g n16 n7 x16 x7),w'=x.to) (by kernel_rfl) (by kernel_rfl) (fun _ _ d _ _ h=>by cases d<;>exact h) (Wi (w:=w7.drew) (S:=Gi g n16 n7 x16 x7) tw) ?_;refine Bb (show wpQuiet _ _ _ _ (_::_::_::_::_::_::_::_::_::_::_::_::_::_::_::_::[]) _ from ?_)
    repeat (go_big_quiet_step (fail))
    refine wpQuiet_nil (show wpList _ _ _ (_::[]) _ _ from ?_);have tw2:Gi g n16 n7 x16 x7 w7.drew:=tw;have HO3:Hid (w7.drew.ownsRow B 22 1 (.slice (some ⟨g,0,none⟩) k c0) k (f.map Af)):=Lib.hid HO2.out;have HB3:Hid (Below B w w7.drew):=Lib.hid (HB2.out.drew);clear C16 C7 g16 g7 tw HO2 HB2;generalize w7.drew=w8 at *
    go_wp2_with fail
    have hx:x16+p+x7+q=Ac S k:=by rw[<- HP.out,<- HQ.out];exact HN.out.symm
    rw[hx];generalize Ac S k=x at *;have ry:=HB3.out.size;have tw3:Gi g n16 n7 x16 x7 (w8.alloc (.cells #[Af x] 22)):=⟨Bm.alloc w8 _ _ _ tw2.1,Bm.alloc w8 _ _ _ tw2.2⟩;have hcell:(w8.alloc (.cells #[Af x] 22)).cell? ⟨w8.heap.size,0,none⟩=some (Af x):=Ael w8 _ _;have ho9:(w8.alloc (.cells #[Af x] 22)).ownsRow B 22 1 (.slice (some ⟨g,0,none⟩) k c0) k (f.map Af):=Touch.row (F:=fun _=>False) ((Touch.refl _ _).alloc _) HO3.out fun _ _ e=>e;have hz':B<=(w8.alloc (.cells #[Af x] 22)).heap.size:=by simp;omega
    have hb9:Below B w (w8.alloc (.cells #[Af x] 22)):=HB3.out.alloc (by omega) _;refine Ap (fun _ h=>h) (Wi tw3) ?_;generalize w8.alloc (.cells #[Af x] 22)=w9 at *;refine Bb (show wpQuiet _ _ _ _ [] _ from ?_);refine wpQuiet_nil (show wpList _ _ _ (_::[]) _ _ from ?_);refine Oe Y5 rfl _ _ rfl B g k c0 (f.map Af) rfl ho9 ⟨w8.heap.size,0,none⟩ 1 (Af x) rfl hcell rfl (by omega) (by omega) hz' ?_;intro v10 w10 ho10 hg10 jf pd;have tw4:Gi g n16 n7 x16 x7 w10:=⟨by rw[pd n16 l16];exact tw3.1,by rw[pd n7 l7];exact tw3.2⟩;have bu:Below B w w10:=hb9.trans ((Touch.of_grown (F:=fun q=>q=g) hg10 fun q hq=>(Option.some.inj hq).symm).below (fun q e=>by have e2:q=g:=e;omega) hz');have HOF:=Lib.hid ho10;have HBF:=Lib.hid bu;clear ho9 hcell tw3 hb9 pd hg10 jf ho10 bu tw2
    go_wp2_with fail
    refine Ap (fun _ h=>h) (Wi tw4) ?_;refine Dy (show wpQuiet _ _ _ _ (_::[]) _ from ?_)
    repeat (go_big_quiet_step (fail))
    refine wpQuiet_nil ?_;refine Ez ?_;go_wp2
    go_roundw
    case rel =>
     refine⟨k+1,by omega,?_,by go_num,HBF.out⟩;rw[HTK.out];exact Cr.snoc HOF.out HFL.out
    case measure=>simp[intOf];omega
  ·obtain rfl:k=64:=by omega
   rw[show (((64:Nat):Int))=64 from rfl];rw[List.take_of_length_le (by omega)] at ho;clear hb;go_wp2
   go_ret
   exact⟨_,rfl,ho,ae⟩
theorem Aso:Program.built prog 138 [(0,.int .u32 1116352408),(1,.int .u32 1899447441),(2,.int .u32 3049323471),(3,.int .u32 3921009573),(4,.int .u32 961987163),(5,.int .u32 1508970993),(6,.int .u32 2453635748),(7,.int .u32 2870763221),(8,.int .u32 3624381080),(9,.int .u32 310598401),(10,.int .u32 607225278),(11,.int .u32 1426881987),(12,.int .u32 1925078388),(13,.int .u32 2162078206),(14,.int .u32 2614888103),(15,.int .u32 3248222580),(16,.int .u32 3835390401),(17,.int .u32 4022224774),(18,.int .u32 264347078),(19,.int .u32 604807628),(20,.int .u32 770255983),(21,.int .u32 1249150122),(22,.int .u32 1555081692),(23,.int .u32 1996064986),(24,.int .u32 2554220882),(25,.int .u32 2821834349),(26,.int .u32 2952996808),(27,.int .u32 3210313671),(28,.int .u32 3336571891),(29,.int .u32 3584528711),(30,.int .u32 113926993),(31,.int .u32 338241895),(32,.int .u32 666307205),(33,.int .u32 773529912),(34,.int .u32 1294757372),(35,.int .u32 1396182291),(36,.int .u32 1695183700),(37,.int .u32 1986661051),(38,.int .u32 2177026350),(39,.int .u32 2456956037),(40,.int .u32 2730485921),(41,.int .u32 2820302411),(42,.int .u32 3259730800),(43,.int .u32 3345764771),(44,.int .u32 3516065817),(45,.int .u32 3600352804),(46,.int .u32 4094571909),(47,.int .u32 275423344),(48,.int .u32 430227734),(49,.int .u32 506948616),(50,.int .u32 659060556),(51,.int .u32 883997877),(52,.int .u32 958139571),(53,.int .u32 1322822218),(54,.int .u32 1537002063),(55,.int .u32 1747873779),(56,.int .u32 1955562222),(57,.int .u32 2024104815),(58,.int .u32 2227730452),(59,.int .u32 2361852424),(60,.int .u32 2428436474),(61,.int .u32 2756734187),(62,.int .u32 3204031479),(63,.int .u32 3329325298)]=some (Bu Sha.K):=by
 kernel_rfl
def Alh (st:Sha.St) (S:Bv) (w:World) (a b c d e f g h i:Value) (wr:World):Prop :=
 ∃(k n:Nat) (v:Sha.St),k<=64/\v=Sha.rounds st S k/\a=Af v.a/\b=Af v.b/\c=Af v.c/\d=Af v.d/\e=Af v.e/\f=Af v.f/\g=Af v.g/\h=Af v.h/\i=.int .i64 k/\wr=w.drewN n
theorem Afl (v:Sha.St) (xk xs t o:BitVec 32) (ht:v.h+(Sha.rotr v.e 6 ^^^ Sha.rotr v.e 11 ^^^ Sha.rotr v.e 25)+(v.e &&& v.f ||| (v.e ^^^ 4294967295#32) &&& v.g)+xk+xs=t)
  (ho:t+(Sha.rotr v.a 2 ^^^ Sha.rotr v.a 13 ^^^ Sha.rotr v.a 22)+(v.a &&& v.b ||| v.a &&& v.c ||| v.b &&& v.c)=o):Sha.step v xk xs=⟨o,v.a,v.b,v.c,v.d+t,v.e,v.f,v.g⟩:=by
 have h1:=Sha.ch_or v.e v.f v.g;have h2:=Sha.maj_or v.a v.b v.c;rw[h2] at ho;rw[show (4294967295#32)=0xffffffff#32 from rfl,h1] at ht;subst ht ho;simp only[Sha.step,Sha.big1,Sha.big0,BitVec.add_assoc]
theorem Afk (st:Sha.St) (S:Bv) (gs cs gw cw:Nat) (w:World) (hS:S.length=64) (hcs:∀j,j < 8->w.cell? ⟨gs,j,none⟩=some (Af (Ac st.list j))) (hcw:∀j,j < 64->w.cell? ⟨gw,j,none⟩=some (Af (Ac S j))) :
  Calls prog 48 #[.slice (some ⟨gs,0,none⟩) 8 cs,.slice (some ⟨gw,0,none⟩) 64 cw] w fun e w'=>∃v,e=.returned v/\Cr w' w.heap.size v (st.plus (Sha.rounds st S 64)).list/\Below w.heap.size w w':=by
 obtain⟨z,hz,hzl⟩:=Oc;have qw:=Aso;obtain⟨KK,hKK⟩:∃L:Bv,L=Sha.K:=⟨_,rfl⟩;rw[<- hKK] at qw;have hKl:KK.length=64:=by rw[hKK];rfl
 have HKK:=Lib.hid hKK;clear hKK;have fc:(prog.info? 138).map (·.size)=some (Bu KK).size:=by rw[Bi,hKl];kernel_rfl
 have hsz:(Bu z).size=(Bu KK).size:=by rw[Bi,Bi,hKl,hzl]
 have hov:=Hu KK
 go_enter func48,ntmps48
 go_wp2_with (with_reducible refine Li ?roundEnd)
 refine Hp rfl 138 _ rfl (Bu KK) ?hb0 ?nx1
 case hb0=>go_simp
 clear qw;have h3:(w.alloc (.cells (Bu z) 138)).heap[w.heap.size]?=some (.cells (Bu z) 138 (0,0)):=Aw.new w 138 z;have a4:Aw ((w.alloc (.cells (Bu z) 138)).setRow w.heap.size (Bu KK)) w.heap.size 138 KK:=(Aw.new w 138 z).row KK;have t4:Touch (fun q=>q=w.heap.size) w ((w.alloc (.cells (Bu z) 138)).setRow w.heap.size (Bu KK)):=((Touch.refl _ _).alloc _).trans (Touch.setRow _ _ _ rfl);have hb4:=t4.below (B:=w.heap.size) (fun q e=>by have e2:q=w.heap.size:=e;omega) (Nat.le_refl _);have gu:∀j,j < 8->((w.alloc (.cells (Bu z) 138)).setRow w.heap.size (Bu KK)).cell? ⟨gs,j,none⟩=some (Af (Ac st.list j)):=fun j hj=>Bm.below hb4 _ _ (hcs j hj);have hcw4:∀j,j < 64->((w.alloc (.cells (Bu z) 138)).setRow w.heap.size (Bu KK)).cell? ⟨gw,j,none⟩=some (Af (Ac S j)):=fun j hj=>Bm.below hb4 _ _ (hcw j hj);clear hcs hcw
 go_wp2_with (first | (refine wpList_store_row rfl 138 _ _ rfl w.heap.size (Bu KK) rfl rfl _ (Bu z) h3 fc hsz hov ?_) | fail)
 generalize (w.alloc (.cells (Bu z) 138)).setRow w.heap.size (Bu KK)=w5 at *;have e0:w5.cell? ⟨gs,0,none⟩=some (Af st.a):=gu 0 (by decide);have e1:w5.cell? ⟨gs,1,none⟩=some (Af st.b):=gu 1 (by decide);have e2:w5.cell? ⟨gs,2,none⟩=some (Af st.c):=gu 2 (by decide);have e3:w5.cell? ⟨gs,3,none⟩=some (Af st.d):=gu 3 (by decide);have e4:w5.cell? ⟨gs,4,none⟩=some (Af st.e):=gu 4 (by decide);have e5:w5.cell? ⟨gs,5,none⟩=some (Af st.f):=gu 5 (by decide);have e6:w5.cell? ⟨gs,6,none⟩=some (Af st.g):=gu 6 (by decide);have e7:w5.cell? ⟨gs,7,none⟩=some (Af st.h):=gu 7 (by decide)
 go_quiet (fail)
 have f0:(w5.drewN nq).cell? ⟨gs,0,none⟩=some (Af st.a):=e0;have f1:(w5.drewN nq).cell? ⟨gs,1,none⟩=some (Af st.b):=e1;have f2:(w5.drewN nq).cell? ⟨gs,2,none⟩=some (Af st.c):=e2;have f3:(w5.drewN nq).cell? ⟨gs,3,none⟩=some (Af st.d):=e3;have f4:(w5.drewN nq).cell? ⟨gs,4,none⟩=some (Af st.e):=e4;have f5:(w5.drewN nq).cell? ⟨gs,5,none⟩=some (Af st.f):=e5;have f6:(w5.drewN nq).cell? ⟨gs,6,none⟩=some (Af st.g):=e6;have f7:(w5.drewN nq).cell? ⟨gs,7,none⟩=some (Af st.h):=e7;have HA:Hid (Aw (w5.drewN nq) w.heap.size 138 KK):=Lib.hid a4;have HB:Hid (Below w.heap.size w (w5.drewN nq)):=Lib.hid (below_drewN hb4 nq);have HW:Hid (∀j,j < 64->(w5.drewN nq).cell? ⟨gw,j,none⟩=some (Af (Ac S j))):=Lib.hid hcw4;clear e0 e1 e2 e3 e4 e5 e6 e7 a4 hb4 hcw4 gu h3 fc hsz hov t4 hz;generalize w5.drewN nq=w6 at *;go_wp2
 go_quiet (fail)
 have e0:(w6.drewN nq).cell? ⟨gs,0,none⟩=some (Af st.a):=f0;have e1:(w6.drewN nq).cell? ⟨gs,1,none⟩=some (Af st.b):=f1;have e2:(w6.drewN nq).cell? ⟨gs,2,none⟩=some (Af st.c):=f2;have e3:(w6.drewN nq).cell? ⟨gs,3,none⟩=some (Af st.d):=f3;have e4:(w6.drewN nq).cell? ⟨gs,4,none⟩=some (Af st.e):=f4;have e5:(w6.drewN nq).cell? ⟨gs,5,none⟩=some (Af st.f):=f5;have e6:(w6.drewN nq).cell? ⟨gs,6,none⟩=some (Af st.g):=f6;have e7:(w6.drewN nq).cell? ⟨gs,7,none⟩=some (Af st.h):=f7;have HA2:Hid (Aw (w6.drewN nq) w.heap.size 138 KK):=Lib.hid HA.out;have HB2:Hid (Below w.heap.size w (w6.drewN nq)):=Lib.hid (below_drewN HB.out nq);have HW2:Hid (∀j,j < 64->(w6.drewN nq).cell? ⟨gw,j,none⟩=some (Af (Ac S j))):=Lib.hid HW.out;clear f0 f1 f2 f3 f4 f5 f6 f7 HA HB HW;generalize w6.drewN nq=w7 at *;go_wp2
 go_loopw [6,7,8,9,10,11,12,13,14] (fun a b c d e f g h i wr=>Alh st S w7 a b c d e f g h i wr) (fun _ _ _ _ _ _ _ _ i _=>64 - (intOf i).toNat)
 case atStart=>exact⟨0,0,st,by omega,rfl,rfl,rfl,rfl,rfl,rfl,rfl,rfl,rfl,rfl,rfl⟩
 case round =>
  obtain⟨k,n,v,hk,hv,rfl,rfl,rfl,rfl,rfl,rfl,rfl,rfl,rfl,hw⟩:=hrel;have HWR:=Lib.hid hw;by_cases hlt:k < 64
  ·have ek:wr.cell? ⟨w.heap.size,k,none⟩=some (Af (Ac KK k)):=by
    rw[hw];exact HA2.out.cell (by rw[hKl];exact hlt)
   have es:wr.cell? ⟨gw,k,none⟩=some (Af (Ac S k)):=by rw[hw];exact HW2.out k hlt
   have hn:Sha.rounds st S (k+1)=Sha.step v (Ac KK k) (Ac S k):=by rw[hv,HKK.out];rfl
   have HN:=Lib.hid hn;clear hn hv hw e0 e1 e2 e3 e4 e5 e6 e7;generalize Ac KK k=xk at *;generalize Ac S k=xs at *;have T6:∀u,Calls prog 84 #[Af v.e,.int .u64 6] u fun e u'=>e=.returned (Af (Sha.rotr v.e 6))/\u=u':=fun u=>Fp v.e 6 (by decide) (by decide) u;have T11:∀u,Calls prog 84 #[Af v.e,.int .u64 11] u fun e u'=>e=.returned (Af (Sha.rotr v.e 11))/\u=u':=fun u=>Fp v.e 11 (by decide) (by decide) u;have T25:∀u,Calls prog 84 #[Af v.e,.int .u64 25] u fun e u'=>e=.returned (Af (Sha.rotr v.e 25))/\u=u':=fun u=>Fp v.e 25 (by decide) (by decide) u;have T2:∀u,Calls prog 84 #[Af v.a,.int .u64 2] u fun e u'=>e=.returned (Af (Sha.rotr v.a 2))/\u=u':=fun u=>Fp v.a 2 (by decide) (by decide) u;have T13:∀u,Calls prog 84 #[Af v.a,.int .u64 13] u fun e u'=>e=.returned (Af (Sha.rotr v.a 13))/\u=u':=fun u=>Fp v.a 13 (by decide) (by decide) u;have T22:∀u,Calls prog 84 #[Af v.a,.int .u64 22] u fun e u'=>e=.returned (Af (Sha.rotr v.a 22))/\u=u':=fun u=>Fp v.a 22 (by decide) (by decide) u
   go_wp2_with fail
   refine(T6 _).mono ?_;rintro e w' ⟨rfl,rfl⟩
   go_wp2_with fail
   refine(T11 _).mono ?_;rintro e w' ⟨rfl,rfl⟩
   go_wp2_with fail
   refine(T25 _).mono ?_;rintro e w' ⟨rfl,rfl⟩
   go_wp2_with fail
   go_quiet (fail)
   go_wp2_with fail
   refine(T2 _).mono ?_;rintro e w' ⟨rfl,rfl⟩
   go_wp2_with fail
   refine(T13 _).mono ?_;rintro e w' ⟨rfl,rfl⟩
   go_wp2_with fail
   refine(T22 _).mono ?_;rintro e w' ⟨rfl,rfl⟩;clear T6 T11 T25 T2 T13 T22 ek es;go_wp2
   go_roundw
   case rel =>
    have hstep:=Afl v xk xs _ _ rfl rfl;exact⟨k+1,n+nq,Sha.step v xk xs,by omega,HN.out.symm,by rw[hstep],by rw[hstep],by rw[hstep],by rw[hstep],by rw[hstep],by rw[hstep],by rw[hstep],by rw[hstep],by go_num,by rw[HWR.out,World.drewN_drewN]⟩
   case measure=>simp[intOf];omega
  ·obtain rfl:k=64:=by omega
   rw[show (((64:Nat):Int))=64 from rfl];have g0:wr.cell? ⟨gs,0,none⟩=some (Af st.a):=by rw[hw];exact e0
   have g1:wr.cell? ⟨gs,1,none⟩=some (Af st.b):=by rw[hw];exact e1
   have g2:wr.cell? ⟨gs,2,none⟩=some (Af st.c):=by rw[hw];exact e2
   have g3:wr.cell? ⟨gs,3,none⟩=some (Af st.d):=by rw[hw];exact e3
   have g4:wr.cell? ⟨gs,4,none⟩=some (Af st.e):=by rw[hw];exact e4
   have g5:wr.cell? ⟨gs,5,none⟩=some (Af st.f):=by rw[hw];exact e5
   have g6:wr.cell? ⟨gs,6,none⟩=some (Af st.g):=by rw[hw];exact e6
   have g7:wr.cell? ⟨gs,7,none⟩=some (Af st.h):=by rw[hw];exact e7
   subst hv;generalize hv2:Sha.rounds st S 64=v at *;have HV2:=Lib.hid hv2;clear hv2;have hwb:Below w.heap.size w wr:=by rw[hw];exact below_drewN HB2.out n
   have HWB:=Lib.hid hwb;clear e0 e1 e2 e3 e4 e5 e6 e7 hw hwb HWR
   go_wp2_with fail
   refine Cb 40 (by kernel_rfl) (by kernel_rfl) rfl ?_;simp only[List.take_succ_cons,List.take_zero,List.drop_zero]
   repeat (first|go_big_quiet_step (fail) | quiet_step (fail))
   refine wpQuiet_nil ?_;intro j;have HB3:Hid (Below w.heap.size w (wr.drewN j)):=Lib.hid (below_drewN HWB.out j);clear g0 g1 g2 g3 g4 g5 g6 g7 HWB;generalize wr.drewN j=w8 at *;go_wp2;refine B9 (Db (by kernel_rfl) ?_);simp only[List.drop_succ_cons,List.drop_nil]
   repeat (first|go_big_quiet_step (fail) | quiet_step (fail))
   refine wpQuiet_nil ?_;intro j';have hown:Cr (w8.alloc (.cells #[Af (st.a+v.a),Af (st.b+v.b),Af (st.c+v.c),Af (st.d+v.d),Af (st.e+v.e),Af (st.f+v.f),Af (st.g+v.g),Af (st.h+v.h)] 22)) w.heap.size (.slice (some ⟨w8.heap.size,0,none⟩) 8 8) (st.plus v).list :=
    World.ownsRow_lit w8 (e:=22) (size:=1) #[Af (st.a+v.a),Af (st.b+v.b),Af (st.c+v.c),Af (st.d+v.d),Af (st.e+v.e),Af (st.f+v.f),Af (st.g+v.g),Af (st.h+v.h)] 8 HB3.out.size (by unfold maxLen;omega) rfl
   have bu:Below w.heap.size w (w8.alloc (.cells #[Af (st.a+v.a),Af (st.b+v.b),Af (st.c+v.c),Af (st.d+v.d),Af (st.e+v.e),Af (st.f+v.f),Af (st.g+v.g),Af (st.h+v.h)] 22)):=HB3.out.alloc HB3.out.size _;generalize w8.alloc (.cells #[Af (st.a+v.a),Af (st.b+v.b),Af (st.c+v.c),Af (st.d+v.d),Af (st.e+v.e),Af (st.f+v.f),Af (st.g+v.g),Af (st.h+v.h)] 22)=w9 at *;generalize hg8:w8.heap.size=g8 at *;clear hg8;have HO:=Lib.hid hown;have HBF:=Lib.hid bu;clear hown bu;go_wp2
   go_ret
   refine⟨_,rfl,?_,below_drewN HBF.out j'⟩;rw[HV2.out];exact HO.out
end Go.Proofs.YtbicafgmfgdckaaGreatDoor
