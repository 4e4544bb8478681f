/- The hasher's Write: where something was left. The hasher's Write: where something was left, and a block is full. -/
import Derived.Test.YtbicafgmfgdckaaDoorMgBb
namespace Go.Proofs.YtbicafgmfgdckaaDoor
open Go Go.RowKit

set_option maxHeartbeats 1000000 in
theorem hwrite_short {w:World} {B b:Nat} {v:Value} {l:List (BitVec 8)} (h:Hasher w B b v l) (hB:B<=w.heap.size) (hl:Sha.left l≠[])
  (a:Option Addr) (cap:Nat) (m:List (BitVec 8)) (hr:Reads w a cap m) (hlm:l.length+m.length<=1048576) (hoff:m≠[]->∀ad,a=some ad->ad.block≠b/\v.ownBlock≠some ad.block) (hs:(Sha.left l).length+m.length < 64) :
  Calls Tryd.prog 33 #[.pointer (some ⟨b,0,none⟩),.slice a m.length cap] w (Wrote B b v l m w):=by
 have hlow:=h.low
 have OK:=hok_any h.at_
 have cN:=h.at_.n_
 have fN:=h.at_.thawed 10
 have h1:=h.at_.setN ((l.length:Int)+m.length)
 have c9:=h1.rest
 have f9:=h1.thawed 9
 have t1:Touch (fun q=>q=b) w (w.setCell ⟨b,10,none⟩ (.int .i64 ((l.length:Int)+m.length))):=Touch.set w b 10 _ rfl
 have hvb:=h.vb
 have hr1:=hr.touch' t1 fun hm ad e=>(hoff hm ad e).1
 have ho1:=t1.owns h.own fun q hq e=>hvb (by rw[hq,e])
 have hheld:=Sha.held_append l m
 have hleft:=Sha.left_append l m
 rw[Nat.div_eq_of_lt hs] at hheld hleft
 generalize Sha.left l=r at *
 generalize Sha.held l=s0 at *
 have hvf:∃c a',v=.slice a' r.length c:=by obtain⟨a',cap',e,_⟩:=ho1.reads;exact⟨cap',a',e⟩
 obtain⟨cap',a',rfl⟩:=hvf
 have HH:=Lib.hid h
 have HHL:=Lib.hid hheld
 have HLL:=Lib.hid hleft
 clear h hheld hleft
 have hr0:0 < r.length:=List.length_pos_iff.2 hl
 have hr0':(0:Int) < r.length:=by omega
 have hmin:min (64 - (r.length:Int)) m.length=m.length:=by omega
 go_enter Tryd.func33,Tryd.ntmps33
 go_wp2_with fail
 refine OK.mono ?_
 rintro e w' ⟨rfl,rfl⟩
 clear OK
 go_wp2_with fail
 have hs1:=fun w=>run_slice_to (P:=Tryd.prog) byteSlice w a m.length cap .i64 m.length m.length rfl hr.fits
 have hs2:=fun w=>run_slice_from (P:=Tryd.prog) byteSlice w a m.length cap .i64 m.length m.length rfl (Nat.le_refl _)
 rw[Nat.sub_self] at hs2
 clear cN fN
 generalize w.setCell ⟨b,10,none⟩ (.int .i64 ((l.length:Int)+m.length))=w1 at *
 refine wp_region_plan [([0,1,2,3,5,6,7],some 4),([],some 8),([9,10],some 11),([],none)] (fun _=>True) (by kernel_rfl) (by kernel_rfl) (fun _ _ d _ _ h=>by cases d<;>exact h) trivial ?_
 refine plan_some (show wpQuiet _ _ _ _ (_::_::_::_::_::_::_::[]) _ from ?_)
 repeat (go_big_quiet_step (fail))
 refine wpQuiet_nil (show wpList _ _ _ (_::[]) _ _ from ?_)
 have hid:Touch (fun q=>q=b) w1 w1.drew:=(Touch.refl _ _).drewN 1
 have d1:HAt w1.drew b true s0.list (.slice a' r.length cap') ((l.length:Int)+m.length):=h1.drewN 1
 have e9:w1.drew.cell? ⟨b,9,none⟩=some (.slice a' r.length cap'):=c9
 have ro:Reads w1.drew a cap m:=hr1.keeps (Keeps.drewN w1 1)
 have oo:Owns w1.drew B 5 (.slice a' r.length cap') r:=ho1
 have hz:B<=w1.drew.heap.size:=Nat.le_trans hB t1.size
 clear h1 c9 hr1 ho1 f9
 generalize w1.drew=w6 at *
 go_wp2_with fail
 refine late_normal (fun _ h=>h) trivial ?_
 refine plan_some (show wpQuiet _ _ _ _ [] _ from ?_)
 refine wpQuiet_nil (show wpList _ _ _ (_::[]) _ _ from ?_)
 have hlen:r.length+m.length<=140737488355328:=by omega
 go_wp2_with (at_builtin;refine wpList_append_bytes_at byteSlice rfl _ _ rfl B (.slice a' r.length cap') r rfl oo a cap m rfl ro hlen hz ?_;intro v' w7 ho7 hg7 hb7)
 refine late_normal (fun _ h=>h) trivial ?_
 refine plan_some (show wpQuiet _ _ _ _ (_::_::[]) _ from ?_)
 repeat (go_big_quiet_step (fail))
 refine wpQuiet_nil (show wpList _ _ _ (_::[]) _ _ from ?_)
 have t7:Touch (fun q=>(Value.slice a' r.length cap').ownBlock=some q) w6 w7:=.of_grown hg7 fun k hk=>hk
 have d7:=d1.touch t7 hvb
 have f9:=d7.thawed 9
 have c9:=d7.rest
 have hx7:(r++m).length < 64:=by rw[List.length_append];exact hs
 obtain⟨x,hx⟩:∃x,r++m=x:=⟨_,rfl⟩
 rw[hx] at ho7 hx7
 obtain⟨a7,c7,rfl,_⟩:=ho7.reads
 have hx8:(x.length:Int) < 64:=by omega
 have d8:=d7.setRest (.slice a7 x.length c7)
 have e9:=d8.rest
 have t8:Touch (fun q=>q=b) w7 (w7.setCell ⟨b,9,none⟩ (.slice a7 x.length c7)):=Touch.set w7 b 9 _ rfl
 have HX:=Lib.hid hx
 have HO:=Lib.hid ho7
 have HD:=Lib.hid d8
 clear hx ho7 d8 d7 hg7 hx7
 go_wp2_with fail
 refine late_normal (fun _ h=>h) trivial ?_
 refine plan_none (show wpQuiet _ _ _ _ [] _ from ?_)
 refine wpQuiet_nil ?_
 refine plan_nil ?_
 generalize w7.setCell ⟨b,9,none⟩ (.slice a7 x.length c7)=w8 at *
 go_wp2
 refine bodyPost_end (results_none rfl _ _ _) rfl ?_
 have hh:=HHL.out
 have hl2:=HLL.out
 rw[show Sha.blocks 0 s0 (r++m)=s0 from rfl] at hh
 rw[Nat.mul_zero,List.drop_zero,HX.out] at hl2
 have hvb7:(Value.slice a7 x.length c7).ownBlock≠some b:=by
  rcases hb7 with e|e
  ·rw[e];exact hvb
  ·rw[e];intro e2;injection e2 with e2;have:=d1.lt;omega
 have hsz1:=t1.size
 have hsz2:=hid.size
 refine⟨_,rfl,⟨?_,?_,hvb7,hlow⟩,?_,fun q hq=>?_⟩
 ·rw[hh,List.length_append,Int.natCast_add];exact HD.out
 ·rw[hl2]
  exact t8.owns HO.out fun q hq e=>hvb7 (by rw[hq,e])
 ·exact(((t1.mono fun q e=>.inl e).trans (hid.mono fun q e=>.inl e)).trans (t7.mono fun q e=>.inr e)).trans (t8.mono fun q e=>.inl e)
 ·rcases hb7 with e|e
  ·left;rw[<- e];exact hq
  ·right;rw[e] at hq;injection hq with hq;omega
end Go.Proofs.YtbicafgmfgdckaaDoor
namespace Go.Proofs.YtbicafgmfgdckaaDoor
open Go Go.RowKit

theorem drop_from {a:Option Addr} {cap n:Nat} {ad:Addr} (e:dropAddr a cap n=some ad):∃ad0,a=some ad0/\ad.block=ad0.block:=by
 unfold dropAddr at e
 split at e
 ·exact⟨ad,e,rfl⟩
 ·cases a with
  | none=>cases e
  | some ad0 =>
   rw[Option.map_some] at e
   injection e with e
   exact⟨ad0,rfl,by rw[<- e];unfold Addr.add;split<;>rfl⟩
def RestIs (b:Nat) (v:Value) (w:World):Prop:=w.cell? ⟨b,9,none⟩=some v
set_option maxHeartbeats 2000000 in
theorem hwrite_full {w:World} {B b:Nat} {v:Value} {l:List (BitVec 8)} (h:Hasher w B b v l) (hB:B<=w.heap.size) (hl:Sha.left l≠[])
  (a:Option Addr) (cap:Nat) (m:List (BitVec 8)) (hr:Reads w a cap m) (hlm:l.length+m.length<=1048576) (hoff:m≠[]->∀ad,a=some ad->ad.block≠b/\v.ownBlock≠some ad.block) (h0:0 < B) (hk:KTab w) (hs:64<=(Sha.left l).length+m.length) :
  Calls Tryd.prog 33 #[.pointer (some ⟨b,0,none⟩),.slice a m.length cap] w (Wrote B b v l m w):=by
 have hlow:=h.low
 have OK:=hok_any h.at_
 have cN:=h.at_.n_
 have fN:=h.at_.thawed 10
 have h1:=h.at_.setN ((l.length:Int)+m.length)
 have c9:=h1.rest
 have f9:=h1.thawed 9
 have t1:Touch (fun q=>q=b) w (w.setCell ⟨b,10,none⟩ (.int .i64 ((l.length:Int)+m.length))):=Touch.set w b 10 _ rfl
 have hvb:=h.vb
 have hr1:=hr.touch' t1 fun hm ad e=>(hoff hm ad e).1
 have ho1:=t1.owns h.own fun q hq e=>hvb (by rw[hq,e])
 have hheld:=Sha.held_append l m
 have hleft:=Sha.left_append l m
 have hrl:(Sha.left l).length < 64:=by rw[Sha.left_length];omega
 generalize Sha.left l=r at *
 generalize Sha.held l=s0 at *
 have hvf:∃c a',v=.slice a' r.length c:=by obtain⟨a',cap',e,_⟩:=ho1.reads;exact⟨cap',a',e⟩
 obtain⟨cap',a',rfl⟩:=hvf
 have HH:=Lib.hid h
 have HHL:=Lib.hid hheld
 have HLL:=Lib.hid hleft
 have HK:=Lib.hid hk
 clear h hheld hleft hk
 have hr0:0 < r.length:=List.length_pos_iff.2 hl
 have hr0':(0:Int) < r.length:=by omega
 obtain⟨x1,hx1⟩:∃x,m.take (64 - r.length)=x:=⟨_,rfl⟩
 have hx1l:x1.length=64 - r.length:=by rw[<- hx1,List.length_take];omega
 have hrx:=hr.take (64 - r.length)
 rw[hx1] at hrx
 have hn:64 - (r.length:Int)=x1.length:=by omega
 have hle:x1.length<=m.length:=by omega
 have hmin:min (x1.length:Int) m.length=x1.length:=by omega
 have hrd:=hr.drop x1.length hle
 have hdl:(m.drop x1.length).length=m.length - x1.length:=List.length_drop
 have HX1:=Lib.hid hx1
 have HX1L:=Lib.hid hx1l
 clear hx1 hx1l
 go_enter Tryd.func33,Tryd.ntmps33
 go_wp2_with fail
 refine OK.mono ?_
 rintro e w' ⟨rfl,rfl⟩
 clear OK
 go_wp2_with fail
 have hs1:=fun w=>run_slice_to (P:=Tryd.prog) byteSlice w a m.length cap .i64 x1.length x1.length rfl (Nat.le_trans hle hr.fits)
 have hs2:=fun w=>run_slice_from (P:=Tryd.prog) byteSlice w a m.length cap .i64 x1.length x1.length rfl hle
 clear cN fN
 generalize w.setCell ⟨b,10,none⟩ (.int .i64 ((l.length:Int)+m.length))=w1 at *
 refine wp_region_plan [([0,1,2,3,5,6,7],some 4),([],some 8),([9,10],some 11),([],none)] (fun _=>True) (by kernel_rfl) (by kernel_rfl) (fun _ _ d _ _ h=>by cases d<;>exact h) trivial ?_
 refine plan_some (show wpQuiet _ _ _ _ (_::_::_::_::_::_::_::[]) _ from ?_)
 repeat (go_big_quiet_step (fail))
 refine wpQuiet_nil (show wpList _ _ _ (_::[]) _ _ from ?_)
 have hid:Touch (fun q=>q=b) w1 w1.drew:=(Touch.refl _ _).drewN 1
 have d1:HAt w1.drew b true s0.list (.slice a' r.length cap') ((l.length:Int)+m.length):=h1.drewN 1
 have e9:w1.drew.cell? ⟨b,9,none⟩=some (.slice a' r.length cap'):=c9
 have ro:Reads w1.drew a cap x1:=by have:=hr1.take (64 - r.length);rw[HX1.out] at this;exact this.keeps (Keeps.drewN w1 1)
 have oo:Owns w1.drew B 5 (.slice a' r.length cap') r:=ho1
 have hz:B<=w1.drew.heap.size:=Nat.le_trans hB t1.size
 clear h1 c9 hr1 ho1 f9
 generalize w1.drew=w6 at *
 go_wp2_with fail
 refine late_normal (fun _ h=>h) trivial ?_
 refine plan_some (show wpQuiet _ _ _ _ [] _ from ?_)
 refine wpQuiet_nil (show wpList _ _ _ (_::[]) _ _ from ?_)
 have hlen:r.length+x1.length<=140737488355328:=by omega
 go_wp2_with (at_builtin;refine wpList_append_bytes_at byteSlice rfl _ _ rfl B (.slice a' r.length cap') r rfl oo a cap x1 rfl ro hlen hz ?_;intro v' w7 ho7 hg7 hb7)
 refine late_normal (fun _ h=>h) trivial ?_
 refine plan_some (show wpQuiet _ _ _ _ (_::_::[]) _ from ?_)
 repeat (go_big_quiet_step (fail))
 refine wpQuiet_nil (show wpList _ _ _ (_::[]) _ _ from ?_)
 have t7:Touch (fun q=>(Value.slice a' r.length cap').ownBlock=some q) w6 w7:=.of_grown hg7 fun k hk=>hk
 have d7:=d1.touch t7 hvb
 have f9:=d7.thawed 9
 have c9:=d7.rest
 have hx7:(r++x1).length=64:=by rw[List.length_append,HX1L.out];omega
 obtain⟨y,hy⟩:∃x,r++x1=x:=⟨_,rfl⟩
 rw[hy] at ho7 hx7
 obtain⟨g7,c7,hv7,hrow,hg7B,hg7l⟩:=ho7.row (by omega)
 rw[hx7] at hv7 hrow
 subst hv7
 have d8:=d7.setRest (.slice (some ⟨g7,0,none⟩) 64 c7)
 have e9:=d8.rest
 have t8:Touch (fun q=>q=b) w7 (w7.setCell ⟨b,9,none⟩ (.slice (some ⟨g7,0,none⟩) 64 c7)):=Touch.set w7 b 9 _ rfl
 have HY:=Lib.hid hy
 have HR:=Lib.hid hrow
 clear hy ho7 d7 hg7 hr0'
 go_wp2_with fail
 refine late_normal (fun _ h=>h) trivial ?_
 refine plan_none (show wpQuiet _ _ _ _ [] _ from ?_)
 refine wpQuiet_nil ?_
 refine plan_nil ?_
 generalize w7.setCell ⟨b,9,none⟩ (.slice (some ⟨g7,0,none⟩) 64 c7)=w8 at *
 go_wp2_with fail
 have hrow8:RowAt w8 B 5 g7 c7 64 y:=by
  have hne7:g7≠b:=by
   intro e
   rcases hb7 with e2|e2
   ·exact hvb (by rw[<- e2,e];rfl)
   ·injection e2 with e2
    have e3:g7=w6.heap.size:=e2
    have:=d1.lt;omega
  have:=t8.owns HR.out.owns fun q hq e2=>by injection hq with hq;exact hne7 (hq.trans e2)
  exact⟨by have h3:=hx7;unfold Owns at this;rw[h3] at this;exact this,hx7⟩
 have hkb:KTab w8:=by
  have hvB:¬((Value.slice a' r.length cap').ownBlock=some 0):=fun e=>by have:=row_lt oo e;omega
  exact(((HK.out.touch t1 (show ¬(0=b) by omega)).touch hid (show ¬(0=b) by omega)).touch t7 hvB).touch t8 (show ¬(0=b) by omega)
 have TK:=fun w' (hx:BytesAt w' g7 0 y) (hy:KTab w')=>take_any s0 g7 0 c7 y w' hx7 (by have:=HR.out.reads.fits;omega) HR.out.reads.room hx hy
 have hby8:BytesAt w8 g7 0 y:=by
  intro q hq
  have:=hrow8.cell q (by omega)
  rw[Nat.zero_add];exact this
 have C9:∀x:Of (RestIs b (.slice (some ⟨g7,0,none⟩) 64 c7)),x.to.cell? ⟨b,9,none⟩=some (.slice (some ⟨g7,0,none⟩) 64 c7):=fun x=>x.ok
 haveI:Nonempty (Of (RestIs b (.slice (some ⟨g7,0,none⟩) 64 c7))):=of_ne (w:=w8) e9
 refine wp_region_plan [([0,1,2,3,5,6,7,8],some 4),([],some 9),([10,11],some 12),([],none)] (fun w'=>∃x:Of (RestIs b (.slice (some ⟨g7,0,none⟩) 64 c7)),w'=x.to) (by kernel_rfl) (by kernel_rfl) (fun _ _ d _ _ h=>by cases d<;>exact h) (of_mk (w:=w8.drew) (S:=RestIs b (.slice (some ⟨g7,0,none⟩) 64 c7)) e9) ?_
 refine plan_some (show wpQuiet _ _ _ _ (_::_::_::_::_::_::_::_::[]) _ from ?_)
 repeat (go_big_quiet_step (fail))
 refine wpQuiet_nil (show wpList _ _ _ (_::[]) _ _ from ?_)
 have hid9:Touch (fun q=>q=b) w8 w8.drew:=(Touch.refl _ _).drewN 1
 have d9:HAt w8.drew b true s0.list (.slice (some ⟨g7,0,none⟩) 64 c7) ((l.length:Int)+m.length):=d8.drewN 1
 have b9:BytesAt w8.drew g7 0 y:=hby8
 have k9:KTab w8.drew:=hkb
 clear hby8 d8 e9
 generalize w8.drew=w9 at *
 go_wp2_with (refine wpList_load_state d9 rfl _ rfl rfl ?_)
 refine late_normal (fun _ h=>h) (of_mk d9.rest) ?_
 refine plan_some (show wpQuiet _ _ _ _ [] _ from ?_)
 refine wpQuiet_nil (show wpList _ _ _ (_::[]) _ _ from ?_)
 go_wp2_with fail
 refine(TK w9 b9 k9).mono ?_
 rintro e w10 ⟨rfl,hb10⟩
 have d10:=d9.below hb10
 have hs8:(Sha.take s0 y).list.length=8:=rfl
 generalize hs1:Sha.take s0 y=s1 at *
 have HS1:=Lib.hid hs1
 clear hs1 TK b9
 go_wp2_with fail
 refine late_normal (fun _ h=>h) (of_mk d10.rest) ?_
 refine plan_some (show wpQuiet _ _ _ _ (_::_::[]) _ from ?_)
 repeat (go_big_quiet_step (fail))
 refine wpQuiet_nil (show wpList _ _ _ (_::[]) _ _ from ?_)
 go_wp2_with (refine wpList_store_state d10 s1.list hs8 rfl _ _ rfl rfl rfl ?_;intro w11 d11 t11)
 refine late_normal (fun _ h=>h) (of_mk d11.rest) ?_
 refine plan_none (show wpQuiet _ _ _ _ [] _ from ?_)
 refine wpQuiet_nil ?_
 refine plan_nil ?_
 have f9:=d11.thawed 9
 have c9:=d11.rest
 have d12:=d11.setRest (.slice none 0 0)
 have t12:Touch (fun q=>q=b) w11 (w11.setCell ⟨b,9,none⟩ (.slice none 0 0)):=Touch.set w11 b 9 _ rfl
 clear C9 d11 d10
 go_wp2_with fail
 generalize w11.setCell ⟨b,9,none⟩ (.slice none 0 0)=w12 at *
 have tA:Touch (fun q=>q=b\/(Value.slice a' r.length cap').ownBlock=some q) w w12 :=
  (((((((t1.mono fun q e=>.inl e).trans (hid.mono fun q e=>.inl e)).trans (t7.mono fun q e=>.inr e)).trans (t8.mono fun q e=>.inl e)).trans (hid9.mono fun q e=>.inl e)).trans (.of_below hb10)).trans (t11.mono fun q e=>.inl e)).trans (t12.mono fun q e=>.inl e)
 have hk12:KTab w12:=HK.out.touch tA (fun e=>by
  rcases e with e|e
  ·have e2:0=b:=e
   omega
  ·have:=row_lt oo e;omega)
 obtain⟨m1,hm1⟩:∃q,m.drop x1.length=q:=⟨_,rfl⟩
 rw[hm1] at hrd hdl
 have hmm:m=x1++m1:=by
  have e:=List.take_append_drop x1.length m
  rw[hm1,HX1L.out,HX1.out] at e
  exact e.symm
 have hm0:m1≠[]->m≠[]:=fun h e=>by rw[e] at hm1;simp at hm1;exact h hm1
 have hoff1:m1≠[]->∀ad,dropAddr a cap x1.length=some ad->ad.block≠b:=fun h ad e=>by
  obtain⟨ad0,e1,e2⟩:=drop_from e
  rw[e2];exact(hoff (hm0 h) ad0 e1).1
 have hr1:Reads w12 (dropAddr a cap x1.length) (cap - x1.length) m1:=hrd.touch' tA fun h ad e=>by
  obtain⟨ad0,e1,e2⟩:=drop_from e
  have:=hoff (hm0 h) ad0 e1
  rw[e2]
  rintro(e3|e3)
  ·exact this.1 e3
  ·exact this.2 e3
 have T1:=Lib.hid tA
 have HK1:=Lib.hid hk12
 have HMM:=Lib.hid hmm
 rw[<- hdl]
 have HDL:=Lib.hid hdl
 clear hdl hrd hs1 hs2 hr hrx hm1 hmm hm0 hoff t1 hid t7 t8 hid9 t11 t12 oo hk12 f9 c9 hb7 hb10 d1 d9 hmin hn hkb k9 hrow hrow8 tA ro
 generalize dropAddr a cap x1.length=a1 at *
 generalize cap - x1.length=cap1 at *
 go_loopw [1] (fun x wr=>BlockRel b s1 (.slice none 0 0) ((l.length:Int)+m.length) m1 w12 x wr) (fun x _=>match x with | .slice _ n _=>n|_=>0)
 case atStart=>exact⟨0,a1,cap1,by omega,rfl,hr1,hoff1,d12,Touch.refl _ _⟩
 case round =>
  clear d12 hr1
  obtain⟨k,a2,c1,hk64,rfl,hr2,hof,hat,ht⟩:=hrel
  have hpl:(m1.drop (64 * k)).length=m1.length - 64 * k:=List.length_drop
  by_cases hlt:64 * k+64<=m1.length
  ·have hne:m1.drop (64 * k)≠[]:=fun e=>by rw[e] at hpl;simp at hpl;omega
   obtain⟨g,off,rfl,hbm⟩:∃g off,a2=some ⟨g,off,none⟩/\BytesAt wr g off (m1.drop (64 * k)):=hr2.bytes.resolve_left hne
   have hm0:m1≠[]:=fun e=>by rw[e] at hne;simp at hne
   have hgb:g≠b:=hof hm0 _ rfl
   have hfit:=hr2.fits
   have hroom:=hr2.room
   have hp64:((m1.drop (64 * k)).take 64).length=64:=by rw[List.length_take,hpl];omega
   have hbs:=Sha.blocks_succ k s1 m1
   have hr3:=hr2.drop 64 (by rw[hpl];omega)
   rw[List.drop_drop,show 64 * k+64=64 * (k+1) by omega] at hr3
   rw[hpl] at hfit
   have hsl1:=fun w=>run_slice_to (P:=Tryd.prog) byteSlice w (some ⟨g,off,none⟩) (m1.length - 64 * k) c1 .i64 64 64 rfl (by omega)
   have hsl2:=fun w=>run_slice_from (P:=Tryd.prog) byteSlice w (some ⟨g,off,none⟩) (m1.length - 64 * k) c1 .i64 64 64 rfl (by omega)
   have hbt:=hbm.take 64
   generalize hp:(m1.drop (64 * k)).take 64=p at *
   generalize hs:Sha.blocks k s1 m1=s at *
   have hkr:KTab wr:=HK1.out.touch ht (show ¬(0=b) by omega)
   have TK:=fun w' (hx:BytesAt w' g off p) (hy:KTab w')=>take_any s g off c1 p w' hp64 (by omega) (by omega) hx hy
   have hat1:HAt wr.drew b true s.list (.slice none 0 0) ((l.length:Int)+m.length):=hat.drewN 1
   have hbt1:BytesAt wr.drew g off p:=hbt
   have hk1:KTab wr.drew:=hkr
   have HP:=Lib.hid hp
   have HS:=Lib.hid hs
   have HBS:=Lib.hid hbs
   have HT:=Lib.hid ht
   have HR3:=Lib.hid hr3
   have HOF:=Lib.hid hof
   have hq64:(64:Int)<=((m1.length - 64 * k:Nat):Int):=by omega
   clear hp hs hbs ht hr2 hr3 hof hat hbm hbt hkr hne hpl
   generalize hqq:m1.length - 64 * k=q at *
   have HQ:=Lib.hid hqq
   clear hqq
   go_wp2_with fail
   refine wp_region_plan [([0,1,2,3,5,6],some 4),([],some 7),([8,9],some 10),([],none)] (fun _=>True) (by kernel_rfl) (by kernel_rfl) (fun _ _ d _ _ h=>by cases d<;>exact h) trivial ?_
   refine plan_some (show wpQuiet _ _ _ _ (_::_::_::_::_::_::[]) _ from ?_)
   repeat (go_big_quiet_step (fail))
   refine wpQuiet_nil (show wpList _ _ _ (_::[]) _ _ from ?_)
   have hid:Touch (fun q=>q=b) wr wr.drew:=(Touch.refl _ _).drewN 1
   generalize wr.drew=w6 at *
   have HID:=Lib.hid hid
   clear hid
   go_wp2_with (refine wpList_load_state hat1 rfl _ rfl rfl ?_)
   refine late_normal (fun _ h=>h) trivial ?_
   refine plan_some (show wpQuiet _ _ _ _ [] _ from ?_)
   refine wpQuiet_nil (show wpList _ _ _ (_::[]) _ _ from ?_)
   go_wp2_with fail
   refine(TK w6 hbt1 hk1).mono ?_
   rintro e w7 ⟨rfl,hb7⟩
   have hat7:=hat1.below hb7
   have hs8:(Sha.take s p).list.length=8:=rfl
   generalize Sha.take s p=s' at *
   have HB7:=Lib.hid hb7
   clear TK hbt1 hk1 hat1 hb7
   go_wp2_with fail
   refine late_normal (fun _ h=>h) trivial ?_
   refine plan_some (show wpQuiet _ _ _ _ (_::_::[]) _ from ?_)
   repeat (go_big_quiet_step (fail))
   refine wpQuiet_nil (show wpList _ _ _ (_::[]) _ _ from ?_)
   go_wp2_with (refine wpList_store_state hat7 s'.list hs8 rfl _ _ rfl rfl rfl ?_;intro w8 hat8 t8)
   refine late_normal (fun _ h=>h) trivial ?_
   refine plan_none (show wpQuiet _ _ _ _ [] _ from ?_)
   refine wpQuiet_nil ?_
   refine plan_nil ?_
   have HTT:=Lib.hid ((HID.out.trans (.of_below HB7.out)).trans t8)
   have HA:=Lib.hid hat8
   clear hat7 hat8 t8
   go_wp2
   go_roundw
   case rel =>
    have hq:=HQ.out
    refine⟨k+1,_,_,by omega,?_,(HR3.out.touch' HTT.out fun hne ad e=>?_),fun hne ad e=>?_,?_,HT.out.trans HTT.out⟩
    ·rw[show m1.length - 64 * (k+1)=q - 64 by omega]
    ·rw[drop_block e];exact hgb
    ·rw[drop_block e];exact hgb
    ·rw[HBS.out];exact HA.out
   case measure=>simp;omega
  ·have hkq:m1.length / 64=k:=by omega
   have CL:=clone_any a2 c1 (m1.drop (64 * k)) wr hr2 (by rw[hpl];omega)
   rw[hpl] at CL
   have hlt2:((m1.length - 64 * k:Nat):Int) < 64:=by omega
   generalize hd:m1.drop (64 * k)=d at *
   generalize hs:Sha.blocks k s1 m1=s at *
   have HD:=Lib.hid hd
   have HS:=Lib.hid hs
   have HA:=Lib.hid hat
   have HT:=Lib.hid ht
   have HKQ:=Lib.hid hkq
   clear hd hs hat ht hkq hr2 hof hpl hlt
   generalize hqq:m1.length - 64 * k=q at *
   clear hqq
   go_wp2_with fail
   refine CL.mono ?_
   rintro e w5 ⟨vv,rfl,ho5,hb5⟩
   have hat5:=HA.out.below hb5
   have f9:=hat5.thawed 9
   have c9:=hat5.rest
   obtain⟨a5,c5,rfl,_⟩:=ho5.reads
   have HO:=Lib.hid ho5
   have HB5:=Lib.hid hb5
   have HA5:=Lib.hid hat5
   have HA6:=Lib.hid (hat5.setRest (.slice a5 d.length c5))
   clear ho5 hb5 hat5 CL
   go_wp2
   refine bodyPost_end (results_none rfl _ _ _) rfl ?_
   have hown:∀q,(Value.slice a5 d.length c5).ownBlock=some q->wr.heap.size<=q:=fun q hq=>(row_lt HO.out hq).1
   have hbl:=HA.out.lt
   have hsz1:=T1.out.size
   have hsz2:=HT.out.size
   have t6:Touch (fun q=>q=b) w5 (w5.setCell ⟨b,9,none⟩ (.slice a5 d.length c5)):=Touch.set w5 b 9 _ rfl
   have hh:=HHL.out
   have hl2:=HLL.out
   have hyl:y.length=64:=hx7
   have hlen:(r.length+m.length) / 64=1+k:=by
    have e1:y.length=r.length+x1.length:=by rw[<- HY.out,List.length_append]
    have e2:m.length=x1.length+m1.length:=by rw[HMM.out,List.length_append]
    have e3:=HKQ.out
    omega
   have hrm:r++m=y++m1:=by rw[HMM.out,<- List.append_assoc,HY.out]
   rw[hlen,hrm] at hh hl2
   rw[Sha.blocks_append 1 k s0 y m1 (by omega),show Sha.blocks 1 s0 y=Sha.take s0 (y.take 64) from rfl,List.take_of_length_le (by omega),HS1.out,HS.out] at hh
   rw[List.drop_append,List.drop_eq_nil_of_le (by omega),List.nil_append,show 64 * (1+k) - y.length=64 * k by omega,HD.out] at hl2
   refine⟨_,rfl,⟨?_,?_,?_,hlow⟩,?_,fun q hq=>.inr (by have:=hown q hq;omega)⟩
   ·rw[hh,List.length_append,Int.natCast_add];exact HA6.out
   ·rw[hl2]
    exact(t6.owns HO.out fun q hq e=>by have:=hown q hq;omega).mono (by omega)
   ·intro e;have:=hown b e;omega
   ·exact((T1.out.trans (HT.out.mono fun q e=>.inl e)).trans (.of_below HB5.out)).trans (t6.mono fun q e=>.inl e)
end Go.Proofs.YtbicafgmfgdckaaDoor
