/- The reference's rounds. The reference's Pad. The reference's Sum. Slices whose elements have K cells each: how they lie in memory; those of the call's own, how they grow. For any program. -/
import Derived.Test.YtbicafgmfgdckaaDoorMgBg
import Derived.Test.YtbicafgmfgdckaaDoorMgBf
namespace Go.Proofs.YtbicafgmfgdckaaDoor
open Go Go.RowKit

theorem built_k:Program.built Tryd.prog 108 [(0,.int .u32 1116352408),(1,.int .u32 1899447441),(2,.int .u32 3049323471),(3,.int .u32 3921009573),(4,.int .u32 961987163),(5,.int .u32 1508970993),(6,.int .u32 2453635748),(7,.int .u32 2870763221),(8,.int .u32 3624381080),(9,.int .u32 310598401),(10,.int .u32 607225278),(11,.int .u32 1426881987),(12,.int .u32 1925078388),(13,.int .u32 2162078206),(14,.int .u32 2614888103),(15,.int .u32 3248222580),(16,.int .u32 3835390401),(17,.int .u32 4022224774),(18,.int .u32 264347078),(19,.int .u32 604807628),(20,.int .u32 770255983),(21,.int .u32 1249150122),(22,.int .u32 1555081692),(23,.int .u32 1996064986),(24,.int .u32 2554220882),(25,.int .u32 2821834349),(26,.int .u32 2952996808),(27,.int .u32 3210313671),(28,.int .u32 3336571891),(29,.int .u32 3584528711),(30,.int .u32 113926993),(31,.int .u32 338241895),(32,.int .u32 666307205),(33,.int .u32 773529912),(34,.int .u32 1294757372),(35,.int .u32 1396182291),(36,.int .u32 1695183700),(37,.int .u32 1986661051),(38,.int .u32 2177026350),(39,.int .u32 2456956037),(40,.int .u32 2730485921),(41,.int .u32 2820302411),(42,.int .u32 3259730800),(43,.int .u32 3345764771),(44,.int .u32 3516065817),(45,.int .u32 3600352804),(46,.int .u32 4094571909),(47,.int .u32 275423344),(48,.int .u32 430227734),(49,.int .u32 506948616),(50,.int .u32 659060556),(51,.int .u32 883997877),(52,.int .u32 958139571),(53,.int .u32 1322822218),(54,.int .u32 1537002063),(55,.int .u32 1747873779),(56,.int .u32 1955562222),(57,.int .u32 2024104815),(58,.int .u32 2227730452),(59,.int .u32 2361852424),(60,.int .u32 2428436474),(61,.int .u32 2756734187),(62,.int .u32 3204031479),(63,.int .u32 3329325298)]=some (arr Sha.K):=by
 kernel_rfl
def RoundsRel (st:Sha.St) (S:Words) (w:World) (a b c d e f g h i:Value) (wr:World):Prop :=
 ∃(k n:Nat) (v:Sha.St),k<=64/\v=Sha.rounds st S k/\a=U32 v.a/\b=U32 v.b/\c=U32 v.c/\d=U32 v.d/\e=U32 v.e/\f=U32 v.f/\g=U32 v.g/\h=U32 v.h/\i=.int .i64 k/\wr=w.drewN n
theorem round_step (v:Sha.St) (xk xs t o:BitVec 32) (ht:v.h+(Sha.rotr v.e 6 ^^^ Sha.rotr v.e 11 ^^^ Sha.rotr v.e 25)+(v.e &&& v.f ||| (v.e ^^^ 4294967295#32) &&& v.g)+xk+xs=t)
  (ho:t+(Sha.rotr v.a 2 ^^^ Sha.rotr v.a 13 ^^^ Sha.rotr v.a 22)+(v.a &&& v.b ||| v.a &&& v.c ||| v.b &&& v.c)=o):Sha.step v xk xs=⟨o,v.a,v.b,v.c,v.d+t,v.e,v.f,v.g⟩:=by
 have h1:=Sha.ch_or v.e v.f v.g
 have h2:=Sha.maj_or v.a v.b v.c
 rw[h2] at ho
 rw[show (4294967295#32)=0xffffffff#32 from rfl,h1] at ht
 subst ht ho
 simp only[Sha.step,Sha.big1,Sha.big0,BitVec.add_assoc]
set_option maxRecDepth 40000 in
set_option maxHeartbeats 2000000 in
theorem rounds_any (st:Sha.St) (S:Words) (gs cs gw cw:Nat) (w:World) (hS:S.length=64) (hcs:∀j,j < 8->w.cell? ⟨gs,j,none⟩=some (U32 (wordAt st.list j))) (hcw:∀j,j < 64->w.cell? ⟨gw,j,none⟩=some (U32 (wordAt S j))) :
  Calls Tryd.prog 36 #[.slice (some ⟨gs,0,none⟩) 8 cs,.slice (some ⟨gw,0,none⟩) 64 cw] w fun e w'=>∃v,e=.returned v/\OwnsW w' w.heap.size v (st.plus (Sha.rounds st S 64)).list/\Below w.heap.size w w':=by
 obtain⟨z,hz,hzl⟩:=zero_words
 have hbu:=built_k
 obtain⟨KK,hKK⟩:∃L:Words,L=Sha.K:=⟨_,rfl⟩
 rw[<- hKK] at hbu
 have hKl:KK.length=64:=by rw[hKK];rfl
 have HKK:=Lib.hid hKK
 clear hKK
 have hiv:(Tryd.prog.info? 108).map (·.size)=some (arr KK).size:=by rw[arr_size,hKl];kernel_rfl
 have hsz:(arr z).size=(arr KK).size:=by rw[arr_size,arr_size,hKl,hzl]
 have hov:=arr_one KK
 go_enter Tryd.func36,Tryd.ntmps36
 go_wp2_with (with_reducible refine stop_build ?roundEnd)
 refine wpList_built rfl 108 _ rfl (arr KK) ?hb0 ?nx1
 case hb0=>go_simp
 clear hbu
 have h3:(w.alloc (.cells (arr z) 108)).heap[w.heap.size]?=some (.cells (arr z) 108 (0,0)):=ArrAt.new w 108 z
 have a4:ArrAt ((w.alloc (.cells (arr z) 108)).setRow w.heap.size (arr KK)) w.heap.size 108 KK:=(ArrAt.new w 108 z).row KK
 have t4:Touch (fun q=>q=w.heap.size) w ((w.alloc (.cells (arr z) 108)).setRow w.heap.size (arr KK)):=((Touch.refl _ _).alloc _).trans (Touch.setRow _ _ _ rfl)
 have hb4:=t4.below (B:=w.heap.size) (fun q e=>by have e2:q=w.heap.size:=e;omega) (Nat.le_refl _)
 have hcs4:∀j,j < 8->((w.alloc (.cells (arr z) 108)).setRow w.heap.size (arr KK)).cell? ⟨gs,j,none⟩=some (U32 (wordAt st.list j)):=fun j hj=>Keeps.below hb4 _ _ (hcs j hj)
 have hcw4:∀j,j < 64->((w.alloc (.cells (arr z) 108)).setRow w.heap.size (arr KK)).cell? ⟨gw,j,none⟩=some (U32 (wordAt S j)):=fun j hj=>Keeps.below hb4 _ _ (hcw j hj)
 clear hcs hcw
 go_wp2_with (first | (refine wpList_store_row rfl 108 _ _ rfl w.heap.size (arr KK) rfl rfl _ (arr z) h3 hiv hsz hov ?_) | fail)
 generalize (w.alloc (.cells (arr z) 108)).setRow w.heap.size (arr KK)=w5 at *
 have e0:w5.cell? ⟨gs,0,none⟩=some (U32 st.a):=hcs4 0 (by decide)
 have e1:w5.cell? ⟨gs,1,none⟩=some (U32 st.b):=hcs4 1 (by decide)
 have e2:w5.cell? ⟨gs,2,none⟩=some (U32 st.c):=hcs4 2 (by decide)
 have e3:w5.cell? ⟨gs,3,none⟩=some (U32 st.d):=hcs4 3 (by decide)
 have e4:w5.cell? ⟨gs,4,none⟩=some (U32 st.e):=hcs4 4 (by decide)
 have e5:w5.cell? ⟨gs,5,none⟩=some (U32 st.f):=hcs4 5 (by decide)
 have e6:w5.cell? ⟨gs,6,none⟩=some (U32 st.g):=hcs4 6 (by decide)
 have e7:w5.cell? ⟨gs,7,none⟩=some (U32 st.h):=hcs4 7 (by decide)
 go_quiet (fail)
 have f0:(w5.drewN nq).cell? ⟨gs,0,none⟩=some (U32 st.a):=e0
 have f1:(w5.drewN nq).cell? ⟨gs,1,none⟩=some (U32 st.b):=e1
 have f2:(w5.drewN nq).cell? ⟨gs,2,none⟩=some (U32 st.c):=e2
 have f3:(w5.drewN nq).cell? ⟨gs,3,none⟩=some (U32 st.d):=e3
 have f4:(w5.drewN nq).cell? ⟨gs,4,none⟩=some (U32 st.e):=e4
 have f5:(w5.drewN nq).cell? ⟨gs,5,none⟩=some (U32 st.f):=e5
 have f6:(w5.drewN nq).cell? ⟨gs,6,none⟩=some (U32 st.g):=e6
 have f7:(w5.drewN nq).cell? ⟨gs,7,none⟩=some (U32 st.h):=e7
 have HA:Hid (ArrAt (w5.drewN nq) w.heap.size 108 KK):=Lib.hid a4
 have HB:Hid (Below w.heap.size w (w5.drewN nq)):=Lib.hid (below_drewN hb4 nq)
 have HW:Hid (∀j,j < 64->(w5.drewN nq).cell? ⟨gw,j,none⟩=some (U32 (wordAt S j))):=Lib.hid hcw4
 clear e0 e1 e2 e3 e4 e5 e6 e7 a4 hb4 hcw4 hcs4 h3 hiv hsz hov t4 hz
 generalize w5.drewN nq=w6 at *
 go_wp2
 go_quiet (fail)
 have e0:(w6.drewN nq).cell? ⟨gs,0,none⟩=some (U32 st.a):=f0
 have e1:(w6.drewN nq).cell? ⟨gs,1,none⟩=some (U32 st.b):=f1
 have e2:(w6.drewN nq).cell? ⟨gs,2,none⟩=some (U32 st.c):=f2
 have e3:(w6.drewN nq).cell? ⟨gs,3,none⟩=some (U32 st.d):=f3
 have e4:(w6.drewN nq).cell? ⟨gs,4,none⟩=some (U32 st.e):=f4
 have e5:(w6.drewN nq).cell? ⟨gs,5,none⟩=some (U32 st.f):=f5
 have e6:(w6.drewN nq).cell? ⟨gs,6,none⟩=some (U32 st.g):=f6
 have e7:(w6.drewN nq).cell? ⟨gs,7,none⟩=some (U32 st.h):=f7
 have HA2:Hid (ArrAt (w6.drewN nq) w.heap.size 108 KK):=Lib.hid HA.out
 have HB2:Hid (Below w.heap.size w (w6.drewN nq)):=Lib.hid (below_drewN HB.out nq)
 have HW2:Hid (∀j,j < 64->(w6.drewN nq).cell? ⟨gw,j,none⟩=some (U32 (wordAt S j))):=Lib.hid HW.out
 clear f0 f1 f2 f3 f4 f5 f6 f7 HA HB HW
 generalize w6.drewN nq=w7 at *
 go_wp2
 go_loopw [6,7,8,9,10,11,12,13,14] (fun a b c d e f g h i wr=>RoundsRel st S w7 a b c d e f g h i wr) (fun _ _ _ _ _ _ _ _ i _=>64 - (intOf i).toNat)
 case atStart=>exact⟨0,0,st,by omega,rfl,rfl,rfl,rfl,rfl,rfl,rfl,rfl,rfl,rfl,rfl⟩
 case round =>
  obtain⟨k,n,v,hk,hv,rfl,rfl,rfl,rfl,rfl,rfl,rfl,rfl,rfl,hw⟩:=hrel
  have HWR:=Lib.hid hw
  by_cases hlt:k < 64
  ·have ek:wr.cell? ⟨w.heap.size,k,none⟩=some (U32 (wordAt KK k)):=by
    rw[hw];exact HA2.out.cell (by rw[hKl];exact hlt)
   have es:wr.cell? ⟨gw,k,none⟩=some (U32 (wordAt S k)):=by rw[hw];exact HW2.out k hlt
   have hn:Sha.rounds st S (k+1)=Sha.step v (wordAt KK k) (wordAt S k):=by rw[hv,HKK.out];rfl
   have HN:=Lib.hid hn
   clear hn hv hw e0 e1 e2 e3 e4 e5 e6 e7
   generalize wordAt KK k=xk at *
   generalize wordAt S k=xs at *
   have T6:∀u,Calls Tryd.prog 67 #[U32 v.e,.int .u64 6] u fun e u'=>e=.returned (U32 (Sha.rotr v.e 6))/\u=u':=fun u=>turned_any v.e 6 (by decide) (by decide) u
   have T11:∀u,Calls Tryd.prog 67 #[U32 v.e,.int .u64 11] u fun e u'=>e=.returned (U32 (Sha.rotr v.e 11))/\u=u':=fun u=>turned_any v.e 11 (by decide) (by decide) u
   have T25:∀u,Calls Tryd.prog 67 #[U32 v.e,.int .u64 25] u fun e u'=>e=.returned (U32 (Sha.rotr v.e 25))/\u=u':=fun u=>turned_any v.e 25 (by decide) (by decide) u
   have T2:∀u,Calls Tryd.prog 67 #[U32 v.a,.int .u64 2] u fun e u'=>e=.returned (U32 (Sha.rotr v.a 2))/\u=u':=fun u=>turned_any v.a 2 (by decide) (by decide) u
   have T13:∀u,Calls Tryd.prog 67 #[U32 v.a,.int .u64 13] u fun e u'=>e=.returned (U32 (Sha.rotr v.a 13))/\u=u':=fun u=>turned_any v.a 13 (by decide) (by decide) u
   have T22:∀u,Calls Tryd.prog 67 #[U32 v.a,.int .u64 22] u fun e u'=>e=.returned (U32 (Sha.rotr v.a 22))/\u=u':=fun u=>turned_any v.a 22 (by decide) (by decide) u
   go_wp2_with fail
   refine(T6 _).mono ?_
   rintro e w' ⟨rfl,rfl⟩
   go_wp2_with fail
   refine(T11 _).mono ?_
   rintro e w' ⟨rfl,rfl⟩
   go_wp2_with fail
   refine(T25 _).mono ?_
   rintro e w' ⟨rfl,rfl⟩
   go_wp2_with fail
   go_quiet (fail)
   go_wp2_with fail
   refine(T2 _).mono ?_
   rintro e w' ⟨rfl,rfl⟩
   go_wp2_with fail
   refine(T13 _).mono ?_
   rintro e w' ⟨rfl,rfl⟩
   go_wp2_with fail
   refine(T22 _).mono ?_
   rintro e w' ⟨rfl,rfl⟩
   clear T6 T11 T25 T2 T13 T22 ek es
   go_wp2
   go_roundw
   case rel =>
    have hstep:=round_step v xk xs _ _ rfl rfl
    exact⟨k+1,n+nq,Sha.step v xk xs,by omega,HN.out.symm,by rw[hstep],by rw[hstep],by rw[hstep],by rw[hstep],by rw[hstep],by rw[hstep],by rw[hstep],by rw[hstep],by go_num,by rw[HWR.out,World.drewN_drewN]⟩
   case measure=>simp[intOf];omega
  ·obtain rfl:k=64:=by omega
   rw[show (((64:Nat):Int))=64 from rfl]
   have g0:wr.cell? ⟨gs,0,none⟩=some (U32 st.a):=by rw[hw];exact e0
   have g1:wr.cell? ⟨gs,1,none⟩=some (U32 st.b):=by rw[hw];exact e1
   have g2:wr.cell? ⟨gs,2,none⟩=some (U32 st.c):=by rw[hw];exact e2
   have g3:wr.cell? ⟨gs,3,none⟩=some (U32 st.d):=by rw[hw];exact e3
   have g4:wr.cell? ⟨gs,4,none⟩=some (U32 st.e):=by rw[hw];exact e4
   have g5:wr.cell? ⟨gs,5,none⟩=some (U32 st.f):=by rw[hw];exact e5
   have g6:wr.cell? ⟨gs,6,none⟩=some (U32 st.g):=by rw[hw];exact e6
   have g7:wr.cell? ⟨gs,7,none⟩=some (U32 st.h):=by rw[hw];exact e7
   subst hv
   generalize hv2:Sha.rounds st S 64=v at *
   have HV2:=Lib.hid hv2
   clear hv2
   have hwb:Below w.heap.size w wr:=by rw[hw];exact below_drewN HB2.out n
   have HWB:=Lib.hid hwb
   clear e0 e1 e2 e3 e4 e5 e6 e7 hw hwb HWR
   go_wp2_with fail
   refine wp_region_mid 40 (by kernel_rfl) (by kernel_rfl) rfl ?_
   simp only[List.take_succ_cons,List.take_zero,List.drop_zero]
   repeat (first|go_big_quiet_step (fail) | quiet_step (fail))
   refine wpQuiet_nil ?_
   intro j
   have HB3:Hid (Below w.heap.size w (wr.drewN j)):=Lib.hid (below_drewN HWB.out j)
   clear g0 g1 g2 g3 g4 g5 g6 g7 HWB
   generalize wr.drewN j=w8 at *
   go_wp2
   refine midPost_normal (rest_quiet (by kernel_rfl) ?_)
   simp only[List.drop_succ_cons,List.drop_nil]
   repeat (first|go_big_quiet_step (fail) | quiet_step (fail))
   refine wpQuiet_nil ?_
   intro j'
   have hown:OwnsW (w8.alloc (.cells #[U32 (st.a+v.a),U32 (st.b+v.b),U32 (st.c+v.c),U32 (st.d+v.d),U32 (st.e+v.e),U32 (st.f+v.f),U32 (st.g+v.g),U32 (st.h+v.h)] 52)) w.heap.size (.slice (some ⟨w8.heap.size,0,none⟩) 8 8) (st.plus v).list :=
    World.ownsRow_lit w8 (e:=52) (size:=1) #[U32 (st.a+v.a),U32 (st.b+v.b),U32 (st.c+v.c),U32 (st.d+v.d),U32 (st.e+v.e),U32 (st.f+v.f),U32 (st.g+v.g),U32 (st.h+v.h)] 8 HB3.out.size (by unfold maxLen;omega) rfl
   have hbf:Below w.heap.size w (w8.alloc (.cells #[U32 (st.a+v.a),U32 (st.b+v.b),U32 (st.c+v.c),U32 (st.d+v.d),U32 (st.e+v.e),U32 (st.f+v.f),U32 (st.g+v.g),U32 (st.h+v.h)] 52)):=HB3.out.alloc HB3.out.size _
   generalize w8.alloc (.cells #[U32 (st.a+v.a),U32 (st.b+v.b),U32 (st.c+v.c),U32 (st.d+v.d),U32 (st.e+v.e),U32 (st.f+v.f),U32 (st.g+v.g),U32 (st.h+v.h)] 52)=w9 at *
   generalize hg8:w8.heap.size=g8 at *
   clear hg8
   have HO:=Lib.hid hown
   have HBF:=Lib.hid hbf
   clear hown hbf
   go_wp2
   go_ret
   refine⟨_,rfl,?_,below_drewN HBF.out j'⟩
   rw[HV2.out];exact HO.out
end Go.Proofs.YtbicafgmfgdckaaDoor
namespace Go.Proofs.YtbicafgmfgdckaaDoor
open Go Go.RowKit

theorem big_len' (n:Nat) (h:n<=1048576):Value.int .u64 ((n:Int) * 8)=U64 (BitVec.ofNat 64 (8 * n)):=by
 rw[Int.mul_comm];exact big_len n h
set_option maxHeartbeats 1000000 in
theorem rpad_any (a:Option Addr) (cap:Nat) (l:List (BitVec 8)) (w:World) (hr:Reads w a cap l) (hlm:l.length<=1000000) :
  Calls Tryd.prog 35 #[.slice a l.length cap] w fun e w'=>∃v,e=.returned v/\Owns w' w.heap.size 5 v (Sha.pad l)/\Below w.heap.size w w':=by
 have CO:=copy_any a cap l w hr (by omega)
 obtain⟨B,hB⟩:∃B,w.heap.size=B:=⟨_,rfl⟩
 rw[hB]
 obtain⟨P,hP⟩:∃P,Sha.pad l=P:=⟨_,rfl⟩
 rw[hP]
 have HP:=Lib.hid hP
 clear hP
 go_enter Tryd.func35,Tryd.ntmps35
 go_wp2_with fail
 refine CO.mono ?_
 rintro e w2 ⟨vt,rfl,ho2,hb2⟩
 rw[hB] at ho2 hb2
 have hsz2:B<=w2.heap.size:=hB ▸ hb2.size
 have hr2:=reads_lit w2 #[.int .u8 128] 5 (0,0) [0x80#8] rfl (by decide)
 have ho2':=ho2.below (w':=w2.alloc (.cells #[.int .u8 128] 5)) ((Below.refl _ _).alloc (Nat.le_refl _) _)
 have hz2:B<=(w2.alloc (.cells #[.int .u8 128] 5)).heap.size:=by simp;omega
 have hlen:l.length+1<=140737488355328:=by omega
 go_wp2_with (at_builtin;refine wpList_append_bytes_at byteSlice rfl _ _ rfl B vt l rfl ho2' (some ⟨w2.heap.size,0,none⟩) 1 [0x80#8] rfl hr2 hlen hz2 ?_;intro v3 w3 ho3 hg3 _)
 have hb3:Below B w w3:=below_append hb2 (by omega) ho2' hg3
 go_loopw [3] (fun x wr=>TailRel B (l++[0x80#8]) (Sha.noughts l.length) w x wr) (fun x _=>match x with | .slice _ n _=>1000200 - n|_=>0)
 case atStart=>exact⟨0,by omega,by simpa using ho3,hb3⟩
 case round =>
  clear ho3 hb3 hg3 ho2' hz2 hr2 ho2 CO
  obtain⟨j,hj,ho,hbw⟩:=hrel
  obtain⟨t,ht⟩:∃t,l++[0x80#8]++List.replicate j 0#8=t:=⟨_,rfl⟩
  have htl:t.length=l.length+1+j:=by rw[<- ht];simp;omega
  have hnl:=noughts_le l.length
  have hnn:Sha.noughts l.length=(119 - l.length % 64) % 64:=rfl
  rw[ht] at ho
  obtain⟨at_,ct,rfl,hrt⟩:=ho.reads
  have HT:=Lib.hid ht
  clear ht
  by_cases hlt:j < Sha.noughts l.length
  ·have hne:¬((t.length:Int) % 64=56):=by omega
   have hne':((t.length:Int) % 64 != 56)=true:=by simpa using hne
   have htl2:t.length<=1000100:=by omega
   have hbs:=hbw.size
   have hrz:=reads_lit wr #[.int .u8 0] 5 (0,0) [0#8] rfl (by decide)
   have ho':=ho.below (w':=wr.alloc (.cells #[.int .u8 0] 5)) ((Below.refl _ _).alloc (Nat.le_refl _) _)
   have hz':B<=(wr.alloc (.cells #[.int .u8 0] 5)).heap.size:=by simp;omega
   have hlen':t.length+1<=140737488355328:=by omega
   have HTL:=Lib.hid htl
   clear htl hnn
   go_wp2_with (at_builtin;refine wpList_append_bytes_at byteSlice rfl _ _ rfl B (.slice at_ t.length ct) t rfl ho' (some ⟨wr.heap.size,0,none⟩) 1 [0#8] rfl hrz hlen' hz' ?_;intro v5 w5 ho5 hg5 _)
   have hb5:=below_append hbw (by omega) ho' hg5
   obtain⟨x,hx⟩:∃x,t++[0#8]=x:=⟨_,rfl⟩
   have hxl:x.length=t.length+1:=by rw[<- hx,List.length_append,List.length_singleton]
   rw[hx] at ho5
   obtain⟨a5,c5,rfl,_⟩:=ho5.reads
   have HO5:=Lib.hid ho5
   have HB5:=Lib.hid hb5
   have HX:=Lib.hid hx
   have HXL:=Lib.hid hxl
   clear ho5 hb5 hx hxl ho' hg5 ho hrz hrt
   go_roundw
   case rel =>
    refine⟨j+1,hlt,?_,HB5.out⟩
    rw[List.replicate_succ',<- List.append_assoc,HT.out,HX.out]
    exact HO5.out
   case measure =>
    have h1:=HXL.out
    show 1000200 - x.length < 1000200 - t.length
    omega
  ·obtain rfl:j=Sha.noughts l.length:=by omega
   have heq:(t.length:Int) % 64=56:=by omega
   have heq':((t.length:Int) % 64 != 56)=false:=by simpa using heq
   have htl2:t.length<=1000100:=by omega
   have hbs:=hbw.size
   have htail:P=t++Sha.be8 (8 * l.length):=by rw[<- HT.out,<- HP.out];rfl
   have HTA:=Lib.hid htail
   clear htail htl hnn hnl hj hlt
   have PU:Calls Tryd.prog 38 #[.int .u64 ((l.length:Int) * 8),.int .i64 8] wr fun e w' =>
     ∃v,e=.returned v/\Owns w' wr.heap.size 5 v (leB (BitVec.ofNat 64 (8 * l.length)) 8)/\Below wr.heap.size wr w':=by
    rw[big_len' _ (by omega)]
    exact rput_any _ 8 (by omega) (by omega) wr
   have hbe:(leB (BitVec.ofNat 64 (8 * l.length)) 8).reverse=Sha.be8 (8 * l.length):=be8_big _ (by omega)
   have hlb:(leB (BitVec.ofNat 64 (8 * l.length)) 8).length=8:=length_leB _ _
   generalize leB (BitVec.ofNat 64 (8 * l.length)) 8=x at *
   have HBE:=Lib.hid hbe
   have HLB:=Lib.hid hlb
   clear hbe hlb
   go_wp2_with fail
   refine PU.mono ?_
   rintro e w6 ⟨v6,rfl,ho6,hb6⟩
   obtain⟨a6,c6,rfl,hr6⟩:=ho6.reads
   have BK:=rback_any a6 c6 x w6 hr6 (by have:=HLB.out;omega)
   clear PU
   go_wp2_with fail
   refine BK.mono ?_
   rintro e w7 ⟨v7,rfl,ho7,hb7⟩
   rw[HBE.out] at ho7
   obtain⟨e8,he8⟩:∃q,Sha.be8 (8 * l.length)=q:=⟨_,rfl⟩
   rw[he8] at ho7
   have HE8:=Lib.hid he8
   have he8l:e8.length=8:=by rw[<- he8];rfl
   clear he8
   obtain⟨a7,c7,rfl,hr7⟩:=ho7.reads
   have hbw7:=hb6.trans (hb7.mono hb6.size)
   have ho8:=ho.below hbw7
   have hs7:=hbw7.size
   have hz8:B<=w7.heap.size:=by omega
   have hlen8:t.length+e8.length<=140737488355328:=by omega
   clear BK he8l
   go_wp2_with (at_builtin;refine wpList_append_bytes_at byteSlice rfl _ _ rfl B (.slice at_ t.length ct) t rfl ho8 a7 c7 e8 rfl hr7 hlen8 hz8 ?_;intro v9 w9 ho9 hg9 _)
   go_ret
   have hb79:Below B w7 w9:=(Touch.of_grown (F:=fun k=>(Value.slice at_ t.length ct).ownBlock=some k) hg9 fun k hk=>hk).below (fun k hk=>(row_lt ho hk).1) hz8
   refine⟨v9,rfl,?_,(hbw.trans (hbw7.mono (by omega))).trans hb79⟩
   rw[HTA.out,HE8.out]
   exact ho9
end Go.Proofs.YtbicafgmfgdckaaDoor
namespace Go.Proofs.YtbicafgmfgdckaaDoor
open Go Go.RowKit

def IdAt (w:World) (g:Nat) (f:List (BitVec 8)):Prop:=w.heap[g]?=some (.cells (f.map U8).toArray 39 (0,0))
section
variable {w w':World} {g:Nat} {f:List (BitVec 8)}
theorem IdAt.cell (h:IdAt w g f) {i:Nat} (hi:i < f.length):w.cell? ⟨g,i,none⟩=some (U8 (byteAt f i)):=by
 unfold IdAt at h
 unfold World.cell?
 rw[h]
 simp[byteAt,List.getD_eq_getElem?_getD,List.getElem?_eq_getElem hi]
theorem IdAt.thawed (h:IdAt w g f) (o:Nat):w.frozen? ⟨g,o,none⟩=false:=by
 unfold IdAt at h
 simp[World.frozen?,h]
theorem IdAt.set (h:IdAt w g f) (i:Nat) (x:BitVec 8):IdAt (w.setCell ⟨g,i,none⟩ (U8 x)) g (f.set i x):=by
 have e:=setCell_eq_setRow w g i (f.map U8).toArray 39 (0,0) (U8 x) h
 unfold IdAt
 rw[e,show (f.map U8).toArray.setIfInBounds i (U8 x)=((f.set i x).map U8).toArray by simp[List.map_set]]
 exact setRow_heap w g _ _ _ _ h
theorem IdAt.lt (h:IdAt w g f):g < w.heap.size:=heap_lt h
theorem IdAt.touch {F:Nat->Prop} (h:IdAt w g f) (k:Touch F w w') (hn:¬F g):IdAt w' g f:=by
 have hl:=h.lt
 unfold IdAt at h ⊢
 rw[k.block g hl hn];exact h
theorem IdAt.below (h:IdAt w g f) (hb:Below w.heap.size w w'):IdAt w' g f:=h.touch (F:=fun _=>False) (.of_below hb) fun e=>e
end
theorem flat_at (f:Words) (i k:Nat) (hi:i < f.length) (hk:k < 4):byteAt (f.flatMap Sha.bytes4) (4 * i+k)=byteAt (Sha.bytes4 (wordAt f i)) k:=by
 induction f generalizing i with
 | nil=>simp at hi
 | cons a f ih =>
  rw[List.flatMap_cons]
  have h4:(Sha.bytes4 a).length=4:=rfl
  cases i with
  | zero =>
   simp only[byteAt,List.getD_eq_getElem?_getD,Nat.mul_zero,Nat.zero_add,wordAt]
   rw[List.getElem?_append_left (by omega)]
   rfl
  | succ i =>
   have:=ih i (by simp at hi;omega)
   simp only[byteAt,List.getD_eq_getElem?_getD,wordAt] at this ⊢
   rw[List.getElem?_append_right (by omega),h4,show 4 * (i+1)+k - 4=4 * i+k by omega,this]
   simp
theorem le4_at (x:BitVec 32) (k:Nat) (hk:k < 4):byteAt (leB (x.setWidth 64) 4) (3 - k)=byteAt (Sha.bytes4 x) k:=by
 rw[<- bytes4_big,beB]
 have h1:(leB (x.setWidth 64) 4).length=4:=length_leB _ _
 rw[byteAt_lt (l:=(leB (x.setWidth 64) 4).reverse) (by rw[List.length_reverse,h1];exact hk),List.getElem_reverse,byteAt_lt (by omega)]
 simp only[h1]
def RBlockRel (P:List (BitVec 8)) (ap:Option Addr) (cp:Nat) (z:List (BitVec 8)) (B:Nat) (w:World) (s at_:Value) (wr:World):Prop :=
 ∃k:Nat,64 * k<=P.length/\at_=.int .i64 (64 * k:Nat)/\OwnsW wr (B+1) s (Sha.blocks k Sha.begin P).list/\Reads wr ap cp P/\IdAt wr B z/\Below B w wr
def ROutRel (D:List (BitVec 8)) (F:Words) (s:Value) (z:List (BitVec 8)) (gd B:Nat) (w:World) (i:Value) (wr:World):Prop :=
 ∃(k:Nat) (f:List (BitVec 8)),k<=8/\i=.int .i64 k/\f.length=32/\IdAt wr gd f/\(∀j,j < 4 * k->byteAt f j=byteAt D j)/\OwnsW wr (B+1) s F/\IdAt wr B z/\Below B w wr
def RInRel (D X:List (BitVec 8)) (gx:Nat) (F:Words) (s:Value) (z:List (BitVec 8)) (gd B i:Nat) (w:World) (k_:Value) (wr:World):Prop :=
 ∃(k:Nat) (f:List (BitVec 8)),k<=4/\k_=.int .i64 k/\f.length=32/\IdAt wr gd f/\(∀j,j < 4 * i+k->byteAt f j=byteAt D j)/\BytesAt wr gx 0 X/\OwnsW wr (B+1) s F/\IdAt wr B z/\Below B w wr
set_option maxRecDepth 40000 in
set_option maxHeartbeats 2000000 in
theorem rsum_any (a:Option Addr) (cap:Nat) (l:List (BitVec 8)) (w:World) (hr:Reads w a cap l) (hlm:l.length<=1000000) :
  Calls Tryd.prog 22 #[.slice a l.length cap] w fun e w'=>e=.returned (.agg ((Sha.sum l).map U8).toArray)/\Below w.heap.size w w':=by
 obtain⟨z,hz0,hz⟩:=zero_id
 have hzl:z.length=32:=by rw[hz0];rfl
 have HZ0:=Lib.hid hz0
 clear hz0
 obtain⟨B,hB⟩:∃B,w.heap.size=B:=⟨_,rfl⟩
 have hb1:Below B w (w.alloc (.cells (z.map U8).toArray 39)):=(hB ▸ Below.refl _ _:Below B w w).alloc (by omega) _
 have i1:IdAt (w.alloc (.cells (z.map U8).toArray 39)) B z:=by rw[<- hB];exact heap_alloc_new w _
 have PD:=rpad_any a cap l (w.alloc (.cells (z.map U8).toArray 39)) (hr.keeps (Keeps.alloc w _)) hlm
 have hsum:Sha.sum l=(Sha.blocks ((Sha.pad l).length / 64) Sha.begin (Sha.pad l)).bytes:=rfl
 have hp64:(Sha.pad l).length % 64=0:=by
  have hn:Sha.noughts l.length=(119 - l.length % 64) % 64:=rfl
  rw[Sha.pad,Sha.tail];simp[Sha.be8];omega
 have hp0:(Sha.pad l).length<=1000200:=by
  have hn:Sha.noughts l.length=(119 - l.length % 64) % 64:=rfl
  rw[Sha.pad,Sha.tail];simp[Sha.be8];omega
 generalize Sha.sum l=D at *
 generalize Sha.pad l=P at *
 have HSUM:=Lib.hid hsum
 have HP64:=Lib.hid hp64
 clear hsum hp64
 rw[hB]
 go_enter Tryd.func22,Tryd.ntmps22
 go_wp2_with fail
 generalize w.alloc (.cells (z.map U8).toArray 39)=w1 at *
 refine PD.mono ?_
 rintro e w2 ⟨vp,rfl,hop,hb2⟩
 have hs1:=i1.lt
 have hb12:=hb1.trans (hb2.mono (by omega))
 have i2:=i1.below hb2
 clear PD hr
 obtain⟨ap,cp,rfl,hpr⟩:=hop.reads
 have s8:∀q:World,B+1<=q.heap.size->OwnsW (q.alloc (.cells #[.int .u32 1779033703,.int .u32 3144134277,.int .u32 1013904242,.int .u32 2773480762,.int .u32 1359893119,.int .u32 2600822924,.int .u32 528734635,.int .u32 1541459225] 52)) (B+1) (.slice (some ⟨q.heap.size,0,none⟩) 8 8) Sha.begin.list :=
  fun q hq=>World.ownsRow_lit q (e:=52) (size:=1) #[.int .u32 1779033703,.int .u32 3144134277,.int .u32 1013904242,.int .u32 2773480762,.int .u32 1359893119,.int .u32 2600822924,.int .u32 528734635,.int .u32 1541459225] 8 hq (by unfold maxLen;omega) rfl
 have hs2:=hb2.size
 have s2:=s8 w2 (by omega)
 have hpr2:=hpr.keeps (Keeps.alloc w2 (.cells #[.int .u32 1779033703,.int .u32 3144134277,.int .u32 1013904242,.int .u32 2773480762,.int .u32 1359893119,.int .u32 2600822924,.int .u32 528734635,.int .u32 1541459225] 52))
 have i3:=i2.below (w':=w2.alloc (.cells #[.int .u32 1779033703,.int .u32 3144134277,.int .u32 1013904242,.int .u32 2773480762,.int .u32 1359893119,.int .u32 2600822924,.int .u32 528734635,.int .u32 1541459225] 52)) ((Below.refl _ _).alloc (Nat.le_refl _) _)
 have hb3:=hb12.alloc (by omega) (.cells #[.int .u32 1779033703,.int .u32 3144134277,.int .u32 1013904242,.int .u32 2773480762,.int .u32 1359893119,.int .u32 2600822924,.int .u32 528734635,.int .u32 1541459225] 52)
 clear s8 hop hpr i2 hb12
 have HB1:=Lib.hid hb1
 clear hb1
 go_wp2_with fail
 generalize w2.alloc _=w3 at *
 go_loopw [4,5] (fun s at_ wr=>RBlockRel P ap cp z B w s at_ wr) (fun _ at_ _=>P.length - (intOf at_).toNat)
 case atStart=>exact⟨0,by omega,rfl,s2,hpr2,i3,hb3⟩
 case round =>
  clear s2 hpr2 i3 hb3
  obtain⟨k,hk,rfl,hos,hpr,hi,hbw⟩:=hrel
  by_cases hlt:64 * k+64<=P.length
  ·have hne:P≠[]:=fun e=>by rw[e] at hlt;simp at hlt
   obtain⟨b,off,rfl,hby⟩:=hpr.bytes.resolve_left hne
   have hfit:=hpr.fits
   have hroom:=hpr.room
   have hs:=fun w=>run_slice_both (P:=Tryd.prog) byteSlice w (some ⟨b,off,none⟩) P.length cp .i64 .i64 (64 * k) (64 * k+64) ((64 * k:Nat):Int) (((64 * k:Nat):Int)+64) rfl (by omega) (by omega) (by omega)
   have hda:dropAddr (some ⟨b,off,none⟩) cp (64 * k)=some ⟨b,off+64 * k,none⟩:=by
    unfold dropAddr
    rw[if_neg (by omega),Option.map_some,Addr.add_lit]
   rw[hda,show 64 * k+64 - 64 * k=64 by omega] at hs
   have hq64:((P.drop (64 * k)).take 64).length=64:=by rw[List.length_take,List.length_drop];omega
   have hqb:BytesAt wr b (off+64 * k) ((P.drop (64 * k)).take 64):=(hby.drop (64 * k)).take 64
   have hsucc:=Sha.blocks_succ k Sha.begin P
   generalize (P.drop (64 * k)).take 64=q at *
   have SP:=spread_any b (off+64 * k) (cp - 64 * k) q wr hq64 (by omega) (by omega) hqb
   generalize Sha.blocks k Sha.begin P=st at *
   have htk:Sha.take st q=st.plus (Sha.rounds st (Sha.sched q) 64):=rfl
   have hSl:=Sha.length_sched q
   generalize Sha.sched q=S at *
   rw[htk] at hsucc
   obtain⟨gs,cs,rfl,hc1,hc2,hBg,hgl,hcell⟩:=OwnsW.form hos (fun e=>by cases e)
   rw[show st.list.length=8 from rfl] at *
   have hBs:=hbw.size
   have HSU:=Lib.hid hsucc
   have HIN:=Lib.hid hi
   have HBW:=Lib.hid hbw
   have HPR:=Lib.hid hpr
   have HSL:=Lib.hid hSl
   clear hsucc hi hbw hpr hby hqb hda htk hos hSl
   generalize hK:64 * k=K at *
   have HKK:=Lib.hid hK
   clear hK
   go_wp2_with fail
   refine SP.mono ?_
   rintro e w5 ⟨v5,rfl,ho5,hb5⟩
   have hSl:=HSL.out
   obtain⟨gw,cw,rfl,hw1,hw2,_,_,hcellw⟩:=OwnsW.form ho5 (fun e=>by rw[e] at hSl;cases hSl)
   rw[hSl] at hw1 hcellw ⊢
   have RD:=rounds_any st S gs cs gw cw w5 hSl (fun j hj=>Keeps.below hb5 _ _ (hcell j hj)) hcellw
   generalize hst':st.plus (Sha.rounds st S 64)=st' at *
   have HST:=Lib.hid hst'
   have HB5:=Lib.hid hb5
   clear hst' SP hcell hcellw ho5 hb5 hSl
   go_wp2_with fail
   refine RD.mono ?_
   rintro e w6 ⟨v6,rfl,ho6,hb6⟩
   have hb56:=HB5.out.trans (hb6.mono HB5.out.size)
   have HO6:=Lib.hid ho6
   have HB6:=Lib.hid hb56
   have HS5:=Lib.hid HB5.out.size
   clear ho6 hb56 hb6 RD
   go_wp2
   go_roundw
   case rel =>
    have hk2:=HKK.out
    have h5:=HS5.out
    refine⟨k+1,by omega,by simp only[Value.int.injEq,true_and];omega,?_,HPR.out.keeps (Keeps.below HB6.out),HIN.out.below HB6.out,HBW.out.trans (HB6.out.mono (by omega))⟩
    rw[HSU.out]
    exact row_mono HO6.out fun q hq=>by have:=row_lt HO6.out hq;omega
   case measure =>
    have hk2:=HKK.out
    simp[intOf];omega
  ·have hkP:64 * k=P.length:=by have:=HP64.out;omega
   have hdiv:P.length / 64=k:=by omega
   have hsum:=HSUM.out
   rw[hdiv] at hsum
   generalize Sha.blocks k Sha.begin P=st at *
   have hD:D=st.list.flatMap Sha.bytes4:=hsum
   have hFl:st.list.length=8:=rfl
   generalize st.list=F at *
   obtain⟨gs,cs,rfl,hc1,hc2,hBg,hgl,hcell⟩:=OwnsW.form hos (fun e=>by rw[e] at hFl;cases hFl)
   rw[hkP]
   have HD:=Lib.hid hD
   clear hsum hD hdiv hkP hlt hpr
   have hB1s:=HB1.out.size
   have hBB:=hbw.size
   have d0:IdAt (wr.alloc (.cells (z.map U8).toArray 39)) wr.heap.size z:=heap_alloc_new wr _
   have o1:=OwnsW.below hos (w':=wr.alloc (.cells (z.map U8).toArray 39)) ((Below.refl _ _).alloc (Nat.le_refl _) _)
   have i4:=hi.below (w':=wr.alloc (.cells (z.map U8).toArray 39)) ((Below.refl _ _).alloc (Nat.le_refl _) _)
   have hb5:=hbw.alloc (by omega) (.cells (z.map U8).toArray 39)
   have hil:=hi.lt
   generalize hgde:wr.heap.size=gd at *
   clear hos hi hbw
   rw[hFl] at o1 hcell hc1 ⊢
   have HFL:=Lib.hid hFl
   clear hFl hcell
   go_wp2
   clear hgde
   generalize wr.alloc (.cells (z.map U8).toArray 39)=w7 at *
   go_loopw [7] (fun i wr=>ROutRel D F (.slice (some ⟨gs,0,none⟩) 8 cs) z gd B w i wr) (fun i _=>8 - (intOf i).toNat)
   case atStart=>exact⟨0,z,by omega,rfl,hzl,d0,fun j h=>by omega,o1,i4,hb5⟩
   case round =>
    clear d0 o1 i4 hb5
    obtain⟨i,f,hi8,rfl,hfl,hd,hj,ho,hi,hbw⟩:=hrel
    by_cases hlt:i < 8
    ·obtain⟨gs',cs',e1,_,_,_,hgs,hcell⟩:=OwnsW.form ho (fun e=>by have:=HFL.out;rw[e] at this;cases this)
     injection e1 with e1 e2 e3
     injection e1 with e1
     injection e1 with e1 _ _
     subst e1 e3
     have hc:=hcell i (by have:=HFL.out;omega)
     have hfa:=fun k (hk:k < 4)=>flat_at F i k (by have:=HFL.out;omega) hk
     rw[<- HD.out] at hfa
     generalize wordAt F i=x at *
     have PU:=rput_any (x.setWidth 64) 4 (by decide) (by decide) wr
     have hle:=fun k (hk:k < 4)=>le4_at x k hk
     have hxl:(leB (x.setWidth 64) 4).length=4:=length_leB _ _
     generalize leB (x.setWidth 64) 4=X at *
     have hval:∀k,k < 4->byteAt X (3 - k)=byteAt D (4 * i+k):=fun k hk=>by rw[hle k hk,hfa k hk]
     have HV:=Lib.hid hval
     have HXL:=Lib.hid hxl
     have HD0:=Lib.hid hd
     have HJ:=Lib.hid hj
     have HO:=Lib.hid ho
     have HI:=Lib.hid hi
     have HBW:=Lib.hid hbw
     clear hval hle hfa hcell hd hj ho hi hbw hxl e2
     go_wp2_with fail
     refine PU.mono ?_
     rintro e w8 ⟨v8,rfl,ho8,hb8⟩
     obtain⟨gx,cx,rfl,hrowx,hgx1,hgx2⟩:=ho8.row (by have:=HXL.out;omega)
     have hxl:=HXL.out
     rw[hxl] at hrowx ⊢
     have bx:BytesAt w8 gx 0 X:=fun q hq=>by
      have:=hrowx.cell q (by omega)
      rw[Nat.zero_add];exact this
     have d8:=HD0.out.below hb8
     have o8:=OwnsW.below HO.out hb8
     have i8:=HI.out.below hb8
     have b8:=HBW.out.trans (hb8.mono (by have:=HBW.out.size;omega))
     have hgdx:gx≠gd:=by have:=HD0.out.lt;omega
     clear PU hc hrowx ho8 hb8 hxl
     go_wp2
     go_loopw [9] (fun k_ wr=>RInRel D X gx F (.slice (some ⟨gs,0,none⟩) 8 cs) z gd B i w k_ wr) (fun k_ _=>4 - (intOf k_).toNat)
     case atStart=>exact⟨0,f,by omega,rfl,hfl,d8,fun j h=>HJ.out j (by omega),bx,o8,i8,b8⟩
     case round =>
      clear d8 bx o8 i8 b8
      obtain⟨k,f2,hk4,rfl,hfl2,hd,hj,hbx,ho,hi,hbw⟩:=hrel
      by_cases hlt4:k < 4
      ·obtain⟨m,hm⟩:∃m:Nat,(3:Int) - k=m:=⟨3 - k,by omega⟩
       obtain⟨r,hr⟩:∃r:Nat,4 * (i:Int)+k=r:=⟨4 * i+k,by omega⟩
       have hmk:m=3 - k:=by omega
       have hrk:r=4 * i+k:=by omega
       have hxc:wr.cell? ⟨gx,m,none⟩=some (U8 (byteAt X m)):=by
        have:=hbx m (by have:=HXL.out;omega)
        rw[Nat.zero_add] at this;exact this
       have hval:byteAt X m=byteAt D r:=by rw[hmk,hrk];exact HV.out k hlt4
       rw[hval] at hxc
       have hth:=hd.thawed r
       have hcd:=hd.cell (i:=r) (by omega)
       have hr32:r < 32:=by omega
       have hm4:m < 4:=by omega
       have HD1:=Lib.hid hd
       have HJ1:=Lib.hid hj
       have HBX:=Lib.hid hbx
       have HO1:=Lib.hid ho
       have HI1:=Lib.hid hi
       have HBW1:=Lib.hid hbw
       have HRK:=Lib.hid hrk
       clear hd hj hbx ho hi hbw hmk hrk hval
       generalize hy:byteAt D r=y at *
       have HY:=Lib.hid hy
       clear hy
       go_wp2
       go_roundw
       case rel =>
        have hrk:=HRK.out
        have t:Touch (fun q=>q=gd) wr (wr.setCell ⟨gd,r,none⟩ (U8 y)):=Touch.set wr gd r _ rfl
        refine⟨k+1,f2.set r y,by omega,by go_num,by simp[hfl2],HD1.out.set r y,fun j hj=>?_,t.bytes HBX.out hgdx,HO1.out.touch t (fun q hq e=>?_),HI1.out.touch t (show ¬(B=gd) by omega),HBW1.out.trans (t.below (fun q e=>by have e2:q=gd:=e;omega) (by have:=HBW1.out.size;omega))⟩
        ·rw[byteAt_set _ _ _ _ (by omega)]
         split
         ·rename_i e;subst e;exact HY.out.symm
         ·exact HJ1.out j (by omega)
        ·injection hq with hq
         have e2:q=gd:=e
         have e3:gs=q:=hq
         omega
       case measure=>simp[intOf];omega
      ·obtain rfl:k=4:=by omega
       have HD1:=Lib.hid hd
       have HJ1:=Lib.hid hj
       have HO1:=Lib.hid ho
       have HI1:=Lib.hid hi
       have HBW1:=Lib.hid hbw
       clear hd hj hbx ho hi hbw
       rw[show (((4:Nat):Int))=4 from rfl]
       go_wp2
       go_roundw
       case rel=>exact⟨i+1,f2,by omega,by go_num,hfl2,HD1.out,fun j h=>HJ1.out j (by omega),HO1.out,HI1.out,HBW1.out⟩
       case measure=>simp[intOf];omega
    ·obtain rfl:i=8:=by omega
     have hDl:D.length=32:=by rw[HD.out,length_flat,HFL.out]
     have e0:f=D:=list_ext (by rw[hfl,hDl]) fun j h=>hj j (by omega)
     subst e0
     have hiv:=id_size f hDl
     have hov:=id_one f
     have hzf:(z.map U8).toArray.size=(f.map U8).toArray.size:=by rw[List.size_toArray,List.size_toArray,List.length_map,List.length_map,hDl,hzl]
     have hr2:(wr.setRow B (f.map U8).toArray).heap[B]?=some (.cells (f.map U8).toArray 39 (0,0)):=setRow_heap wr B _ _ 39 _ hi
     have tR:Touch (fun q=>q=B) wr (wr.setRow B (f.map U8).toArray):=Touch.setRow wr _ _ rfl
     have hd2:wr.heap[gd]?=some (.cells (f.map U8).toArray 39 (0,0)):=hd
     have hi2:wr.heap[B]?=some (.cells (z.map U8).toArray 39 (0,0)):=hi
     have HB:=Lib.hid hbw
     clear hbw hd hi hj ho
     generalize hE:(f.map U8).toArray=E at *
     have HE:=Lib.hid hE
     clear hE
     go_wp2_with (first | (refine wpList_load_row rfl 39 _ rfl gd rfl _ E _ _ hd2 Tryd.underlying39 rfl hiv ?_) | (refine wpList_store_row rfl 39 _ _ rfl B E rfl rfl _ (z.map U8).toArray hi2 hiv hzf hov ?_))
     refine bodyPost_ret (results_cell_row rfl _ _ B _ E _ _ rfl hr2 Tryd.underlying39 rfl hiv) rfl ?_
     exact⟨by rw[HE.out],HB.out.trans (tR.below (fun q e=>by have e2:q=B:=e;omega) (by have:=HB.out.size;omega))⟩
end Go.Proofs.YtbicafgmfgdckaaDoor
namespace Go.Proofs.YtbicafgmfgdckaaDoor
open Go Go.RowKit

section
variable {α:Type} {enc:α->List Value} {K:Nat}
theorem flatC_at:∀(l:List α) (i j:Nat) (u:Value) (hi:i < l.length),(∀x∈l,(enc x).length=K)->(enc l[i])[j]?=some u->(l.flatMap enc)[i * K+j]?=some u
 | [],i,j,u,h,_,_=>by simp at h
 | x::l,0,j,u,_,_,hv=>by
  rw[List.getElem_cons_zero] at hv
  rw[List.flatMap_cons,Nat.zero_mul,Nat.zero_add,List.getElem?_append_left (List.getElem?_eq_some_iff.1 hv).1]
  exact hv
 | x::l,i+1,j,u,h,hl,hv=>by
  have hW:=hl x (by simp)
  rw[List.getElem_cons_succ] at hv
  rw[List.flatMap_cons,List.getElem?_append_right (by rw[hW,Nat.add_mul];omega),hW,show (i+1) * K+j - K=i * K+j by rw[Nat.add_mul];omega]
  exact flatC_at l i j u (by simpa using h) (fun y hy=>hl y (by simp[hy])) hv
end
structure RowsC {α:Type} (enc:α->List Value) (K:Nat) (w:World) (a:Option Addr) (cap:Nat) (l:List α):Prop where
 fits:l.length<=cap
 room:cap<=9223372036854775807
 rows:l=[]\/∃b off,a=some ⟨b,off,none⟩/\∀i (hi:i < l.length),w.rangeAt b (off+i * K) (enc l[i])
structure OwnsC {α:Type} (enc:α->List Value) (K:Nat) (w:World) (B:Nat) (T:TypeId) (v:Value) (l:List α):Prop where
 row:w.ownsRow B T K v l.length (l.flatMap enc)
 cells:∀x∈l,(enc x).length=K
section
variable {α:Type} {enc:α->List Value} {K:Nat} {w w':World} {B:Nat} {T:TypeId} {v v':Value} {l:List α} {a:Option Addr} {cap:Nat}
theorem rowsC_nil:RowsC enc K w none 0 ([]:List α):=⟨by simp,by omega,.inl rfl⟩
theorem ownsC_nil (w:World) (B:Nat) (T:TypeId):OwnsC enc K w B T (.slice none 0 0) []:=⟨World.ownsRow_nil w B T K,fun x h=>by simp at h⟩
theorem OwnsC.touch {F:Nat->Prop} (h:OwnsC enc K w B T v l) (t:Touch F w w') (h1:∀k,v.ownBlock=some k->¬F k):OwnsC enc K w' B T v l:=⟨t.row h.row h1,h.cells⟩
theorem OwnsC.below (h:OwnsC enc K w B T v l) (hb:Below w.heap.size w w'):OwnsC enc K w' B T v l:=h.touch (F:=fun _=>False) (.of_below hb) fun _ _ e=>e
theorem OwnsC.form (h:OwnsC enc K w B T v l):∃a cap,v=.slice a l.length cap/\RowsC enc K w a cap l/\((l=[]/\a=none/\cap=0)\/∃g,a=some ⟨g,0,none⟩/\v.ownBlock=some g/\B<=g/\g < w.heap.size/\∀o,w.frozen? ⟨g,o,none⟩=false):=by
 rcases h.row.2 with⟨rfl,h0⟩|⟨g,cap,cur,rfl,hB,hg,hn,hc,hs,ht⟩
 ·have e:l=[]:=List.eq_nil_of_length_eq_zero h0
  subst e
  exact⟨none,0,rfl,rowsC_nil,.inl ⟨rfl,rfl,rfl⟩⟩
 ·refine⟨some ⟨g,0,none⟩,cap,rfl,⟨hn,by unfold maxLen at hc;omega,.inr ⟨g,0,rfl,fun i hi j u hu=>?_⟩⟩,.inr ⟨g,rfl,rfl,hB,heap_lt hg,fun o=>frozen_of_row w g o cur _ hg⟩⟩
  have:=h.row.cells (g:=g) rfl (i * K+j) u (flatC_at l i j u hi h.cells hu)
  rw[Addr.add_lit,Nat.zero_add] at this
  rw[Nat.zero_add]
  exact this
theorem OwnsC.snoc {x:α} (h:OwnsC enc K w B T v l) (hl:(enc x).length=K) (h1:w'.ownsRow B T K v' (l.length+1) (l.flatMap enc++enc x)):OwnsC enc K w' B T v' (l++[x]):=by
 refine⟨by rw[List.length_append,List.length_singleton,List.flatMap_append,List.flatMap_singleton];exact h1,fun y hy=>?_⟩
 rcases List.mem_append.1 hy with hy|hy
 ·exact h.cells y hy
 ·rw[List.mem_singleton] at hy;subst hy;exact hl
end
theorem wpList_append_c {α:Type} {enc:α->List Value} {K:Nat} {P:Program} {w:World} {ops:Array Oper} {rest:List Oper} {o:Oper} {act:Act} {Q:Exit->Act->World->Prop} {t e:TypeId} {z:Value} {bytes:Nat} (ht:P.underlying t=some (.slice e)) (hinfo:(P.info? e).map (fun i=>(i.zero,i.size,i.bytes))=some (some z,K,bytes)) (hz:z.cells.size=K) (hK:0 < K)
  (hgd:o.guard=none) (s x:Operand) (ho:o.op=.call { callee:=.builtin .append,args:=#[s,x],argTypes:=#[t,t] })
  (B:Nat) (v:Value) (l:List α) (hs:act.eval s=v) (hown:OwnsC enc K w B e v l) (y:α) (ad:Addr) (c:Nat) (hx:act.eval x=.slice (some ad) 1 c)
  (hc:∀j u,(enc y)[j]?=some u->w.cell? (ad.add j)=some u) (h1:∀u∈enc y,u.oneCell'=true) (hl:(enc y).length=K) (hn:l.length+1<=1048576) (hby:bytes<=1048576) (hbase:B<=w.heap.size)
  (h:∀v' w',OwnsC enc K w' B e v' (l++[y])->w.grownBy w' v.ownBlock->(v'.ownBlock=v.ownBlock\/v'.ownBlock=some w.heap.size)->wpList P ops Q rest (act.put o.dst v') w'):wpList P ops Q (o::rest) act w:=by
 obtain⟨i,hi,hz0,hz1,hz2⟩:=info_parts hinfo
 have hb:(l.length+1) * bytes<=1048576 * 1048576:=Nat.mul_le_mul hn hby
 refine wpList_append_own_at w hgd s x t ho B e i z K bytes ht hi hz0 hz1 hz2 hz hK v l.length _ hs hown.row ad 1 c (enc y) hx (by rw[hl,Nat.one_mul]) hc h1 (by unfold maxLen;omega) (Nat.le_trans hb (by decide)) hbase ?_
 intro v' w' r1 r2 _ r4
 exact h v' w' (hown.snoc hl r1) r2 r4
theorem fold_setC:∀(C:List Value) (k:Nat) (Z:Array Value),Z.size=k+C.length->(C.zipIdx k).foldl (fun cs x=>cs.setIfInBounds x.2 x.1) Z=(Z.toList.take k++C).toArray
 | [],k,Z,h=>by
  rw[List.append_nil,List.take_of_length_le (by rw[Array.length_toList,h];simp)]
  simp
 | c::C,k,Z,h=>by
  have hk:k < Z.toList.length:=by rw[Array.length_toList,h];simp
  rw[List.zipIdx_cons,List.foldl_cons,fold_setC C (k+1) _ (by simp[h];omega)]
  congr 1
  rw[Array.toList_setIfInBounds,List.take_set,List.take_succ_eq_append_getElem hk,List.set_append_right _ _ (by rw[List.length_take];omega),List.length_take,Nat.min_eq_left (by omega),Nat.sub_self]
  simp
theorem run_one_c {P:Program} (w:World) {t e:TypeId} {z:Value} {W bytes:Nat} (ht:P.underlying t=some (.slice e)) (hinfo:(P.info? e).map (fun i=>(i.zero,i.size,i.bytes))=some (some z,W,bytes)) (_hz:z.cells.size=W)
  (C:List Value) (hC:C.length=W) (h0:0 < W) (h1:W<=1000) :
  (Instr.buildSlice t 1 #[(0,.agg C.toArray)]).run P w=.ok (.slice (some ⟨w.heap.size,0,none⟩) 1 1) (w.alloc (.cells C.toArray e)):=by
 obtain⟨i,hi,hz0,hz1,hz2⟩:=info_parts hinfo
 have hne:¬W=0:=by omega
 have h2:¬16777216 < W:=by omega
 have hf:C.zipIdx.foldl (fun cs x=>cs.setIfInBounds x.2 x.1) ((Array.range W).map (z.cells[· % z.cells.size]!))=C.toArray:=by
  rw[fold_setC C 0 _ (by simp[hC])]
  simp
 have hcs:(Value.agg C.toArray).cells.size=W:=by show C.toArray.size=W;simpa using hC
 have hfo:Array.foldl (fun cs x=>cs.setIfInBounds (0 * W+x.snd) x.fst) ((Array.range W).map (z.cells[· % z.cells.size]!)) (Value.agg C.toArray).cells.zipIdx=C.toArray:=by
  refine Eq.trans ?_ hf
  show Array.foldl _ _ C.toArray.zipIdx=_
  simp
 have hfill:Instr.fill (fun i=>some (i * W,W)) ((Array.range W).map (z.cells[· % z.cells.size]!)) [(0,.agg C.toArray)]=some C.toArray:=by
  unfold Instr.fill
  simp only[hcs]
  rw[if_neg (by simp)]
  unfold Instr.fill
  rw[hfo]
 unfold Instr.buildSlice
 simp only[Sem.run_bind,run_underlying ht,Result.andThen_ok,sizeOf,typeInfo,Nat.one_mul,Sem.run_pure,zeroValue]
 simp[hne,h2,hz0,hi,hz1,hfill,newRow]
theorem wpList_lit_c {P:Program} {w:World} {ops:Array Oper} {rest:List Oper} {o:Oper} {a:Act} {Q:Exit->Act->World->Prop} {t e:TypeId} {z:Value} {W bytes:Nat} (ht:P.underlying t=some (.slice e)) (hinfo:(P.info? e).map (fun i=>(i.zero,i.size,i.bytes))=some (some z,W,bytes)) (hz:z.cells.size=W)
  (hgd:o.guard=none) (x:Operand) (ho:o.op=.buildSlice t 1 #[(0,x)]) (C:List Value) (hx:a.eval x=.agg C.toArray) (hC:C.length=W) (h0:0 < W) (h1:W<=1000)
  (h:wpList P ops Q rest (a.put o.dst (.slice (some ⟨w.heap.size,0,none⟩) 1 1)) (w.alloc (.cells C.toArray e))):wpList P ops Q (o::rest) a w:=by
 refine wpList_plain hgd fun K hK=>?_
 have hr:=run_one_c (P:=P) w ht hinfo hz C hC h0 h1
 unfold Oper.wp execOp
 simp only[ho,List.map_toArray,List.map_cons,List.map_nil,hx,Sem.run_bind,hr,Result.andThen_ok,Sem.run_pure]
 exact hK _ _ h
theorem wpList_lit_append {α:Type} {enc:α->List Value} {K:Nat} {P:Program} {w:World} {ops:Array Oper} {rest:List Oper} {o1 o2:Oper} {a:Act} {Q:Exit->Act->World->Prop} {t e:TypeId} {z:Value} {bytes:Nat} (ht:P.underlying t=some (.slice e)) (hinfo:(P.info? e).map (fun i=>(i.zero,i.size,i.bytes))=some (some z,K,bytes)) (hz:z.cells.size=K) (hK:0 < K) (hK1:K<=1000)
  (hg1:o1.guard=none) (x:Operand) (ho1:o1.op=.buildSlice t 1 #[(0,x)]) (hg2:o2.guard=none) (s u:Operand) (ho2:o2.op=.call { callee:=.builtin .append,args:=#[s,u],argTypes:=#[t,t] })
  (B:Nat) (v:Value) (l:List α) (hown:OwnsC enc K w B e v l) (y:α) (C:List Value) (hC:enc y=C) (hx:a.eval x=.agg C.toArray)
  (hs:(a.put o1.dst (.slice (some ⟨w.heap.size,0,none⟩) 1 1)).eval s=v) (hu:(a.put o1.dst (.slice (some ⟨w.heap.size,0,none⟩) 1 1)).eval u=.slice (some ⟨w.heap.size,0,none⟩) 1 1)
  (h1:∀u∈C,u.oneCell'=true) (hl:C.length=K) (hn:l.length+1<=1048576) (hby:bytes<=1048576) (hbase:B<=w.heap.size)
  (h:∀v' w',OwnsC enc K w' B e v' (l++[y])->Touch (fun k=>v.ownBlock=some k) w w'->(v'.ownBlock=v.ownBlock\/∃k,v'.ownBlock=some k/\w.heap.size<=k)->wpList P ops Q rest ((a.put o1.dst (.slice (some ⟨w.heap.size,0,none⟩) 1 1)).put o2.dst v') w'):wpList P ops Q (o1::o2::rest) a w:=by
 refine wpList_lit_c ht hinfo hz hg1 x ho1 C hx hl hK hK1 ?_
 have nA:=(Below.refl w.heap.size w).alloc (Nat.le_refl _) (.cells C.toArray e)
 have rA:=rangeAt_row (heap_alloc_new w (.cells C.toArray e))
 rw[List.toList_toArray] at rA
 refine wpList_append_c ht hinfo hz hK hg2 s u ho2 B v l hs (hown.below nA) y ⟨w.heap.size,0,none⟩ 1 hu (fun j q hq=>?_) (by rw[hC];exact h1) (by rw[hC];exact hl) hn hby (Nat.le_trans hbase nA.size) ?_
 ·rw[Addr.add_lit]
  rw[hC] at hq
  exact rA j q hq
 ·intro v' w' q1 q2 q3
  refine h v' w' q1 ((Touch.of_below nA).trans (.of_grown q2 fun k e=>e)) ?_
  rcases q3 with q3|q3
  ·exact .inl q3
  ·exact .inr ⟨_,q3,nA.size⟩
theorem touch_own {B:Nat} {w0 w w':World} {v:Value} {α:Type} {enc:α->List Value} {K:Nat} {T:TypeId} {l:List α} (hb:Below B w0 w) (hB:B<=w0.heap.size) (ho:OwnsC enc K w B T v l) (t:Touch (fun k=>v.ownBlock=some k) w w'):Below B w0 w' :=
 hb.trans (t.below (fun _ hk=>(row_lt ho.row hk).1) (Nat.le_trans hB hb.size))
theorem at_slit (t:TypeId) {P:Program} {ops:Array Oper} {Q:Exit->Act->World->Prop} {rest:List Oper} {d:Option Tmp} {n:Nat} {parts:Array (Nat × Operand)} {ty:TypeId} {pos:String} {after:Array Edge} {g:Option (Nat × Bool)} {a:Act} {w:World}
  (h:wpList P ops Q ({ dst:=d,op:=.buildSlice t n parts,type:=ty,pos,after,guard:=g }::rest) a w):wpList P ops Q ({ dst:=d,op:=.buildSlice t n parts,type:=ty,pos,after,guard:=g }::rest) a w:=h
end Go.Proofs.YtbicafgmfgdckaaDoor
