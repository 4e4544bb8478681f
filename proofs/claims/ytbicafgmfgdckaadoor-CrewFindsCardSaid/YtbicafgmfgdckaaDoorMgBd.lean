/- The hasher's Sum. sha.Sum, Copy, what nobody's hasher answers; lives. -/
import Derived.Test.YtbicafgmfgdckaaDoorMgBc
import Derived.Laws.CopyOwn
namespace Go.Proofs.YtbicafgmfgdckaaDoor
open Go Go.RowKit

theorem hwrite_any {w:World} {B b:Nat} {v:Value} {l:List (BitVec 8)} (h:Hasher w B b v l) (hB:B<=w.heap.size) (h0:0 < B) (hk:KTab w)
  (a:Option Addr) (cap:Nat) (m:List (BitVec 8)) (hr:Reads w a cap m) (hlm:l.length+m.length<=1048576) (hoff:m≠[]->∀ad,a=some ad->ad.block≠b/\v.ownBlock≠some ad.block) :
  Calls Tryd.prog 33 #[.pointer (some ⟨b,0,none⟩),.slice a m.length cap] w (Wrote B b v l m w):=by
 by_cases hl:Sha.left l=[]
 ·exact hwrite_none h hB h0 hk hl a cap m hr hlm fun hm ad e=>(hoff hm ad e).1
 ·by_cases hs:(Sha.left l).length+m.length < 64
  ·exact hwrite_short h hB hl a cap m hr hlm hoff hs
  ·exact hwrite_full h hB hl a cap m hr hlm hoff h0 hk (by omega)

theorem narrow (x:BitVec 32) (k:Nat):(x.setWidth 64 >>> k).setWidth 8=(x >>> k).setWidth 8:=by
 apply BitVec.eq_of_getLsbD_eq
 intro i hi
 simp only[BitVec.getLsbD_setWidth,BitVec.getLsbD_ushiftRight,hi,decide_true,Bool.true_and]
 by_cases h:k+i < 64
 ·simp[h]
 ·rw[BitVec.getLsbD_of_ge _ _ (by omega)];simp[h]
theorem bytes4_big (x:BitVec 32):beB (x.setWidth 64) 4=Sha.bytes4 x:=by
 have h0:=narrow x 0
 simp only[BitVec.ushiftRight_zero] at h0
 simp only[beB,leB,show List.range 4=[0,1,2,3] from rfl,List.map_cons,List.map_nil,List.reverse_cons,List.reverse_nil,List.nil_append,List.cons_append,Nat.mul_zero,Nat.mul_one,narrow,BitVec.ushiftRight_zero,Sha.bytes4]
theorem nat_shift (N k:Nat) (h:N < 2 ^ 64):(BitVec.ofNat 64 N >>> k).setWidth 8=BitVec.ofNat 8 (N / 2 ^ k):=by
 apply BitVec.eq_of_toNat_eq
 simp[BitVec.toNat_setWidth,BitVec.toNat_ushiftRight,Nat.shiftRight_eq_div_pow,Nat.mod_eq_of_lt h]
theorem be8_big (N:Nat) (h:N < 2 ^ 64):beB (BitVec.ofNat 64 N) 8=Sha.be8 N:=by
 have h0:=nat_shift N 0 h
 simp only[BitVec.ushiftRight_zero,Nat.pow_zero,Nat.div_one] at h0
 simp only[beB,leB,show List.range 8=[0,1,2,3,4,5,6,7] from rfl,List.map_cons,List.map_nil,List.reverse_cons,List.reverse_nil,List.nil_append,List.cons_append,Nat.mul_zero,Nat.mul_one,BitVec.ushiftRight_zero,nat_shift N _ h,Nat.pow_zero,Nat.div_one,Sha.be8]
theorem big_len (n:Nat) (h:n<=1048576):Value.int .u64 (8 * (n:Int))=U64 (BitVec.ofNat 64 (8 * n)):=by
 have:(BitVec.ofNat 64 (8 * n)).toNat=8 * n:=by rw[BitVec.toNat_ofNat];omega
 unfold U64
 rw[this];simp
theorem noughts_le (n:Nat):Sha.noughts n < 64:=Nat.mod_lt _ (by decide)
theorem zero_id:∃z:List (BitVec 8),z=List.replicate 32 0#8/\∀w,Sem.run Tryd.prog (zeroValue 39) w=.ok (.agg (z.map U8).toArray) w:=⟨_,rfl,fun w=>by kernel_rfl⟩
theorem below_append {B:Nat} {E:TypeId} {w w2 w3:World} {o:Obj} {v:Value} {l:List (BitVec 8)} (hb:Below B w w2) (hB:B<=w.heap.size) (ho:Owns (w2.alloc o) B E v l) (hg:(w2.alloc o).grownBy w3 v.ownBlock):Below B w w3:=by
 have h1:=hb.size
 have h2:B<=(w2.alloc o).heap.size:=by simp;omega
 exact(hb.alloc (by omega) o).trans ((Touch.of_grown (F:=fun k=>v.ownBlock=some k) hg fun k hk=>hk).below (fun k hk=>(row_lt ho hk).1) h2)
def TailRel (B:Nat) (p:List (BitVec 8)) (n:Nat) (w:World) (x:Value) (wr:World):Prop :=
 ∃j,j<=n/\Owns wr B 5 x (p++List.replicate j 0#8)/\Below B w wr
def SumRel (T:List (BitVec 8)) (s0:Sha.St) (z:List (BitVec 8)) (w:World) (gs:Nat) (x:Value) (wr:World):Prop :=
 ∃(k:Nat) (a:Option Addr) (cap:Nat),64 * k<=T.length/\x=.slice a (T.length - 64 * k) cap/\Reads wr a cap (T.drop (64 * k))/\(∀ad,a=some ad->ad.block≠gs) /\
  ArrAt wr gs 103 (Sha.blocks k s0 T).list/\wr.heap[w.heap.size]?=some (.cells (z.map U8).toArray 39 (0,0))/\KTab wr/\Below w.heap.size w wr
theorem run_slice_id (g k:Nat) (hk:4 * k < 32) (w:World):(Instr.sliceAt 39 (.pointer (some ⟨g,0,none⟩)) (some (.int .i64 (4 * (k:Int)))) none none).run Tryd.prog w=.ok (.slice (some ⟨g,4 * k,none⟩) (32 - 4 * k) (32 - 4 * k)) w:=by
 have hu:Tryd.prog.underlying 39=some (.array 32 5):=by kernel_rfl
 obtain⟨i,hi,_,hz1,_⟩:=info_parts byteSlice.info
 have h1:4 * (k:Int)<=32:=by omega
 have h2:¬(32=4 * k):=by omega
 have h3:(0:Int)<=4 * k:=by omega
 have h4:(4 * (k:Int)).toNat=4 * k:=by omega
 simp[Instr.sliceAt,Instr.sureAddr,run_underlying hu,Instr.sliceBounds,Instr.sliceBound,asIntOf,sizeOf,typeInfo,hi,hz1,h1,h2,h3,h4,Addr.add_lit]
theorem run_index_state (f:Words) (hf:f.length=8) (k:Nat) (hk:k < 8) (w:World):(Instr.index 103 (.agg (arr f)) (.int .i64 k)).run Tryd.prog w=.ok (U32 (wordAt f k)) w:=by
 have hu:Tryd.prog.underlying 103=some (.array 8 52):=by kernel_rfl
 have hu2:Tryd.prog.underlying 52=some (.int .u32):=by kernel_rfl
 have hs:∀w,(sizeOf 52).run Tryd.prog w=.ok 1 w:=fun w=>by kernel_rfl
 have hg:=arr_get f k (by omega)
 have h1:(k:Int) < 8:=by omega
 simp[Instr.index,run_underlying hu,asIntOf,h1,part,isAgg,run_underlying hu2,hs,hg]
 intro h;omega
def CopyRel (f:Words) (z:List (BitVec 8)) (w:World) (gd:Nat) (i:Value) (wr:World):Prop :=
 ∃k:Nat,k<=8/\i=.int .i64 k/\wr.heap[gd]?=some (.cells (((f.take k).flatMap Sha.bytes4++List.replicate (32 - 4 * k) 0#8).map U8).toArray 39 (0,0)) /\
  wr.heap[w.heap.size]?=some (.cells (z.map U8).toArray 39 (0,0))/\Below w.heap.size w wr
theorem length_flat (f:Words):(f.flatMap Sha.bytes4).length=4 * f.length:=by
 induction f with
 | nil=>rfl
 | cons a f ih=>rw[List.flatMap_cons,List.length_append,ih];simp[Sha.bytes4];omega
theorem splice_words (f:Words) (k:Nat) (hk:k < f.length) (hf:f.length=8):splice (((f.take k).flatMap Sha.bytes4++List.replicate (32 - 4 * k) 0#8).map U8) (4 * k) ((Sha.bytes4 (wordAt f k)).map U8)=(((f.take (k+1)).flatMap Sha.bytes4++List.replicate (32 - 4 * (k+1)) 0#8).map U8):=by
 have h1:((f.take k).flatMap Sha.bytes4).length=4 * k:=by rw[length_flat,List.length_take];omega
 have h2:(Sha.bytes4 (wordAt f k)).length=4:=rfl
 have h3:f.take (k+1)=f.take k++[wordAt f k]:=by
  rw[List.take_succ_eq_append_getElem hk];simp[wordAt,List.getD_eq_getElem?_getD,List.getElem?_eq_getElem hk]
 unfold splice
 rw[<- List.map_take,<- List.map_drop,List.length_map,h2,List.take_append_of_le_length (by omega),List.take_of_length_le (by omega),h3,List.flatMap_append,List.drop_append,List.drop_eq_nil_of_le (by omega),h1,List.nil_append,List.drop_replicate]
 rw[List.map_append,List.map_append,List.append_assoc,show [wordAt f k].flatMap Sha.bytes4=Sha.bytes4 (wordAt f k) by simp,show 32 - 4 * k - (4 * k+4 - 4 * k)=32 - 4 * (k+1) by omega]
set_option maxHeartbeats 2000000 in
set_option maxRecDepth 40000 in
theorem hsum_any {w:World} {B b:Nat} {v:Value} {l:List (BitVec 8)} (h:Hasher w B b v l) (hB:B<=w.heap.size) (h0:0 < B) (hk:KTab w) (hlm:l.length<=1048576) :
  Calls Tryd.prog 34 #[.pointer (some ⟨b,0,none⟩)] w fun e w'=>e=.returned (.agg ((Sha.sum l).map U8).toArray)/\Below w.heap.size w w':=by
 obtain⟨z,hz0,hz⟩:=zero_id
 have hzl:z.length=32:=by rw[hz0];rfl
 have HZ0:=Lib.hid hz0
 clear hz0
 have hb1:Below w.heap.size w (w.alloc (.cells (z.map U8).toArray 39)):=(Below.refl _ _).alloc (Nat.le_refl _) _
 have hat1:=h.at_.below hb1
 have OK:=hok_any hat1
 have c9:=hat1.rest
 have ho1:=h.own.below hb1
 obtain⟨a,cap,rfl,hr1⟩:=ho1.reads
 have hll:(Sha.left l).length < 64:=by rw[Sha.left_length];omega
 have CL:=clone_any a cap (Sha.left l) (w.alloc (.cells (z.map U8).toArray 39)) hr1 (by omega)
 have hsum:=Sha.sum_held l
 have r2:(w.alloc (.cells (z.map U8).toArray 39)).heap[w.heap.size]?=some (.cells (z.map U8).toArray 39 (0,0)):=heap_alloc_new w _
 have HSUM:=Lib.hid hsum
 have HK:=Lib.hid hk
 clear h hsum hk ho1
 generalize Sha.sum l=D at *
 generalize hrl:Sha.left l=r at *
 generalize Sha.held l=s0 at *
 have HRL:=Lib.hid hrl
 clear hrl
 go_enter Tryd.func34,Tryd.ntmps34
 go_wp2_with fail
 have HBL:=Lib.hid hat1.lt
 generalize w.alloc (.cells (z.map U8).toArray 39)=w1 at *
 refine OK.mono ?_
 rintro e w' ⟨rfl,rfl⟩
 clear OK
 go_wp2_with fail
 refine CL.mono ?_
 rintro e w2 ⟨vt,rfl,ho2,hb2⟩
 have hsz2:=hb2.size
 have hr2:=reads_lit w2 #[.int .u8 128] 5 (0,0) [0x80#8] rfl (by decide)
 have ho2':=ho2.below (w':=w2.alloc (.cells #[.int .u8 128] 5)) ((Below.refl _ _).alloc (Nat.le_refl _) _)
 have hz2:w1.heap.size<=(w2.alloc (.cells #[.int .u8 128] 5)).heap.size:=by simp;omega
 have hlen:r.length+1<=140737488355328:=by omega
 go_wp2_with (at_builtin;refine wpList_append_bytes_at byteSlice rfl _ _ rfl w1.heap.size vt r rfl ho2' (some ⟨w2.heap.size,0,none⟩) 1 [0x80#8] rfl hr2 hlen hz2 ?_;intro v3 w3 ho3 hg3 _)
 have hb3:Below w1.heap.size w1 w3:=below_append hb2 (Nat.le_refl _) ho2' hg3
 go_loopw [3] (fun x wr=>TailRel w1.heap.size (r++[0x80#8]) (Sha.noughts r.length) w1 x wr) (fun x _=>match x with | .slice _ n _=>200 - n|_=>0)
 case atStart=>exact⟨0,by omega,by simpa using ho3,hb3⟩
 case round =>
  clear ho3 hb3 hg3 ho2' hz2 hr2 ho2
  obtain⟨j,hj,ho,hbw⟩:=hrel
  obtain⟨t,ht⟩:∃t,r++[0x80#8]++List.replicate j 0#8=t:=⟨_,rfl⟩
  have htl:t.length=r.length+1+j:=by rw[<- ht];simp;omega
  have hnl:=noughts_le r.length
  have hnn:Sha.noughts r.length=(119 - r.length % 64) % 64:=rfl
  rw[ht] at ho
  obtain⟨at_,ct,rfl,hrt⟩:=ho.reads
  have HT:=Lib.hid ht
  clear ht
  by_cases hlt:j < Sha.noughts r.length
  ·have hne:¬((t.length:Int) % 64=56):=by omega
   have hne':((t.length:Int) % 64 != 56)=true:=by simpa using hne
   have htl2:t.length<=127:=by omega
   have hbs:=hbw.size
   have hrz:=reads_lit wr #[.int .u8 0] 5 (0,0) [0#8] rfl (by decide)
   have ho':=ho.below (w':=wr.alloc (.cells #[.int .u8 0] 5)) ((Below.refl _ _).alloc (Nat.le_refl _) _)
   have hz':w1.heap.size<=(wr.alloc (.cells #[.int .u8 0] 5)).heap.size:=by simp;omega
   have hlen':t.length+1<=140737488355328:=by omega
   have HTL:=Lib.hid htl
   clear htl
   go_wp2_with (at_builtin;refine wpList_append_bytes_at byteSlice rfl _ _ rfl w1.heap.size (.slice at_ t.length ct) t rfl ho' (some ⟨wr.heap.size,0,none⟩) 1 [0#8] rfl hrz hlen' hz' ?_;intro v5 w5 ho5 hg5 _)
   have hb5:=below_append hbw (Nat.le_refl _) ho' hg5
   obtain⟨x,hx⟩:∃x,t++[0#8]=x:=⟨_,rfl⟩
   have hxl:x.length=t.length+1:=by rw[<- hx,List.length_append,List.length_singleton]
   rw[hx] at ho5
   obtain⟨a5,c5,rfl,_⟩:=ho5.reads
   have HO5:=Lib.hid ho5
   have HB5:=Lib.hid hb5
   have HX:=Lib.hid hx
   have HXL:=Lib.hid hxl
   clear ho5 hb5 hx hxl ho' hg5 ho hrz hrt
   go_roundw
   case rel =>
    refine⟨j+1,hlt,?_,HB5.out⟩
    rw[List.replicate_succ',<- List.append_assoc,HT.out,HX.out]
    exact HO5.out
   case measure =>
    have h1:=HXL.out
    show 200 - x.length < 200 - t.length
    omega
  ·obtain rfl:j=Sha.noughts r.length:=by omega
   have heq:(t.length:Int) % 64=56:=by omega
   have heq':((t.length:Int) % 64 != 56)=false:=by simpa using heq
   have htl2:t.length<=127:=by omega
   have hbs:=hbw.size
   have htail:Sha.tail r l.length=t++Sha.be8 (8 * l.length):=by rw[<- HT.out];rfl
   have hmod:t.length % 64=56:=by omega
   have HTA:=Lib.hid htail
   have c10:=(hat1.below hbw).n_
   have hat4:=hat1.below hbw
   have HMOD:=Lib.hid hmod
   clear htail htl hnn hnl hj hlt hmod hr1 c9 CL hat1
   have BG:Calls Tryd.prog 65 #[.int .u64 (8 * (l.length:Int)),.int .i64 8] wr fun e w' =>
     e=.returned (.slice (some ⟨wr.heap.size,0,none⟩) 8 8)/\RowAt w' wr.heap.size 5 wr.heap.size 8 8 (Sha.be8 (8 * l.length))/\Below wr.heap.size wr w':=by
    rw[big_len _ hlm,<- be8_big _ (by omega)]
    exact big_any _ 8 (by omega) (by omega) wr
   go_wp2_with fail
   refine BG.mono ?_
   rintro e w6 ⟨rfl,hr6,hb6⟩
   have hr6':=hr6.reads
   have ho6:=ho.below hb6
   have hs6:=hb6.size
   have hz6:w1.heap.size<=w6.heap.size:=by omega
   have hlen6:t.length+(Sha.be8 (8 * l.length)).length<=140737488355328:=by
    rw[show (Sha.be8 (8 * l.length)).length=8 from rfl];omega
   obtain⟨z8,hz8,hz8l⟩:=zero_state
   have hiv:(Tryd.prog.info? 103).map (·.size)=some (arr s0.list).size:=by rw[arr_size,show s0.list.length=8 from rfl];kernel_rfl
   have hsz:(arr z8).size=(arr s0.list).size:=by rw[arr_size,arr_size,hz8l];rfl
   have hov:=arr_one s0.list
   have hat6:=hat4.below hb6
   have hvb:∀q,(Value.slice at_ t.length ct).ownBlock=some q->w1.heap.size<=q:=fun q hq=>(row_lt ho hq).1
   have hbl:=hat4.lt
   have hblw:b < w1.heap.size:=HBL.out
   go_wp2_with (first
    |(at_builtin;refine wpList_append_bytes_at byteSlice rfl _ _ rfl w1.heap.size (.slice at_ t.length ct) t rfl ho6 (some ⟨wr.heap.size,0,none⟩) 8 (Sha.be8 (8 * l.length)) rfl hr6' hlen6 hz6 ?_;intro v7 w7 ho7 hg7 _;have t7:Touch (fun q=>(Value.slice at_ t.length ct).ownBlock=some q) w6 w7:=.of_grown hg7 fun k hk=>hk;have hat7:=hat6.touch t7 (fun e=>by have:=hvb b e;omega);have h8:(w7.alloc (.cells (arr z8) 103)).heap[w7.heap.size]?=some (.cells (arr z8) 103 (0,0)):=ArrAt.new w7 _ z8)
    |(refine wpList_load_state hat7 rfl _ rfl rfl ?_)
    |(refine wpList_store_row rfl 103 _ _ rfl w7.heap.size (arr s0.list) rfl rfl _ (arr z8) h8 hiv hsz hov ?_))
   have t9:Touch (fun q=>q=w7.heap.size) w7 ((w7.alloc (.cells (arr z8) 103)).setRow w7.heap.size (arr s0.list)):=((Touch.refl _ _).alloc _).trans (Touch.setRow _ _ _ rfl)
   have d9:ArrAt ((w7.alloc (.cells (arr z8) 103)).setRow w7.heap.size (arr s0.list)) w7.heap.size 103 s0.list:=(ArrAt.new w7 103 z8).row s0.list
   generalize hT:Sha.tail r l.length=T at *
   rw[<- HTA.out] at ho7
   have hTl:T.length=t.length+8:=by rw[HTA.out,List.length_append];rfl
   obtain⟨a7,c7,rfl,hr7⟩:=ho7.reads
   have hb67:Below w1.heap.size w6 w7:=t7.below (fun q hq=>hvb q hq) hz6
   have hb17:Below w1.heap.size w1 w7:=(hbw.trans (hb6.mono hbs)).trans hb67
   have hs17:=hb17.size
   have hb19:=hb17.trans (t9.below (fun q e=>by have e2:q=w7.heap.size:=e;omega) hs17)
   have hs1:=hb1.size
   have hs1':=heap_lt r2
   have r9:=(hb19.block w.heap.size (heap_lt r2)).trans r2
   have hbw9:Below w.heap.size w _:=hb1.trans (hb19.mono hs1)
   have hk9:=HK.out.keeps (Keeps.below hbw9)
   have hag:∀ad,a7=some ad->ad.block≠w7.heap.size:=fun ad e=>by
    have:=(row_lt ho7 (k:=ad.block) (by rw[e];rfl)).2
    omega
   have hr9:=hr7.touch' t9 fun _ ad e=>hag ad e
   have hT64:T.length % 64=0:=by have:=HMOD.out;omega
   have hTle:T.length<=192:=by omega
   have HT64:=Lib.hid hT64
   clear hTl hiv hsz hov hat6 hvb hbl hblw hr6 hr6' ho6 hlen6 hz6 BG c10 hat4 heq heq' htl2 ho hrt h8 hat7 hg7 ho7 hr7 hb67 t7 t9 hb6 hb17 hbw hb19 r2 hz8 hz8l
   have hgsl:w.heap.size < w7.heap.size:=by omega
   generalize hgs:w7.heap.size=gs at *
   have HGS:=Lib.hid hgsl
   clear hgsl hgs
   generalize (w7.alloc (.cells (arr z8) 103)).setRow gs (arr s0.list)=w9 at *
   simp only[Act.put]
   go_loopw [3] (fun x wr=>SumRel T s0 z w gs x wr) (fun x _=>match x with | .slice _ n _=>n|_=>0)
   case atStart=>exact⟨0,a7,c7,by omega,rfl,hr9,hag,d9,r9,hk9,hbw9⟩
   case round =>
    clear hr9 hag d9 r9 hk9 hbw9
    obtain⟨k,a8,c8,hk8,rfl,hr8,hag,hat,r9,hk9,hbw⟩:=hrel
    have hpl:(T.drop (64 * k)).length=T.length - 64 * k:=List.length_drop
    by_cases hlt:64 * k+64<=T.length
    ·have hne:T.drop (64 * k)≠[]:=fun e=>by rw[e] at hpl;simp at hpl;omega
     obtain⟨g,off,rfl,hbm⟩:∃g off,a8=some ⟨g,off,none⟩/\BytesAt wr g off (T.drop (64 * k)):=hr8.bytes.resolve_left hne
     have hgb:g≠gs:=hag _ rfl
     have hfit:=hr8.fits
     have hroom:=hr8.room
     have hp64:((T.drop (64 * k)).take 64).length=64:=by rw[List.length_take,hpl];omega
     have hbs:=Sha.blocks_succ k s0 T
     have hr3:=hr8.drop 64 (by rw[hpl];omega)
     rw[List.drop_drop,show 64 * k+64=64 * (k+1) by omega] at hr3
     rw[hpl] at hfit
     have hs1:=fun w=>run_slice_to (P:=Tryd.prog) byteSlice w (some ⟨g,off,none⟩) (T.length - 64 * k) c8 .i64 64 64 rfl (by omega)
     have hs2:=fun w=>run_slice_from (P:=Tryd.prog) byteSlice w (some ⟨g,off,none⟩) (T.length - 64 * k) c8 .i64 64 64 rfl (by omega)
     have hbt:=hbm.take 64
     generalize hp:(T.drop (64 * k)).take 64=p at *
     generalize hs:Sha.blocks k s0 T=s at *
     have TK:=fun w' (hx:BytesAt w' g off p) (hy:KTab w')=>take_any s g off c8 p w' hp64 (by omega) (by omega) hx hy
     have hat1:ArrAt wr.drew gs 103 s.list:=hat
     have hbt1:BytesAt wr.drew g off p:=hbt
     have hk1:KTab wr.drew:=hk9
     have HP:=Lib.hid hp
     have HS:=Lib.hid hs
     have HBS:=Lib.hid hbs
     have HBW:=Lib.hid hbw
     have HR3:=Lib.hid hr3
     have HR9:=Lib.hid r9
     have HK9:=Lib.hid hk9
     have hq64:(0:Int) < ((T.length - 64 * k:Nat):Int):=by omega
     clear hp hs hbs hbw hr3 hr8 hag hat hbm hbt hk9 r9 hne hpl
     generalize hqq:T.length - 64 * k=q at *
     have HQ:=Lib.hid hqq
     clear hqq
     have hid:Touch (fun q=>q=gs) wr wr.drew:=(Touch.refl _ _).drewN 1
     have hag1:(Tryd.prog.info? 103).map (·.size)=some (arr s.list).size:=by rw[arr_size,show s.list.length=8 from rfl];kernel_rfl
     go_wp2_with fail
     refine wp_region_plan [([1,2],some 0),([],some 3),([],some 4),([],none)] (fun _=>True) (by kernel_rfl) (by kernel_rfl) (fun _ _ d _ _ h=>by cases d<;>exact h) trivial ?_
     refine plan_some (show wpQuiet _ _ _ _ (_::_::[]) _ from ?_)
     repeat (go_big_quiet_step (fail))
     refine wpQuiet_nil (show wpList _ _ _ (_::[]) _ _ from ?_)
     generalize wr.drew=w6 at *
     have HID:=Lib.hid hid
     clear hid
     have h61:w6.heap[gs]?=some (.cells (arr s.list) 103 (0,0)):=hat1
     go_wp2_with (refine wpList_load_row rfl 103 _ rfl gs rfl _ (arr s.list) _ _ h61 Tryd.underlying103 rfl hag1 ?_)
     refine late_normal (fun _ h=>h) trivial ?_
     refine plan_some (show wpQuiet _ _ _ _ [] _ from ?_)
     refine wpQuiet_nil (show wpList _ _ _ (_::[]) _ _ from ?_)
     go_wp2_with fail
     refine(TK w6 hbt1 hk1).mono ?_
     rintro e w7 ⟨rfl,hb7⟩
     have hat7:=hat1.below hb7
     have hs8:(Sha.take s p).list.length=8:=rfl
     generalize Sha.take s p=s' at *
     have hsz:(arr s.list).size=(arr s'.list).size:=by rw[arr_size,arr_size,hs8];rfl
     have hiv:(Tryd.prog.info? 103).map (·.size)=some (arr s'.list).size:=by rw[arr_size,hs8];kernel_rfl
     have hov:=arr_one s'.list
     have h71:w7.heap[gs]?=some (.cells (arr s.list) 103 (0,0)):=hat7
     have HB7:=Lib.hid hb7
     clear TK hbt1 hk1 hat1 hb7 h61
     go_wp2_with fail
     refine late_normal (fun _ h=>h) trivial ?_
     refine plan_some (show wpQuiet _ _ _ _ [] _ from ?_)
     refine wpQuiet_nil (show wpList _ _ _ (_::[]) _ _ from ?_)
     have HA:=Lib.hid (hat7.row s'.list)
     have t8:Touch (fun q=>q=gs) w7 (w7.setRow gs (arr s'.list)):=Touch.setRow _ _ _ rfl
     have HTT:=Lib.hid ((HID.out.trans (.of_below HB7.out)).trans t8)
     clear t8 hat7
     go_wp2_with (refine wpList_store_row rfl 103 _ _ rfl gs (arr s'.list) rfl rfl _ (arr s.list) h71 hiv hsz hov ?_)
     refine late_normal (fun _ h=>h) trivial ?_
     refine plan_none (show wpQuiet _ _ _ _ [] _ from ?_)
     refine wpQuiet_nil ?_
     refine plan_nil ?_
     clear h71
     generalize w7.setRow gs (arr s'.list)=w8 at *
     go_wp2
     go_roundw
     case rel =>
      have hq:=HQ.out
      have ht64:=HT64.out
      have hgs2:w.heap.size < gs:=HGS.out
      refine⟨k+1,_,_,by omega,?_,(HR3.out.touch' HTT.out fun hne ad e=>?_),fun ad e=>?_,?_,?_,HK9.out.touch HTT.out (show ¬(0=gs) by omega),HBW.out.trans (HTT.out.below (fun q e=>by have e2:q=gs:=e;omega) HBW.out.size)⟩
      ·rw[show T.length - 64 * (k+1)=q - 64 by omega]
      ·rw[drop_block e];exact hgb
      ·rw[drop_block e];exact hgb
      ·rw[HBS.out];exact HA.out
      ·rw[HTT.out.block _ (heap_lt HR9.out) (show ¬(w.heap.size=gs) by omega)];exact HR9.out
     case measure=>simp;omega
    ·have hkq:T.length / 64=k:=by have:=HT64.out;omega
     have hq0:T.length - 64 * k=0:=by have:=HT64.out;omega
     rw[hq0]
     have hag1:(Tryd.prog.info? 103).map (·.size)=some (arr (Sha.blocks k s0 T).list).size:=by rw[arr_size,show (Sha.blocks k s0 T).list.length=8 from rfl];kernel_rfl
     have hsum:=HSUM.out
     rw[hkq] at hsum
     generalize Sha.blocks k s0 T=S at *
     have hSl:S.list.length=8:=rfl
     have hsum2:D=S.list.flatMap Sha.bytes4:=hsum
     have HS2:=Lib.hid hsum2
     clear hsum hsum2 hkq hq0 hr8 hag
     generalize S.list=f at *
     have hrow:(wr.alloc (.cells (z.map U8).toArray 39)).heap[gs]?=some (.cells (arr f) 103 (0,0)):=hat.touch (F:=fun _=>False) ((Touch.refl _ _).alloc _) fun e=>e
     have hd0:(wr.alloc (.cells (z.map U8).toArray 39)).heap[wr.heap.size]?=some (.cells (z.map U8).toArray 39 (0,0)):=heap_alloc_new wr _
     have r10:(wr.alloc (.cells (z.map U8).toArray 39)).heap[w.heap.size]?=some (.cells (z.map U8).toArray 39 (0,0)):=(Below.heap_alloc wr _ _ (heap_lt r9)).trans r9
     have hb10:Below w.heap.size w (wr.alloc (.cells (z.map U8).toArray 39)):=hbw.alloc hbw.size _
     have hgd:=heap_lt r9
     generalize hgde:wr.heap.size=gd at *
     clear r9 hk9 hbw hat hlt hpl
     go_wp2_with (refine wpList_load_row rfl 103 _ rfl gs rfl _ (arr f) _ _ hrow Tryd.underlying103 rfl hag1 ?_)
     clear hrow hag1
     generalize wr.alloc (.cells (z.map U8).toArray 39)=w11 at *
     go_loopw [49] (fun i wr=>CopyRel f z w gd i wr) (fun i _=>8 - (intOf i).toNat)
     case atStart=>exact⟨0,by omega,rfl,by simpa [HZ0.out] using hd0,r10,hb10⟩
     case round =>
      clear hd0 r10 hb10
      obtain⟨i,hi8,rfl,hd,r9,hbw⟩:=hrel
      by_cases hlt:i < 8
      ·have hix:=run_index_state f hSl i hlt
       have hsl:=run_slice_id gd i (by omega)
       have hsp:=splice_words f i (by omega) hSl
       have hfl:((f.take i).flatMap Sha.bytes4++List.replicate (32 - 4 * i) 0#8).length=32:=by rw[List.length_append,length_flat,List.length_take,List.length_replicate];omega
       generalize (f.take i).flatMap Sha.bytes4++List.replicate (32 - 4 * i) 0#8=cur at *
       generalize wordAt f i=x at *
       have BG:=fun w'=>big_any (x.setWidth 64) 4 (by decide) (by decide) w'
       rw[bytes4_big] at BG
       have h0i:(0:Int)<=4 * i:=by omega
       have HSP:=Lib.hid hsp
       clear hsp
       have hdd:wr.drew.heap[gd]?=some (.cells (cur.map U8).toArray 39 (0,0)):=hd
       have rdd:wr.drew.heap[w.heap.size]?=some (.cells (z.map U8).toArray 39 (0,0)):=r9
       have bdd:Below w.heap.size w wr.drew:=hbw.drew
       clear hd r9 hbw
       go_wp2_with fail
       refine wp_region_plan [([0,1,2,3,4],some 5),([],some 6),([],none)] (fun _=>True) (by kernel_rfl) (by kernel_rfl) (fun _ _ d _ _ h=>by cases d<;>exact h) trivial ?_
       refine plan_some (show wpQuiet _ _ _ _ (_::_::_::_::_::[]) _ from ?_)
       repeat (go_big_quiet_step (fail))
       refine wpQuiet_nil (show wpList _ _ _ (_::[]) _ _ from ?_)
       generalize wr.drew=w12 at *
       go_wp2_with fail
       refine(BG w12).mono ?_
       rintro e w13 ⟨rfl,hr13,hb13⟩
       have hd13:=(hb13.block gd (heap_lt hdd)).trans hdd
       have r13:=(hb13.block w.heap.size (heap_lt rdd)).trans rdd
       have b13:=bdd.trans (hb13.mono bdd.size)
       have hn4:((Sha.bytes4 x).map U8).length=Nat.min 4 (32 - 4 * i):=by
        rw[List.length_map,show (Sha.bytes4 x).length=4 from rfl]
        exact(Nat.min_eq_left (by omega)).symm
       have hcells:∀j v,((Sha.bytes4 x).map U8)[j]?=some v->w13.cell? ((⟨w12.heap.size,0,none⟩:Addr).add j)=some v:=fun j v hv=>by
        have hj:j < 4:=by have:=(List.getElem?_eq_some_iff.1 hv).1;simpa [Sha.bytes4] using this
        rw[List.getElem?_map,List.getElem?_eq_getElem (show j < (Sha.bytes4 x).length from hj)] at hv
        rw[Addr.add_lit,Nat.zero_add,hr13.cell j hj,byteAt_lt (show j < (Sha.bytes4 x).length from hj)]
        exact hv
       have hfit:4 * i+((Sha.bytes4 x).map U8).length<=(cur.map U8).length:=by
        rw[List.length_map,List.length_map,hfl,show (Sha.bytes4 x).length=4 from rfl];omega
       have hone:∀v∈(Sha.bytes4 x).map U8,v.oneCell'=true:=fun v hv=>by obtain⟨y,_,rfl⟩:=List.mem_map.1 hv;rfl
       have hsz1:(Tryd.prog.info? 5).map (·.size)=some 1:=by kernel_rfl
       have hBg:w.heap.size+1<=gd:=hgd
       clear BG hix hsl hdd rdd bdd hb13 hr13 h0i
       go_wp2_with fail
       refine late_normal (fun _ h=>h) trivial ?_
       refine plan_some (show wpQuiet _ _ _ _ [] _ from ?_)
       refine wpQuiet_nil (show wpList _ _ _ (_::[]) _ _ from ?_)
       refine wpList_copy_splice rfl _ _ 44 44 rfl 5 byteSlice.slice hsz1 (some ⟨gd,4 * i,none⟩) (some ⟨w12.heap.size,0,none⟩) (32 - 4 * i) (32 - 4 * i) 4 4 rfl rfl gd (4 * i) (cur.map U8) 39 hd13 ((Sha.bytes4 x).map U8) hn4 (fun _=>⟨rfl,⟨w12.heap.size,0,none⟩,rfl,hcells⟩) hfit hone (w.heap.size+1) w13 (Below.refl _ _) hBg ?_
       intro w14 hd14 hb14
       go_wp2_with fail
       refine late_normal (S':=fun _=>True) (fun _ h=>h) trivial ?_
       refine plan_none (show wpQuiet _ _ _ _ [] _ from ?_)
       refine wpQuiet_nil ?_
       refine plan_nil ?_
       have r14:=(hb14.block w.heap.size (Nat.lt_succ_self _)).trans r13
       have b14:Below w.heap.size w w14:=b13.trans (hb14.mono (Nat.le_succ _))
       have HD14:=Lib.hid hd14.out
       have HR14:=Lib.hid r14
       have HB14:=Lib.hid b14
       clear hcells hd13 r13 b13 hd14 hb14 r14 b14 hn4 hfit hone
       go_wp2
       go_roundw
       case rel =>
        refine⟨i+1,by omega,by go_num,?_,HR14.out,HB14.out⟩
        rw[<- HSP.out];exact HD14.out
       case measure=>simp[intOf];omega
      ·obtain rfl:i=8:=by omega
       rw[List.take_of_length_le (by omega),show 32 - 4 * 8=0 from rfl,List.replicate_zero,List.append_nil,<- HS2.out] at hd
       have hDl:D.length=32:=by rw[HS2.out,length_flat,hSl]
       have hiv:(Tryd.prog.info? 39).map (·.size)=some (D.map U8).toArray.size:=by rw[List.size_toArray,List.length_map,hDl];kernel_rfl
       have hzf:(z.map U8).toArray.size=(D.map U8).toArray.size:=by rw[List.size_toArray,List.size_toArray,List.length_map,List.length_map,hDl,hzl]
       have hov:(D.map U8).toArray.all (·.oneCell')=true:=by
        rw[Array.all_eq_true_iff_forall_mem]
        intro v hv
        rw[List.mem_toArray] at hv
        obtain⟨y,_,rfl⟩:=List.mem_map.1 hv;rfl
       have hr2:(wr.setRow w.heap.size (D.map U8).toArray).heap[w.heap.size]?=some (.cells (D.map U8).toArray 39 (0,0)):=setRow_heap wr w.heap.size _ _ 39 _ r9
       have tR:Touch (fun q=>q=w.heap.size) wr (wr.setRow w.heap.size (D.map U8).toArray):=Touch.setRow wr _ _ rfl
       have HB:=Lib.hid hbw
       clear hbw
       generalize hE:(D.map U8).toArray=E at *
       have HE:=Lib.hid hE
       clear hE
       go_wp2_with (first | (refine wpList_load_row rfl 39 _ rfl gd rfl _ E _ _ hd Tryd.underlying39 rfl hiv ?_) | (refine wpList_store_row rfl 39 _ _ rfl w.heap.size E rfl rfl _ (z.map U8).toArray r9 hiv hzf hov ?_))
       refine bodyPost_ret (results_cell_row rfl _ _ w.heap.size _ E _ _ rfl hr2 Tryd.underlying39 rfl hiv) rfl ?_
       exact⟨by rw[HE.out],HB.out.trans (tR.below (fun q e=>by have e2:q=w.heap.size:=e;omega) HB.out.size)⟩
end Go.Proofs.YtbicafgmfgdckaaDoor
namespace Go.Proofs.YtbicafgmfgdckaaDoor
open Go Go.RowKit

theorem KTab.lt {w:World} (h:KTab w):0 < w.heap.size:=World.block_lt_of_cell? w ⟨0,0,none⟩ (h 0 (by decide))
theorem bytes_length (s:Sha.St):s.bytes.length=32:=by rw[Sha.St.bytes,length_flat];rfl
theorem sum_length (l:List (BitVec 8)):(Sha.sum l).length=32:=bytes_length _
theorem id_size (D:List (BitVec 8)) (h:D.length=32):(Tryd.prog.info? 39).map (·.size)=some (D.map U8).toArray.size:=by rw[List.size_toArray,List.length_map,h];kernel_rfl
theorem id_one (D:List (BitVec 8)):(D.map U8).toArray.all (·.oneCell')=true:=by
 rw[Array.all_eq_true_iff_forall_mem]
 intro v hv
 rw[List.mem_toArray] at hv
 obtain⟨y,_,rfl⟩:=List.mem_map.1 hv;rfl
theorem ssum_any (a:Option Addr) (cap:Nat) (l:List (BitVec 8)) (w:World) (hr:Reads w a cap l) (hl:l.length<=1048576) (hk:KTab w) (hlt:l≠[]->∀ad,a=some ad->ad.block < w.heap.size) :
  Calls Tryd.prog 21 #[.slice a l.length cap] w fun e w'=>e=.returned (.agg ((Sha.sum l).map U8).toArray)/\Below w.heap.size w w':=by
 obtain⟨z,hz0,hz⟩:=zero_id
 have hzl:z.length=32:=by rw[hz0];rfl
 clear hz0
 have hb1:Below w.heap.size w (w.alloc (.cells (z.map U8).toArray 39)):=(Below.refl _ _).alloc (Nat.le_refl _) _
 have NW:=new_any (w.alloc (.cells (z.map U8).toArray 39))
 have r2:(w.alloc (.cells (z.map U8).toArray 39)).heap[w.heap.size]?=some (.cells (z.map U8).toArray 39 (0,0)):=heap_alloc_new w _
 have hDl:=sum_length l
 have HS:∀(w':World) (B b:Nat) (v:Value),Hasher w' B b v l->B<=w'.heap.size->0 < B->KTab w'->Calls Tryd.prog 34 #[.pointer (some ⟨b,0,none⟩)] w' fun e w''=>e=.returned (.agg ((Sha.sum l).map U8).toArray)/\Below w'.heap.size w' w'':=fun w' B b v h hB h0 hk=>hsum_any h hB h0 hk hl
 have hkl:=hk.lt
 have hsz1:w.heap.size < (w.alloc (.cells (z.map U8).toArray 39)).heap.size:=heap_lt r2
 have HK:=Lib.hid hk
 clear hk
 generalize Sha.sum l=D at *
 have hiv:=id_size D hDl
 have hov:=id_one D
 have hzf:(z.map U8).toArray.size=(D.map U8).toArray.size:=by rw[List.size_toArray,List.size_toArray,List.length_map,List.length_map,hDl,hzl]
 go_enter Tryd.func21,Tryd.ntmps21
 go_wp2_with fail
 generalize w.alloc (.cells (z.map U8).toArray 39)=w1 at *
 refine NW.mono ?_
 rintro e w2 ⟨b,rfl,hbl,hh,hb2⟩
 have hb12:=hb1.trans (hb2.mono hb1.size)
 have WR:=hwrite_any hh hb2.size (by omega) (HK.out.keeps (Keeps.below hb12)) a cap l (hr.keeps (Keeps.below hb12)) (by simp;omega) (fun hm ad e=>⟨by have:=hlt hm ad e;omega,by simp[Value.ownBlock]⟩)
 clear NW
 go_wp2_with fail
 refine WR.mono ?_
 rintro e w3 ⟨v3,rfl,hh3,ht3,_⟩
 rw[List.nil_append] at hh3
 have hb3:Below w1.heap.size w2 w3:=ht3.below (fun q e=>by
  rcases e with e|e
  ·omega
  ·simp[Value.ownBlock] at e) hb2.size
 have hb13:=hb12.trans (hb3.mono hb1.size)
 have hs13:w1.heap.size<=w3.heap.size:=Nat.le_trans hb2.size hb3.size
 have SU:=HS w3 w1.heap.size b v3 hh3 hs13 (by omega) (HK.out.keeps (Keeps.below hb13))
 have r3:=((hb2.trans hb3).block w.heap.size hsz1).trans r2
 clear WR HS
 go_wp2_with fail
 refine SU.mono ?_
 rintro e w4 ⟨rfl,hb4⟩
 have hb14:=hb13.trans (hb4.mono hb13.size)
 have r4:=(hb4.block w.heap.size (heap_lt r3)).trans r3
 have hr4:(w4.setRow w.heap.size (D.map U8).toArray).heap[w.heap.size]?=some (.cells (D.map U8).toArray 39 (0,0)):=setRow_heap w4 w.heap.size _ _ 39 _ r4
 have tR:Touch (fun q=>q=w.heap.size) w4 (w4.setRow w.heap.size (D.map U8).toArray):=Touch.setRow w4 _ _ rfl
 clear SU hh hh3
 generalize hE:(D.map U8).toArray=E at *
 have HE:=Lib.hid hE
 clear hE
 go_wp2_with (refine wpList_store_row rfl 39 _ _ rfl w.heap.size E rfl rfl _ (z.map U8).toArray r4 hiv hzf hov ?_)
 refine bodyPost_ret (results_cell_row rfl _ _ w.heap.size _ E _ _ rfl hr4 Tryd.underlying39 rfl hiv) rfl ?_
 exact⟨by rw[HE.out],hb14.trans (tR.below (fun q e=>by have e2:q=w.heap.size:=e;omega) hb14.size)⟩
end Go.Proofs.YtbicafgmfgdckaaDoor
