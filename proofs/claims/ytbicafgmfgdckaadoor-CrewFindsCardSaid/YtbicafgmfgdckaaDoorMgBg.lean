/- The law's texts: rows of texts as they are read; 'few'. The reference's Put, Back, Get. Rows of words of the call's own: append of one, old cells kept. The reference's spread: the schedule. -/
import Derived.Test.YtbicafgmfgdckaaDoorMgAz
import Derived.Test.YtbicafgmfgdckaaDoorMgBa
import Derived.Test.YtbicafgmfgdckaaDoorMgBb
import Derived.Test.YtbicafgmfgdckaaDoorMgBf
import Derived.Test.YtbicafgmfgdckaaDoorMgBd
namespace Go.Proofs.YtbicafgmfgdckaaDoor
open Go Go.RowKit

abbrev Txts:=List (List (BitVec 8))
def txt (ls:Txts) (i:Nat):List (BitVec 8):=ls.getD i []
structure Texts (w:World) (a:Option Addr) (cap:Nat) (ls:Txts):Prop where
 fits:ls.length<=cap
 room:cap<=9223372036854775807
 rows:ls=[]\/∃b off,a=some ⟨b,off,none⟩/\∀i,i < ls.length->∃x c,w.cell? ⟨b,off+i,none⟩=some (.slice x (txt ls i).length c)/\Reads w x c (txt ls i)
theorem Texts.keeps {w w':World} {a:Option Addr} {cap:Nat} {ls:Txts} (h:Texts w a cap ls) (k:Keeps w w'):Texts w' a cap ls:=by
 refine⟨h.fits,h.room,?_⟩
 rcases h.rows with e|⟨b,off,e,hb⟩
 ·exact .inl e
 ·refine .inr ⟨b,off,e,fun i hi=>?_⟩
  obtain⟨x,c,h1,h2⟩:=hb i hi
  exact⟨x,c,k _ _ h1,h2.keeps k⟩
theorem txt_lt {ls:Txts} {i:Nat} (h:i < ls.length):txt ls i=ls[i]:=by simp[txt,List.getD_eq_getElem?_getD,List.getElem?_eq_getElem h]
def fewOf (ls:Txts):Txts:=(ls.take 12).map (·.take 100)
theorem fewOf_short (ls:Txts) (r:List (BitVec 8)) (h:r∈fewOf ls):r.length<=100:=by
 obtain⟨x,_,rfl⟩:=List.mem_map.1 h
 rw[List.length_take];omega
theorem fewOf_length (ls:Txts):(fewOf ls).length<=12:=by
 unfold fewOf
 rw[List.length_map,List.length_take];omega
theorem textElem:Elem Tryd.prog 22 44 (.slice none 0 0) 24:=⟨by kernel_rfl,by kernel_rfl,rfl⟩
theorem copy_placed (a:Option Addr) (cap:Nat) (l:List (BitVec 8)) (w:World) (hr:Reads w a cap l) (hl:l.length<=140737488355328) :
  Calls Tryd.prog 16 #[.slice a l.length cap] w fun e w'=>∃x c,e=.returned (.slice x l.length c)/\Reads w' x c l/\Below w.heap.size w w'/\∀ad,x=some ad->w.heap.size<=ad.block/\ad.block < w'.heap.size/\0 < l.length:=by
 by_cases h0:l=[]
 ·subst h0
  have hr0:=hr.room
  clear hr hl
  show Calls Tryd.prog 16 #[.slice a 0 cap] w _
  cases a with
  | none =>
   go_enter Tryd.func16,Tryd.ntmps16
   go_wp2
   go_ret
   exact⟨none,0,rfl,reads_nil _,Below.refl _ _,fun ad e=>by cases e⟩
  | some ad =>
   go_enter Tryd.func16,Tryd.ntmps16
   go_wp2
   go_ret
   exact⟨none,0,rfl,reads_nil _,Below.refl _ _,fun ad e=>by cases e⟩
 ·refine(copy_any a cap l w hr hl).mono fun e w' h=>?_
  obtain⟨v,rfl,ho,hb⟩:=h
  have hp:0 < l.length:=List.length_pos_iff.2 h0
  obtain⟨g,c,rfl,hrow,hB,hg⟩:=ho.row (by omega)
  obtain⟨x,c2,e,rd⟩:=ho.reads
  injection e with e1 _ e2
  subst e1 e2
  exact⟨_,_,rfl,rd,hb,fun ad e=>by injection e with e;subst e;exact⟨hB,hg,hp⟩⟩
def Firm (vs:List Value):Prop:=∀i ad n c,i < vs.length->vs.getD i undef=.slice (some ad) n c->0 < n
theorem Firm.snoc {vs:List Value} {a:Option Addr} {n c:Nat} (h:Firm vs) (k:∀ad,a=some ad->0 < n):Firm (vs++[.slice a n c]):=by
 intro i ad n2 c2 hi e
 rw[List.length_append,List.length_singleton] at hi
 by_cases hlt:i < vs.length
 ·refine h i ad n2 c2 hlt ?_
  rw[List.getD_eq_getElem?_getD,List.getElem?_append_left hlt,<- List.getD_eq_getElem?_getD] at e
  exact e
 ·have e0:i=vs.length:=by omega
  subst e0
  have e3:(vs++[Value.slice a n c]).getD vs.length undef=.slice a n c:=by simp[List.getD_eq_getElem?_getD]
  rw[e3] at e
  injection e with e4 e5 e6
  subst e5
  exact k ad e4
def FewRel (w:World) (ls:Txts) (v i:Value) (wr:World):Prop :=
 ∃k vs,k<=ls.length/\k<=12/\i=.int .i64 (k:Nat)/\OwnsRows (fun _=>False) wr w.heap.size 44 v vs ((ls.take k).map (·.take 100))/\Firm vs/\Below w.heap.size w wr
set_option maxHeartbeats 2000000 in
theorem few_any (a:Option Addr) (cap:Nat) (ls:Txts) (w:World) (hr:Texts w a cap ls) :
  Calls Tryd.prog 5 #[.slice a ls.length cap] w fun e w'=>∃v vs,e=.returned v/\OwnsRows (fun _=>False) w' w.heap.size 44 v vs (fewOf ls)/\Firm vs/\Below w.heap.size w w':=by
 have hfit:=hr.fits
 have hroom:=hr.room
 have HR:=Lib.hid hr
 clear hr
 go_enter Tryd.func5,Tryd.ntmps5
 go_wp2_with fail
 go_loopw [3,4] (fun v i wr=>FewRel w ls v i wr) (fun _ i _=>12 - (intOf i).toNat)
 case atStart=>exact⟨0,[],Nat.zero_le _,by omega,rfl,ownsRows_nil _ _ _ _,(fun i _ _ _ hi=>by simp at hi),Below.refl _ _⟩
 case round =>
  obtain⟨k,vs,hk,hk12,rfl,HO,hfirm,hbr⟩:=hrel
  have HFI:=Lib.hid hfirm
  clear hfirm
  by_cases hlt:k < ls.length/\k < 12
  ·obtain⟨h1,h2⟩:=hlt
   obtain⟨b,off,rfl,hrows⟩:=(HR.out.keeps (Keeps.below hbr)).rows.resolve_left (fun e=>by rw[e] at h1;simp at h1)
   obtain⟨x,c,hcell,hreads⟩:=hrows k h1
   have hsn:(ls.take (k+1)).map (·.take 100)=(ls.take k).map (·.take 100)++[(txt ls k).take 100]:=by
    rw[List.take_succ_eq_append_getElem h1,List.map_append,txt_lt h1];rfl
   have hln:((ls.take k).map (·.take 100)).length=k:=by rw[List.length_map,List.length_take];omega
   have HSN:=Lib.hid hsn
   have HLN:=Lib.hid hln
   have HO1:=Lib.hid HO
   have HBR:=Lib.hid hbr
   clear hsn hln HO hbr hrows
   generalize txt ls k=m at *
   go_wp2_with fail
   refine(cut_any x c m 100 _ wr rfl hreads (by decide)).mono ?_
   rintro e w' ⟨rfl,rfl⟩
   have hm:=hreads.take 100
   have hmlen:(m.take 100).length<=100:=by rw[List.length_take];omega
   clear hreads
   generalize m.take 100=q at *
   go_wp2_with fail
   refine(copy_placed x c q wr hm (by omega)).mono ?_
   rintro e w4 ⟨a4,c4,rfl,hr4,hb4,hbl4⟩
   have HF5:=Lib.hid (HFI.out.snoc (c:=c4) fun ad e=>(hbl4 ad e).2.2)
   have HO4:=HO1.out.touch (.of_below hb4)
   have nA:=(Below.refl w4.heap.size w4).alloc (Nat.le_refl _) (.cells #[.slice a4 q.length c4] 44)
   have hcell5:(w4.alloc (.cells #[.slice a4 q.length c4] 44)).cell? ⟨w4.heap.size,0,none⟩=some (.slice a4 q.length c4):=by unfold World.cell?;rw[heap_alloc_new];simp
   have HO5:=Lib.hid (HO4.touch (.of_below nA))
   have rd5:=hr4.keeps (Keeps.below nA)
   have hb5:=HBR.out.trans ((hb4.mono HBR.out.size).trans (nA.mono (Nat.le_trans HBR.out.size hb4.size)))
   have hvl:∀g,Value.ownBlock u3=some g->g < wr.heap.size:=fun g hg=>(row_lt HO1.out.row hg).2
   have hs4:=hb4.size
   have hcx:Chunk (fun _=>False) (w4.alloc (.cells #[.slice a4 q.length c4] 44)) (.slice a4 q.length c4) q:=⟨a4,c4,rfl,rd5,fun ad e=>⟨id,Nat.lt_of_lt_of_le (hbl4 ad e).2.1 nA.size⟩⟩
   have HCX:=Lib.hid hcx
   have HVL:=Lib.hid hvl
   have HBL:=Lib.hid hbl4
   have HB5:=Lib.hid hb5
   have hrow:(w4.alloc (.cells #[.slice a4 q.length c4] 44)).ownsRow w.heap.size 44 1 u3 k vs:=by have:=HO5.out.row;rw[HLN.out] at this;exact this
   have hsz:=hb5.size
   clear HO4 hb4 hr4 nA hcx hvl hbl4 hb5 rd5 hm HO1 HBR hcell
   generalize q.length=nq at *
   go_wp2_with (at_builtin;refine wpList_append_elem textElem rfl _ _ rfl w.heap.size u3 k vs rfl hrow ⟨w4.heap.size,0,none⟩ 1 (.slice a4 nq c4) rfl hcell5 rfl (by omega) (by omega) hsz ?_;intro v5 w5 r1 r2 r3)
   go_roundw
   case rel =>
    refine⟨k+1,vs++[.slice a4 nq c4],by omega,by omega,by go_num,?_,HF5.out,?_⟩
    ·rw[HSN.out]
     refine HO5.out.snoc HCX.out (fun _ f=>f.elim) (by rw[HLN.out];exact r1) r2 r3 ?_
     intro ad n c e hv
     injection e with e _ _
     have:=(HBL.out ad e).1
     have:=HVL.out _ hv
     omega
    ·exact HB5.out.trans ((Touch.of_grown (F:=fun g=>Value.ownBlock u3=some g) r2 fun _ hk=>hk).below (fun g hg=>(row_lt HO5.out.row hg).1) HB5.out.size)
   case measure=>simp[intOf];omega
  ·have hkk:(ls.take k).map (·.take 100)=fewOf ls:=by
    unfold fewOf
    congr 1
    rcases Nat.lt_or_ge k 12 with h|h
    ·rw[List.take_of_length_le (by omega),List.take_of_length_le (by omega)]
    ·obtain rfl:k=12:=by omega
     rfl
   rw[hkk] at HO
   have HO1:=Lib.hid HO
   have HBR:=Lib.hid hbr
   clear HO hbr hkk
   by_cases h1:k < ls.length
   ·have h2:¬k < 12:=fun q=>hlt ⟨h1,q⟩
    go_wp2
    go_ret
    exact⟨_,vs,rfl,HO1.out,HFI.out,HBR.out⟩
   ·go_wp2
    go_ret
    exact⟨_,vs,rfl,HO1.out,HFI.out,HBR.out⟩
end Go.Proofs.YtbicafgmfgdckaaDoor
namespace Go.Proofs.YtbicafgmfgdckaaDoor
open Go Go.RowKit

theorem leB_snoc (x:BitVec 64) (k:Nat):leB x (k+1)=leB x k++[(x >>> (8 * k)).setWidth 8]:=by simp[leB,List.range_succ]
theorem mod256 (y:BitVec 64):(y % 256#64).setWidth 8=y.setWidth 8:=by
 apply BitVec.eq_of_toNat_eq
 simp[BitVec.toNat_setWidth,BitVec.toNat_umod]
theorem div256 (y:BitVec 64):y / 256#64=y >>> 8:=by
 apply BitVec.eq_of_toNat_eq
 simp[BitVec.toNat_udiv,BitVec.toNat_ushiftRight,Nat.shiftRight_eq_div_pow]
def RPutRel (x:BitVec 64) (n B:Nat) (w:World) (x0 s i:Value) (wr:World):Prop :=
 ∃k:Nat,k<=n/\x0=U64 (x >>> (8 * k))/\Owns wr B 5 s (leB x k)/\i=.int .i64 k/\Below B w wr
theorem rput_any (x:BitVec 64) (n:Nat) (h1:1<=n) (h8:n<=8) (w:World):Calls Tryd.prog 38 #[U64 x,.int .i64 n] w fun e w' =>
  ∃v,e=.returned v/\Owns w' w.heap.size 5 v (leB x n)/\Below w.heap.size w w':=by
 have hb1:(1:Int)<=n:=by omega
 have hb2:(n:Int)<=8:=by omega
 obtain⟨B,hB⟩:∃B,w.heap.size=B:=⟨_,rfl⟩
 rw[hB]
 go_enter Tryd.func38,Tryd.ntmps38
 go_wp2
 go_loopw [0,5,6] (fun x0 s i wr=>RPutRel x n B w x0 s i wr) (fun _ _ i _=>n - (intOf i).toNat)
 case atStart=>exact⟨0,by omega,by simp,owns_nil _ _ _,rfl,hB ▸ Below.refl _ _⟩
 case round =>
  obtain⟨k,hk,rfl,ho,rfl,hbw⟩:=hrel
  have hlk:=length_leB x k
  have hsn:=leB_snoc x k
  generalize hll:leB x k=l at *
  have HLL:=Lib.hid hll
  clear hll
  generalize hy:x >>> (8 * k)=y at *
  have HY:=Lib.hid hy
  have HSN:=Lib.hid hsn
  clear hy hsn
  obtain⟨a,cap,rfl,_⟩:=ho.reads
  by_cases hlt:k < n
  ·have hbs:=hbw.size
   have hrz:=reads_lit wr #[U8 (y.setWidth 8)] 5 (0,0) [y.setWidth 8] rfl (by simp)
   have ho':=ho.below (w':=wr.alloc (.cells #[U8 (y.setWidth 8)] 5)) ((Below.refl _ _).alloc (Nat.le_refl _) _)
   have hz':B<=(wr.alloc (.cells #[U8 (y.setWidth 8)] 5)).heap.size:=by simp;omega
   have hlen:l.length+1<=140737488355328:=by omega
   have hm:=mod256 y
   have hd:=div256 y
   clear hlk
   go_wp2_with (at_builtin;refine wpList_append_bytes_at byteSlice rfl _ _ rfl B (.slice a l.length cap) l rfl ho' (some ⟨wr.heap.size,0,none⟩) 1 [y.setWidth 8] rfl hrz hlen hz' ?_;intro v5 w5 ho5 hg5 _)
   go_roundw
   case rel =>
    refine⟨k+1,by omega,?_,?_,by go_num,below_append hbw (by omega) ho' hg5⟩
    ·rw[<- HY.out,<- BitVec.shiftRight_add];rfl
    ·rw[HSN.out];exact ho5
   case measure=>simp[intOf];omega
  ·obtain rfl:k=n:=by omega
   go_wp2
   go_ret
   exact⟨_,rfl,HLL.out ▸ ho,hbw⟩
theorem rev_snoc (l:List (BitVec 8)) (k m:Nat) (h:k+m+1=l.length):l.reverse.take (k+1)=l.reverse.take k++[byteAt l m]:=by
 rw[List.take_succ_eq_append_getElem (by simp;omega),List.getElem_reverse,byteAt_lt (by omega)]
 congr 3
 omega
def RBackRel (l:List (BitVec 8)) (B:Nat) (w:World) (s i:Value) (wr:World):Prop :=
 ∃(k:Nat),k<=l.length/\Owns wr B 5 s (l.reverse.take k)/\i=.int .i64 ((l.length:Int) - 1 - k)/\Below B w wr
theorem rback_any (a:Option Addr) (cap:Nat) (l:List (BitVec 8)) (w:World) (hr:Reads w a cap l) (hl:l.length<=1000):Calls Tryd.prog 66 #[.slice a l.length cap] w fun e w' =>
  ∃v,e=.returned v/\Owns w' w.heap.size 5 v l.reverse/\Below w.heap.size w w':=by
 obtain⟨B,hB⟩:∃B,w.heap.size=B:=⟨_,rfl⟩
 rw[hB]
 have hlN:(l.length:Int)<=1000:=by omega
 go_enter Tryd.func66,Tryd.ntmps66
 go_wp2
 go_loopw [3,4] (fun s i wr=>RBackRel l B w s i wr) (fun _ i _=>(intOf i+1).toNat)
 case atStart=>exact⟨0,by omega,owns_nil _ _ _,by simp,hB ▸ Below.refl _ _⟩
 case round =>
  obtain⟨k,hk,ho,rfl,hbw⟩:=hrel
  by_cases hlt:k < l.length
  ·obtain⟨m,hm⟩:∃m:Nat,(l.length:Int) - 1 - k=m:=⟨l.length - 1 - k,by omega⟩
   have hkm:k+m+1=l.length:=by omega
   rw[hm]
   obtain⟨b,off,rfl,hby⟩:=hr.bytes.resolve_left (fun e=>by rw[e] at hlt;simp at hlt)
   have hc:wr.cell? ⟨b,off+m,none⟩=some (U8 (byteAt l m)):=(hby.mono (Keeps.below (hB ▸ hbw) ⟨b,·,none⟩)) m (by omega)
   have hsn:=rev_snoc l k m hkm
   have hlk:(l.reverse.take k).length<=1000:=by rw[List.length_take,List.length_reverse];omega
   generalize l.reverse.take k=t at *
   obtain⟨a5,c5,rfl,_⟩:=ho.reads
   have HSN:=Lib.hid hsn
   have HM:=Lib.hid hm
   have hml:m < l.length:=by omega
   have HKM:=Lib.hid hkm
   clear hsn hm hkm hby hr
   generalize byteAt l m=c at *
   have hbs:=hbw.size
   have hrz:=reads_lit wr #[U8 c] 5 (0,0) [c] rfl (by simp)
   have ho':=ho.below (w':=wr.alloc (.cells #[U8 c] 5)) ((Below.refl _ _).alloc (Nat.le_refl _) _)
   have hz':B<=(wr.alloc (.cells #[U8 c] 5)).heap.size:=by simp;omega
   have hlen:t.length+1<=140737488355328:=by omega
   go_wp2_with (at_builtin;refine wpList_append_bytes_at byteSlice rfl _ _ rfl B (.slice a5 t.length c5) t rfl ho' (some ⟨wr.heap.size,0,none⟩) 1 [c] rfl hrz hlen hz' ?_;intro v6 w5 ho5 hg5 _)
   go_roundw
   case rel =>
    have h2:=HM.out
    refine⟨k+1,by omega,?_,by simp only[Value.int.injEq,true_and];omega,below_append hbw (by omega) ho' hg5⟩
    rw[HSN.out];exact ho5
   case measure=>simp[intOf]<;>omega
  ·obtain rfl:k=l.length:=by omega
   rw[show (l.length:Int) - 1 - (l.length:Nat)=-1 by omega]
   rw[List.take_of_length_le (by simp)] at ho
   clear hr
   go_wp2
   go_ret
   exact⟨_,rfl,ho,hbw⟩
theorem shl_or (x:BitVec 64) (c:BitVec 8):x * 256#64+c.setWidth 64=x <<< 8 ||| c.setWidth 64:=by
 have h1:x * 256#64=x <<< 8:=by
  apply BitVec.eq_of_toNat_eq
  simp[BitVec.toNat_mul,BitVec.toNat_shiftLeft,Nat.shiftLeft_eq]
 rw[h1]
 apply BitVec.add_eq_or_of_and_eq_zero
 apply BitVec.eq_of_getLsbD_eq
 intro i hi
 simp only[BitVec.getLsbD_and,BitVec.getLsbD_shiftLeft,BitVec.getLsbD_setWidth,hi,decide_true,Bool.true_and,BitVec.getLsbD_zero]
 by_cases h:i < 8
 ·simp[h]
 ·rw[BitVec.getLsbD_of_ge c _ (by omega)];simp
def RGetRel (l:List (BitVec 8)) (w:World) (x i:Value) (wr:World):Prop :=
 ∃(k:Nat),k<=l.length/\x=U64 (bigOf (l.reverse.take k))/\i=.int .i64 ((l.length:Int) - 1 - k)/\wr=w
theorem rget_any (b off cap:Nat) (l:List (BitVec 8)) (w:World) (h1:1<=l.length) (h8:l.length<=8) (hb:BytesAt w b off l) :
  Calls Tryd.prog 68 #[.slice (some ⟨b,off,none⟩) l.length cap] w fun e w'=>e=.returned (.tuple #[U64 (bigOf l.reverse),.bool true])/\w=w':=by
 have hl0:¬((l.length:Int)=0):=by omega
 have hl1:((l.length:Int)==0)=false:=by simpa using hl0
 have hl8:(l.length:Int)<=8:=by omega
 go_enter Tryd.func68,Tryd.ntmps68
 go_wp2
 go_loopw [4,5] (fun x i wr=>RGetRel l w x i wr) (fun _ i _=>(intOf i+1).toNat)
 case atStart=>exact⟨0,Nat.zero_le _,rfl,by simp,rfl⟩
 case round =>
  obtain⟨k,hk,rfl,rfl,hw⟩:=hrel
  by_cases hlt:k < l.length
  ·obtain⟨m,hm⟩:∃m:Nat,(l.length:Int) - 1 - k=m:=⟨l.length - 1 - k,by omega⟩
   have hkm:k+m+1=l.length:=by omega
   rw[hm]
   have hc:wr.cell? ⟨b,off+m,none⟩=some (U8 (byteAt l m)):=hw ▸ hb m (by omega)
   have hsn:=rev_snoc l k m hkm
   have hbg:bigOf (l.reverse.take (k+1))=bigOf (l.reverse.take k) * 256#64+(byteAt l m).setWidth 64:=by
    rw[shl_or,hsn];unfold bigOf;rw[List.foldl_append];rfl
   have HM:=Lib.hid hm
   have HG:=Lib.hid hbg
   have hml:m < l.length:=by omega
   have HW:=Lib.hid hw
   have HKM:=Lib.hid hkm
   clear hsn hm hbg hkm hb hw
   generalize byteAt l m=c at *
   generalize bigOf (l.reverse.take k)=x at *
   go_wp2
   go_roundw
   case rel =>
    have h2:=HM.out
    exact⟨k+1,by omega,by rw[HG.out],by simp only[Value.int.injEq,true_and];omega,HW.out⟩
   case measure=>simp[intOf]<;>omega
  ·obtain rfl:k=l.length:=by omega
   rw[show (l.length:Int) - 1 - (l.length:Nat)=-1 by omega]
   rw[List.take_of_length_le (by simp)]
   have HW:=Lib.hid hw
   clear hw hb
   go_wp2
   go_ret2
   exact⟨rfl,HW.out.symm⟩
end Go.Proofs.YtbicafgmfgdckaaDoor
namespace Go.Proofs.YtbicafgmfgdckaaDoor
open Go Go.RowKit

theorem run_append_keep {P:Program} (w:World) (B:Nat) (t ty e:TypeId) (z:Value) (bytes:Nat) (T:Elem P t e z bytes) (g n cap:Nat) (xs:List Value) (hown:w.ownsRow B e 1 (.slice (some ⟨g,0,none⟩) n cap) n xs)
  (ad:Addr) (c:Nat) (u:Value) (hu:w.cell? ad=some u) (h1:u.oneCell'=true) (hlen:n+1<=9223372036854775807) (hby:(n+1) * bytes<=140737488355328) (hbase:B<=w.heap.size) :
  ∃v' w',(Builtin.append_ #[t,t] ty #[.slice (some ⟨g,0,none⟩) n cap,.slice (some ad) 1 c]).run P w=.ok v' w'/\w'.ownsRow B e 1 v' (n+1) (xs++[u])/\w.grownBy w' (some g) /\
   (v'.ownBlock=some g\/v'.ownBlock=some w.heap.size)/\∀j,j < n->w'.cell? ⟨g,j,none⟩=w.cell? ⟨g,j,none⟩:=by
 obtain⟨i,hi,hz0,hz1,hz2⟩:=info_parts T.info
 have hnews:∀j x,[u][j]?=some x->w.cell? (ad.add j)=some x:=fun j x hj=>by
  cases j with
  | zero=>simp at hj;subst hj;rw[add_zero'];exact hu
  | succ j=>simp at hj
 have hone:∀x∈[u],x.oneCell'=true:=fun x hx=>by simp at hx;subst hx;exact h1
 by_cases hroom:n+1<=cap
 ·obtain⟨w',hr,ho,hg⟩:=run_append_fits (P:=P) w B t ty e i 1 T.slice hi hz1 g n cap xs hown ad 1 c [u] (by simp) hnews hone hroom
  refine⟨_,w',hr,ho,hg,.inl rfl,fun j hj=>?_⟩
  rw[ho.cellAt j (by omega),hown.cellAt j (by omega),List.getElem?_append_left (by rw[hown.1];omega)]
 ·obtain⟨v',w',hr,ho,hg,_,hb⟩:=run_append_own_at (P:=P) w B t ty e i z 1 bytes T.slice hi hz0 hz1 hz2 T.one (by decide) _ n xs hown ad 1 c [u] (by simp) hnews hone (by unfold maxLen;omega) hby hbase
  refine⟨v',w',hr,ho,hg,hb,fun j hj=>?_⟩
  have hcap:cap<=n:=by omega
  have hlt:g < w.heap.size:=(hown.lt g rfl).2
  have hold:∀j x,xs[j]?=some x->w.cell? ((⟨g,0,none⟩:Addr).add j)=some x:=hown.cells (g:=g) rfl
  have hr2:=run_append_grow (P:=P) w t ty e i z T.slice hi hz0 ⟨g,0,none⟩ n cap xs (by rw[hz1];exact hown.1) hold ad 1 c [u] (by rw[hz1];rfl) hnews (by omega) (by omega) (growslice_fits (by omega) (by rw[hz2];exact hby))
  rw[hr] at hr2
  injection hr2 with _ hw
  rw[hw,World.cell?_of_block (w:=w)]
  exact Below.heap_alloc w.drew _ g hlt
theorem wpList_append_keep {P:Program} {w:World} {ops:Array Oper} {rest:List Oper} {o:Oper} {act:Act} {Q:Exit->Act->World->Prop} {t e:TypeId} {z:Value} {bytes:Nat} (T:Elem P t e z bytes)
  (hgd:o.guard=none) (s x:Operand) (ho:o.op=.call { callee:=.builtin .append,args:=#[s,x],argTypes:=#[t,t] })
  (B g n cap:Nat) (xs:List Value) (hs:act.eval s=.slice (some ⟨g,0,none⟩) n cap) (hown:w.ownsRow B e 1 (.slice (some ⟨g,0,none⟩) n cap) n xs)
  (ad:Addr) (c:Nat) (u:Value) (hx:act.eval x=.slice (some ad) 1 c) (hu:w.cell? ad=some u) (h1:u.oneCell'=true)
  (hlen:n+1<=9223372036854775807) (hby:(n+1) * bytes<=140737488355328) (hbase:B<=w.heap.size)
  (h:∀v' w',w'.ownsRow B e 1 v' (n+1) (xs++[u])->w.grownBy w' (some g)->(v'.ownBlock=some g\/v'.ownBlock=some w.heap.size)->(∀j,j < n->w'.cell? ⟨g,j,none⟩=w.cell? ⟨g,j,none⟩)->wpList P ops Q rest (act.put o.dst v') w') :
  wpList P ops Q (o::rest) act w:=by
 refine wpList_plain hgd fun K hK=>?_
 obtain⟨v',w',hr,h2,h3,h4,h5⟩:=run_append_keep (P:=P) w B t o.type e z bytes T g n cap xs hown ad c u hu h1 hlen hby hbase
 unfold Oper.wp execOp
 simp only[ho,resolve,invoke,builtin,Sem.run_bind,Sem.run_pure,Result.andThen_ok,List.map_toArray,List.map_cons,List.map_nil,hs,hx,hr]
 exact hK _ _ (h v' w' h2 h3 h4 h5)

def OwnsW (w:World) (B:Nat) (v:Value) (f:Words):Prop:=w.ownsRow B 52 1 v f.length (f.map U32)
theorem wordsElem:Elem Tryd.prog 79 52 (.int .u32 0) 4:=⟨by kernel_rfl,by kernel_rfl,rfl⟩
section
variable {w w':World} {B:Nat} {v:Value} {f:Words}
theorem ownsW_nil (w:World) (B:Nat):OwnsW w B (.slice none 0 0) []:=World.ownsRow_nil w B _ 1
theorem OwnsW.below (h:OwnsW w B v f) (hb:Below w.heap.size w w'):OwnsW w' B v f:=Touch.row (F:=fun _=>False) (.of_below hb) h fun _ _ e=>e
theorem OwnsW.touch {F:Nat->Prop} (h:OwnsW w B v f) (t:Touch F w w') (hn:∀k,v.ownBlock=some k->¬F k):OwnsW w' B v f:=t.row h hn
theorem OwnsW.form (h:OwnsW w B v f) (hf:f≠[]):∃g cap,v=.slice (some ⟨g,0,none⟩) f.length cap/\f.length<=cap/\cap<=9223372036854775807/\B<=g/\g < w.heap.size/\∀j,j < f.length->w.cell? ⟨g,j,none⟩=some (U32 (wordAt f j)):=by
 have hl:f.length≠0:=fun e=>hf (List.eq_nil_of_length_eq_zero e)
 rcases h.2 with⟨_,h0⟩|⟨g,cap,cur,rfl,hb,hh,hn,hc,_⟩
 ·exact(hl h0).elim
 ·refine⟨g,cap,rfl,hn,by unfold maxLen at hc;omega,hb,heap_lt hh,fun j hj=>?_⟩
  rw[World.ownsRow.cellAt h j (by omega),List.getElem?_map,List.getElem?_eq_getElem hj]
  simp[wordAt,List.getD_eq_getElem?_getD,List.getElem?_eq_getElem hj]
theorem OwnsW.anyForm (h:OwnsW w B v f):∃a cap,v=.slice a f.length cap:=by
 rcases h.2 with⟨rfl,h0⟩|⟨g,cap,cur,rfl,_⟩
 ·exact⟨none,0,by rw[h0]⟩
 ·exact⟨_,_,rfl⟩
end
end Go.Proofs.YtbicafgmfgdckaaDoor
namespace Go.Proofs.YtbicafgmfgdckaaDoor
open Go Go.RowKit

theorem turned_quiet (x:BitVec 32) (N:Int) (h1:1<=N) (h2:N<=31) (w:World) (j:Nat):Calls Tryd.prog 67 #[U32 x,.int .u64 N] (w.drewN j) fun e w''=>e=.returned (U32 (Sha.rotr x N.toNat))/\∃m,w''=w.drewN m:=by
 obtain⟨n,rfl⟩:∃n:Nat,N=n:=⟨N.toNat,by omega⟩
 exact(turned_any x n (by omega) (by omega) _).mono fun _ _ ⟨he,hw⟩=>⟨he,j,hw.symm⟩
theorem div8 (x:BitVec 32):x / 8#32=x >>> 3:=by
 apply BitVec.eq_of_toNat_eq
 simp[BitVec.toNat_udiv,BitVec.toNat_ushiftRight,Nat.shiftRight_eq_div_pow]
theorem div1024 (x:BitVec 32):x / 1024#32=x >>> 10:=by
 apply BitVec.eq_of_toNat_eq
 simp[BitVec.toNat_udiv,BitVec.toNat_ushiftRight,Nat.shiftRight_eq_div_pow]
theorem take_word (S:Words) (k:Nat) (h:k < S.length):S.take (k+1)=S.take k++[wordAt S k]:=by
 rw[List.take_succ_eq_append_getElem h];simp[wordAt,List.getD_eq_getElem?_getD,List.getElem?_eq_getElem h]
theorem wordAt_take (S:Words) (k j:Nat) (h:j < k):wordAt (S.take k) j=wordAt S j:=by simp[wordAt,List.getD_eq_getElem?_getD,h]
theorem cell_new (w:World) (u:Value) (t:TypeId):(w.alloc (.cells #[u] t)).cell? ⟨w.heap.size,0,none⟩=some u:=by
 unfold World.cell?;rw[heap_alloc_new];rfl
theorem OwnsW.at_ {w:World} {B:Nat} {a:Option Addr} {c k:Nat} {f:Words} (h:OwnsW w B (.slice a f.length c) f) (hk:f.length=k):w.ownsRow B 52 1 (.slice a k c) k (f.map U32):=by subst hk;exact h
theorem OwnsW.snoc {w:World} {B k:Nat} {v:Value} {f:Words} {x:BitVec 32} (h:w.ownsRow B 52 1 v (k+1) (f.map U32++[U32 x])) (hk:f.length=k):OwnsW w B v (f++[x]):=by
 subst hk
 unfold OwnsW
 rw[List.length_append,List.map_append];exact h
def SpreadRel (S:Words) (B:Nat) (w:World) (s i:Value) (wr:World):Prop :=
 ∃k:Nat,k<=64/\OwnsW wr B s (S.take k)/\i=.int .i64 k/\Below B w wr
def TwoCells (g m n:Nat) (x y:BitVec 32) (w:World):Prop:=w.cell? ⟨g,m,none⟩=some (U32 x)/\w.cell? ⟨g,n,none⟩=some (U32 y)
theorem below_appendW {B:Nat} {w w2 w3:World} {o:Obj} {v:Value} {f:Words} (hb:Below B w w2) (hB:B<=w.heap.size) (ho:OwnsW (w2.alloc o) B v f) (hg:(w2.alloc o).grownBy w3 v.ownBlock):Below B w w3:=by
 have h1:=hb.size
 have h2:B<=(w2.alloc o).heap.size:=by simp;omega
 exact(hb.alloc (by omega) o).trans ((Touch.of_grown (F:=fun k=>v.ownBlock=some k) hg fun k hk=>hk).below (fun k hk=>(row_lt ho hk).1) h2)
set_option maxRecDepth 40000 in
set_option maxHeartbeats 1000000 in
theorem spread_any (b off cap:Nat) (l:List (BitVec 8)) (w:World) (hl:l.length=64) (hcap:64<=cap) (hcm:cap<=9223372036854775807) (hb:BytesAt w b off l) :
  Calls Tryd.prog 37 #[.slice (some ⟨b,off,none⟩) 64 cap] w fun e w'=>∃v,e=.returned v/\OwnsW w' w.heap.size v (Sha.sched l)/\Below w.heap.size w w':=by
 have hSl:=Sha.length_sched l
 have hlow:=Lib.hid (Sha.sched_low l)
 have hhigh:=Lib.hid (Sha.sched_high l)
 generalize Sha.sched l=S at *
 obtain⟨B,hB⟩:∃B,w.heap.size=B:=⟨_,rfl⟩
 rw[hB]
 go_enter Tryd.func37,Tryd.ntmps37
 go_wp2
 go_loopw [3,4] (fun s i wr=>SpreadRel S B w s i wr) (fun _ i _=>64 - (intOf i).toNat)
 case atStart=>exact⟨0,by omega,ownsW_nil _ _,rfl,hB ▸ Below.refl _ _⟩
 case round =>
  obtain⟨k,hk,ho,rfl,hbw⟩:=hrel
  by_cases hlt:k < 64
  ·have htk:=take_word S k (by omega)
   have hfl:(S.take k).length=k:=by rw[List.length_take];omega
   have hwt:=fun j (h:j < k)=>wordAt_take S k j h
   by_cases h16:k < 16
   ·have hs:=fun w=>run_slice_both (P:=Tryd.prog) byteSlice w (some ⟨b,off,none⟩) 64 cap .i64 .i64 (4 * k) (4 * k+4) (4 * (k:Int)) (4 * (k:Int)+4) (by omega) (by omega) (by omega) (by omega)
    have hda:dropAddr (some ⟨b,off,none⟩) cap (4 * k)=some ⟨b,off+4 * k,none⟩:=by
     unfold dropAddr
     rw[if_neg (by omega),Option.map_some,Addr.add_lit]
    rw[hda,show 4 * k+4 - 4 * k=4 by omega] at hs
    have hm4:((l.drop (4 * k)).take 4).length=4:=by rw[List.length_take,List.length_drop];omega
    have hbm:BytesAt wr b (off+4 * k) ((l.drop (4 * k)).take 4):=((hb.mono (Keeps.below (hB ▸ hbw) ⟨b,·,none⟩)).drop (4 * k)).take 4
    have hrm:Reads wr (some ⟨b,off+4 * k,none⟩) (cap - 4 * k) ((l.drop (4 * k)).take 4):=⟨by omega,by omega,(by intro e;cases e),.inr ⟨_,_,rfl,hbm⟩⟩
    have hbig:=big4 _ hm4
    have hbyte:∀j,j < 4->byteAt ((l.drop (4 * k)).take 4) j=byteAt l (4 * k+j):=fun j hj=>by rw[byteAt_take hj,byteAt_drop]
    rw[hbyte 0 (by omega),hbyte 1 (by omega),hbyte 2 (by omega),hbyte 3 (by omega)] at hbig
    have hbig2:(bigOf ((l.drop (4 * k)).take 4)).setWidth 32=wordAt S k:=hbig.trans (hlow.out k h16).symm
    generalize (l.drop (4 * k)).take 4=m at *
    have BK:=rback_any (some ⟨b,off+4 * k,none⟩) (cap - 4 * k) m wr hrm (by omega)
    rw[hm4] at BK
    have HBIG:=Lib.hid hbig2
    have HTK:=Lib.hid htk
    have HHB:=Lib.hid hb
    have HRM4:=Lib.hid hm4
    clear hbig hbig2 hbyte hda htk hb hm4 hrm hbm
    generalize S.take k=f at *
    have hbs:=hbw.size
    go_wp2_with fail
    refine BK.mono ?_
    rintro e w2 ⟨v2,rfl,ho2,hb2⟩
    obtain⟨mr,hmr⟩:∃q,m.reverse=q:=⟨_,rfl⟩
    have hml:mr.length=4:=by rw[<- hmr,List.length_reverse];exact HRM4.out
    have hbig:(bigOf mr.reverse).setWidth 32=wordAt S k:=by rw[<- hmr,List.reverse_reverse];exact HBIG.out
    rw[hmr] at ho2
    clear hmr
    obtain⟨a2,c2,rfl,hr2⟩:=ho2.reads
    obtain⟨b2,off2,rfl,hby2⟩:=hr2.bytes.resolve_left (fun e=>by rw[e] at hml;simp at hml)
    have GT:=rget_any b2 off2 c2 mr w2 (by omega) (by omega) hby2
    generalize bigOf mr.reverse=x at *
    have HB2:=Lib.hid hbig
    have HML:=Lib.hid hml
    clear hbig hml
    clear BK hs
    go_wp2_with fail
    refine GT.mono ?_
    rintro e w3 ⟨rfl,rfl⟩
    have ho3:=OwnsW.below ho hb2
    have hcell:(w2.alloc (.cells #[U32 (x.setWidth 32)] 52)).cell? ⟨w2.heap.size,0,none⟩=some (U32 (x.setWidth 32)):=cell_new w2 _ _
    have ho3':=OwnsW.below ho3 (w':=w2.alloc (.cells #[U32 (x.setWidth 32)] 52)) ((Below.refl _ _).alloc (Nat.le_refl _) _)
    have hs2:=hb2.size
    have hz':B<=(w2.alloc (.cells #[U32 (x.setWidth 32)] 52)).heap.size:=by simp;omega
    obtain⟨a0,c0,rfl⟩:=ho.anyForm
    have ho4:=ho3'.at_ hfl
    have HO3:=Lib.hid ho3'
    have hbb:=(hbw.trans (hb2.mono (hB ▸ hbs)))
    clear ho GT ho3 ho3'
    go_wp2_with (at_builtin;refine wpList_append_elem wordsElem rfl _ _ rfl B (.slice a0 k c0) k (f.map U32) rfl ho4 ⟨w2.heap.size,0,none⟩ 1 (U32 (x.setWidth 32)) rfl hcell rfl (by omega) (by omega) hz' ?_;intro v5 w5 ho5 hg5 _)
    go_roundw
    case rel =>
     refine⟨k+1,by omega,?_,by go_num,below_appendW hbb (by omega) HO3.out (by rw[hfl];exact hg5)⟩
     rw[HTK.out,<- HB2.out]
     exact OwnsW.snoc ho5 hfl
    case measure=>simp[intOf];omega
   ·obtain⟨n15,e15⟩:∃n:Nat,(k:Int) - 15=n:=⟨k - 15,by omega⟩
    obtain⟨n2,e2⟩:∃n:Nat,(k:Int) - 2=n:=⟨k - 2,by omega⟩
    obtain⟨n16,e16⟩:∃n:Nat,(k:Int) - 16=n:=⟨k - 16,by omega⟩
    obtain⟨n7,e7⟩:∃n:Nat,(k:Int) - 7=n:=⟨k - 7,by omega⟩
    have l15:n15 < k:=by omega
    have l2:n2 < k:=by omega
    have l16:n16 < k:=by omega
    have l7:n7 < k:=by omega
    have hnext:=hhigh.out k (by omega) hlt
    have hnext2:wordAt S k=wordAt S n16+Sha.small0 (wordAt S n15)+wordAt S n7+Sha.small1 (wordAt S n2):=by
     rw[show n16=k - 16 by omega,show n15=k - 15 by omega,show n7=k - 7 by omega,show n2=k - 2 by omega];exact hnext
    rw[<- hwt n16 l16,<- hwt n15 l15,<- hwt n7 l7,<- hwt n2 l2] at hnext2
    generalize S.take k=f at *
    obtain⟨g,c0,rfl,hc1,hc2,hBg,hgl,hcell⟩:=OwnsW.form ho (fun e=>by rw[e] at hfl;simp at hfl;omega)
    have c15:=hcell n15 (by omega)
    have c2:=hcell n2 (by omega)
    have c16:=hcell n16 (by omega)
    have c7:=hcell n7 (by omega)
    have HN:=Lib.hid hnext2
    have HTK:=Lib.hid htk
    have HBW:=Lib.hid hbw
    have HHB:=Lib.hid hb
    have ho4:=ho.at_ hfl
    have HO:=Lib.hid ho4
    have HFL:=Lib.hid hfl
    rw[hfl]
    clear hnext hnext2 htk hwt hbw hb hcell ho ho4 hfl
    generalize wordAt f n15=x15 at *
    generalize wordAt f n2=x2 at *
    generalize wordAt f n16=x16 at *
    generalize wordAt f n7=x7 at *
    have d8:=div8 x15
    have d1024:=div1024 x2
    go_wp2
    go_quiet (exact turned_quiet _ _ (by decide) (by decide) _ _)
    have f2:(wr.drewN nq).cell? ⟨g,n2,none⟩=some (U32 x2):=c2
    have f16:(wr.drewN nq).cell? ⟨g,n16,none⟩=some (U32 x16):=c16
    have f7:(wr.drewN nq).cell? ⟨g,n7,none⟩=some (U32 x7):=c7
    have HO1:Hid ((wr.drewN nq).ownsRow B 52 1 (.slice (some ⟨g,0,none⟩) k c0) k (f.map U32)):=Lib.hid HO.out
    have HB1:Hid (Below B w (wr.drewN nq)):=Lib.hid (below_drewN HBW.out nq)
    clear c15 c2 c16 c7 HO HBW hgl
    generalize wr.drewN nq=w6 at *
    go_wp2
    go_quiet (exact turned_quiet _ _ (by decide) (by decide) _ _)
    have g16:(w6.drewN nq).cell? ⟨g,n16,none⟩=some (U32 x16):=f16
    have g7:(w6.drewN nq).cell? ⟨g,n7,none⟩=some (U32 x7):=f7
    have HO2:Hid ((w6.drewN nq).ownsRow B 52 1 (.slice (some ⟨g,0,none⟩) k c0) k (f.map U32)):=Lib.hid HO1.out
    have HB2:Hid (Below B w (w6.drewN nq)):=Lib.hid (below_drewN HB1.out nq)
    clear f2 f16 f7 HO1 HB1
    generalize w6.drewN nq=w7 at *
    generalize hp:Sha.rotr x15 7 ^^^ Sha.rotr x15 18 ^^^ x15 >>> 3=p at *
    generalize hq:Sha.rotr x2 17 ^^^ Sha.rotr x2 19 ^^^ x2 >>> 10=q at *
    have HP:=Lib.hid hp
    have HQ:=Lib.hid hq
    clear hp hq d8 d1024
    go_wp2_with fail
    have C16:∀x:Of (TwoCells g n16 n7 x16 x7),x.to.cell? ⟨g,n16,none⟩=some (U32 x16):=fun x=>x.ok.1
    have C7:∀x:Of (TwoCells g n16 n7 x16 x7),x.to.cell? ⟨g,n7,none⟩=some (U32 x7):=fun x=>x.ok.2
    have tw:TwoCells g n16 n7 x16 x7 w7:=⟨g16,g7⟩
    haveI:Nonempty (Of (TwoCells g n16 n7 x16 x7)):=of_ne tw
    refine wp_region_plan [([0,1,2,3,4,5,6,7,8,9,10,11,12,13,14,15],some 16),([],some 17),([18],none)] (fun w'=>∃x:Of (TwoCells g n16 n7 x16 x7),w'=x.to) (by kernel_rfl) (by kernel_rfl) (fun _ _ d _ _ h=>by cases d<;>exact h) (of_mk (w:=w7.drew) (S:=TwoCells g n16 n7 x16 x7) tw) ?_
    refine plan_some (show wpQuiet _ _ _ _ (_::_::_::_::_::_::_::_::_::_::_::_::_::_::_::_::[]) _ from ?_)
    repeat (go_big_quiet_step (fail))
    refine wpQuiet_nil (show wpList _ _ _ (_::[]) _ _ from ?_)
    have tw2:TwoCells g n16 n7 x16 x7 w7.drew:=tw
    have HO3:Hid (w7.drew.ownsRow B 52 1 (.slice (some ⟨g,0,none⟩) k c0) k (f.map U32)):=Lib.hid HO2.out
    have HB3:Hid (Below B w w7.drew):=Lib.hid (HB2.out.drew)
    clear C16 C7 g16 g7 tw HO2 HB2
    generalize w7.drew=w8 at *
    go_wp2_with fail
    have hx:x16+p+x7+q=wordAt S k:=by rw[<- HP.out,<- HQ.out];exact HN.out.symm
    rw[hx]
    generalize wordAt S k=x at *
    have hs8:=HB3.out.size
    have tw3:TwoCells g n16 n7 x16 x7 (w8.alloc (.cells #[U32 x] 52)):=⟨Keeps.alloc w8 _ _ _ tw2.1,Keeps.alloc w8 _ _ _ tw2.2⟩
    have hcell:(w8.alloc (.cells #[U32 x] 52)).cell? ⟨w8.heap.size,0,none⟩=some (U32 x):=cell_new w8 _ _
    have ho9:(w8.alloc (.cells #[U32 x] 52)).ownsRow B 52 1 (.slice (some ⟨g,0,none⟩) k c0) k (f.map U32):=Touch.row (F:=fun _=>False) ((Touch.refl _ _).alloc _) HO3.out fun _ _ e=>e
    have hz':B<=(w8.alloc (.cells #[U32 x] 52)).heap.size:=by simp;omega
    have hb9:Below B w (w8.alloc (.cells #[U32 x] 52)):=HB3.out.alloc (by omega) _
    refine late_normal (fun _ h=>h) (of_mk tw3) ?_
    generalize w8.alloc (.cells #[U32 x] 52)=w9 at *
    refine plan_some (show wpQuiet _ _ _ _ [] _ from ?_)
    refine wpQuiet_nil (show wpList _ _ _ (_::[]) _ _ from ?_)
    refine wpList_append_keep wordsElem rfl _ _ rfl B g k c0 (f.map U32) rfl ho9 ⟨w8.heap.size,0,none⟩ 1 (U32 x) rfl hcell rfl (by omega) (by omega) hz' ?_
    intro v10 w10 ho10 hg10 hb10 hkeep
    have tw4:TwoCells g n16 n7 x16 x7 w10:=⟨by rw[hkeep n16 l16];exact tw3.1,by rw[hkeep n7 l7];exact tw3.2⟩
    have hbf:Below B w w10:=hb9.trans ((Touch.of_grown (F:=fun q=>q=g) hg10 fun q hq=>(Option.some.inj hq).symm).below (fun q e=>by have e2:q=g:=e;omega) hz')
    have HOF:=Lib.hid ho10
    have HBF:=Lib.hid hbf
    clear ho9 hcell tw3 hb9 hkeep hg10 hb10 ho10 hbf tw2
    go_wp2_with fail
    refine late_normal (fun _ h=>h) (of_mk tw4) ?_
    refine plan_none (show wpQuiet _ _ _ _ (_::[]) _ from ?_)
    repeat (go_big_quiet_step (fail))
    refine wpQuiet_nil ?_
    refine plan_nil ?_
    go_wp2
    go_roundw
    case rel =>
     refine⟨k+1,by omega,?_,by go_num,HBF.out⟩
     rw[HTK.out]
     exact OwnsW.snoc HOF.out HFL.out
    case measure=>simp[intOf];omega
  ·obtain rfl:k=64:=by omega
   rw[show (((64:Nat):Int))=64 from rfl]
   rw[List.take_of_length_le (by omega)] at ho
   clear hb
   go_wp2
   go_ret
   exact⟨_,rfl,ho,hbw⟩
end Go.Proofs.YtbicafgmfgdckaaDoor
