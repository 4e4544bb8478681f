/- A piece. -/
import Derived.Test.YtbicafgmfgdckaaGreatDoorMgAc
import Derived.Stop.BytesEq
set_option maxRecDepth 100000
set_option maxHeartbeats 16000000
set_option linter.all false
namespace Go.Proofs.YtbicafgmfgdckaaGreatDoor
open Go.Proofs.Tryz
open Go Go.RowKit
theorem Apg (n:Nat) (h:n<=1048576):Value.int .u64 ((n:Int) * 8)=F6 (BitVec.ofNat 64 (8 * n)):=by
 rw[Int.mul_comm];exact Ah1 n h
theorem Am0 (a:Option Addr) (cap:Nat) (l:List (BitVec 8)) (w:World) (hr:A0 w a cap l) (hlm:l.length<=1000000) :
  Calls prog 47 #[.slice a l.length cap] w fun e w'=>∃v,e=.returned v/\C6 w' w.heap.size 5 v (Sha.pad l)/\Below w.heap.size w w':=by
 have CO:=Aei a cap l w hr (by omega);obtain⟨B,hB⟩:∃B,w.heap.size=B:=⟨_,rfl⟩;rw[hB];obtain⟨P,hP⟩:∃P,Sha.pad l=P:=⟨_,rfl⟩;rw[hP];have HP:=Lib.hid hP;clear hP
 go_enter func47,ntmps47
 go_wp2_with fail
 refine CO.mono ?_;rintro e w2 ⟨vt,rfl,ic,hb2⟩;rw[hB] at ic hb2;have xf:B<=w2.heap.size:=hB ▸ hb2.size;have hr2:=H6 w2 #[.int .u8 128] 5 (0,0) [0x80#8] rfl (by decide);have jr:=ic.below (w':=w2.alloc (.cells #[.int .u8 128] 5)) ((Below.refl _ _).alloc (Nat.le_refl _) _);have hz2:B<=(w2.alloc (.cells #[.int .u8 128] 5)).heap.size:=by simp;omega
 have hlen:l.length+1<=140737488355328:=by omega
 go_wp2_with (at_builtin;refine As Ay rfl _ _ rfl B vt l rfl jr (some ⟨w2.heap.size,0,none⟩) 1 [0x80#8] rfl hr2 hlen hz2 ?_;intro v3 w3 mz hg3 _)
 have hb3:Below B w w3:=Fc hb2 (by omega) jr hg3
 go_loopw [3] (fun x wr=>Ah8 B (l++[0x80#8]) (Sha.noughts l.length) w x wr) (fun x _=>match x with | .slice _ n _=>1000200 - n|_=>0)
 case atStart=>exact⟨0,by omega,by simpa using mz,hb3⟩
 case round =>
  clear mz hb3 hg3 jr hz2 hr2 ic CO;obtain⟨j,hj,ho,ae⟩:=hrel;obtain⟨t,ht⟩:∃t,l++[0x80#8]++List.replicate j 0#8=t:=⟨_,rfl⟩;have htl:t.length=l.length+1+j:=by rw[<- ht];simp;omega
  have hnl:=Wj l.length;have hnn:Sha.noughts l.length=(119 - l.length % 64) % 64:=rfl;rw[ht] at ho;obtain⟨at_,ct,rfl,hrt⟩:=ho.reads;have HT:=Lib.hid ht;clear ht;by_cases hlt:j < Sha.noughts l.length
  ·have hne:¬((t.length:Int) % 64=56):=by omega
   have hne':((t.length:Int) % 64 != 56)=true:=by simpa using hne
   have rf:t.length<=1000100:=by omega
   have hbs:=ae.size;have rz:=H6 wr #[.int .u8 0] 5 (0,0) [0#8] rfl (by decide);have ho':=ho.below (w':=wr.alloc (.cells #[.int .u8 0] 5)) ((Below.refl _ _).alloc (Nat.le_refl _) _);have hz':B<=(wr.alloc (.cells #[.int .u8 0] 5)).heap.size:=by simp;omega
   have hlen':t.length+1<=140737488355328:=by omega
   have HTL:=Lib.hid htl;clear htl hnn
   go_wp2_with (at_builtin;refine As Ay rfl _ _ rfl B (.slice at_ t.length ct) t rfl ho' (some ⟨wr.heap.size,0,none⟩) 1 [0#8] rfl rz hlen' hz' ?_;intro v5 w5 cj lj _)
   have bo:=Fc ae (by omega) ho' lj;obtain⟨x,hx⟩:∃x,t++[0#8]=x:=⟨_,rfl⟩;have hxl:x.length=t.length+1:=by rw[<- hx,List.length_append,List.length_singleton]
   rw[hx] at cj;obtain⟨a5,c5,rfl,_⟩:=cj.reads;have HO5:=Lib.hid cj;have HB5:=Lib.hid bo;have HX:=Lib.hid hx;have HXL:=Lib.hid hxl;clear cj bo hx hxl ho' lj ho rz hrt
   go_roundw
   case rel =>
    refine⟨j+1,hlt,?_,HB5.out⟩;rw[List.replicate_succ',<- List.append_assoc,HT.out,HX.out];exact HO5.out
   case measure =>
    have h1:=HXL.out;show 1000200 - x.length < 1000200 - t.length;omega
  ·obtain rfl:j=Sha.noughts l.length:=by omega
   have heq:(t.length:Int) % 64=56:=by omega
   have heq':((t.length:Int) % 64 != 56)=false:=by simpa using heq
   have rf:t.length<=1000100:=by omega
   have hbs:=ae.size;have ig:P=t++Sha.be8 (8 * l.length):=by rw[<- HT.out,<- HP.out];rfl
   have HTA:=Lib.hid ig;clear ig htl hnn hnl hj hlt;have PU:Calls prog 50 #[.int .u64 ((l.length:Int) * 8),.int .i64 8] wr fun e w' =>
     ∃v,e=.returned v/\C6 w' wr.heap.size 5 v (Ts (BitVec.ofNat 64 (8 * l.length)) 8)/\Below wr.heap.size wr w':=by
    rw[Apg _ (by omega)];exact Ac1 _ 8 (by omega) (by omega) wr
   have hbe:(Ts (BitVec.ofNat 64 (8 * l.length)) 8).reverse=Sha.be8 (8 * l.length):=Ah3 _ (by omega);have hlb:(Ts (BitVec.ofNat 64 (8 * l.length)) 8).length=8:=Gt _ _;generalize Ts (BitVec.ofNat 64 (8 * l.length)) 8=x at *;have HBE:=Lib.hid hbe;have HLB:=Lib.hid hlb;clear hbe hlb
   go_wp2_with fail
   refine PU.mono ?_;rintro e w6 ⟨v6,rfl,xy,qg⟩;obtain⟨a6,c6,rfl,qs⟩:=xy.reads;have BK:=Zl a6 c6 x w6 qs (by have:=HLB.out;omega);clear PU
   go_wp2_with fail
   refine BK.mono ?_;rintro e w7 ⟨v7,rfl,i5,gz⟩;rw[HBE.out] at i5;obtain⟨e8,he8⟩:∃q,Sha.be8 (8 * l.length)=q:=⟨_,rfl⟩;rw[he8] at i5;have HE8:=Lib.hid he8;have he8l:e8.length=8:=by rw[<- he8];rfl
   clear he8;obtain⟨a7,c7,rfl,uv⟩:=i5.reads;have yt:=qg.trans (gz.mono qg.size);have ho8:=ho.below yt;have hs7:=yt.size;have zb:B<=w7.heap.size:=by omega
   have hlen8:t.length+e8.length<=140737488355328:=by omega
   clear BK he8l
   go_wp2_with (at_builtin;refine As Ay rfl _ _ rfl B (.slice at_ t.length ct) t rfl ho8 a7 c7 e8 rfl uv hlen8 zb ?_;intro v9 w9 ho9 hg9 _)
   go_ret
   have hb79:Below B w7 w9:=(Touch.of_grown (F:=fun k=>(Value.slice at_ t.length ct).ownBlock=some k) hg9 fun k hk=>hk).below (fun k hk=>(Dm ho hk).1) zb;refine⟨v9,rfl,?_,(ae.trans (yt.mono (by omega))).trans hb79⟩;rw[HTA.out,HE8.out];exact ho9
def Hl (w:World) (g:Nat) (f:List (BitVec 8)):Prop:=w.heap[g]?=some (.cells (f.map U8).toArray 40 (0,0))
section
variable {w w':World} {g:Nat} {f:List (BitVec 8)}
theorem Hl.cell (h:Hl w g f) {i:Nat} (hi:i < f.length):w.cell? ⟨g,i,none⟩=some (U8 (Ad f i)):=by
 unfold Hl at h;unfold World.cell?;rw[h];simp[Ad,List.getD_eq_getElem?_getD,List.getElem?_eq_getElem hi]
theorem Hl.thawed (h:Hl w g f) (o:Nat):w.frozen? ⟨g,o,none⟩=false:=by
 unfold Hl at h;simp[World.frozen?,h]
theorem Hl.set (h:Hl w g f) (i:Nat) (x:BitVec 8):Hl (w.setCell ⟨g,i,none⟩ (U8 x)) g (f.set i x):=by
 have e:=setCell_eq_setRow w g i (f.map U8).toArray 40 (0,0) (U8 x) h;unfold Hl;rw[e,show (f.map U8).toArray.setIfInBounds i (U8 x)=((f.set i x).map U8).toArray by simp[List.map_set]];exact setRow_heap w g _ _ _ _ h
theorem Hl.lt (h:Hl w g f):g < w.heap.size:=Dk h
theorem Hl.touch {F:Nat->Prop} (h:Hl w g f) (k:Touch F w w') (hn:¬F g):Hl w' g f:=by
 have hl:=h.lt;unfold Hl at h ⊢;rw[k.block g hl hn];exact h
theorem Hl.below (h:Hl w g f) (hb:Below w.heap.size w w'):Hl w' g f:=h.touch (F:=fun _=>False) (.of_below hb) fun e=>e
end
theorem Ar2 (f:Bv) (i k:Nat) (hi:i < f.length) (hk:k < 4):Ad (f.flatMap Sha.bytes4) (4 * i+k)=Ad (Sha.bytes4 (Ac f i)) k:=by
 induction f generalizing i with
 | nil=>simp at hi
 | cons a f ih =>
  rw[List.flatMap_cons];have h4:(Sha.bytes4 a).length=4:=rfl;cases i with
  | zero =>
   simp only[Ad,List.getD_eq_getElem?_getD,Nat.mul_zero,Nat.zero_add,Ac];rw[List.getElem?_append_left (by omega)];rfl
  | succ i =>
   have:=ih i (by simp at hi;omega);simp only[Ad,List.getD_eq_getElem?_getD,Ac] at this ⊢;rw[List.getElem?_append_right (by omega),h4,show 4 * (i+1)+k - 4=4 * i+k by omega,this];simp
theorem At3 (x:BitVec 32) (k:Nat) (hk:k < 4):Ad (Ts (x.setWidth 64) 4) (3 - k)=Ad (Sha.bytes4 x) k:=by
 rw[<- Yf,beB];have h1:(Ts (x.setWidth 64) 4).length=4:=Gt _ _;rw[Cm (l:=(Ts (x.setWidth 64) 4).reverse) (by rw[List.length_reverse,h1];exact hk),List.getElem_reverse,Cm (by omega)];simp only[h1]
def Ali (P:List (BitVec 8)) (ap:Option Addr) (cp:Nat) (z:List (BitVec 8)) (B:Nat) (w:World) (s at_:Value) (wr:World):Prop :=
 ∃k:Nat,64 * k<=P.length/\at_=.int .i64 (64 * k:Nat)/\Cr wr (B+1) s (Sha.blocks k Sha.begin P).list/\A0 wr ap cp P/\Hl wr B z/\Below B w wr
def Asx (D:List (BitVec 8)) (F:Bv) (s:Value) (z:List (BitVec 8)) (gd B:Nat) (w:World) (i:Value) (wr:World):Prop :=
 ∃(k:Nat) (f:List (BitVec 8)),k<=8/\i=.int .i64 k/\f.length=32/\Hl wr gd f/\(∀j,j < 4 * k->Ad f j=Ad D j)/\Cr wr (B+1) s F/\Hl wr B z/\Below B w wr
def Aum (D X:List (BitVec 8)) (gx:Nat) (F:Bv) (s:Value) (z:List (BitVec 8)) (gd B i:Nat) (w:World) (k_:Value) (wr:World):Prop :=
 ∃(k:Nat) (f:List (BitVec 8)),k<=4/\k_=.int .i64 k/\f.length=32/\Hl wr gd f/\(∀j,j < 4 * i+k->Ad f j=Ad D j)/\Bf wr gx 0 X/\Cr wr (B+1) s F/\Hl wr B z/\Below B w wr
theorem Amz (a:Option Addr) (cap:Nat) (l:List (BitVec 8)) (w:World) (hr:A0 w a cap l) (hlm:l.length<=1000000) :
  Calls prog 27 #[.slice a l.length cap] w fun e w'=>e=.returned (.agg ((Sha.sum l).map U8).toArray)/\Below w.heap.size w w':=by
 obtain⟨z,hz0,hz⟩:=Vi;have hzl:z.length=32:=by rw[hz0];rfl
 have HZ0:=Lib.hid hz0;clear hz0;obtain⟨B,hB⟩:∃B,w.heap.size=B:=⟨_,rfl⟩;have hb1:Below B w (w.alloc (.cells (z.map U8).toArray 40)):=(hB ▸ Below.refl _ _:Below B w w).alloc (by omega) _;have i1:Hl (w.alloc (.cells (z.map U8).toArray 40)) B z:=by rw[<- hB];exact heap_alloc_new w _
 have PD:=Am0 a cap l (w.alloc (.cells (z.map U8).toArray 40)) (hr.keeps (Bm.alloc w _)) hlm;have cz:Sha.sum l=(Sha.blocks ((Sha.pad l).length / 64) Sha.begin (Sha.pad l)).bytes:=rfl;have iu:(Sha.pad l).length % 64=0:=by
  have hn:Sha.noughts l.length=(119 - l.length % 64) % 64:=rfl;rw[Sha.pad,Sha.tail];simp[Sha.be8];omega
 have hp0:(Sha.pad l).length<=1000200:=by
  have hn:Sha.noughts l.length=(119 - l.length % 64) % 64:=rfl;rw[Sha.pad,Sha.tail];simp[Sha.be8];omega
 generalize Sha.sum l=D at *;generalize Sha.pad l=P at *;have HSUM:=Lib.hid cz;have HP64:=Lib.hid iu;clear cz iu;rw[hB]
 go_enter func27,ntmps27
 go_wp2_with fail
 generalize w.alloc (.cells (z.map U8).toArray 40)=w1 at *;refine PD.mono ?_;rintro e w2 ⟨vp,rfl,hop,hb2⟩;have hs1:=i1.lt;have ly:=hb1.trans (hb2.mono (by omega));have i2:=i1.below hb2;clear PD hr;obtain⟨ap,cp,rfl,si⟩:=hop.reads;have s8:∀q:World,B+1<=q.heap.size->Cr (q.alloc (.cells #[.int .u32 1779033703,.int .u32 3144134277,.int .u32 1013904242,.int .u32 2773480762,.int .u32 1359893119,.int .u32 2600822924,.int .u32 528734635,.int .u32 1541459225] 22)) (B+1) (.slice (some ⟨q.heap.size,0,none⟩) 8 8) Sha.begin.list :=
  fun q hq=>World.ownsRow_lit q (e:=22) (size:=1) #[.int .u32 1779033703,.int .u32 3144134277,.int .u32 1013904242,.int .u32 2773480762,.int .u32 1359893119,.int .u32 2600822924,.int .u32 528734635,.int .u32 1541459225] 8 hq (by unfold maxLen;omega) rfl
 have hs2:=hb2.size;have s2:=s8 w2 (by omega);have hpr2:=si.keeps (Bm.alloc w2 (.cells #[.int .u32 1779033703,.int .u32 3144134277,.int .u32 1013904242,.int .u32 2773480762,.int .u32 1359893119,.int .u32 2600822924,.int .u32 528734635,.int .u32 1541459225] 22));have i3:=i2.below (w':=w2.alloc (.cells #[.int .u32 1779033703,.int .u32 3144134277,.int .u32 1013904242,.int .u32 2773480762,.int .u32 1359893119,.int .u32 2600822924,.int .u32 528734635,.int .u32 1541459225] 22)) ((Below.refl _ _).alloc (Nat.le_refl _) _);have hb3:=ly.alloc (by omega) (.cells #[.int .u32 1779033703,.int .u32 3144134277,.int .u32 1013904242,.int .u32 2773480762,.int .u32 1359893119,.int .u32 2600822924,.int .u32 528734635,.int .u32 1541459225] 22);clear s8 hop si i2 ly;have HB1:=Lib.hid hb1;clear hb1
 go_wp2_with fail
 generalize w2.alloc _=w3 at *
 go_loopw [4,5] (fun s at_ wr=>Ali P ap cp z B w s at_ wr) (fun _ at_ _=>P.length - (intOf at_).toNat)
 case atStart=>exact⟨0,by omega,rfl,s2,hpr2,i3,hb3⟩
 case round =>
  clear s2 hpr2 i3 hb3;obtain⟨k,hk,rfl,hos,si,hi,ae⟩:=hrel;by_cases hlt:64 * k+64<=P.length
  ·have hne:P≠[]:=fun e=>by rw[e] at hlt;simp at hlt
   obtain⟨b,off,rfl,hby⟩:=si.bytes.resolve_left hne;have hfit:=si.fits;have hroom:=si.room;have hs:=fun w=>Ii (P:=prog) Ay w (some ⟨b,off,none⟩) P.length cp .i64 .i64 (64 * k) (64 * k+64) ((64 * k:Nat):Int) (((64 * k:Nat):Int)+64) rfl (by omega) (by omega) (by omega);have wn:Cf (some ⟨b,off,none⟩) cp (64 * k)=some ⟨b,off+64 * k,none⟩:=by
    unfold Cf;rw[if_neg (by omega),Option.map_some,Addr.add_lit]
   rw[wn,show 64 * k+64 - 64 * k=64 by omega] at hs;have sf:((P.drop (64 * k)).take 64).length=64:=by rw[List.length_take,List.length_drop];omega
   have hqb:Bf wr b (off+64 * k) ((P.drop (64 * k)).take 64):=(hby.drop (64 * k)).take 64;have ni:=Sha.blocks_succ k Sha.begin P;generalize (P.drop (64 * k)).take 64=q at *;have SP:=Afg b (off+64 * k) (cp - 64 * k) q wr sf (by omega) (by omega) hqb;generalize Sha.blocks k Sha.begin P=st at *;have htk:Sha.take st q=st.plus (Sha.rounds st (Sha.sched q) 64):=rfl;have ma:=Sha.length_sched q;generalize Sha.sched q=S at *;rw[htk] at ni;obtain⟨gs,cs,rfl,hc1,hc2,hBg,hgl,hcell⟩:=Cr.form hos (fun e=>by cases e);rw[show st.list.length=8 from rfl] at *;have hBs:=ae.size;have HSU:=Lib.hid ni;have HIN:=Lib.hid hi;have HBW:=Lib.hid ae;have HPR:=Lib.hid si;have HSL:=Lib.hid ma;clear ni hi ae si hby hqb wn htk hos ma;generalize hK:64 * k=K at *;have HKK:=Lib.hid hK;clear hK
   go_wp2_with fail
   refine SP.mono ?_;rintro e w5 ⟨v5,rfl,cj,bo⟩;have ma:=HSL.out;obtain⟨gw,cw,rfl,hw1,hw2,_,_,j6⟩:=Cr.form cj (fun e=>by rw[e] at ma;cases ma);rw[ma] at hw1 j6 ⊢;have RD:=Afk st S gs cs gw cw w5 ma (fun j hj=>Bm.below bo _ _ (hcell j hj)) j6;generalize ik:st.plus (Sha.rounds st S 64)=st' at *;have HST:=Lib.hid ik;have HB5:=Lib.hid bo;clear ik SP hcell j6 cj bo ma
   go_wp2_with fail
   refine RD.mono ?_;rintro e w6 ⟨v6,rfl,xy,qg⟩;have hb56:=HB5.out.trans (qg.mono HB5.out.size);have HO6:=Lib.hid xy;have HB6:=Lib.hid hb56;have HS5:=Lib.hid HB5.out.size;clear xy hb56 qg RD;go_wp2
   go_roundw
   case rel =>
    have hk2:=HKK.out;have h5:=HS5.out;refine⟨k+1,by omega,by simp only[Value.int.injEq,true_and];omega,?_,HPR.out.keeps (Bm.below HB6.out),HIN.out.below HB6.out,HBW.out.trans (HB6.out.mono (by omega))⟩;rw[HSU.out];exact V9 HO6.out fun q hq=>by have:=Dm HO6.out hq;omega
   case measure =>
    have hk2:=HKK.out;simp[intOf];omega
  ·have hkP:64 * k=P.length:=by have:=HP64.out;omega
   have hdiv:P.length / 64=k:=by omega
   have cz:=HSUM.out;rw[hdiv] at cz;generalize Sha.blocks k Sha.begin P=st at *;have hD:D=st.list.flatMap Sha.bytes4:=cz;have hFl:st.list.length=8:=rfl;generalize st.list=F at *;obtain⟨gs,cs,rfl,hc1,hc2,hBg,hgl,hcell⟩:=Cr.form hos (fun e=>by rw[e] at hFl;cases hFl);rw[hkP];have HD:=Lib.hid hD;clear cz hD hdiv hkP hlt si;have hB1s:=HB1.out.size;have hBB:=ae.size;have d0:Hl (wr.alloc (.cells (z.map U8).toArray 40)) wr.heap.size z:=heap_alloc_new wr _;have o1:=Cr.below hos (w':=wr.alloc (.cells (z.map U8).toArray 40)) ((Below.refl _ _).alloc (Nat.le_refl _) _);have i4:=hi.below (w':=wr.alloc (.cells (z.map U8).toArray 40)) ((Below.refl _ _).alloc (Nat.le_refl _) _);have bo:=ae.alloc (by omega) (.cells (z.map U8).toArray 40);have hil:=hi.lt;generalize hgde:wr.heap.size=gd at *;clear hos hi ae;rw[hFl] at o1 hcell hc1 ⊢;have HFL:=Lib.hid hFl;clear hFl hcell;go_wp2;clear hgde;generalize wr.alloc (.cells (z.map U8).toArray 40)=w7 at *
   go_loopw [7] (fun i wr=>Asx D F (.slice (some ⟨gs,0,none⟩) 8 cs) z gd B w i wr) (fun i _=>8 - (intOf i).toNat)
   case atStart=>exact⟨0,z,by omega,rfl,hzl,d0,fun j h=>by omega,o1,i4,bo⟩
   case round =>
    clear d0 o1 i4 bo;obtain⟨i,f,hi8,rfl,hfl,hd,hj,ho,hi,ae⟩:=hrel;by_cases hlt:i < 8
    ·obtain⟨gs',cs',e1,_,_,_,hgs,hcell⟩:=Cr.form ho (fun e=>by have:=HFL.out;rw[e] at this;cases this);injection e1 with e1 e2 e3;injection e1 with e1;injection e1 with e1 _ _;subst e1 e3;have hc:=hcell i (by have:=HFL.out;omega);have hfa:=fun k (hk:k < 4)=>Ar2 F i k (by have:=HFL.out;omega) hk;rw[<- HD.out] at hfa;generalize Ac F i=x at *;have PU:=Ac1 (x.setWidth 64) 4 (by decide) (by decide) wr;have hle:=fun k (hk:k < 4)=>At3 x k hk;have hxl:(Ts (x.setWidth 64) 4).length=4:=Gt _ _;generalize Ts (x.setWidth 64) 4=X at *;have hval:∀k,k < 4->Ad X (3 - k)=Ad D (4 * i+k):=fun k hk=>by rw[hle k hk,hfa k hk]
     have HV:=Lib.hid hval;have HXL:=Lib.hid hxl;have HD0:=Lib.hid hd;have HJ:=Lib.hid hj;have HO:=Lib.hid ho;have HI:=Lib.hid hi;have HBW:=Lib.hid ae;clear hval hle hfa hcell hd hj ho hi ae hxl e2
     go_wp2_with fail
     refine PU.mono ?_;rintro e w8 ⟨v8,rfl,ho8,hb8⟩;obtain⟨gx,cx,rfl,ny,hgx1,hgx2⟩:=ho8.row (by have:=HXL.out;omega);have hxl:=HXL.out;rw[hxl] at ny ⊢;have bx:Bf w8 gx 0 X:=fun q hq=>by
      have:=ny.cell q (by omega);rw[Nat.zero_add];exact this
     have d8:=HD0.out.below hb8;have o8:=Cr.below HO.out hb8;have i8:=HI.out.below hb8;have b8:=HBW.out.trans (hb8.mono (by have:=HBW.out.size;omega));have hgdx:gx≠gd:=by have:=HD0.out.lt;omega
     clear PU hc ny ho8 hb8 hxl;go_wp2
     go_loopw [9] (fun k_ wr=>Aum D X gx F (.slice (some ⟨gs,0,none⟩) 8 cs) z gd B i w k_ wr) (fun k_ _=>4 - (intOf k_).toNat)
     case atStart=>exact⟨0,f,by omega,rfl,hfl,d8,fun j h=>HJ.out j (by omega),bx,o8,i8,b8⟩
     case round =>
      clear d8 bx o8 i8 b8;obtain⟨k,f2,hk4,rfl,hfl2,hd,hj,hbx,ho,hi,ae⟩:=hrel;by_cases hlt4:k < 4
      ·obtain⟨m,hm⟩:∃m:Nat,(3:Int) - k=m:=⟨3 - k,by omega⟩;obtain⟨r,hr⟩:∃r:Nat,4 * (i:Int)+k=r:=⟨4 * i+k,by omega⟩;have hmk:m=3 - k:=by omega
       have hrk:r=4 * i+k:=by omega
       have hxc:wr.cell? ⟨gx,m,none⟩=some (U8 (Ad X m)):=by
        have:=hbx m (by have:=HXL.out;omega);rw[Nat.zero_add] at this;exact this
       have hval:Ad X m=Ad D r:=by rw[hmk,hrk];exact HV.out k hlt4
       rw[hval] at hxc;have mj:=hd.thawed r;have wo:=hd.cell (i:=r) (by omega);have hr32:r < 32:=by omega
       have kr:m < 4:=by omega
       have HD1:=Lib.hid hd;have HJ1:=Lib.hid hj;have HBX:=Lib.hid hbx;have HO1:=Lib.hid ho;have HI1:=Lib.hid hi;have HBW1:=Lib.hid ae;have HRK:=Lib.hid hrk;clear hd hj hbx ho hi ae hmk hrk hval;generalize hy:Ad D r=y at *;have HY:=Lib.hid hy;clear hy;go_wp2
       go_roundw
       case rel =>
        have hrk:=HRK.out;have t:Touch (fun q=>q=gd) wr (wr.setCell ⟨gd,r,none⟩ (U8 y)):=Touch.set wr gd r _ rfl;refine⟨k+1,f2.set r y,by omega,by go_num,by simp[hfl2],HD1.out.set r y,fun j hj=>?_,t.bytes HBX.out hgdx,HO1.out.touch t (fun q hq e=>?_),HI1.out.touch t (show ¬(B=gd) by omega),HBW1.out.trans (t.below (fun q e=>by have e2:q=gd:=e;omega) (by have:=HBW1.out.size;omega))⟩
        ·rw[L5 _ _ _ _ (by omega)];split
         ·rename_i e;subst e;exact HY.out.symm
         ·exact HJ1.out j (by omega)
        ·injection hq with hq;have e2:q=gd:=e;have e3:gs=q:=hq;omega
       case measure=>simp[intOf];omega
      ·obtain rfl:k=4:=by omega
       have HD1:=Lib.hid hd;have HJ1:=Lib.hid hj;have HO1:=Lib.hid ho;have HI1:=Lib.hid hi;have HBW1:=Lib.hid ae;clear hd hj hbx ho hi ae;rw[show (((4:Nat):Int))=4 from rfl];go_wp2
       go_roundw
       case rel=>exact⟨i+1,f2,by omega,by go_num,hfl2,HD1.out,fun j h=>HJ1.out j (by omega),HO1.out,HI1.out,HBW1.out⟩
       case measure=>simp[intOf];omega
    ·obtain rfl:i=8:=by omega
     have hDl:D.length=32:=by rw[HD.out,Hc,HFL.out]
     have e0:f=D:=Wx (by rw[hfl,hDl]) fun j h=>hj j (by omega);subst e0;have fc:=Abi f hDl;have hov:=Abj f;have ky:(z.map U8).toArray.size=(f.map U8).toArray.size:=by rw[List.size_toArray,List.size_toArray,List.length_map,List.length_map,hDl,hzl]
     have hr2:(wr.setRow B (f.map U8).toArray).heap[B]?=some (.cells (f.map U8).toArray 40 (0,0)):=setRow_heap wr B _ _ 40 _ hi;have tR:Touch (fun q=>q=B) wr (wr.setRow B (f.map U8).toArray):=Touch.setRow wr _ _ rfl;have hd2:wr.heap[gd]?=some (.cells (f.map U8).toArray 40 (0,0)):=hd;have hi2:wr.heap[B]?=some (.cells (z.map U8).toArray 40 (0,0)):=hi;have HB:=Lib.hid ae;clear ae hd hi hj ho;generalize hE:(f.map U8).toArray=E at *;have HE:=Lib.hid hE;clear hE
     go_wp2_with (first | (refine wpList_load_row rfl 40 _ rfl gd rfl _ E _ _ hd2 underlying40 rfl fc ?_) | (refine wpList_store_row rfl 40 _ _ rfl B E rfl rfl _ (z.map U8).toArray hi2 fc ky hov ?_))
     refine bodyPost_ret (results_cell_row rfl _ _ B _ E _ _ rfl hr2 underlying40 rfl fc) rfl ?_;exact⟨by rw[HE.out],HB.out.trans (tR.below (fun q e=>by have e2:q=B:=e;omega) (by have:=HB.out.size;omega))⟩
section
variable {α:Type} {enc:α->List Value} {K:Nat}
theorem X6:∀(l:List α) (i j:Nat) (u:Value) (hi:i < l.length),(∀x∈l,(enc x).length=K)->(enc l[i])[j]?=some u->(l.flatMap enc)[i * K+j]?=some u
 | [],i,j,u,h,_,_=>by simp at h
 | x::l,0,j,u,_,_,hv=>by
  rw[List.getElem_cons_zero] at hv;rw[List.flatMap_cons,Nat.zero_mul,Nat.zero_add,List.getElem?_append_left (List.getElem?_eq_some_iff.1 hv).1];exact hv
 | x::l,i+1,j,u,h,hl,hv=>by
  have hW:=hl x (by simp);rw[List.getElem_cons_succ] at hv;rw[List.flatMap_cons,List.getElem?_append_right (by rw[hW,Nat.add_mul];omega),hW,show (i+1) * K+j - K=i * K+j by rw[Nat.add_mul];omega];exact X6 l i j u (by simpa using h) (fun y hy=>hl y (by simp[hy])) hv
end
structure Gn {α:Type} (enc:α->List Value) (K:Nat) (w:World) (a:Option Addr) (cap:Nat) (l:List α):Prop where
 fits:l.length<=cap
 room:cap<=9223372036854775807
 rows:l=[]\/∃b off,a=some ⟨b,off,none⟩/\∀i (hi:i < l.length),w.rangeAt b (off+i * K) (enc l[i])
structure Ej {α:Type} (enc:α->List Value) (K:Nat) (w:World) (B:Nat) (T:TypeId) (v:Value) (l:List α):Prop where
 row:w.ownsRow B T K v l.length (l.flatMap enc)
 cells:∀x∈l,(enc x).length=K
section
variable {α:Type} {enc:α->List Value} {K:Nat} {w w':World} {B:Nat} {T:TypeId} {v v':Value} {l:List α} {a:Option Addr} {cap:Nat}
theorem Gn.keeps (h:Gn enc K w a cap l) (k:Bm w w'):Gn enc K w' a cap l:=by
 refine⟨h.fits,h.room,?_⟩;rcases h.rows with e|⟨b,off,e,hb⟩
 ·exact .inl e
 ·exact .inr ⟨b,off,e,fun i hi j u hu=>k _ _ (hb i hi j u hu)⟩
theorem Gn.below (h:Gn enc K w a cap l) (k:Below w.heap.size w w'):Gn enc K w' a cap l:=h.keeps (Bm.below k)
theorem Zi:Gn enc K w none 0 ([]:List α):=⟨by simp,by omega,.inl rfl⟩
theorem Zm (w:World) (B:Nat) (T:TypeId):Ej enc K w B T (.slice none 0 0) []:=⟨World.ownsRow_nil w B T K,fun x h=>by simp at h⟩
theorem Ej.touch {F:Nat->Prop} (h:Ej enc K w B T v l) (t:Touch F w w') (h1:∀k,v.ownBlock=some k->¬F k):Ej enc K w' B T v l:=⟨t.row h.row h1,h.cells⟩
theorem Ej.below (h:Ej enc K w B T v l) (hb:Below w.heap.size w w'):Ej enc K w' B T v l:=h.touch (F:=fun _=>False) (.of_below hb) fun _ _ e=>e
theorem Ej.mono {B':Nat} (h:Ej enc K w B T v l) (hB:B'<=B):Ej enc K w B' T v l:=⟨V9 h.row fun _ hk=>Nat.le_trans hB (Dm h.row hk).1,h.cells⟩
theorem Ej.form (h:Ej enc K w B T v l):∃a cap,v=.slice a l.length cap/\Gn enc K w a cap l/\((l=[]/\a=none/\cap=0)\/∃g,a=some ⟨g,0,none⟩/\v.ownBlock=some g/\B<=g/\g < w.heap.size/\∀o,w.frozen? ⟨g,o,none⟩=false):=by
 rcases h.row.2 with⟨rfl,h0⟩|⟨g,cap,cur,rfl,hB,hg,hn,hc,hs,ht⟩
 ·have e:l=[]:=List.eq_nil_of_length_eq_zero h0;subst e;exact⟨none,0,rfl,Zi,.inl ⟨rfl,rfl,rfl⟩⟩
 ·refine⟨some ⟨g,0,none⟩,cap,rfl,⟨hn,by unfold maxLen at hc;omega,.inr ⟨g,0,rfl,fun i hi j u hu=>?_⟩⟩,.inr ⟨g,rfl,rfl,hB,Dk hg,fun o=>frozen_of_row w g o cur _ hg⟩⟩;have:=h.row.cells (g:=g) rfl (i * K+j) u (X6 l i j u hi h.cells hu);rw[Addr.add_lit,Nat.zero_add] at this;rw[Nat.zero_add];exact this
theorem Ej.snoc {x:α} (h:Ej enc K w B T v l) (hl:(enc x).length=K) (h1:w'.ownsRow B T K v' (l.length+1) (l.flatMap enc++enc x)):Ej enc K w' B T v' (l++[x]):=by
 refine⟨by rw[List.length_append,List.length_singleton,List.flatMap_append,List.flatMap_singleton];exact h1,fun y hy=>?_⟩;rcases List.mem_append.1 hy with hy|hy
 ·exact h.cells y hy
 ·rw[List.mem_singleton] at hy;subst hy;exact hl
end
theorem Tz {α:Type} {enc:α->List Value} {K:Nat} {P:Program} {w:World} {ops:Array Oper} {rest:List Oper} {o:Oper} {act:Act} {Q:Exit->Act->World->Prop} {t e:TypeId} {z:Value} {bytes:Nat} (ht:P.underlying t=some (.slice e)) (hinfo:(P.info? e).map (fun i=>(i.zero,i.size,i.bytes))=some (some z,K,bytes)) (hz:z.cells.size=K) (hK:0 < K)
  (hgd:o.guard=none) (s x:Operand) (ho:o.op=.call { callee:=.builtin .append,args:=#[s,x],argTypes:=#[t,t] })
  (B:Nat) (v:Value) (l:List α) (hs:act.eval s=v) (hown:Ej enc K w B e v l) (y:α) (ad:Addr) (c:Nat) (hx:act.eval x=.slice (some ad) 1 c)
  (hc:∀j u,(enc y)[j]?=some u->w.cell? (ad.add j)=some u) (h1:∀u∈enc y,u.oneCell'=true) (hl:(enc y).length=K) (hn:l.length+1<=1048576) (hby:bytes<=1048576) (hbase:B<=w.heap.size)
  (h:∀v' w',Ej enc K w' B e v' (l++[y])->w.grownBy w' v.ownBlock->(v'.ownBlock=v.ownBlock\/v'.ownBlock=some w.heap.size)->wpList P ops Q rest (act.put o.dst v') w'):wpList P ops Q (o::rest) act w:=by
 obtain⟨i,hi,hz0,hz1,hz2⟩:=info_parts hinfo;have hb:(l.length+1) * bytes<=1048576 * 1048576:=Nat.mul_le_mul hn hby;refine wpList_append_own_at w hgd s x t ho B e i z K bytes ht hi hz0 hz1 hz2 hz hK v l.length _ hs hown.row ad 1 c (enc y) hx (by rw[hl,Nat.one_mul]) hc h1 (by unfold maxLen;omega) (Nat.le_trans hb (by decide)) hbase ?_;intro v' w' r1 r2 _ r4;exact h v' w' (hown.snoc hl r1) r2 r4
theorem Z5:∀(C:List Value) (k:Nat) (Z:Array Value),Z.size=k+C.length->(C.zipIdx k).foldl (fun cs x=>cs.setIfInBounds x.2 x.1) Z=(Z.toList.take k++C).toArray
 | [],k,Z,h=>by
  rw[List.append_nil,List.take_of_length_le (by rw[Array.length_toList,h];simp)];simp
 | c::C,k,Z,h=>by
  have hk:k < Z.toList.length:=by rw[Array.length_toList,h];simp
  rw[List.zipIdx_cons,List.foldl_cons,Z5 C (k+1) _ (by simp[h];omega)]
  congr 1
  rw[Array.toList_setIfInBounds,List.take_set,List.take_succ_eq_append_getElem hk,List.set_append_right _ _ (by rw[List.length_take];omega),List.length_take,Nat.min_eq_left (by omega),Nat.sub_self];simp
theorem Ai7 {P:Program} (w:World) {t e:TypeId} {z:Value} {W bytes:Nat} (ht:P.underlying t=some (.slice e)) (hinfo:(P.info? e).map (fun i=>(i.zero,i.size,i.bytes))=some (some z,W,bytes)) (_hz:z.cells.size=W)
  (C:List Value) (hC:C.length=W) (h0:0 < W) (h1:W<=1000) :
  (Instr.buildSlice t 1 #[(0,.agg C.toArray)]).run P w=.ok (.slice (some ⟨w.heap.size,0,none⟩) 1 1) (w.alloc (.cells C.toArray e)):=by
 obtain⟨i,hi,hz0,hz1,hz2⟩:=info_parts hinfo;have hne:¬W=0:=by omega
 have h2:¬16777216 < W:=by omega
 have hf:C.zipIdx.foldl (fun cs x=>cs.setIfInBounds x.2 x.1) ((Array.range W).map (z.cells[· % z.cells.size]!))=C.toArray:=by
  rw[Z5 C 0 _ (by simp[hC])];simp
 have hcs:(Value.agg C.toArray).cells.size=W:=by show C.toArray.size=W;simpa using hC
 have hfo:Array.foldl (fun cs x=>cs.setIfInBounds (0 * W+x.snd) x.fst) ((Array.range W).map (z.cells[· % z.cells.size]!)) (Value.agg C.toArray).cells.zipIdx=C.toArray:=by
  refine Eq.trans ?_ hf;show Array.foldl _ _ C.toArray.zipIdx=_;simp
 have hfill:Instr.fill (fun i=>some (i * W,W)) ((Array.range W).map (z.cells[· % z.cells.size]!)) [(0,.agg C.toArray)]=some C.toArray:=by
  unfold Instr.fill;simp only[hcs];rw[if_neg (by simp)];unfold Instr.fill;rw[hfo]
 unfold Instr.buildSlice;simp only[Sem.run_bind,run_underlying ht,Result.andThen_ok,sizeOf,typeInfo,Nat.one_mul,Sem.run_pure,zeroValue];simp[hne,h2,hz0,hi,hz1,hfill,newRow]
theorem Aae {P:Program} {w:World} {ops:Array Oper} {rest:List Oper} {o:Oper} {a:Act} {Q:Exit->Act->World->Prop} {t e:TypeId} {z:Value} {W bytes:Nat} (ht:P.underlying t=some (.slice e)) (hinfo:(P.info? e).map (fun i=>(i.zero,i.size,i.bytes))=some (some z,W,bytes)) (hz:z.cells.size=W)
  (hgd:o.guard=none) (x:Operand) (ho:o.op=.buildSlice t 1 #[(0,x)]) (C:List Value) (hx:a.eval x=.agg C.toArray) (hC:C.length=W) (h0:0 < W) (h1:W<=1000)
  (h:wpList P ops Q rest (a.put o.dst (.slice (some ⟨w.heap.size,0,none⟩) 1 1)) (w.alloc (.cells C.toArray e))):wpList P ops Q (o::rest) a w:=by
 refine wpList_plain hgd fun K hK=>?_;have hr:=Ai7 (P:=P) w ht hinfo hz C hC h0 h1;unfold Oper.wp execOp;simp only[ho,List.map_toArray,List.map_cons,List.map_nil,hx,Sem.run_bind,hr,Result.andThen_ok,Sem.run_pure];exact hK _ _ h
theorem Iu {α:Type} {enc:α->List Value} {K:Nat} {P:Program} {w:World} {ops:Array Oper} {rest:List Oper} {o1 o2:Oper} {a:Act} {Q:Exit->Act->World->Prop} {t e:TypeId} {z:Value} {bytes:Nat} (ht:P.underlying t=some (.slice e)) (hinfo:(P.info? e).map (fun i=>(i.zero,i.size,i.bytes))=some (some z,K,bytes)) (hz:z.cells.size=K) (hK:0 < K) (hK1:K<=1000)
  (hg1:o1.guard=none) (x:Operand) (i6:o1.op=.buildSlice t 1 #[(0,x)]) (hg2:o2.guard=none) (s u:Operand) (ic:o2.op=.call { callee:=.builtin .append,args:=#[s,u],argTypes:=#[t,t] })
  (B:Nat) (v:Value) (l:List α) (hown:Ej enc K w B e v l) (y:α) (C:List Value) (hC:enc y=C) (hx:a.eval x=.agg C.toArray)
  (hs:(a.put o1.dst (.slice (some ⟨w.heap.size,0,none⟩) 1 1)).eval s=v) (hu:(a.put o1.dst (.slice (some ⟨w.heap.size,0,none⟩) 1 1)).eval u=.slice (some ⟨w.heap.size,0,none⟩) 1 1)
  (h1:∀u∈C,u.oneCell'=true) (hl:C.length=K) (hn:l.length+1<=1048576) (hby:bytes<=1048576) (hbase:B<=w.heap.size)
  (h:∀v' w',Ej enc K w' B e v' (l++[y])->Touch (fun k=>v.ownBlock=some k) w w'->(v'.ownBlock=v.ownBlock\/∃k,v'.ownBlock=some k/\w.heap.size<=k)->wpList P ops Q rest ((a.put o1.dst (.slice (some ⟨w.heap.size,0,none⟩) 1 1)).put o2.dst v') w'):wpList P ops Q (o1::o2::rest) a w:=by
 refine Aae ht hinfo hz hg1 x i6 C hx hl hK hK1 ?_;have nA:=(Below.refl w.heap.size w).alloc (Nat.le_refl _) (.cells C.toArray e);have rA:=Ac7 (heap_alloc_new w (.cells C.toArray e));rw[List.toList_toArray] at rA;refine Tz ht hinfo hz hK hg2 s u ic B v l hs (hown.below nA) y ⟨w.heap.size,0,none⟩ 1 hu (fun j q hq=>?_) (by rw[hC];exact h1) (by rw[hC];exact hl) hn hby (Nat.le_trans hbase nA.size) ?_
 ·rw[Addr.add_lit];rw[hC] at hq;exact rA j q hq
 ·intro v' w' q1 q2 q3;refine h v' w' q1 ((Touch.of_below nA).trans (.of_grown q2 fun k e=>e)) ?_;rcases q3 with q3|q3
  ·exact .inl q3
  ·exact .inr ⟨_,q3,nA.size⟩
theorem Y7 {B:Nat} {w0 w w':World} {v:Value} {α:Type} {enc:α->List Value} {K:Nat} {T:TypeId} {l:List α} (hb:Below B w0 w) (hB:B<=w0.heap.size) (ho:Ej enc K w B T v l) (t:Touch (fun k=>v.ownBlock=some k) w w'):Below B w0 w' :=
 hb.trans (t.below (fun _ hk=>(Dm ho.row hk).1) (Nat.le_trans hB hb.size))
theorem Ah4 (t:TypeId) {P:Program} {ops:Array Oper} {Q:Exit->Act->World->Prop} {rest:List Oper} {d:Option Tmp} {n:Nat} {parts:Array (Nat × Operand)} {ty:TypeId} {pos:String} {after:Array Edge} {g:Option (Nat × Bool)} {a:Act} {w:World}
  (h:wpList P ops Q ({ dst:=d,op:=.buildSlice t n parts,type:=ty,pos,after,guard:=g }::rest) a w):wpList P ops Q ({ dst:=d,op:=.buildSlice t n parts,type:=ty,pos,after,guard:=g }::rest) a w:=h
def F4 (k:List (BitVec 8)):List Value:=k.map U8
def Ng:List (BitVec 8):=List.replicate 32 0
theorem Ary:(prog.info? 40).map (fun i=>(i.zero,i.size,i.bytes))=some (some (.agg (F4 Ng).toArray),32,32):=by kernel_rfl
theorem Aou:(Value.agg (F4 Ng).toArray).cells.size=32:=by
 show (F4 Ng).toArray.size=32;simp[F4,Ng]
theorem Adc (k:List (BitVec 8)):∀u∈F4 k,u.oneCell'=true:=fun u hu=>by
 obtain⟨y,_,rfl⟩:=List.mem_map.1 hu;rfl
def ub (c:BitVec 8):UInt8:=UInt8.ofNat c.toNat
theorem Atj {c d:BitVec 8} (h:ub c=ub d):c=d:=by
 apply BitVec.eq_of_toNat_eq;have:=congrArg UInt8.toNat h;simpa [ub] using this
theorem Ou:∀k m:List (BitVec 8),(k.map ub==m.map ub)=(k==m):=fun k m=>by
 rw[Bool.eq_iff_iff,beq_iff_eq,beq_iff_eq];constructor
 ·intro h
  induction k generalizing m with
  | nil=>cases m with
   | nil=>rfl
   | cons d m=>simp at h
  | cons c k ih=>cases m with
   | nil=>simp at h
   | cons d m =>
    simp only[List.map_cons,List.cons.injEq] at h;rw[Atj h.1,ih m h.2]
 ·rintro rfl;rfl
theorem Ha (k:List (BitVec 8)):(k.map ub).map Extern.Stop.cell=k.map U8:=by
 rw[List.map_map];apply List.map_congr_left;intro c _;simp[Extern.Stop.cell,ub,U8]
theorem Afj (k m:List (BitVec 8)) (hk:k.length=32) (hm:m.length=32) (w:World) :
  (binOp .neq 40 (.agg (k.map U8).toArray) (.agg (m.map U8).toArray)).run prog w=.ok (.bool (k != m)) w:=by
 have h:=run_equalIn_bytes (P:=prog) w 9998 40 5 32 underlying40 underlying5 (fun w=>by kernel_rfl) (k.map ub) (m.map ub) (by simpa using hk) (by simpa using hm);rw[Ha,Ha,Ou] at h;rw[run_neq_struct,h];simp[bne]
def Aps (w:World) (ls:Dg) (v i:Value) (wr:World):Prop :=
 ∃k:Nat,k<=ls.length/\i=.int .i64 k/\Ej F4 32 wr w.heap.size 40 v ((ls.take k).map Sha.sum)/\Below w.heap.size w wr
theorem Ac6 (a:Option Addr) (cap:Nat) (ls:Dg) (w:World) (hr:La w a cap ls) (hn:ls.length<=100000) (hl:∀r∈ls,r.length<=1000000) :
  Calls prog 28 #[.slice a ls.length cap] w fun e w'=>∃v,e=.returned v/\Ej F4 32 w' w.heap.size 40 v (ls.map Sha.sum)/\Below w.heap.size w w':=by
 have hfit:=hr.fits;have hroom:=hr.room;have HR:=Lib.hid hr;have HL:=Lib.hid hl;clear hr hl
 go_enter func28,ntmps28
 go_wp2_with fail
 go_loopw [3,4] (fun v i wr=>Aps w ls v i wr) (fun _ i _=>ls.length - (intOf i).toNat)
 case atStart=>exact⟨0,Nat.zero_le _,rfl,Zm _ _ _,Below.refl _ _⟩
 case round =>
  obtain⟨k,hk,rfl,HO,hbr⟩:=hrel;by_cases hlt:k < ls.length
  ·obtain⟨b,off,rfl,hrows⟩:=(HR.out.keeps (Bm.below hbr)).rows.resolve_left (fun e=>by rw[e] at hlt;simp at hlt);obtain⟨x,c,hcell,aq⟩:=hrows k hlt;have il:(ls.take (k+1)).map Sha.sum=(ls.take k).map Sha.sum++[Sha.sum (Sd ls k)]:=by
    rw[List.take_succ_eq_append_getElem hlt,List.map_append,Sc hlt];rfl
   have hfl:((ls.take k).map Sha.sum).length<=100000:=by rw[List.length_map,List.length_take];omega
   have cu:(Sd ls k).length<=1000000:=by rw[Sc hlt];exact HL.out _ (List.getElem_mem hlt)
   have HSN:=Lib.hid il;have HO1:=Lib.hid HO;have HBR:=Lib.hid hbr;clear il HO hbr hrows;generalize Sd ls k=m at *;generalize (ls.take k).map Sha.sum=FL at *
   go_wp2_with fail
   refine(Amz x c m wr aq cu).mono ?_;rintro e w4 ⟨rfl,hb4⟩;have hkl:=Cg m;generalize Sha.sum m=D at *;have HO4:=Lib.hid (HO1.out.below hb4);have HB4:=Lib.hid (HBR.out.trans (hb4.mono HBR.out.size));have dm:=Adc D;have hlen:(D.map U8).length=32:=by rw[List.length_map];exact hkl
   have hkc:F4 D=D.map U8:=rfl;have HKC:=Lib.hid hkc;rw[hkc] at dm;clear hkc hb4 hcell aq HO1 HBR;generalize hM:D.map U8=M at *;have HM:=Lib.hid hM;clear hM;have HONE:=Lib.hid dm;have HLEN:=Lib.hid hlen;clear dm hlen
   go_wp2_with (first
    |(with_reducible refine Ah4 46 ?_;go_must (refine Iu underlying46 Ary Aou (by decide) (by decide) rfl _ rfl rfl _ _ rfl w.heap.size _ FL HO4.out D M HKC.out rfl rfl rfl HONE.out HLEN.out (by omega) (by decide) HB4.out.size ?_)))
   intro v5 w5 HO5 T5 hv5;have HBF:=Lib.hid (Y7 HB4.out (Nat.le_refl _) HO4.out T5);have HOF:=Lib.hid HO5;clear T5 hv5 HO5;go_wp2
   go_roundw
   case rel=>exact⟨k+1,by omega,by go_num,by rw[HSN.out];exact HOF.out,HBF.out⟩
   case measure=>simp[intOf];omega
  ·obtain rfl:k=ls.length:=by omega
   rw[List.take_length] at HO;have HO1:=Lib.hid HO;have HBR:=Lib.hid hbr;clear HO hbr;go_wp2
   go_ret
   exact⟨_,rfl,HO1.out,HBR.out⟩
def Auk (w:World) (n:Nat) (x:Value) (wr:World):Prop:=∃i:Nat,i<=n/\x=.int .i64 i/\Below w.heap.size w wr
theorem Aat (w:World) (a a2:Option Addr) (cap cap2:Nat) (L:Dg) (hk:∀k∈L,k.length=32) (hr1:Gn F4 32 w a cap L) (hr2:Gn F4 32 w a2 cap2 L) :
  Calls prog 16 #[.slice a L.length cap,.slice a2 L.length cap2] w fun e w'=>e=.returned (.bool true)/\Below w.heap.size w w':=by
 have hfit1:=hr1.fits;have xp:=hr1.room;have hfit2:=hr2.fits;have xo:=hr2.room;have HR1:=Lib.hid hr1;have HR2:=Lib.hid hr2;have HK:=Lib.hid hk;clear hr1 hr2 hk
 go_enter func16,ntmps16
 go_wp2_with fail
 go_loopw [5] (fun y wr=>Auk w L.length y wr) (fun y _=>L.length - (intOf y).toNat)
 case atStart=>exact⟨0,Nat.zero_le _,rfl,Below.refl _ _⟩
 case round =>
  obtain⟨i,hi,rfl,hbr⟩:=hrel;by_cases hlt:i < L.length
  ·have hne:L≠[]:=fun e=>by rw[e] at hlt;simp at hlt
   obtain⟨b1,o1,rfl,ip⟩:=(HR1.out.below hbr).rows.resolve_left hne;obtain⟨b2,o2,rfl,hrow2⟩:=(HR2.out.below hbr).rows.resolve_left hne;have hkey:=HK.out L[i] (List.getElem_mem hlt);have js:wr.rangeAt b1 (o1+i * 32) (L[i].map U8):=ip i hlt;have hm2:wr.rangeAt b2 (o2+i * 32) (L[i].map U8):=hrow2 i hlt;have vq:(prog.info? 40).map (·.size)=some (L[i].map U8).length:=by rw[List.length_map,hkey];kernel_rfl
   have HNE:=fun w=>Afj L[i] L[i] hkey hkey w;rw[bne_self_eq_false] at HNE;have HBR:=Lib.hid hbr;clear ip hrow2 hkey hbr hne;generalize L[i].map U8=M at *
   go_wp2_with fail
   refine wp_region_quiet_lit (by kernel_rfl) (by kernel_rfl) ?_
   repeat (first
    |(go_big_quiet_want;refine Hq (fun w' e=>(show w'.rangeAt b1 (o1+i * 32) M from by obtain⟨_,rfl⟩:=e;exact js)) underlying40 rfl vq rfl rfl ?_;simp only[Act.put,List.setIfInBounds_toArray,List.set_cons_succ,List.set_cons_zero];go_big_quiet_on)
    |(go_big_quiet_want;refine Hq (fun w' e=>(show w'.rangeAt b2 (o2+i * 32) M from by obtain⟨_,rfl⟩:=e;exact hm2)) underlying40 rfl vq rfl rfl ?_;simp only[Act.put,List.setIfInBounds_toArray,List.set_cons_succ,List.set_cons_zero];go_big_quiet_on)
    | go_big_quiet_step (fail)
    | quiet_step (fail))
   refine wpQuiet_nil ?_;rintro _ ⟨nq,rfl⟩;have HB5:=Lib.hid (below_drewN HBR.out nq);clear HNE js hm2;go_wp2
   go_roundw
   case rel=>exact⟨i+1,by omega,by go_num,HB5.out⟩
   case measure=>simp[intOf];omega
  ·obtain rfl:i=L.length:=by omega
   go_wp2
   go_ret
   exact⟨rfl,hbr⟩
theorem results_cell_tmp {P:Program} {fn:Func} {p q:Tmp} {ty:TypeId} (h:fn.results=#[.cell p ty,.tmp q]) (tmps:Array Value) (w:World) (g:Nat) (t:TypeId) (cs:Array Value) (fr:Nat × Nat) (d:TypeDesc)
  (hp:tmps.getD p undef=.pointer (some ⟨g,0,none⟩)) (hg:w.heap[g]?=some (.cells cs t fr))
  (hu:P.underlying ty=some d) (hd:(match d with | .struct _ | .array _ _=>true|_=>false)=true) (hi:(P.info? ty).map (·.size)=some cs.size) :
  (results fn tmps).run P w=.ok (.tuple #[.agg cs,tmps.getD q undef]) w:=by
 have hp':tmps[p]?.getD undef=.pointer (some ⟨g,0,none⟩):=by simpa using hp
 simp[results,h,hp',asAddr,run_loadVar_row w g t ty cs fr d hg hu hd hi]
def Abv (v:Value):Prop:=∃(k:List (BitVec 8)) (b:Bool),k.length=32/\v=.tuple #[.agg (k.map U8).toArray,.bool b]
theorem Aks (a:Option Addr) (cap:Nat) (ls:Dg) (m:Nat) (id:List (BitVec 8)) (w:World) (hr:La w a cap ls) (h0:0 < ls.length) (hn:ls.length<=100) (hl:∀r∈ls,r.length<=1000000) (h1:1<=m) (h16:m<=16) (hid:id.length=32) :
  Calls prog 13 #[.slice a ls.length cap,.int .i64 m,.agg (id.map U8).toArray] w fun e w'=>∃v,e=.returned v/\Abv v:=by
 obtain⟨z,hz0,hz⟩:=Vi;have hzl:z.length=32:=by rw[hz0];rfl
 clear hz0;obtain⟨E1,hE1⟩:∃E,(id.map U8).toArray=E:=⟨_,rfl⟩;obtain⟨Z1,hZ1⟩:∃E,(z.map U8).toArray=E:=⟨_,rfl⟩;rw[hZ1] at hz;rw[hE1];have hb1:Below w.heap.size w (w.alloc (.cells E1 40)):=(Below.refl _ _).alloc (Nat.le_refl _) _;have q1:(w.alloc (.cells E1 40)).heap[w.heap.size]?=some (.cells E1 40 (0,0)):=heap_alloc_new w _;have hs1:(w.alloc (.cells E1 40)).heap.size=w.heap.size+1:=by simp
 have p2:((w.alloc (.cells E1 40)).alloc (.cells Z1 40)).heap[w.heap.size+1]?=some (.cells Z1 40 (0,0)):=by rw[<- hs1];exact heap_alloc_new _ _
 have hb2:Below (w.heap.size+1) (w.alloc (.cells E1 40)) ((w.alloc (.cells E1 40)).alloc (.cells Z1 40)):=(Below.refl _ _).alloc (by omega) _;have p1:=(hb2.block w.heap.size (by omega)).trans q1;have hb:=hb1.trans (hb2.mono (by omega));have hT:=hr.keeps (Bm.below hb);have hif:=Abi id hid;have hof:=Abj id;have ky:Z1.size=E1.size:=by rw[<- hE1,<- hZ1];simp[hzl,hid]
 have wm:∀b:Bool,Abv (.tuple #[.agg E1,.bool b]):=fun b=>⟨id,b,hid,by rw[hE1]⟩;rw[hE1] at hif hof;have HT:=Lib.hid hT;clear hT hb hb1 hb2 q1 hs1 hr hE1 hZ1 hzl;by_cases h3:((m:Int) % 3==0)=true
 ·go_enter func13,ntmps13
  go_wp2_with (first
   |(with_reducible refine Ah5 40 ?_;go_must (refine wpList_load_row rfl 40 _ rfl w.heap.size rfl _ E1 _ _ p1 underlying40 rfl hif ?_))
   |(with_reducible refine Aeo 40 ?_;go_must (refine wpList_store_row rfl 40 _ _ rfl (w.heap.size+1) E1 rfl rfl _ Z1 p2 hif ky hof ?_)))
  refine bodyPost_ret (results_cell_tmp rfl _ _ (w.heap.size+1) _ E1 _ _ rfl (setRow_heap _ (w.heap.size+1) _ _ 40 _ p2) underlying40 rfl hif) rfl ?_;exact⟨_,rfl,wm _⟩
 ·have hlen:(ls.map Sha.sum).length=ls.length:=List.length_map _;have hkey:∀y∈ls.map Sha.sum,y.length=32:=fun y hy=>by obtain⟨r,_,rfl⟩:=List.mem_map.1 hy;exact Cg r
  have RS:=Ac6 a cap ls ((w.alloc (.cells E1 40)).alloc (.cells Z1 40)).drew (HT.out.keeps (Bm.drewN _ 1)) (by omega) hl;obtain⟨k,hk⟩:∃k:Nat,(m:Int) % (ls.length:Int)=k:=⟨((m:Int) % (ls.length:Int)).toNat,by rw[Int.toNat_of_nonneg (Int.emod_nonneg _ (by omega))]⟩;have hk1:(0:Int)<=k/\(k:Int) < ls.length:=⟨by omega,by rw[<- hk];exact Int.emod_lt_of_pos _ (by omega)⟩;have hlz:(ls.length:Int)≠0:=by omega
  generalize ls.map Sha.sum=S at *
  go_enter func13,ntmps13
  go_wp2_with fail
  refine B7 [([0,2,3,4,5],some 1),([6],some 7),([],some 8),([9],none)] (fun _=>True) (by kernel_rfl) (by kernel_rfl) (fun _ _ d _ _ h=>by cases d<;>exact h) trivial ?_;refine Bb (show wpQuiet _ _ _ _ (_::_::_::_::_::[]) _ from ?_)
  repeat (go_big_quiet_step (fail))
  refine wpQuiet_nil (show wpList _ _ _ (_::[]) _ _ from ?_);have p3:((w.alloc (.cells E1 40)).alloc (.cells Z1 40)).drew.heap[w.heap.size+1]?=some (.cells Z1 40 (0,0)):=p2;clear p1 p2 HT;generalize ((w.alloc (.cells E1 40)).alloc (.cells Z1 40)).drew=w3 at *
  go_wp2_with fail
  refine RS.mono ?_;rintro e w4 ⟨v,rfl,ho,hb4⟩;obtain⟨va,vc,rfl,hvr,_⟩:=ho.form;have p4:=(hb4.block _ (Dk p3)).trans p3;have hk2:(k:Int) < (S.length:Int):=by omega
  obtain⟨b,o,rfl,hrow⟩:=hvr.rows.resolve_left (fun e=>by rw[e] at hlen;simp at hlen;omega);have hm:w4.rangeAt b (o+k * 32) (S[k].map U8):=hrow k (by omega);have hkl:=hkey S[k] (List.getElem_mem (by omega));have vq:(prog.info? 40).map (·.size)=some (S[k].map U8).length:=by rw[List.length_map,hkl];kernel_rfl
  have hvM:(prog.info? 40).map (·.size)=some (S[k].map U8).toArray.size:=by rw[List.size_toArray];exact vq
  have hoM:(S[k].map U8).toArray.all (·.oneCell')=true:=Abj S[k];have hzM:Z1.size=(S[k].map U8).toArray.size:=by rw[ky];rw[hif] at hvM;exact Option.some.inj hvM
  have hfin:∀b:Bool,Abv (.tuple #[.agg (S[k].map U8).toArray,.bool b]):=fun b=>⟨S[k],b,hkl,rfl⟩;clear RS ho hvr hrow hkl hkey hb4 p3 wm hif hof ky hz;generalize S[k].map U8=M at *;generalize S.length=sl at *
  go_wp2_with fail
  refine Ap (fun _ h=>h) trivial ?_;refine Bb (show wpQuiet _ _ _ _ (_::[]) _ from ?_)
  repeat (go_big_quiet_step (fail))
  refine wpQuiet_nil (show wpList _ _ _ (_::[]) _ _ from ?_)
  go_wp2_with (with_reducible refine Ah5 40 ?_;go_must (refine wpList_load_mid rfl 40 _ rfl b (o+k * 32) rfl M _ hm underlying40 rfl vq ?_))
  refine Ap (fun _ h=>h) trivial ?_;refine Bb (show wpQuiet _ _ _ _ [] _ from ?_);refine wpQuiet_nil (show wpList _ _ _ (_::[]) _ _ from ?_)
  go_wp2_with (with_reducible refine Aeo 40 ?_;go_must (refine wpList_store_row rfl 40 _ _ rfl (w.heap.size+1) M.toArray rfl rfl _ Z1 p4 hvM hzM hoM ?_))
  refine Ap (fun _ h=>h) trivial ?_;refine Dy (show wpQuiet _ _ _ _ (_::[]) _ from ?_)
  repeat (go_big_quiet_step (fail))
  refine wpQuiet_nil (Ez ?_);go_wp2;refine bodyPost_ret (results_cell_tmp rfl _ _ (w.heap.size+1) _ M.toArray _ _ rfl (setRow_heap _ (w.heap.size+1) _ _ 40 _ p4) underlying40 rfl hvM) rfl ?_;exact⟨_,rfl,hfin _⟩
end Go.Proofs.YtbicafgmfgdckaaGreatDoor
