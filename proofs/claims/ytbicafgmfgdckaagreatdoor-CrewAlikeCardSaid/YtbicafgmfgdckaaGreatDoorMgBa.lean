/- A piece. -/
import Derived.Test.YtbicafgmfgdckaaGreatDoorMgAa
import Derived.ProofKit
import Derived.OpenShut
import Derived.ShutString
import Derived.Deep.Fields
set_option maxRecDepth 100000
set_option maxHeartbeats 16000000
set_option linter.all false
namespace Go.Proofs.YtbicafgmfgdckaaGreatDoor
open Go.Proofs.Tryz
open Go Go.RowKit
def Ap1 (k:IntKind) (w:World) (a:Option Addr) (len cap:Nat) (zs:List Int):Prop :=
 (a=none/\len=0/\cap=0/\zs=[]) \/
 ∃x,a=some x/\len<=cap/\cap<=maxLen/\zs.length=cap/\(∀i,i < zs.length->w.cell? (x.add i)=some (.int k (zs.getD i 0)))/\∀n∈zs,(Lit.int k n).wf=true
theorem Sl {w:World} {x:Addr} {v:Value} (h:w.cell? x=some v):x=⟨x.block,x.off,none⟩:=by
 cases x with
 | mk b o s =>
  cases s with
  | none=>rfl
  | some n =>
   unfold World.cell? at h;simp only at h;split at h<;>simp at h
theorem Ap1.reads {w:World} {a:Option Addr} {len cap:Nat} {zs:List Int} (h:Ap1 .u8 w a len cap zs):∃l:List (BitVec 8),len=l.length/\A0 w a cap l:=by
 rcases h with⟨rfl,rfl,rfl,rfl⟩|⟨x,rfl,hl,hm,hz,hc,hw⟩
 ·exact⟨[],rfl,Hz w⟩
 ·refine⟨(zs.take len).map (BitVec.ofInt 8),by rw[List.length_map,List.length_take];omega,by rw[List.length_map,List.length_take];omega,by unfold maxLen at hm;omega,(by intro e;cases e),?_⟩;by_cases h0:len=0
  ·left;subst h0;rfl
  ·right;have hx:=Sl (hc 0 (by omega));have e0:x.add 0=x:=by simp[Addr.add]
   rw[e0] at hx;refine⟨x.block,x.off,by rw[<- hx],fun i hi=>?_⟩;rw[List.length_map,List.length_take] at hi;have hi2:i < zs.length:=by omega
   have hb:=bounds_u8 (hw (zs.getD i 0) (by rw[List.getD_eq_getElem?_getD,List.getElem?_eq_getElem hi2];exact List.getElem_mem hi2));have hci:=hc i hi2;rw[hx,Addr.add_lit] at hci;rw[hci,As1 _ hb.1 (by omega)]
   congr 2
   simp[Ad,List.getD_eq_getElem?_getD,show i < len by omega,List.getElem?_eq_getElem hi2]
theorem Anf {n:Int} (h:(Lit.int .u32 n).wf=true):∃b:BitVec 32,Value.int .u32 n=Af b:=⟨_,Al9 n (bounds_u32 h).1 (by have:=(bounds_u32 h).2;omega)⟩
theorem Aq7 {n:Int} (h:(Lit.int .u8 n).wf=true):∃b:BitVec 8,Value.int .u8 n=U8 b:=⟨_,As1 n (bounds_u8 h).1 (by have:=(bounds_u8 h).2;omega)⟩
open Go.ChangeShapes Go.WideShapes Go.Deep
section
variable {H:Type} {enc:TypeId × Value->H} {P:Program} {w:World} {base:Nat} {spare:Nat->Bool} {held:Bool}
theorem Ag2 {r:Go.Reach} {b0:Nat} {t:TypeId} {fs:Array Field} {v:Value} {d:DataW H} {p:List MemPlace} (hs:P.underlying t=some (.struct fs)) (hone:oneCellFields P fs=true)
  (hv:Value.okWide P w r b0 t v) (h:DataW.Trod enc P w base spare held t v d p) :
  ∃cs:Array Value,v=.agg cs/\cs.size=P.cellsOf t/\∀(i:Nat) (f:Field),fs[i]?=some f->i < cs.size->∃n y,DataW.trod enc P w base spare held n f.type [cs.getD i undef]=some y:=by
 obtain⟨cs,rfl,hc⟩:=okWide_struct hs hv;refine⟨cs,rfl,hc,fun i f hf hi=>?_⟩;obtain⟨fuel,hfu⟩:=h;obtain⟨xs,n,_,_,_,hl,hx⟩:=DataW.trod_struct hs hfu;obtain⟨ho,hk⟩:=hone_of hone i f hf;have hfi:i < fs.size:=(Array.getElem?_eq_some_iff.1 hf).1;have h1:=hx i f hf;rw[ho,hk] at h1;have e:(((Value.agg cs).cells.toList).drop i).take 1=[cs.getD i undef]:=by
  show (cs.toList.drop i).take 1=_;rw[List.drop_eq_getElem_cons (by simpa using hi)];simp[Array.getD_eq_getD_getElem?,hi]
 rw[e,List.getElem?_eq_getElem (by omega)] at h1;exact⟨n,_,h1⟩
end
section
variable {H:Type} {enc:TypeId × Value->H} {w:World} {base:Nat} {spare:Nat->Bool} {held:Bool}
theorem Apk {n:Nat} {v:Value} {y:DataW H × List MemPlace} (h:DataW.trod enc prog w base spare held n 5 [v]=some y):∃b:BitVec 8,v=U8 b:=by
 obtain⟨m,e,_,hw⟩:=DataW.trod_int underlying5 h;injection e with e;obtain⟨b,hb⟩:=Aq7 hw;exact⟨b,by rw[e,hb]⟩
theorem M7:∀l:List Value,(∀v∈l,∃b:BitVec 8,v=U8 b)->∃k:List (BitVec 8),k.length=l.length/\l=k.map U8
 | [],_=>⟨[],rfl,rfl⟩
 | v::l,h=>by
  obtain⟨b,hb⟩:=h v (by simp);obtain⟨k,h1,h2⟩:=M7 l fun x hx=>h x (by simp[hx]);exact⟨b::k,by simp[h1],by rw[hb,h2];rfl⟩
theorem Aug {r:Go.Reach} {b0:Nat} {v:Value} {d:DataW H} {p:List MemPlace} (hv:Value.okWide prog w r b0 40 v) (h:DataW.Trod enc prog w base spare held 40 v d p) :
  ∃k:List (BitVec 8),v=.agg (k.map U8).toArray/\k.length=32:=by
 have hu:prog.underlying 40=some (.array 32 5):=by kernel_rfl
 have hcell:prog.cellsOf 5=1:=by kernel_rfl
 have hcells:prog.cellsOf 40=32:=by kernel_rfl
 obtain⟨cs,rfl,hc⟩:∃xs:Array Value,v=.agg xs/\xs.size=32:=by
  simp only[Value.okWide,hu] at hv;obtain⟨cs,h1,h2,_⟩:=hv;exact⟨cs,h1,by rw[h2,hcells]⟩
 obtain⟨fuel,hf⟩:=h;obtain⟨xs,m,_,_,_,hl,hx⟩:=DataW.trod_array hu hf;obtain⟨k,hk,he⟩:=M7 cs.toList fun v hv=>by
  obtain⟨i,hi,e⟩:=List.getElem_of_mem hv;have hi2:i < 32:=by rw[Array.length_toList] at hi;omega
  have h1:=hx i hi2;rw[hcell,Nat.mul_one] at h1;have e2:(((Value.agg cs).cells.toList).drop i).take 1=[v]:=by
   show (cs.toList.drop i).take 1=_;rw[List.drop_eq_getElem_cons hi,e];simp
  rw[e2,List.getElem?_eq_getElem (by omega)] at h1;exact Apk h1
 refine⟨k,?_,by rw[hk,Array.length_toList,hc]⟩;rw[<- he]
end
end Go.Proofs.YtbicafgmfgdckaaGreatDoor
