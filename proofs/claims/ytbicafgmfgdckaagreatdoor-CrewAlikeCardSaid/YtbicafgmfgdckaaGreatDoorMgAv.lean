/- A piece. -/
import Derived.Test.YtbicafgmfgdckaaGreatDoorMgAn
import Derived.Test.YtbicafgmfgdckaaGreatDoorMgAc
set_option maxRecDepth 100000
set_option maxHeartbeats 16000000
set_option linter.all false
namespace Go.Proofs.YtbicafgmfgdckaaGreatDoor
open Go.Proofs.Tryz
open Go Go.RowKit Go.Conc
def Zf:List Nat:=[25,42,43,44,77,78,79,80,81,99,100,101,102,112,111]
def gK:Nat->Bool:=fun g=>g==0
theorem Au1:∀f,Zf.contains f=true->Cj prog gK Zf f=true:=by
 have h:Zf.all (fun f=>Cj prog gK Zf f)=true:=by kernel_rfl
 intro f hf;exact List.all_eq_true.1 h f (by simpa using hf)
section
variable {F S:Nat->Prop} {W:World} {c:Frame} {rest:List Frame} {a:Option Addr} {cap:Nat} {l:List (BitVec 8)} {main:Bool} {ρ:Bn}
theorem Oh {k:IntKind} {n:Int} {v':Value} (h:VR ρ (.int k n) v'):v'=.int k n:=by cases h;rfl
theorem Ab8 {v':Value} (h:VR ρ (.agg (l.map U8).toArray) v'):v'=.agg (l.map U8).toArray:=by
 cases h with
 | @agg cs cs' hs h =>
  congr 1
  refine Array.ext (by rw[<- hs]) fun i h1 h2=>?_;have:=h i h2 h1;simp only[List.getElem_toArray,List.getElem_map] at this ⊢;exact Oh this
theorem Ck {a:Addr} {k:IntKind} {n:Int} (T:Nat->Prop) (Tp:Tape) (d:Nat) (h:W.cell? a=some (.int k n)):(re (Eb (Cw T) F W) Tp d).cell? a=some (.int k n) :=
 Nq (ρ:=Cw T) (F:=F) h (.int k n)
theorem Ahb (hF:∀b,F b->b < W.heap.size) (hg:prog.globals.size<=W.heap.size) (hk:C2 W) (hkF:F 0) (hr:A0 W a cap l) (hl:l.length<=1048576) (ha:∀ad,a=some ad->F ad.block/\∃cs t fr,W.heap[ad.block]?=some (.cells cs t fr)) :
  Way prog main F (fun _ g _=>g=Conc.G (c.finish (.agg ((Sha.sum l).map U8).toArray)) rest) S (Conc.G (Frame.enter prog 25 #[.slice a l.length cap] .normal) (c::rest)) W:=by
 let T:Nat->Prop:=fun b=>b=0\/∃ad,a=some ad/\b=ad.block
 have hTF:∀b,T b->F b:=by
  rintro b (rfl|⟨ad,e,rfl⟩)
  ·exact hkF
  ·exact(ha ad e).1
 have hT:∀b,T b->∃cs t fr,W.heap[b]?=some (.cells cs t fr)/\(¬F b->fr=(0,0)):=by
  intro b hb;have hn:¬F b->∀fr:Nat × Nat,fr=(0,0):=fun q=>absurd (hTF b hb) q;rcases hb with rfl|⟨ad,e,rfl⟩
  ·have h0:=hk 0 (by decide);unfold World.cell? at h0;cases hb:W.heap[0]? with
   | none=>simp[hb] at h0
   | some o =>
    cases o with
    | cells cs t fr=>exact⟨cs,t,fr,rfl,fun q=>hn q _⟩
    | _=>simp[hb] at h0
  ·obtain⟨_,cs,t,fr,h⟩:=ha ad e;exact⟨cs,t,fr,h,fun q=>hn q _⟩
 have hw:=Aad (T:=T) (gs:=prog.globals.size) hF hg hT;have h1:=Alp (P:=prog) (G:=gK) (fs:=Zf) (F:=F) (S:=S) (ρ:=Cw T) (main:=main) (c:=c) (rest:=rest) (R:=fun v _=>v=.agg ((Sha.sum l).map U8).toArray) Au1 (f:=25) (by decide) (args:=#[.slice a l.length cap]) (args':=#[.slice a l.length cap]) hw
  ⟨rfl,fun i h1 h2=>by
   have:i=0:=by simp at h1;exact h1
   subst this;show VR _ (Value.slice a l.length cap) (Value.slice a l.length cap);cases a with
   | none=>exact .snil _ _
   | some ad=>exact .slice _ _ ⟨⟨rfl,.inr ⟨ad,rfl,rfl⟩⟩,rfl,rfl⟩⟩
  (fun g hgk=>by
   have e:g=0:=by simpa [gK] using hgk
   subst e;exact⟨rfl,.inl rfl⟩)
  (fun a b h=>.inr (by obtain⟨rfl,h⟩:=h;exact hTF _ h))
  (fun Tp d=>by
   have hk2:C2 (re (Eb (Cw T) F W) Tp d):=fun i hi=>Ck T Tp d (hk i hi);have hr2:A0 (re (Eb (Cw T) F W) Tp d) a cap l:=⟨hr.fits,hr.room,hr.null,hr.bytes.imp id fun⟨b,off,e,h⟩=>⟨b,off,e,fun i hi=>Ck T Tp d (h i hi)⟩⟩;refine(Ack a cap l _ hr2 hl hk2 fun _ ad e=>?_).mono fun e w' h=>⟨_,h.1,rfl⟩;show ad.block < (Eb (Cw T) F W).heap.size;rw[H8];exact hF _ (ha ad e).1)
 refine Way.bind h1 fun S2 g W2 hE=>.stop ?_;obtain⟨v,v',ρ1,w1,rfl,hv,⟨_,_,rfl⟩,_⟩:=hE;rw[Ab8 hv]
end
end Go.Proofs.YtbicafgmfgdckaaGreatDoor
