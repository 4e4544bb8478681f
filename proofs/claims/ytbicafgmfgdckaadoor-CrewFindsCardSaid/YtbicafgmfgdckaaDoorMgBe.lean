/- sha.Sum, in company. -/
import Derived.Test.YtbicafgmfgdckaaDoorMgAy
import Derived.Test.YtbicafgmfgdckaaDoorMgBd
namespace Go.Proofs.YtbicafgmfgdckaaDoor
open Go Go.RowKit Go.Conc
def shaFs:List Nat:=[21,32,33,34,61,62,63,64,65,78,79,80,81,88,89]
def gK:Nat->Bool:=fun g=>g==0
theorem okSha:∀f,shaFs.contains f=true->okBody Tryd.prog gK shaFs f=true:=by
 have h:shaFs.all (fun f=>okBody Tryd.prog gK shaFs f)=true:=by kernel_rfl
 intro f hf
 exact List.all_eq_true.1 h f (by simpa using hf)
section
variable {F S:Nat->Prop} {W:World} {c:Frame} {rest:List Frame} {a:Option Addr} {cap:Nat} {l:List (BitVec 8)} {main:Bool} {ρ:Ren}
theorem vr_int {k:IntKind} {n:Int} {v':Value} (h:VR ρ (.int k n) v'):v'=.int k n:=by cases h;rfl
theorem vr_bytes {v':Value} (h:VR ρ (.agg (l.map U8).toArray) v'):v'=.agg (l.map U8).toArray:=by
 cases h with
 | @agg cs cs' hs h =>
  congr 1
  refine Array.ext (by rw[<- hs]) fun i h1 h2=>?_
  have:=h i h2 h1
  simp only[List.getElem_toArray,List.getElem_map] at this ⊢
  exact vr_int this
theorem lone_keeps_int {a:Addr} {k:IntKind} {n:Int} (T:Nat->Prop) (Tp:Tape) (d:Nat) (h:W.cell? a=some (.int k n)):(re (loneW (diag T) F W) Tp d).cell? a=some (.int k n) :=
 lone_cell (ρ:=diag T) (F:=F) h (.int k n)
theorem way_sha (hF:∀b,F b->b < W.heap.size) (hg:Tryd.prog.globals.size<=W.heap.size) (hk:KTab W) (hkF:F 0) (hr:Reads W a cap l) (hl:l.length<=1048576) (ha:∀ad,a=some ad->F ad.block/\∃cs t fr,W.heap[ad.block]?=some (.cells cs t fr)) :
  Way Tryd.prog main F (fun _ g _=>g=Conc.G (c.finish (.agg ((Sha.sum l).map U8).toArray)) rest) S (Conc.G (Frame.enter Tryd.prog 21 #[.slice a l.length cap] .normal) (c::rest)) W:=by
 let T:Nat->Prop:=fun b=>b=0\/∃ad,a=some ad/\b=ad.block
 have hTF:∀b,T b->F b:=by
  rintro b (rfl|⟨ad,e,rfl⟩)
  ·exact hkF
  ·exact(ha ad e).1
 have hT:∀b,T b->∃cs t fr,W.heap[b]?=some (.cells cs t fr)/\(¬F b->fr=(0,0)):=by
  intro b hb
  have hn:¬F b->∀fr:Nat × Nat,fr=(0,0):=fun q=>absurd (hTF b hb) q
  rcases hb with rfl|⟨ad,e,rfl⟩
  ·have h0:=hk 0 (by decide)
   unfold World.cell? at h0
   cases hb:W.heap[0]? with
   | none=>simp[hb] at h0
   | some o =>
    cases o with
    | cells cs t fr=>exact⟨cs,t,fr,rfl,fun q=>hn q _⟩
    | _=>simp[hb] at h0
  ·obtain⟨_,cs,t,fr,h⟩:=ha ad e
   exact⟨cs,t,fr,h,fun q=>hn q _⟩
 have hw:=wr_lone (T:=T) (gs:=Tryd.prog.globals.size) hF hg hT
 have h1:=way_call (P:=Tryd.prog) (G:=gK) (fs:=shaFs) (F:=F) (S:=S) (ρ:=diag T) (main:=main) (c:=c) (rest:=rest) (R:=fun v _=>v=.agg ((Sha.sum l).map U8).toArray) okSha (f:=21) (by decide) (args:=#[.slice a l.length cap]) (args':=#[.slice a l.length cap]) hw
  ⟨rfl,fun i h1 h2=>by
   have:i=0:=by simp at h1;exact h1
   subst this
   show VR _ (Value.slice a l.length cap) (Value.slice a l.length cap)
   cases a with
   | none=>exact .snil _ _
   | some ad=>exact .slice _ _ ⟨⟨rfl,.inr ⟨ad,rfl,rfl⟩⟩,rfl,rfl⟩⟩
  (fun g hgk=>by
   have e:g=0:=by simpa [gK] using hgk
   subst e
   exact⟨rfl,.inl rfl⟩)
  (fun a b h=>.inr (by obtain⟨rfl,h⟩:=h;exact hTF _ h))
  (fun Tp d=>by
   have hk2:KTab (re (loneW (diag T) F W) Tp d):=fun i hi=>lone_keeps_int T Tp d (hk i hi)
   have hr2:Reads (re (loneW (diag T) F W) Tp d) a cap l:=⟨hr.fits,hr.room,hr.null,hr.bytes.imp id fun⟨b,off,e,h⟩=>⟨b,off,e,fun i hi=>lone_keeps_int T Tp d (h i hi)⟩⟩
   refine(ssum_any a cap l _ hr2 hl hk2 fun _ ad e=>?_).mono fun e w' h=>⟨_,h.1,rfl⟩
   show ad.block < (loneW (diag T) F W).heap.size
   rw[lone_size]
   exact hF _ (ha ad e).1)
 refine Way.bind h1 fun S2 g W2 hE=>.stop ?_
 obtain⟨v,v',ρ1,w1,rfl,hv,⟨_,_,rfl⟩,_⟩:=hE
 rw[vr_bytes hv]
end
end Go.Proofs.YtbicafgmfgdckaaDoor
