/- A piece. -/
import Derived.Test.YtbicafgmfgdckaaGreatDoorMgAq
import Derived.Conc.CompanyDraw
set_option maxRecDepth 100000
set_option maxHeartbeats 16000000
set_option linter.all false
namespace Go.Proofs.YtbicafgmfgdckaaGreatDoor
open Go.Proofs.Tryz
open Go Go.RowKit Go.Conc Go.Conc.Lib Go.ConcR.Gen
open Go.ConcR (KK wgBlock WgAt stA smA rd wr mk DC0)
open Go.ConcN (sumTo upd upd_same upd_ne RelBy PermW WgLive)
section
variable {top:Nat} {I I' I2:Ab} {p:Ph} {w w' w2:World} {i j k n m y:Nat} {f:Nat->ML} {a b:ML} {Post:Value->World->Prop} {es:Array Event} {g g':Goroutine} {c:Frame} {cs:List Frame}
theorem Aow {x:MW} (h:Ec i p I w I2 w2) (hm:m < 2) (hn:I.sk.V p m<=n/\((I.sk.mw m).code=x.code\/I.sk.V p m < n)):I2.sk.V p m<=n/\((I2.sk.mw m).code=x.code\/I2.sk.V p m < n):=by
 obtain⟨Jb,Jc⟩:=h.v m hm;refine⟨by omega,?_⟩;rcases hn.2 with q|q
 ·rcases Jc with r|r
  ·exact .inl (r.trans q)
  ·exact .inr (by omega)
 ·exact .inr (by omega)
def L9 (top:Nat) (Post:Value->World->Prop) (p:Ph) (i y m:Nat) (f:Nat->ML) (c:Frame) (cs:List Frame) (R:Nat):Prop:=∀I w (x:MW) (sv aw:Bool) (a:ML) (wst:Int) (it n:Nat) (Jh Ji:Value),x.w<=32->Awk aw a->(sv=true->aw=true)->(aw=true->x.K=true/\x.S=false)->it<=4->I.sk.V p m<=n/\((I.sk.mw m).code=x.code\/I.sk.V p m < n)->8 * n+(5 - it)<=R->In p i y 1 (upd f m a) I->(∀I' w',In p i y 0 (upd f m (.own 1)) I'->Dp i p I I'->LT top Post i I' w' (G (c.finish (.tuple #[])) cs))->Lk top Post i I w p m c cs (.int .i64 wst) (.bool sv) (.bool aw) (.int .i64 (it:Nat)) (.int .i32 (x.code:Nat)) Jh Ji [.code C8,.inLoop C8,.inBlock 0,.code F3]
theorem Aol (hm:m < 2) (h2:∀k,k < 2->k≠m->f k=.off\/f k=.fresh) {R:Nat} (ih:∀R' < R,L9 top Post p i y m f c cs R') (K:Bool) (xw xq:Nat) (hw:xw<=32) (wst:Int) (it:Nat) (Jh Ji:Value) (hit:it<=4) (hn:I.sk.V p m<=n/\((I.sk.mw m).code=MW.code ⟨false,K,false,xw,xq⟩\/I.sk.V p m < n)) (hR:8 * n+(5 - it)<=R) (h:In p i y 1 (upd f m .fresh) I)
  (KD:∀I' w',In p i y 0 (upd f m (.own 1)) I'->Dp i p I I'->LT top Post i I' w' (G (c.finish (.tuple #[])) cs)) :
  Lk top Post i I w p m c cs (.int .i64 wst) (.bool false) (.bool false) (.int .i64 (it:Nat)) (.int .i32 ((MW.code ⟨false,K,false,xw,xq⟩):Nat)) Jh Ji [.code Eo,.inBlock 1,.inLoop C8,.inBlock 0,.code F3]:=by
 have hao:.fresh≠ML.own 1/\(ML.own 0)≠ML.own 1:=by simp
 have bw:.fresh≠ML.own 2:=by simp
 have bn:Awk false .fresh:=.inl ⟨rfl,rfl⟩;have hs:∀x:MW,x.code=MW.code ⟨false,K,false,xw,xq⟩->∃x',B1 .fresh x (ML.own 0) x'/\x'.code=MW.code ⟨true,K,false,xw,xq⟩/\x'.q=x.q:=fun x hx=>by
  obtain⟨e1,e2,e3,e4⟩:=MW.code_inj hx;dsimp only at e1 e2 e3 e4;exact⟨_,B1.lock0 e1 e3,by simp only[MW.code,e2,e3,e4],rfl⟩
 have hne:MW.code ⟨false,K,false,xw,xq⟩≠MW.code ⟨true,K,false,xw,xq⟩:=fun q=>by have:=MW.code_inj q;simp at this
 have km:∀I' w',In p i y 1 (upd f m .fresh) I'->Dp i p I I'->I'.sk.V p m < n->Fe p.b p.W (I'.sk.ml m) (I'.sk.mw m)->p.W<=16->∀Jh Ji:Value,Lk top Post i I' w' p m c cs (.int .i64 wst) (.bool false) (.bool false) (.int .i64 (it:Nat)) (.int .i32 (((I'.sk.mw m).code):Nat)) Jh Ji [.code C8,.inLoop C8,.inBlock 0,.code F3]:=fun I3 w3 h3 A3 Jd M3 W3 Jh Ji=>ih (8 * I3.sk.V p m+(5 - it)) (by omega) I3 w3 (I3.sk.mw m) false false .fresh wst it (I3.sk.V p m) Jh Ji (by have:=M3.few;omega) bn (fun q=>q) (fun q=>by cases q) hit ⟨Nat.le_refl _,.inl rfl⟩ (Nat.le_refl _) h3 fun I9 w9 h9 A9=>KD I9 w9 h9 (A3.trans A9);refine Ars h.ng _ (MW.code ⟨true,K,false,xw,xq⟩) (by rw[Ge _ _ _ _ _ (by omega)];rfl) (by rw[Ct _ _ _ _ _ (by omega)];rfl) (Sp _ _ _ _ _ (by omega)) _ _ _ _ fun _=>?_;exact Aba (by rw[Ct _ _ _ _ _ (by omega)];rfl) (Ep hm h2 (fun _=>hao) fun _=>bw) hs hm h2 h hne hn false false wst it _ KD km
theorem Aki (hm:m < 2) (h2:∀k,k < 2->k≠m->f k=.off\/f k=.fresh) {R:Nat} (ih:∀R' < R,L9 top Post p i y m f c cs R') (ha:a=.spun\/a=.tok) (xw xq:Nat) (hw:xw<=32) (wst:Int) (it:Nat) (Jh Ji:Value) (hit:it<=4) (hn:I.sk.V p m<=n/\((I.sk.mw m).code=MW.code ⟨false,true,false,xw,xq⟩\/I.sk.V p m < n)) (hR:8 * n+(5 - it)<=R) (h:In p i y 1 (upd f m a) I)
  (KD:∀I' w',In p i y 0 (upd f m (.own 1)) I'->Dp i p I I'->LT top Post i I' w' (G (c.finish (.tuple #[])) cs)) :
  Lk top Post i I w p m c cs (.int .i64 wst) (.bool false) (.bool true) (.int .i64 (it:Nat)) (.int .i32 ((MW.code ⟨false,true,false,xw,xq⟩):Nat)) Jh Ji [.code Eo,.inBlock 1,.inLoop C8,.inBlock 0,.code F3]:=by
 have hao:a≠ML.own 1/\(ML.own 0)≠ML.own 1:=by rcases ha with rfl|rfl<;>simp
 have bw:a≠ML.own 2:=by rcases ha with rfl|rfl<;>simp
 have bn:Awk true a:=.inr ⟨rfl,ha⟩;have hs:∀x:MW,x.code=MW.code ⟨false,true,false,xw,xq⟩->∃x',B1 a x (ML.own 0) x'/\x'.code=MW.code ⟨true,false,false,xw,xq⟩/\x'.q=x.q:=fun x hx=>by
  obtain⟨e1,e2,e3,e4⟩:=MW.code_inj hx;dsimp only at e1 e2 e3 e4;exact⟨_,B1.lock ha e1 e3,by simp only[MW.code,e3,e4],rfl⟩
 have hne:MW.code ⟨false,true,false,xw,xq⟩≠MW.code ⟨true,false,false,xw,xq⟩:=fun q=>by have:=MW.code_inj q;simp at this
 have km:∀I' w',In p i y 1 (upd f m a) I'->Dp i p I I'->I'.sk.V p m < n->Fe p.b p.W (I'.sk.ml m) (I'.sk.mw m)->p.W<=16->∀Jh Ji:Value,Lk top Post i I' w' p m c cs (.int .i64 wst) (.bool false) (.bool true) (.int .i64 (it:Nat)) (.int .i32 (((I'.sk.mw m).code):Nat)) Jh Ji [.code C8,.inLoop C8,.inBlock 0,.code F3]:=fun I3 w3 h3 A3 Jd M3 W3 Jh Ji=>ih (8 * I3.sk.V p m+(5 - it)) (by omega) I3 w3 (I3.sk.mw m) false true a wst it (I3.sk.V p m) Jh Ji (by have:=M3.few;omega) bn (fun q=>by cases q) (fun _=>M3.tkn (i:=i) (by rw[h3.own_ hm];exact ha)) hit ⟨Nat.le_refl _,.inl rfl⟩ (Nat.le_refl _) h3 fun I9 w9 h9 A9=>KD I9 w9 h9 (A3.trans A9);refine Aoh h.ng _ (MW.code ⟨true,false,false,xw,xq⟩) (by rw[Ge _ _ _ _ _ (by omega)];rfl) (by rw[Ct _ _ _ _ _ (by omega)];rfl) (Sp _ _ _ _ _ (by omega)) (by rw[Vm _ _ _ _ _ (by omega)];rfl) (by rw[Rg _ _ _ _ _ (by omega)];rfl) (Aa4 _ _ _ _ _ (by omega)) _ _ _ _ fun _=>?_;exact Aba (by rw[Ct _ _ _ _ _ (by omega)];rfl) (Ep hm h2 (fun _=>hao) fun _=>bw) hs hm h2 h hne hn false true wst it _ KD km
theorem Akh (hm:m < 2) (h2:∀k,k < 2->k≠m->f k=.off\/f k=.fresh) {R:Nat} (ih:∀R' < R,L9 top Post p i y m f c cs R') (ha:a=.spun\/a=.tok) (xw xq:Nat) (hw:xw<=32) (wst:Int) (it:Nat) (Jh Ji:Value) (hit:it<=4) (hn:I.sk.V p m<=n/\((I.sk.mw m).code=MW.code ⟨false,true,false,xw,xq⟩\/I.sk.V p m < n)) (hR:8 * n+(5 - it)<=R) (h:In p i y 1 (upd f m a) I)
  (KD:∀I' w',In p i y 0 (upd f m (.own 1)) I'->Dp i p I I'->LT top Post i I' w' (G (c.finish (.tuple #[])) cs)) :
  Lk top Post i I w p m c cs (.int .i64 wst) (.bool true) (.bool true) (.int .i64 (it:Nat)) (.int .i32 ((MW.code ⟨false,true,false,xw,xq⟩):Nat)) Jh Ji [.code Eo,.inBlock 1,.inLoop C8,.inBlock 0,.code F3]:=by
 have hao:a≠ML.own 1/\(ML.own 0)≠ML.own 1:=by rcases ha with rfl|rfl<;>simp
 have bw:a≠ML.own 2:=by rcases ha with rfl|rfl<;>simp
 have bn:Awk true a:=.inr ⟨rfl,ha⟩;have hs:∀x:MW,x.code=MW.code ⟨false,true,false,xw,xq⟩->∃x',B1 a x (ML.own 0) x'/\x'.code=MW.code ⟨true,false,false,xw,xq⟩/\x'.q=x.q:=fun x hx=>by
  obtain⟨e1,e2,e3,e4⟩:=MW.code_inj hx;dsimp only at e1 e2 e3 e4;exact⟨_,B1.lock ha e1 e3,by simp only[MW.code,e3,e4],rfl⟩
 have hne:MW.code ⟨false,true,false,xw,xq⟩≠MW.code ⟨true,false,false,xw,xq⟩:=fun q=>by have:=MW.code_inj q;simp at this
 have km:∀I' w',In p i y 1 (upd f m a) I'->Dp i p I I'->I'.sk.V p m < n->Fe p.b p.W (I'.sk.ml m) (I'.sk.mw m)->p.W<=16->∀Jh Ji:Value,Lk top Post i I' w' p m c cs (.int .i64 wst) (.bool true) (.bool true) (.int .i64 (it:Nat)) (.int .i32 (((I'.sk.mw m).code):Nat)) Jh Ji [.code C8,.inLoop C8,.inBlock 0,.code F3]:=fun I3 w3 h3 A3 Jd M3 W3 Jh Ji=>ih (8 * I3.sk.V p m+(5 - it)) (by omega) I3 w3 (I3.sk.mw m) true true a wst it (I3.sk.V p m) Jh Ji (by have:=M3.few;omega) bn (fun q=>q) (fun _=>M3.tkn (i:=i) (by rw[h3.own_ hm];exact ha)) hit ⟨Nat.le_refl _,.inl rfl⟩ (Nat.le_refl _) h3 fun I9 w9 h9 A9=>KD I9 w9 h9 (A3.trans A9);refine Aog h.ng _ (MW.code ⟨true,false,false,xw,xq⟩) (by rw[Ge _ _ _ _ _ (by omega)];rfl) (by rw[Ct _ _ _ _ _ (by omega)];rfl) (Sp _ _ _ _ _ (by omega)) (by rw[Vm _ _ _ _ _ (by omega)];rfl) (by rw[Rg _ _ _ _ _ (by omega)];rfl) (Aa4 _ _ _ _ _ (by omega)) _ _ _ _ fun _=>?_;exact Aba (by rw[Ct _ _ _ _ _ (by omega)];rfl) (Ep hm h2 (fun _=>hao) fun _=>bw) hs hm h2 h hne hn true true wst it _ KD km
theorem Aok (hm:m < 2) (h2:∀k,k < 2->k≠m->f k=.off\/f k=.fresh) {R:Nat} (ih:∀R' < R,L9 top Post p i y m f c cs R') (K:Bool) (xw xq:Nat) (hw:xw<=32) (wst:Int) (it:Nat) (Jh Ji:Value) (hit:it<=4) (hn:I.sk.V p m<=n/\((I.sk.mw m).code=MW.code ⟨true,K,false,xw,xq⟩\/I.sk.V p m < n)) (hR:8 * n+(5 - it)<=R) (h:In p i y 1 (upd f m .fresh) I)
  (KD:∀I' w',In p i y 0 (upd f m (.own 1)) I'->Dp i p I I'->LT top Post i I' w' (G (c.finish (.tuple #[])) cs)) :
  Lk top Post i I w p m c cs (.int .i64 wst) (.bool false) (.bool false) (.int .i64 (it:Nat)) (.int .i32 ((MW.code ⟨true,K,false,xw,xq⟩):Nat)) Jh Ji [.code Eo,.inBlock 1,.inLoop C8,.inBlock 0,.code F3]:=by
 have hao:.fresh≠ML.own 1/\ML.que≠ML.own 1:=by simp
 have bw:.fresh≠ML.own 2:=by simp
 have bn:Awk false .fresh:=.inl ⟨rfl,rfl⟩;have hs:∀x:MW,x.code=MW.code ⟨true,K,false,xw,xq⟩->∃x',B1 .fresh x ML.que x'/\x'.code=MW.code ⟨true,K,false,xw+1,xq⟩/\x'.q=x.q:=fun x hx=>by
  obtain⟨e1,e2,e3,e4⟩:=MW.code_inj hx;dsimp only at e1 e2 e3 e4;exact⟨_,B1.queue0 (.inl e1),by simp only[MW.code,e1,e2,e3,e4],rfl⟩
 have hne:MW.code ⟨true,K,false,xw,xq⟩≠MW.code ⟨true,K,false,xw+1,xq⟩:=fun q=>by have:=MW.code_inj q;simp at this
 have km:∀I' w',In p i y 1 (upd f m .fresh) I'->Dp i p I I'->I'.sk.V p m < n->Fe p.b p.W (I'.sk.ml m) (I'.sk.mw m)->p.W<=16->∀Jh Ji:Value,Lk top Post i I' w' p m c cs (.int .i64 wst) (.bool false) (.bool false) (.int .i64 (it:Nat)) (.int .i32 (((I'.sk.mw m).code):Nat)) Jh Ji [.code C8,.inLoop C8,.inBlock 0,.code F3]:=fun I3 w3 h3 A3 Jd M3 W3 Jh Ji=>ih (8 * I3.sk.V p m+(5 - it)) (by omega) I3 w3 (I3.sk.mw m) false false .fresh wst it (I3.sk.V p m) Jh Ji (by have:=M3.few;omega) bn (fun q=>q) (fun q=>by cases q) hit ⟨Nat.le_refl _,.inl rfl⟩ (Nat.le_refl _) h3 fun I9 w9 h9 A9=>KD I9 w9 h9 (A3.trans A9);have kh:∀I' w' sv',In p i y 1 (upd f m .tok) I'->Dp i p I I'->Fe p.b p.W (I'.sk.ml m) (I'.sk.mw m)->p.W<=16->I'.sk.V p m < n->∀(wst':Int) (Jh Ji:Value),Lk top Post i I' w' p m c cs (.int .i64 wst') (.bool sv') (.bool true) (.int .i64 (0:Nat)) (.int .i32 (((I'.sk.mw m).code):Nat)) Jh Ji [.code C8,.inLoop C8,.inBlock 0,.code F3]:=fun I3 w3 sv3 h3 A3 M3 W3 Jd wst3 Jh Ji=>ih (8 * I3.sk.V p m+5) (by omega) I3 w3 (I3.sk.mw m) sv3 true .tok wst3 0 (I3.sk.V p m) Jh Ji (by have:=M3.few;omega) (.inr ⟨rfl,.inr rfl⟩) (fun _=>rfl) (fun _=>M3.tkn (i:=i) (.inr (h3.own_ hm))) (by omega) ⟨Nat.le_refl _,.inl rfl⟩ (Nat.le_refl _) h3 fun I9 w9 h9 A9=>KD I9 w9 h9 (A3.trans A9);refine Arr h.ng _ (MW.code ⟨true,K,false,xw+1,xq⟩) (by rw[Ge _ _ _ _ _ (by omega)];rfl) (by rw[Ct _ _ _ _ _ (by omega)];rfl) (Sp _ _ _ _ _ (by omega)) (Rh _ _ _ _ _ (by omega)) _ _ _ _ fun _=>?_;exact Ro (c5:=1) (by rw[Ct _ _ _ _ _ (by omega)];rfl) (by decide) (by decide) (Ep hm h2 (fun _=>hao) fun _=>bw) hs hm h2 h hne hn false false wst it _ KD kh km
theorem Aoj (hm:m < 2) (h2:∀k,k < 2->k≠m->f k=.off\/f k=.fresh) {R:Nat} (ih:∀R' < R,L9 top Post p i y m f c cs R') (ha:a=.spun\/a=.tok) (xw xq:Nat) (hw:xw<=32) (wst:Int) (it:Nat) (Jh Ji:Value) (hit:it<=4) (hn:I.sk.V p m<=n/\((I.sk.mw m).code=MW.code ⟨true,true,false,xw,xq⟩\/I.sk.V p m < n)) (hR:8 * n+(5 - it)<=R) (h:In p i y 1 (upd f m a) I)
  (KD:∀I' w',In p i y 0 (upd f m (.own 1)) I'->Dp i p I I'->LT top Post i I' w' (G (c.finish (.tuple #[])) cs)) :
  Lk top Post i I w p m c cs (.int .i64 wst) (.bool false) (.bool true) (.int .i64 (it:Nat)) (.int .i32 ((MW.code ⟨true,true,false,xw,xq⟩):Nat)) Jh Ji [.code Eo,.inBlock 1,.inLoop C8,.inBlock 0,.code F3]:=by
 have hao:a≠ML.own 1/\ML.que≠ML.own 1:=by rcases ha with rfl|rfl<;>simp
 have bw:a≠ML.own 2:=by rcases ha with rfl|rfl<;>simp
 have bn:Awk true a:=.inr ⟨rfl,ha⟩;have hs:∀x:MW,x.code=MW.code ⟨true,true,false,xw,xq⟩->∃x',B1 a x ML.que x'/\x'.code=MW.code ⟨true,false,false,xw+1,xq⟩/\x'.q=x.q:=fun x hx=>by
  obtain⟨e1,e2,e3,e4⟩:=MW.code_inj hx;dsimp only at e1 e2 e3 e4;exact⟨_,B1.queue false ha e1 e3,by simp only[MW.code,e1,e4],rfl⟩
 have hne:MW.code ⟨true,true,false,xw,xq⟩≠MW.code ⟨true,false,false,xw+1,xq⟩:=fun q=>by have:=MW.code_inj q;simp at this
 have km:∀I' w',In p i y 1 (upd f m a) I'->Dp i p I I'->I'.sk.V p m < n->Fe p.b p.W (I'.sk.ml m) (I'.sk.mw m)->p.W<=16->∀Jh Ji:Value,Lk top Post i I' w' p m c cs (.int .i64 wst) (.bool false) (.bool true) (.int .i64 (it:Nat)) (.int .i32 (((I'.sk.mw m).code):Nat)) Jh Ji [.code C8,.inLoop C8,.inBlock 0,.code F3]:=fun I3 w3 h3 A3 Jd M3 W3 Jh Ji=>ih (8 * I3.sk.V p m+(5 - it)) (by omega) I3 w3 (I3.sk.mw m) false true a wst it (I3.sk.V p m) Jh Ji (by have:=M3.few;omega) bn (fun q=>by cases q) (fun _=>M3.tkn (i:=i) (by rw[h3.own_ hm];exact ha)) hit ⟨Nat.le_refl _,.inl rfl⟩ (Nat.le_refl _) h3 fun I9 w9 h9 A9=>KD I9 w9 h9 (A3.trans A9);have kh:∀I' w' sv',In p i y 1 (upd f m .tok) I'->Dp i p I I'->Fe p.b p.W (I'.sk.ml m) (I'.sk.mw m)->p.W<=16->I'.sk.V p m < n->∀(wst':Int) (Jh Ji:Value),Lk top Post i I' w' p m c cs (.int .i64 wst') (.bool sv') (.bool true) (.int .i64 (0:Nat)) (.int .i32 (((I'.sk.mw m).code):Nat)) Jh Ji [.code C8,.inLoop C8,.inBlock 0,.code F3]:=fun I3 w3 sv3 h3 A3 M3 W3 Jd wst3 Jh Ji=>ih (8 * I3.sk.V p m+5) (by omega) I3 w3 (I3.sk.mw m) sv3 true .tok wst3 0 (I3.sk.V p m) Jh Ji (by have:=M3.few;omega) (.inr ⟨rfl,.inr rfl⟩) (fun _=>rfl) (fun _=>M3.tkn (i:=i) (.inr (h3.own_ hm))) (by omega) ⟨Nat.le_refl _,.inl rfl⟩ (Nat.le_refl _) h3 fun I9 w9 h9 A9=>KD I9 w9 h9 (A3.trans A9);refine Arq h.ng _ (MW.code ⟨true,false,false,xw+1,xq⟩) (by rw[Ge _ _ _ _ _ (by omega)];rfl) (by rw[Ct _ _ _ _ _ (by omega)];rfl) (Sp _ _ _ _ _ (by omega)) (Rh _ _ _ _ _ (by omega)) (by rw[Rg _ _ _ _ _ (by omega)];rfl) (Aa4 _ _ _ _ _ (by omega)) _ _ _ _ fun _=>?_;exact Ro (c5:=1) (by rw[Ct _ _ _ _ _ (by omega)];rfl) (by decide) (by decide) (Ep hm h2 (fun _=>hao) fun _=>bw) hs hm h2 h hne hn false true wst it _ KD kh km
theorem Aoi (hm:m < 2) (h2:∀k,k < 2->k≠m->f k=.off\/f k=.fresh) {R:Nat} (ih:∀R' < R,L9 top Post p i y m f c cs R') (ha:a=.spun\/a=.tok) (xw xq:Nat) (hw:xw<=32) (wst:Int) (it:Nat) (Jh Ji:Value) (hit:it<=4) (hn:I.sk.V p m<=n/\((I.sk.mw m).code=MW.code ⟨true,true,false,xw,xq⟩\/I.sk.V p m < n)) (hR:8 * n+(5 - it)<=R) (h:In p i y 1 (upd f m a) I)
  (KD:∀I' w',In p i y 0 (upd f m (.own 1)) I'->Dp i p I I'->LT top Post i I' w' (G (c.finish (.tuple #[])) cs)) :
  Lk top Post i I w p m c cs (.int .i64 wst) (.bool true) (.bool true) (.int .i64 (it:Nat)) (.int .i32 ((MW.code ⟨true,true,false,xw,xq⟩):Nat)) Jh Ji [.code Eo,.inBlock 1,.inLoop C8,.inBlock 0,.code F3]:=by
 have hao:a≠ML.own 1/\ML.que≠ML.own 1:=by rcases ha with rfl|rfl<;>simp
 have bw:a≠ML.own 2:=by rcases ha with rfl|rfl<;>simp
 have bn:Awk true a:=.inr ⟨rfl,ha⟩;have hs:∀x:MW,x.code=MW.code ⟨true,true,false,xw,xq⟩->∃x',B1 a x ML.que x'/\x'.code=MW.code ⟨true,false,true,xw+1,xq⟩/\x'.q=x.q:=fun x hx=>by
  obtain⟨e1,e2,e3,e4⟩:=MW.code_inj hx;dsimp only at e1 e2 e3 e4;exact⟨_,B1.queue true ha e1 e3,by simp only[MW.code,e1,e4],rfl⟩
 have hne:MW.code ⟨true,true,false,xw,xq⟩≠MW.code ⟨true,false,true,xw+1,xq⟩:=fun q=>by have:=MW.code_inj q;simp at this
 have km:∀I' w',In p i y 1 (upd f m a) I'->Dp i p I I'->I'.sk.V p m < n->Fe p.b p.W (I'.sk.ml m) (I'.sk.mw m)->p.W<=16->∀Jh Ji:Value,Lk top Post i I' w' p m c cs (.int .i64 wst) (.bool true) (.bool true) (.int .i64 (it:Nat)) (.int .i32 (((I'.sk.mw m).code):Nat)) Jh Ji [.code C8,.inLoop C8,.inBlock 0,.code F3]:=fun I3 w3 h3 A3 Jd M3 W3 Jh Ji=>ih (8 * I3.sk.V p m+(5 - it)) (by omega) I3 w3 (I3.sk.mw m) true true a wst it (I3.sk.V p m) Jh Ji (by have:=M3.few;omega) bn (fun q=>q) (fun _=>M3.tkn (i:=i) (by rw[h3.own_ hm];exact ha)) hit ⟨Nat.le_refl _,.inl rfl⟩ (Nat.le_refl _) h3 fun I9 w9 h9 A9=>KD I9 w9 h9 (A3.trans A9);have kh:∀I' w' sv',In p i y 1 (upd f m .tok) I'->Dp i p I I'->Fe p.b p.W (I'.sk.ml m) (I'.sk.mw m)->p.W<=16->I'.sk.V p m < n->∀(wst':Int) (Jh Ji:Value),Lk top Post i I' w' p m c cs (.int .i64 wst') (.bool sv') (.bool true) (.int .i64 (0:Nat)) (.int .i32 (((I'.sk.mw m).code):Nat)) Jh Ji [.code C8,.inLoop C8,.inBlock 0,.code F3]:=fun I3 w3 sv3 h3 A3 M3 W3 Jd wst3 Jh Ji=>ih (8 * I3.sk.V p m+5) (by omega) I3 w3 (I3.sk.mw m) sv3 true .tok wst3 0 (I3.sk.V p m) Jh Ji (by have:=M3.few;omega) (.inr ⟨rfl,.inr rfl⟩) (fun _=>rfl) (fun _=>M3.tkn (i:=i) (.inr (h3.own_ hm))) (by omega) ⟨Nat.le_refl _,.inl rfl⟩ (Nat.le_refl _) h3 fun I9 w9 h9 A9=>KD I9 w9 h9 (A3.trans A9);refine Arp h.ng _ (MW.code ⟨true,false,true,xw+1,xq⟩) (by rw[Ge _ _ _ _ _ (by omega)];rfl) (by rw[Ct _ _ _ _ _ (by omega)];rfl) (Sp _ _ _ _ _ (by omega)) (Rh _ _ _ _ _ (by omega)) (by rw[Vm _ _ _ _ _ (by omega)];rfl) (Atx _ _ _ _ _ (by omega)) (by rw[Rg _ _ _ _ _ (by omega)];rfl) (Aa4 _ _ _ _ _ (by omega)) _ _ _ _ fun _=>?_;exact Ro (c5:=1) (by rw[Ct _ _ _ _ _ (by omega)];rfl) (by decide) (by decide) (Ep hm h2 (fun _=>hao) fun _=>bw) hs hm h2 h hne hn true true wst it _ KD kh km
theorem Akg (hm:m < 2) (h2:∀k,k < 2->k≠m->f k=.off\/f k=.fresh) {R:Nat} (ih:∀R' < R,L9 top Post p i y m f c cs R') (K:Bool) (xw xq:Nat) (hw:xw<=32) (wst:Int) (it:Nat) (Jh Ji:Value) (hit:it<=4) (hn:I.sk.V p m<=n/\((I.sk.mw m).code=MW.code ⟨false,K,true,xw,xq⟩\/I.sk.V p m < n)) (hR:8 * n+(5 - it)<=R) (h:In p i y 1 (upd f m .fresh) I)
  (KD:∀I' w',In p i y 0 (upd f m (.own 1)) I'->Dp i p I I'->LT top Post i I' w' (G (c.finish (.tuple #[])) cs)) :
  Lk top Post i I w p m c cs (.int .i64 wst) (.bool false) (.bool false) (.int .i64 (it:Nat)) (.int .i32 ((MW.code ⟨false,K,true,xw,xq⟩):Nat)) Jh Ji [.code Eo,.inBlock 1,.inLoop C8,.inBlock 0,.code F3]:=by
 have hao:.fresh≠ML.own 1/\ML.que≠ML.own 1:=by simp
 have bw:.fresh≠ML.own 2:=by simp
 have bn:Awk false .fresh:=.inl ⟨rfl,rfl⟩;have hs:∀x:MW,x.code=MW.code ⟨false,K,true,xw,xq⟩->∃x',B1 .fresh x ML.que x'/\x'.code=MW.code ⟨false,K,true,xw+1,xq⟩/\x'.q=x.q:=fun x hx=>by
  obtain⟨e1,e2,e3,e4⟩:=MW.code_inj hx;dsimp only at e1 e2 e3 e4;exact⟨_,B1.queue0 (.inr e3),by simp only[MW.code,e1,e2,e3,e4],rfl⟩
 have hne:MW.code ⟨false,K,true,xw,xq⟩≠MW.code ⟨false,K,true,xw+1,xq⟩:=fun q=>by have:=MW.code_inj q;simp at this
 have km:∀I' w',In p i y 1 (upd f m .fresh) I'->Dp i p I I'->I'.sk.V p m < n->Fe p.b p.W (I'.sk.ml m) (I'.sk.mw m)->p.W<=16->∀Jh Ji:Value,Lk top Post i I' w' p m c cs (.int .i64 wst) (.bool false) (.bool false) (.int .i64 (it:Nat)) (.int .i32 (((I'.sk.mw m).code):Nat)) Jh Ji [.code C8,.inLoop C8,.inBlock 0,.code F3]:=fun I3 w3 h3 A3 Jd M3 W3 Jh Ji=>ih (8 * I3.sk.V p m+(5 - it)) (by omega) I3 w3 (I3.sk.mw m) false false .fresh wst it (I3.sk.V p m) Jh Ji (by have:=M3.few;omega) bn (fun q=>q) (fun q=>by cases q) hit ⟨Nat.le_refl _,.inl rfl⟩ (Nat.le_refl _) h3 fun I9 w9 h9 A9=>KD I9 w9 h9 (A3.trans A9);have kh:∀I' w' sv',In p i y 1 (upd f m .tok) I'->Dp i p I I'->Fe p.b p.W (I'.sk.ml m) (I'.sk.mw m)->p.W<=16->I'.sk.V p m < n->∀(wst':Int) (Jh Ji:Value),Lk top Post i I' w' p m c cs (.int .i64 wst') (.bool sv') (.bool true) (.int .i64 (0:Nat)) (.int .i32 (((I'.sk.mw m).code):Nat)) Jh Ji [.code C8,.inLoop C8,.inBlock 0,.code F3]:=fun I3 w3 sv3 h3 A3 M3 W3 Jd wst3 Jh Ji=>ih (8 * I3.sk.V p m+5) (by omega) I3 w3 (I3.sk.mw m) sv3 true .tok wst3 0 (I3.sk.V p m) Jh Ji (by have:=M3.few;omega) (.inr ⟨rfl,.inr rfl⟩) (fun _=>rfl) (fun _=>M3.tkn (i:=i) (.inr (h3.own_ hm))) (by omega) ⟨Nat.le_refl _,.inl rfl⟩ (Nat.le_refl _) h3 fun I9 w9 h9 A9=>KD I9 w9 h9 (A3.trans A9);refine Ahs h.ng _ (MW.code ⟨false,K,true,xw+1,xq⟩) (c5:=4) (by rw[Ge _ _ _ _ _ (by omega)];rfl) (by rw[Ct _ _ _ _ _ (by omega)];rfl) (by decide) (by decide) (by decide) (Rh _ _ _ _ _ (by omega)) _ _ _ _ fun _=>?_;exact Ro (c5:=4) (by rw[Ct _ _ _ _ _ (by omega)];rfl) (by decide) (by decide) (Ep hm h2 (fun _=>hao) fun _=>bw) hs hm h2 h hne hn false false wst it _ KD kh km
theorem Akf (hm:m < 2) (h2:∀k,k < 2->k≠m->f k=.off\/f k=.fresh) {R:Nat} (ih:∀R' < R,L9 top Post p i y m f c cs R') (K:Bool) (xw xq:Nat) (hw:xw<=32) (wst:Int) (it:Nat) (Jh Ji:Value) (hit:it<=4) (hn:I.sk.V p m<=n/\((I.sk.mw m).code=MW.code ⟨true,K,true,xw,xq⟩\/I.sk.V p m < n)) (hR:8 * n+(5 - it)<=R) (h:In p i y 1 (upd f m .fresh) I)
  (KD:∀I' w',In p i y 0 (upd f m (.own 1)) I'->Dp i p I I'->LT top Post i I' w' (G (c.finish (.tuple #[])) cs)) :
  Lk top Post i I w p m c cs (.int .i64 wst) (.bool false) (.bool false) (.int .i64 (it:Nat)) (.int .i32 ((MW.code ⟨true,K,true,xw,xq⟩):Nat)) Jh Ji [.code Eo,.inBlock 1,.inLoop C8,.inBlock 0,.code F3]:=by
 have hao:.fresh≠ML.own 1/\ML.que≠ML.own 1:=by simp
 have bw:.fresh≠ML.own 2:=by simp
 have bn:Awk false .fresh:=.inl ⟨rfl,rfl⟩;have hs:∀x:MW,x.code=MW.code ⟨true,K,true,xw,xq⟩->∃x',B1 .fresh x ML.que x'/\x'.code=MW.code ⟨true,K,true,xw+1,xq⟩/\x'.q=x.q:=fun x hx=>by
  obtain⟨e1,e2,e3,e4⟩:=MW.code_inj hx;dsimp only at e1 e2 e3 e4;exact⟨_,B1.queue0 (.inr e3),by simp only[MW.code,e1,e2,e3,e4],rfl⟩
 have hne:MW.code ⟨true,K,true,xw,xq⟩≠MW.code ⟨true,K,true,xw+1,xq⟩:=fun q=>by have:=MW.code_inj q;simp at this
 have km:∀I' w',In p i y 1 (upd f m .fresh) I'->Dp i p I I'->I'.sk.V p m < n->Fe p.b p.W (I'.sk.ml m) (I'.sk.mw m)->p.W<=16->∀Jh Ji:Value,Lk top Post i I' w' p m c cs (.int .i64 wst) (.bool false) (.bool false) (.int .i64 (it:Nat)) (.int .i32 (((I'.sk.mw m).code):Nat)) Jh Ji [.code C8,.inLoop C8,.inBlock 0,.code F3]:=fun I3 w3 h3 A3 Jd M3 W3 Jh Ji=>ih (8 * I3.sk.V p m+(5 - it)) (by omega) I3 w3 (I3.sk.mw m) false false .fresh wst it (I3.sk.V p m) Jh Ji (by have:=M3.few;omega) bn (fun q=>q) (fun q=>by cases q) hit ⟨Nat.le_refl _,.inl rfl⟩ (Nat.le_refl _) h3 fun I9 w9 h9 A9=>KD I9 w9 h9 (A3.trans A9);have kh:∀I' w' sv',In p i y 1 (upd f m .tok) I'->Dp i p I I'->Fe p.b p.W (I'.sk.ml m) (I'.sk.mw m)->p.W<=16->I'.sk.V p m < n->∀(wst':Int) (Jh Ji:Value),Lk top Post i I' w' p m c cs (.int .i64 wst') (.bool sv') (.bool true) (.int .i64 (0:Nat)) (.int .i32 (((I'.sk.mw m).code):Nat)) Jh Ji [.code C8,.inLoop C8,.inBlock 0,.code F3]:=fun I3 w3 sv3 h3 A3 M3 W3 Jd wst3 Jh Ji=>ih (8 * I3.sk.V p m+5) (by omega) I3 w3 (I3.sk.mw m) sv3 true .tok wst3 0 (I3.sk.V p m) Jh Ji (by have:=M3.few;omega) (.inr ⟨rfl,.inr rfl⟩) (fun _=>rfl) (fun _=>M3.tkn (i:=i) (.inr (h3.own_ hm))) (by omega) ⟨Nat.le_refl _,.inl rfl⟩ (Nat.le_refl _) h3 fun I9 w9 h9 A9=>KD I9 w9 h9 (A3.trans A9);refine Ahs h.ng _ (MW.code ⟨true,K,true,xw+1,xq⟩) (c5:=5) (by rw[Ge _ _ _ _ _ (by omega)];rfl) (by rw[Ct _ _ _ _ _ (by omega)];rfl) (by decide) (by decide) (by decide) (Rh _ _ _ _ _ (by omega)) _ _ _ _ fun _=>?_;exact Ro (c5:=5) (by rw[Ct _ _ _ _ _ (by omega)];rfl) (by decide) (by decide) (Ep hm h2 (fun _=>hao) fun _=>bw) hs hm h2 h hne hn false false wst it _ KD kh km
theorem Art (hm:m < 2) (h2:∀k,k < 2->k≠m->f k=.off\/f k=.fresh):∀R,L9 top Post p i y m f c cs R:=by
 intro R
 induction R using Nat.strongRecOn with
 | _ R ih =>
 intro I w x sv aw a wst it n Jh Ji hw bn zf haw hit hn hR h KD;obtain⟨xL,xK,xS,xw,xq⟩:=x;replace hw:xw<=32:=hw;cases xS with
 | true =>
  rcases bn with⟨rfl,rfl⟩|⟨rfl,ha⟩
  ·obtain rfl:sv=false:=by cases sv with
    | false=>rfl
    | true=>cases zf rfl
   cases xL with
   | false =>
    refine Nr h.ng _ (c5:=4) (by rw[Ct _ _ _ _ _ (by omega)];rfl) (by decide) (by decide) _ _ _ _ _ _ fun u7 u8=>?_;exact Akg hm h2 ih xK xw xq hw wst it u7 u8 hit hn hR h KD
   | true =>
    refine Nr h.ng _ (c5:=5) (by rw[Ct _ _ _ _ _ (by omega)];rfl) (by decide) (by decide) _ _ _ _ _ _ fun u7 u8=>?_;exact Akf hm h2 ih xK xw xq hw wst it u7 u8 hit hn hR h KD
  ·cases (haw rfl).2
 | false =>
  cases xL with
  | false =>
   rcases bn with⟨rfl,rfl⟩|⟨rfl,ha⟩
   ·obtain rfl:sv=false:=by cases sv with
     | false=>rfl
     | true=>cases zf rfl
    refine Nr h.ng _ (c5:=0) (by rw[Ct _ _ _ _ _ (by omega)];rfl) (by decide) (by decide) _ _ _ _ _ _ fun u7 u8=>?_;exact Aol hm h2 ih xK xw xq hw wst it u7 u8 hit hn hR h KD
   ·obtain rfl:xK=true:=(haw rfl).1;refine Nr h.ng _ (c5:=0) (by rw[Ct _ _ _ _ _ (by omega)];rfl) (by decide) (by decide) _ _ _ _ _ _ fun u7 u8=>?_;cases sv with
    | false=>exact Aki hm h2 ih ha xw xq hw wst it u7 u8 hit hn hR h KD
    | true=>exact Akh hm h2 ih ha xw xq hw wst it u7 u8 hit hn hR h KD
  | true =>
   refine Af0 h _ (by rw[Ct _ _ _ _ _ (by omega)];rfl) _ _ _ _ _ _ fun I1 w1 h1 A1 R1=>⟨fun u7 u8=>?_,fun h4 u7 u8=>?_⟩
   ·have x6:=Aow R1 hm hn;have KD1:∀I' w',In p i y 0 (upd f m (.own 1)) I'->Dp i p I1 I'->LT top Post i I' w' (G (c.finish (.tuple #[])) cs):=fun I9 w9 h9 A9=>KD I9 w9 h9 (A1.trans A9);rcases bn with⟨rfl,rfl⟩|⟨rfl,ha⟩
    ·obtain rfl:sv=false:=by cases sv with
      | false=>rfl
      | true=>cases zf rfl
     exact Aok hm h2 ih xK xw xq hw wst it u7 u8 hit x6 hR h1 KD1
    ·obtain rfl:xK=true:=(haw rfl).1;cases sv with
     | false=>exact Aoj hm h2 ih ha xw xq hw wst it u7 u8 hit x6 hR h1 KD1
     | true=>exact Aoi hm h2 ih ha xw xq hw wst it u7 u8 hit x6 hR h1 KD1
   ·have x6:=Aow R1 hm hn;refine Aro hm h2 h1 xK xw xq hw sv aw bn x6 wst it h4 u7 u8 fun I2 w2 aw2 a2 h2' A2 wq hmono M2 W2 z7 z8=>?_;have hv:=A2.v m hm;exact ih (8 * I2.sk.V p m+(5 - (it+1))) (by omega) I2 w2 (I2.sk.mw m) sv aw2 a2 wst (it+1) (I2.sk.V p m) z7 z8 (by have:=M2.few;omega) wq (fun q=>hmono (zf q)) (fun q=>M2.tkn (i:=i) (by rcases wq with⟨q2,_⟩|⟨_,q2⟩;rw[q] at q2;cases q2;rw[h2'.own_ hm];exact q2)) (by omega) ⟨Nat.le_refl _,.inl rfl⟩ (Nat.le_refl _) h2' fun I9 w9 h9 A9=>KD I9 w9 h9 ((A1.trans A2).trans A9)
theorem Ats (a:Value):#[a]++Array.replicate 138 undef=#[a,undef,undef,undef,undef,undef,undef,undef,undef,undef,undef,undef,undef,undef,undef,undef,undef,undef,undef,undef,undef,undef,undef,undef,undef,undef,undef,undef,undef,undef,undef,undef,undef,undef,undef,undef,undef,undef,undef,undef,undef,undef,undef,undef,undef,undef,undef,undef,undef,undef,undef,undef,undef,undef,undef,undef,undef,undef,undef,undef,undef,undef,undef,undef,undef,undef,undef,undef,undef,undef,undef,undef,undef,undef,undef,undef,undef,undef,undef,undef,undef,undef,undef,undef,undef,undef,undef,undef,undef,undef,undef,undef,undef,undef,undef,undef,undef,undef,undef,undef,undef,undef,undef,undef,undef,undef,undef,undef,undef,undef,undef,undef,undef,undef,undef,undef,undef,undef,undef,undef,undef,undef,undef,undef,undef,undef,undef,undef,undef,undef,undef,undef,undef,undef,undef,undef,undef,undef,undef]:=by kernel_rfl
theorem Wr (hm:m < 2) (h2:∀k,k < 2->k≠m->f k=.off\/f k=.fresh) (h:In p i y 1 (upd f m .fresh) I)
  (KD:∀I' w',In p i y 0 (upd f m (.own 1)) I'->Dp i p I I'->LT top Post i I' w' (G (c.finish (.tuple #[])) cs)) :
  LT top Post i I w (G ((base 105).at ⟨#[.pointer (some (p.muA m))]++Array.replicate 138 undef,[]⟩ [.code Wm]) (c::cs)):=by
 have hg:=h.ng;rw[Ats];simp only[Wm,Tryz.f105,Option.getD_some]
 (try walk_nrm);refine Am (Au ?_);simp only[ix,Nat.reduceAdd];refine Ai fun v W H=>?_;go_simp;refine H _ ?_;clear H W v;(try walk_nrm);refine len (Am (Au ?_));simp only[ix,Nat.reduceAdd];refine Ai fun v W H=>?_;go_simp;refine H _ ?_;clear H W v;(try walk_nrm);refine len (Am (Au ?_));simp only[ix,Nat.reduceAdd];refine Ai fun v W H=>?_;go_simp;refine H _ ?_;clear H W v;(try walk_nrm);refine len (Am (Au ?_));simp only[ix,Nat.reduceAdd];refine Ai fun v W H=>?_;go_simp;refine H _ ?_;clear H W v;(try walk_nrm);refine len (Am (Au ?_));simp only[ix,Nat.reduceAdd];(iterate 3 (refine Ai fun v W H=>?_;go_simp;refine H _ ?_;clear H W v;try walk_nrm))
 refine Lv hm h rfl (fun w c hc=>D9 rfl rfl (by k_ne) rfl (by simp[Act.eval]) En hc) fun I1 w1 h1 A1 M1 W1=>?_;clear hg;have hg:=h1.ng;have hd:=fun Jh Ji=>Art (c:=c) (cs:=cs) (top:=top) (Post:=Post) hm h2 (8 * I1.sk.V p m+5) I1 w1 (I1.sk.mw m) false false .fresh 0 0 (I1.sk.V p m) Jh Ji (by have:=M1.few;omega) (.inl ⟨rfl,rfl⟩) (fun q=>by cases q) (fun q=>by cases q) (Nat.zero_le _) ⟨Nat.le_refl _,.inl rfl⟩ (Nat.le_refl _) h1 fun I9 w9 h9 A9=>KD I9 w9 h9 (A1.trans A9);simp only[F3,C8,Wm,Bq,Kd,Tryz.f105,Option.getD_some] at hd
 (try walk_nrm);refine Ai fun v W H=>?_;go_simp;refine H _ ?_;clear H W v;(try walk_nrm);refine len (Am ?_);refine Bz (fun _=>stepG_block) ?_;refine Bz (fun _=>stepG_loop) ?_
 exact Lk.go (hd _ _)
theorem Ad0 (hm:m < 2) (h2:∀k,k < 2->k≠m->f k=.off\/f k=.fresh) (h:In p i y 0 (upd f m .fresh) I)
  (KD:∀I' w',In p i y 0 (upd f m (.own 1)) I'->Dp i p I I'->LT top Post i I' w' (G (c.finish (.tuple #[])) cs)) :
  LT top Post i I w (G ((base 86).at ⟨#[.pointer (some (p.muA m))]++Array.replicate 12 undef,[]⟩ [.code (Tryz.f86.body.getD .skip)]) (c::cs)):=by
 have hg:=h.ng;simp only[Tryz.f86,Option.getD_some]
 (try walk_nrm);refine Am (Au ?_);simp only[ix,Nat.reduceAdd]
 refine Np h rfl (.inl ⟨rfl,rfl⟩) (fun w=>stepG_mark0 .disable (by simp) rfl rfl (by k_ne) rfl func54 Adn Adp Adm Ado) fun I1 w1 h1 A1=>?_;clear hg;have hg:=h1.ng;(try walk_nrm);refine len (Am ?_);refine Am (Au ?_);simp only[ix,Nat.reduceAdd];(iterate 3 (refine Ai fun v W H=>?_;go_simp;refine H _ ?_;clear H W v;try walk_nrm));refine Rk (co:=0) (cn:=1) (n:=I1.sk.V p m+1) hm h1 (upd_same _ _ _) (Ep (b:=.own 0) hm h2 (fun _=>by simp) fun _=>by simp) (by omega) (fun x hx=>?_) ⟨Nat.le_succ _,.inr (Nat.lt_succ_self _)⟩ rfl rfl (by k_ne) rfl rfl rfl rfl (fun I2 w2 h2' A2 _=>?_) fun I2 w2 h2' A2 _=>?_
 ·obtain⟨e1,e2,e3,e4⟩:=MW.code_inj (y:=⟨false,false,false,0,0⟩) (hx.trans rfl);dsimp only at e1 e2 e3 e4;exact⟨_,B1.lock0 e1 e3,by simp only[MW.code,e2,e3,e4];rfl,rfl⟩
 ·rw[E7] at h2';clear hg;have hg:=h2'.ng;(try walk_nrm);refine len (Hd ?_);refine Am (Hd ?_);refine Am (Au ?_);simp only[ix,Nat.reduceAdd];refine Np h2' rfl (.inr ⟨rfl,rfl⟩) (fun w=>stepG_mark0 .enable (by simp) rfl rfl (by k_ne) rfl func55 P5 P7 P4 P6) fun I3 w3 h3 A3=>?_;clear hg;have hg:=h3.ng;(try walk_nrm);refine len (Au ?_);simp only[ix,Nat.reduceAdd];refine Ai fun v W H=>?_;go_simp;refine H _ ?_;clear H W v;try walk_nrm
  refine Aa7 hm h3 rfl (fun w v hc=>Ol rfl rfl (by k_ne) rfl (by kernel_rfl) (by kernel_rfl) (by simp[Act.eval]) hc) ?_
  try walk_nrm
  refine Aoc hm h3 rfl h2 (fun w=>stepG_markAt .acquire (by simp) rfl rfl (by k_ne) rfl func68 Adv Adx Adu Adw (by simp[Act.eval])) fun I4 w4 h4 A4=>?_;clear hg;have hg:=h4.ng;(try walk_nrm);refine len ?_;refine Bz (fun _=>stepG_ret') ?_;exact Ak rfl hg (fun w2=>stepG_leave (v:=.tuple #[]) rfl rfl func86 (by kernel_rfl) (by kernel_rfl)) (KD _ _ h4 (((A1.trans A2).trans A3).trans A4))
 ·clear hg;have hg:=h2'.ng;(try walk_nrm);refine len (Gl ?_);refine Gz (Au ?_);simp only[ix,Nat.reduceAdd];refine Ai fun v W H=>?_;go_simp;refine H _ ?_;clear H W v;(try walk_nrm);refine Bz (fun _=>Aj (first:=#[]) (caps:=#[]) (vs:=#[.pointer (some (p.muA m))]) rfl rfl (by k_ne) rfl rfl (by simp[Act.eval]) func105 (by kernel_rfl) rfl) ?_;refine Wr hm h2 h2' fun I4 w4 h4 A4=>?_;rw[Frame.finish_at];clear hg;have hg:=h4.ng;(try walk_nrm);refine len ?_;refine Bz (fun _=>stepG_end) ?_;exact Ak rfl hg (fun w2=>stepG_leave (v:=.tuple #[]) rfl rfl func86 (by kernel_rfl) (by kernel_rfl)) (KD _ _ h4 ((A1.trans A2).trans A4))
theorem Ws (hm:m < 2) (h2:∀k,k < 2->k≠m->f k=.off\/f k=.fresh) (h:In p i y 0 (upd f m .fresh) I)
  (KD:∀I' w',In p i y 0 (upd f m (.own 1)) I'->Dp i p I I'->LT top Post i I' w' (G (c.finish (.tuple #[])) cs)) :
  LT top Post i I w (G ((base 51).at ⟨#[.pointer (some (p.muA m))]++Array.replicate 5 undef,[]⟩ [.code (Tryz.f51.body.getD .skip)]) (c::cs)):=by
 have hg:=h.ng;simp only[Tryz.f51,Option.getD_some]
 (try walk_nrm);refine Au ?_;simp only[ix,Nat.reduceAdd];(iterate 3 (refine Ai fun v W H=>?_;go_simp;refine H _ ?_;clear H W v;try walk_nrm));refine Bz (fun _=>Aj (first:=#[]) (caps:=#[]) (vs:=#[.pointer (some (p.muA m))]) rfl rfl (by k_ne) rfl rfl (by simp[Act.eval]) func86 (by kernel_rfl) rfl) ?_
 refine Ad0 hm h2 h fun I4 w4 h4 A4=>?_;rw[Frame.finish_at];clear hg;have hg:=h4.ng;(try walk_nrm);refine len ?_;refine Bz (fun _=>stepG_end) ?_;exact Ak rfl hg (fun w2=>stepG_leave (v:=.tuple #[]) rfl rfl func51 (by kernel_rfl) (by kernel_rfl)) (KD _ _ h4 A4)
noncomputable def ulB:Code:=Tryz.f107.body.getD .skip
noncomputable def ulL:Code:=(Bq (Hf (L4 (L4 ulB)))).getD .skip
theorem Arg (K S:Bool) (w q:Nat) (hw:w < 64):IntKind.i32.wrap (((MW.code ⟨false,K,S,w,q⟩:Nat):Int)+1)=(MW.code ⟨true,K,S,w,q⟩:Nat):=by
 have:=Ky false K S w q hw;have e:MW.code ⟨true,K,S,w,q⟩=MW.code ⟨false,K,S,w,q⟩+1:=by simp only[MW.code];simp;omega
 rw[e,IntKind.wrap_i32];omega
theorem Ang:IntKind.u32.wrap ((0:Int)+1)=1:=by decide
def O6 (x:MW):ML:=if x.w=0\/x.L=true\/x.K=true\/x.S=true then .off else .rel
theorem Aqf (hm:m < 2) (h2:∀k,k < 2->k≠m->f k=.off\/f k=.fresh):∀n:Nat,∀I w (x:MW) (v1 v2 v3 v5 v6 v7 v8 v9 v10 v11 v12 v13 v14 v15 v16 v17 v18 v19 v20 v21 v22 v23 v24 v25 v26 v27 v28 v29 v30 v31 v32 v33 v34 v35 v36 v37 v38 v39 v40 v41 v42:Value),x.w<=32->I.sk.V p m<=n/\((I.sk.mw m).code=x.code\/I.sk.V p m < n)->In p i y 1 (upd f m (O6 x)) I ->
  (∀I' w',In p i y 1 (upd f m .off) I'->Dp i p I I'->LT top Post i I' w' (G (c.finish (.tuple #[])) cs)) ->
  LT top Post i I w (G ((base 107).at ⟨#[.pointer (some (p.muA m)),v1,v2,v3,.int .i32 (x.code:Nat),v5,v6,v7,v8,v9,v10,v11,v12,v13,v14,v15,v16,v17,v18,v19,v20,v21,v22,v23,v24,v25,v26,v27,v28,v29,v30,v31,v32,v33,v34,v35,v36,v37,v38,v39,v40,v41,v42],[]⟩ [.code ulL,.inLoop ulL,.inBlock 0]) (c::cs)):=by
 intro n
 induction n using Nat.strongRecOn with
 | _ n ih =>
 intro I w x v1 v2 v3 v5 v6 v7 v8 v9 v10 v11 v12 v13 v14 v15 v16 v17 v18 v19 v20 v21 v22 v23 v24 v25 v26 v27 v28 v29 v30 v31 v32 v33 v34 v35 v36 v37 v38 v39 v40 v41 v42 hw hn h KD;have hg:=h.ng;obtain⟨xL,xK,xS,xw,xq⟩:=x;replace hw:xw<=32:=hw;have d8:=Afw xL xK xS xw xq (by omega);rcases Nat.eq_zero_or_pos xw with rfl|hp0
 ·rw[show O6 ⟨xL,xK,xS,0,xq⟩=.off from if_pos (.inl rfl)] at h;generalize gg:MW.code ⟨xL,xK,xS,0,xq⟩=co at *;clear ih;simp only[ulL,ulB,Bq,L4,Hf,Tryz.f107,Option.getD_some]
  (try walk_nrm);refine Bz (fun _=>stepG_block) ?_;refine Am (Am (Au ?_));simp only[ix,Nat.reduceAdd];(iterate 4 (refine Ai fun v W H=>?_;go_simp;refine H _ ?_;clear H W v;try walk_nrm));refine Fg ?_;(try walk_nrm);refine Fg ?_;(try walk_nrm);refine Fg ?_;(try walk_nrm);refine Ai fun v W H=>?_;go_simp;refine H _ ?_;clear H W v;(try walk_nrm);refine len (Hd ?_);refine Bz (fun _=>stepG_ret') ?_
  exact Ak rfl hg (fun w2=>stepG_leave (v:=.tuple #[]) rfl rfl func107 (by kernel_rfl) (by kernel_rfl)) (KD _ _ h (.refl _ _ _))
 ·obtain⟨z,hz⟩:∃z:Int,((xw:Nat):Int)=z:=⟨_,rfl⟩;have z1:(z==0)=false:=by rw[<- hz];simp;omega
  have z2:¬z=0:=by omega
  rw[hz] at d8;have a7:=Are xL xK xS xw xq (by omega);by_cases hl:xL=true\/xK=true\/xS=true
  ·rw[show O6 ⟨xL,xK,xS,xw,xq⟩=.off from if_pos (.inr hl)] at h;obtain⟨q,hq⟩:∃q:Int,((xL.toNat+2 * xK.toNat+4 * xS.toNat:Nat):Int)=q:=⟨_,rfl⟩;have q1:(q==0)=false:=by rw[<- hq];revert hl;cases xL<;>cases xK<;>cases xS<;>simp
   have q2:¬q=0:=by simpa using q1
   have q3:(q != 0)=true:=by simpa using q2
   rw[hq] at a7;generalize gg:MW.code ⟨xL,xK,xS,xw,xq⟩=co at *;clear ih hz hq hl;simp only[ulL,ulB,Bq,L4,Hf,Tryz.f107,Option.getD_some]
   (try walk_nrm);refine Bz (fun _=>stepG_block) ?_;refine Am (Am (Au ?_));simp only[ix,Nat.reduceAdd];(iterate 8 (refine Ai fun v W H=>?_;go_simp;refine H _ ?_;clear H W v;try walk_nrm));refine len (Hd ?_);refine Bz (fun _=>stepG_ret') ?_
   exact Ak rfl hg (fun w2=>stepG_leave (v:=.tuple #[]) rfl rfl func107 (by kernel_rfl) (by kernel_rfl)) (KD _ _ h (.refl _ _ _))
  ·obtain⟨rfl,rfl,rfl⟩:xL=false/\xK=false/\xS=false:=by revert hl;cases xL<;>cases xK<;>cases xS<;>simp
   rw[show O6 ⟨false,false,false,xw,xq⟩=.rel from if_neg (by simp;omega)] at h;simp only[Bool.toNat_false,Nat.mul_zero,Nat.add_zero] at a7;have s8:=Ard false false false xw xq (by omega) hp0;have o2:=An6 false false false (xw - 1) xq (by omega);have hne:MW.code ⟨false,false,false,xw,xq⟩≠MW.code ⟨false,true,false,xw - 1,xq⟩:=fun q=>by have:=MW.code_inj q;simp at this
   have hs:∀x:MW,x.code=MW.code ⟨false,false,false,xw,xq⟩->∃x',B1 .rel x .post x'/\x'.code=MW.code ⟨false,true,false,xw - 1,xq⟩/\x'.q=x.q:=fun x hx=>by
    obtain⟨e1,e2,e3,e4⟩:=MW.code_inj hx;dsimp only at e1 e2 e3 e4;exact⟨_,B1.wake (by omega) e1 e2 e3,by simp only[MW.code,e1,e3,e4],rfl⟩
   have ih':∀I3 w3 (x:MW) (v1 v2 v3 v5 v6 v7 v8 v9 v10 v11 v12 v13 v14 v15 v16 v17 v18 v19 v20 v21 v22 v23 v24 v25 v26 v27 v28 v29 v30 v31 v32 v33 v34 v35 v36 v37 v38 v39 v40 v41 v42:Value),x.w<=32->(I3.sk.mw m).code=x.code->I3.sk.V p m < n->Dp i p I I3->In p i y 1 (upd f m (O6 x)) I3->LT top Post i I3 w3 (G ((base 107).at ⟨#[.pointer (some (p.muA m)),v1,v2,v3,.int .i32 (x.code:Nat),v5,v6,v7,v8,v9,v10,v11,v12,v13,v14,v15,v16,v17,v18,v19,v20,v21,v22,v23,v24,v25,v26,v27,v28,v29,v30,v31,v32,v33,v34,v35,v36,v37,v38,v39,v40,v41,v42],[]⟩ [.code ulL,.inLoop ulL,.inBlock 0]) (c::cs)):=fun I3 w3 x v1 v2 v3 v5 v6 v7 v8 v9 v10 v11 v12 v13 v14 v15 v16 v17 v18 v19 v20 v21 v22 v23 v24 v25 v26 v27 v28 v29 v30 v31 v32 v33 v34 v35 v36 v37 v38 v39 v40 v41 v42 hw3 hc3 hv3 uh h3=>ih _ hv3 I3 w3 x v1 v2 v3 v5 v6 v7 v8 v9 v10 v11 v12 v13 v14 v15 v16 v17 v18 v19 v20 v21 v22 v23 v24 v25 v26 v27 v28 v29 v30 v31 v32 v33 v34 v35 v36 v37 v38 v39 v40 v41 v42 hw3 ⟨Nat.le_refl _,.inl hc3⟩ h3 fun I9 w9 h9 A9=>KD I9 w9 h9 (uh.trans A9);clear ih;generalize gg:MW.code ⟨false,false,false,xw,xq⟩=co at *;generalize hcm:MW.code ⟨false,false,false,xw - 1,xq⟩=cm at *;generalize hcn:MW.code ⟨false,true,false,xw - 1,xq⟩=cn at *;clear gg hcm hcn hz hl hw hp0;simp only[ulL,ulB,Bq,L4,Hf,Tryz.f107,Option.getD_some] at ih' ⊢
   (try walk_nrm);refine Bz (fun _=>stepG_block) ?_;refine Am (Am (Au ?_));simp only[ix,Nat.reduceAdd];(iterate 8 (refine Ai fun v W H=>?_;go_simp;refine H _ ?_;clear H W v;try walk_nrm));refine len (Gl ?_);refine Gz (Am (Au ?_));simp only[ix,Nat.reduceAdd];(iterate 4 (refine Ai fun v W H=>?_;go_simp;refine H _ ?_;clear H W v;try walk_nrm));refine len (Am ?_);refine Am (Au ?_);simp only[ix,Nat.reduceAdd];(iterate 5 (refine Ai fun v W H=>?_;go_simp;refine H _ ?_;clear H W v;try walk_nrm))
   refine Rk hm h (upd_same _ _ _) (Ep (b:=.post) hm h2 (fun _=>by simp) fun _=>by simp) hne hs hn rfl rfl (by k_ne) rfl rfl rfl rfl (fun I1 w1 h1 A1 v1=>?_) fun I1 w1 h1 A1 v1=>?_
   ·rw[E7] at h1;clear hg;have hg:=h1.ng;(try walk_nrm);refine len (Hd ?_);refine Am (Au ?_);simp only[ix,Nat.reduceAdd];(iterate 3 (refine Ai fun v W H=>?_;go_simp;refine H _ ?_;clear H W v;try walk_nrm));refine As5 hm h1 rfl (by first|rfl|kernel_rfl) (upd_same _ _ _) (.inl rfl) (Ep hm h2 (fun _=>by simp) fun _=>by simp) (fun w hc hz=>(stepG_semrelease rfl rfl (by k_ne) rfl func119 Adi Adk Adh Adj (by simp[Act.eval]) hc hz).trans (by rw[Ang])) fun I8 w8 h8 A8=>?_;rw[E7] at h8;clear hg;have hg:=h8.ng;(try walk_nrm);refine len ?_;refine Bz (fun _=>stepG_ret') ?_;exact Ak rfl hg (fun w2=>stepG_leave (v:=.tuple #[]) rfl rfl func107 (by kernel_rfl) (by kernel_rfl)) (KD _ _ h8 (A1.trans A8))
   ·clear hg;have hg:=h1.ng;(try walk_nrm);refine len (Gl ?_);refine Gz (Au ?_);simp only[ix,Nat.reduceAdd];(iterate 3 (refine Ai fun v W H=>?_;go_simp;refine H _ ?_;clear H W v;try walk_nrm));refine Afy hm h1 rfl (upd_same _ _ _) (Ep hm h2 (fun _=>by simp) fun _=>by simp) (fun w c hc=>D9 rfl rfl (by k_ne) rfl (by simp[Act.eval]) Vd hc) fun I3 w3 x3 hw3 hc3 A3 hi1 hi2=>?_;have h3:In p i y 1 (upd f m (O6 x3)) I3:=by
     unfold O6;split
     ·rename_i q;have:=hi1 q;rwa [E7] at this
     ·rename_i q;exact hi2 q
    clear hg;have hg:=h3.ng;(try walk_nrm);refine Ai fun v W H=>?_;go_simp;refine H _ ?_;clear H W v;(try walk_nrm);refine len ?_;refine Bz (fun _=>stepG_inBlock) ?_;refine Bz (fun _=>stepG_inLoop) ?_;exact ih' I3 w3 x3 _ _ _ _ _ _ _ _ _ _ _ _ _ _ _ _ _ _ _ _ _ _ _ _ _ _ _ _ _ _ _ _ _ _ _ _ _ _ _ _ _ hw3 hc3 (Nat.lt_of_le_of_lt (A3.v m hm) v1) (A1.trans A3) h3
theorem Su (hm:m < 2) (h2:∀k,k < 2->k≠m->f k=.off\/f k=.fresh) (K S:Bool) (xw xq:Nat) (hw:xw<=32) (h:In p i y 1 (upd f m (if S then .phand else O6 ⟨false,K,S,xw,xq⟩)) I)
  (KD:∀I' w',In p i y 1 (upd f m .off) I'->Dp i p I I'->LT top Post i I' w' (G (c.finish (.tuple #[])) cs)) :
  LT top Post i I w (G ((base 107).at ⟨#[.pointer (some (p.muA m)),.int .i32 (MW.code ⟨false,K,S,xw,xq⟩:Nat)]++Array.replicate 41 undef,[]⟩ [.code ulB]) (c::cs)):=by
 have hg:=h.ng;have p1:=Arg K S xw xq (by omega);have a1:=Vm true K S xw xq (by omega);simp only[Bool.toNat_true] at a1;have a4:=Ge false K S xw xq (by omega);generalize hcp:MW.code ⟨true,K,S,xw,xq⟩=cp at *;cases S with
 | true =>
  simp only[Bool.toNat_true,Nat.mul_one,if_true] at a4 h;generalize gg:MW.code ⟨false,K,true,xw,xq⟩=co at *;simp only[ulB,Tryz.f107,Option.getD_some]
  (try walk_nrm);refine Am (Am (Au ?_));simp only[ix,Nat.reduceAdd];(iterate 4 (refine Ai fun v W H=>?_;go_simp;refine H _ ?_;clear H W v;try walk_nrm));refine len (Gl ?_);refine Gz (Am (Au ?_));simp only[ix,Nat.reduceAdd];(iterate 3 (refine Ai fun v W H=>?_;go_simp;refine H _ ?_;clear H W v;try walk_nrm));refine len (Gl (Au ?_));simp only[ix,Nat.reduceAdd];(iterate 3 (refine Ai fun v W H=>?_;go_simp;refine H _ ?_;clear H W v;try walk_nrm))
  refine As5 hm h rfl (by first|rfl|kernel_rfl) (upd_same _ _ _) (.inr rfl) (Ep hm h2 (fun _=>by simp) fun _=>by simp) (fun w hc hz=>(stepG_semrelease rfl rfl (by k_ne) rfl func119 Adi Adk Adh Adj (by simp[Act.eval]) hc hz).trans (by rw[Ang])) fun I8 w8 h8 A8=>?_;rw[E7] at h8;clear hg;have hg:=h8.ng;(try walk_nrm);refine len ?_;refine Bz (fun _=>stepG_end) ?_;exact Ak rfl hg (fun w2=>stepG_leave (v:=.tuple #[]) rfl rfl func107 (by kernel_rfl) (by kernel_rfl)) (KD _ _ h8 A8)
 | false =>
  simp only[Bool.toNat_false,Nat.mul_zero,Bool.false_eq_true,if_false] at a4 h;have hd:=fun v1 v2 v3 v5 v6 v7 v8 v9 v10 v11 v12 v13 v14 v15 v16 v17 v18 v19 v20 v21 v22 v23 v24 v25 v26 v27 v28 v29 v30 v31 v32 v33 v34 v35 v36 v37 v38 v39 v40 v41 v42=>Aqf (c:=c) (cs:=cs) (top:=top) (Post:=Post) hm h2 (I.sk.V p m+1) I w ⟨false,K,false,xw,xq⟩ v1 v2 v3 v5 v6 v7 v8 v9 v10 v11 v12 v13 v14 v15 v16 v17 v18 v19 v20 v21 v22 v23 v24 v25 v26 v27 v28 v29 v30 v31 v32 v33 v34 v35 v36 v37 v38 v39 v40 v41 v42 hw ⟨Nat.le_succ _,.inr (Nat.lt_succ_self _)⟩ h KD;simp only[ulL,ulB,Bq,L4,Hf,Tryz.f107,Option.getD_some] at hd;generalize gg:MW.code ⟨false,K,false,xw,xq⟩=co at *;simp only[ulB,Tryz.f107,Option.getD_some]
  (try walk_nrm);refine Am (Am (Au ?_));simp only[ix,Nat.reduceAdd];(iterate 4 (refine Ai fun v W H=>?_;go_simp;refine H _ ?_;clear H W v;try walk_nrm));refine len (Gl ?_);refine Gz (Am (Au ?_));simp only[ix,Nat.reduceAdd];(iterate 3 (refine Ai fun v W H=>?_;go_simp;refine H _ ?_;clear H W v;try walk_nrm));refine len (Hd ?_);refine Am (Au ?_);simp only[ix,Nat.reduceAdd];(iterate 2 (refine Ai fun v W H=>?_;go_simp;refine H _ ?_;clear H W v;try walk_nrm));refine len ?_;refine Bz (fun _=>stepG_block) ?_;refine Bz (fun _=>stepG_loop) ?_
  exact hd _ _ _ _ _ _ _ _ _ _ _ _ _ _ _ _ _ _ _ _ _ _ _ _ _ _ _ _ _ _ _ _ _ _ _ _ _ _ _ _ _
theorem Yu (hm:m < 2) (h2:∀k,k < 2->k≠m->f k=.off\/f k=.fresh) (h:In p i y 0 (upd f m (.own 1)) I)
  (KD:∀I' w',In p i y 0 (upd f m .off) I'->Dp i p I I'->LT top Post i I' w' (G (c.finish (.tuple #[])) cs)) :
  LT top Post i I w (G ((base 87).at ⟨#[.pointer (some (p.muA m))]++Array.replicate 20 undef,[]⟩ [.code (Tryz.f87.body.getD .skip)]) (c::cs)):=by
 have hg:=h.ng;simp only[Tryz.f87,Option.getD_some]
 (try walk_nrm);refine Am (Hd ?_);refine Am (Au ?_);simp only[ix,Nat.reduceAdd];(iterate 3 (refine Ai fun v W H=>?_;go_simp;refine H _ ?_;clear H W v;try walk_nrm))
 refine Lv hm h rfl (fun w c hc=>D9 rfl rfl (by k_ne) rfl (by simp[Act.eval]) Adl hc) fun I1 w1 h1 A1 _ _=>?_;clear hg;have hg:=h1.ng;(try walk_nrm);refine len (Am (Au ?_));simp only[ix,Nat.reduceAdd];refine Ai fun v W H=>?_;go_simp;refine H _ ?_;clear H W v;try walk_nrm
 refine Aa7 hm h1 rfl (fun w v hc=>Ol rfl rfl (by k_ne) rfl (by kernel_rfl) (by kernel_rfl) (by simp[Act.eval]) hc) ?_
 try walk_nrm
 refine Aoa hm h1 rfl h2 (fun w=>stepG_markAt .releaseMerge (by simp) rfl rfl (by k_ne) rfl func53 Anr Ant Anq Ans (by simp[Act.eval])) fun I2 w2 h2' A2=>?_;clear hg;have hg:=h2'.ng;(try walk_nrm);refine len (Au ?_);simp only[ix,Nat.reduceAdd];refine Np h2' rfl (.inl ⟨rfl,rfl⟩) (fun w=>stepG_mark0 .disable (by simp) rfl rfl (by k_ne) rfl func54 Adn Adp Adm Ado) fun I3 w3 h3 A3=>?_;clear hg;have hg:=h3.ng;(try walk_nrm);refine len (Am (Au ?_));simp only[ix,Nat.reduceAdd];(iterate 3 (refine Ai fun v W H=>?_;go_simp;refine H _ ?_;clear H W v;try walk_nrm));refine Rm (dl:=-1) (bx:=fun x=>if x.S then .phand else if x.K||x.w==0 then .off else .rel) (Q:=fun x x'=>x'={ x with L:=false }) hm h3 (upd_same _ _ _) (fun x=>Ep hm h2 (fun _=>⟨by simp,by split;simp;split<;>simp⟩) fun _=>by simp) (fun I4 w4 h4 hI _=>?_) rfl rfl (by k_ne) rfl rfl rfl fun I4 w4 x x' h4 A4 hx hw=>?_
 ·have M:=h4.mi hI hm;have hL:=M.owned (h4.own_ hm);have hW:=(h4.seek hI).W;have hf:=M.few;refine⟨_,B1.unlock 3,?_,rfl,rfl⟩;generalize I4.sk.mw m=u at *;obtain⟨uL,uK,uS,uw,uq⟩:=u;dsimp only at hL hf;subst hL;exact(Akb uK uS uw uq (by omega)).symm
 ·rw[E7] at h4;obtain⟨xL,xK,xS,xw,xq⟩:=x;subst hx;replace hw:xw<=32:=hw;have h4':In p i y 1 (upd f m (if xS then .phand else O6 ⟨false,xK,xS,xw,xq⟩)) I4:=by
   have e:(if xS then ML.phand else if xK||xw==0 then .off else .rel)=(if xS then .phand else O6 ⟨false,xK,xS,xw,xq⟩):=by
    cases xS with
    | true=>rfl
    | false =>
     unfold O6;by_cases q:xw=0
     ·simp[q]
     ·cases xK<;>simp[q]
   rw[<- e];exact h4
  clear h4;have A5:=((A1.trans A2).trans A3).trans A4;clear A1 A2 A3 A4 h1 h2' h3 h hg;have hg:=h4'.ng;by_cases hz:MW.code ⟨false,xK,xS,xw,xq⟩=0
  ·have hs0:xK=false/\xS=false/\xw=0:=by
    simp only[MW.code] at hz
    revert hz
    cases xK<;>cases xS<;>simp<;>omega
   obtain⟨rfl,rfl,rfl⟩:=hs0;rw[show (if (false:Bool)=true then ML.phand else O6 ⟨false,false,false,0,xq⟩)=.off by simp[O6]] at h4';simp only[hz];clear hz;(try walk_nrm);refine Ai fun v W H=>?_;go_simp;refine H _ ?_;clear H W v;(try walk_nrm);refine len (Am ?_);refine Am (Au ?_);simp only[ix,Nat.reduceAdd];(iterate 2 (refine Ai fun v W H=>?_;go_simp;refine H _ ?_;clear H W v;try walk_nrm));refine len (Gl ?_);refine Gz (Au ?_);simp only[ix,Nat.reduceAdd];refine Np h4' rfl (.inr ⟨rfl,rfl⟩) (fun w=>stepG_mark0 .enable (by simp) rfl rfl (by k_ne) rfl func55 P5 P7 P4 P6) fun I9 w9 h9 A9=>?_;clear hg;have hg:=h9.ng;(try walk_nrm);refine len ?_;refine Bz (fun _=>stepG_end) ?_;exact Ak rfl hg (fun w2=>stepG_leave (v:=.tuple #[]) rfl rfl func87 (by kernel_rfl) (by kernel_rfl)) (KD _ _ h9 (A5.trans A9))
  ·have n1:((MW.code ⟨false,xK,xS,xw,xq⟩:Nat):Int)≠0:=by omega
   have n2:(((MW.code ⟨false,xK,xS,xw,xq⟩:Nat):Int) != 0)=true:=by simpa using n1
   clear hz;have hc:∀(I4:Ab) (w4:World),In p i y 1 (upd f m (if xS then .phand else O6 ⟨false,xK,xS,xw,xq⟩)) I4->∀(c:Frame) (cs:List Frame),(∀I' w',In p i y 1 (upd f m .off) I'->Dp i p I4 I'->LT top Post i I' w' (G (c.finish (.tuple #[])) cs))->LT top Post i I4 w4 (G ((base 107).at ⟨#[.pointer (some (p.muA m)),.int .i32 (MW.code ⟨false,xK,xS,xw,xq⟩:Nat)]++Array.replicate 41 undef,[]⟩ [.code ulB]) (c::cs)):=fun I4 w4 h4 c cs KD=>Su hm h2 xK xS xw xq hw h4 KD;generalize MW.code ⟨false,xK,xS,xw,xq⟩=co at *;generalize (if xS then ML.phand else O6 ⟨false,xK,xS,xw,xq⟩)=bb at *
   (try walk_nrm);refine Ai fun v W H=>?_;go_simp;refine H _ ?_;clear H W v;(try walk_nrm);refine len (Am ?_);refine Am (Au ?_);simp only[ix,Nat.reduceAdd];(iterate 2 (refine Ai fun v W H=>?_;go_simp;refine H _ ?_;clear H W v;try walk_nrm));refine len (Hd (Au ?_));simp only[ix,Nat.reduceAdd];(iterate 2 (refine Ai fun v W H=>?_;go_simp;refine H _ ?_;clear H W v;try walk_nrm));refine Bz (fun _=>Aj (first:=#[]) (caps:=#[]) (vs:=#[.pointer (some (p.muA m)),.int .i32 (co:Nat)]) rfl rfl (by k_ne) rfl rfl (by simp[Act.eval]) func107 (by kernel_rfl) rfl) ?_
   refine hc _ _ h4' _ _ fun I7 w7 h7 A7=>?_;rw[Frame.finish_at];clear hg;have hg:=h7.ng;(try walk_nrm);refine len (Au ?_);simp only[ix,Nat.reduceAdd];refine Np h7 rfl (.inr ⟨rfl,rfl⟩) (fun w=>stepG_mark0 .enable (by simp) rfl rfl (by k_ne) rfl func55 P5 P7 P4 P6) fun I9 w9 h9 A9=>?_;clear hg;have hg:=h9.ng;(try walk_nrm);refine len ?_;refine Bz (fun _=>stepG_end) ?_;exact Ak rfl hg (fun w2=>stepG_leave (v:=.tuple #[]) rfl rfl func87 (by kernel_rfl) (by kernel_rfl)) (KD _ _ h9 ((A5.trans A7).trans A9))
end
section
variable {P:Program} {ty:TypeId} {top:Nat} {I I' I2:Ab} {p:Ph} {w w' w2:World} {i j n m y d:Nat} {f:Nat->ML} {Post:Value->World->Prop} {g g':Goroutine}
theorem Arm {gv:Bool->Goroutine} (h:In p i y d f I) (hr:g.status=.running) (hst:∀(w:World) (b:Bool),w.cell? ⟨p.once,0,none⟩=some (.int .u32 (if b then 1 else 0))->stepG P (i==0) g w=.go (gv b) w #[rd ⟨p.once,0,none⟩])
  (K:∀I' w',In p i y d f I'->Dp i p I I'->(I'.sk.od=true->∃x,I'.sk.took x)->LV P ty top Post i I' w' (gv I'.sk.od)):LV P ty top Post i I w g:=by
 refine Ds h hr fun I2 w2 h2 hrel hA hI hi=>?_;have hS:=h2.seek hI;have c1:w2.cell? ⟨p.once,0,none⟩=some (.int .u32 (if I2.sk.od then 1 else 0)):=by simp[World.cell?,hS.once]
 refine P3 h2 hI hi rfl rfl (.refl _) (fun z hz=>?_) (by simp[deafBehind,rd]) (hst w2 _ c1) (K _ _ h2 hA fun q=>hS.stp (hS.od1 q));simp only[List.mem_toArray,List.mem_singleton] at hz;subst hz;exact .inl ⟨_,false,rfl,(hS.lt hI.hs).2,.inl ⟨_,hS.bonce⟩⟩
theorem Arl (h:In p i y 0 (upd f 1 (.own 1)) I) (hr:g.status=.running) (h2:∀k,k < 2->k≠1->f k=.off\/f k=.fresh) (sj:I.sk.od=false) {x:Nat} (hx:I.sk.took x) (hwk:mayWake P g=true)
  (hst:∀w s rc,w.heap[p.stop]?=some (.chan 0 #[] false s rc false)->stepG P (i==0) g w=.go g' (w.setChan p.stop 0 #[] true s rc false) #[⟨.obj p.stop,false,true⟩,⟨.obj p.stop,true,true⟩])
  (K:∀I' w',In p i y 0 (upd f 1 (.own 2)) I'->Dp i p I I'->I'.stp=true->LV P ty top Post i I' w' g'):LV P ty top Post i I w g:=by
 refine Ds h hr fun I2 w2 h2' hrel hA hI hi=>?_;have hS:=h2'.seek hI;have e1:=hrel.od _ (h.own_ (m:=1) (by omega));have cu:=h2'.own_ (m:=1) (by omega);have hod2:I2.sk.od=false:=e1.1.trans sj;have rp:I2.stp=false:=by
  cases q:I2.stp with
  | false=>rfl
  | true =>
   obtain⟨k,hk⟩:=hS.od0 hod2 q;have:=(hS.mi 1 (by omega)).one hk cu;subst this;rw[cu] at hk;cases hk
 have hc:=(hI.core p h2'.ph).stop;rw[rp] at hc;have aj:=Asd (P:=P) (Post:=Post) hI h2'.ph h2'.kind h2'.b hi h2'.tag cu (h2'.others h2) hod2 (hA.took x hx) hc (mayWake P g=true) hwk;have q:=h2'.owns (k':=2) (o:=none) (B:=p.out) (tk:=I2.sk.took) (od:=I2.sk.od) (d':=0);have A2:=No (k':=2) (o:=none) (tk:=I2.sk.took) (od:=I2.sk.od) (d':=0) h2' hI (by omega) fun _ q=>q;refine .go g' _ _ _ (hst w2 _ _ hc) aj (K _ _ ⟨q.ph,q.kind,q.b,q.i0,q.tag,?_,q.ml⟩ (hA.trans ⟨⟨A2.kw.hs,A2.kw.fx,A2.kw.ph,A2.kw.col,A2.kw.next⟩,A2.took,A2.v⟩) rfl);show upd I2.deaf i (I2.deaf i) i=0;rw[upd_same];exact h2'.deaf
theorem Ark (h:In p i y 0 (upd f 1 (.own 2)) I) (hr:g.status=.running) (h2:∀k,k < 2->k≠1->f k=.off\/f k=.fresh) (hs:I.stp=true)
  (hst:∀w u,w.cell? ⟨p.once,0,none⟩=some u->w.frozen? ⟨p.once,0,none⟩=false->stepG P (i==0) g w=.go g' (w.setCell ⟨p.once,0,none⟩ (.int .u32 1)) #[wr ⟨p.once,0,none⟩])
  (K:∀I' w',In p i y 0 (upd f 1 (.own 1)) I'->Dp i p I I'->LV P ty top Post i I' w' g'):LV P ty top Post i I w g:=by
 refine Ds h hr fun I2 w2 h2' hrel hA hI hi=>?_;have hS:=h2'.seek hI;have e1:=hrel.od _ (h.own_ (m:=1) (by omega));have c1:w2.cell? ⟨p.once,0,none⟩=some (.int .u32 (if I2.sk.od then 1 else 0)):=by simp[World.cell?,hS.once]
 have aj:=Asc (P:=P) (Post:=Post) hI h2'.ph h2'.kind h2'.b hi h2'.tag (h2'.own_ (by omega)) (h2'.others h2) (e1.2.trans hs) (mayWake P g=true);rw[h2'.deaf] at aj;exact .go g' _ _ _ (hst w2 _ c1 (by simp[World.frozen?,hS.once])) aj (K _ _ h2'.owns (hA.trans (No h2' hI (by omega) fun _ q=>q)))
theorem Ahr {v v':Int} (h:In p i y 0 (upd f 0 (.own 1)) I) (hr:g.status=.running) (h2:∀k,k < 2->k≠0->f k=.off\/f k=.fresh) (hv:w.cell? ⟨p.out,2,none⟩=some (.int .i64 v)) {tk:Nat->Prop} (hy:p.hit y) (ht:∀x,tk x↔I.sk.took x\/(x=y/\tk y)) (hB:Ld tk v')
  (hst:∀w:World,w.cell? ⟨p.out,2,none⟩=some (.int .i64 v)->w.frozen? ⟨p.out,2,none⟩=false->∃w' es,stepG P (i==0) g w=.go g' w' es/\(w'=w/\v'=v\/w'=w.setCell ⟨p.out,2,none⟩ (.int .i64 v'))/\∀e∈es,∃z,e=⟨.cell ⟨p.out,2,none⟩,z,false⟩)
  (K:∀I' w',In p i y 0 (upd f 0 (.own 1)) I'->Dp i p I I'->(∀x,I'.sk.took x↔tk x)->w'.cell? ⟨p.out,2,none⟩=some (.int .i64 v')->LV P ty top Post i I' w' g'):LV P ty top Post i I w g:=by
 refine Ds h hr fun I2 w2 h2' hrel hA hI hi=>?_;have hS:=h2'.seek hI;obtain⟨e1,e2⟩:=hrel.at_ (h.own_ (m:=0) (by omega));rw[hv] at e1;obtain⟨vb,qb,_⟩:=hS.best;have vz:w2.frozen? ⟨p.out,2,none⟩=false:=by simp[World.frozen?,qb]
 obtain⟨w3,es,q1,q2,q3⟩:=hst w2 e1 vz;have c3:w3.cell? ⟨p.out,2,none⟩=some (.int .i64 v'):=by
  rcases q2 with⟨rfl,rfl⟩|rfl
  ·exact e1
  ·rw[World.cell?,Bg];simp[qb]
 have hlt:=((hI.core p h2'.ph).busy.1 i y (.inl h2'.tag)).1;have aj:=Ata (P:=P) (Post:=Post) (tk:=tk) (w':=w3) (es:=es) hI h2'.ph h2'.kind h2'.b hi h2'.tag (h2'.own_ (by omega)) (h2'.others h2) (by rcases q2 with⟨e,_⟩|e;exact .inl e;exact .inr ⟨v',e⟩) (fun u hu=>by rw[c3] at hu;injection hu with hu;injection hu with _ hu;subst hu;exact hB) (fun x hx=>by rcases (ht x).1 hx with q|⟨rfl,_⟩;exact hS.took x ((e2 x).2 q);exact⟨hy,hlt⟩) (fun x hx=>(ht x).2 (.inl ((e2 x).1 hx))) q3 (mayWake P g=true);rw[h2'.deaf] at aj;exact .go g' _ _ _ q1 aj (K _ _ h2'.owns (hA.trans (No h2' hI (by omega) fun x hx=>(ht x).2 (.inl ((e2 x).1 hx)))) (fun _=>Iff.rfl) c3)
theorem Arn {gv:Int->Goroutine} (h:In p i y 0 (upd f 0 (.own 1)) I) (hr:g.status=.running) (h2:∀k,k < 2->k≠0->f k=.off\/f k=.fresh)
  (hst:∀(w:World) (v:Int),w.cell? ⟨p.out,2,none⟩=some (.int .i64 v)->stepG P (i==0) g w=.go (gv v) w #[⟨.cell ⟨p.out,2,none⟩,false,false⟩])
  (K:∀I2 w2 (v:Int),In p i y 0 (upd f 0 (.own 1)) I2->Dp i p I I2->w2.cell? ⟨p.out,2,none⟩=some (.int .i64 v)->Ld I2.sk.took v->LV P ty top Post i I2 w2 (gv v)):LV P ty top Post i I w g:=by
 refine Ds h hr fun I2 w2 h2' hrel hA hI hi=>?_;have hS:=h2'.seek hI;obtain⟨vb,qb,hb⟩:=hS.best;have e1:w2.cell? ⟨p.out,2,none⟩=some (.int .i64 vb):=by simp[World.cell?,qb]
 have aj:=Ata (P:=P) (Post:=Post) (tk:=I2.sk.took) (w':=w2) (es:=#[⟨.cell ⟨p.out,2,none⟩,false,false⟩]) hI h2'.ph h2'.kind h2'.b hi h2'.tag (h2'.own_ (by omega)) (h2'.others h2) (.inl rfl) (fun u hu=>by rw[e1] at hu;injection hu with hu;injection hu with _ hu;subst hu;exact hb) (fun x hx=>hS.took x hx) (fun _ q=>q) (fun e he=>⟨false,by simpa using he⟩) (mayWake P g=true);rw[h2'.deaf] at aj;exact .go _ _ _ _ (hst w2 _ e1) aj (K _ _ _ h2'.owns (hA.trans (No h2' hI (by omega) fun _ q=>q)) e1 hb)
theorem Zu (h:In p i y 0 f I) (hr:g.status=.running) (h2:∀k,k < 2->f k=.off\/f k=.fresh) (hy:p.hit y->I.sk.took y) (hst:∀w,stepG P (i==0) g w=.go g' w #[])
  (K:∀I' w',Kw i I I'->I'.ph=some p->I'.tag i=.idle->I'.deaf i=0->LV P ty top Post i I' w' g'):LV P ty top Post i I w g:=by
 refine Ds h hr fun I2 w2 h2' hrel hA hI hi=>?_;have aj:=Akv (P:=P) (Post:=Post) hI h2'.ph h2'.kind h2'.b hi h2'.tag h2'.deaf (fun z hz=>by rw[h2'.ml z hz];exact h2 z hz) (fun q=>hA.took y (hy q)) (mayWake P g=true);exact .go _ _ _ _ (hst w2) aj (K _ _ ⟨hA.kw.hs,hA.kw.fx,hA.kw.ph,hA.kw.col,hA.kw.next⟩ h2'.ph (upd_same _ _ _) h2'.deaf)
section
variable {main:Bool} {b:Frame} {a:Act} {kk:List Item} {cs:List Frame} {ops:Array Oper} {l:Nat} {rest:List Nat} {o:Oper}
theorem Iv {x:Operand} (ho:ops[l]?=some o) (hw:Region.wanted o (yielded ops a.tmps)=true) (hk:b.kind≠.early) (hop:o.op=.load 3 x)
  {ad:Addr} {v:Int} (hx:a.eval x=.pointer (some ad)) (hq:(prog.funcs[b.fn]?).any (·.norace)=false) (hc:w.cell? ad=some (.int .i64 v)) :
  stepG prog main (G (b.at a (.inRegion ops (l::rest)::kk)) cs) w=.go (G (b.at (a.put o.dst (.int .i64 v)) (.inRegion ops rest::kk)) cs) w #[⟨.cell ad,false,false⟩]:=by
 have hr:(execOp a.eval o).run prog w=.ok (.value (.int .i64 v)) w:=by
  unfold execOp;simp only[hop,hx];simp[go_sem,hc]
 have he:(execOp a.eval o).events prog w #[]=#[⟨.cell ad,false,false⟩]:=by
  unfold execOp;simp only[hop,hx];simp[go_sem,hc]
 rw[stepG_value ho hw hk hr];unfold listed;rw[he,seen_def,hq];simp[seenStep]
theorem Po {x z:Operand} (ho:ops[l]?=some o) (hw:Region.wanted o (yielded ops a.tmps)=true) (hk:b.kind≠.early) (hop:o.op=.store 3 x z)
  {ad:Addr} {v:Int} {u:Value} (hx:a.eval x=.pointer (some ad)) (hz:a.eval z=.int .i64 v) (hq:(prog.funcs[b.fn]?).any (·.norace)=false) (hc:w.cell? ad=some u) (hf:w.frozen? ad=false) :
  stepG prog main (G (b.at a (.inRegion ops (l::rest)::kk)) cs) w=.go (G (b.at (a.put o.dst undef) (.inRegion ops rest::kk)) cs) (w.setCell ad (.int .i64 v)) #[⟨.cell ad,true,false⟩]:=by
 have hr:(execOp a.eval o).run prog w=.ok .skip (w.setCell ad (.int .i64 v)):=by
  unfold execOp;simp only[hop,hx,hz];simp[go_sem,hc,hf]
 have he:(execOp a.eval o).events prog w #[]=#[⟨.cell ad,true,false⟩]:=by
  unfold execOp;simp only[hop,hx,hz];simp[go_sem,hc,hf]
 rw[stepG_none ho hw hk hr];unfold listed;rw[he,seen_def,hq];simp[seenStep]
end
end
section
variable {top:Nat} {I I' I2:Ab} {p:Ph} {w w' w2:World} {i j k n m y:Nat} {f:Nat->ML} {a b:ML} {Post:Value->World->Prop} {es:Array Event} {g g':Goroutine} {c:Frame} {cs:List Frame}
theorem Fh (hm:m < 2) (h2:∀k,k < 2->k≠m->f k=.off\/f k=.fresh) (h:In p i y 0 (upd f m (.own 1)) I) (hc:c.mode=.returning)
  (KD:∀I' w',In p i y 0 (upd f m .off) I'->Dp i p I I'->LT top Post i I' w' (G c cs)) :
  LT top Post i I w (G ((baseD 52).at ⟨#[.pointer (some (p.muA m))]++Array.replicate 5 undef,[]⟩ [.code (Tryz.f52.body.getD .skip)]) (c::cs)):=by
 have hg:=h.ng;simp only[Tryz.f52,Option.getD_some]
 (try walk_nrm);refine Au ?_;simp only[ix,Nat.reduceAdd];(iterate 3 (refine Ai fun v W H=>?_;go_simp;refine H _ ?_;clear H W v;try walk_nrm));refine Bz (fun _=>Aj (first:=#[]) (caps:=#[]) (vs:=#[.pointer (some (p.muA m))]) rfl rfl (by k_ne) rfl rfl (by simp[Act.eval]) func87 (by kernel_rfl) rfl) ?_
 refine Yu hm h2 h fun I4 w4 h4 A4=>?_;rw[Frame.finish_at];clear hg;have hg:=h4.ng;(try walk_nrm);refine len ?_;refine Bz (fun _=>stepG_end) ?_;exact Ak rfl hg (fun w2=>stepG_leave_deferred (v:=.tuple #[]) rfl rfl func52 (by kernel_rfl) (by kernel_rfl) hc) (KD _ _ h4 A4)
theorem Af4 (h2:∀k,k < 2->k≠0->f k=.off\/f k=.fresh) (h:In p i y 0 (upd f 0 .fresh) I) (hy:p.hit y)
  (KD:∀I' w',In p i y 0 (upd f 0 .off) I'->Dp i p I I'->I'.sk.took y->LT top Post i I' w' (G (c.finish (.tuple #[])) cs)) :
  LT top Post i I w (G ((base 30).at ⟨#[.pointer (some ⟨p.out,0,none⟩),.int .i64 (y:Nat)]++Array.replicate 26 undef,[]⟩ [.code (Tryz.f30.body.getD .skip)]) (c::cs)):=by
 have hg:=h.ng;simp only[Tryz.f30,Option.getD_some]
 (try walk_nrm);refine Am (Au ?_);simp only[ix,Nat.reduceAdd];(iterate 3 (refine Ai fun v W H=>?_;go_simp;refine H _ ?_;clear H W v;try walk_nrm));refine Bz (fun _=>Aj (first:=#[]) (caps:=#[]) (vs:=#[.pointer (some ⟨p.out,0,none⟩)]) rfl rfl (by k_ne) rfl rfl (by simp[Act.eval]) func51 (by kernel_rfl) rfl) ?_
 refine Ws (m:=0) (by omega) h2 h fun I4 w4 h4 A4=>?_;rw[Frame.finish_at];clear hg;have hg:=h4.ng;(try walk_nrm);refine len (Am (Au ?_));simp only[ix,Nat.reduceAdd];(iterate 3 (refine Ai fun v W H=>?_;go_simp;refine H _ ?_;clear H W v;try walk_nrm));refine Bz (fun _=>stepG_defer rfl rfl (by k_ne) rfl) ?_;(try walk_nrm);refine len (Am (Au ?_));simp only[ix,Nat.reduceAdd];(iterate 3 (refine Ai fun v W H=>?_;go_simp;refine H _ ?_;clear H W v;try walk_nrm));refine Arn h4 rfl h2 (fun w v hc=>Iv rfl rfl (by k_ne) rfl (by simp[Act.eval]) (by kernel_rfl) hc) fun I7 w7 v h7 A7 hv hB=>?_;clear hg;have hg:=h7.ng;try walk_nrm
 by_cases hneg:v < 0
 ·have hB':Ld (fun x=>I7.sk.took x\/x=y) (y:Int):=by
   rcases hB with⟨rfl,hn⟩|⟨z,rfl,_⟩
   ·exact .inr ⟨y,rfl,.inr rfl,fun x hx=>by rcases hx with q|rfl;exact absurd q (hn x);exact Nat.le_refl _⟩
   ·omega
  have n1:decide (v < 0)=true:=by simpa using hneg
  (iterate 2 (refine Ai fun v W H=>?_;go_simp;refine H _ ?_;clear H W v;try walk_nrm));refine Fg ?_;(try walk_nrm);refine Fg ?_;(try walk_nrm);refine Fg ?_;(try walk_nrm);refine Fg ?_;(try walk_nrm);refine Fg ?_;(try walk_nrm);refine Fg ?_;(try walk_nrm);refine Ai fun v W H=>?_;go_simp;refine H _ ?_;clear H W v;(try walk_nrm);refine len (Hd (Au ?_));simp only[ix,Nat.reduceAdd];(iterate 4 (refine Ai fun v W H=>?_;go_simp;refine H _ ?_;clear H W v;try walk_nrm))
  refine Ahr (v':=(y:Int)) h7 rfl h2 hv (tk:=fun x=>I7.sk.took x\/x=y) hy (fun x=>⟨fun q=>q.imp id fun e=>⟨e,.inr rfl⟩,fun q=>q.imp id And.left⟩) hB' (fun w hc hf=>⟨_,_,Po rfl rfl (by k_ne) rfl (by simp[Act.eval]) (by simp[Act.eval]) (by kernel_rfl) hc hf,.inr rfl,fun e he=>⟨true,by simpa using he⟩⟩) fun I8 w8 h8 A8 t8 _=>?_;clear hg;have hg:=h8.ng;(try walk_nrm);refine len ?_;refine Bz (fun _=>stepG_end) ?_;refine Bz (fun _=>stepG_unwind_enter rfl func52 (by kernel_rfl) rfl) ?_;refine Fh (m:=0) (by omega) h2 h8 rfl fun I9 w9 h9 A9=>?_;clear hg;have hg:=h9.ng;exact Ak rfl hg (fun w2=>stepG_leave (v:=.tuple #[]) rfl rfl func30 (by kernel_rfl) (by kernel_rfl)) (KD _ _ h9 (((A4.trans A7).trans A8).trans A9) (A9.took _ ((t8 y).2 (.inr rfl))))
 ·have n1:decide (v < 0)=false:=by simpa using hneg
  by_cases hlt:(y:Int) < v
  ·have n2:decide ((y:Int) < v)=true:=by simpa using hlt
   have hB':Ld (fun x=>I7.sk.took x\/x=y) (y:Int):=by
    rcases hB with⟨rfl,hn⟩|⟨z,rfl,hz,hm⟩
    ·omega
    ·exact .inr ⟨y,rfl,.inr rfl,fun x hx=>by rcases hx with q|rfl;exact(by have:=hm x q;omega);exact Nat.le_refl _⟩
   (iterate 6 (refine Ai fun v W H=>?_;go_simp;refine H _ ?_;clear H W v;try walk_nrm))
   refine Ahr (v':=v) h7 rfl h2 hv (tk:=I7.sk.took) hy (fun x=>⟨.inl,fun q=>q.elim id fun e=>e.1 ▸ e.2⟩) hB (fun w hc hf=>⟨_,_,Iv rfl rfl (by k_ne) rfl (by simp[Act.eval]) (by kernel_rfl) hc,.inl ⟨rfl,rfl⟩,fun e he=>⟨false,by simpa using he⟩⟩) fun I10 w10 h10 A10 t10 hv10=>?_;clear hv;have hv:=hv10;replace hB':Ld (fun x=>I10.sk.took x\/x=y) (y:Int):=by
    rw[show (fun x=>I10.sk.took x\/x=y)=(fun x=>I7.sk.took x\/x=y) from funext fun x=>by rw[propext (t10 x)]];exact hB'
   clear hg;have hg:=h10.ng;(try walk_nrm);(iterate 2 (refine Ai fun v W H=>?_;go_simp;refine H _ ?_;clear H W v;try walk_nrm));refine len (Hd (Au ?_));simp only[ix,Nat.reduceAdd];(iterate 4 (refine Ai fun v W H=>?_;go_simp;refine H _ ?_;clear H W v;try walk_nrm));refine Ahr (v':=(y:Int)) h10 rfl h2 hv (tk:=fun x=>I10.sk.took x\/x=y) hy (fun x=>⟨fun q=>q.imp id fun e=>⟨e,.inr rfl⟩,fun q=>q.imp id And.left⟩) hB' (fun w hc hf=>⟨_,_,Po rfl rfl (by k_ne) rfl (by simp[Act.eval]) (by simp[Act.eval]) (by kernel_rfl) hc hf,.inr rfl,fun e he=>⟨true,by simpa using he⟩⟩) fun I8 w8 h8 A8 t8 _=>?_;clear hg;have hg:=h8.ng;(try walk_nrm);refine len ?_;refine Bz (fun _=>stepG_end) ?_;refine Bz (fun _=>stepG_unwind_enter rfl func52 (by kernel_rfl) rfl) ?_;refine Fh (m:=0) (by omega) h2 h8 rfl fun I9 w9 h9 A9=>?_;clear hg;have hg:=h9.ng;exact Ak rfl hg (fun w2=>stepG_leave (v:=.tuple #[]) rfl rfl func30 (by kernel_rfl) (by kernel_rfl)) (KD _ _ h9 ((((A4.trans A7).trans A10).trans A8).trans A9) (A9.took _ ((t8 y).2 (.inr rfl))))
  ·have n2:decide ((y:Int) < v)=false:=by simpa using hlt
   have hB':Ld (fun x=>I7.sk.took x\/x=y) v:=by
    rcases hB with⟨rfl,hn⟩|⟨z,rfl,hz,hm⟩
    ·omega
    ·exact .inr ⟨z,rfl,.inl hz,fun x hx=>by rcases hx with q|rfl;exact hm x q;omega⟩
   (iterate 6 (refine Ai fun v W H=>?_;go_simp;refine H _ ?_;clear H W v;try walk_nrm))
   refine Ahr (v':=v) h7 rfl h2 hv (tk:=fun x=>I7.sk.took x\/x=y) hy (fun x=>⟨fun q=>q.imp id fun e=>⟨e,.inr rfl⟩,fun q=>q.imp id And.left⟩) hB' (fun w hc hf=>⟨_,_,Iv rfl rfl (by k_ne) rfl (by simp[Act.eval]) (by kernel_rfl) hc,.inl ⟨rfl,rfl⟩,fun e he=>⟨false,by simpa using he⟩⟩) fun I10 w10 h10 A10 t10 _=>?_;clear hg;have hg:=h10.ng;(try walk_nrm);(iterate 2 (refine Ai fun v W H=>?_;go_simp;refine H _ ?_;clear H W v;try walk_nrm));refine len (Gl (Gz ?_));refine Bz (fun _=>stepG_end) ?_;refine Bz (fun _=>stepG_unwind_enter rfl func52 (by kernel_rfl) rfl) ?_;refine Fh (m:=0) (by omega) h2 h10 rfl fun I9 w9 h9 A9=>?_;clear hg;have hg:=h9.ng;exact Ak rfl hg (fun w2=>stepG_leave (v:=.tuple #[]) rfl rfl func30 (by kernel_rfl) (by kernel_rfl)) (KD _ _ h9 (((A4.trans A7).trans A10).trans A9) (A9.took _ ((t10 y).2 (.inr rfl))))
end
section
variable {ty:TypeId} {top:Nat} {I I' I2:Ab} {p:Ph} {w w' w2:World} {i j n:Nat} {P:Program} {Post:Value->World->Prop} {es:Array Event} {g g':Goroutine} {b:Frame} {a:Act} {k:List Item} {cs:List Frame} {ops:Array Oper} {D:List Deferred}
theorem Oy {id:Nat} (hm:P.follows .mixedOrders=true) (ht:¬(I.tag i).tied) (h:∀t,LV P ty top Post i I w (G (b.at a (.inRegion ops (Region.linearise.go .any ops ops.size t (Array.replicate ops.size false) [])::k)) cs)) :
  LV P ty top Post i I w (G (b.at a (.code (.region id ops true)::k)) cs):=by
 refine Ns rfl ht fun I2 w2 hrl hI=>⟨_,_,_,stepG_region_draw,⟨Nat.le_refl _,rfl,rfl,rfl,fun _ _ _=>rfl,fun e he=>by simp at he⟩,?_⟩;simp only[Region.schedule,hm,Bool.true_or,if_true];exact(h _).rely (hrl.trans ((Mn hI.hs).trans (G5.at _ _ _ _)))
theorem Sv (J:Nat->Array Bool->Array Value->Ab->World->Prop)
  (hnil:∀listed T I w,J 0 listed T I w->LV P ty top Post i I w (G (b.at ⟨T,D⟩ (.inRegion ops []::k)) cs))
  (hne:∀m listed T I w,J (m+1) listed T I w->Region.ready .any ops listed≠[])
  (hst:∀m listed T I w,J (m+1) listed T I w->∀l∈Region.ready .any ops listed,∀rest,(∀T' I' w',J m (listed.setIfInBounds l true) T' I' w'->LV P ty top Post i I' w' (G (b.at ⟨T',D⟩ (.inRegion ops rest::k)) cs)) ->
   LV P ty top Post i I w (G (b.at ⟨T,D⟩ (.inRegion ops (l::rest)::k)) cs)) :
  ∀m t listed T I w,J m listed T I w->LV P ty top Post i I w (G (b.at ⟨T,D⟩ (.inRegion ops (Region.linearise.go .any ops m t listed [])::k)) cs):=by
 intro m
 induction m with
 | zero=>intro t listed T I w h;exact hnil _ _ _ _ h
 | succ m ih =>
  intro t listed T I w h;have h0:=hne m _ _ _ _ h;simp only[Region.linearise.go]
  change LV P ty top Post i I w (G (b.at ⟨T,D⟩ (.inRegion ops (match (Region.ready .any ops listed)[t % (Region.ready .any ops listed).length]? with
   | some i=>Region.linearise.go .any ops m (t / (Region.ready .any ops listed).length) (listed.setIfInBounds i true) [i]
   | none=>[].reverse)::k)) cs)
  cases hi:(Region.ready .any ops listed)[t % (Region.ready .any ops listed).length]? with
  | none =>
   exfalso;cases hr:Region.ready .any ops listed with
   | nil=>exact h0 hr
   | cons x xs =>
    rw[hr] at hi;have hlt:t % (x::xs).length < (x::xs).length:=Nat.mod_lt _ (by simp);simp at hi;simp at hlt;omega
  | some l =>
   simp only[];rw[linearise_go_acc,List.reverse_singleton,List.singleton_append];exact hst m _ _ _ _ h l (List.mem_of_getElem? hi) _ fun T' I' w' h'=>ih _ _ _ _ _ h'
end
end Go.Proofs.YtbicafgmfgdckaaGreatDoor
