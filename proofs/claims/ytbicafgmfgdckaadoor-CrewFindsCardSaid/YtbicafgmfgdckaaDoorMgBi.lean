/- Rows of sums: whether two are the same; the reference's sums of texts. Two sums are compared: what is listed: nothing. Find's job: a text's sum is compared; what is found is taken. The crew's pact: main, by itself again, looks at what was found. For any program. Which text is the first of a sum: plain. -/
import Derived.Test.YtbicafgmfgdckaaDoorMgBg
import Derived.Test.YtbicafgmfgdckaaDoorMgBh
import Derived.Test.YtbicafgmfgdckaaDoorMgBe
import Derived.Test.YtbicafgmfgdckaaDoorMgBf
import Derived.Test.YtbicafgmfgdckaaDoorMgAn
import Derived.Test.YtbicafgmfgdckaaDoorMgAz
import Derived.Stop.BytesEq
import Derived.Conc.EventLaws2
import Derived.Conc.AppendEvents3
namespace Go.Proofs.YtbicafgmfgdckaaDoor
open Go Go.RowKit

def keyC (k:List (BitVec 8)):List Value:=k.map U8
def zeroKey:List (BitVec 8):=List.replicate 32 0
theorem id_info:(Tryd.prog.info? 39).map (fun i=>(i.zero,i.size,i.bytes))=some (some (.agg (keyC zeroKey).toArray),32,32):=by kernel_rfl
theorem id_zsize:(Value.agg (keyC zeroKey).toArray).cells.size=32:=by
 show (keyC zeroKey).toArray.size=32
 simp[keyC,zeroKey]
theorem one_keyC (k:List (BitVec 8)):∀u∈keyC k,u.oneCell'=true:=fun u hu=>by
 obtain⟨y,_,rfl⟩:=List.mem_map.1 hu
 rfl
def ub (c:BitVec 8):UInt8:=UInt8.ofNat c.toNat
theorem ub_inj {c d:BitVec 8} (h:ub c=ub d):c=d:=by
 apply BitVec.eq_of_toNat_eq
 have:=congrArg UInt8.toNat h
 simpa [ub] using this
theorem map_ub_beq:∀k m:List (BitVec 8),(k.map ub==m.map ub)=(k==m):=fun k m=>by
 rw[Bool.eq_iff_iff,beq_iff_eq,beq_iff_eq]
 constructor
 ·intro h
  induction k generalizing m with
  | nil=>cases m with
   | nil=>rfl
   | cons d m=>simp at h
  | cons c k ih=>cases m with
   | nil=>simp at h
   | cons d m =>
    simp only[List.map_cons,List.cons.injEq] at h
    rw[ub_inj h.1,ih m h.2]
 ·rintro rfl;rfl
theorem map_cell (k:List (BitVec 8)):(k.map ub).map Extern.Stop.cell=k.map U8:=by
 rw[List.map_map]
 apply List.map_congr_left
 intro c _
 simp[Extern.Stop.cell,ub,U8]
theorem run_eql_id (k m:List (BitVec 8)) (hk:k.length=32) (hm:m.length=32) (w:World) :
  (binOp .eql 39 (.agg (k.map U8).toArray) (.agg (m.map U8).toArray)).run Tryd.prog w=.ok (.bool (k==m)) w:=by
 have h:=run_eql_bytes (P:=Tryd.prog) w 39 5 32 Tryd.underlying39 Tryd.underlying5 (fun w=>by kernel_rfl) (k.map ub) (m.map ub) (by simpa using hk) (by simpa using hm)
 rw[map_cell,map_cell,map_ub_beq] at h
 exact h
def RSumsRel (w:World) (ls:Txts) (v i:Value) (wr:World):Prop :=
 ∃k:Nat,k<=ls.length/\i=.int .i64 k/\OwnsC keyC 32 wr w.heap.size 39 v ((ls.take k).map Sha.sum)/\Below w.heap.size w wr
set_option maxHeartbeats 2000000 in
theorem refSums_any (a:Option Addr) (cap:Nat) (ls:Txts) (w:World) (hr:Texts w a cap ls) (hn:ls.length<=100000) (hl:∀r∈ls,r.length<=1000000) :
  Calls Tryd.prog 11 #[.slice a ls.length cap] w fun e w'=>∃v,e=.returned v/\OwnsC keyC 32 w' w.heap.size 39 v (ls.map Sha.sum)/\Below w.heap.size w w':=by
 have hfit:=hr.fits
 have hroom:=hr.room
 have HR:=Lib.hid hr
 have HL:=Lib.hid hl
 clear hr hl
 go_enter Tryd.func11,Tryd.ntmps11
 go_wp2_with fail
 go_loopw [3,4] (fun v i wr=>RSumsRel w ls v i wr) (fun _ i _=>ls.length - (intOf i).toNat)
 case atStart=>exact⟨0,Nat.zero_le _,rfl,ownsC_nil _ _ _,Below.refl _ _⟩
 case round =>
  obtain⟨k,hk,rfl,HO,hbr⟩:=hrel
  by_cases hlt:k < ls.length
  ·obtain⟨b,off,rfl,hrows⟩:=(HR.out.keeps (Keeps.below hbr)).rows.resolve_left (fun e=>by rw[e] at hlt;simp at hlt)
   obtain⟨x,c,hcell,hreads⟩:=hrows k hlt
   have hsn:(ls.take (k+1)).map Sha.sum=(ls.take k).map Sha.sum++[Sha.sum (txt ls k)]:=by
    rw[List.take_succ_eq_append_getElem hlt,List.map_append,txt_lt hlt];rfl
   have hfl:((ls.take k).map Sha.sum).length<=100000:=by rw[List.length_map,List.length_take];omega
   have hml:(txt ls k).length<=1000000:=by rw[txt_lt hlt];exact HL.out _ (List.getElem_mem hlt)
   have HSN:=Lib.hid hsn
   have HO1:=Lib.hid HO
   have HBR:=Lib.hid hbr
   clear hsn HO hbr hrows
   generalize txt ls k=m at *
   generalize (ls.take k).map Sha.sum=FL at *
   go_wp2_with fail
   refine(rsum_any x c m wr hreads hml).mono ?_
   rintro e w4 ⟨rfl,hb4⟩
   have hkl:=sum_length m
   generalize Sha.sum m=D at *
   have HO4:=Lib.hid (HO1.out.below hb4)
   have HB4:=Lib.hid (HBR.out.trans (hb4.mono HBR.out.size))
   have hones:=one_keyC D
   have hlen:(D.map U8).length=32:=by rw[List.length_map];exact hkl
   have hkc:keyC D=D.map U8:=rfl
   have HKC:=Lib.hid hkc
   rw[hkc] at hones
   clear hkc hb4 hcell hreads HO1 HBR
   generalize hM:D.map U8=M at *
   have HM:=Lib.hid hM
   clear hM
   have HONE:=Lib.hid hones
   have HLEN:=Lib.hid hlen
   clear hones hlen
   go_wp2_with (first
    |(with_reducible refine at_slit 23 ?_;go_must (refine wpList_lit_append Tryd.underlying23 id_info id_zsize (by decide) (by decide) rfl _ rfl rfl _ _ rfl w.heap.size _ FL HO4.out D M HKC.out rfl rfl rfl HONE.out HLEN.out (by omega) (by decide) HB4.out.size ?_)))
   intro v5 w5 HO5 T5 hv5
   have HBF:=Lib.hid (touch_own HB4.out (Nat.le_refl _) HO4.out T5)
   have HOF:=Lib.hid HO5
   clear T5 hv5 HO5
   go_wp2
   go_roundw
   case rel=>exact⟨k+1,by omega,by go_num,by rw[HSN.out];exact HOF.out,HBF.out⟩
   case measure=>simp[intOf];omega
  ·obtain rfl:k=ls.length:=by omega
   rw[List.take_length] at HO
   have HO1:=Lib.hid HO
   have HBR:=Lib.hid hbr
   clear HO hbr
   go_wp2
   go_ret
   exact⟨_,rfl,HO1.out,HBR.out⟩
end Go.Proofs.YtbicafgmfgdckaaDoor
namespace Go.Proofs.YtbicafgmfgdckaaDoor
open Go Go.RowKit
open Go.Extern.Stop (cell)
section
variable {P:Program}
theorem ev_equalIn_bytes (d:Nat) (t e:TypeId) (n:Nat) (ht:P.underlying t=some (.array n e)) (he:P.underlying e=some (.int .u8)) (hsz:∀w,(sizeOf e).run P w=.ok 1 w) (w:World) (es:Array Event)
  (xs ys:List UInt8) (hx:xs.length=n) (hy:ys.length=n) :
  (Op.equalIn (d+2) t (.agg (xs.map cell).toArray) (.agg (ys.map cell).toArray)).events P w es=es:=by
 rw[Op.equalIn]
 simp only[Sem.events_bind,Sem.run_bind,run_underlying ht,events_underlying,Result.evThen_ok,Result.andThen_ok,hsz,events_sizeOf,Std.Legacy.Range.forIn_eq_forIn_range',Std.Legacy.Range.size,Nat.sub_zero,Nat.add_sub_cancel,Nat.div_one]
 have hl:∀i∈List.range' 0 n 1,i < n:=fun i hi=>by simpa using (List.mem_range'_1.1 hi).2
 generalize List.range' 0 n 1=l at hl ⊢
 induction l generalizing es with
 | nil=>simp
 | cons i l ih =>
  have hi:i < n:=hl i (by simp)
  have px:(part e (xs.map cell).toArray (i * 1)).run P w=.ok (cell (xs.getD i 0)) w:=by
   simp[part,isAgg,run_underlying he,List.getD,List.getElem?_eq_getElem (show i < xs.length by omega)]
  have py:(part e (ys.map cell).toArray (i * 1)).run P w=.ok (cell (ys.getD i 0)) w:=by
   simp[part,isAgg,run_underlying he,List.getD,List.getElem?_eq_getElem (show i < ys.length by omega)]
  have qx:∀es,(part e (xs.map cell).toArray (i * 1)).events P w es=es:=fun es=>by
   simp[part,isAgg,run_underlying he,List.getD,List.getElem?_eq_getElem (show i < xs.length by omega)]
  have qy:∀es,(part e (ys.map cell).toArray (i * 1)).events P w es=es:=fun es=>by
   simp[part,isAgg,run_underlying he,List.getD,List.getElem?_eq_getElem (show i < ys.length by omega)]
  have pe:∃b,(Op.equalIn (d+1) e (cell (xs.getD i 0)) (cell (ys.getD i 0))).run P w=.ok b w:=by
   rw[cell,cell,run_equalIn_int w d e .u8 .u8 _ _ he]
   exact⟨_,rfl⟩
  have qe:∀es,(Op.equalIn (d+1) e (cell (xs.getD i 0)) (cell (ys.getD i 0))).events P w es=es:=fun es=>by
   rw[cell,cell,Op.equalIn]
   simp[run_underlying he]
  obtain⟨b,pe⟩:=pe
  simp only[List.forIn_cons,Sem.events_bind,Sem.run_bind,px,py,pe,qx,qy,qe,Result.andThen_ok,Result.evThen_ok]
  cases b
  ·simp
  ·simp only[Bool.not_true,Bool.false_eq_true,if_false,Sem.run_pure,Sem.events_pure,Result.andThen_ok,Result.evThen_ok]
   exact ih _ fun j hj=>hl j (by simp[hj])
end
theorem run_eqIn_id (k m:List (BitVec 8)) (hk:k.length=32) (hm:m.length=32) (w:World) :
  (Op.equalIn 10000 39 (.agg (k.map U8).toArray) (.agg (m.map U8).toArray)).run Tryd.prog w=.ok (k==m) w:=by
 have h:=run_equalIn_bytes (P:=Tryd.prog) w 9998 39 5 32 Tryd.underlying39 Tryd.underlying5 (fun w=>by kernel_rfl) (k.map ub) (m.map ub) (by simpa using hk) (by simpa using hm)
 rwa [map_cell,map_cell,map_ub_beq] at h
theorem ev_eqIn_id (k m:List (BitVec 8)) (hk:k.length=32) (hm:m.length=32) (w:World) (es:Array Event) :
  (Op.equalIn 10000 39 (.agg (k.map U8).toArray) (.agg (m.map U8).toArray)).events Tryd.prog w es=es:=by
 have h:=ev_equalIn_bytes (P:=Tryd.prog) 9998 39 5 32 Tryd.underlying39 Tryd.underlying5 (fun w=>by kernel_rfl) w es (k.map ub) (m.map ub) (by simpa using hk) (by simpa using hm)
 rwa [map_cell,map_cell] at h
theorem ev_guard_id (ox oy:Operand) (a b:Array Value) (w:World) (es:Array Event):(eqGuard .neq 39 ox oy (.agg a) (.agg b)).events Tryd.prog w es=es:=by
 have hq:Tryd.prog.eqGuardType Tryd.prog.depth 39=false:=by kernel_rfl
 unfold eqGuard
 simp[hq]
theorem ev_neq_id (k m:List (BitVec 8)) (hk:k.length=32) (hm:m.length=32) (w:World) (es:Array Event) :
  (binOp .neq 39 (.agg (k.map U8).toArray) (.agg (m.map U8).toArray)).events Tryd.prog w es=es:=by
 show (do pure (.bool (!(<- Op.equal 39 (.agg (k.map U8).toArray) (.agg (m.map U8).toArray)))):Sem Value).events Tryd.prog w es=es
 rw[Op.equal,Op.maxDepth]
 simp only[Sem.events_bind,run_eqIn_id k m hk hm,ev_eqIn_id k m hk hm,Result.evThen_ok,Sem.events_pure]
end Go.Proofs.YtbicafgmfgdckaaDoor
namespace Go.Proofs.YtbicafgmfgdckaaDoor
open Go Go.RowKit Go.Conc Go.Conc.Lib Go.ConcR.Gen
open Go.ConcR (KK wgBlock WgAt stA smA rd wr mk DC0)
open Go.ConcN (sumTo upd upd_same upd_ne RelBy PermW WgLive)
theorem ev_loadCells {P:Program} (a:Addr):∀(n i:Nat) (acc:Array Value) (w:World) (es:Array Event),(∀j,j < n->(w.cell? (a.add (i+j))).isSome) ->
  ∀ev∈(loadCellsFrom a i n acc).events P w es,ev∈es\/∃j,ev=⟨.cell (a.add (i+j)),false,false⟩
 | 0,_,_,_,_,_=>fun ev h=>.inl (by simpa [loadCellsFrom] using h)
 | n+1,i,acc,w,es,hc=>fun ev h=>by
  simp only[loadCellsFrom,Sem.events_bind] at h
  obtain⟨u,hu⟩:=Option.isSome_iff_exists.1 (hc 0 (by omega))
  simp only[Nat.add_zero] at hu
  have hr:(load (a.add i)).run P w=.ok u w:=by simp[hu]
  rw[hr,events_load,hu] at h
  rcases ev_loadCells a n (i+1) (acc.push u) w _ (fun j hj=>by have:=hc (j+1) (by omega);rwa [show i+(j+1)=i+1+j by omega] at this) ev h with h|⟨j,h⟩
  ·rcases Array.mem_push.1 h with h|rfl
   ·exact .inl h
   ·exact .inr ⟨0,rfl⟩
  ·exact .inr ⟨j+1,by rw[show i+(j+1)=i+1+j by omega];exact h⟩
theorem exec_load_row {P:Program} {a:Act} {op:Oper} {ty:TypeId} {x:Operand} {g o:Nat} {vs:List Value} {w:World} (ho:op.op=.load ty x) (hx:a.eval x=.pointer (some ⟨g,o,none⟩))
  (ha:∀w,(isAgg ty).run P w=.ok true w) (hae:∀w es,(isAgg ty).events P w es=es) (hi:(P.info? ty).map (·.size)=some vs.length) (hc:∀j v,vs[j]?=some v->w.cell? ⟨g,o+j,none⟩=some v) :
  (execOp a.eval op).run P w=.ok (.value (.agg vs.toArray)) w/\∀ev∈(execOp a.eval op).events P w #[],∃j,ev=⟨.cell ⟨g,o+j,none⟩,false,false⟩:=by
 have hsz:∀w,(sizeOf ty).run P w=.ok vs.length w:=fun w=>by
  cases hq:P.info? ty with
  | none=>simp[hq] at hi
  | some i =>
   simp[hq] at hi
   simp[sizeOf,typeInfo,hq,hi]
 have hse:∀w es,(sizeOf ty).events P w es=es:=fun w es=>by simp
 have hadd:∀j,(⟨g,o,none⟩:Addr).add j=⟨g,o+j,none⟩:=fun j=>by unfold Addr.add;split<;>simp_all
 have hr:(loadCells ⟨g,o,none⟩ vs.length).run P w=.ok vs.toArray w:=run_loadCells_list (P:=P) w ⟨g,o,none⟩ vs fun j v h=>by rw[hadd];exact hc j v h
 have he:=ev_loadCells (P:=P) ⟨g,o,none⟩ vs.length 0 #[] w #[] (fun j hj=>by
  rw[Nat.zero_add,hadd,hc j _ (List.getElem?_eq_getElem hj)]
  rfl)
 constructor
 ·unfold execOp
  simp only[ho,hx,Instr.loadAt,Instr.sureAddr,loadVar,Sem.run_bind,Sem.run_pure,Result.andThen_ok,hsz,ha,if_true,hr]
 ·intro ev h
  unfold execOp at h
  simp only[ho,hx,Instr.loadAt,Instr.sureAddr,loadVar,Sem.events_bind,Sem.events_pure,Sem.run_bind,Sem.run_pure,Result.andThen_ok,Result.evThen_ok,hsz,hse,ha,hae,if_true,hr] at h
  obtain⟨j,q⟩:=(he ev h).resolve_left (by simp)
  exact⟨j,by rw[Nat.zero_add,hadd] at q;exact q⟩
structure FindIn (p:Ph) (Hw:World) (LB IB BB:Nat) (rows:List (List (BitVec 8))) (id:List (BitVec 8)):Prop where
 n:p.n=rows.length
 small:p.n<=1000
 rws:∃lb lo lc,(rows≠[]->Hw.cell? ⟨LB,0,none⟩=some (.slice (some ⟨lb,lo,none⟩) p.n lc))/\∀x row,rows[x]?=some row->row.length<=1048576/\∃ra rc,Hw.cell? ⟨lb,lo+x,none⟩=some (.slice ra row.length rc)/\Reads Hw ra rc row/\∀ad,ra=some ad->∃o v,Hw.cell? ⟨ad.block,o,none⟩=some v
 idl:id.length=32
 ib:∀j v,(id.map U8)[j]?=some v->Hw.cell? ⟨IB,j,none⟩=some v
 bb:Hw.cell? ⟨BB,0,none⟩=some (.pointer (some ⟨p.out,0,none⟩))
 k:KTab Hw
 hit:∀x row,rows[x]?=some row->(p.hit x↔Sha.sum row=id)
section
variable {top:Nat} {γ γ' γ2:Gho} {p:Ph} {w w' w2:World} {i j k n:Nat} {Post:Value->World->Prop} {es:Array Event} {g g':Goroutine} {Hw:World} {LB IB BB:Nat} {id:List (BitVec 8)}
noncomputable def fjOps:Array Oper:=match (match Tryd.f23.body with|some (.seq _ (.seq (.seq (.region _ ops _) _) _))=>some ops|_=>none) with|some ops=>ops|none=>#[]
theorem ready_fj:∀b0 b1 b2 b3 b4 b5 b6:Bool,Region.ready .any fjOps #[b0,b1,b2,b3,b4,b5,b6]=[]->(b0&&b1&&b2&&b3&&b4&&b5&&b6)=true:=by decide +kernel
theorem ready_fj0:∀b0 b1 b2 b3 b4 b5 b6:Bool,0∈Region.ready .any fjOps #[b0,b1,b2,b3,b4,b5,b6]->(!b0)=true:=by decide +kernel
theorem ready_fj1:∀b0 b1 b2 b3 b4 b5 b6:Bool,1∈Region.ready .any fjOps #[b0,b1,b2,b3,b4,b5,b6]->(!b1)=true:=by decide +kernel
theorem ready_fj2:∀b0 b1 b2 b3 b4 b5 b6:Bool,2∈Region.ready .any fjOps #[b0,b1,b2,b3,b4,b5,b6]->(!b2&&b0&&b1)=true:=by decide +kernel
theorem ready_fj3:∀b0 b1 b2 b3 b4 b5 b6:Bool,3∈Region.ready .any fjOps #[b0,b1,b2,b3,b4,b5,b6]->(!b3&&b2)=true:=by decide +kernel
theorem ready_fj4:∀b0 b1 b2 b3 b4 b5 b6:Bool,4∈Region.ready .any fjOps #[b0,b1,b2,b3,b4,b5,b6]->(!b4&&b3)=true:=by decide +kernel
theorem ready_fj5:∀b0 b1 b2 b3 b4 b5 b6:Bool,5∈Region.ready .any fjOps #[b0,b1,b2,b3,b4,b5,b6]->(!b5)=true:=by decide +kernel
theorem ready_fj6:∀b0 b1 b2 b3 b4 b5 b6:Bool,6∈Region.ready .any fjOps #[b0,b1,b2,b3,b4,b5,b6]->(!b6&&b4&&b5)=true:=by decide +kernel
def FindAt (p:Ph) (LB IB BB i x:Nat) (row id:List (BitVec 8)) (lb lo lc:Nat) (ra:Option Addr) (rc:Nat) (γ0:Gho) (m:Nat) (listed:Array Bool) (T:Array Value) (γ:Gho) (_:World):Prop :=
 ∃b0 b1 b2 b3 b4 b5 b6:Bool,∃t6 t7 t8 t9 t10 t11 t12:Value,listed=#[b0,b1,b2,b3,b4,b5,b6]/\m=(if b0 then 0 else 1)+(if b1 then 0 else 1)+(if b2 then 0 else 1)+(if b3 then 0 else 1)+(if b4 then 0 else 1)+(if b5 then 0 else 1)+(if b6 then 0 else 1)/\T=#[.int .i64 (x:Int),.pointer (some ⟨LB,0,none⟩),.pointer (some ⟨IB,0,none⟩),.pointer (some ⟨BB,0,none⟩),undef,.bool false,t6,t7,t8,t9,t10,t11,t12,undef,undef,undef] /\
 (b0=true->t6=(Value.slice (some ⟨lb,lo,none⟩) p.n lc))/\(b1=true->t7=(Value.int .i64 (x:Int)))/\(b2=true->t8=(Value.pointer (some ⟨lb,lo+x,none⟩)))/\(b3=true->t9=(Value.slice ra row.length rc))/\(b4=true->t10=(Value.agg ((Sha.sum row).map U8).toArray))/\(b5=true->t11=(Value.agg (id.map U8).toArray))/\(b6=true->t12=(Value.bool (Sha.sum row != id)))/\In p i x 0 (fun _=>.fresh) γ/\Kw i γ0 γ
theorem fresh_upd:upd (fun _:Nat=>ML.fresh) 0 .fresh=fun _=>.fresh:=by funext z;by_cases q:z=0<;>simp[upd,q]
theorem skF_upd:upd skF 1 .fresh=skF:=by funext z;by_cases q:z=1<;>simp[upd,q,skF]
set_option maxRecDepth 100000 in
set_option maxHeartbeats 4000000 in
theorem find_job {rows:List (List (BitVec 8))} (hS:Snap i p γ Hw) (hIn:FindIn p Hw LB IB BB rows id) (hkd:p.kind=.seek) (hbi:p.b<=i) (hi0:i≠0) (hgl:Tryd.prog.globals.size<=γ.hs):Job p top Post i γ w 23 #[.pointer (some ⟨LB,0,none⟩),.pointer (some ⟨IB,0,none⟩),.pointer (some ⟨BB,0,none⟩)]:=by
 intro x γ1 w1 c cs fn cd hff hfb hkp hp ht hd hml hxn hI hK hK2
 rw[Tryd.func23] at hff
 obtain rfl:=Option.some.inj hff
 obtain rfl:(Tryd.f23.body.getD .skip)=cd:=by rw[hfb];rfl
 clear hff hfb
 obtain⟨row,hrow⟩:∃row,rows[x]?=some row:=⟨rows[x]'(by rw[<- hIn.n];exact hxn),by simp⟩
 have hne:rows≠[]:=fun e=>by rw[e] at hrow;simp at hrow
 obtain⟨lb,lo,lc,hlb,hr⟩:=hIn.rws
 replace hlb:=hlb hne
 obtain⟨hlen,ra,rc,hrw,hrd,hra⟩:=hr x row hrow
 clear hr
 have hsm:=hIn.small
 have hidx:(0:Int)<=(x:Int)/\(x:Int) < (p.n:Int):=⟨by omega,by omega⟩
 have hin0:In p i x 0 (fun _=>.fresh) γ1:=⟨hp,hkd,hbi,hi0,ht,hd,fun m _=>hml m⟩
 clear hp hd ht hml;have hg:=hin0.ng
 have hs:=hin0.ns
 simp only[Tryd.f23,Option.getD_some]
 walk_nrm;refine lsq hg ?_;refine lrg hg ?_;simp only[ix,Nat.reduceAdd];refine lop hg rfl rfl (by k_ne) fun v W H=>?_;go_simp;refine H _ _ rfl (by simp[go_sem]) ?_;clear H W v;(try walk_nrm);refine len hg ?_;refine lsq hg ?_;refine lsq hg ?_
 refine lives_draw (by kernel_rfl) hs fun t=>?_
 refine lives_any (FindAt p LB IB BB i x row id lb lo lc ra rc γ1) (fun listed T γ w h=>?_) (fun m listed T γ w h=>?_) (fun m listed T γ w h l hl rest hnext=>?_) _ _ _ _ _ _ ⟨_,_,_,_,_,_,_,_,_,_,_,_,_,_,rfl,rfl,rfl,nofun,nofun,nofun,nofun,nofun,nofun,nofun,hin0,.refl _ _⟩
 ·obtain⟨b0,b1,b2,b3,b4,b5,b6,t6,t7,t8,t9,t10,t11,t12,rfl,hm,rfl,q0,q1,q2,q3,q4,q5,q6,hin,hk2⟩:=h
  have hall:b0=true/\b1=true/\b2=true/\b3=true/\b4=true/\b5=true/\b6=true:=by
   revert hm
   cases b0<;>cases b1<;>cases b2<;>cases b3<;>cases b4<;>cases b5<;>cases b6<;>simp
  obtain⟨rfl,rfl,rfl,rfl,rfl,rfl,rfl⟩:=hall
  obtain rfl:=q6 rfl
  clear hm q0 q1 q2 q3 q4 q5 hg hs hI;have hg:=hin.ng
  by_cases he:Sha.sum row=id
  ·have hb:(Sha.sum row != id)=false:=by simp[he]
   have hh:=(hIn.hit x row hrow).2 he
   rw[hb]
   have hs:=hin.ns
   have hkk:=hkp.trans hk2
   refine len hg ?_;refine lcf hg rfl ?_;refine lsk hg ?_;refine lsq hg ?_;refine lrg hg ?_;simp only[ix,Nat.reduceAdd]
   have hFix:=hkk.F (hS _ _ _ hIn.bb).1
   refine lives_read rfl hs (fun γV wV hrl hIV=>?_)
   have hcell:wV.cell? ⟨BB,0,none⟩=some (.pointer (some ⟨p.out,0,none⟩)):=(hS.keeps hIV ((hrl.live hg).ph _ hin.on) (hkk.trans (hrl.live hg).kw)) _ _ hIn.bb
   refine goes_oper_k rfl rfl (by k_ne) (fun W hW=>?_)
   go_simp
   refine hW _ _ ⟨⟨rfl,fun e he=>?_⟩,?_⟩
   ·have hm:=mem_listed he
    simp[go_sem,hcell] at hm
    subst hm
    exact .inl ⟨_,rfl,rfl,.inr ⟨(hrl.live hg).kw.F hFix,rfl⟩⟩
   clear hW hcell;clear W;clear hrl hIV;clear γV wV;(try walk_nrm);refine lop hg rfl rfl (by k_ne) fun v W H=>?_;go_simp;refine H _ _ rfl (by simp[go_sem]) ?_;clear H W v;try walk_nrm
   refine lives_ctl rfl hg (fun _=>stepG_callv (first:=#[]) (caps:=#[]) (vs:=#[.pointer (some ⟨p.out,0,none⟩),.int .i64 (x:Nat)]) rfl rfl (by k_ne) rfl rfl (by simp[Act.eval]) Tryd.func24 (by kernel_rfl) rfl) ?_
   refine lives_take (f:=fun _=>.fresh) (fun k hk hk0=>.inr rfl) (by rw[fresh_upd];exact hin) hh fun γ5 w5 h5 A5 t5=>?_
   rw[Frame.finish_at];clear hg;have hg:=h5.ng;(try walk_nrm);refine len hg ?_;refine lsq hg ?_;refine lrg hg ?_;simp only[ix,Nat.reduceAdd];refine lop hg rfl rfl (by k_ne) fun v W H=>?_;go_simp;refine H _ _ rfl (by simp[go_sem]) ?_;clear H W v;(try walk_nrm);refine len hg ?_
   refine lives_ctl rfl hg (fun _=>stepG_ret') ?_
   exact lives_ctl rfl hg (fun w2=>stepG_leave (v:=.bool false) rfl rfl Tryd.func23 (by kernel_rfl) (by kernel_rfl)) (hK2 γ5 w5 hkd (hk2.trans A5.kw) (by rw[skF_upd];exact h5) t5)
  ·have hb:(Sha.sum row != id)=true:=by simp[he]
   rw[hb]
   refine len hg ?_;refine lct hg rfl ?_;refine lsq hg ?_;refine lrg hg ?_;simp only[ix,Nat.reduceAdd];refine lop hg rfl rfl (by k_ne) fun v W H=>?_;go_simp;refine H _ _ rfl (by simp[go_sem]) ?_;clear H W v;try walk_nrm
   refine lv_looked hin rfl (fun k hk=>.inr rfl) (fun q=>absurd ((hIn.hit x row hrow).1 q) he) (fun w=>stepG_region_end) fun γ7 w7 hk7 hp7 ht7 hd7=>?_
   clear hg
   have hg:γ7.tag i≠.gone:=by rw[ht7];simp
   try walk_nrm
   refine lives_ctl rfl hg (fun _=>stepG_ret') ?_
   exact lives_ctl rfl hg (fun w2=>stepG_leave (v:=.bool true) rfl rfl Tryd.func23 (by kernel_rfl) (by kernel_rfl)) (hK γ7 w7 (hk2.trans hk7) hp7 ht7 hd7)
 ·obtain⟨b0,b1,b2,b3,b4,b5,b6,t6,t7,t8,t9,t10,t11,t12,rfl,hm,rfl,q0,q1,q2,q3,q4,q5,q6,hin,hk2⟩:=h
  intro hr
  have:=ready_fj _ _ _ _ _ _ _ hr
  simp only[Bool.and_eq_true] at this
  obtain⟨⟨⟨⟨⟨⟨rfl,rfl⟩,rfl⟩,rfl⟩,rfl⟩,rfl⟩,rfl⟩:=this
  simp at hm
 ·obtain⟨b0,b1,b2,b3,b4,b5,b6,t6,t7,t8,t9,t10,t11,t12,rfl,hm,rfl,q0,q1,q2,q3,q4,q5,q6,hin,hk2⟩:=h
  clear hg hs hI;have hg:=hin.ng
  have hs:=hin.ns
  have hkk:=hkp.trans hk2
  have hl3:l < 7:=by
   have hl':=hl
   unfold Region.ready at hl'
   have:=(List.mem_filter.1 hl').1
   simpa using this
  have hl4:l=0\/l=1\/l=2\/l=3\/l=4\/l=5\/l=6:=by omega
  clear hl3
  rcases hl4 with rfl|rfl|rfl|rfl|rfl|rfl|rfl
  ·have hb:=ready_fj0 _ _ _ _ _ _ _ hl
   simp only[Bool.and_eq_true,Bool.not_eq_true'] at hb
   obtain rfl:=hb
   have hFix:=hkk.F (hS _ _ _ hlb).1
   refine lives_read rfl hs (fun γV wV hrl hIV=>?_)
   have hcell:wV.cell? ⟨LB,0,none⟩=some ((Value.slice (some ⟨lb,lo,none⟩) p.n lc)):=(hS.keeps hIV ((hrl.live hg).ph _ hin.on) (hkk.trans (hrl.live hg).kw)) _ _ hlb
   refine goes_oper_k rfl rfl (by k_ne) (fun W hW=>?_)
   go_simp
   refine hW _ _ ⟨⟨rfl,fun e he=>?_⟩,?_⟩
   ·have hm:=mem_listed he
    simp[go_sem,hcell] at hm
    subst hm
    exact .inl ⟨_,rfl,rfl,.inr ⟨(hrl.live hg).kw.F hFix,rfl⟩⟩
   clear hW hcell;clear W;clear hrl hIV;clear γV wV;try walk_nrm
   exact hnext _ _ _ ⟨_,_,_,_,_,_,_,_,_,_,_,_,_,_,rfl,(by simp only[Bool.false_eq_true,if_false,if_true] at hm ⊢;omega),rfl,(fun _=>rfl),q1,q2,q3,q4,q5,q6,hin,hk2⟩
  ·have hb:=ready_fj1 _ _ _ _ _ _ _ hl
   simp only[Bool.and_eq_true,Bool.not_eq_true'] at hb
   obtain rfl:=hb
   refine lop hg rfl rfl (by k_ne) fun v W H=>?_;go_simp;refine H _ _ rfl (by simp[go_sem]) ?_;clear H W v;try walk_nrm
   exact hnext _ _ _ ⟨_,_,_,_,_,_,_,_,_,_,_,_,_,_,rfl,(by simp only[Bool.false_eq_true,if_false,if_true] at hm ⊢;omega),rfl,q0,(fun _=>rfl),q2,q3,q4,q5,q6,hin,hk2⟩
  ·have hb:=ready_fj2 _ _ _ _ _ _ _ hl
   simp only[Bool.and_eq_true,Bool.not_eq_true'] at hb
   obtain⟨⟨rfl,rfl⟩,rfl⟩:=hb
   obtain rfl:=q0 rfl
   obtain rfl:=q1 rfl
   refine lop hg rfl rfl (by k_ne) fun v W H=>?_;go_simp;refine H _ _ rfl (by simp[go_sem];exact events_indexAt_slice _ _ _ _ _ _ (by kernel_rfl) hidx) ?_;clear H W v;try walk_nrm
   exact hnext _ _ _ ⟨_,_,_,_,_,_,_,_,_,_,_,_,_,_,rfl,(by simp only[Bool.false_eq_true,if_false,if_true] at hm ⊢;omega),rfl,(fun _=>rfl),(fun _=>rfl),(fun _=>rfl),q3,q4,q5,q6,hin,hk2⟩
  ·have hb:=ready_fj3 _ _ _ _ _ _ _ hl
   simp only[Bool.and_eq_true,Bool.not_eq_true'] at hb
   obtain⟨rfl,rfl⟩:=hb
   obtain rfl:=q2 rfl
   have hFix:=hkk.F (hS _ _ _ hrw).1
   refine lives_read rfl hs (fun γV wV hrl hIV=>?_)
   have hcell:wV.cell? ⟨lb,lo+x,none⟩=some ((Value.slice ra row.length rc)):=(hS.keeps hIV ((hrl.live hg).ph _ hin.on) (hkk.trans (hrl.live hg).kw)) _ _ hrw
   refine goes_oper_k rfl rfl (by k_ne) (fun W hW=>?_)
   go_simp
   refine hW _ _ ⟨⟨rfl,fun e he=>?_⟩,?_⟩
   ·have hm:=mem_listed he
    simp[go_sem,hcell] at hm
    subst hm
    exact .inl ⟨_,rfl,rfl,.inr ⟨(hrl.live hg).kw.F hFix,rfl⟩⟩
   clear hW hcell;clear W;clear hrl hIV;clear γV wV;try walk_nrm
   exact hnext _ _ _ ⟨_,_,_,_,_,_,_,_,_,_,_,_,_,_,rfl,(by simp only[Bool.false_eq_true,if_false,if_true] at hm ⊢;omega),rfl,q0,q1,(fun _=>rfl),(fun _=>rfl),q4,q5,q6,hin,hk2⟩
  ·have hb:=ready_fj4 _ _ _ _ _ _ _ hl
   simp only[Bool.and_eq_true,Bool.not_eq_true'] at hb
   obtain⟨rfl,rfl⟩:=hb
   obtain rfl:=q3 rfl
   refine lives_step rfl hg fun γ2 w2 hrl hI hi=>?_
   have l2:=hrl.live hg
   have hp3:=l2.ph _ hin.on
   have hk3:=hkk.trans l2.kw
   have kp:=hS.keeps hI hp3 hk3
   have hs3:¬(γ2.tag i).tied:=by rw[hrl.tag];exact hs
   refine .go _ w2 #[] γ2 (stepG_callE (vs:=#[.slice ra row.length rc]) rfl rfl (by k_ne) rfl (by simp[Act.eval]) Tryd.func21 (by kernel_rfl) (by rfl)) (do_idle hI hi _) ?_
   refine lives_way (way_sha (F:=γ2.F i) (S:=γ2.S i) (fun b hb=>by rw[<- hI.hs];exact hb.1) (by rw[<- hI.hs];exact Nat.le_trans hgl hk3.hs) (hIn.k.keeps kp) (hk3.F (hS _ _ _ (hIn.k 0 (by decide))).1) (hrd.keeps kp) hlen (fun ad e=>?_)) γ2 rfl hI.hs (fun b hb=>hb) hs3 fun S' g' w' γ' hx hS' hs' e=>?_
   ·obtain⟨o,v,hv⟩:=hra ad e
    exact⟨hk3.F (hS _ _ _ hv).1,cells_of (kp _ _ hv)⟩
   ·subst e
    rw[Frame.finish_at];walk_nrm
    have h2:=(hin.rely hrl).1
    exact hnext _ _ _ ⟨_,_,_,_,_,_,_,_,_,_,_,_,_,_,rfl,(by simp only[Bool.false_eq_true,if_false,if_true] at hm ⊢;omega),rfl,q0,q1,q2,(fun _=>rfl),(fun _=>rfl),q5,q6,⟨hx.ph _ ⟨hp3,.inl hin.i0⟩,h2.kind,h2.b,h2.i0,hx.tag.trans h2.tag,hx.deaf.trans h2.deaf,fun m hm=>(hx.ml m).trans (h2.ml m hm)⟩,hk2.trans (l2.kw.trans hx.kw)⟩
  ·have hb:=ready_fj5 _ _ _ _ _ _ _ hl
   simp only[Bool.and_eq_true,Bool.not_eq_true'] at hb
   obtain rfl:=hb
   have hib:=hIn.ib 0 _ (List.getElem?_eq_getElem (by simp[hIn.idl]))
   have hFix:=hkk.F (hS _ _ _ hib).1
   refine lives_read rfl hs (fun γV wV hrl hIV=>?_)
   have hl:=exec_load_row (P:=Tryd.prog) (a:=⟨#[.int .i64 (x:Int),.pointer (some ⟨LB,0,none⟩),.pointer (some ⟨IB,0,none⟩),.pointer (some ⟨BB,0,none⟩),undef,.bool false,t6,t7,t8,t9,t10,t11,t12,undef,undef,undef],[]⟩) (op:=fjOps[5]) (x:=.tmp 2) (ty:=39) (g:=IB) (o:=0) (vs:=id.map U8) (w:=wV) (by kernel_rfl) rfl (fun w=>by kernel_rfl) (fun w es=>by kernel_rfl) (by rw[List.length_map,hIn.idl];kernel_rfl) (fun j v hv=>by
    rw[Nat.zero_add]
    exact(hS.keeps hIV ((hrl.live hg).ph _ hin.on) (hkk.trans (hrl.live hg).kw)) _ _ (hIn.ib j v hv))
   rw[stepG_value rfl rfl (by k_ne) hl.1]
   refine⟨⟨rfl,fun e he=>?_⟩,?_⟩
   ·obtain⟨j,rfl⟩:=hl.2 e (mem_listed he)
    exact .inl ⟨_,rfl,rfl,.inr ⟨(hrl.live hg).kw.F hFix,rfl⟩⟩
   ·exact hnext _ _ _ ⟨_,_,_,_,_,_,_,_,_,_,_,_,_,_,rfl,(by simp only[Bool.false_eq_true,if_false,if_true] at hm ⊢;omega),rfl,q0,q1,q2,q3,q4,(fun _=>rfl),q6,hin,hk2⟩
  ·have hb:=ready_fj6 _ _ _ _ _ _ _ hl
   simp only[Bool.and_eq_true,Bool.not_eq_true'] at hb
   obtain⟨⟨rfl,rfl⟩,rfl⟩:=hb
   obtain rfl:=q4 rfl
   obtain rfl:=q5 rfl
   refine lives_pure rfl hg (fun wV=>?_)
   refine goes_oper_k rfl rfl (by k_ne) (fun W hW=>?_)
   go_simp
   rw[run_eqIn_id _ _ (sum_length _) hIn.idl]
   simp only[Result.andThen_ok]
   refine hW _ _ ⟨⟨rfl,no_listed (by simp[go_sem];rw[ev_guard_id];exact ev_neq_id _ _ (sum_length _) hIn.idl _ _)⟩,?_⟩
   clear hW;clear W wV;try walk_nrm
   exact hnext _ _ _ ⟨_,_,_,_,_,_,_,_,_,_,_,_,_,_,rfl,(by simp only[Bool.false_eq_true,if_false,if_true] at hm ⊢;omega),rfl,q0,q1,q2,q3,(fun _=>rfl),(fun _=>rfl),(fun _=>rfl),hin,hk2⟩
end
end Go.Proofs.YtbicafgmfgdckaaDoor
namespace Go.Proofs.YtbicafgmfgdckaaDoor
open Go Go.Conc
open Go.ConcR (KK wgBlock WgAt stA smA rd wr mk DC0)
open Go.ConcN (sumTo upd upd_same upd_ne RelBy PermW WgLive)
section
variable {ty:TypeId} {top:Nat} {γ γ' γ2:Gho} {p:Ph} {w w' w2:World} {i j b n:Nat} {P:Program} {Post:Value->World->Prop} {es:Array Event} {g g':Goroutine} {v:Value}
theorem do_best (hI:GInv ty top γ w) (hi:0 < γ.cnt) (hns:¬(γ.tag 0).tied) (hp:γ.ph=none) (hc:γ.col=none) (hb:b < γ.hs) (hk:γ.bk b=.lock) (wk:Prop):(crewPact P ty top Post).Do 0 γ w (γ.grown 0 w) w wk #[⟨.cell ⟨b,2,none⟩,false,false⟩]:=by
 have ht:γ.tag 0≠.gone:=nt_gone hns
 have hnsd:¬(γ.tag 0).said:=fun h=>hns (Tag.tied_of_said h)
 have hD:=do_own (P:=P) (Post:=Post) (w':=w) (es:=#[]) hI hi hns ⟨Nat.le_refl _,rfl,rfl,rfl,fun _ _ _=>rfl,fun e he=>by simp at he⟩ wk
 obtain⟨d1,d2,_,d4,d5,d6,d7⟩:=hD
 refine⟨d1,d2,fun t fn pos hT=>?_,d4,d5,d6,d7⟩
 have hbk:(γ.grown 0 w).bk b=.lock:=(grown_bk hb).trans hk
 have hns':¬(γ.grown 0 w).wh.sh (.cell ⟨b,2,none⟩):=by
  rintro(⟨s,q⟩|⟨q,_⟩|⟨_,q⟩)
  ·have q':(γ.grown 0 w).bk b=.shd s:=q
   rw[hbk] at q';cases q'
  ·have q':(γ.grown 0 w).bk b=.mix:=q
   rw[hbk] at q';cases q'
  ·exact absurd q (by simp[lockSh])
 have hro:¬(γ.grown 0 w).wh.ro (.cell ⟨b,2,none⟩):=by rintro⟨m,q⟩;have q':(γ.grown 0 w).bk b=.fix m:=q;rw[hbk] at q';cases q'
 have how:(γ.grown 0 w).wh.own (.cell ⟨b,2,none⟩)=some 0:=by
  simp only[Gho.wh,blk,hbk]
  exact(hI.free hp hc).2.2.2 b
 have evt:∀e∈#[(⟨.cell ⟨b,2,none⟩,false,false⟩:Event)],∀z,(MemAct.ofEvent e).touch?=some z->z.loc=.cell ⟨b,2,none⟩/\z.kind=.plain:=fun e he z hz=>by
  simp only[List.mem_toArray,List.mem_singleton] at he
  subst he
  rw[Go.ConcR.ofEvent_cell] at hz
  simp only[MemAct.touch?,Option.some.injEq] at hz
  subst hz
  exact⟨rfl,rfl⟩
 refine GTr.own hT rfl rfl (fun op hop=>by obtain⟨e,_,rfl⟩:=mem_ofEv hop;rfl) (hI.who ht) (hI.who2 ht) ((hT.d.low hT.low (fun b hb=>grown_bk hb) rfl rfl fun k l hl hk=>⟨hk.1,hk.2.1,fun m q=>hk.2.2 m ((grown_bk hl).trans q)⟩).app hi fun op hop=>?_) (fun _ _=>rfl) ?_ (fun op hop a e=>?_) (fun m a ha=>?_) (fun k _ h1 h2=>⟨h1,h2⟩) (fun p _ _ h=>absurd h hnsd) (fun _ _ _=>rfl)
 ·obtain⟨e,he,rfl⟩:=mem_ofEv hop
  refine⟨rfl,fun z hz=>.inr ?_⟩
  obtain⟨e1,e2⟩:=evt e he z hz
  rw[e1]
  exact⟨hns',by rw[e2];simp,rfl,.inl ⟨hro,how⟩⟩
 ·rw[Deaf_own,deafBehind_still _ fun e he=>by
   simp only[List.mem_toArray,List.mem_singleton] at he
   subst he;simp]
  exact hT.deaf 0
 ·obtain⟨e',he,rfl⟩:=mem_ofEv hop
  simp only[List.mem_toArray,List.mem_singleton] at he
  subst he
  rw[Go.ConcR.ofEvent_cell] at e;cases e
 ·obtain⟨z,hz,hza⟩:=touch_of ha
  have hs:(γ.grown 0 w).hs=γ.hs:=hI.hs.symm
  rw[hs]
  rcases getElem?_append_cases hz with⟨_,hz'⟩|⟨_,hop⟩
  ·exact hT.low m a (by rw[touchAt_of hz'];exact hza)
  ·obtain⟨e,he,rfl⟩:=mem_ofEv hop
   rw[(evt e he a hza).1]
   exact hb
theorem solo_best (s:Solo γ w) (hr:g.status=.running) (hb:b < γ.hs) (hk:γ.bk b=.lock) (hst:∀w2,w2.heap=w.heap->stepG P true g w2=.go g' w2 #[⟨.cell ⟨b,2,none⟩,false,false⟩])
  (K:∀γ' w',Solo γ' w'->Later2 γ γ'->w'.heap=w.heap->w'.tape=w.tape->LV P ty top Post 0 γ' w' g'):LV P ty top Post 0 γ w g:=by
 refine lives_step hr s.ng fun γ2 w2 hrl hI hi=>?_
 obtain⟨s2,e1,e2,e3,e5,e4⟩:=s.rel hrl
 have hg:∀z,z < γ2.hs->(γ2.grown 0 w2).bk z=γ2.bk z:=fun z hz=>grown_bk hz
 have hs:(γ2.grown 0 w2).hs=γ2.hs:=hI.hs.symm
 refine .go g' w2 _ (γ2.grown 0 w2) (hst w2 e1) (do_best hI hi s2.ns s2.ph s2.col (by rw[e3];exact hb) ((e4 b hb).trans hk) _) (K _ _ ⟨s2.ph,s2.col,s2.tag,s2.deaf,rfl,fun z hz=>?_⟩ ⟨by rw[hs,e3];exact Nat.le_refl _,e5,fun z hz=>?_⟩ e1 e2)
 ·rw[hs] at hz
  rw[hg z hz];exact s2.bk z hz
 ·rw[hg z (by rw[e3];exact hz)];exact e4 z hz
end
end Go.Proofs.YtbicafgmfgdckaaDoor
namespace Go.Proofs.YtbicafgmfgdckaaDoor
open Go
def Hit (rows:List (List (BitVec 8))) (id:List (BitVec 8)) (x:Nat):Prop:=∃row,rows[x]?=some row/\Sha.sum row=id
def FoundAt (rows:List (List (BitVec 8))) (id:List (BitVec 8)) (v:Int):Prop:=(v=-1/\∀x,¬Hit rows id x)\/∃y:Nat,v=y/\Hit rows id y/\∀x,x < y->¬Hit rows id x
theorem found_one {rows:List (List (BitVec 8))} {id:List (BitVec 8)} {u v:Int} (h:FoundAt rows id u) (k:FoundAt rows id v):u=v:=by
 rcases h with⟨rfl,h⟩|⟨y,rfl,h1,h2⟩<;>rcases k with⟨rfl,k⟩|⟨z,rfl,k1,k2⟩
 ·rfl
 ·exact absurd k1 (h z)
 ·exact absurd h1 (k y)
 ·rcases Nat.lt_trichotomy y z with q|rfl|q
  ·exact absurd h1 (k2 y q)
  ·rfl
  ·exact absurd k1 (h2 z q)
end Go.Proofs.YtbicafgmfgdckaaDoor
