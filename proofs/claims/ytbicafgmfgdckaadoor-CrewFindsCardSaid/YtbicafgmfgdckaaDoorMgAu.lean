/- lockSlow, in the crew: and Lock. lockSlow, in the crew: Unlock. -/
import Derived.Test.YtbicafgmfgdckaaDoorMgAt
import Derived.Test.YtbicafgmfgdckaaDoorMgAr
namespace Go.Proofs.YtbicafgmfgdckaaDoor
open Go Go.RowKit Go.Conc Go.Conc.Lib Go.ConcR.Gen
open Go.ConcR (KK wgBlock WgAt stA smA rd wr mk DC0)
open Go.ConcN (sumTo upd upd_same upd_ne RelBy PermW WgLive)
section
variable {top:Nat} {γ γ' γ2:Gho} {p:Ph} {w w' w2:World} {i j k n m y:Nat} {f:Nat->ML} {a b:ML} {Post:Value->World->Prop} {es:Array Event} {g g':Goroutine} {c:Frame} {cs:List Frame}
set_option maxRecDepth 100000 in
set_option maxHeartbeats 4000000 in
theorem lk_head (hm:m < 2) (h2:∀k,k < 2->k≠m->f k=.off\/f k=.fresh):∀R,HeadIh top Post p i y m f c cs R:=by
 intro R
 induction R using Nat.strongRecOn with
 | _ R ih =>
 intro γ w x sv aw a wst it n Jb Jh Ji Jj Jk Jl Jm Jn Jo Jp Jq Jr Js Jt Ju Jv Jw Jx Jy Jz J0 J1 J2 J3 J4 J5 J6 J7 J8 J9 Qa Qb Qc Qd Qe Qf Qg Qh Qi Qj Qk Ql Qm Qn Qo Qp Qq Qr Qs Qt Qu Qv Qw Qx Qy Qz Q0 Q1 Q2 Q3 Q4 Q5 Q6 Q7 Q8 Q9 Ua Ub Uc Ud Ue Uf Ug Uh Ui Uj Uk Ul Um Un Uo Up Uq Ur Us Ut Uu Uv Uw Ux Uy Uz U0 U1 U2 U3 U4 U5 U6 U7 U8 U9 Xa Xb Xc Xd Xe Xf Xg Xh Xi Xj Xk Xl Xm Xn Xo Xp Xq Xr Xs Xt Xu Xv Xw Xx Xy Xz X0 X1 X2 X3 X4 hw hawk hsv haw hit hn hR h KD
 obtain⟨xL,xK,xS,xw,xq⟩:=x
 replace hw:xw<=32:=hw
 cases xS with
 | true =>
  rcases hawk with⟨rfl,rfl⟩|⟨rfl,ha⟩
  ·obtain rfl:sv=false:=by cases sv with
    | false=>rfl
    | true=>cases hsv rfl
   cases xL with
   | false =>
    refine lk_headNo h.ng _ (c5:=4) (by rw[mb_and5 _ _ _ _ _ (by omega)];rfl) (by decide) (by decide) _ _ _ _ _ _ _ _ _ _ _ _ _ _ _ _ _ _ _ _ _ _ _ _ _ _ _ _ _ _ _ _ _ _ _ _ _ _ _ _ _ _ _ _ _ _ _ _ _ _ _ _ _ _ _ _ _ _ _ _ _ _ _ _ _ _ _ _ _ _ _ _ _ _ _ _ _ _ _ _ _ _ _ _ _ _ _ _ _ _ _ _ _ _ _ _ _ _ _ _ _ _ _ _ _ _ _ _ _ _ _ _ _ _ _ _ _ _ _ _ _ _ _ _ _ _ _ _ _ _ _ _ _ _ _ _ _ fun u1 u7 u8 u9 u10 u11 u12 u13 u14 u15 u16 u17 u18 u19 u20 u21 u22 u23 u24 u25 u26 u27 u28 u29 u30 u31 u32 u33 u34 u35 u36 u37 u38 u39 u40 u41 u42 u43 u44 u45 u46 u47 u48 u49 u50 u51 u52 u53 u54 u55 u56 u57 u58 u59 u60 u61 u62 u63 u64 u65 u66 u67 u68 u69 u70 u71 u72 u73 u74 u75 u76 u77 u78 u79 u80 u81 u82 u83 u84 u85 u86 u87 u88 u89 u90 u91 u92 u93 u94 u95 u96 u97 u98 u99 u100 u101 u102 u103 u104 u105 u106 u107 u108 u109 u110 u111 u112 u113 u114 u115 u116 u117 u118 u119 u120 u121 u122 u123 u124 u125 u126 u127 u128 u129 u130 u131 u132 u133 u134 u135 u136 u137 u138=>?_
    exact lk_caseFf hm h2 ih xK xw xq hw wst it u1 u7 u8 u9 u10 u11 u12 u13 u14 u15 u16 u17 u18 u19 u20 u21 u22 u23 u24 u25 u26 u27 u28 u29 u30 u31 u32 u33 u34 u35 u36 u37 u38 u39 u40 u41 u42 u43 u44 u45 u46 u47 u48 u49 u50 u51 u52 u53 u54 u55 u56 u57 u58 u59 u60 u61 u62 u63 u64 u65 u66 u67 u68 u69 u70 u71 u72 u73 u74 u75 u76 u77 u78 u79 u80 u81 u82 u83 u84 u85 u86 u87 u88 u89 u90 u91 u92 u93 u94 u95 u96 u97 u98 u99 u100 u101 u102 u103 u104 u105 u106 u107 u108 u109 u110 u111 u112 u113 u114 u115 u116 u117 u118 u119 u120 u121 u122 u123 u124 u125 u126 u127 u128 u129 u130 u131 u132 u133 u134 u135 u136 u137 u138 hit hn hR h KD
   | true =>
    refine lk_headNo h.ng _ (c5:=5) (by rw[mb_and5 _ _ _ _ _ (by omega)];rfl) (by decide) (by decide) _ _ _ _ _ _ _ _ _ _ _ _ _ _ _ _ _ _ _ _ _ _ _ _ _ _ _ _ _ _ _ _ _ _ _ _ _ _ _ _ _ _ _ _ _ _ _ _ _ _ _ _ _ _ _ _ _ _ _ _ _ _ _ _ _ _ _ _ _ _ _ _ _ _ _ _ _ _ _ _ _ _ _ _ _ _ _ _ _ _ _ _ _ _ _ _ _ _ _ _ _ _ _ _ _ _ _ _ _ _ _ _ _ _ _ _ _ _ _ _ _ _ _ _ _ _ _ _ _ _ _ _ _ _ _ _ _ fun u1 u7 u8 u9 u10 u11 u12 u13 u14 u15 u16 u17 u18 u19 u20 u21 u22 u23 u24 u25 u26 u27 u28 u29 u30 u31 u32 u33 u34 u35 u36 u37 u38 u39 u40 u41 u42 u43 u44 u45 u46 u47 u48 u49 u50 u51 u52 u53 u54 u55 u56 u57 u58 u59 u60 u61 u62 u63 u64 u65 u66 u67 u68 u69 u70 u71 u72 u73 u74 u75 u76 u77 u78 u79 u80 u81 u82 u83 u84 u85 u86 u87 u88 u89 u90 u91 u92 u93 u94 u95 u96 u97 u98 u99 u100 u101 u102 u103 u104 u105 u106 u107 u108 u109 u110 u111 u112 u113 u114 u115 u116 u117 u118 u119 u120 u121 u122 u123 u124 u125 u126 u127 u128 u129 u130 u131 u132 u133 u134 u135 u136 u137 u138=>?_
    exact lk_caseFt hm h2 ih xK xw xq hw wst it u1 u7 u8 u9 u10 u11 u12 u13 u14 u15 u16 u17 u18 u19 u20 u21 u22 u23 u24 u25 u26 u27 u28 u29 u30 u31 u32 u33 u34 u35 u36 u37 u38 u39 u40 u41 u42 u43 u44 u45 u46 u47 u48 u49 u50 u51 u52 u53 u54 u55 u56 u57 u58 u59 u60 u61 u62 u63 u64 u65 u66 u67 u68 u69 u70 u71 u72 u73 u74 u75 u76 u77 u78 u79 u80 u81 u82 u83 u84 u85 u86 u87 u88 u89 u90 u91 u92 u93 u94 u95 u96 u97 u98 u99 u100 u101 u102 u103 u104 u105 u106 u107 u108 u109 u110 u111 u112 u113 u114 u115 u116 u117 u118 u119 u120 u121 u122 u123 u124 u125 u126 u127 u128 u129 u130 u131 u132 u133 u134 u135 u136 u137 u138 hit hn hR h KD
  ·cases (haw rfl).2
 | false =>
  cases xL with
  | false =>
   rcases hawk with⟨rfl,rfl⟩|⟨rfl,ha⟩
   ·obtain rfl:sv=false:=by cases sv with
     | false=>rfl
     | true=>cases hsv rfl
    refine lk_headNo h.ng _ (c5:=0) (by rw[mb_and5 _ _ _ _ _ (by omega)];rfl) (by decide) (by decide) _ _ _ _ _ _ _ _ _ _ _ _ _ _ _ _ _ _ _ _ _ _ _ _ _ _ _ _ _ _ _ _ _ _ _ _ _ _ _ _ _ _ _ _ _ _ _ _ _ _ _ _ _ _ _ _ _ _ _ _ _ _ _ _ _ _ _ _ _ _ _ _ _ _ _ _ _ _ _ _ _ _ _ _ _ _ _ _ _ _ _ _ _ _ _ _ _ _ _ _ _ _ _ _ _ _ _ _ _ _ _ _ _ _ _ _ _ _ _ _ _ _ _ _ _ _ _ _ _ _ _ _ _ _ _ _ _ fun u1 u7 u8 u9 u10 u11 u12 u13 u14 u15 u16 u17 u18 u19 u20 u21 u22 u23 u24 u25 u26 u27 u28 u29 u30 u31 u32 u33 u34 u35 u36 u37 u38 u39 u40 u41 u42 u43 u44 u45 u46 u47 u48 u49 u50 u51 u52 u53 u54 u55 u56 u57 u58 u59 u60 u61 u62 u63 u64 u65 u66 u67 u68 u69 u70 u71 u72 u73 u74 u75 u76 u77 u78 u79 u80 u81 u82 u83 u84 u85 u86 u87 u88 u89 u90 u91 u92 u93 u94 u95 u96 u97 u98 u99 u100 u101 u102 u103 u104 u105 u106 u107 u108 u109 u110 u111 u112 u113 u114 u115 u116 u117 u118 u119 u120 u121 u122 u123 u124 u125 u126 u127 u128 u129 u130 u131 u132 u133 u134 u135 u136 u137 u138=>?_
    exact lk_caseA hm h2 ih xK xw xq hw wst it u1 u7 u8 u9 u10 u11 u12 u13 u14 u15 u16 u17 u18 u19 u20 u21 u22 u23 u24 u25 u26 u27 u28 u29 u30 u31 u32 u33 u34 u35 u36 u37 u38 u39 u40 u41 u42 u43 u44 u45 u46 u47 u48 u49 u50 u51 u52 u53 u54 u55 u56 u57 u58 u59 u60 u61 u62 u63 u64 u65 u66 u67 u68 u69 u70 u71 u72 u73 u74 u75 u76 u77 u78 u79 u80 u81 u82 u83 u84 u85 u86 u87 u88 u89 u90 u91 u92 u93 u94 u95 u96 u97 u98 u99 u100 u101 u102 u103 u104 u105 u106 u107 u108 u109 u110 u111 u112 u113 u114 u115 u116 u117 u118 u119 u120 u121 u122 u123 u124 u125 u126 u127 u128 u129 u130 u131 u132 u133 u134 u135 u136 u137 u138 hit hn hR h KD
   ·obtain rfl:xK=true:=(haw rfl).1
    refine lk_headNo h.ng _ (c5:=0) (by rw[mb_and5 _ _ _ _ _ (by omega)];rfl) (by decide) (by decide) _ _ _ _ _ _ _ _ _ _ _ _ _ _ _ _ _ _ _ _ _ _ _ _ _ _ _ _ _ _ _ _ _ _ _ _ _ _ _ _ _ _ _ _ _ _ _ _ _ _ _ _ _ _ _ _ _ _ _ _ _ _ _ _ _ _ _ _ _ _ _ _ _ _ _ _ _ _ _ _ _ _ _ _ _ _ _ _ _ _ _ _ _ _ _ _ _ _ _ _ _ _ _ _ _ _ _ _ _ _ _ _ _ _ _ _ _ _ _ _ _ _ _ _ _ _ _ _ _ _ _ _ _ _ _ _ _ fun u1 u7 u8 u9 u10 u11 u12 u13 u14 u15 u16 u17 u18 u19 u20 u21 u22 u23 u24 u25 u26 u27 u28 u29 u30 u31 u32 u33 u34 u35 u36 u37 u38 u39 u40 u41 u42 u43 u44 u45 u46 u47 u48 u49 u50 u51 u52 u53 u54 u55 u56 u57 u58 u59 u60 u61 u62 u63 u64 u65 u66 u67 u68 u69 u70 u71 u72 u73 u74 u75 u76 u77 u78 u79 u80 u81 u82 u83 u84 u85 u86 u87 u88 u89 u90 u91 u92 u93 u94 u95 u96 u97 u98 u99 u100 u101 u102 u103 u104 u105 u106 u107 u108 u109 u110 u111 u112 u113 u114 u115 u116 u117 u118 u119 u120 u121 u122 u123 u124 u125 u126 u127 u128 u129 u130 u131 u132 u133 u134 u135 u136 u137 u138=>?_
    cases sv with
    | false=>exact lk_caseBf hm h2 ih ha xw xq hw wst it u1 u7 u8 u9 u10 u11 u12 u13 u14 u15 u16 u17 u18 u19 u20 u21 u22 u23 u24 u25 u26 u27 u28 u29 u30 u31 u32 u33 u34 u35 u36 u37 u38 u39 u40 u41 u42 u43 u44 u45 u46 u47 u48 u49 u50 u51 u52 u53 u54 u55 u56 u57 u58 u59 u60 u61 u62 u63 u64 u65 u66 u67 u68 u69 u70 u71 u72 u73 u74 u75 u76 u77 u78 u79 u80 u81 u82 u83 u84 u85 u86 u87 u88 u89 u90 u91 u92 u93 u94 u95 u96 u97 u98 u99 u100 u101 u102 u103 u104 u105 u106 u107 u108 u109 u110 u111 u112 u113 u114 u115 u116 u117 u118 u119 u120 u121 u122 u123 u124 u125 u126 u127 u128 u129 u130 u131 u132 u133 u134 u135 u136 u137 u138 hit hn hR h KD
    | true=>exact lk_caseBt hm h2 ih ha xw xq hw wst it u1 u7 u8 u9 u10 u11 u12 u13 u14 u15 u16 u17 u18 u19 u20 u21 u22 u23 u24 u25 u26 u27 u28 u29 u30 u31 u32 u33 u34 u35 u36 u37 u38 u39 u40 u41 u42 u43 u44 u45 u46 u47 u48 u49 u50 u51 u52 u53 u54 u55 u56 u57 u58 u59 u60 u61 u62 u63 u64 u65 u66 u67 u68 u69 u70 u71 u72 u73 u74 u75 u76 u77 u78 u79 u80 u81 u82 u83 u84 u85 u86 u87 u88 u89 u90 u91 u92 u93 u94 u95 u96 u97 u98 u99 u100 u101 u102 u103 u104 u105 u106 u107 u108 u109 u110 u111 u112 u113 u114 u115 u116 u117 u118 u119 u120 u121 u122 u123 u124 u125 u126 u127 u128 u129 u130 u131 u132 u133 u134 u135 u136 u137 u138 hit hn hR h KD
  | true =>
   refine lk_headAsk h _ (by rw[mb_and5 _ _ _ _ _ (by omega)];rfl) _ _ _ _ _ _ _ _ _ _ _ _ _ _ _ _ _ _ _ _ _ _ _ _ _ _ _ _ _ _ _ _ _ _ _ _ _ _ _ _ _ _ _ _ _ _ _ _ _ _ _ _ _ _ _ _ _ _ _ _ _ _ _ _ _ _ _ _ _ _ _ _ _ _ _ _ _ _ _ _ _ _ _ _ _ _ _ _ _ _ _ _ _ _ _ _ _ _ _ _ _ _ _ _ _ _ _ _ _ _ _ _ _ _ _ _ _ _ _ _ _ _ _ _ _ _ _ _ _ _ _ _ _ _ _ _ _ fun γ1 w1 h1 A1 R1=>⟨fun u1 u7 u8 u9 u10 u11 u12 u13 u14 u15 u16 u17 u18 u19 u20 u21 u22 u23 u24 u25 u26 u27 u28 u29 u30 u31 u32 u33 u34 u35 u36 u37 u38 u39 u40 u41 u42 u43 u44 u45 u46 u47 u48 u49 u50 u51 u52 u53 u54 u55 u56 u57 u58 u59 u60 u61 u62 u63 u64 u65 u66 u67 u68 u69 u70 u71 u72 u73 u74 u75 u76 u77 u78 u79 u80 u81 u82 u83 u84 u85 u86 u87 u88 u89 u90 u91 u92 u93 u94 u95 u96 u97 u98 u99 u100 u101 u102 u103 u104 u105 u106 u107 u108 u109 u110 u111 u112 u113 u114 u115 u116 u117 u118 u119 u120 u121 u122 u123 u124 u125 u126 u127 u128 u129 u130 u131 u132 u133 u134 u135 u136 u137 u138=>?_,fun h4 u1 u7 u8 u9 u10 u11 u12 u13 u14 u15 u16 u17 u18 u19 u20 u21 u22 u23 u24 u25 u26 u27 u28 u29 u30 u31 u32 u33 u34 u35 u36 u37 u38 u39 u40 u41 u42 u43 u44 u45 u46 u47 u48 u49 u50 u51 u52 u53 u54 u55 u56 u57 u58 u59 u60 u61 u62 u63 u64 u65 u66 u67 u68 u69 u70 u71 u72 u73 u74 u75 u76 u77 u78 u79 u80 u81 u82 u83 u84 u85 u86 u87 u88 u89 u90 u91 u92 u93 u94 u95 u96 u97 u98 u99 u100 u101 u102 u103 u104 u105 u106 u107 u108 u109 u110 u111 u112 u113 u114 u115 u116 u117 u118 u119 u120 u121 u122 u123 u124 u125 u126 u127 u128 u129 u130 u131 u132 u133 u134 u135 u136 u137 u138=>?_⟩
   ·have hn1:=hn_rel R1 hm hn
    have KD1:∀γ' w',In p i y 0 (upd f m (.own 1)) γ'->Aft i p γ1 γ'->LV Tryd.prog wgLink.tWg top Post i γ' w' (G (c.finish (.tuple #[])) cs):=fun γ9 w9 h9 A9=>KD γ9 w9 h9 (A1.trans A9)
    rcases hawk with⟨rfl,rfl⟩|⟨rfl,ha⟩
    ·obtain rfl:sv=false:=by cases sv with
      | false=>rfl
      | true=>cases hsv rfl
     exact lk_caseC hm h2 ih xK xw xq hw wst it u1 u7 u8 u9 u10 u11 u12 u13 u14 u15 u16 u17 u18 u19 u20 u21 u22 u23 u24 u25 u26 u27 u28 u29 u30 u31 u32 u33 u34 u35 u36 u37 u38 u39 u40 u41 u42 u43 u44 u45 u46 u47 u48 u49 u50 u51 u52 u53 u54 u55 u56 u57 u58 u59 u60 u61 u62 u63 u64 u65 u66 u67 u68 u69 u70 u71 u72 u73 u74 u75 u76 u77 u78 u79 u80 u81 u82 u83 u84 u85 u86 u87 u88 u89 u90 u91 u92 u93 u94 u95 u96 u97 u98 u99 u100 u101 u102 u103 u104 u105 u106 u107 u108 u109 u110 u111 u112 u113 u114 u115 u116 u117 u118 u119 u120 u121 u122 u123 u124 u125 u126 u127 u128 u129 u130 u131 u132 u133 u134 u135 u136 u137 u138 hit hn1 hR h1 KD1
    ·obtain rfl:xK=true:=(haw rfl).1
     cases sv with
     | false=>exact lk_caseD hm h2 ih ha xw xq hw wst it u1 u7 u8 u9 u10 u11 u12 u13 u14 u15 u16 u17 u18 u19 u20 u21 u22 u23 u24 u25 u26 u27 u28 u29 u30 u31 u32 u33 u34 u35 u36 u37 u38 u39 u40 u41 u42 u43 u44 u45 u46 u47 u48 u49 u50 u51 u52 u53 u54 u55 u56 u57 u58 u59 u60 u61 u62 u63 u64 u65 u66 u67 u68 u69 u70 u71 u72 u73 u74 u75 u76 u77 u78 u79 u80 u81 u82 u83 u84 u85 u86 u87 u88 u89 u90 u91 u92 u93 u94 u95 u96 u97 u98 u99 u100 u101 u102 u103 u104 u105 u106 u107 u108 u109 u110 u111 u112 u113 u114 u115 u116 u117 u118 u119 u120 u121 u122 u123 u124 u125 u126 u127 u128 u129 u130 u131 u132 u133 u134 u135 u136 u137 u138 hit hn1 hR h1 KD1
     | true=>exact lk_caseE hm h2 ih ha xw xq hw wst it u1 u7 u8 u9 u10 u11 u12 u13 u14 u15 u16 u17 u18 u19 u20 u21 u22 u23 u24 u25 u26 u27 u28 u29 u30 u31 u32 u33 u34 u35 u36 u37 u38 u39 u40 u41 u42 u43 u44 u45 u46 u47 u48 u49 u50 u51 u52 u53 u54 u55 u56 u57 u58 u59 u60 u61 u62 u63 u64 u65 u66 u67 u68 u69 u70 u71 u72 u73 u74 u75 u76 u77 u78 u79 u80 u81 u82 u83 u84 u85 u86 u87 u88 u89 u90 u91 u92 u93 u94 u95 u96 u97 u98 u99 u100 u101 u102 u103 u104 u105 u106 u107 u108 u109 u110 u111 u112 u113 u114 u115 u116 u117 u118 u119 u120 u121 u122 u123 u124 u125 u126 u127 u128 u129 u130 u131 u132 u133 u134 u135 u136 u137 u138 hit hn1 hR h1 KD1
   ·have hn1:=hn_rel R1 hm hn
    refine lk_spin hm h2 h1 xK xw xq hw sv aw hawk hn1 wst it h4 u1 u7 u8 u9 u10 u11 u12 u13 u14 u15 u16 u17 u18 u19 u20 u21 u22 u23 u24 u25 u26 u27 u28 u29 u30 u31 u32 u33 u34 u35 u36 u37 u38 u39 u40 u41 u42 u43 u44 u45 u46 u47 u48 u49 u50 u51 u52 u53 u54 u55 u56 u57 u58 u59 u60 u61 u62 u63 u64 u65 u66 u67 u68 u69 u70 u71 u72 u73 u74 u75 u76 u77 u78 u79 u80 u81 u82 u83 u84 u85 u86 u87 u88 u89 u90 u91 u92 u93 u94 u95 u96 u97 u98 u99 u100 u101 u102 u103 u104 u105 u106 u107 u108 u109 u110 u111 u112 u113 u114 u115 u116 u117 u118 u119 u120 u121 u122 u123 u124 u125 u126 u127 u128 u129 u130 u131 u132 u133 u134 u135 u136 u137 u138 fun γ2 w2 aw2 a2 h2' A2 hawk2 hmono M2 W2 z1 z7 z8 z9 z10 z11 z12 z13 z14 z15 z16 z17 z18 z19 z20 z21 z22 z23 z24 z25 z26 z27 z28 z29 z30 z31 z32 z33 z34 z35 z36 z37 z38 z39 z40 z41 z42 z43 z44 z45 z46 z47 z48 z49 z50 z51 z52 z53 z54 z55 z56 z57 z58 z59 z60 z61 z62 z63 z64 z65 z66 z67 z68 z69 z70 z71 z72 z73 z74 z75 z76 z77 z78 z79 z80 z81 z82 z83 z84 z85 z86 z87 z88 z89 z90 z91 z92 z93 z94 z95 z96 z97 z98 z99 z100 z101 z102 z103 z104 z105 z106 z107 z108 z109 z110 z111 z112 z113 z114 z115 z116 z117 z118 z119 z120 z121 z122 z123 z124 z125 z126 z127 z128 z129 z130 z131 z132 z133 z134 z135 z136 z137 z138=>?_
    have hv:=A2.v m hm
    exact ih (8 * γ2.sk.V p m+(5 - (it+1))) (by omega) γ2 w2 (γ2.sk.mw m) sv aw2 a2 wst (it+1) (γ2.sk.V p m) z1 z7 z8 z9 z10 z11 z12 z13 z14 z15 z16 z17 z18 z19 z20 z21 z22 z23 z24 z25 z26 z27 z28 z29 z30 z31 z32 z33 z34 z35 z36 z37 z38 z39 z40 z41 z42 z43 z44 z45 z46 z47 z48 z49 z50 z51 z52 z53 z54 z55 z56 z57 z58 z59 z60 z61 z62 z63 z64 z65 z66 z67 z68 z69 z70 z71 z72 z73 z74 z75 z76 z77 z78 z79 z80 z81 z82 z83 z84 z85 z86 z87 z88 z89 z90 z91 z92 z93 z94 z95 z96 z97 z98 z99 z100 z101 z102 z103 z104 z105 z106 z107 z108 z109 z110 z111 z112 z113 z114 z115 z116 z117 z118 z119 z120 z121 z122 z123 z124 z125 z126 z127 z128 z129 z130 z131 z132 z133 z134 z135 z136 z137 z138 (by have:=M2.few;omega) hawk2 (fun q=>hmono (hsv q)) (fun q=>M2.tkn (i:=i) (by rcases hawk2 with⟨q2,_⟩|⟨_,q2⟩;rw[q] at q2;cases q2;rw[h2'.own_ hm];exact q2)) (by omega) ⟨Nat.le_refl _,.inl rfl⟩ (Nat.le_refl _) h2' fun γ9 w9 h9 A9=>KD γ9 w9 h9 ((A1.trans A2).trans A9)
set_option maxRecDepth 100000 in
set_option maxHeartbeats 4000000 in
theorem rep138 (a:Value):#[a]++Array.replicate 138 undef=#[a,undef,undef,undef,undef,undef,undef,undef,undef,undef,undef,undef,undef,undef,undef,undef,undef,undef,undef,undef,undef,undef,undef,undef,undef,undef,undef,undef,undef,undef,undef,undef,undef,undef,undef,undef,undef,undef,undef,undef,undef,undef,undef,undef,undef,undef,undef,undef,undef,undef,undef,undef,undef,undef,undef,undef,undef,undef,undef,undef,undef,undef,undef,undef,undef,undef,undef,undef,undef,undef,undef,undef,undef,undef,undef,undef,undef,undef,undef,undef,undef,undef,undef,undef,undef,undef,undef,undef,undef,undef,undef,undef,undef,undef,undef,undef,undef,undef,undef,undef,undef,undef,undef,undef,undef,undef,undef,undef,undef,undef,undef,undef,undef,undef,undef,undef,undef,undef,undef,undef,undef,undef,undef,undef,undef,undef,undef,undef,undef,undef,undef,undef,undef,undef,undef,undef,undef,undef,undef]:=by kernel_rfl
set_option maxRecDepth 100000 in
set_option maxHeartbeats 4000000 in
theorem lives_lockSlow (hm:m < 2) (h2:∀k,k < 2->k≠m->f k=.off\/f k=.fresh) (h:In p i y 1 (upd f m .fresh) γ)
  (KD:∀γ' w',In p i y 0 (upd f m (.own 1)) γ'->Aft i p γ γ'->LV Tryd.prog wgLink.tWg top Post i γ' w' (G (c.finish (.tuple #[])) cs)) :
  LV Tryd.prog wgLink.tWg top Post i γ w (G ((base 83).at ⟨#[.pointer (some (p.muA m))]++Array.replicate 138 undef,[]⟩ [.code lkB]) (c::cs)):=by
 have hg:=h.ng
 rw[rep138]
 simp only[lkB,Tryd.f83,Option.getD_some]
 (try walk_nrm);refine lsq hg ?_;refine lrg hg ?_;simp only[ix,Nat.reduceAdd];refine lop hg rfl rfl (by k_ne) fun v W H=>?_;go_simp;refine H _ _ rfl (by simp[go_sem]) ?_;clear H W v;(try walk_nrm);refine len hg ?_;refine lsq hg ?_;refine lrg hg ?_;simp only[ix,Nat.reduceAdd];refine lop hg rfl rfl (by k_ne) fun v W H=>?_;go_simp;refine H _ _ rfl (by simp[go_sem]) ?_;clear H W v;(try walk_nrm);refine len hg ?_;refine lsq hg ?_;refine lrg hg ?_;simp only[ix,Nat.reduceAdd];refine lop hg rfl rfl (by k_ne) fun v W H=>?_;go_simp;refine H _ _ rfl (by simp[go_sem]) ?_;clear H W v;(try walk_nrm);refine len hg ?_;refine lsq hg ?_;refine lrg hg ?_;simp only[ix,Nat.reduceAdd];refine lop hg rfl rfl (by k_ne) fun v W H=>?_;go_simp;refine H _ _ rfl (by simp[go_sem]) ?_;clear H W v;(try walk_nrm);refine len hg ?_;refine lsq hg ?_;refine lrg hg ?_;simp only[ix,Nat.reduceAdd];(iterate 3 (refine lop hg rfl rfl (by k_ne) fun v W H=>?_;go_simp;refine H _ _ rfl (by simp[go_sem]) ?_;clear H W v;try walk_nrm))
 refine lv_load hm h rfl (fun w c hc=>stepG_loadQ rfl rfl (by k_ne) rfl (by simp[Act.eval]) mu_q_lockSlow hc) fun γ1 w1 h1 A1 M1 W1=>?_
 clear hg;have hg:=h1.ng
 have hd:=fun Jb Jh Ji Jj Jk Jl Jm Jn Jo Jp Jq Jr Js Jt Ju Jv Jw Jx Jy Jz J0 J1 J2 J3 J4 J5 J6 J7 J8 J9 Qa Qb Qc Qd Qe Qf Qg Qh Qi Qj Qk Ql Qm Qn Qo Qp Qq Qr Qs Qt Qu Qv Qw Qx Qy Qz Q0 Q1 Q2 Q3 Q4 Q5 Q6 Q7 Q8 Q9 Ua Ub Uc Ud Ue Uf Ug Uh Ui Uj Uk Ul Um Un Uo Up Uq Ur Us Ut Uu Uv Uw Ux Uy Uz U0 U1 U2 U3 U4 U5 U6 U7 U8 U9 Xa Xb Xc Xd Xe Xf Xg Xh Xi Xj Xk Xl Xm Xn Xo Xp Xq Xr Xs Xt Xu Xv Xw Xx Xy Xz X0 X1 X2 X3 X4=>lk_head (c:=c) (cs:=cs) (top:=top) (Post:=Post) hm h2 (8 * γ1.sk.V p m+5) γ1 w1 (γ1.sk.mw m) false false .fresh 0 0 (γ1.sk.V p m) Jb Jh Ji Jj Jk Jl Jm Jn Jo Jp Jq Jr Js Jt Ju Jv Jw Jx Jy Jz J0 J1 J2 J3 J4 J5 J6 J7 J8 J9 Qa Qb Qc Qd Qe Qf Qg Qh Qi Qj Qk Ql Qm Qn Qo Qp Qq Qr Qs Qt Qu Qv Qw Qx Qy Qz Q0 Q1 Q2 Q3 Q4 Q5 Q6 Q7 Q8 Q9 Ua Ub Uc Ud Ue Uf Ug Uh Ui Uj Uk Ul Um Un Uo Up Uq Ur Us Ut Uu Uv Uw Ux Uy Uz U0 U1 U2 U3 U4 U5 U6 U7 U8 U9 Xa Xb Xc Xd Xe Xf Xg Xh Xi Xj Xk Xl Xm Xn Xo Xp Xq Xr Xs Xt Xu Xv Xw Xx Xy Xz X0 X1 X2 X3 X4 (by have:=M1.few;omega) (.inl ⟨rfl,rfl⟩) (fun q=>by cases q) (fun q=>by cases q) (Nat.zero_le _) ⟨Nat.le_refl _,.inl rfl⟩ (Nat.le_refl _) h1 fun γ9 w9 h9 A9=>KD γ9 w9 h9 (A1.trans A9)
 simp only[lkR,lkL,lkB,findLoop,behindBlock,Tryd.f83,Option.getD_some] at hd
 (try walk_nrm);refine lop hg rfl rfl (by k_ne) fun v W H=>?_;go_simp;refine H _ _ rfl (by simp[go_sem]) ?_;clear H W v;(try walk_nrm);refine len hg ?_;refine lsq hg ?_
 refine lives_ctl rfl hg (fun _=>stepG_block) ?_
 refine lives_ctl rfl hg (fun _=>stepG_loop) ?_
 exact hd _ _ _ _ _ _ _ _ _ _ _ _ _ _ _ _ _ _ _ _ _ _ _ _ _ _ _ _ _ _ _ _ _ _ _ _ _ _ _ _ _ _ _ _ _ _ _ _ _ _ _ _ _ _ _ _ _ _ _ _ _ _ _ _ _ _ _ _ _ _ _ _ _ _ _ _ _ _ _ _ _ _ _ _ _ _ _ _ _ _ _ _ _ _ _ _ _ _ _ _ _ _ _ _ _ _ _ _ _ _ _ _ _ _ _ _ _ _ _ _ _ _ _ _ _ _ _ _ _ _ _ _ _
set_option maxRecDepth 100000 in
set_option maxHeartbeats 4000000 in
theorem lives_lockI (hm:m < 2) (h2:∀k,k < 2->k≠m->f k=.off\/f k=.fresh) (h:In p i y 0 (upd f m .fresh) γ)
  (KD:∀γ' w',In p i y 0 (upd f m (.own 1)) γ'->Aft i p γ γ'->LV Tryd.prog wgLink.tWg top Post i γ' w' (G (c.finish (.tuple #[])) cs)) :
  LV Tryd.prog wgLink.tWg top Post i γ w (G ((base 69).at ⟨#[.pointer (some (p.muA m))]++Array.replicate 12 undef,[]⟩ [.code (Tryd.f69.body.getD .skip)]) (c::cs)):=by
 have hg:=h.ng
 simp only[Tryd.f69,Option.getD_some]
 (try walk_nrm);refine lsq hg ?_;refine lrg hg ?_;simp only[ix,Nat.reduceAdd]
 refine lv_mark h rfl (.inl ⟨rfl,rfl⟩) (fun w=>stepG_mark0 .disable (by simp) rfl rfl (by k_ne) rfl Tryd.func42 mu_dis_n mu_dis_b mu_dis_x mu_dis_f) fun γ1 w1 h1 A1=>?_
 clear hg;have hg:=h1.ng;(try walk_nrm);refine len hg ?_;refine lsq hg ?_;refine lsq hg ?_;refine lrg hg ?_;simp only[ix,Nat.reduceAdd];(iterate 3 (refine lop hg rfl rfl (by k_ne) fun v W H=>?_;go_simp;refine H _ _ rfl (by simp[go_sem]) ?_;clear H W v;try walk_nrm))
 refine lv_casop (co:=0) (cn:=1) (n:=γ1.sk.V p m+1) hm h1 (upd_same _ _ _) (fit_of (b:=.own 0) hm h2 (fun _=>by simp) fun _=>by simp) (by omega) (fun x hx=>?_) ⟨Nat.le_succ _,.inr (Nat.lt_succ_self _)⟩ rfl rfl (by k_ne) rfl rfl rfl rfl (fun γ2 w2 h2' A2 _=>?_) fun γ2 w2 h2' A2 _=>?_
 ·obtain⟨e1,e2,e3,e4⟩:=MW.code_inj (y:=⟨false,false,false,0,0⟩) (hx.trans rfl)
  dsimp only at e1 e2 e3 e4
  exact⟨_,MStep.lock0 e1 e3,by simp only[MW.code,e2,e3,e4];rfl,rfl⟩
 ·rw[upd_upd] at h2'
  clear hg;have hg:=h2'.ng;(try walk_nrm);refine len hg ?_;refine lct hg rfl ?_;refine lsq hg ?_;refine lct hg rfl ?_;refine lsq hg ?_;refine lrg hg ?_;simp only[ix,Nat.reduceAdd]
  refine lv_mark h2' rfl (.inr ⟨rfl,rfl⟩) (fun w=>stepG_mark0 .enable (by simp) rfl rfl (by k_ne) rfl Tryd.func43 mu_ena_n mu_ena_b mu_ena_x mu_ena_f) fun γ3 w3 h3 A3=>?_
  clear hg;have hg:=h3.ng;(try walk_nrm);refine len hg ?_;refine lrg hg ?_;simp only[ix,Nat.reduceAdd];refine lop hg rfl rfl (by k_ne) fun v W H=>?_;go_simp;refine H _ _ rfl (by simp[go_sem]) ?_;clear H W v;try walk_nrm
  refine lv_conv hm h3 rfl (fun w v hc=>stepG_conv rfl rfl (by k_ne) rfl (by kernel_rfl) (by kernel_rfl) (by simp[Act.eval]) hc) ?_
  try walk_nrm
  refine lv_acq hm h3 rfl h2 (fun w=>stepG_markAt .acquire (by simp) rfl rfl (by k_ne) rfl Tryd.func56 mu_acm_n mu_acm_b mu_acm_x mu_acm_f (by simp[Act.eval])) fun γ4 w4 h4 A4=>?_
  clear hg;have hg:=h4.ng;(try walk_nrm);refine len hg ?_
  refine lives_ctl rfl hg (fun _=>stepG_ret') ?_
  exact lives_ctl rfl hg (fun w2=>stepG_leave (v:=.tuple #[]) rfl rfl Tryd.func69 (by kernel_rfl) (by kernel_rfl)) (KD _ _ h4 (((A1.trans A2).trans A3).trans A4))
 ·clear hg
  have hg:=h2'.ng;(try walk_nrm);refine len hg ?_;refine lcf hg rfl ?_;refine lsk hg ?_;refine lrg hg ?_;simp only[ix,Nat.reduceAdd];refine lop hg rfl rfl (by k_ne) fun v W H=>?_;go_simp;refine H _ _ rfl (by simp[go_sem]) ?_;clear H W v;try walk_nrm
  refine lives_ctl rfl hg (fun _=>stepG_callv (first:=#[]) (caps:=#[]) (vs:=#[.pointer (some (p.muA m))]) rfl rfl (by k_ne) rfl rfl (by simp[Act.eval]) Tryd.func83 (by kernel_rfl) rfl) ?_
  refine lives_lockSlow hm h2 h2' fun γ4 w4 h4 A4=>?_
  rw[Frame.finish_at];clear hg;have hg:=h4.ng;(try walk_nrm);refine len hg ?_
  refine lives_ctl rfl hg (fun _=>stepG_end) ?_
  exact lives_ctl rfl hg (fun w2=>stepG_leave (v:=.tuple #[]) rfl rfl Tryd.func69 (by kernel_rfl) (by kernel_rfl)) (KD _ _ h4 ((A1.trans A2).trans A4))
set_option maxRecDepth 100000 in
set_option maxHeartbeats 4000000 in
theorem lives_lock (hm:m < 2) (h2:∀k,k < 2->k≠m->f k=.off\/f k=.fresh) (h:In p i y 0 (upd f m .fresh) γ)
  (KD:∀γ' w',In p i y 0 (upd f m (.own 1)) γ'->Aft i p γ γ'->LV Tryd.prog wgLink.tWg top Post i γ' w' (G (c.finish (.tuple #[])) cs)) :
  LV Tryd.prog wgLink.tWg top Post i γ w (G ((base 39).at ⟨#[.pointer (some (p.muA m))]++Array.replicate 5 undef,[]⟩ [.code (Tryd.f39.body.getD .skip)]) (c::cs)):=by
 have hg:=h.ng
 simp only[Tryd.f39,Option.getD_some]
 (try walk_nrm);refine lrg hg ?_;simp only[ix,Nat.reduceAdd];(iterate 3 (refine lop hg rfl rfl (by k_ne) fun v W H=>?_;go_simp;refine H _ _ rfl (by simp[go_sem]) ?_;clear H W v;try walk_nrm))
 refine lives_ctl rfl hg (fun _=>stepG_callv (first:=#[]) (caps:=#[]) (vs:=#[.pointer (some (p.muA m))]) rfl rfl (by k_ne) rfl rfl (by simp[Act.eval]) Tryd.func69 (by kernel_rfl) rfl) ?_
 refine lives_lockI hm h2 h fun γ4 w4 h4 A4=>?_
 rw[Frame.finish_at];clear hg;have hg:=h4.ng;(try walk_nrm);refine len hg ?_
 refine lives_ctl rfl hg (fun _=>stepG_end) ?_
 exact lives_ctl rfl hg (fun w2=>stepG_leave (v:=.tuple #[]) rfl rfl Tryd.func39 (by kernel_rfl) (by kernel_rfl)) (KD _ _ h4 A4)
end
end Go.Proofs.YtbicafgmfgdckaaDoor
namespace Go.Proofs.YtbicafgmfgdckaaDoor
open Go Go.RowKit Go.Conc Go.Conc.Lib Go.ConcR.Gen
open Go.ConcR (KK wgBlock WgAt stA smA rd wr mk DC0)
open Go.ConcN (sumTo upd upd_same upd_ne RelBy PermW WgLive)
section
variable {top:Nat} {γ γ' γ2:Gho} {p:Ph} {w w' w2:World} {i j k n m y:Nat} {f:Nat->ML} {a b:ML} {Post:Value->World->Prop} {es:Array Event} {g g':Goroutine} {c:Frame} {cs:List Frame}
noncomputable def ulB:Code:=Tryd.f85.body.getD .skip
noncomputable def ulL:Code:=(findLoop (cThen (cTl (cTl ulB)))).getD .skip
theorem mb_add1 (K S:Bool) (w q:Nat) (hw:w < 64):IntKind.i32.wrap (((MW.code ⟨false,K,S,w,q⟩:Nat):Int)+1)=(MW.code ⟨true,K,S,w,q⟩:Nat):=by
 have:=mb_small false K S w q hw
 have e:MW.code ⟨true,K,S,w,q⟩=MW.code ⟨false,K,S,w,q⟩+1:=by simp only[MW.code];simp;omega
 rw[e,IntKind.wrap_i32];omega
theorem one_up:IntKind.u32.wrap ((0:Int)+1)=1:=by decide
def UpTo (x:MW):ML:=if x.w=0\/x.L=true\/x.K=true\/x.S=true then .off else .rel
set_option maxRecDepth 100000 in
set_option maxHeartbeats 4000000 in
theorem ul_head (hm:m < 2) (h2:∀k,k < 2->k≠m->f k=.off\/f k=.fresh):∀n:Nat,∀γ w (x:MW) (v1 v2 v3 v5 v6 v7 v8 v9 v10 v11 v12 v13 v14 v15 v16 v17 v18 v19 v20 v21 v22 v23 v24 v25 v26 v27 v28 v29 v30 v31 v32 v33 v34 v35 v36 v37 v38 v39 v40 v41 v42:Value),x.w<=32->γ.sk.V p m<=n/\((γ.sk.mw m).code=x.code\/γ.sk.V p m < n)->In p i y 1 (upd f m (UpTo x)) γ ->
  (∀γ' w',In p i y 1 (upd f m .off) γ'->Aft i p γ γ'->LV Tryd.prog wgLink.tWg top Post i γ' w' (G (c.finish (.tuple #[])) cs)) ->
  LV Tryd.prog wgLink.tWg top Post i γ w (G ((base 85).at ⟨#[.pointer (some (p.muA m)),v1,v2,v3,.int .i32 (x.code:Nat),v5,v6,v7,v8,v9,v10,v11,v12,v13,v14,v15,v16,v17,v18,v19,v20,v21,v22,v23,v24,v25,v26,v27,v28,v29,v30,v31,v32,v33,v34,v35,v36,v37,v38,v39,v40,v41,v42],[]⟩ [.code ulL,.inLoop ulL,.inBlock 0]) (c::cs)):=by
 intro n
 induction n using Nat.strongRecOn with
 | _ n ih =>
 intro γ w x v1 v2 v3 v5 v6 v7 v8 v9 v10 v11 v12 v13 v14 v15 v16 v17 v18 v19 v20 v21 v22 v23 v24 v25 v26 v27 v28 v29 v30 v31 v32 v33 v34 v35 v36 v37 v38 v39 v40 v41 v42 hw hn h KD
 have hg:=h.ng
 obtain⟨xL,xK,xS,xw,xq⟩:=x
 replace hw:xw<=32:=hw
 have d8:=mb_div xL xK xS xw xq (by omega)
 rcases Nat.eq_zero_or_pos xw with rfl|hp0
 ·rw[show UpTo ⟨xL,xK,xS,0,xq⟩=.off from if_pos (.inl rfl)] at h
  generalize hco:MW.code ⟨xL,xK,xS,0,xq⟩=co at *
  clear ih
  simp only[ulL,ulB,findLoop,cTl,cThen,Tryd.f85,Option.getD_some]
  try walk_nrm
  refine lives_ctl rfl hg (fun _=>stepG_block) ?_
  refine lsq hg ?_;refine lsq hg ?_;refine lrg hg ?_;simp only[ix,Nat.reduceAdd];(iterate 4 (refine lop hg rfl rfl (by k_ne) fun v W H=>?_;go_simp;refine H _ _ rfl (by simp[go_sem]) ?_;clear H W v;try walk_nrm));refine lun hg rfl rfl ?_;(try walk_nrm);refine lun hg rfl rfl ?_;(try walk_nrm);refine lun hg rfl rfl ?_;(try walk_nrm);refine lop hg rfl rfl (by k_ne) fun v W H=>?_;go_simp;refine H _ _ rfl (by simp[go_sem]) ?_;clear H W v;(try walk_nrm);refine len hg ?_;refine lct hg rfl ?_
  refine lives_ctl rfl hg (fun _=>stepG_ret') ?_
  exact lives_ctl rfl hg (fun w2=>stepG_leave (v:=.tuple #[]) rfl rfl Tryd.func85 (by kernel_rfl) (by kernel_rfl)) (KD _ _ h (.refl _ _ _))
 ·obtain⟨z,hz⟩:∃z:Int,((xw:Nat):Int)=z:=⟨_,rfl⟩
  have z1:(z==0)=false:=by rw[<- hz];simp;omega
  have z2:¬z=0:=by omega
  rw[hz] at d8
  have a7:=mb_and7 xL xK xS xw xq (by omega)
  by_cases hl:xL=true\/xK=true\/xS=true
  ·rw[show UpTo ⟨xL,xK,xS,xw,xq⟩=.off from if_pos (.inr hl)] at h
   obtain⟨q,hq⟩:∃q:Int,((xL.toNat+2 * xK.toNat+4 * xS.toNat:Nat):Int)=q:=⟨_,rfl⟩
   have q1:(q==0)=false:=by rw[<- hq];revert hl;cases xL<;>cases xK<;>cases xS<;>simp
   have q2:¬q=0:=by simpa using q1
   have q3:(q != 0)=true:=by simpa using q2
   rw[hq] at a7
   generalize hco:MW.code ⟨xL,xK,xS,xw,xq⟩=co at *
   clear ih hz hq hl
   simp only[ulL,ulB,findLoop,cTl,cThen,Tryd.f85,Option.getD_some]
   try walk_nrm
   refine lives_ctl rfl hg (fun _=>stepG_block) ?_
   refine lsq hg ?_;refine lsq hg ?_;refine lrg hg ?_;simp only[ix,Nat.reduceAdd];(iterate 8 (refine lop hg rfl rfl (by k_ne) fun v W H=>?_;go_simp;refine H _ _ rfl (by simp[go_sem]) ?_;clear H W v;try walk_nrm));refine len hg ?_;refine lct hg rfl ?_
   refine lives_ctl rfl hg (fun _=>stepG_ret') ?_
   exact lives_ctl rfl hg (fun w2=>stepG_leave (v:=.tuple #[]) rfl rfl Tryd.func85 (by kernel_rfl) (by kernel_rfl)) (KD _ _ h (.refl _ _ _))
  ·obtain⟨rfl,rfl,rfl⟩:xL=false/\xK=false/\xS=false:=by revert hl;cases xL<;>cases xK<;>cases xS<;>simp
   rw[show UpTo ⟨false,false,false,xw,xq⟩=.rel from if_neg (by simp;omega)] at h
   simp only[Bool.toNat_false,Nat.mul_zero,Nat.add_zero] at a7
   have s8:=mb_sub8 false false false xw xq (by omega) hp0
   have o2:=mb_or2 false false false (xw - 1) xq (by omega)
   have hne:MW.code ⟨false,false,false,xw,xq⟩≠MW.code ⟨false,true,false,xw - 1,xq⟩:=fun q=>by have:=MW.code_inj q;simp at this
   have hs:∀x:MW,x.code=MW.code ⟨false,false,false,xw,xq⟩->∃x',MStep .rel x .post x'/\x'.code=MW.code ⟨false,true,false,xw - 1,xq⟩/\x'.q=x.q:=fun x hx=>by
    obtain⟨e1,e2,e3,e4⟩:=MW.code_inj hx
    dsimp only at e1 e2 e3 e4
    exact⟨_,MStep.wake (by omega) e1 e2 e3,by simp only[MW.code,e1,e3,e4],rfl⟩
   have ih':∀γ3 w3 (x:MW) (v1 v2 v3 v5 v6 v7 v8 v9 v10 v11 v12 v13 v14 v15 v16 v17 v18 v19 v20 v21 v22 v23 v24 v25 v26 v27 v28 v29 v30 v31 v32 v33 v34 v35 v36 v37 v38 v39 v40 v41 v42:Value),x.w<=32->(γ3.sk.mw m).code=x.code->γ3.sk.V p m < n->Aft i p γ γ3->In p i y 1 (upd f m (UpTo x)) γ3->LV Tryd.prog wgLink.tWg top Post i γ3 w3 (G ((base 85).at ⟨#[.pointer (some (p.muA m)),v1,v2,v3,.int .i32 (x.code:Nat),v5,v6,v7,v8,v9,v10,v11,v12,v13,v14,v15,v16,v17,v18,v19,v20,v21,v22,v23,v24,v25,v26,v27,v28,v29,v30,v31,v32,v33,v34,v35,v36,v37,v38,v39,v40,v41,v42],[]⟩ [.code ulL,.inLoop ulL,.inBlock 0]) (c::cs)):=fun γ3 w3 x v1 v2 v3 v5 v6 v7 v8 v9 v10 v11 v12 v13 v14 v15 v16 v17 v18 v19 v20 v21 v22 v23 v24 v25 v26 v27 v28 v29 v30 v31 v32 v33 v34 v35 v36 v37 v38 v39 v40 v41 v42 hw3 hc3 hv3 hA3 h3=>ih _ hv3 γ3 w3 x v1 v2 v3 v5 v6 v7 v8 v9 v10 v11 v12 v13 v14 v15 v16 v17 v18 v19 v20 v21 v22 v23 v24 v25 v26 v27 v28 v29 v30 v31 v32 v33 v34 v35 v36 v37 v38 v39 v40 v41 v42 hw3 ⟨Nat.le_refl _,.inl hc3⟩ h3 fun γ9 w9 h9 A9=>KD γ9 w9 h9 (hA3.trans A9)
   clear ih
   generalize hco:MW.code ⟨false,false,false,xw,xq⟩=co at *
   generalize hcm:MW.code ⟨false,false,false,xw - 1,xq⟩=cm at *
   generalize hcn:MW.code ⟨false,true,false,xw - 1,xq⟩=cn at *
   clear hco hcm hcn hz hl hw hp0
   simp only[ulL,ulB,findLoop,cTl,cThen,Tryd.f85,Option.getD_some] at ih' ⊢
   try walk_nrm
   refine lives_ctl rfl hg (fun _=>stepG_block) ?_
   refine lsq hg ?_;refine lsq hg ?_;refine lrg hg ?_;simp only[ix,Nat.reduceAdd];(iterate 8 (refine lop hg rfl rfl (by k_ne) fun v W H=>?_;go_simp;refine H _ _ rfl (by simp[go_sem]) ?_;clear H W v;try walk_nrm));refine len hg ?_;refine lcf hg rfl ?_;refine lsk hg ?_;refine lsq hg ?_;refine lrg hg ?_;simp only[ix,Nat.reduceAdd];(iterate 4 (refine lop hg rfl rfl (by k_ne) fun v W H=>?_;go_simp;refine H _ _ rfl (by simp[go_sem]) ?_;clear H W v;try walk_nrm));refine len hg ?_;refine lsq hg ?_;refine lsq hg ?_;refine lrg hg ?_;simp only[ix,Nat.reduceAdd];(iterate 5 (refine lop hg rfl rfl (by k_ne) fun v W H=>?_;go_simp;refine H _ _ rfl (by simp[go_sem]) ?_;clear H W v;try walk_nrm))
   refine lv_casop hm h (upd_same _ _ _) (fit_of (b:=.post) hm h2 (fun _=>by simp) fun _=>by simp) hne hs hn rfl rfl (by k_ne) rfl rfl rfl rfl (fun γ1 w1 h1 A1 v1=>?_) fun γ1 w1 h1 A1 v1=>?_
   ·rw[upd_upd] at h1
    clear hg;have hg:=h1.ng;(try walk_nrm);refine len hg ?_;refine lct hg rfl ?_;refine lsq hg ?_;refine lrg hg ?_;simp only[ix,Nat.reduceAdd];(iterate 3 (refine lop hg rfl rfl (by k_ne) fun v W H=>?_;go_simp;refine H _ _ rfl (by simp[go_sem]) ?_;clear H W v;try walk_nrm))
    refine lv_up hm h1 rfl (by first|rfl|kernel_rfl) (upd_same _ _ _) (.inl rfl) (fit_of hm h2 (fun _=>by simp) fun _=>by simp) (fun w hc hz=>(stepG_semrelease rfl rfl (by k_ne) rfl Tryd.func96 mu_rel_n mu_rel_b mu_rel_x mu_rel_f (by simp[Act.eval]) hc hz).trans (by rw[one_up])) fun γ8 w8 h8 A8=>?_
    rw[upd_upd] at h8;clear hg;have hg:=h8.ng;(try walk_nrm);refine len hg ?_
    refine lives_ctl rfl hg (fun _=>stepG_ret') ?_
    exact lives_ctl rfl hg (fun w2=>stepG_leave (v:=.tuple #[]) rfl rfl Tryd.func85 (by kernel_rfl) (by kernel_rfl)) (KD _ _ h8 (A1.trans A8))
   ·clear hg
    have hg:=h1.ng;(try walk_nrm);refine len hg ?_;refine lcf hg rfl ?_;refine lsk hg ?_;refine lrg hg ?_;simp only[ix,Nat.reduceAdd];(iterate 3 (refine lop hg rfl rfl (by k_ne) fun v W H=>?_;go_simp;refine H _ _ rfl (by simp[go_sem]) ?_;clear H W v;try walk_nrm))
    refine lv_loadRel hm h1 rfl (upd_same _ _ _) (fit_of hm h2 (fun _=>by simp) fun _=>by simp) (fun w c hc=>stepG_loadQ rfl rfl (by k_ne) rfl (by simp[Act.eval]) mu_q_unlockSlow hc) fun γ3 w3 x3 hw3 hc3 A3 hi1 hi2=>?_
    have h3:In p i y 1 (upd f m (UpTo x3)) γ3:=by
     unfold UpTo
     split
     ·rename_i q;have:=hi1 q;rwa [upd_upd] at this
     ·rename_i q;exact hi2 q
    clear hg;have hg:=h3.ng;(try walk_nrm);refine lop hg rfl rfl (by k_ne) fun v W H=>?_;go_simp;refine H _ _ rfl (by simp[go_sem]) ?_;clear H W v;(try walk_nrm);refine len hg ?_
    refine lives_ctl rfl hg (fun _=>stepG_inBlock) ?_
    refine lives_ctl rfl hg (fun _=>stepG_inLoop) ?_
    exact ih' γ3 w3 x3 _ _ _ _ _ _ _ _ _ _ _ _ _ _ _ _ _ _ _ _ _ _ _ _ _ _ _ _ _ _ _ _ _ _ _ _ _ _ _ _ _ hw3 hc3 (Nat.lt_of_le_of_lt (A3.v m hm) v1) (A1.trans A3) h3
set_option maxRecDepth 100000 in
set_option maxHeartbeats 4000000 in
theorem lives_unlockSlow (hm:m < 2) (h2:∀k,k < 2->k≠m->f k=.off\/f k=.fresh) (K S:Bool) (xw xq:Nat) (hw:xw<=32) (h:In p i y 1 (upd f m (if S then .phand else UpTo ⟨false,K,S,xw,xq⟩)) γ)
  (KD:∀γ' w',In p i y 1 (upd f m .off) γ'->Aft i p γ γ'->LV Tryd.prog wgLink.tWg top Post i γ' w' (G (c.finish (.tuple #[])) cs)) :
  LV Tryd.prog wgLink.tWg top Post i γ w (G ((base 85).at ⟨#[.pointer (some (p.muA m)),.int .i32 (MW.code ⟨false,K,S,xw,xq⟩:Nat)]++Array.replicate 41 undef,[]⟩ [.code ulB]) (c::cs)):=by
 have hg:=h.ng
 have p1:=mb_add1 K S xw xq (by omega)
 have a1:=mb_and1 true K S xw xq (by omega)
 simp only[Bool.toNat_true] at a1
 have a4:=mb_and4 false K S xw xq (by omega)
 generalize hcp:MW.code ⟨true,K,S,xw,xq⟩=cp at *
 cases S with
 | true =>
  simp only[Bool.toNat_true,Nat.mul_one,if_true] at a4 h
  generalize hco:MW.code ⟨false,K,true,xw,xq⟩=co at *
  simp only[ulB,Tryd.f85,Option.getD_some]
  (try walk_nrm);refine lsq hg ?_;refine lsq hg ?_;refine lrg hg ?_;simp only[ix,Nat.reduceAdd];(iterate 4 (refine lop hg rfl rfl (by k_ne) fun v W H=>?_;go_simp;refine H _ _ rfl (by simp[go_sem]) ?_;clear H W v;try walk_nrm));refine len hg ?_;refine lcf hg rfl ?_;refine lsk hg ?_;refine lsq hg ?_;refine lrg hg ?_;simp only[ix,Nat.reduceAdd];(iterate 3 (refine lop hg rfl rfl (by k_ne) fun v W H=>?_;go_simp;refine H _ _ rfl (by simp[go_sem]) ?_;clear H W v;try walk_nrm));refine len hg ?_;refine lcf hg rfl ?_;refine lrg hg ?_;simp only[ix,Nat.reduceAdd];(iterate 3 (refine lop hg rfl rfl (by k_ne) fun v W H=>?_;go_simp;refine H _ _ rfl (by simp[go_sem]) ?_;clear H W v;try walk_nrm))
  refine lv_up hm h rfl (by first|rfl|kernel_rfl) (upd_same _ _ _) (.inr rfl) (fit_of hm h2 (fun _=>by simp) fun _=>by simp) (fun w hc hz=>(stepG_semrelease rfl rfl (by k_ne) rfl Tryd.func96 mu_rel_n mu_rel_b mu_rel_x mu_rel_f (by simp[Act.eval]) hc hz).trans (by rw[one_up])) fun γ8 w8 h8 A8=>?_
  rw[upd_upd] at h8;clear hg;have hg:=h8.ng;(try walk_nrm);refine len hg ?_
  refine lives_ctl rfl hg (fun _=>stepG_end) ?_
  exact lives_ctl rfl hg (fun w2=>stepG_leave (v:=.tuple #[]) rfl rfl Tryd.func85 (by kernel_rfl) (by kernel_rfl)) (KD _ _ h8 A8)
 | false =>
  simp only[Bool.toNat_false,Nat.mul_zero,Bool.false_eq_true,if_false] at a4 h
  have hd:=fun v1 v2 v3 v5 v6 v7 v8 v9 v10 v11 v12 v13 v14 v15 v16 v17 v18 v19 v20 v21 v22 v23 v24 v25 v26 v27 v28 v29 v30 v31 v32 v33 v34 v35 v36 v37 v38 v39 v40 v41 v42=>ul_head (c:=c) (cs:=cs) (top:=top) (Post:=Post) hm h2 (γ.sk.V p m+1) γ w ⟨false,K,false,xw,xq⟩ v1 v2 v3 v5 v6 v7 v8 v9 v10 v11 v12 v13 v14 v15 v16 v17 v18 v19 v20 v21 v22 v23 v24 v25 v26 v27 v28 v29 v30 v31 v32 v33 v34 v35 v36 v37 v38 v39 v40 v41 v42 hw ⟨Nat.le_succ _,.inr (Nat.lt_succ_self _)⟩ h KD
  simp only[ulL,ulB,findLoop,cTl,cThen,Tryd.f85,Option.getD_some] at hd
  generalize hco:MW.code ⟨false,K,false,xw,xq⟩=co at *
  simp only[ulB,Tryd.f85,Option.getD_some]
  (try walk_nrm);refine lsq hg ?_;refine lsq hg ?_;refine lrg hg ?_;simp only[ix,Nat.reduceAdd];(iterate 4 (refine lop hg rfl rfl (by k_ne) fun v W H=>?_;go_simp;refine H _ _ rfl (by simp[go_sem]) ?_;clear H W v;try walk_nrm));refine len hg ?_;refine lcf hg rfl ?_;refine lsk hg ?_;refine lsq hg ?_;refine lrg hg ?_;simp only[ix,Nat.reduceAdd];(iterate 3 (refine lop hg rfl rfl (by k_ne) fun v W H=>?_;go_simp;refine H _ _ rfl (by simp[go_sem]) ?_;clear H W v;try walk_nrm));refine len hg ?_;refine lct hg rfl ?_;refine lsq hg ?_;refine lrg hg ?_;simp only[ix,Nat.reduceAdd];(iterate 2 (refine lop hg rfl rfl (by k_ne) fun v W H=>?_;go_simp;refine H _ _ rfl (by simp[go_sem]) ?_;clear H W v;try walk_nrm));refine len hg ?_
  refine lives_ctl rfl hg (fun _=>stepG_block) ?_
  refine lives_ctl rfl hg (fun _=>stepG_loop) ?_
  exact hd _ _ _ _ _ _ _ _ _ _ _ _ _ _ _ _ _ _ _ _ _ _ _ _ _ _ _ _ _ _ _ _ _ _ _ _ _ _ _ _ _
set_option maxRecDepth 100000 in
set_option maxHeartbeats 4000000 in
theorem lives_unlockI (hm:m < 2) (h2:∀k,k < 2->k≠m->f k=.off\/f k=.fresh) (h:In p i y 0 (upd f m (.own 1)) γ)
  (KD:∀γ' w',In p i y 0 (upd f m .off) γ'->Aft i p γ γ'->LV Tryd.prog wgLink.tWg top Post i γ' w' (G (c.finish (.tuple #[])) cs)) :
  LV Tryd.prog wgLink.tWg top Post i γ w (G ((base 70).at ⟨#[.pointer (some (p.muA m))]++Array.replicate 20 undef,[]⟩ [.code (Tryd.f70.body.getD .skip)]) (c::cs)):=by
 have hg:=h.ng
 simp only[Tryd.f70,Option.getD_some]
 (try walk_nrm);refine lsq hg ?_;refine lct hg rfl ?_;refine lsq hg ?_;refine lrg hg ?_;simp only[ix,Nat.reduceAdd];(iterate 3 (refine lop hg rfl rfl (by k_ne) fun v W H=>?_;go_simp;refine H _ _ rfl (by simp[go_sem]) ?_;clear H W v;try walk_nrm))
 refine lv_load hm h rfl (fun w c hc=>stepG_loadQ rfl rfl (by k_ne) rfl (by simp[Act.eval]) mu_q_unlock hc) fun γ1 w1 h1 A1 _ _=>?_
 clear hg;have hg:=h1.ng;(try walk_nrm);refine len hg ?_;refine lsq hg ?_;refine lrg hg ?_;simp only[ix,Nat.reduceAdd];refine lop hg rfl rfl (by k_ne) fun v W H=>?_;go_simp;refine H _ _ rfl (by simp[go_sem]) ?_;clear H W v;try walk_nrm
 refine lv_conv hm h1 rfl (fun w v hc=>stepG_conv rfl rfl (by k_ne) rfl (by kernel_rfl) (by kernel_rfl) (by simp[Act.eval]) hc) ?_
 try walk_nrm
 refine lv_unown hm h1 rfl h2 (fun w=>stepG_markAt .releaseMerge (by simp) rfl rfl (by k_ne) rfl Tryd.func41 mu_rlm_n mu_rlm_b mu_rlm_x mu_rlm_f (by simp[Act.eval])) fun γ2 w2 h2' A2=>?_
 clear hg;have hg:=h2'.ng;(try walk_nrm);refine len hg ?_;refine lrg hg ?_;simp only[ix,Nat.reduceAdd]
 refine lv_mark h2' rfl (.inl ⟨rfl,rfl⟩) (fun w=>stepG_mark0 .disable (by simp) rfl rfl (by k_ne) rfl Tryd.func42 mu_dis_n mu_dis_b mu_dis_x mu_dis_f) fun γ3 w3 h3 A3=>?_
 clear hg;have hg:=h3.ng;(try walk_nrm);refine len hg ?_;refine lsq hg ?_;refine lrg hg ?_;simp only[ix,Nat.reduceAdd];(iterate 3 (refine lop hg rfl rfl (by k_ne) fun v W H=>?_;go_simp;refine H _ _ rfl (by simp[go_sem]) ?_;clear H W v;try walk_nrm))
 refine lv_addop (dl:=-1) (bx:=fun x=>if x.S then .phand else if x.K||x.w==0 then .off else .rel) (Q:=fun x x'=>x'={ x with L:=false }) hm h3 (upd_same _ _ _) (fun x=>fit_of hm h2 (fun _=>⟨by simp,by split;simp;split<;>simp⟩) fun _=>by simp) (fun γ4 w4 h4 hI _=>?_) rfl rfl (by k_ne) rfl rfl rfl fun γ4 w4 x x' h4 A4 hx hw=>?_
 ·have M:=h4.mi hI hm
  have hL:=M.owned (h4.own_ hm)
  have hW:=(h4.seek hI).W
  have hf:=M.few
  refine⟨_,MStep.unlock 3,?_,rfl,rfl⟩
  generalize γ4.sk.mw m=u at *
  obtain⟨uL,uK,uS,uw,uq⟩:=u
  dsimp only at hL hf
  subst hL
  exact(mb_unlock uK uS uw uq (by omega)).symm
 ·rw[upd_upd] at h4
  obtain⟨xL,xK,xS,xw,xq⟩:=x
  subst hx
  replace hw:xw<=32:=hw
  have h4':In p i y 1 (upd f m (if xS then .phand else UpTo ⟨false,xK,xS,xw,xq⟩)) γ4:=by
   have e:(if xS then ML.phand else if xK||xw==0 then .off else .rel)=(if xS then .phand else UpTo ⟨false,xK,xS,xw,xq⟩):=by
    cases xS with
    | true=>rfl
    | false =>
     unfold UpTo
     by_cases q:xw=0
     ·simp[q]
     ·cases xK<;>simp[q]
   rw[<- e];exact h4
  clear h4
  have A5:=((A1.trans A2).trans A3).trans A4
  clear A1 A2 A3 A4 h1 h2' h3 h hg;have hg:=h4'.ng
  by_cases hz:MW.code ⟨false,xK,xS,xw,xq⟩=0
  ·have hs0:xK=false/\xS=false/\xw=0:=by
    simp only[MW.code] at hz
    revert hz
    cases xK<;>cases xS<;>simp<;>omega
   obtain⟨rfl,rfl,rfl⟩:=hs0
   rw[show (if (false:Bool)=true then ML.phand else UpTo ⟨false,false,false,0,xq⟩)=.off by simp[UpTo]] at h4'
   simp only[hz]
   clear hz;(try walk_nrm);refine lop hg rfl rfl (by k_ne) fun v W H=>?_;go_simp;refine H _ _ rfl (by simp[go_sem]) ?_;clear H W v;(try walk_nrm);refine len hg ?_;refine lsq hg ?_;refine lsq hg ?_;refine lrg hg ?_;simp only[ix,Nat.reduceAdd];(iterate 2 (refine lop hg rfl rfl (by k_ne) fun v W H=>?_;go_simp;refine H _ _ rfl (by simp[go_sem]) ?_;clear H W v;try walk_nrm));refine len hg ?_;refine lcf hg rfl ?_;refine lsk hg ?_;refine lrg hg ?_;simp only[ix,Nat.reduceAdd]
   refine lv_mark h4' rfl (.inr ⟨rfl,rfl⟩) (fun w=>stepG_mark0 .enable (by simp) rfl rfl (by k_ne) rfl Tryd.func43 mu_ena_n mu_ena_b mu_ena_x mu_ena_f) fun γ9 w9 h9 A9=>?_
   clear hg;have hg:=h9.ng;(try walk_nrm);refine len hg ?_
   refine lives_ctl rfl hg (fun _=>stepG_end) ?_
   exact lives_ctl rfl hg (fun w2=>stepG_leave (v:=.tuple #[]) rfl rfl Tryd.func70 (by kernel_rfl) (by kernel_rfl)) (KD _ _ h9 (A5.trans A9))
  ·have n1:((MW.code ⟨false,xK,xS,xw,xq⟩:Nat):Int)≠0:=by omega
   have n2:(((MW.code ⟨false,xK,xS,xw,xq⟩:Nat):Int) != 0)=true:=by simpa using n1
   clear hz
   have hc:∀(γ4:Gho) (w4:World),In p i y 1 (upd f m (if xS then .phand else UpTo ⟨false,xK,xS,xw,xq⟩)) γ4->∀(c:Frame) (cs:List Frame),(∀γ' w',In p i y 1 (upd f m .off) γ'->Aft i p γ4 γ'->LV Tryd.prog wgLink.tWg top Post i γ' w' (G (c.finish (.tuple #[])) cs))->LV Tryd.prog wgLink.tWg top Post i γ4 w4 (G ((base 85).at ⟨#[.pointer (some (p.muA m)),.int .i32 (MW.code ⟨false,xK,xS,xw,xq⟩:Nat)]++Array.replicate 41 undef,[]⟩ [.code ulB]) (c::cs)):=fun γ4 w4 h4 c cs KD=>lives_unlockSlow hm h2 xK xS xw xq hw h4 KD
   generalize MW.code ⟨false,xK,xS,xw,xq⟩=co at *
   generalize (if xS then ML.phand else UpTo ⟨false,xK,xS,xw,xq⟩)=bb at *
   (try walk_nrm);refine lop hg rfl rfl (by k_ne) fun v W H=>?_;go_simp;refine H _ _ rfl (by simp[go_sem]) ?_;clear H W v;(try walk_nrm);refine len hg ?_;refine lsq hg ?_;refine lsq hg ?_;refine lrg hg ?_;simp only[ix,Nat.reduceAdd];(iterate 2 (refine lop hg rfl rfl (by k_ne) fun v W H=>?_;go_simp;refine H _ _ rfl (by simp[go_sem]) ?_;clear H W v;try walk_nrm));refine len hg ?_;refine lct hg rfl ?_;refine lrg hg ?_;simp only[ix,Nat.reduceAdd];(iterate 2 (refine lop hg rfl rfl (by k_ne) fun v W H=>?_;go_simp;refine H _ _ rfl (by simp[go_sem]) ?_;clear H W v;try walk_nrm))
   refine lives_ctl rfl hg (fun _=>stepG_callv (first:=#[]) (caps:=#[]) (vs:=#[.pointer (some (p.muA m)),.int .i32 (co:Nat)]) rfl rfl (by k_ne) rfl rfl (by simp[Act.eval]) Tryd.func85 (by kernel_rfl) rfl) ?_
   refine hc _ _ h4' _ _ fun γ7 w7 h7 A7=>?_
   rw[Frame.finish_at];clear hg;have hg:=h7.ng;(try walk_nrm);refine len hg ?_;refine lrg hg ?_;simp only[ix,Nat.reduceAdd]
   refine lv_mark h7 rfl (.inr ⟨rfl,rfl⟩) (fun w=>stepG_mark0 .enable (by simp) rfl rfl (by k_ne) rfl Tryd.func43 mu_ena_n mu_ena_b mu_ena_x mu_ena_f) fun γ9 w9 h9 A9=>?_
   clear hg;have hg:=h9.ng;(try walk_nrm);refine len hg ?_
   refine lives_ctl rfl hg (fun _=>stepG_end) ?_
   exact lives_ctl rfl hg (fun w2=>stepG_leave (v:=.tuple #[]) rfl rfl Tryd.func70 (by kernel_rfl) (by kernel_rfl)) (KD _ _ h9 ((A5.trans A7).trans A9))
end
end Go.Proofs.YtbicafgmfgdckaaDoor
