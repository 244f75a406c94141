/- A part of a proof: several texts in one. -/
import Derived.Test.YtmanggcjimaehaaGreatLh5
set_option maxRecDepth 1000000
set_option maxHeartbeats 8000000
set_option linter.unusedVariables false
set_option linter.unusedSimpArgs false
noncomputable section
namespace Go.Am
open IntKind (wrap)
open Go.Proofs.Tryz
open Go.Proofs
inductive rfaS where
 | h0 (v11:List Int) (v12:List Int) (v13:List R4) (v14:Int)
 | h1 (v11:List Int) (v12:List Int) (v13:List R4) (v14:Int) (v15:List Bool) (v16:Int)
 | h2 (v11:List Int) (v12:List Int) (v13:List R4) (v14:Int) (v19:List R2) (v20:Int)
def rfaC (l0:List R6) (x1:Int) (x2:Int) (x3:Int):rfaS→Cfg
 | .h0 v11 v12 v13 v14=>⟨⟨118,0,true⟩,none,(Zb prog 104 [1,1,1,1,0,1,0,0] 0),none,(Zy prog 71),⟨Yg [(0,(.dat l0.length (Zz l0))),(1,(ii x1)),(2,(ii x2)),(3,(ii x3)),(11,(.dat v11.length (Zz v11))),(12,(.dat v12.length (Zz v12))),(13,(.sla 0 4 0 v13.length (.un 4))),(14,(ii v14))],Wh [⟨Yx v13.length (Zz v13),88,some ⟨4,v13.length,(Zz v13)⟩⟩] 0,1,[],true⟩,[],.leaf⟩
 | .h1 v11 v12 v13 v14 v15 v16=>⟨⟨118,0,true⟩,none,(Zb prog 104 [1,1,1,1,0,1,0,0,1,0,0,1,0,1,0,0] 0),none,(Zy prog 71),⟨Yg [(0,(.dat l0.length (Zz l0))),(1,(ii x1)),(2,(ii x2)),(3,(ii x3)),(11,(.dat v11.length (Zz v11))),(12,(.dat v12.length (Zz v12))),(13,(.sla 1 4 0 v13.length (.un 4))),(14,(ii v14)),(15,(.sla 0 1 0 v15.length (.un 1))),(16,(ii v16))],Wh [⟨Yx v15.length (Zz v15),4,some ⟨1,v15.length,(Zz v15)⟩⟩,⟨Yx v13.length (Zz v13),88,some ⟨4,v13.length,(Zz v13)⟩⟩] 0,2,[],true⟩,[],.leaf⟩
 | .h2 v11 v12 v13 v14 v19 v20=>⟨⟨118,0,true⟩,none,(Zb prog 104 [1,1,1,1,0,1,0,0,1,0,0,1,1,1,1,0,0] 0),none,(Zy prog 71),⟨Yg [(0,(.dat l0.length (Zz l0))),(1,(ii x1)),(2,(ii x2)),(3,(ii x3)),(11,(.dat v11.length (Zz v11))),(12,(.dat v12.length (Zz v12))),(13,(.sla 0 4 0 v13.length (.un 4))),(14,(ii v14)),(19,(.dat v19.length (Zz v19))),(20,(ii v20))],Wh [⟨Yx v13.length (Zz v13),88,some ⟨4,v13.length,(Zz v13)⟩⟩] 0,1,[],true⟩,[],.leaf⟩
def v8s :List (Option (List Nat)):=[some [0,1,2,3,11,12,13,14]]
def v8t :List (Option (List Nat)):=[]
def j0h :List (Option (List Nat)):=[some [0,1,2,3,11,12,13,14,15,16]]
def j0i :List (Option (List Nat)):=[]
def rfaN2 :List (Option (List Nat)):=[some [0,1,2,3,11,12,13,14,19,20]]
def rfaM2 :List (Option (List Nat)):=[]
def Jc (l0:List R6) (x1:Int) (x2:Int) (x3:Int):rfaS→Xv rfaS
 | .h0 v11 v12 v13 v14=>(bif (decide ((wrap .i64 (v14+1))<(v11.length:Int))) then (.to (.h1 v11 v12 v13 v14 ([]:List Bool) 0)) else (bif (Ja 2 (cvT v13) ([]:List R4)) then (.ret [(.dat (joV 2 (cvT v13) ([]:List R4)).length (Zz (joV 2 (cvT v13) ([]:List R4))))]) else .stuck))
 | .h1 v11 v12 v13 v14 v15 v16=>(bif (decide (v16<(v12.length:Int))) then (bif (z0i (cvT l0) (Xk x1 (wrap .i64 (x3 - 1)) (rd v11 v14.toNat) (rd v12 v16.toNat)).a (Xk x1 (wrap .i64 (x3 - 1)) (rd v11 v14.toNat) (rd v12 v16.toNat)).b (Xk x1 (wrap .i64 (x3 - 1)) (rd v11 v14.toNat) (rd v12 v16.toNat)).c) then (bif ((decide (0≤v14∧v14<(v11.length:Int)))&&true) then (bif ((decide (0≤v16∧v16<(v12.length:Int)))&&true) then (bif (z0i (cvT l0) (Xk x1 x3 (rd v11 v14.toNat) (rd v12 v16.toNat)).a (Xk x1 x3 (rd v11 v14.toNat) (rd v12 v16.toNat)).b (Xk x1 x3 (rd v11 v14.toNat) (rd v12 v16.toNat)).c) then (bif (!((y2w (cvT l0) (Xk x1 (wrap .i64 (x3 - 1)) (rd v11 v14.toNat) (rd v12 v16.toNat)).a (Xk x1 (wrap .i64 (x3 - 1)) (rd v11 v14.toNat) (rd v12 v16.toNat)).b (Xk x1 (wrap .i64 (x3 - 1)) (rd v11 v14.toNat) (rd v12 v16.toNat)).c) == (y2w (cvT l0) (Xk x1 x3 (rd v11 v14.toNat) (rd v12 v16.toNat)).a (Xk x1 x3 (rd v11 v14.toNat) (rd v12 v16.toNat)).b (Xk x1 x3 (rd v11 v14.toNat) (rd v12 v16.toNat)).c))) then (bif (Nat.beq 1 1&&((decide (0+v15.length=v15.length))&&decide ((v15.length+1+1)*(1+1)≤Uw))) then (.to (.h1 v11 v12 v13 v14 (v15++[((y2w (cvT l0) (Xk x1 (wrap .i64 (x3 - 1)) (rd v11 v14.toNat) (rd v12 v16.toNat)).a (Xk x1 (wrap .i64 (x3 - 1)) (rd v11 v14.toNat) (rd v12 v16.toNat)).b (Xk x1 (wrap .i64 (x3 - 1)) (rd v11 v14.toNat) (rd v12 v16.toNat)).c) == (x2 == 0))]) (wrap .i64 (v16+1)))) else .stuck) else (bif (Nat.beq 1 1&&((decide (0+v15.length=v15.length))&&decide ((v15.length+1+1)*(1+1)≤Uw))) then (.to (.h1 v11 v12 v13 v14 (v15++[false]) (wrap .i64 (v16+1)))) else .stuck)) else .stuck) else .stuck) else .stuck) else .stuck) else (bif (Qw (cvT v12) (cvT v15)) then (.to (.h2 v11 v12 v13 v14 (z1q (cvT v12) (cvT v15)) 0)) else .stuck))
 | .h2 v11 v12 v13 v14 v19 v20=>(bif (decide (v20<(v19.length:Int))) then (bif ((decide (0≤v14∧v14<(v11.length:Int)))&&true) then (bif ((decide (0≤(wrap .i64 (v14+1))∧(wrap .i64 (v14+1))<(v11.length:Int)))&&true) then (bif ((decide (0≤v20∧v20<(v19.length:Int)))&&true) then (bif (Nat.beq 4 4&&((decide (0+v13.length=v13.length))&&decide ((v13.length+1+1)*(32+1)≤Uw))) then (.to (.h2 v11 v12 (v13++[(R4.mk (rd v11 v14.toNat) (rd v19 v20.toNat).a (rd v11 (Int.toNat (wrap .i64 (v14+1)))) (rd v19 v20.toNat).b)]) v14 v19 (wrap .i64 (v20+1)))) else .stuck) else .stuck) else .stuck) else .stuck) else (.to (.h0 v11 v12 v13 (wrap .i64 (v14+1)))))
def y2y (l0:List R6) (x1:Int) (x2:Int) (x3:Int):Xv rfaS:=(bif (x1 == 0) then (bif (Xf (cvT l0) 1) then (bif (Xf (cvT l0) 2) then (.to (.h0 (z1m (cvT l0) 1) (z1m (cvT l0) 2) ([]:List R4) 0)) else .stuck) else .stuck) else (bif (x1 == 1) then (bif (Xf (cvT l0) 0) then (bif (Xf (cvT l0) 2) then (.to (.h0 (z1m (cvT l0) 0) (z1m (cvT l0) 2) ([]:List R4) 0)) else .stuck) else .stuck) else (bif (Xf (cvT l0) 0) then (bif (Xf (cvT l0) 1) then (.to (.h0 (z1m (cvT l0) 0) (z1m (cvT l0) 1) ([]:List R4) 0)) else .stuck) else .stuck)))
theorem w6b (l0:List R6) (x1:Int) (x2:Int) (x3:Int): ∀s,Yt prog (Zy prog 104) (rfaC l0 x1 x2 x3) (rfaC l0 x1 x2 x3 s) (Jc l0 x1 x2 x3 s)
 | .h0 v11 v12 v13 v14=>(lb (fun k0=>(sl z0d 24 [(4,1,Zz ([]:List Bool))] ⟨[1,0],[],j0h,j0i⟩ ⟨[(15,.grow 0 1)],[],[]⟩ [true] (pp (fl ([]:List Bool) (fl v13 nn)) (tt k0 nn)))) (fun k0=>(Xb (sl z0d (C':=⟨⟨118,0,true⟩,(Uv prog 104 [1,1,1,1,1,0] 1),(Zb prog 104 [1,1,1,1,1,0] 1),none,(Zy prog 71),⟨Yg [(116,(.dat v13.length (Zz v13)))],Wh [] 0,0,[],true⟩,[],.leaf⟩) 14 [] ⟨[],[0],[some [116]],[]⟩ ⟨[(116,.frz v13.length v13.length (Zz v13) (Zz v13))],[],[]⟩ [false] (pp (xZ (z1p 4 4 0 v13.length v13.length (Zz v13)) v13.length (Zz v13)) (pp (xL v13.length v13.length) (pp (xS v13.length (Zz v13) (Zz v13)) (pp (fl v13 nn) (tt k0 nn)))))) (lo fun o0=>(lr 118 3 [1,1,1,1,1,1,1,0] 1 71 [(8,(.dat (joV 2 (cvT v13) ([]:List R4)).length (Zz (joV 2 (cvT v13) ([]:List R4)))))] (sl z0d 3 [] ⟨[],[],[some [8]],[]⟩ ⟨[],[],[]⟩ [] (pp (pp (xr v13) (pp (xI R4 0 (fun _=>[])) (xw o0))) nn)))))))
 | .h1 v11 v12 v13 v14 v15 v16=>(lb (fun k0=>(lo fun aG=>(lo fun aU=>(lo fun bR=>(lo fun cL=>(lb (fun k1=>(lo fun o0=>(sl z0d 38 [] ⟨[3,1],[],j0h,j0i⟩ ⟨[(15,.len (v15++[((y2w (cvT l0) (Xk x1 (wr (x3 - 1)) (rd v11 (tn v14)) (rd v12 (tn v16))).a (Xk x1 (wr (x3 - 1)) (rd v11 (tn v14)) (rd v12 (tn v16))).b (Xk x1 (wr (x3 - 1)) (rd v11 (tn v14)) (rd v12 (tn v16))).c) == (x2 == 0))]).length)],[.rowed 1 (v15++[((y2w (cvT l0) (Xk x1 (wr (x3 - 1)) (rd v11 (tn v14)) (rd v12 (tn v16))).a (Xk x1 (wr (x3 - 1)) (rd v11 (tn v14)) (rd v12 (tn v16))).b (Xk x1 (wr (x3 - 1)) (rd v11 (tn v14)) (rd v12 (tn v16))).c) == (x2 == 0))]).length (Zz (v15++[((y2w (cvT l0) (Xk x1 (wr (x3 - 1)) (rd v11 (tn v14)) (rd v12 (tn v16))).a (Xk x1 (wr (x3 - 1)) (rd v11 (tn v14)) (rd v12 (tn v16))).b (Xk x1 (wr (x3 - 1)) (rd v11 (tn v14)) (rd v12 (tn v16))).c) == (x2 == 0))])),.keep],[]⟩ (trs 5 []) (pp (xL (v15.length+1) (v15++[((y2w (cvT l0) (Xk x1 (wr (x3 - 1)) (rd v11 (tn v14)) (rd v12 (tn v16))).a (Xk x1 (wr (x3 - 1)) (rd v11 (tn v14)) (rd v12 (tn v16))).b (Xk x1 (wr (x3 - 1)) (rd v11 (tn v14)) (rd v12 (tn v16))).c) == (x2 == 0))]).length) (pp (xL (v15.length+1) (v15++[((y2w (cvT l0) (Xk x1 (wr (x3 - 1)) (rd v11 (tn v14)) (rd v12 (tn v16))).a (Xk x1 (wr (x3 - 1)) (rd v11 (tn v14)) (rd v12 (tn v16))).b (Xk x1 (wr (x3 - 1)) (rd v11 (tn v14)) (rd v12 (tn v16))).c) == (x2 == 0))]).length) (pp (xS (v15.length+1) (Ze (Zz v15) 0 v15.length 1 [(.bool ((y2w (cvT l0) (Xk x1 (wr (x3 - 1)) (rd v11 (tn v14)) (rd v12 (tn v16))).a (Xk x1 (wr (x3 - 1)) (rd v11 (tn v14)) (rd v12 (tn v16))).b (Xk x1 (wr (x3 - 1)) (rd v11 (tn v14)) (rd v12 (tn v16))).c) == (x2 == 0)))]) (Zz (v15++[((y2w (cvT l0) (Xk x1 (wr (x3 - 1)) (rd v11 (tn v14)) (rd v12 (tn v16))).a (Xk x1 (wr (x3 - 1)) (rd v11 (tn v14)) (rd v12 (tn v16))).b (Xk x1 (wr (x3 - 1)) (rd v11 (tn v14)) (rd v12 (tn v16))).c) == (x2 == 0))]))) (pp (pp (xF (Ze (Zz v15) 0 v15.length 1 [(.bool ((y2w (cvT l0) (Xk x1 (wr (x3 - 1)) (rd v11 (tn v14)) (rd v12 (tn v16))).a (Xk x1 (wr (x3 - 1)) (rd v11 (tn v14)) (rd v12 (tn v16))).b (Xk x1 (wr (x3 - 1)) (rd v11 (tn v14)) (rd v12 (tn v16))).c) == (x2 == 0)))])) (fl v13 nn)) (ww o0 (tt k1 (pp (pp (xr l0) (xw cL)) (ww bR (ww aU (pp (pp (xr l0) (xw aG)) (ww bR (ww aU (tt k0 nn)))))))))))))))) (fun k1=>(lo fun o0=>(sl z0d 38 [] ⟨[3,1],[],j0h,j0i⟩ ⟨[(15,.len (v15++[false]).length)],[.rowed 1 (v15++[false]).length (Zz (v15++[false])),.keep],[]⟩ (bl 5 1) (pp (xL (v15.length+1) (v15++[false]).length) (pp (xL (v15.length+1) (v15++[false]).length) (pp (xS (v15.length+1) (Ze (Zz v15) 0 v15.length 1 [(.bool false)]) (Zz (v15++[false]))) (pp (pp (xF (Ze (Zz v15) 0 v15.length 1 [(.bool false)])) (fl v13 nn)) (ww o0 (tt k1 (pp (pp (xr l0) (xw cL)) (ww bR (ww aU (pp (pp (xr l0) (xw aG)) (ww bR (ww aU (tt k0 nn)))))))))))))))))))))) (fun k0=>(Xb (sl z0d (C':=⟨⟨118,0,true⟩,(Uv prog 104 [1,1,1,1,0,1,0,0,1,0,0,1,1,0] 2),(Zb prog 104 [1,1,1,1,0,1,0,0,1,0,0,1,1,0] 1),none,(Zy prog 71),⟨Yg [(0,(.dat l0.length (Zz l0))),(1,(ii x1)),(2,(ii x2)),(3,(ii x3)),(11,(.dat v11.length (Zz v11))),(12,(.dat v12.length (Zz v12))),(13,(.sla 0 4 0 v13.length (.un 4))),(14,(ii v14)),(84,(.dat v12.length (Zz v12))),(85,(.dat v15.length (Zz v15)))],Wh [⟨Yx v13.length (Zz v13),88,some ⟨4,v13.length,(Zz v13)⟩⟩] 0,1,[],true⟩,[],.leaf⟩) 14 [] ⟨[1],[0],[some [0,1,2,3,11,12,13,14,84,85]],[]⟩ ⟨[(85,.frz v15.length v15.length (Zz v15) (Zz v15))],[],[]⟩ [false] (pp (xZ (z1p 1 1 0 v15.length v15.length (Zz v15)) v15.length (Zz v15)) (pp (xL v15.length v15.length) (pp (xS v15.length (Zz v15) (Zz v15)) (pp (fl v13 nn) (pp (fl v15 nn) (tt k0 nn))))))) (lo fun o0=>(sl z0d 9 [] ⟨[0],[],rfaN2,rfaM2⟩ ⟨[],[],[]⟩ [] (pp (fl v13 nn) (pp (pp (xr v12) (pp (xr v15) (xw o0))) nn)))))))
 | .h2 v11 v12 v13 v14 v19 v20=>(lb (fun k0=>(lo fun o0=>(lo fun o1=>(lo fun o2=>(lo fun o3=>(sl z0d 20 [] ⟨[2],[],rfaN2,rfaM2⟩ ⟨[(13,.len (v13++[(R4.mk (rd v11 (tn v14)) (rd v19 (tn v20)).a (rd v11 (tn (wr (v14+1)))) (rd v19 (tn v20)).b)]).length)],[.rowed 4 (v13++[(R4.mk (rd v11 (tn v14)) (rd v19 (tn v20)).a (rd v11 (tn (wr (v14+1)))) (rd v19 (tn v20)).b)]).length (Zz (v13++[(R4.mk (rd v11 (tn v14)) (rd v19 (tn v20)).a (rd v11 (tn (wr (v14+1)))) (rd v19 (tn v20)).b)]))],[]⟩ [true] (pp (xL (v13.length+1) (v13++[(R4.mk (rd v11 (tn v14)) (rd v19 (tn v20)).a (rd v11 (tn (wr (v14+1)))) (rd v19 (tn v20)).b)]).length) (pp (xL (v13.length+1) (v13++[(R4.mk (rd v11 (tn v14)) (rd v19 (tn v20)).a (rd v11 (tn (wr (v14+1)))) (rd v19 (tn v20)).b)]).length) (pp (xS (v13.length+1) (Ze (Zz v13) 0 v13.length 4 [(ii (rd v11 (tn v14))),(ii (rd v19 (tn v20)).a),(ii (rd v11 (tn (wr (v14+1))))),(ii (rd v19 (tn v20)).b)]) (Zz (v13++[(R4.mk (rd v11 (tn v14)) (rd v19 (tn v20)).a (rd v11 (tn (wr (v14+1)))) (rd v19 (tn v20)).b)]))) (pp (pp (xF (Ze (Zz v13) 0 v13.length 4 [(ii (rd v11 (tn v14))),(ii (rd v19 (tn v20)).a),(ii (rd v11 (tn (wr (v14+1))))),(ii (rd v19 (tn v20)).b)])) nn) (ww o3 (ww o2 (ww o1 (ww o2 (ww o0 (tt k0 nn)))))))))))))))) (fun k0=>(sl z0d 17 [] ⟨[0],[],v8s,v8t⟩ ⟨[],[],[]⟩ [false] (pp (fl v13 nn) (tt k0 nn)))))
theorem x7v (l0:List R6) (x1:Int) (x2:Int) (x3:Int):Yt prog (Zy prog 104) (rfaC l0 x1 x2 x3) (Za prog 104 [(.dat l0.length (Zz l0)),(.int .i64 x1),(.int .i64 x2),(.int .i64 x3)] true []) (y2y l0 x1 x2 x3):=(lb (fun k0=>(lo fun o0=>(lo fun o1=>(sl z0d 54 [(88,4,Zz ([]:List R4))] ⟨[0],[],v8s,v8t⟩ ⟨[(13,.grow 0 4)],[],[]⟩ [true] (pp (fl ([]:List R4) nn) (pp (pp (xr l0) (xw o1)) (pp (pp (xr l0) (xw o0)) (tt k0 nn)))))))) (fun k0=>(lb (fun k1=>(lo fun o0=>(lo fun o1=>(sl z0d 62 [(88,4,Zz ([]:List R4))] ⟨[0],[],v8s,v8t⟩ ⟨[(13,.grow 0 4)],[],[]⟩ [false,true] (pp (fl ([]:List R4) nn) (pp (pp (xr l0) (xw o1)) (pp (pp (xr l0) (xw o0)) (tt k1 (tt k0 nn))))))))) (fun k1=>(lo fun o0=>(lo fun o1=>(sl z0d 63 [(88,4,Zz ([]:List R4))] ⟨[0],[],v8s,v8t⟩ ⟨[(13,.grow 0 4)],[],[]⟩ [false,false] (pp (fl ([]:List R4) nn) (pp (pp (xr l0) (xw o1)) (pp (pp (xr l0) (xw o0)) (tt k1 (tt k0 nn))))))))))))
theorem v8r (l0:List R6) (x1:Int) (x2:Int) (x3:Int) (n:Nat) (vs:List AVal) (h:Zs (Jc l0 x1 x2 x3) n (y2y l0 x1 x2 x3)=.ret vs):Jy prog (Zy prog 104) (Za prog 104 [(.dat l0.length (Zz l0)),(.int .i64 x1),(.int .i64 x2),(.int .i64 x3)] true []) vs:=by have:=Zd (w6b l0 x1 x2 x3) n _ (x7v l0 x1 x2 x3);rwa [h] at this
inductive rseS where
 | h0 (v9:List Int) (v10:List Int) (v11:List R4) (v12:Int)
 | h1 (v9:List Int) (v10:List Int) (v11:List R4) (v12:Int) (v13:List Bool) (v14:Int)
 | h2 (v9:List Int) (v10:List Int) (v11:List R4) (v12:Int) (v15:List R2) (v16:Int)
def rseC (l0:List R6) (x1:Int) (x2:Int):rseS→Cfg
 | .h0 v9 v10 v11 v12=>⟨⟨91,0,true⟩,none,(Zb prog 103 [1,1,1,1,0,1,0,0] 0),none,(Zy prog 8),⟨Yg [(0,(.dat l0.length (Zz l0))),(1,(ii x1)),(2,(ii x2)),(9,(.dat v9.length (Zz v9))),(10,(.dat v10.length (Zz v10))),(11,(.sla 0 4 0 v11.length (.un 4))),(12,(ii v12))],Wh [⟨Yx v11.length (Zz v11),88,some ⟨4,v11.length,(Zz v11)⟩⟩] 0,1,[],true⟩,[],.leaf⟩
 | .h1 v9 v10 v11 v12 v13 v14=>⟨⟨91,0,true⟩,none,(Zb prog 103 [1,1,1,1,0,1,0,0,1,0,0,1,0,1,0,0] 0),none,(Zy prog 8),⟨Yg [(0,(.dat l0.length (Zz l0))),(1,(ii x1)),(2,(ii x2)),(9,(.dat v9.length (Zz v9))),(10,(.dat v10.length (Zz v10))),(11,(.sla 1 4 0 v11.length (.un 4))),(12,(ii v12)),(13,(.sla 0 1 0 v13.length (.un 1))),(14,(ii v14))],Wh [⟨Yx v13.length (Zz v13),4,some ⟨1,v13.length,(Zz v13)⟩⟩,⟨Yx v11.length (Zz v11),88,some ⟨4,v11.length,(Zz v11)⟩⟩] 0,2,[],true⟩,[],.leaf⟩
 | .h2 v9 v10 v11 v12 v15 v16=>⟨⟨91,0,true⟩,none,(Zb prog 103 [1,1,1,1,0,1,0,0,1,0,0,1,1,1,1,0,0] 0),none,(Zy prog 8),⟨Yg [(0,(.dat l0.length (Zz l0))),(1,(ii x1)),(2,(ii x2)),(9,(.dat v9.length (Zz v9))),(10,(.dat v10.length (Zz v10))),(11,(.sla 0 4 0 v11.length (.un 4))),(12,(ii v12)),(15,(.dat v15.length (Zz v15))),(16,(ii v16))],Wh [⟨Yx v11.length (Zz v11),88,some ⟨4,v11.length,(Zz v11)⟩⟩] 0,1,[],true⟩,[],.leaf⟩
def v7t :List (Option (List Nat)):=[some [0,1,2,9,10,11,12]]
def v7u :List (Option (List Nat)):=[]
def rseN1 :List (Option (List Nat)):=[some [0,1,2,9,10,11,12,13,14]]
def rseM1 :List (Option (List Nat)):=[]
def rseN2 :List (Option (List Nat)):=[some [0,1,2,9,10,11,12,15,16]]
def rseM2 :List (Option (List Nat)):=[]
def Jb (l0:List R6) (x1:Int) (x2:Int):rseS→Xv rseS
 | .h0 v9 v10 v11 v12=>(bif (decide ((wrap .i64 (v12+1))<(v9.length:Int))) then (.to (.h1 v9 v10 v11 v12 ([]:List Bool) 0)) else (bif (Ja 2 (cvT v11) ([]:List R4)) then (.ret [(.dat (joV 2 (cvT v11) ([]:List R4)).length (Zz (joV 2 (cvT v11) ([]:List R4))))]) else .stuck))
 | .h1 v9 v10 v11 v12 v13 v14=>(bif (decide (v14<(v10.length:Int))) then (bif ((decide (0≤v12∧v12<(v9.length:Int)))&&true) then (bif ((decide (0≤v14∧v14<(v10.length:Int)))&&true) then (bif (z0i (cvT l0) (Xk x1 x2 (rd v9 v12.toNat) (rd v10 v14.toNat)).a (Xk x1 x2 (rd v9 v12.toNat) (rd v10 v14.toNat)).b (Xk x1 x2 (rd v9 v12.toNat) (rd v10 v14.toNat)).c) then (bif (Nat.beq 1 1&&((decide (0+v13.length=v13.length))&&decide ((v13.length+1+1)*(1+1)≤Uw))) then (.to (.h1 v9 v10 v11 v12 (v13++[(y2w (cvT l0) (Xk x1 x2 (rd v9 v12.toNat) (rd v10 v14.toNat)).a (Xk x1 x2 (rd v9 v12.toNat) (rd v10 v14.toNat)).b (Xk x1 x2 (rd v9 v12.toNat) (rd v10 v14.toNat)).c)]) (wrap .i64 (v14+1)))) else .stuck) else .stuck) else .stuck) else .stuck) else (bif (Qw (cvT v10) (cvT v13)) then (.to (.h2 v9 v10 v11 v12 (z1q (cvT v10) (cvT v13)) 0)) else .stuck))
 | .h2 v9 v10 v11 v12 v15 v16=>(bif (decide (v16<(v15.length:Int))) then (bif ((decide (0≤v12∧v12<(v9.length:Int)))&&true) then (bif ((decide (0≤(wrap .i64 (v12+1))∧(wrap .i64 (v12+1))<(v9.length:Int)))&&true) then (bif ((decide (0≤v16∧v16<(v15.length:Int)))&&true) then (bif (Nat.beq 4 4&&((decide (0+v11.length=v11.length))&&decide ((v11.length+1+1)*(32+1)≤Uw))) then (.to (.h2 v9 v10 (v11++[(R4.mk (rd v9 v12.toNat) (rd v15 v16.toNat).a (rd v9 (Int.toNat (wrap .i64 (v12+1)))) (rd v15 v16.toNat).b)]) v12 v15 (wrap .i64 (v16+1)))) else .stuck) else .stuck) else .stuck) else .stuck) else (.to (.h0 v9 v10 v11 (wrap .i64 (v12+1)))))
def y2o (l0:List R6) (x1:Int) (x2:Int):Xv rseS:=(bif (x1 == 0) then (bif (Xf (cvT l0) 1) then (bif (Xf (cvT l0) 2) then (.to (.h0 (z1m (cvT l0) 1) (z1m (cvT l0) 2) ([]:List R4) 0)) else .stuck) else .stuck) else (bif (x1 == 1) then (bif (Xf (cvT l0) 0) then (bif (Xf (cvT l0) 2) then (.to (.h0 (z1m (cvT l0) 0) (z1m (cvT l0) 2) ([]:List R4) 0)) else .stuck) else .stuck) else (bif (Xf (cvT l0) 0) then (bif (Xf (cvT l0) 1) then (.to (.h0 (z1m (cvT l0) 0) (z1m (cvT l0) 1) ([]:List R4) 0)) else .stuck) else .stuck)))
theorem w5o (l0:List R6) (x1:Int) (x2:Int): ∀s,Yt prog (Zy prog 103) (rseC l0 x1 x2) (rseC l0 x1 x2 s) (Jb l0 x1 x2 s)
 | .h0 v9 v10 v11 v12=>(lb (fun k0=>(sl z0d 24 [(4,1,Zz ([]:List Bool))] ⟨[1,0],[],rseN1,rseM1⟩ ⟨[(13,.grow 0 1)],[],[]⟩ [true] (pp (fl ([]:List Bool) (fl v11 nn)) (tt k0 nn)))) (fun k0=>(Xb (sl z0d (C':=⟨⟨91,0,true⟩,(Uv prog 103 [1,1,1,1,1,0] 1),(Zb prog 103 [1,1,1,1,1,0] 1),none,(Zy prog 8),⟨Yg [(89,(.dat v11.length (Zz v11)))],Wh [] 0,0,[],true⟩,[],.leaf⟩) 14 [] ⟨[],[0],[some [89]],[]⟩ ⟨[(89,.frz v11.length v11.length (Zz v11) (Zz v11))],[],[]⟩ [false] (pp (xZ (z1p 4 4 0 v11.length v11.length (Zz v11)) v11.length (Zz v11)) (pp (xL v11.length v11.length) (pp (xS v11.length (Zz v11) (Zz v11)) (pp (fl v11 nn) (tt k0 nn)))))) (lo fun o0=>(lr 91 3 [1,1,1,1,1,1,1,0] 1 8 [(6,(.dat (joV 2 (cvT v11) ([]:List R4)).length (Zz (joV 2 (cvT v11) ([]:List R4)))))] (sl z0d 3 [] ⟨[],[],[some [6]],[]⟩ ⟨[],[],[]⟩ [] (pp (pp (xr v11) (pp (xI R4 0 (fun _=>[])) (xw o0))) nn)))))))
 | .h1 v9 v10 v11 v12 v13 v14=>(lb (fun k0=>(lo fun o0=>(lo fun o1=>(lo fun o2=>(lo fun o3=>(sl z0d 20 [] ⟨[3,1],[],rseN1,rseM1⟩ ⟨[(13,.len (v13++[(y2w (cvT l0) (Xk x1 x2 (rd v9 (tn v12)) (rd v10 (tn v14))).a (Xk x1 x2 (rd v9 (tn v12)) (rd v10 (tn v14))).b (Xk x1 x2 (rd v9 (tn v12)) (rd v10 (tn v14))).c)]).length)],[.rowed 1 (v13++[(y2w (cvT l0) (Xk x1 x2 (rd v9 (tn v12)) (rd v10 (tn v14))).a (Xk x1 x2 (rd v9 (tn v12)) (rd v10 (tn v14))).b (Xk x1 x2 (rd v9 (tn v12)) (rd v10 (tn v14))).c)]).length (Zz (v13++[(y2w (cvT l0) (Xk x1 x2 (rd v9 (tn v12)) (rd v10 (tn v14))).a (Xk x1 x2 (rd v9 (tn v12)) (rd v10 (tn v14))).b (Xk x1 x2 (rd v9 (tn v12)) (rd v10 (tn v14))).c)])),.keep],[]⟩ [true] (pp (xL (v13.length+1) (v13++[(y2w (cvT l0) (Xk x1 x2 (rd v9 (tn v12)) (rd v10 (tn v14))).a (Xk x1 x2 (rd v9 (tn v12)) (rd v10 (tn v14))).b (Xk x1 x2 (rd v9 (tn v12)) (rd v10 (tn v14))).c)]).length) (pp (xL (v13.length+1) (v13++[(y2w (cvT l0) (Xk x1 x2 (rd v9 (tn v12)) (rd v10 (tn v14))).a (Xk x1 x2 (rd v9 (tn v12)) (rd v10 (tn v14))).b (Xk x1 x2 (rd v9 (tn v12)) (rd v10 (tn v14))).c)]).length) (pp (xS (v13.length+1) (Ze (Zz v13) 0 v13.length 1 [(.bool (y2w (cvT l0) (Xk x1 x2 (rd v9 (tn v12)) (rd v10 (tn v14))).a (Xk x1 x2 (rd v9 (tn v12)) (rd v10 (tn v14))).b (Xk x1 x2 (rd v9 (tn v12)) (rd v10 (tn v14))).c))]) (Zz (v13++[(y2w (cvT l0) (Xk x1 x2 (rd v9 (tn v12)) (rd v10 (tn v14))).a (Xk x1 x2 (rd v9 (tn v12)) (rd v10 (tn v14))).b (Xk x1 x2 (rd v9 (tn v12)) (rd v10 (tn v14))).c)]))) (pp (pp (xF (Ze (Zz v13) 0 v13.length 1 [(.bool (y2w (cvT l0) (Xk x1 x2 (rd v9 (tn v12)) (rd v10 (tn v14))).a (Xk x1 x2 (rd v9 (tn v12)) (rd v10 (tn v14))).b (Xk x1 x2 (rd v9 (tn v12)) (rd v10 (tn v14))).c))])) (fl v11 nn)) (ww o3 (pp (pp (xr l0) (xw o2)) (ww o1 (ww o0 (tt k0 nn))))))))))))))) (fun k0=>(Xb (sl z0d (C':=⟨⟨91,0,true⟩,(Uv prog 103 [1,1,1,1,0,1,0,0,1,0,0,1,1,0] 2),(Zb prog 103 [1,1,1,1,0,1,0,0,1,0,0,1,1,0] 1),none,(Zy prog 8),⟨Yg [(0,(.dat l0.length (Zz l0))),(1,(ii x1)),(2,(ii x2)),(9,(.dat v9.length (Zz v9))),(10,(.dat v10.length (Zz v10))),(11,(.sla 0 4 0 v11.length (.un 4))),(12,(ii v12)),(57,(.dat v10.length (Zz v10))),(58,(.dat v13.length (Zz v13)))],Wh [⟨Yx v11.length (Zz v11),88,some ⟨4,v11.length,(Zz v11)⟩⟩] 0,1,[],true⟩,[],.leaf⟩) 14 [] ⟨[1],[0],[some [0,1,2,9,10,11,12,57,58]],[]⟩ ⟨[(58,.frz v13.length v13.length (Zz v13) (Zz v13))],[],[]⟩ [false] (pp (xZ (z1p 1 1 0 v13.length v13.length (Zz v13)) v13.length (Zz v13)) (pp (xL v13.length v13.length) (pp (xS v13.length (Zz v13) (Zz v13)) (pp (fl v11 nn) (pp (fl v13 nn) (tt k0 nn))))))) (lo fun o0=>(sl z0d 9 [] ⟨[0],[],rseN2,rseM2⟩ ⟨[],[],[]⟩ [] (pp (fl v11 nn) (pp (pp (xr v10) (pp (xr v13) (xw o0))) nn)))))))
 | .h2 v9 v10 v11 v12 v15 v16=>(lb (fun k0=>(lo fun o0=>(lo fun o1=>(lo fun o2=>(lo fun o3=>(sl z0d 20 [] ⟨[2],[],rseN2,rseM2⟩ ⟨[(11,.len (v11++[(R4.mk (rd v9 (tn v12)) (rd v15 (tn v16)).a (rd v9 (tn (wr (v12+1)))) (rd v15 (tn v16)).b)]).length)],[.rowed 4 (v11++[(R4.mk (rd v9 (tn v12)) (rd v15 (tn v16)).a (rd v9 (tn (wr (v12+1)))) (rd v15 (tn v16)).b)]).length (Zz (v11++[(R4.mk (rd v9 (tn v12)) (rd v15 (tn v16)).a (rd v9 (tn (wr (v12+1)))) (rd v15 (tn v16)).b)]))],[]⟩ [true] (pp (xL (v11.length+1) (v11++[(R4.mk (rd v9 (tn v12)) (rd v15 (tn v16)).a (rd v9 (tn (wr (v12+1)))) (rd v15 (tn v16)).b)]).length) (pp (xL (v11.length+1) (v11++[(R4.mk (rd v9 (tn v12)) (rd v15 (tn v16)).a (rd v9 (tn (wr (v12+1)))) (rd v15 (tn v16)).b)]).length) (pp (xS (v11.length+1) (Ze (Zz v11) 0 v11.length 4 [(ii (rd v9 (tn v12))),(ii (rd v15 (tn v16)).a),(ii (rd v9 (tn (wr (v12+1))))),(ii (rd v15 (tn v16)).b)]) (Zz (v11++[(R4.mk (rd v9 (tn v12)) (rd v15 (tn v16)).a (rd v9 (tn (wr (v12+1)))) (rd v15 (tn v16)).b)]))) (pp (pp (xF (Ze (Zz v11) 0 v11.length 4 [(ii (rd v9 (tn v12))),(ii (rd v15 (tn v16)).a),(ii (rd v9 (tn (wr (v12+1))))),(ii (rd v15 (tn v16)).b)])) nn) (ww o3 (ww o2 (ww o1 (ww o2 (ww o0 (tt k0 nn)))))))))))))))) (fun k0=>(sl z0d 17 [] ⟨[0],[],v7t,v7u⟩ ⟨[],[],[]⟩ [false] (pp (fl v11 nn) (tt k0 nn)))))
theorem x7b (l0:List R6) (x1:Int) (x2:Int):Yt prog (Zy prog 103) (rseC l0 x1 x2) (Za prog 103 [(.dat l0.length (Zz l0)),(.int .i64 x1),(.int .i64 x2)] true []) (y2o l0 x1 x2):=(lb (fun k0=>(lo fun o0=>(lo fun o1=>(sl z0d 54 [(88,4,Zz ([]:List R4))] ⟨[0],[],v7t,v7u⟩ ⟨[(11,.grow 0 4)],[],[]⟩ [true] (pp (fl ([]:List R4) nn) (pp (pp (xr l0) (xw o1)) (pp (pp (xr l0) (xw o0)) (tt k0 nn)))))))) (fun k0=>(lb (fun k1=>(lo fun o0=>(lo fun o1=>(sl z0d 62 [(88,4,Zz ([]:List R4))] ⟨[0],[],v7t,v7u⟩ ⟨[(11,.grow 0 4)],[],[]⟩ [false,true] (pp (fl ([]:List R4) nn) (pp (pp (xr l0) (xw o1)) (pp (pp (xr l0) (xw o0)) (tt k1 (tt k0 nn))))))))) (fun k1=>(lo fun o0=>(lo fun o1=>(sl z0d 63 [(88,4,Zz ([]:List R4))] ⟨[0],[],v7t,v7u⟩ ⟨[(11,.grow 0 4)],[],[]⟩ [false,false] (pp (fl ([]:List R4) nn) (pp (pp (xr l0) (xw o1)) (pp (pp (xr l0) (xw o0)) (tt k1 (tt k0 nn))))))))))))
theorem v7s (l0:List R6) (x1:Int) (x2:Int) (n:Nat) (vs:List AVal) (h:Zs (Jb l0 x1 x2) n (y2o l0 x1 x2)=.ret vs):Jy prog (Zy prog 103) (Za prog 103 [(.dat l0.length (Zz l0)),(.int .i64 x1),(.int .i64 x2)] true []) vs:=by have:=Zd (w5o l0 x1 x2) n _ (x7b l0 x1 x2);rwa [h] at this
open Go.Sort Go.Shelf Go.RowKit Go.Lib
def z1w (xs ys:List Int) (P:Int→Int→Bool):Nat→Nat→List R4
 | 0,_=>[]
 | k+1,i=>(z1q ys (ys.map (P (rd xs i)))).map (fun s=>⟨rd xs i,s.a,rd xs (i+1),s.b⟩)++z1w xs ys P k (i+1)
def uX (L:List R6) (i:Int):List Int:=bif i == 0 then z1m L 1 else z1m L 0
def uY (L:List R6) (i:Int):List Int:=bif i == 0 then z1m L 2 else bif i == 1 then z1m L 2 else z1m L 1
def pU (L:List R6) (i a x y:Int):Bool:=y2w L (Xk i a x y).a (Xk i a x y).b (Xk i a x y).c
theorem w0m (L:List R6) (i:Int):(z1m L i).length ≤2*L.length:=by have h:=Ye (u1i L i);have hn:=z6x L i;have:=z4n (z1m L i) (u1i L i) (h.1.imp fun {a b} k=>by omega) fun x hx=>(h.2 x).1 hx;omega
theorem u2e (L:List R6) (i:Int):(uX L i).length ≤2*L.length:=by unfold uX;cases i == 0 <;> exact w0m _ _
theorem u2d (L:List R6) (i:Int):(uY L i).length ≤2*L.length:=by unfold uY;cases i == 0 <;> cases i == 1 <;> exact w0m _ _
def x5n (L:List R6) (a s p:Int) (x y:Int):Bool:= !(pU L a (wrap .i64 (p - 1)) x y == pU L a p x y)&&(pU L a (wrap .i64 (p - 1)) x y == (s == 0))
def x3e (L:List R6) (a:Int) (s:Int) (p:Int):List R4:=joV 2 (z1w (uX L a) (uY L a) (x5n L a s p) ((uX L a).length - 1) 0) []
def Kt (L:List R6) (a:Int) (s:Int) (p:Int):Bool:=decide (L.length≤1000∧((uX L a).length ≤40∧(uY L a).length ≤40))
theorem u4w (L:List R6) (a:Int) (s:Int) (p:Int) (xs ys:List Int) (hx:xs.length≤40) (i:Nat) (hi:i+1<xs.length) (S:List R2) (hS:S.length≤40): ∀(k j:Nat) (out:List R4),j+k=S.length→out.length≤2000+j→
  ∃n,∀N,Zs (Jc L a s p) (N+n) (.to (.h2 xs ys out (i:Int) S (j:Int)))=Zs (Jc L a s p) N (.to (.h0 xs ys (out++(S.drop j).map fun s=>⟨rd xs i,s.a,rd xs (i+1),s.b⟩) ((i+1:Nat):Int)))
 | 0,j,out,h,ho=>by refine ⟨1,fun N=> ?_⟩;rw [Zv,At (by omega),Bb,Az];simp (disch:=omega) only [Jc,Yz,Zk,Zx,Aa]
 | k+1,j,out,h,ho=>by
  have hj:j<S.length:=by omega
  obtain ⟨n,hn⟩:=u4w L a s p xs ys hx i hi S hS k (j+1) (out++[⟨rd xs i,(rd S j).a,rd xs (i+1),(rd S j).b⟩]) (by omega) (by rw [Ar];simp only [AW,Bq];omega);refine ⟨n+1,fun N=> ?_⟩;have hn:=hn N;rw [←AD,Zv,Yj hj,A4];rw [AH] at hn;refine Eq.trans ?_ hn
  congr 1
  have m1:decide (0+out.length=out.length)=true:=Ah (by omega);have b4:Nat.beq 4 4=true:=rfl;have w1:wrap .i64 ((i:Int)+1)=((i+1:Nat):Int):=by rw [Zk (by omega)];rfl
  have g1:decide (0≤((i+1:Nat):Int)∧((i+1:Nat):Int)<(xs.length:Int))=true:=Ah (by omega);have g2:decide (0≤(i:Int)∧(i:Int)<(xs.length:Int))=true:=Ah (by omega);simp (disch:=omega) only [Jc,Zn,Zo,Zf,Zk,Zx,w1,g1,g2,Zj,m1,b4,Ai,Al,Ab]
theorem u4x (L:List R6) (hl:L.length≤1000) (a:Int) (s:Int) (p:Int) (xs ys:List Int) (hx:xs.length≤40) (hy:ys.length≤40) (i:Nat) (hi:i+1<xs.length) (out:List R4): ∀(k j:Nat) (acc:List Bool),j+k=ys.length→acc=(ys.take j).map (x5n L a s p (rd xs i))→
  ∃n,∀N,Zs (Jc L a s p) (N+n) (.to (.h1 xs ys out (i:Int) acc (j:Int)))=Zs (Jc L a s p) N (.to (.h2 xs ys out (i:Int) (z1q ys (ys.map (x5n L a s p (rd xs i)))) 0))
 | 0,j,acc,h,ha=>by
  refine ⟨1,fun N=> ?_⟩;have:j=ys.length:=by omega
  subst this;rw [List.take_length] at ha;subst ha;have o:Qw ys (ys.map (x5n L a s p (rd xs i)))=true:=Ah ⟨by omega,by rw [AS];omega⟩;rw [Zv];simp (disch:=omega) only [Jc,Zg,Yz,o,Ab,Aa]
 | k+1,j,acc,h,ha=>by
  have hj:j<ys.length:=by omega
  have eW:acc.length=j:=by rw [ha,AS,A0];omega
  obtain ⟨n,hn⟩:=u4x L hl a s p xs ys hx hy i hi out k (j+1) (acc++[x5n L a s p (rd xs i) (rd ys j)]) (by omega) (by
   rw [ha,A9,Aq hj,By,Yo hj];rfl)
  refine ⟨n+1,fun N=> ?_⟩;have hn:=hn N;rw [←AD,Zv,←hn]
  congr 1
  have m1:decide (0+acc.length=acc.length)=true:=Ah (by omega);have b1:Nat.beq 1 1=true:=rfl;have g2:decide (0≤(i:Int)∧(i:Int)<(xs.length:Int))=true:=Ah (by omega);have o: ∀x y z,z0i L x y z=true:=fun x y z=>Ah (by omega);have ep: ∀i a x y,y2w L (Xk i a x y).a (Xk i a x y).b (Xk i a x y).c =pU L i a x y:=fun _ _ _ _=>rfl;unfold x5n;simp (disch:=omega) only [Jc,Zg,Zn,Zo,Zf,Zk,Zx,g2,Zj,m1,b1,o,ep,Ai,Al,Ab];rcases Yd (pU L a (wrap .i64 (p - 1)) (rd xs i) (rd ys j) == pU L a p (rd xs i) (rd ys j)) with e | e <;> rw [e] <;> rfl
theorem u4y (L:List R6) (hl:L.length≤1000) (a:Int) (s:Int) (p:Int) (xs ys:List Int) (hx:xs.length≤40) (hy:ys.length≤40): ∀(k i:Nat) (out:List R4),k=xs.length - 1 - i→out.length≤40*i→i≤40→
  ∃n,Zs (Jc L a s p) n (.to (.h0 xs ys out (i:Int)))=.ret [.dat (joV 2 (out++z1w xs ys (x5n L a s p) k i) []).length (Zz (joV 2 (out++z1w xs ys (x5n L a s p) k i) []))]
 | 0,i,out,h,ho,h24=>by
  refine ⟨1,?_⟩;rw [Zv];show _=Xv.ret [.dat (joV 2 (out++[]) []).length (Zz (joV 2 (out++[]) []))];rw [Az];have o:Ja 2 out []=true:=Ah ⟨by omega,by simp⟩;have w1:wrap .i64 ((i:Int)+1)=((i+1:Nat):Int):=by rw [Zk (by omega)];rfl
  have g1:decide (((i+1:Nat):Int)<(xs.length:Int))=false:=Ay (by omega);simp only [Jc,Zg,w1,g1,o,Ab,Aa,Zp]
 | k+1,i,out,h,ho,h24=>by
  have hi:i+1<xs.length:=by omega
  have hc:=z0m ys (ys.map (x5n L a s p (rd xs i)));obtain ⟨n,hn⟩:=u4y L hl a s p xs ys hx hy k (i+1) (out++(z1q ys (ys.map (x5n L a s p (rd xs i)))).map fun s=>⟨rd xs i,s.a,rd xs (i+1),s.b⟩) (by omega) (by rw [Ar,AS];omega) (by omega);obtain ⟨m,hm⟩:=u4x L hl a s p xs ys hx hy i hi out ys.length 0 [] (Ag _) rfl;obtain ⟨r,hr⟩:=u4w L a s p xs ys hx i hi (z1q ys (ys.map (x5n L a s p (rd xs i)))) (by omega) (z1q ys (ys.map (x5n L a s p (rd xs i)))).length 0 out (Ag _) (by omega);refine ⟨n+r+m+1,?_⟩;have hm:=hm (n+r);have hr:=hr n;rw [Qo] at hm hr;rw [Zv];have w1:wrap .i64 ((i:Int)+1)=((i+1:Nat):Int):=by rw [Zk (by omega)];rfl
  have g1:decide (((i+1:Nat):Int)<(xs.length:Int))=true:=Ah (by omega);have hs:Jc L a s p (.h0 xs ys out (i:Int))=.to (.h1 xs ys out (i:Int) [] 0):=by simp only [Jc,w1,g1,Ab]
  rw [hs,hm,hr,A3];show _=Xv.ret [.dat (joV 2 (out++(_++z1w xs ys (x5n L a s p) k (i+1))) []).length (Zz (joV 2 (out++(_++z1w xs ys (x5n L a s p) k (i+1))) []))];rw [←AH];exact hn
theorem rfa_ow {L:List R6} (h:L.length≤12) (a:Int) (s:Int) (p:Int):Kt L a s p=true:=by have h1:=u2e L a;have h2:=u2d L a;exact Ah ⟨by omega,by omega,by omega⟩
theorem j0g (L:List R6) (a:Int) (s:Int) (p:Int) (h:Kt L a s p=true): ∃n,Zs (Jc L a s p) n (y2y L a s p)=.ret [.dat (x3e L a s p).length (Zz (x3e L a s p))]:=by
 obtain ⟨hl,h1,h2⟩:=AC h;obtain ⟨n,hn⟩:=u4y L hl a s p (uX L a) (uY L a) (by omega) (by omega) _ 0 [] rfl (AA _) (by omega);refine ⟨n,?_⟩;rw [Bf] at hn;refine Eq.trans ?_ hn;have o: ∀i,Xf L i=true:=fun i=>Ah (by omega)
 congr 1
 unfold y2y uX uY;simp only [Zg,o,Ab];cases a == 0 <;> cases a == 1 <;> rfl
def fRfa :List AVal→Option (AVal×Bool)
 | [a0,.int .i64 x1,.int .i64 x2,.int .i64 x3]=>match asL R6 a0 with
  | some (L0,g0,n0)=>some (.dat (x3e L0 x1 x2 x3).length (Zz (x3e L0 x1 x2 x3)),isT R6 n0 g0&&(Kt L0 x1 x2 x3))
  | _=>none
 | _=>none
theorem j2y {S:Specs} (hS:Zu prog S):Zu prog (S.with nRfa fRfa):=by
 refine z0l hS (by kernel_rfl) fun args v h=> ?_;unfold fRfa at h;split at h
 ·rename_i a0 x1 x2 x3;split at h
  ·rename_i L0 g0 n0 e0;simp only [Ae,Ad,Ac] at h;obtain ⟨rfl,ho0,hw⟩:=h;obtain ⟨N,hN⟩:=j0g L0 x1 x2 x3 hw;exact ⟨_,_,(.cons (asL_le e0 ho0) (.cons (.refl _) (.cons (.refl _) (.cons (.refl _) .nil)))),rfl,v8r L0 x1 x2 x3 N _ hN,3,rfl⟩
  ·cases h
 ·cases h
def w5p (L:List R6) (a p:Int) (x y:Int):Bool:=pU L a p x y
def u9g (L:List R6) (a:Int) (p:Int):List R4:=joV 2 (z1w (uX L a) (uY L a) (w5p L a p) ((uX L a).length - 1) 0) []
def z4e (L:List R6) (a:Int) (p:Int):Bool:=decide (L.length≤1000∧((uX L a).length ≤40∧(uY L a).length ≤40))
theorem u3u (L:List R6) (a:Int) (p:Int) (xs ys:List Int) (hx:xs.length≤40) (i:Nat) (hi:i+1<xs.length) (S:List R2) (hS:S.length≤40): ∀(k j:Nat) (out:List R4),j+k=S.length→out.length≤2000+j→
  ∃n,∀N,Zs (Jb L a p) (N+n) (.to (.h2 xs ys out (i:Int) S (j:Int)))=Zs (Jb L a p) N (.to (.h0 xs ys (out++(S.drop j).map fun s=>⟨rd xs i,s.a,rd xs (i+1),s.b⟩) ((i+1:Nat):Int)))
 | 0,j,out,h,ho=>by refine ⟨1,fun N=> ?_⟩;rw [Zv,At (by omega),Bb,Az];simp (disch:=omega) only [Jb,Yz,Zk,Zx,Aa]
 | k+1,j,out,h,ho=>by
  have hj:j<S.length:=by omega
  obtain ⟨n,hn⟩:=u3u L a p xs ys hx i hi S hS k (j+1) (out++[⟨rd xs i,(rd S j).a,rd xs (i+1),(rd S j).b⟩]) (by omega) (by rw [Ar];simp only [AW,Bq];omega);refine ⟨n+1,fun N=> ?_⟩;have hn:=hn N;rw [←AD,Zv,Yj hj,A4];rw [AH] at hn;refine Eq.trans ?_ hn
  congr 1
  have m1:decide (0+out.length=out.length)=true:=Ah (by omega);have b4:Nat.beq 4 4=true:=rfl;have w1:wrap .i64 ((i:Int)+1)=((i+1:Nat):Int):=by rw [Zk (by omega)];rfl
  have g1:decide (0≤((i+1:Nat):Int)∧((i+1:Nat):Int)<(xs.length:Int))=true:=Ah (by omega);have g2:decide (0≤(i:Int)∧(i:Int)<(xs.length:Int))=true:=Ah (by omega);simp (disch:=omega) only [Jb,Zn,Zo,Zf,Zk,Zx,w1,g1,g2,Zj,m1,b4,Ai,Al,Ab]
theorem u3v (L:List R6) (hl:L.length≤1000) (a:Int) (p:Int) (xs ys:List Int) (hx:xs.length≤40) (hy:ys.length≤40) (i:Nat) (hi:i+1<xs.length) (out:List R4): ∀(k j:Nat) (acc:List Bool),j+k=ys.length→acc=(ys.take j).map (w5p L a p (rd xs i))→
  ∃n,∀N,Zs (Jb L a p) (N+n) (.to (.h1 xs ys out (i:Int) acc (j:Int)))=Zs (Jb L a p) N (.to (.h2 xs ys out (i:Int) (z1q ys (ys.map (w5p L a p (rd xs i)))) 0))
 | 0,j,acc,h,ha=>by
  refine ⟨1,fun N=> ?_⟩;have:j=ys.length:=by omega
  subst this;rw [List.take_length] at ha;subst ha;have o:Qw ys (ys.map (w5p L a p (rd xs i)))=true:=Ah ⟨by omega,by rw [AS];omega⟩;rw [Zv];simp (disch:=omega) only [Jb,Zg,Yz,o,Ab,Aa]
 | k+1,j,acc,h,ha=>by
  have hj:j<ys.length:=by omega
  have eW:acc.length=j:=by rw [ha,AS,A0];omega
  obtain ⟨n,hn⟩:=u3v L hl a p xs ys hx hy i hi out k (j+1) (acc++[w5p L a p (rd xs i) (rd ys j)]) (by omega) (by
   rw [ha,A9,Aq hj,By,Yo hj];rfl)
  refine ⟨n+1,fun N=> ?_⟩;have hn:=hn N;rw [←AD,Zv,←hn]
  congr 1
  have m1:decide (0+acc.length=acc.length)=true:=Ah (by omega);have b1:Nat.beq 1 1=true:=rfl;have g2:decide (0≤(i:Int)∧(i:Int)<(xs.length:Int))=true:=Ah (by omega);have o: ∀x y z,z0i L x y z=true:=fun x y z=>Ah (by omega);simp (disch:=omega) only [Jb,Zg,Zn,Zo,Zf,Zk,Zx,g2,Zj,m1,b1,o,Ai,Al,Ab];rfl
theorem u3w (L:List R6) (hl:L.length≤1000) (a:Int) (p:Int) (xs ys:List Int) (hx:xs.length≤40) (hy:ys.length≤40): ∀(k i:Nat) (out:List R4),k=xs.length - 1 - i→out.length≤40*i→i≤40→
  ∃n,Zs (Jb L a p) n (.to (.h0 xs ys out (i:Int)))=.ret [.dat (joV 2 (out++z1w xs ys (w5p L a p) k i) []).length (Zz (joV 2 (out++z1w xs ys (w5p L a p) k i) []))]
 | 0,i,out,h,ho,h24=>by
  refine ⟨1,?_⟩;rw [Zv];show _=Xv.ret [.dat (joV 2 (out++[]) []).length (Zz (joV 2 (out++[]) []))];rw [Az];have o:Ja 2 out []=true:=Ah ⟨by omega,by simp⟩;have w1:wrap .i64 ((i:Int)+1)=((i+1:Nat):Int):=by rw [Zk (by omega)];rfl
  have g1:decide (((i+1:Nat):Int)<(xs.length:Int))=false:=Ay (by omega);simp only [Jb,Zg,w1,g1,o,Ab,Aa,Zp]
 | k+1,i,out,h,ho,h24=>by
  have hi:i+1<xs.length:=by omega
  have hc:=z0m ys (ys.map (w5p L a p (rd xs i)));obtain ⟨n,hn⟩:=u3w L hl a p xs ys hx hy k (i+1) (out++(z1q ys (ys.map (w5p L a p (rd xs i)))).map fun s=>⟨rd xs i,s.a,rd xs (i+1),s.b⟩) (by omega) (by rw [Ar,AS];omega) (by omega);obtain ⟨m,hm⟩:=u3v L hl a p xs ys hx hy i hi out ys.length 0 [] (Ag _) rfl;obtain ⟨r,hr⟩:=u3u L a p xs ys hx i hi (z1q ys (ys.map (w5p L a p (rd xs i)))) (by omega) (z1q ys (ys.map (w5p L a p (rd xs i)))).length 0 out (Ag _) (by omega);refine ⟨n+r+m+1,?_⟩;have hm:=hm (n+r);have hr:=hr n;rw [Qo] at hm hr;rw [Zv];have w1:wrap .i64 ((i:Int)+1)=((i+1:Nat):Int):=by rw [Zk (by omega)];rfl
  have g1:decide (((i+1:Nat):Int)<(xs.length:Int))=true:=Ah (by omega);have hs:Jb L a p (.h0 xs ys out (i:Int))=.to (.h1 xs ys out (i:Int) [] 0):=by simp only [Jb,w1,g1,Ab]
  rw [hs,hm,hr,A3];show _=Xv.ret [.dat (joV 2 (out++(_++z1w xs ys (w5p L a p) k (i+1))) []).length (Zz (joV 2 (out++(_++z1w xs ys (w5p L a p) k (i+1))) []))];rw [←AH];exact hn
theorem rse_ow {L:List R6} (h:L.length≤12) (a:Int) (p:Int):z4e L a p=true:=by have h1:=u2e L a;have h2:=u2d L a;exact Ah ⟨by omega,by omega,by omega⟩
theorem u9f (L:List R6) (a:Int) (p:Int) (h:z4e L a p=true): ∃n,Zs (Jb L a p) n (y2o L a p)=.ret [.dat (u9g L a p).length (Zz (u9g L a p))]:=by
 obtain ⟨hl,h1,h2⟩:=AC h;obtain ⟨n,hn⟩:=u3w L hl a p (uX L a) (uY L a) (by omega) (by omega) _ 0 [] rfl (AA _) (by omega);refine ⟨n,?_⟩;rw [Bf] at hn;refine Eq.trans ?_ hn;have o: ∀i,Xf L i=true:=fun i=>Ah (by omega)
 congr 1
 unfold y2o uX uY;simp only [Zg,o,Ab];cases a == 0 <;> cases a == 1 <;> rfl
def fRse :List AVal→Option (AVal×Bool)
 | [a0,.int .i64 x1,.int .i64 x2]=>match asL R6 a0 with
  | some (L0,g0,n0)=>some (.dat (u9g L0 x1 x2).length (Zz (u9g L0 x1 x2)),isT R6 n0 g0&&(z4e L0 x1 x2))
  | _=>none
 | _=>none
theorem j2r {S:Specs} (hS:Zu prog S):Zu prog (S.with nRse fRse):=by
 refine z0l hS (by kernel_rfl) fun args v h=> ?_;unfold fRse at h;split at h
 ·rename_i a0 x1 x2;split at h
  ·rename_i L0 g0 n0 e0;simp only [Ae,Ad,Ac] at h;obtain ⟨rfl,ho0,hw⟩:=h;obtain ⟨N,hN⟩:=u9f L0 x1 x2 hw;exact ⟨_,_,(.cons (asL_le e0 ho0) (.cons (.refl _) (.cons (.refl _) .nil))),rfl,v7s L0 x1 x2 N _ hN,3,rfl⟩
  ·cases h
 ·cases h
def Pc :Specs:=(Pb.with nRfa fRfa).with nRse fRse
theorem z5r :Zu prog Pc:=j2r (j2y z0d)
inductive rquS where
 | h0 (v3:List R7) (v4:Int)
 | h1 (v3:List R7) (v4:Int) (v5:List Int) (v6:Int)
 | h2 (v3:List R7) (v4:Int) (v5:List Int) (v6:Int) (v7:List R4) (v8:Int)
def rquC (l0:List R6):rquS→Cfg
 | .h0 v3 v4=>⟨⟨80,0,true⟩,none,(Zb prog 55 [1,1,0,1,0,0] 0),none,(Zy prog 3),⟨Yg [(0,(.dat l0.length (Zz l0))),(3,(.sla 0 7 0 v3.length (.un 7))),(4,(ii v4))],Wh [⟨Yx v3.length (Zz v3),62,some ⟨7,v3.length,(Zz v3)⟩⟩] 0,1,[],true⟩,[],.leaf⟩
 | .h1 v3 v4 v5 v6=>⟨⟨80,0,true⟩,none,(Zb prog 55 [1,1,0,1,0,0,1,0,0,1,1,0,0] 0),none,(Zy prog 3),⟨Yg [(0,(.dat l0.length (Zz l0))),(3,(.sla 0 7 0 v3.length (.un 7))),(4,(ii v4)),(5,(.dat v5.length (Zz v5))),(6,(ii v6))],Wh [⟨Yx v3.length (Zz v3),62,some ⟨7,v3.length,(Zz v3)⟩⟩] 0,1,[],true⟩,[],.leaf⟩
 | .h2 v3 v4 v5 v6 v7 v8=>⟨⟨80,0,true⟩,none,(Zb prog 55 [1,1,0,1,0,0,1,0,0,1,1,0,0,1,0,0,1,1,0,0] 0),none,(Zy prog 3),⟨Yg [(0,(.dat l0.length (Zz l0))),(3,(.sla 0 7 0 v3.length (.un 7))),(4,(ii v4)),(5,(.dat v5.length (Zz v5))),(6,(ii v6)),(7,(.dat v7.length (Zz v7))),(8,(ii v8))],Wh [⟨Yx v3.length (Zz v3),62,some ⟨7,v3.length,(Zz v3)⟩⟩] 0,1,[],true⟩,[],.leaf⟩
def rquN0 :List (Option (List Nat)):=[some [0,3,4]]
def rquM0 :List (Option (List Nat)):=[]
def rquN1 :List (Option (List Nat)):=[some [0,3,4,5,6]]
def rquM1 :List (Option (List Nat)):=[]
def rquN2 :List (Option (List Nat)):=[some [0,3,4,5,6,7,8]]
def rquM2 :List (Option (List Nat)):=[]
def Jx (l0:List R6):rquS→Xv rquS
 | .h0 v3 v4=>(bif (decide (v4<6)) then (bif (Xf (cvT l0) (wrap .i64 (Int.tdiv v4 2))) then (.to (.h1 v3 v4 (z1m (cvT l0) (wrap .i64 (Int.tdiv v4 2))) 0)) else .stuck) else (.ret [(.dat v3.length (Zz v3))]))
 | .h1 v3 v4 v5 v6=>(bif (decide (v6<(v5.length:Int))) then (bif ((decide (0≤v6∧v6<(v5.length:Int)))&&true) then (bif (Kt (cvT l0) (wrap .i64 (Int.tdiv v4 2)) (Int.tmod v4 2) (rd v5 v6.toNat)) then (.to (.h2 v3 v4 v5 v6 (x3e (cvT l0) (wrap .i64 (Int.tdiv v4 2)) (Int.tmod v4 2) (rd v5 v6.toNat)) 0)) else .stuck) else .stuck) else (.to (.h0 v3 (wrap .i64 (v4+1)))))
 | .h2 v3 v4 v5 v6 v7 v8=>(bif (decide (v8<(v7.length:Int))) then (bif ((decide (0≤v6∧v6<(v5.length:Int)))&&true) then (bif ((decide (0≤v8∧v8<(v7.length:Int)))&&true) then (bif (Nat.beq 7 7&&((decide (0+v3.length=v3.length))&&decide ((v3.length+1+1)*(56+1)≤Uw))) then (.to (.h2 (v3++[(R7.mk (wrap IntKind.u8 v4) (Xk (wrap .i64 (Int.tdiv v4 2)) (rd v5 v6.toNat) (rd v7 v8.toNat).a (rd v7 v8.toNat).b).a (Xk (wrap .i64 (Int.tdiv v4 2)) (rd v5 v6.toNat) (rd v7 v8.toNat).a (rd v7 v8.toNat).b).b (Xk (wrap .i64 (Int.tdiv v4 2)) (rd v5 v6.toNat) (rd v7 v8.toNat).a (rd v7 v8.toNat).b).c (Xk (wrap .i64 (Int.tdiv v4 2)) (rd v5 v6.toNat) (rd v7 v8.toNat).c (rd v7 v8.toNat).d).a (Xk (wrap .i64 (Int.tdiv v4 2)) (rd v5 v6.toNat) (rd v7 v8.toNat).c (rd v7 v8.toNat).d).b (Xk (wrap .i64 (Int.tdiv v4 2)) (rd v5 v6.toNat) (rd v7 v8.toNat).c (rd v7 v8.toNat).d).c)]) v4 v5 v6 v7 (wrap .i64 (v8+1)))) else .stuck) else .stuck) else .stuck) else (.to (.h1 v3 v4 v5 (wrap .i64 (v6+1)))))
def y2p (l0:List R6):Xv rquS:=(.to (.h0 ([]:List R7) 0))
theorem w5r (l0:List R6): ∀s,Yt prog (Zy prog 55) (rquC l0) (rquC l0 s) (Jx l0 s)
 | .h0 v3 v4=>(lb (fun k0=>(lo fun o0=>(sl z5r 24 [] ⟨[0],[],rquN1,rquM1⟩ ⟨[],[],[]⟩ [true] (pp (fl v3 nn) (pp (pp (xr l0) (xw o0)) (tt k0 nn)))))) (fun k0=>(lr 80 3 [1,1,1,1,1,1,1,0] 1 3 [(2,(.dat v3.length (Zz v3)))] (sl z5r 13 [] ⟨[],[0],[some [2]],[]⟩ ⟨[(2,.frz v3.length v3.length (Zz v3) (Zz v3))],[],[]⟩ [false] (pp (xZ (z1p 7 7 0 v3.length v3.length (Zz v3)) v3.length (Zz v3)) (pp (xL v3.length v3.length) (pp (xS v3.length (Zz v3) (Zz v3)) (pp (fl v3 nn) (tt k0 nn)))))))))
 | .h1 v3 v4 v5 v6=>(lb (fun k0=>(lo fun o0=>(lo fun o1=>(sl z5r 32 [] ⟨[0],[],rquN2,rquM2⟩ ⟨[],[],[]⟩ [true] (pp (fl v3 nn) (pp (pp (xr l0) (xw o1)) (ww o0 (tt k0 nn)))))))) (fun k0=>(sl z5r 17 [] ⟨[0],[],rquN0,rquM0⟩ ⟨[],[],[]⟩ [false] (pp (fl v3 nn) (tt k0 nn)))))
 | .h2 v3 v4 v5 v6 v7 v8=>(lb (fun k0=>(lo fun o0=>(lo fun o1=>(lo fun o2=>(sl z5r 20 [] ⟨[2],[],rquN2,rquM2⟩ ⟨[(3,.len (v3++[(R7.mk (wrap IntKind.u8 v4) (Xk (wr (Int.tdiv v4 2)) (rd v5 (tn v6)) (rd v7 (tn v8)).a (rd v7 (tn v8)).b).a (Xk (wr (Int.tdiv v4 2)) (rd v5 (tn v6)) (rd v7 (tn v8)).a (rd v7 (tn v8)).b).b (Xk (wr (Int.tdiv v4 2)) (rd v5 (tn v6)) (rd v7 (tn v8)).a (rd v7 (tn v8)).b).c (Xk (wr (Int.tdiv v4 2)) (rd v5 (tn v6)) (rd v7 (tn v8)).c (rd v7 (tn v8)).d).a (Xk (wr (Int.tdiv v4 2)) (rd v5 (tn v6)) (rd v7 (tn v8)).c (rd v7 (tn v8)).d).b (Xk (wr (Int.tdiv v4 2)) (rd v5 (tn v6)) (rd v7 (tn v8)).c (rd v7 (tn v8)).d).c)]).length)],[.rowed 7 (v3++[(R7.mk (wrap IntKind.u8 v4) (Xk (wr (Int.tdiv v4 2)) (rd v5 (tn v6)) (rd v7 (tn v8)).a (rd v7 (tn v8)).b).a (Xk (wr (Int.tdiv v4 2)) (rd v5 (tn v6)) (rd v7 (tn v8)).a (rd v7 (tn v8)).b).b (Xk (wr (Int.tdiv v4 2)) (rd v5 (tn v6)) (rd v7 (tn v8)).a (rd v7 (tn v8)).b).c (Xk (wr (Int.tdiv v4 2)) (rd v5 (tn v6)) (rd v7 (tn v8)).c (rd v7 (tn v8)).d).a (Xk (wr (Int.tdiv v4 2)) (rd v5 (tn v6)) (rd v7 (tn v8)).c (rd v7 (tn v8)).d).b (Xk (wr (Int.tdiv v4 2)) (rd v5 (tn v6)) (rd v7 (tn v8)).c (rd v7 (tn v8)).d).c)]).length (Zz (v3++[(R7.mk (wrap IntKind.u8 v4) (Xk (wr (Int.tdiv v4 2)) (rd v5 (tn v6)) (rd v7 (tn v8)).a (rd v7 (tn v8)).b).a (Xk (wr (Int.tdiv v4 2)) (rd v5 (tn v6)) (rd v7 (tn v8)).a (rd v7 (tn v8)).b).b (Xk (wr (Int.tdiv v4 2)) (rd v5 (tn v6)) (rd v7 (tn v8)).a (rd v7 (tn v8)).b).c (Xk (wr (Int.tdiv v4 2)) (rd v5 (tn v6)) (rd v7 (tn v8)).c (rd v7 (tn v8)).d).a (Xk (wr (Int.tdiv v4 2)) (rd v5 (tn v6)) (rd v7 (tn v8)).c (rd v7 (tn v8)).d).b (Xk (wr (Int.tdiv v4 2)) (rd v5 (tn v6)) (rd v7 (tn v8)).c (rd v7 (tn v8)).d).c)]))],[]⟩ [true] (pp (xL (v3.length+1) (v3++[(R7.mk (wrap IntKind.u8 v4) (Xk (wr (Int.tdiv v4 2)) (rd v5 (tn v6)) (rd v7 (tn v8)).a (rd v7 (tn v8)).b).a (Xk (wr (Int.tdiv v4 2)) (rd v5 (tn v6)) (rd v7 (tn v8)).a (rd v7 (tn v8)).b).b (Xk (wr (Int.tdiv v4 2)) (rd v5 (tn v6)) (rd v7 (tn v8)).a (rd v7 (tn v8)).b).c (Xk (wr (Int.tdiv v4 2)) (rd v5 (tn v6)) (rd v7 (tn v8)).c (rd v7 (tn v8)).d).a (Xk (wr (Int.tdiv v4 2)) (rd v5 (tn v6)) (rd v7 (tn v8)).c (rd v7 (tn v8)).d).b (Xk (wr (Int.tdiv v4 2)) (rd v5 (tn v6)) (rd v7 (tn v8)).c (rd v7 (tn v8)).d).c)]).length) (pp (xL (v3.length+1) (v3++[(R7.mk (wrap IntKind.u8 v4) (Xk (wr (Int.tdiv v4 2)) (rd v5 (tn v6)) (rd v7 (tn v8)).a (rd v7 (tn v8)).b).a (Xk (wr (Int.tdiv v4 2)) (rd v5 (tn v6)) (rd v7 (tn v8)).a (rd v7 (tn v8)).b).b (Xk (wr (Int.tdiv v4 2)) (rd v5 (tn v6)) (rd v7 (tn v8)).a (rd v7 (tn v8)).b).c (Xk (wr (Int.tdiv v4 2)) (rd v5 (tn v6)) (rd v7 (tn v8)).c (rd v7 (tn v8)).d).a (Xk (wr (Int.tdiv v4 2)) (rd v5 (tn v6)) (rd v7 (tn v8)).c (rd v7 (tn v8)).d).b (Xk (wr (Int.tdiv v4 2)) (rd v5 (tn v6)) (rd v7 (tn v8)).c (rd v7 (tn v8)).d).c)]).length) (pp (xS (v3.length+1) (Ze (Zz v3) 0 v3.length 7 [(.int .u8 (wrap IntKind.u8 v4)),(ii (Xk (wr (Int.tdiv v4 2)) (rd v5 (tn v6)) (rd v7 (tn v8)).a (rd v7 (tn v8)).b).a),(ii (Xk (wr (Int.tdiv v4 2)) (rd v5 (tn v6)) (rd v7 (tn v8)).a (rd v7 (tn v8)).b).b),(ii (Xk (wr (Int.tdiv v4 2)) (rd v5 (tn v6)) (rd v7 (tn v8)).a (rd v7 (tn v8)).b).c),(ii (Xk (wr (Int.tdiv v4 2)) (rd v5 (tn v6)) (rd v7 (tn v8)).c (rd v7 (tn v8)).d).a),(ii (Xk (wr (Int.tdiv v4 2)) (rd v5 (tn v6)) (rd v7 (tn v8)).c (rd v7 (tn v8)).d).b),(ii (Xk (wr (Int.tdiv v4 2)) (rd v5 (tn v6)) (rd v7 (tn v8)).c (rd v7 (tn v8)).d).c)]) (Zz (v3++[(R7.mk (wrap IntKind.u8 v4) (Xk (wr (Int.tdiv v4 2)) (rd v5 (tn v6)) (rd v7 (tn v8)).a (rd v7 (tn v8)).b).a (Xk (wr (Int.tdiv v4 2)) (rd v5 (tn v6)) (rd v7 (tn v8)).a (rd v7 (tn v8)).b).b (Xk (wr (Int.tdiv v4 2)) (rd v5 (tn v6)) (rd v7 (tn v8)).a (rd v7 (tn v8)).b).c (Xk (wr (Int.tdiv v4 2)) (rd v5 (tn v6)) (rd v7 (tn v8)).c (rd v7 (tn v8)).d).a (Xk (wr (Int.tdiv v4 2)) (rd v5 (tn v6)) (rd v7 (tn v8)).c (rd v7 (tn v8)).d).b (Xk (wr (Int.tdiv v4 2)) (rd v5 (tn v6)) (rd v7 (tn v8)).c (rd v7 (tn v8)).d).c)]))) (pp (pp (xF (Ze (Zz v3) 0 v3.length 7 [(.int .u8 (wrap IntKind.u8 v4)),(ii (Xk (wr (Int.tdiv v4 2)) (rd v5 (tn v6)) (rd v7 (tn v8)).a (rd v7 (tn v8)).b).a),(ii (Xk (wr (Int.tdiv v4 2)) (rd v5 (tn v6)) (rd v7 (tn v8)).a (rd v7 (tn v8)).b).b),(ii (Xk (wr (Int.tdiv v4 2)) (rd v5 (tn v6)) (rd v7 (tn v8)).a (rd v7 (tn v8)).b).c),(ii (Xk (wr (Int.tdiv v4 2)) (rd v5 (tn v6)) (rd v7 (tn v8)).c (rd v7 (tn v8)).d).a),(ii (Xk (wr (Int.tdiv v4 2)) (rd v5 (tn v6)) (rd v7 (tn v8)).c (rd v7 (tn v8)).d).b),(ii (Xk (wr (Int.tdiv v4 2)) (rd v5 (tn v6)) (rd v7 (tn v8)).c (rd v7 (tn v8)).d).c)])) nn) (ww o2 (ww o1 (ww o1 (ww o0 (ww o1 (ww o1 (ww o0 (tt k0 nn))))))))))))))))) (fun k0=>(sl z5r 17 [] ⟨[0],[],rquN1,rquM1⟩ ⟨[],[],[]⟩ [false] (pp (fl v3 nn) (tt k0 nn)))))
theorem x7d (l0:List R6):Yt prog (Zy prog 55) (rquC l0) (Za prog 55 [(.dat l0.length (Zz l0))] true []) (y2p l0):=(sl z5r 15 [(62,7,Zz ([]:List R7))] ⟨[0],[],rquN0,rquM0⟩ ⟨[(3,.grow 0 7)],[],[]⟩ [] (pp (fl ([]:List R7) nn) nn))
theorem v7w (l0:List R6) (n:Nat) (vs:List AVal) (h:Zs (Jx l0) n (y2p l0)=.ret vs):Jy prog (Zy prog 55) (Za prog 55 [(.dat l0.length (Zz l0))] true []) vs:=by have:=Zd (w5r l0) n _ (x7d l0);rwa [h] at this
inductive rmaS where
 | h0 (v3:Int)
 | h1 (v3:Int) (v4:List Int) (v5:Int)
def rmaC (l0:List R6):rmaS→Cfg
 | .h0 v3=>⟨⟨50,0,true⟩,none,(Zb prog 54 [1,0,1,0,0] 0),none,(Zy prog 3),⟨Yg [(0,(.dat l0.length (Zz l0))),(3,(ii v3))],Wh [] 0,0,[],true⟩,[],.leaf⟩
 | .h1 v3 v4 v5=>⟨⟨50,0,true⟩,none,(Zb prog 54 [1,0,1,0,0,1,0,0,1,1,0,0] 0),none,(Zy prog 3),⟨Yg [(0,(.dat l0.length (Zz l0))),(3,(ii v3)),(4,(.dat v4.length (Zz v4))),(5,(ii v5))],Wh [] 0,0,[],true⟩,[],.leaf⟩
def rmaN0 :List (Option (List Nat)):=[some [0,3]]
def rmaM0 :List (Option (List Nat)):=[]
def rmaN1 :List (Option (List Nat)):=[some [0,3,4,5]]
def rmaM1 :List (Option (List Nat)):=[]
def Qj (l0:List R6):rmaS→Xv rmaS
 | .h0 v3=>(bif (decide (v3<3)) then (bif (Xf (cvT l0) v3) then (.to (.h1 v3 (z1m (cvT l0) v3) 0)) else .stuck) else (.ret [(.bool false)]))
 | .h1 v3 v4 v5=>(bif (decide (v5<(v4.length:Int))) then (bif ((decide (0≤v5∧v5<(v4.length:Int)))&&true) then (bif (z4e (cvT l0) v3 (rd v4 v5.toNat)) then (bif (decide ((((u9g (cvT l0) v3 (rd v4 v5.toNat)).length :Nat):Int)>400)) then (.ret [(.bool true)]) else (bif (Kt (cvT l0) v3 0 (rd v4 v5.toNat)) then (bif (decide ((((x3e (cvT l0) v3 0 (rd v4 v5.toNat)).length :Nat):Int)>400)) then (.ret [(.bool true)]) else (bif (Kt (cvT l0) v3 1 (rd v4 v5.toNat)) then (bif (decide ((((x3e (cvT l0) v3 1 (rd v4 v5.toNat)).length :Nat):Int)>400)) then (.ret [(.bool true)]) else (.to (.h1 v3 v4 (wrap .i64 (v5+1))))) else .stuck)) else .stuck)) else .stuck) else .stuck) else (.to (.h0 (wrap .i64 (v3+1)))))
def y2s (l0:List R6):Xv rmaS:=(.to (.h0 0))
theorem w5t (l0:List R6): ∀s,Yt prog (Zy prog 54) (rmaC l0) (rmaC l0 s) (Qj l0 s)
 | .h0 v3=>(lb (fun k0=>(lo fun o0=>(sl z5r 23 [] ⟨[],[],rmaN1,rmaM1⟩ ⟨[],[],[]⟩ [true] (pp (pp (xr l0) (xw o0)) (tt k0 nn))))) (fun k0=>(lr 50 3 [1,1,1,1,1,1,1,0] 1 3 [(2,(.bool false))] (sl z5r 12 [] ⟨[],[],[some [2]],[]⟩ ⟨[],[],[]⟩ [false] (tt k0 nn)))))
 | .h1 v3 v4 v5=>(lb (fun k0=>(lo fun aG=>(lo fun aU=>(lb (fun k1=>(lr 50 54 [1,0,1,0,0,1,0,0,1,1,0,0,1,0,0,1,0,0] 1 3 [(2,(.bool true))] (sl z5r 51 [] ⟨[],[],[some [2]],[]⟩ ⟨[],[],[]⟩ (trs 20 []) (tt k1 (pp (pp (xr l0) (xw aU)) (ww aG (tt k0 nn))))))) (fun k1=>(lo fun bW=>(lb (fun k2=>(lr 50 54 [1,0,1,0,0,1,0,0,1,1,0,0,1,0,0,1,0,0] 1 3 [(2,(.bool true))] (sl z5r 51 [] ⟨[],[],[some [2]],[]⟩ ⟨[],[],[]⟩ (bl 20 1047553) (tt k2 (pp (pp (xr l0) (xw bW)) (ww aG (tt k1 (pp (pp (xr l0) (xw aU)) (ww aG (tt k0 nn)))))))))) (fun k2=>(lo fun cF=>(lb (fun k3=>(lr 50 54 [1,0,1,0,0,1,0,0,1,1,0,0,1,0,0,1,0,0] 1 3 [(2,(.bool true))] (sl z5r 51 [] ⟨[],[],[some [2]],[]⟩ ⟨[],[],[]⟩ (bl 20 524289) (tt k3 (pp (pp (xr l0) (xw cF)) (ww aG (tt k2 (pp (pp (xr l0) (xw bW)) (ww aG (tt k1 (pp (pp (xr l0) (xw aU)) (ww aG (tt k0 nn))))))))))))) (fun k3=>(sl z5r 55 [] ⟨[],[],rmaN1,rmaM1⟩ ⟨[],[],[]⟩ (bl 20 1) (tt k3 (pp (pp (xr l0) (xw cF)) (ww aG (tt k2 (pp (pp (xr l0) (xw bW)) (ww aG (tt k1 (pp (pp (xr l0) (xw aU)) (ww aG (tt k0 nn)))))))))))))))))))))) (fun k0=>(sl z5r 17 [] ⟨[],[],rmaN0,rmaM0⟩ ⟨[],[],[]⟩ [false] (tt k0 nn))))
theorem x7g (l0:List R6):Yt prog (Zy prog 54) (rmaC l0) (Za prog 54 [(.dat l0.length (Zz l0))] true []) (y2s l0):=(sl z5r 11 [] ⟨[],[],rmaN0,rmaM0⟩ ⟨[],[],[]⟩ [] nn)
theorem v7z (l0:List R6) (n:Nat) (vs:List AVal) (h:Zs (Qj l0) n (y2s l0)=.ret vs):Jy prog (Zy prog 54) (Za prog 54 [(.dat l0.length (Zz l0))] true []) vs:=by have:=Zd (w5t l0) n _ (x7g l0);rwa [h] at this
theorem y5g (kind:Int) (l m:List R4): ∀(k i:Nat) (out:List R4) (last:List R2) (first:Nat),(jF kind l m k i out last first).length ≤out.length+k*(ysV l m).length
 | 0,i,out,last,first=>by show out.length≤_;omega
 | k+1,i,out,last,first=>by
  have hs:=z0m (ysV l m) ((ysV l m).map (v5b kind l m (rd (xsV l m) i)));unfold jF;cases decide (0<i)&&Kc (x0g kind l m (rd (xsV l m) i)) last
  ·refine AL (y5g kind l m k (i+1) _ _ _) ?_;unfold u5i x0g;rw [Ar,AS,Ch];omega
  ·refine AL (y5g kind l m k (i+1) _ _ _) ?_;unfold v4l;rw [Ar,AS,A0,BV,Ch];omega
theorem y0y (xs ys:List Int) (P:Int→Int→Bool) (hy:ys.length≤40): ∀k i,(z1w xs ys P k i).length ≤40*k
 | 0,i=>AA _
 | k+1,i=>by have h1:=z0m ys (ys.map (P (rd xs i)));have h2:=y0y xs ys P hy k (i+1);unfold z1w;rw [Ar,AS];omega
theorem w7f (l:List R4) (h:l.length≤1600):(joV 2 l []).length ≤10240000:=by have h1:=Ji l [];have h2:=z9g l [];have h3:=y5g 2 l [] ((xsV l []).length - 1) 0 [] [] 0;simp only [Bq] at h1 h2 h3;have h4:((xsV l []).length - 1)*(ysV l []).length ≤3200*3200:=Cp (by omega) (by omega);unfold joV;omega
def v6h (L:List R6):Prop:=L.length≤1000∧ ∀a,(z1m L a).length ≤40
theorem uX_40 {L:List R6} (h:v6h L) (i:Int):(uX L i).length ≤40:=by unfold uX;cases i == 0 <;> exact h.2 _
theorem uY_40 {L:List R6} (h:v6h L) (i:Int):(uY L i).length ≤40:=by unfold uY;cases i == 0 <;> cases i == 1 <;> exact h.2 _
theorem v1i {L:List R6} (hl:v6h L) (a s p:Int):(x3e L a s p).length ≤10240000:=by have h1:=uX_40 hl a;have h2:=uY_40 hl a;exact w7f _ (AL (y0y _ _ _ (by omega) _ _) (by omega))
def dh (d:Int):Int:=wrap .i64 (Int.tdiv d 2)
def qdR (d p:Int) (t:R4):R7:=⟨wrap .u8 d,(Xk (dh d) p t.a t.b).a,(Xk (dh d) p t.a t.b).b,(Xk (dh d) p t.a t.b).c,(Xk (dh d) p t.c t.d).a,(Xk (dh d) p t.c t.d).b,(Xk (dh d) p t.c t.d).c⟩
def rqP (L:List R6) (d:Int) (ps:List Int):List R7:=ps.flatMap fun p=>(x3e L (dh d) (Int.tmod d 2) p).map (qdR d p)
def rqD (L:List R6):Nat→Nat→List R7
 | 0,_=>[]
 | k+1,i=>rqP L (i:Int) (z1m L (dh (i:Int)))++rqD L k (i+1)
def y6z (L:List R6):List R7:=rqD L 6 0
def z7o (L:List R6):Bool:=pd (v6h L)
theorem u3y (L:List R6) (d:Int) (P:List Int) (i:Nat) (hi:i<P.length) (hP:P.length≤40) (F:List R4) (hF:F.length≤10240000): ∀(k j:Nat) (out:List R7),j+k=F.length→out.length≤4000000000+j→
  ∃n,∀N,Zs (Jx L) (N+n) (.to (.h2 out d P (i:Int) F (j:Int)))=Zs (Jx L) N (.to (.h1 (out++(F.drop j).map (qdR d (rd P i))) d P ((i+1:Nat):Int)))
 | 0,j,out,h,ho=>by refine ⟨1,fun N=> ?_⟩;rw [Zv,At (by omega),Bb,Az];simp (disch:=omega) only [Jx,Yz,Zk,Zx,Aa]
 | k+1,j,out,h,ho=>by
  have hj:j<F.length:=by omega
  obtain ⟨n,hn⟩:=u3y L d P i hi hP F hF k (j+1) (out++[qdR d (rd P i) (rd F j)]) (by omega) (by rw [Ar];simp only [AW,Bq];omega);refine ⟨n+1,fun N=> ?_⟩;have hn:=hn N;rw [←AD,Zv,Yj hj,A4];rw [AH] at hn;refine Eq.trans ?_ hn
  congr 1
  have m1:decide (0+out.length=out.length)=true:=Ah (by omega);have b7:Nat.beq 7 7=true:=rfl;simp (disch:=omega) only [Jx,Zn,Zo,Zf,Zk,Zx,Zj,m1,b7,Ai,Al,Ab];rfl
theorem w1z (L:List R6) (d p:Int) (ps:List Int):rqP L d (p::ps)=(x3e L (dh d) (Int.tmod d 2) p).map (qdR d p)++rqP L d ps:=by unfold rqP;rw [Be]
theorem u3z (L:List R6) (hl:v6h L) (d:Int) (hd:0≤d∧d<6) (P:List Int) (hP:P.length≤40): ∀(k i:Nat) (out:List R7),i+k=P.length→out.length≤3000000000+10240000*i→
  ∃n,∀N,Zs (Jx L) (N+n) (.to (.h1 out d P (i:Int)))=Zs (Jx L) N (.to (.h0 (out++rqP L d (P.drop i)) (d+1)))
 | 0,i,out,h,ho=>by refine ⟨1,fun N=> ?_⟩;have w:wrap .i64 (d+1)=d+1:=Zk (by omega);rw [Zv,At (by omega)];show _=Zs (Jx L) N (.to (.h0 (out++[]) (d+1)));rw [Az];simp (disch:=omega) only [Jx,Yz,w,Aa]
 | k+1,i,out,h,ho=>by
  have hi:i<P.length:=by omega
  have hf:=v1i hl (dh d) (Int.tmod d 2) (rd P i);obtain ⟨n,hn⟩:=u3z L hl d hd P hP k (i+1) (out++(x3e L (dh d) (Int.tmod d 2) (rd P i)).map (qdR d (rd P i))) (by omega) (by rw [Ar,AS];omega);obtain ⟨m,hm⟩:=u3y L d P i hi hP (x3e L (dh d) (Int.tmod d 2) (rd P i)) hf _ 0 out (Ag _) (by omega);refine ⟨n+m+1,fun N=> ?_⟩;have hn:=hn N;have hm:=hm (N+n);rw [Qo,A3] at hm;rw [show N+(n+m+1)=(N+n+m)+1 by omega,Zv,Yj hi,w1z,←AH,←hn,←hm]
  congr 1
  have o:Kt L (dh d) (Int.tmod d 2) (rd P i)=true:=Ah ⟨hl.1,uX_40 hl _,uY_40 hl _⟩;have ed:wrap .i64 (Int.tdiv d 2)=dh d:=rfl;simp (disch:=omega) only [Jx,Zg,Zn,Zo,Zj,ed,o,Ai,Ab]
theorem y8c (L:List R6) (hl:v6h L) (d:Int): ∀ps:List Int,(rqP L d ps).length ≤10240000*ps.length
 | []=>AA _
 | p::ps=>by have h:=y8c L hl d ps;have hf:=v1i hl (dh d) (Int.tmod d 2) p;rw [w1z,Ar,AS,AW];omega
theorem u4a (L:List R6) (hl:v6h L): ∀(k i:Nat) (out:List R7),i+k=6→out.length≤409600000*i→
  ∃n,Zs (Jx L) n (.to (.h0 out (i:Int)))=.ret [.dat (out++rqD L k i).length (Zz (out++rqD L k i))]
 | 0,i,out,h,ho=>by refine ⟨1,?_⟩;have g:decide ((i:Int)<6)=false:=Ay (by omega);rw [Zv];show _=Xv.ret [.dat (out++[]).length (Zz (out++[]))];rw [Az];simp only [Jx,g,Aa,Zp]
 | k+1,i,out,h,ho=>by
  have hc:=hl.2 (dh (i:Int));have hl1:=hl.1;have hq:=y8c L hl (i:Int) (z1m L (dh (i:Int)));obtain ⟨n,hn⟩:=u4a L hl k (i+1) (out++rqP L (i:Int) (z1m L (dh (i:Int)))) (by omega) (by rw [Ar];omega);obtain ⟨m,hm⟩:=u3z L hl (i:Int) (by omega) (z1m L (dh (i:Int))) (by omega) _ 0 out (Ag _) (by omega);refine ⟨n+m+1,?_⟩;have hm:=hm n;rw [Qo,A3] at hm;have g:decide ((i:Int)<6)=true:=Ah (by omega);have o:Xf L (dh (i:Int))=true:=Ah (by omega);have ed:wrap .i64 (Int.tdiv (i:Int) 2)=dh (i:Int):=rfl;rw [Zv];have hs:Jx L (.h0 out (i:Int))=.to (.h1 out (i:Int) (z1m L (dh (i:Int))) 0):=by simp only [Jx,Zg,g,ed,o,Ab]
  rw [hs,hm];show _=Xv.ret [.dat (out++(rqP L (i:Int) (z1m L (dh (i:Int)))++rqD L k (i+1))).length (Zz (out++(rqP L (i:Int) (z1m L (dh (i:Int)))++rqD L k (i+1))))];rw [←AH];exact hn
theorem u9i (L:List R6) (h:z7o L=true): ∃n,Zs (Jx L) n (y2p L)=.ret [.dat (y6z L).length (Zz (y6z L))]:=by obtain ⟨n,hn⟩:=u4a L (Ve h) 6 0 [] rfl (AA _);rw [Bf,Qo] at hn;refine ⟨n,?_⟩;unfold y6z y2p;exact hn
def fRqu :List AVal→Option (AVal×Bool)
 | [a0]=>match asL R6 a0 with
  | some (L0,g0,n0)=>some (.dat (y6z L0).length (Zz (y6z L0)),isT R6 n0 g0&&(z7o L0))
  | _=>none
 | _=>none
theorem j2s {S:Specs} (hS:Zu prog S):Zu prog (S.with nRqu fRqu):=by
 refine z0l hS (by kernel_rfl) fun args v h=> ?_;unfold fRqu at h;split at h
 ·rename_i a0;split at h
  ·rename_i L0 g0 n0 e0;simp only [Ae,Ad,Ac] at h;obtain ⟨rfl,ho0,hw⟩:=h;obtain ⟨N,hN⟩:=u9i L0 hw;exact ⟨_,_,(.cons (asL_le e0 ho0) .nil),rfl,v7w L0 N _ hN,3,rfl⟩
  ·cases h
 ·cases h
def maP (L:List R6) (a p:Int):Bool:=decide ((((u9g L a p).length :Nat):Int)>400)||(decide ((((x3e L a 0 p).length :Nat):Int)>400)||decide ((((x3e L a 1 p).length :Nat):Int)>400))
def maD (L:List R6):Nat→Nat→Bool
 | 0,_=>false
 | k+1,i=>(z1m L (i:Int)).any (maP L (i:Int))||maD L k (i+1)
def rmaV (L:List R6):Bool:=maD L 3 0
def x2z (L:List R6):Bool:=decide (L.length≤12)
theorem u4c (L:List R6) (hl:L.length≤12) (a:Int) (ha:0≤a∧a<3) (P:List Int) (hP:P.length≤24) (R:Bool) (hR: ∃n,Zs (Qj L) n (.to (.h0 (a+1)))=.ret [.bool R]): ∀(k i:Nat),i+k=P.length→
  ∃n,Zs (Qj L) n (.to (.h1 a P (i:Int)))=.ret [.bool ((P.drop i).any (maP L a)||R)]
 | 0,i,h=>by
  obtain ⟨n,hn⟩:=hR;refine ⟨n+1,?_⟩;have w:wrap .i64 (a+1)=a+1:=Zk (by omega);rw [Zv,At (by omega),List.any_nil,BF,←hn]
  congr 1
  simp (disch:=omega) only [Qj,Yz,w,Aa]
 | k+1,i,h=>by
  have hi:i<P.length:=by omega
  obtain ⟨n,hn⟩:=u4c L hl a ha P hP R hR k (i+1) (by omega);refine ⟨n+1,?_⟩;have o1: ∀p,z4e L a p=true:=fun p=>rse_ow hl a p;have o2: ∀s p,Kt L a s p=true:=fun s p=>rfa_ow hl a s p;rw [Zv,Yj hi,Ct];have e:Qj L (.h1 a P (i:Int))=bif maP L a (rd P i) then .ret [.bool true] else .to (.h1 a P ((i+1:Nat):Int)):=by unfold maP;simp (disch:=omega) only [Qj,Zg,Zn,Zo,Zk,Zx,Zj,o1,o2,Ai,Ab];cases decide ((((u9g L a (rd P i)).length :Nat):Int)>400) <;> cases decide ((((x3e L a 0 (rd P i)).length :Nat):Int)>400) <;> rfl
  rw [e];cases maP L a (rd P i) with
  | true=>rw [Ab,Zp,BW,BW]
  | false=>rw [Aa,hn,BF]
theorem u4d (L:List R6) (hl:L.length≤12): ∀(k i:Nat),i+k=3→ ∃n,Zs (Qj L) n (.to (.h0 (i:Int)))=.ret [.bool (maD L k i)]
 | 0,i,h=>by refine ⟨1,?_⟩;have g:decide ((i:Int)<3)=false:=Ay (by omega);rw [Zv];simp only [Qj,g,Aa,Zp];rfl
 | k+1,i,h=>by
  have hc:=w0m L (i:Int);obtain ⟨n,hn⟩:=u4c L hl (i:Int) (by omega) (z1m L (i:Int)) (by omega) _ (u4d L hl k (i+1) (by omega)) (z1m L (i:Int)).length 0 (Ag _);refine ⟨n+1,?_⟩;have g:decide ((i:Int)<3)=true:=Ah (by omega);have o:Xf L (i:Int)=true:=Ah (by omega);rw [Qo,A3] at hn;rw [Zv];have hs:Qj L (.h0 (i:Int))=.to (.h1 (i:Int) (z1m L (i:Int)) 0):=by simp only [Qj,Zg,g,o,Ab]
  rw [hs];exact hn
theorem u9l (L:List R6) (h:x2z L=true): ∃n,Zs (Qj L) n (y2s L)=.ret [.bool (rmaV L)]:=by obtain ⟨n,hn⟩:=u4d L (AC h) 3 0 rfl;rw [Qo] at hn;refine ⟨n,?_⟩;unfold rmaV y2s;exact hn
def fRma :List AVal→Option (AVal×Bool)
 | [a0]=>match asL R6 a0 with
  | some (L0,g0,n0)=>some (.bool (rmaV L0),isT R6 n0 g0&&(x2z L0))
  | _=>none
 | _=>none
theorem j2t {S:Specs} (hS:Zu prog S):Zu prog (S.with nRma fRma):=by
 refine z0l hS (by kernel_rfl) fun args v h=> ?_;unfold fRma at h;split at h
 ·rename_i a0;split at h
  ·rename_i L0 g0 n0 e0;simp only [Ae,Ad,Ac] at h;obtain ⟨rfl,ho0,hw⟩:=h;obtain ⟨N,hN⟩:=u9l L0 hw;exact ⟨_,_,(.cons (asL_le e0 ho0) .nil),rfl,v7z L0 N _ hN,3,rfl⟩
  ·cases h
 ·cases h
def Pd :Specs:=(Pc.with nRqu fRqu).with nRma fRma
theorem Pd_ok :Zu prog Pd:=j2t (j2s z5r)
inductive rinS where
def rinC (aO:Int) (aN:Int) (aM:Int) (x1:Int):rinS→Cfg
 :=nofun
def x7j (aO:Int) (aN:Int) (aM:Int) (x1:Int):rinS→Xv rinS
 :=nofun
def y2v (aO:Int) (aN:Int) (aM:Int) (x1:Int):Xv rinS:=(bif (decide (aO≥x1)) then (bif (decide (aN≥x1)) then (bif (decide (aM≥x1)) then (bif (decide (aO≤1000000)) then (bif (decide (aN≤1000000)) then (.ret [(.bool (decide (aM≤1000000)))]) else (.ret [(.bool false)])) else (.ret [(.bool false)])) else (.ret [(.bool false)])) else (.ret [(.bool false)])) else (.ret [(.bool false)]))
theorem w5w (aO:Int) (aN:Int) (aM:Int) (x1:Int): ∀s,Yt prog (Zy prog 38) (rinC aO aN aM x1) (rinC aO aN aM x1 s) (x7j aO aN aM x1 s)
 :=nofun
theorem x7k (aO:Int) (aN:Int) (aM:Int) (x1:Int):Yt prog (Zy prog 38) (rinC aO aN aM x1) (Za prog 38 [(.agg [(.int .i64 aO),(.int .i64 aN),(.int .i64 aM)]),(.int .i64 x1)] true []) (y2v aO aN aM x1):=(lb (fun k0=>(lb (fun k1=>(lb (fun k2=>(lb (fun k3=>(lb (fun k4=>(lr 36 3 [1,1,1,1,1,1,1,0] 1 5 [(4,(.bool (decide (aM≤1000000))))] (sl Jp 40 [] ⟨[],[],[some [4]],[]⟩ ⟨[],[],[]⟩ (trs 17 []) (tt k4 (tt k3 (tt k2 (tt k1 (tt k0 nn)))))))) (fun k4=>(lr 36 3 [1,1,1,1,1,1,1,0] 1 5 [(4,(.bool false))] (sl Jp 40 [] ⟨[],[],[some [4]],[]⟩ ⟨[],[],[]⟩ (trs 14 [false,false,false]) (tt k4 (tt k3 (tt k2 (tt k1 (tt k0 nn)))))))))) (fun k3=>(lr 36 3 [1,1,1,1,1,1,1,0] 1 5 [(4,(.bool false))] (sl Jp 40 [] ⟨[],[],[some [4]],[]⟩ ⟨[],[],[]⟩ (trs 11 [false,false,false,false,false,false]) (tt k3 (tt k2 (tt k1 (tt k0 nn))))))))) (fun k2=>(lr 36 3 [1,1,1,1,1,1,1,0] 1 5 [(4,(.bool false))] (sl Jp 40 [] ⟨[],[],[some [4]],[]⟩ ⟨[],[],[]⟩ (trs 8 [false,false,false,false,false,false,false,false,false]) (tt k2 (tt k1 (tt k0 nn)))))))) (fun k1=>(lr 36 3 [1,1,1,1,1,1,1,0] 1 5 [(4,(.bool false))] (sl Jp 40 [] ⟨[],[],[some [4]],[]⟩ ⟨[],[],[]⟩ (trs 4 [false,false,false,false,false,false,false,false,false,false,false,false,false]) (tt k1 (tt k0 nn))))))) (fun k0=>(lr 36 3 [1,1,1,1,1,1,1,0] 1 5 [(4,(.bool false))] (sl Jp 40 [] ⟨[],[],[some [4]],[]⟩ ⟨[],[],[]⟩ [false,false,false,false,false,false,false,false,false,false,false,false,false,false,false,false,false] (tt k0 nn)))))
theorem v8c (aO:Int) (aN:Int) (aM:Int) (x1:Int) (n:Nat) (vs:List AVal) (h:Zs (x7j aO aN aM x1) n (y2v aO aN aM x1)=.ret vs):Jy prog (Zy prog 38) (Za prog 38 [(.agg [(.int .i64 aO),(.int .i64 aN),(.int .i64 aM)]),(.int .i64 x1)] true []) vs:=by have:=Zd (w5w aO aN aM x1) n _ (x7k aO aN aM x1);rwa [h] at this
def u9x (x y z lo:Int):Bool:=decide (x≥lo)&&(decide (y≥lo)&&(decide (z≥lo)&&(decide (x≤1000000)&&(decide (y≤1000000)&&decide (z≤1000000)))))
theorem u9w (x y z lo:Int): ∃N,Zs (x7j x y z lo) N (y2v x y z lo)=.ret [.bool (u9x x y z lo)]:=⟨0,by
 unfold y2v u9x;cases decide (x≥lo) <;> cases decide (y≥lo) <;> cases decide (z≥lo) <;> cases decide (x≤1000000) <;> cases decide (y≤1000000) <;> rfl⟩
def fRin :List AVal→Option (AVal×Bool)
 | [.agg [.int .i64 x,.int .i64 y,.int .i64 z],.int .i64 lo]=>some (.bool (u9x x y z lo),true)
 | _=>none
theorem j2u {S:Specs} (hS:Zu prog S):Zu prog (S.with nIn16 fRin):=by
 refine z0l hS (by kernel_rfl) fun args v h=> ?_;unfold fRin at h;split at h
 ·rename_i x y z lo;simp only [Ae,Ad,Cg] at h;subst h;obtain ⟨N,hN⟩:=u9w x y z lo;exact ⟨_,_,(.cons (.refl _) (.cons (.refl _) .nil)),rfl,v8c x y z lo N _ hN,3,rfl⟩
 ·cases h
def Pz :Specs:=Pd.with nIn16 fRin
theorem y0p :Zu prog Pz:=j2u Pd_ok
inductive rvaS where
def rvaC (aO:Int) (aN:Int) (aM:Int) (bD:Int) (bJ:Int) (bK:Int) (bY:Int):rvaS→Cfg
 :=nofun
def x6v (aO:Int) (aN:Int) (aM:Int) (bD:Int) (bJ:Int) (bK:Int) (bY:Int):rvaS→Xv rvaS
 :=nofun
def y2k (aO:Int) (aN:Int) (aM:Int) (bD:Int) (bJ:Int) (bK:Int) (bY:Int):Xv rvaS:=(bif (decide (aO>5)) then (.ret [(.bool false)]) else (bif (!(u9x aN aM bD (-1000000))) then (.ret [(.bool false)]) else (bif (!(u9x bJ bK bY (-1000000))) then (.ret [(.bool false)]) else (bif ((wrap .i64 (Int.tdiv (wrap .i64 aO) 2)) == 0) then (bif ((Jq aN aM bD (wrap .i64 (Int.tdiv (wrap .i64 aO) 2))) == (Jq bJ bK bY (wrap .i64 (Int.tdiv (wrap .i64 aO) 2)))) then (bif (decide ((Jq aN aM bD 1)<(Jq bJ bK bY 1))) then (.ret [(.bool (decide ((Jq aN aM bD 2)<(Jq bJ bK bY 2))))]) else (.ret [(.bool false)])) else (.ret [(.bool false)])) else (bif ((wrap .i64 (Int.tdiv (wrap .i64 aO) 2)) == 1) then (bif ((Jq aN aM bD (wrap .i64 (Int.tdiv (wrap .i64 aO) 2))) == (Jq bJ bK bY (wrap .i64 (Int.tdiv (wrap .i64 aO) 2)))) then (bif (decide ((Jq aN aM bD 0)<(Jq bJ bK bY 0))) then (.ret [(.bool (decide ((Jq aN aM bD 2)<(Jq bJ bK bY 2))))]) else (.ret [(.bool false)])) else (.ret [(.bool false)])) else (bif ((Jq aN aM bD (wrap .i64 (Int.tdiv (wrap .i64 aO) 2))) == (Jq bJ bK bY (wrap .i64 (Int.tdiv (wrap .i64 aO) 2)))) then (bif (decide ((Jq aN aM bD 0)<(Jq bJ bK bY 0))) then (.ret [(.bool (decide ((Jq aN aM bD 1)<(Jq bJ bK bY 1))))]) else (.ret [(.bool false)])) else (.ret [(.bool false)])))))))
theorem w5h (aO:Int) (aN:Int) (aM:Int) (bD:Int) (bJ:Int) (bK:Int) (bY:Int): ∀s,Yt prog (Zy prog 74) (rvaC aO aN aM bD bJ bK bY) (rvaC aO aN aM bD bJ bK bY s) (x6v aO aN aM bD bJ bK bY s)
 :=nofun
theorem x6w (aO:Int) (aN:Int) (aM:Int) (bD:Int) (bJ:Int) (bK:Int) (bY:Int):Yt prog (Zy prog 74) (rvaC aO aN aM bD bJ bK bY) (Za prog 74 [(.agg [(.int .u8 aO),(.int .i64 aN),(.int .i64 aM),(.int .i64 bD),(.int .i64 bJ),(.int .i64 bK),(.int .i64 bY)])] true []) (y2k aO aN aM bD bJ bK bY):=(lb (fun k0=>(lr 63 74 [1,0,1,0,0] 1 3 [(2,(.bool false))] (sl y0p 29 [] ⟨[],[],[some [2]],[]⟩ ⟨[],[],[]⟩ (trs 9 []) (tt k0 nn)))) (fun k0=>(lb (fun k1=>(lr 63 74 [1,0,1,0,0] 1 3 [(2,(.bool false))] (sl y0p 29 [] ⟨[],[],[some [2]],[]⟩ ⟨[],[],[]⟩ [false,false,false,false,true,true,true,true,true] (tt k1 (tt k0 nn))))) (fun k1=>(lb (fun k2=>(lr 63 74 [1,0,1,0,0] 1 3 [(2,(.bool false))] (sl y0p 29 [] ⟨[],[],[some [2]],[]⟩ ⟨[],[],[]⟩ [false,false,false,false,false,false,false,false,true] (tt k2 (tt k1 (tt k0 nn)))))) (fun k2=>(lb (fun k3=>(lb (fun k4=>(lb (fun k5=>(lr 63 3 [1,1,1,1,1,1,1,0] 1 3 [(2,(.bool (decide ((Jq aN aM bD 2)<(Jq bJ bK bY 2)))))] (sl y0p 66 [] ⟨[],[],[some [2]],[]⟩ ⟨[],[],[]⟩ [false,false,false,false,false,false,false,false,false,true,true,true,true,true,true,true,true,true,true,true,true,true,true,true,true,true,true,true] (tt k5 (tt k4 (tt k3 (tt k2 (tt k1 (tt k0 nn))))))))) (fun k5=>(lr 63 3 [1,1,1,1,1,1,1,0] 1 3 [(2,(.bool false))] (sl y0p 66 [] ⟨[],[],[some [2]],[]⟩ ⟨[],[],[]⟩ [false,false,false,false,false,false,false,false,false,true,true,true,true,true,true,true,true,true,true,false,false,false,false,false,false,false,false,false] (tt k5 (tt k4 (tt k3 (tt k2 (tt k1 (tt k0 nn))))))))))) (fun k4=>(lr 63 3 [1,1,1,1,1,1,1,0] 1 3 [(2,(.bool false))] (sl y0p 66 [] ⟨[],[],[some [2]],[]⟩ ⟨[],[],[]⟩ [false,false,false,false,false,false,false,false,false,true,false,false,false,false,false,false,false,false,false,false,false,false,false,false,false,false,false,false] (tt k4 (tt k3 (tt k2 (tt k1 (tt k0 nn)))))))))) (fun k3=>(lb (fun k4=>(lb (fun k5=>(lb (fun k6=>(lr 63 3 [1,1,1,1,1,1,1,0] 1 3 [(2,(.bool (decide ((Jq aN aM bD 2)<(Jq bJ bK bY 2)))))] (sl y0p 74 [] ⟨[],[],[some [2]],[]⟩ ⟨[],[],[]⟩ [false,false,false,false,false,false,false,false,false,false,true,true,true,true,true,true,true,true,true,true,true,true,true,true,true,true,true,true,true] (tt k6 (tt k5 (tt k4 (tt k3 (tt k2 (tt k1 (tt k0 nn)))))))))) (fun k6=>(lr 63 3 [1,1,1,1,1,1,1,0] 1 3 [(2,(.bool false))] (sl y0p 74 [] ⟨[],[],[some [2]],[]⟩ ⟨[],[],[]⟩ [false,false,false,false,false,false,false,false,false,false,true,true,true,true,true,true,true,true,true,true,false,false,false,false,false,false,false,false,false] (tt k6 (tt k5 (tt k4 (tt k3 (tt k2 (tt k1 (tt k0 nn)))))))))))) (fun k5=>(lr 63 3 [1,1,1,1,1,1,1,0] 1 3 [(2,(.bool false))] (sl y0p 74 [] ⟨[],[],[some [2]],[]⟩ ⟨[],[],[]⟩ [false,false,false,false,false,false,false,false,false,false,true,false,false,false,false,false,false,false,false,false,false,false,false,false,false,false,false,false,false] (tt k5 (tt k4 (tt k3 (tt k2 (tt k1 (tt k0 nn))))))))))) (fun k4=>(lb (fun k5=>(lb (fun k6=>(lr 63 3 [1,1,1,1,1,1,1,0] 1 3 [(2,(.bool (decide ((Jq aN aM bD 1)<(Jq bJ bK bY 1)))))] (sl y0p 75 [] ⟨[],[],[some [2]],[]⟩ ⟨[],[],[]⟩ [false,false,false,false,false,false,false,false,false,false,false,true,true,true,true,true,true,true,true,true,true,true,true,true,true,true,true,true,true] (tt k6 (tt k5 (tt k4 (tt k3 (tt k2 (tt k1 (tt k0 nn)))))))))) (fun k6=>(lr 63 3 [1,1,1,1,1,1,1,0] 1 3 [(2,(.bool false))] (sl y0p 75 [] ⟨[],[],[some [2]],[]⟩ ⟨[],[],[]⟩ [false,false,false,false,false,false,false,false,false,false,false,true,true,true,true,true,true,true,true,true,false,false,false,false,false,false,false,false,false] (tt k6 (tt k5 (tt k4 (tt k3 (tt k2 (tt k1 (tt k0 nn)))))))))))) (fun k5=>(lr 63 3 [1,1,1,1,1,1,1,0] 1 3 [(2,(.bool false))] (sl y0p 75 [] ⟨[],[],[some [2]],[]⟩ ⟨[],[],[]⟩ [false,false,false,false,false,false,false,false,false,false,false,false,false,false,false,false,false,false,false,false,false,false,false,false,false,false,false,false,false] (tt k5 (tt k4 (tt k3 (tt k2 (tt k1 (tt k0 nn))))))))))))))))))))
theorem v7n (aO:Int) (aN:Int) (aM:Int) (bD:Int) (bJ:Int) (bK:Int) (bY:Int) (n:Nat) (vs:List AVal) (h:Zs (x6v aO aN aM bD bJ bK bY) n (y2k aO aN aM bD bJ bK bY)=.ret vs):Jy prog (Zy prog 74) (Za prog 74 [(.agg [(.int .u8 aO),(.int .i64 aN),(.int .i64 aM),(.int .i64 bD),(.int .i64 bJ),(.int .i64 bK),(.int .i64 bY)])] true []) vs:=by have:=Zd (w5h aO aN aM bD bJ bK bY) n _ (x6w aO aN aM bD bJ bK bY);rwa [h] at this
abbrev nRva :Nat:=74
abbrev nRc9 :Nat:=25
abbrev nLvl :Nat:=71
abbrev nWid9 :Nat:=21
def fn3 (x y z:Int):Prop:=(-1000000≤x∧x≤1000000)∧(-1000000≤y∧y≤1000000)∧(-1000000≤z∧z≤1000000)
theorem u0x (x y z:Int):w3q x y z=true↔fn3 x y z:=by unfold w3q fn3;rw [Ac,As,As,x9j,x9j,x9k,x9k];omega
theorem v4b (x y z:Int):u9x x y z (-1000000)=w3q x y z:=by rw [Bool.eq_iff_iff,u0x];unfold u9x fn3;simp only [Ac,As];omega
def rvaV (a b c d e f g:Int):Bool:=x5y ⟨a,b,c,d,e,f,g⟩
def z7i (a b c d e f g:Int):Bool:=decide (0≤a)&&decide (a<256)
theorem u8v (a b c d e f g:Int) (h:z7i a b c d e f g=true): ∃N,Zs (x6v a b c d e f g) N (y2k a b c d e f g)=.ret [.bool (rvaV a b c d e f g)]:=⟨0,by
 have h0:0≤a:=AC (Bool.and_eq_true_iff.1 h).1;unfold y2k rvaV x5y;rw [v4b,v4b];by_cases h5:a≤5
 ·rw [Ah h5,Ay (by omega: ¬a>5),Aa,Al];cases w3q b c d
  ·rfl
  cases w3q e f g
  ·rfl
  have:a=0∨a=1∨a=2∨a=3∨a=4∨a=5:=by omega
  have two: ∀p q r:Bool,(bif p then (bif q then (Xv.ret [AVal.bool r]:Xv rvaS) else .ret [.bool false]) else .ret [.bool false])=.ret [.bool (p&&(q&&r))]:=fun p q r=>by cases p <;> cases q <;> rfl
  rcases this with rfl | rfl | rfl | rfl | rfl | rfl <;> exact two _ _ _
 ·rw [Ah (by omega:a>5),Ay h5];rfl⟩
def fRva :List AVal→Option (AVal×Bool)
 | [.agg [.int .u8 a,.int .i64 b,.int .i64 c,.int .i64 d,.int .i64 e,.int .i64 f,.int .i64 g]]=>some (.bool (rvaV a b c d e f g),z7i a b c d e f g)
 | _=>none
theorem j2o {S:Specs} (hS:Zu prog S):Zu prog (S.with nRva fRva):=by
 refine z0l hS (by kernel_rfl) fun args v h=> ?_;unfold fRva at h;split at h
 ·rename_i a b c d e f g;simp only [Ae,Ad] at h;obtain ⟨rfl,hw⟩:=h;obtain ⟨N,hN⟩:=u8v a b c d e f g hw;exact ⟨_,_,(.cons (.refl _) .nil),rfl,v7n a b c d e f g N _ hN,3,rfl⟩
 ·cases h
def Pf :Specs:=Pz.with nRva fRva
theorem Qg :Zu prog Pf:=j2o y0p
inductive rc9S where
 | h0 (v3:Int)
def rc9C (l0:List R7):rc9S→Cfg
 | .h0 v3=>⟨⟨19,0,true⟩,none,(Zb prog 25 [1,1,0,1,0,0] 0),none,(Zy prog 3),⟨Yg [(0,(.dat l0.length (Zz l0))),(3,(ii v3))],Wh [] 0,0,[],true⟩,[],.leaf⟩
def rc9N0 :List (Option (List Nat)):=[some [0,3]]
def rc9M0 :List (Option (List Nat)):=[]
def z6l (l0:List R7):rc9S→Xv rc9S
 | .h0 v3=>(bif (decide (v3<(l0.length:Int))) then (bif ((decide (0≤v3∧v3<(l0.length:Int)))&&true) then (bif (z7i (rd l0 v3.toNat).a (rd l0 v3.toNat).b (rd l0 v3.toNat).c (rd l0 v3.toNat).d (rd l0 v3.toNat).e (rd l0 v3.toNat).f (rd l0 v3.toNat).g) then (bif (!(rvaV (rd l0 v3.toNat).a (rd l0 v3.toNat).b (rd l0 v3.toNat).c (rd l0 v3.toNat).d (rd l0 v3.toNat).e (rd l0 v3.toNat).f (rd l0 v3.toNat).g)) then (.ret [(.int .i64 8)]) else (.to (.h0 (wrap .i64 (v3+1))))) else .stuck) else .stuck) else (.ret [(.int .i64 0)]))
def y2z (l0:List R7):Xv rc9S:=(bif (decide ((l0.length:Int)>3000)) then (.ret [(.int .i64 4)]) else (.to (.h0 0)))
theorem w6f (l0:List R7): ∀s,Yt prog (Zy prog 25) (rc9C l0) (rc9C l0 s) (z6l l0 s)
 | .h0 v3=>(lb (fun k0=>(lo fun aG=>(lo fun aU=>(lb (fun k1=>(lr 19 25 [1,1,0,1,0,0,1,0,0,1,0,0] 1 3 [(2,(ii 8))] (sl Qg 26 [] ⟨[],[],[some [2]],[]⟩ ⟨[],[],[]⟩ (bl 2 3) (tt k1 (ww aU (ww aG (tt k0 nn))))))) (fun k1=>(sl Qg 30 [] ⟨[],[],rc9N0,rc9M0⟩ ⟨[],[],[]⟩ (bl 2 1) (tt k1 (ww aU (ww aG (tt k0 nn)))))))))) (fun k0=>(lr 19 3 [1,1,1,1,1,1,1,0] 1 3 [(2,(ii 0))] (sl Qg 14 [] ⟨[],[],[some [2]],[]⟩ ⟨[],[],[]⟩ [false] (tt k0 nn)))))
theorem x8b (l0:List R7):Yt prog (Zy prog 25) (rc9C l0) (Za prog 25 [(.dat l0.length (Zz l0))] true []) (y2z l0):=(lb (fun k0=>(lr 19 25 [1,0,1,0,0] 1 3 [(2,(ii 4))] (sl Qg 16 [] ⟨[],[],[some [2]],[]⟩ ⟨[],[],[]⟩ [true] (tt k0 nn)))) (fun k0=>(sl Qg 20 [] ⟨[],[],rc9N0,rc9M0⟩ ⟨[],[],[]⟩ [false] (tt k0 nn))))
theorem v8y (l0:List R7) (n:Nat) (vs:List AVal) (h:Zs (z6l l0) n (y2z l0)=.ret vs):Jy prog (Zy prog 25) (Za prog 25 [(.dat l0.length (Zz l0))] true []) vs:=by have:=Zd (w6f l0) n _ (x8b l0);rwa [h] at this
inductive lvlS where
 | h0 (v9:Int) (v10:Int)
def lvlC (l0:List R7) (x1:Int) (x2:Int) (x3:Int):lvlS→Cfg
 | .h0 v9 v10=>⟨⟨68,0,true⟩,none,(Zb prog 71 [1,1,0,1,0,0] 0),none,(Zy prog 71),⟨Yg [(0,(.dat l0.length (Zz l0))),(1,(ii x1)),(2,(ii x2)),(3,(ii x3)),(9,(ii v9)),(10,(ii v10))],Wh [] 0,0,[],true⟩,[],.leaf⟩
def x1b :List (Option (List Nat)):=[some [0,1,2,3,9,10]]
def x1c :List (Option (List Nat)):=[]
def z9u (l0:List R7) (x1:Int) (x2:Int) (x3:Int):lvlS→Xv lvlS
 | .h0 v9 v10=>(bif (decide (v10<(l0.length:Int))) then (bif ((decide (0≤v10∧v10<(l0.length:Int)))&&true) then (bif (decide ((rd l0 v10.toNat).a <4)) then (.to (.h0 v9 (wrap .i64 (v10+1)))) else (bif (decide ((rd l0 v10.toNat).d >x3)) then (.to (.h0 v9 (wrap .i64 (v10+1)))) else (bif (decide (x1<(rd l0 v10.toNat).b)) then (.to (.h0 v9 (wrap .i64 (v10+1)))) else (bif (decide (x1≥(rd l0 v10.toNat).e)) then (.to (.h0 v9 (wrap .i64 (v10+1)))) else (bif (decide (x2<(rd l0 v10.toNat).c)) then (.to (.h0 v9 (wrap .i64 (v10+1)))) else (bif (decide (x2≥(rd l0 v10.toNat).f)) then (.to (.h0 v9 (wrap .i64 (v10+1)))) else (bif ((rd l0 v10.toNat).a == 5) then (.to (.h0 (wrap .i64 (v9+1)) (wrap .i64 (v10+1)))) else (.to (.h0 (wrap .i64 (v9 - 1)) (wrap .i64 (v10+1))))))))))) else .stuck) else (.ret [(.int .i64 v9)]))
def x1a (l0:List R7) (x1:Int) (x2:Int) (x3:Int):Xv lvlS:=(.to (.h0 0 0))
theorem w6u (l0:List R7) (x1:Int) (x2:Int) (x3:Int): ∀s,Yt prog (Zy prog 71) (lvlC l0 x1 x2 x3) (lvlC l0 x1 x2 x3 s) (z9u l0 x1 x2 x3 s)
 | .h0 v9 v10=>(lb (fun k0=>(lo fun aG=>(lb (fun k1=>(sl Qg 71 [] ⟨[],[],x1b,x1c⟩ ⟨[],[],[]⟩ (trs 27 []) (tt k1 (ww aG (tt k0 nn))))) (fun k1=>(lb (fun k2=>(sl Qg 71 [] ⟨[],[],x1b,x1c⟩ ⟨[],[],[]⟩ (bl 27 134217665) (tt k2 (tt k1 (ww aG (tt k0 nn)))))) (fun k2=>(lb (fun k3=>(sl Qg 71 [] ⟨[],[],x1b,x1c⟩ ⟨[],[],[]⟩ (bl 27 134215681) (tt k3 (tt k2 (tt k1 (ww aG (tt k0 nn))))))) (fun k3=>(lb (fun k4=>(sl Qg 71 [] ⟨[],[],x1b,x1c⟩ ⟨[],[],[]⟩ (bl 27 134152193) (tt k4 (tt k3 (tt k2 (tt k1 (ww aG (tt k0 nn)))))))) (fun k4=>(lb (fun k5=>(sl Qg 71 [] ⟨[],[],x1b,x1c⟩ ⟨[],[],[]⟩ (bl 27 132120577) (tt k5 (tt k4 (tt k3 (tt k2 (tt k1 (ww aG (tt k0 nn))))))))) (fun k5=>(lb (fun k6=>(sl Qg 71 [] ⟨[],[],x1b,x1c⟩ ⟨[],[],[]⟩ (bl 27 67108865) (tt k6 (tt k5 (tt k4 (tt k3 (tt k2 (tt k1 (ww aG (tt k0 nn)))))))))) (fun k6=>(lb (fun k7=>(sl Qg 84 [] ⟨[],[],x1b,x1c⟩ ⟨[],[],[]⟩ (bl 28 134217729) (tt k7 (tt k6 (tt k5 (tt k4 (tt k3 (tt k2 (tt k1 (ww aG (tt k0 nn))))))))))) (fun k7=>(sl Qg 84 [] ⟨[],[],x1b,x1c⟩ ⟨[],[],[]⟩ (bl 28 1) (tt k7 (tt k6 (tt k5 (tt k4 (tt k3 (tt k2 (tt k1 (ww aG (tt k0 nn)))))))))))))))))))))))))) (fun k0=>(lr 68 3 [1,1,1,1,1,1,1,0] 1 71 [(8,(ii v9))] (sl Qg 15 [] ⟨[],[],[some [8]],[]⟩ ⟨[],[],[]⟩ [false] (tt k0 nn)))))
theorem x8w (l0:List R7) (x1:Int) (x2:Int) (x3:Int):Yt prog (Zy prog 71) (lvlC l0 x1 x2 x3) (Za prog 71 [(.dat l0.length (Zz l0)),(.int .i64 x1),(.int .i64 x2),(.int .i64 x3)] true []) (x1a l0 x1 x2 x3):=(sl Qg 15 [] ⟨[],[],x1b,x1c⟩ ⟨[],[],[]⟩ [] nn)
theorem u0d (l0:List R7) (x1:Int) (x2:Int) (x3:Int) (n:Nat) (vs:List AVal) (h:Zs (z9u l0 x1 x2 x3) n (x1a l0 x1 x2 x3)=.ret vs):Jy prog (Zy prog 71) (Za prog 71 [(.dat l0.length (Zz l0)),(.int .i64 x1),(.int .i64 x2),(.int .i64 x3)] true []) vs:=by have:=Zd (w6u l0 x1 x2 x3) n _ (x8w l0 x1 x2 x3);rwa [h] at this
inductive widS where
 | h0 (v3:Int)
 | h1 (v3:Int) (v4:Int)
def widC (l0:List R7):widS→Cfg
 | .h0 v3=>⟨⟨54,0,true⟩,none,(Zb prog 21 [1,1,0,1,0,0] 0),none,(Zy prog 3),⟨Yg [(0,(.dat l0.length (Zz l0))),(3,(ii v3))],Wh [] 0,0,[],true⟩,[],.leaf⟩
 | .h1 v3 v4=>⟨⟨54,0,true⟩,none,(Zb prog 21 [1,1,0,1,0,0,1,0,0,1,0,0] 0),none,(Zy prog 3),⟨Yg [(0,(.dat l0.length (Zz l0))),(3,(ii v3)),(4,(ii v4))],Wh [] 0,0,[],true⟩,[],.leaf⟩
def widN0 :List (Option (List Nat)):=[some [0,3]]
def widM0 :List (Option (List Nat)):=[]
def widN1 :List (Option (List Nat)):=[some [0,3,4]]
def widM1 :List (Option (List Nat)):=[]
def Ky (l0:List R7):widS→Xv widS
 | .h0 v3=>(bif (decide (v3<(l0.length:Int))) then (bif (decide (v3<100)) then (.to (.h1 v3 0)) else (.ret [(.bool (decide ((l0.length:Int)>80)))])) else (.ret [(.bool (decide ((l0.length:Int)>80)))]))
 | .h1 v3 v4=>(bif (decide (v4<3)) then (bif ((decide (0≤v3∧v3<(l0.length:Int)))&&true) then (bif (decide ((y1f (Jq (rd l0 v3.toNat).b (rd l0 v3.toNat).c (rd l0 v3.toNat).d v4) (Jq (rd l0 v3.toNat).e (rd l0 v3.toNat).f (rd l0 v3.toNat).g v4))<(-16))) then (.ret [(.bool true)]) else (bif (decide ((y1p (Jq (rd l0 v3.toNat).b (rd l0 v3.toNat).c (rd l0 v3.toNat).d v4) (Jq (rd l0 v3.toNat).e (rd l0 v3.toNat).f (rd l0 v3.toNat).g v4))>16)) then (.ret [(.bool true)]) else (.to (.h1 v3 (wrap .i64 (v4+1)))))) else .stuck) else (.to (.h0 (wrap .i64 (v3+1)))))
def y1y (l0:List R7):Xv widS:=(bif (decide ((l0.length:Int)>3000)) then (.ret [(.bool (decide ((l0.length:Int)>3020)))]) else (.to (.h0 0)))
theorem w4f (l0:List R7): ∀s,Yt prog (Zy prog 21) (widC l0) (widC l0 s) (Ky l0 s)
 | .h0 v3=>(lb (fun k0=>(lb (fun k1=>(sl Qg 22 [] ⟨[],[],widN1,widM1⟩ ⟨[],[],[]⟩ (trs 3 []) (tt k1 (tt k0 nn)))) (fun k1=>(lr 54 3 [1,1,1,1,1,1,1,0] 1 3 [(2,(.bool (decide ((l0.length:Int)>80))))] (sl Qg 21 [] ⟨[],[],[some [2]],[]⟩ ⟨[],[],[]⟩ (bl 3 3) (tt k1 (tt k0 nn))))))) (fun k0=>(lr 54 3 [1,1,1,1,1,1,1,0] 1 3 [(2,(.bool (decide ((l0.length:Int)>80))))] (sl Qg 21 [] ⟨[],[],[some [2]],[]⟩ ⟨[],[],[]⟩ (bl 3 0) (tt k0 nn)))))
 | .h1 v3 v4=>(lb (fun k0=>(lo fun aG=>(lb (fun k1=>(lr 54 21 [1,1,0,1,0,0,1,0,0,1,0,0,1,0,0,1,1,0,0] 1 3 [(2,(.bool true))] (sl Qg 30 [] ⟨[],[],[some [2]],[]⟩ ⟨[],[],[]⟩ (trs 6 []) (tt k1 (ww aG (ww aG (tt k0 nn))))))) (fun k1=>(lb (fun k2=>(lr 54 21 [1,1,0,1,0,0,1,0,0,1,0,0,1,0,0,1,1,0,0] 1 3 [(2,(.bool true))] (sl Qg 30 [] ⟨[],[],[some [2]],[]⟩ ⟨[],[],[]⟩ (bl 6 33) (tt k2 (tt k1 (ww aG (ww aG (tt k0 nn)))))))) (fun k2=>(sl Qg 34 [] ⟨[],[],widN1,widM1⟩ ⟨[],[],[]⟩ (bl 6 1) (tt k2 (tt k1 (ww aG (ww aG (tt k0 nn)))))))))))) (fun k0=>(sl Qg 15 [] ⟨[],[],widN0,widM0⟩ ⟨[],[],[]⟩ [false] (tt k0 nn))))
theorem x5r (l0:List R7):Yt prog (Zy prog 21) (widC l0) (Za prog 21 [(.dat l0.length (Zz l0))] true []) (y1y l0):=(lb (fun k0=>(lr 54 21 [1,0,1,0,0] 1 3 [(2,(.bool (decide ((l0.length:Int)>3020))))] (sl Qg 19 [] ⟨[],[],[some [2]],[]⟩ ⟨[],[],[]⟩ [true] (tt k0 nn)))) (fun k0=>(sl Qg 20 [] ⟨[],[],widN0,widM0⟩ ⟨[],[],[]⟩ [false] (tt k0 nn))))
theorem v6j (l0:List R7) (n:Nat) (vs:List AVal) (h:Zs (Ky l0) n (y1y l0)=.ret vs):Jy prog (Zy prog 21) (Za prog 21 [(.dat l0.length (Zz l0))] true []) vs:=by have:=Zd (w4f l0) n _ (x5r l0);rwa [h] at this
def v8z (L:List R7):Int:=z9e L
def z1y (L:List R7):Bool:=Vv L
theorem u5h {L:List R7} (hl:L.length≤3000) (hw:Vv L=true): ∀(k i:Nat),i+k=L.length→ ∃N,Zs (z6l L) N (.to (.h0 (i:Int)))=.ret [.int .i64 (bif (L.drop i).all x5y then 0 else 8)]
 | 0,i,h=>by refine ⟨1,?_⟩;rw [Zv,At (by omega)];simp (disch:=omega) only [z6l,Yz,Aa,Zp,List.all_nil,Ab]
 | k+1,i,h=>by
  have hi:i<L.length:=by omega
  obtain ⟨N,hN⟩:=u5h hl hw k (i+1) (by omega);refine ⟨N+1,?_⟩;have ho:=Au.1 hw (rd L i) (by rw [Yo hi];exact AR hi);rw [Zv,Yj hi,List.all_cons];have e:z6l L (.h0 (i:Int))=bif !(x5y (rd L i)) then .ret [.int .i64 8] else .to (.h0 ((i+1:Nat):Int)):=by simp (disch:=omega) only [z6l,Zn,Zo,Zk,Zx,Zj,Ai,Ab,show z7i (rd L i).a (rd L i).b (rd L i).c (rd L i).d (rd L i).e (rd L i).f (rd L i).g =true from ho,show rvaV (rd L i).a (rd L i).b (rd L i).c (rd L i).d (rd L i).e (rd L i).f (rd L i).g =x5y (rd L i) from rfl]
  rw [e];cases x5y (rd L i) with
  | true=>rw [AG,Aa,hN,Al]
  | false=>rw [AK,Ab,Zp,Bx,Aa]
theorem j0n (L:List R7) (h:z1y L=true): ∃N,Zs (z6l L) N (y2z L)=.ret [.int .i64 (v8z L)]:=by
 unfold y2z v8z z9e;by_cases g:3000<L.length
 ·refine ⟨0,?_⟩;rw [Ah g,Ah (show (L.length:Int)>3000 by omega),Ab,Ab,Zp]
 ·rw [Ay g,Ay (show¬(L.length:Int)>3000 by omega),Aa,Aa];exact u5h (by omega) h L.length 0 (Ag _)
def fRc9 :List AVal→Option (AVal×Bool)
 | [a0]=>match asL R7 a0 with
  | some (L0,g0,n0)=>some (.int .i64 (v8z L0),isT R7 n0 g0&&(z1y L0))
  | _=>none
 | _=>none
theorem j3a {S:Specs} (hS:Zu prog S):Zu prog (S.with nRc9 fRc9):=by
 refine z0l hS (by kernel_rfl) fun args v h=> ?_;unfold fRc9 at h;split at h
 ·rename_i a0;split at h
  ·rename_i L0 g0 n0 e0;simp only [Ae,Ad,Ac] at h;obtain ⟨rfl,ho0,hw⟩:=h;obtain ⟨N,hN⟩:=j0n L0 hw;exact ⟨_,_,(.cons (asL_le e0 ho0) .nil),rfl,v8y L0 N _ hN,3,rfl⟩
  ·cases h
 ·cases h
def lv7 (x y z:Int) (r:R7):Int:=bif decide (r.a<4)||(decide (r.d>z)||(decide (x<r.b)||(decide (x≥r.e)||(decide (y<r.c)||decide (y≥r.f))))) then 0 else bif r.a == 5 then 1 else -1
def x5o (L:List R7) (x y z:Int):Int:=sm L (lv7 x y z)
def z8g (L:List R7) (x y z:Int):Bool:=decide (L.length≤100000)
theorem u6r {L:List R7} {x y z:Int} (hl:L.length≤100000): ∀(k i:Nat) (n:Int),i+k=L.length→ -(i:Int)≤n→n≤(i:Int)→ ∃N,Zs (z9u L x y z) N (.to (.h0 n (i:Int)))=.ret [.int .i64 (n+sm (L.drop i) (lv7 x y z))]
 | 0,i,n,h,_,_=>by refine ⟨1,?_⟩;rw [Zv,At (by omega)];simp (disch:=omega) only [z9u,Yz,Aa,Zp,u2p,Int.add_zero]
 | k+1,i,n,h,h1,h2=>by
  have hi:i<L.length:=by omega
  have hb:lv7 x y z (rd L i)=0∨lv7 x y z (rd L i)=1∨lv7 x y z (rd L i)= -1:=by
   unfold lv7;cases decide ((rd L i).a <4)||(decide ((rd L i).d >z)||(decide (x<(rd L i).b)||(decide (x≥(rd L i).e)||(decide (y<(rd L i).c)||decide (y≥(rd L i).f))))) with
   | true=>exact .inl rfl
   | false=>
    cases (rd L i).a == 5 with
    | true=>exact .inr (.inl rfl)
    | false=>exact .inr (.inr rfl)
  obtain ⟨N,hN⟩:=u6r (x:=x) (y:=y) (z:=z) hl k (i+1) (n+lv7 x y z (rd L i)) (by omega) (by omega) (by omega);refine ⟨N+1,?_⟩;rw [Zv,Yj hi,x6j,←Int.add_assoc,←hN];have w1:wrap .i64 (n+1)=n+1:=Zk (by omega);have w2:wrap .i64 (n - 1)=n - 1:=Zk (by omega)
  congr 1
  unfold lv7;simp (disch:=omega) only [z9u,Zn,Zo,Zk,Zx,Zj,Ai,Ab,w1,w2];cases decide ((rd L i).a <4) <;> cases decide ((rd L i).d >z) <;> cases decide (x<(rd L i).b) <;> cases decide (x≥(rd L i).e) <;> cases decide (y<(rd L i).c) <;> cases decide (y≥(rd L i).f) <;> cases (rd L i).a == 5 <;> simp only [Bool.or_true,Bool.or_false,BW,BF,Ab,Aa,Int.add_zero,Int.sub_eq_add_neg]
theorem j1q (L:List R7) (x y z:Int) (h:z8g L x y z=true): ∃N,Zs (z9u L x y z) N (x1a L x y z)=.ret [.int .i64 (x5o L x y z)]:=by obtain ⟨N,hN⟩:=u6r (x:=x) (y:=y) (z:=z) (AC h) L.length 0 0 (Ag _) (by omega) (by omega);refine ⟨N,?_⟩;rw [Int.zero_add] at hN;exact hN
def fLvl :List AVal→Option (AVal×Bool)
 | [a0,.int .i64 x1,.int .i64 x2,.int .i64 x3]=>match asL R7 a0 with
  | some (L0,g0,n0)=>some (.int .i64 (x5o L0 x1 x2 x3),isT R7 n0 g0&&(z8g L0 x1 x2 x3))
  | _=>none
 | _=>none
theorem j3j {S:Specs} (hS:Zu prog S):Zu prog (S.with nLvl fLvl):=by
 refine z0l hS (by kernel_rfl) fun args v h=> ?_;unfold fLvl at h;split at h
 ·rename_i a0 x1 x2 x3;split at h
  ·rename_i L0 g0 n0 e0;simp only [Ae,Ad,Ac] at h;obtain ⟨rfl,ho0,hw⟩:=h;obtain ⟨N,hN⟩:=j1q L0 x1 x2 x3 hw;exact ⟨_,_,(.cons (asL_le e0 ho0) (.cons (.refl _) (.cons (.refl _) (.cons (.refl _) .nil)))),rfl,u0d L0 x1 x2 x3 N _ hN,3,rfl⟩
  ·cases h
 ·cases h
def far3 (a b:Int):Bool:=decide (y1f a b< -16)||decide (y1p a b>16)
def far7 (r:R7):Bool:=far3 r.b r.e||(far3 r.c r.f||far3 r.d r.g)
def v6k (L:List R7):Bool:=bif decide (3000<L.length) then decide (3020<L.length) else (L.take 100).any far7||decide (80<L.length)
def z7d (L:List R7):Bool:=true
theorem w0f (n k:Nat):decide ((n:Int)>(k:Int))=decide (k<n):=Bu.2 (by omega)
theorem wid_h1 {L:List R7} (i:Nat) (hi:i<L.length) (hl:L.length≤3000): ∀N,Zs (Ky L) (N+4) (.to (.h1 (i:Int) 0))=bif far7 (rd L i) then .ret [.bool true] else Zs (Ky L) N (.to (.h0 ((i+1:Nat):Int))):=fun N=>by
 have s: ∀j:Int,0≤j→j<3→Ky L (.h1 (i:Int) j)=bif far3 (Jq (rd L i).b (rd L i).c (rd L i).d j) (Jq (rd L i).e (rd L i).f (rd L i).g j) then .ret [.bool true] else .to (.h1 (i:Int) (j+1)):=fun j h0 h3=>by unfold far3;simp (disch:=omega) only [Ky,Zn,Zo,Zk,Zj,Ai,Ab];cases decide (y1f (Jq (rd L i).b (rd L i).c (rd L i).d j) (Jq (rd L i).e (rd L i).f (rd L i).g j)< -16) <;> rfl
 have s3:Ky L (.h1 (i:Int) 3)=.to (.h0 ((i+1:Nat):Int)):=by simp (disch:=omega) only [Ky,Yz,Zk,Zx,Aa]
 unfold far7;rw [Zv,s 0 (by omega) (by omega),show Jq (rd L i).b (rd L i).c (rd L i).d 0=(rd L i).b from rfl,show Jq (rd L i).e (rd L i).f (rd L i).g 0=(rd L i).e from rfl];cases far3 (rd L i).b (rd L i).e with
 | true=>rw [Ab,Zp,BW,Ab]
 | false=>
  rw [Aa,BF,show (0:Int)+1=1 from rfl,Zv,s 1 (by omega) (by omega),show Jq (rd L i).b (rd L i).c (rd L i).d 1=(rd L i).c from rfl,show Jq (rd L i).e (rd L i).f (rd L i).g 1=(rd L i).f from rfl];cases far3 (rd L i).c (rd L i).f with
  | true=>rw [Ab,Zp,BW,Ab]
  | false=>
   rw [Aa,BF,show (1:Int)+1=2 from rfl,Zv,s 2 (by omega) (by omega),show Jq (rd L i).b (rd L i).c (rd L i).d 2=(rd L i).d from rfl,show Jq (rd L i).e (rd L i).f (rd L i).g 2=(rd L i).g from rfl];cases far3 (rd L i).d (rd L i).g with
   | true=>rw [Ab,Zp,Ab]
   | false=>rw [Aa,Aa,show (2:Int)+1=3 from rfl,Zv,s3]
theorem u2c {L:List R7} (hl:L.length≤3000): ∀(k i:Nat),i+k=L.length→ ∃N,Zs (Ky L) N (.to (.h0 (i:Int)))=.ret [.bool (((L.take 100).drop i).any far7||decide (80<L.length))]
 | 0,i,h=>by refine ⟨1,?_⟩;rw [Zv,At (by rw [A0];omega),List.any_nil,BF];simp (disch:=omega) only [Ky,Yz,Aa,Zp];rw [show (80:Int)=((80:Nat):Int) from rfl,w0f]
 | k+1,i,h=>by
  have hi:i<L.length:=by omega
  by_cases h1:i<100
  ·obtain ⟨N,hN⟩:=u2c hl k (i+1) (by omega);refine ⟨N+4+1,?_⟩;have ht:i<(L.take 100).length :=by rw [A0];omega
   have e:Ky L (.h0 (i:Int))=.to (.h1 (i:Int) 0):=by simp (disch:=omega) only [Ky,Zn,Ab]
   rw [Zv,e,wid_h1 i hi hl N,Yj ht,Ct,show rd (L.take 100) i=rd L i by rw [Yo ht,Yo hi,Bs]];cases far7 (rd L i) with
   | true=>rfl
   | false=>rw [Aa,hN,BF]
  ·refine ⟨1,?_⟩;rw [Zv,At (by rw [A0];omega),List.any_nil,BF];simp (disch:=omega) only [Ky,Zn,Yz,Ab,Aa,Zp];rw [Ah (by omega:80<L.length)]
theorem u7k (L:List R7) (h:z7d L=true): ∃N,Zs (Ky L) N (y1y L)=.ret [.bool (v6k L)]:=by
 unfold y1y v6k;rw [show (3000:Int)=((3000:Nat):Int) from rfl,show (3020:Int)=((3020:Nat):Int) from rfl,w0f,w0f];by_cases g:3000<L.length
 ·exact ⟨0,by rw [Ah g];rfl⟩
 ·rw [Ay g,Aa,Aa];exact u2c (by omega) L.length 0 (Ag _)
def j2e :List AVal→Option (AVal×Bool)
 | [a0]=>match asL R7 a0 with
  | some (L0,g0,n0)=>some (.bool (v6k L0),isT R7 n0 g0&&(z7d L0))
  | _=>none
 | _=>none
theorem u0y {S:Specs} (hS:Zu prog S):Zu prog (S.with nWid9 j2e):=by
 refine z0l hS (by kernel_rfl) fun args v h=> ?_;unfold j2e at h;split at h
 ·rename_i a0;split at h
  ·rename_i L0 g0 n0 e0;simp only [Ae,Ad,Ac] at h;obtain ⟨rfl,ho0,hw⟩:=h;obtain ⟨N,hN⟩:=u7k L0 hw;exact ⟨_,_,(.cons (asL_le e0 ho0) .nil),rfl,v6j L0 N _ hN,3,rfl⟩
  ·cases h
 ·cases h
def Pg :Specs:=((Pf.with nRc9 fRc9).with nLvl fLvl).with nWid9 j2e
theorem z3w :Zu prog Pg:=u0y (j3j (j3a Qg))
inductive rsoS where
 | h0 (v4:List Int) (v5:List Int) (v6:List Int) (v7:Int)
 | h1 (v4:List Int) (v5:List Int) (v6:List Int) (v8:List R6) (v9:Int)
 | h2 (v4:List Int) (v5:List Int) (v6:List Int) (v8:List R6) (v9:Int) (v10:Int)
 | h3 (v4:List Int) (v5:List Int) (v6:List Int) (v8:List R6) (v9:Int) (v10:Int) (v11:Int)
def rsoC (l0:List R7):rsoS→Cfg
 | .h0 v4 v5 v6 v7=>⟨⟨160,0,true⟩,none,(Zb prog 23 [1,1,1,0,1,0,0] 0),none,(Zy prog 15),⟨Yg [(0,(.dat l0.length (Zz l0))),(4,(.sla 0 1 0 v4.length (.un 1))),(5,(.sla 1 1 0 v5.length (.un 1))),(6,(.sla 2 1 0 v6.length (.un 1))),(7,(ii v7))],Wh [⟨Yx v4.length (Zz v4),3,some ⟨1,v4.length,(Zz v4)⟩⟩,⟨Yx v5.length (Zz v5),3,some ⟨1,v5.length,(Zz v5)⟩⟩,⟨Yx v6.length (Zz v6),3,some ⟨1,v6.length,(Zz v6)⟩⟩] 0,3,[],true⟩,[],.leaf⟩
 | .h1 v4 v5 v6 v8 v9=>⟨⟨160,0,true⟩,none,(Zb prog 23 [1,1,1,1,1,1,0,1,0,0] 0),none,(Zy prog 15),⟨Yg [(0,(.dat l0.length (Zz l0))),(4,(.dat v4.length (Zz v4))),(5,(.dat v5.length (Zz v5))),(6,(.dat v6.length (Zz v6))),(8,(.sla 0 6 0 v8.length (.un 6))),(9,(ii v9))],Wh [⟨Yx v8.length (Zz v8),67,some ⟨6,v8.length,(Zz v8)⟩⟩] 0,1,[],true⟩,[],.leaf⟩
 | .h2 v4 v5 v6 v8 v9 v10=>⟨⟨160,0,true⟩,none,(Zb prog 23 [1,1,1,1,1,1,0,1,0,0,1,0,0,1,0,0] 0),none,(Zy prog 15),⟨Yg [(0,(.dat l0.length (Zz l0))),(4,(.dat v4.length (Zz v4))),(5,(.dat v5.length (Zz v5))),(6,(.dat v6.length (Zz v6))),(8,(.sla 0 6 0 v8.length (.un 6))),(9,(ii v9)),(10,(ii v10))],Wh [⟨Yx v8.length (Zz v8),67,some ⟨6,v8.length,(Zz v8)⟩⟩] 0,1,[],true⟩,[],.leaf⟩
 | .h3 v4 v5 v6 v8 v9 v10 v11=>⟨⟨160,0,true⟩,none,(Zb prog 23 [1,1,1,1,1,1,0,1,0,0,1,0,0,1,0,0,1,0,0,1,0,0] 0),none,(Zy prog 15),⟨Yg [(0,(.dat l0.length (Zz l0))),(4,(.dat v4.length (Zz v4))),(5,(.dat v5.length (Zz v5))),(6,(.dat v6.length (Zz v6))),(8,(.sla 0 6 0 v8.length (.un 6))),(9,(ii v9)),(10,(ii v10)),(11,(ii v11))],Wh [⟨Yx v8.length (Zz v8),67,some ⟨6,v8.length,(Zz v8)⟩⟩] 0,1,[],true⟩,[],.leaf⟩
def rsoN0 :List (Option (List Nat)):=[some [0,4,5,6,7]]
def rsoM0 :List (Option (List Nat)):=[]
def rsoN1 :List (Option (List Nat)):=[some [0,4,5,6,8,9]]
def rsoM1 :List (Option (List Nat)):=[]
def rsoN2 :List (Option (List Nat)):=[some [0,4,5,6,8,9,10]]
def rsoM2 :List (Option (List Nat)):=[]
def u9b :List (Option (List Nat)):=[some [0,4,5,6,8,9,10,11]]
def u9c :List (Option (List Nat)):=[]
def Wa (l0:List R7):rsoS→Xv rsoS
 | .h0 v4 v5 v6 v7=>(bif (decide (v7<(l0.length:Int))) then (bif (Nat.beq 1 1&&((decide (0+v4.length=v4.length))&&decide ((v4.length+2+1)*(8+1)≤Uw))) then (bif (Nat.beq 1 1&&((decide (0+v5.length=v5.length))&&decide ((v5.length+2+1)*(8+1)≤Uw))) then (bif ((decide (0≤v7∧v7<(l0.length:Int)))&&true) then (bif (Nat.beq 1 1&&((decide (0+v6.length=v6.length))&&decide ((v6.length+2+1)*(8+1)≤Uw))) then (.to (.h0 (v4++[(rd l0 v7.toNat).b,(rd l0 v7.toNat).e]) (v5++[(rd l0 v7.toNat).c,(rd l0 v7.toNat).f]) (v6++[(rd l0 v7.toNat).d,(rd l0 v7.toNat).g]) (wrap .i64 (v7+1)))) else .stuck) else .stuck) else .stuck) else .stuck) else (bif (Wu (cvT v4)) then (bif (Wu (cvT v5)) then (bif (Wu (cvT v6)) then (.to (.h1 (Un (cvT v4)) (Un (cvT v5)) (Un (cvT v6)) ([]:List R6) 0)) else .stuck) else .stuck) else .stuck))
 | .h1 v4 v5 v6 v8 v9=>(bif (decide ((wrap .i64 (v9+1))<(v4.length:Int))) then (.to (.h2 v4 v5 v6 v8 v9 0)) else (bif (z3f 2 (cvT v8) ([]:List R6)) then (bif (!(z2f 2 (cvT v8) ([]:List R6))) then (.ret [.nils,(.int .i64 28)]) else (bif (z7o (cvT (Xe 2 (cvT v8) ([]:List R6)))) then (bif (z7l (cvT (y6z (cvT (Xe 2 (cvT v8) ([]:List R6))))) (cvT l0)) then (bif (!(u8z (cvT (y6z (cvT (Xe 2 (cvT v8) ([]:List R6))))) (cvT l0))) then (.ret [.nils,(.int .i64 28)]) else (.ret [(.dat (Xe 2 (cvT v8) ([]:List R6)).length (Zz (Xe 2 (cvT v8) ([]:List R6)))),(.int .i64 0)])) else .stuck) else .stuck)) else .stuck))
 | .h2 v4 v5 v6 v8 v9 v10=>(bif (decide ((wrap .i64 (v10+1))<(v5.length:Int))) then (.to (.h3 v4 v5 v6 v8 v9 v10 0)) else (.to (.h1 v4 v5 v6 v8 (wrap .i64 (v9+1)))))
 | .h3 v4 v5 v6 v8 v9 v10 v11=>(bif (decide ((wrap .i64 (v11+1))<(v6.length:Int))) then (bif ((decide (0≤v9∧v9<(v4.length:Int)))&&true) then (bif ((decide (0≤v10∧v10<(v5.length:Int)))&&true) then (bif ((decide (0≤v11∧v11<(v6.length:Int)))&&true) then (bif (z8g (cvT l0) (rd v4 v9.toNat) (rd v5 v10.toNat) (rd v6 v11.toNat)) then (bif ((x5o (cvT l0) (rd v4 v9.toNat) (rd v5 v10.toNat) (rd v6 v11.toNat)) == 1) then (bif ((decide (0≤(wrap .i64 (v9+1))∧(wrap .i64 (v9+1))<(v4.length:Int)))&&true) then (bif ((decide (0≤(wrap .i64 (v10+1))∧(wrap .i64 (v10+1))<(v5.length:Int)))&&true) then (bif ((decide (0≤(wrap .i64 (v11+1))∧(wrap .i64 (v11+1))<(v6.length:Int)))&&true) then (bif (Nat.beq 6 6&&((decide (0+v8.length=v8.length))&&decide ((v8.length+1+1)*(48+1)≤Uw))) then (.to (.h3 v4 v5 v6 (v8++[(R6.mk (rd v4 v9.toNat) (rd v5 v10.toNat) (rd v6 v11.toNat) (rd v4 (Int.toNat (wrap .i64 (v9+1)))) (rd v5 (Int.toNat (wrap .i64 (v10+1)))) (rd v6 (Int.toNat (wrap .i64 (v11+1)))))]) v9 v10 (wrap .i64 (v11+1)))) else .stuck) else .stuck) else .stuck) else .stuck) else (.to (.h3 v4 v5 v6 v8 v9 v10 (wrap .i64 (v11+1))))) else .stuck) else .stuck) else .stuck) else .stuck) else (.to (.h2 v4 v5 v6 v8 v9 (wrap .i64 (v10+1)))))
def y2m (l0:List R7):Xv rsoS:=(bif (z1y (cvT l0)) then (bif ((v8z (cvT l0)) != 0) then (.ret [.nils,(.int .i64 (v8z (cvT l0)))]) else (.to (.h0 ([]:List Int) ([]:List Int) ([]:List Int) 0))) else .stuck)
theorem w5k (l0:List R7): ∀s,Yt prog (Zy prog 23) (rsoC l0) (rsoC l0 s) (Wa l0 s)
 | .h0 v4 v5 v6 v7=>(lb (fun k0=>(lo fun o0=>(lo fun o1=>(lo fun o2=>(lo fun o3=>(sl z3w 24 [] ⟨[4,6,8],[],rsoN0,rsoM0⟩ ⟨[(4,.len (v4++[(rd l0 (tn v7)).b,(rd l0 (tn v7)).e]).length),(5,.len (v5++[(rd l0 (tn v7)).c,(rd l0 (tn v7)).f]).length),(6,.len (v6++[(rd l0 (tn v7)).d,(rd l0 (tn v7)).g]).length)],[.rowed 1 (v4++[(rd l0 (tn v7)).b,(rd l0 (tn v7)).e]).length (Zz (v4++[(rd l0 (tn v7)).b,(rd l0 (tn v7)).e])),.rowed 1 (v5++[(rd l0 (tn v7)).c,(rd l0 (tn v7)).f]).length (Zz (v5++[(rd l0 (tn v7)).c,(rd l0 (tn v7)).f])),.rowed 1 (v6++[(rd l0 (tn v7)).d,(rd l0 (tn v7)).g]).length (Zz (v6++[(rd l0 (tn v7)).d,(rd l0 (tn v7)).g]))],[]⟩ [true] (pp (xL (v4.length+2) (v4++[(rd l0 (tn v7)).b,(rd l0 (tn v7)).e]).length) (pp (xL (v5.length+2) (v5++[(rd l0 (tn v7)).c,(rd l0 (tn v7)).f]).length) (pp (xL (v6.length+2) (v6++[(rd l0 (tn v7)).d,(rd l0 (tn v7)).g]).length) (pp (xL (v4.length+2) (v4++[(rd l0 (tn v7)).b,(rd l0 (tn v7)).e]).length) (pp (xS (v4.length+2) (Ze (Zz v4) 0 v4.length 1 [(ii (rd l0 (tn v7)).b),(ii (rd l0 (tn v7)).e)]) (Zz (v4++[(rd l0 (tn v7)).b,(rd l0 (tn v7)).e]))) (pp (xL (v5.length+2) (v5++[(rd l0 (tn v7)).c,(rd l0 (tn v7)).f]).length) (pp (xS (v5.length+2) (Ze (Zz v5) 0 v5.length 1 [(ii (rd l0 (tn v7)).c),(ii (rd l0 (tn v7)).f)]) (Zz (v5++[(rd l0 (tn v7)).c,(rd l0 (tn v7)).f]))) (pp (xL (v6.length+2) (v6++[(rd l0 (tn v7)).d,(rd l0 (tn v7)).g]).length) (pp (xS (v6.length+2) (Ze (Zz v6) 0 v6.length 1 [(ii (rd l0 (tn v7)).d),(ii (rd l0 (tn v7)).g)]) (Zz (v6++[(rd l0 (tn v7)).d,(rd l0 (tn v7)).g]))) (pp (pp (xF (Ze (Zz v4) 0 v4.length 1 [(ii (rd l0 (tn v7)).b),(ii (rd l0 (tn v7)).e)])) (pp (xF (Ze (Zz v5) 0 v5.length 1 [(ii (rd l0 (tn v7)).c),(ii (rd l0 (tn v7)).f)])) (pp (xF (Ze (Zz v6) 0 v6.length 1 [(ii (rd l0 (tn v7)).d),(ii (rd l0 (tn v7)).g)])) nn))) (ww o3 (ww o2 (ww o2 (ww o1 (ww o2 (ww o2 (ww o0 (ww o2 (ww o2 (tt k0 nn)))))))))))))))))))))))))) (fun k0=>(Xb (sl z3w (C':=⟨⟨160,0,true⟩,(Uv prog 23 [1,1,1,1,0] 1),(Zb prog 23 [1,1,1,1,0] 1),none,(Zy prog 15),⟨Yg [(0,(.dat l0.length (Zz l0))),(5,(.sla 0 1 0 v5.length (.un 1))),(6,(.sla 1 1 0 v6.length (.un 1))),(70,(.dat v4.length (Zz v4)))],Wh [⟨Yx v5.length (Zz v5),3,some ⟨1,v5.length,(Zz v5)⟩⟩,⟨Yx v6.length (Zz v6),3,some ⟨1,v6.length,(Zz v6)⟩⟩] 0,2,[],true⟩,[],.leaf⟩) 13 [] ⟨[1,2],[0],[some [0,5,6,70]],[]⟩ ⟨[(70,.frz v4.length v4.length (Zz v4) (Zz v4))],[],[]⟩ [false] (pp (xZ (z1p 1 1 0 v4.length v4.length (Zz v4)) v4.length (Zz v4)) (pp (xL v4.length v4.length) (pp (xS v4.length (Zz v4) (Zz v4)) (pp (fl v5 (fl v6 nn)) (pp (fl v4 nn) (tt k0 nn))))))) (lo fun q1_0=>(Xb (sl z3w (C':=⟨⟨160,0,true⟩,(Uv prog 23 [1,1,1,1,0] 3),(Zb prog 23 [1,1,1,1,0] 1),none,(Zy prog 15),⟨Yg [(0,(.dat l0.length (Zz l0))),(6,(.sla 0 1 0 v6.length (.un 1))),(71,(.dat (Un (cvT v4)).length (Zz (Un (cvT v4))))),(72,(.dat v5.length (Zz v5)))],Wh [⟨Yx v6.length (Zz v6),3,some ⟨1,v6.length,(Zz v6)⟩⟩] 0,1,[],true⟩,[],.leaf⟩) 2 [] ⟨[1],[0],[some [0,6,71,72]],[]⟩ ⟨[(72,.frz v5.length v5.length (Zz v5) (Zz v5))],[],[]⟩ [] (pp (xZ (z1p 1 1 0 v5.length v5.length (Zz v5)) v5.length (Zz v5)) (pp (xL v5.length v5.length) (pp (xS v5.length (Zz v5) (Zz v5)) (pp (fl v6 nn) (pp (fl v5 nn) (pp (pp (xr v4) (xw q1_0)) nn))))))) (lo fun q1_0=>(Xb (sl z3w (C':=⟨⟨160,0,true⟩,(Uv prog 23 [1,1,1,1,0] 5),(Zb prog 23 [1,1,1,1,0] 1),none,(Zy prog 15),⟨Yg [(0,(.dat l0.length (Zz l0))),(71,(.dat (Un (cvT v4)).length (Zz (Un (cvT v4))))),(73,(.dat (Un (cvT v5)).length (Zz (Un (cvT v5))))),(74,(.dat v6.length (Zz v6)))],Wh [] 0,0,[],true⟩,[],.leaf⟩) 2 [] ⟨[],[0],[some [0,71,73,74]],[]⟩ ⟨[(74,.frz v6.length v6.length (Zz v6) (Zz v6))],[],[]⟩ [] (pp (xZ (z1p 1 1 0 v6.length v6.length (Zz v6)) v6.length (Zz v6)) (pp (xL v6.length v6.length) (pp (xS v6.length (Zz v6) (Zz v6)) (pp (fl v6 nn) (pp (pp (xr v5) (xw q1_0)) nn)))))) (lo fun o0=>(sl z3w 16 [(67,6,Zz ([]:List R6))] ⟨[0],[],rsoN1,rsoM1⟩ ⟨[(8,.grow 0 6)],[],[]⟩ [] (pp (fl ([]:List R6) nn) (pp (pp (xr v6) (xw o0)) nn)))))))))))
 | .h1 v4 v5 v6 v8 v9=>(lb (fun k0=>(sl z3w 19 [] ⟨[0],[],rsoN2,rsoM2⟩ ⟨[],[],[]⟩ [true] (pp (fl v8 nn) (tt k0 nn)))) (fun k0=>(Xb (sl z3w (C':=⟨⟨160,0,true⟩,(Uv prog 23 [1,1,1,1,1,1,1,0] 1),(Zb prog 23 [1,1,1,1,1,1,1,0] 1),none,(Zy prog 15),⟨Yg [(0,(.dat l0.length (Zz l0))),(146,(.dat v8.length (Zz v8)))],Wh [] 0,0,[],true⟩,[],.leaf⟩) 14 [] ⟨[],[0],[some [0,146]],[]⟩ ⟨[(146,.frz v8.length v8.length (Zz v8) (Zz v8))],[],[]⟩ [false] (pp (xZ (z1p 6 6 0 v8.length v8.length (Zz v8)) v8.length (Zz v8)) (pp (xL v8.length v8.length) (pp (xS v8.length (Zz v8) (Zz v8)) (pp (fl v8 nn) (tt k0 nn)))))) (lo fun aG=>(lb (fun k1=>(lr 160 23 [1,1,1,1,1,1,1,1,0,1,0,0] 1 15 [(2,.nils),(3,(ii 28))] (sl z3w 26 [] ⟨[],[],[some [2,3]],[]⟩ ⟨[],[],[]⟩ (trs 6 []) (tt k1 (pp (pp (xr v8) (pp (xI R6 0 (fun _=>[])) (xw aG))) nn))))) (fun k1=>(lo fun bW=>(lo fun cO=>(lb (fun k2=>(lr 160 23 [1,1,1,1,1,1,1,1,0,1,0,0] 1 15 [(2,.nils),(3,(ii 28))] (sl z3w 26 [] ⟨[],[],[some [2,3]],[]⟩ ⟨[],[],[]⟩ (bl 6 32) (tt k2 (pp (pp (xI R7 (y6z (cvT (Xe 2 (cvT v8) ([]:List R6)))).length (Zz (y6z (cvT (Xe 2 (cvT v8) ([]:List R6)))))) (pp (xr l0) (xw cO))) (pp (pp (xI R6 (Xe 2 (cvT v8) ([]:List R6)).length (Zz (Xe 2 (cvT v8) ([]:List R6)))) (xw bW)) (tt k1 (pp (pp (xr v8) (pp (xI R6 0 (fun _=>[])) (xw aG))) nn)))))))) (fun k2=>(lr 160 3 [1,1,1,1,1,1,1,0] 1 15 [(2,(.dat (Xe 2 (cvT v8) ([]:List R6)).length (Zz (Xe 2 (cvT v8) ([]:List R6))))),(3,(ii 0))] (sl z3w 28 [] ⟨[],[],[some [2,3]],[]⟩ ⟨[],[],[]⟩ (bl 6 0) (tt k2 (pp (pp (xI R7 (y6z (cvT (Xe 2 (cvT v8) ([]:List R6)))).length (Zz (y6z (cvT (Xe 2 (cvT v8) ([]:List R6)))))) (pp (xr l0) (xw cO))) (pp (pp (xI R6 (Xe 2 (cvT v8) ([]:List R6)).length (Zz (Xe 2 (cvT v8) ([]:List R6)))) (xw bW)) (tt k1 (pp (pp (xr v8) (pp (xI R6 0 (fun _=>[])) (xw aG))) nn)))))))))))))))))
 | .h2 v4 v5 v6 v8 v9 v10=>(lb (fun k0=>(sl z3w 19 [] ⟨[0],[],u9b,u9c⟩ ⟨[],[],[]⟩ [true] (pp (fl v8 nn) (tt k0 nn)))) (fun k0=>(sl z3w 18 [] ⟨[0],[],rsoN1,rsoM1⟩ ⟨[],[],[]⟩ [false] (pp (fl v8 nn) (tt k0 nn)))))
 | .h3 v4 v5 v6 v8 v9 v10 v11=>(lb (fun k0=>(lo fun aG=>(lo fun aU=>(lo fun bR=>(lo fun cL=>(lb (fun k1=>(lo fun o0=>(lo fun o1=>(lo fun o2=>(lo fun o3=>(sl z3w 24 [] ⟨[2],[],u9b,u9c⟩ ⟨[(8,.len (v8++[(R6.mk (rd v4 (tn v9)) (rd v5 (tn v10)) (rd v6 (tn v11)) (rd v4 (tn (wr (v9+1)))) (rd v5 (tn (wr (v10+1)))) (rd v6 (tn (wr (v11+1)))))]).length)],[.rowed 6 (v8++[(R6.mk (rd v4 (tn v9)) (rd v5 (tn v10)) (rd v6 (tn v11)) (rd v4 (tn (wr (v9+1)))) (rd v5 (tn (wr (v10+1)))) (rd v6 (tn (wr (v11+1)))))]).length (Zz (v8++[(R6.mk (rd v4 (tn v9)) (rd v5 (tn v10)) (rd v6 (tn v11)) (rd v4 (tn (wr (v9+1)))) (rd v5 (tn (wr (v10+1)))) (rd v6 (tn (wr (v11+1)))))]))],[]⟩ (bl 2 3) (pp (xL (v8.length+1) (v8++[(R6.mk (rd v4 (tn v9)) (rd v5 (tn v10)) (rd v6 (tn v11)) (rd v4 (tn (wr (v9+1)))) (rd v5 (tn (wr (v10+1)))) (rd v6 (tn (wr (v11+1)))))]).length) (pp (xL (v8.length+1) (v8++[(R6.mk (rd v4 (tn v9)) (rd v5 (tn v10)) (rd v6 (tn v11)) (rd v4 (tn (wr (v9+1)))) (rd v5 (tn (wr (v10+1)))) (rd v6 (tn (wr (v11+1)))))]).length) (pp (xS (v8.length+1) (Ze (Zz v8) 0 v8.length 6 [(ii (rd v4 (tn v9))),(ii (rd v5 (tn v10))),(ii (rd v6 (tn v11))),(ii (rd v4 (tn (wr (v9+1))))),(ii (rd v5 (tn (wr (v10+1))))),(ii (rd v6 (tn (wr (v11+1)))))]) (Zz (v8++[(R6.mk (rd v4 (tn v9)) (rd v5 (tn v10)) (rd v6 (tn v11)) (rd v4 (tn (wr (v9+1)))) (rd v5 (tn (wr (v10+1)))) (rd v6 (tn (wr (v11+1)))))]))) (pp (pp (xF (Ze (Zz v8) 0 v8.length 6 [(ii (rd v4 (tn v9))),(ii (rd v5 (tn v10))),(ii (rd v6 (tn v11))),(ii (rd v4 (tn (wr (v9+1))))),(ii (rd v5 (tn (wr (v10+1))))),(ii (rd v6 (tn (wr (v11+1)))))])) nn) (ww o3 (ww o2 (ww o1 (ww o0 (ww bR (ww aU (ww aG (tt k1 (pp (pp (xr l0) (xw cL)) (ww bR (ww aU (ww aG (tt k0 nn))))))))))))))))))))))) (fun k1=>(sl z3w 24 [] ⟨[0],[],u9b,u9c⟩ ⟨[],[],[]⟩ (bl 2 1) (pp (fl v8 nn) (tt k1 (pp (pp (xr l0) (xw cL)) (ww bR (ww aU (ww aG (tt k0 nn))))))))))))))) (fun k0=>(sl z3w 18 [] ⟨[0],[],rsoN2,rsoM2⟩ ⟨[],[],[]⟩ [false] (pp (fl v8 nn) (tt k0 nn)))))
theorem x6z (l0:List R7):Yt prog (Zy prog 23) (rsoC l0) (Za prog 23 [(.dat l0.length (Zz l0))] true []) (y2m l0):=(lo fun bZ=>(lb (fun k0=>(lr 160 23 [1,0,1,0,0] 1 15 [(2,.nils),(3,(ii (v8z (cvT l0))))] (sl z3w 20 [] ⟨[],[],[some [2,3]],[]⟩ ⟨[],[],[]⟩ [true] (pp (pp (xr l0) (xw bZ)) (tt k0 (pp (pp (xr l0) (xw bZ)) nn)))))) (fun k0=>(sl z3w 27 [(3,1,Zz ([]:List Int)),(3,1,Zz ([]:List Int)),(3,1,Zz ([]:List Int))] ⟨[0,1,2],[],rsoN0,rsoM0⟩ ⟨[(4,.grow 0 1),(5,.grow 1 1),(6,.grow 2 1)],[],[]⟩ [false] (pp (fl ([]:List Int) (fl ([]:List Int) (fl ([]:List Int) nn))) (tt k0 (pp (pp (xr l0) (xw bZ)) nn)))))))
theorem v7q (l0:List R7) (n:Nat) (vs:List AVal) (h:Zs (Wa l0) n (y2m l0)=.ret vs):Jy prog (Zy prog 23) (Za prog 23 [(.dat l0.length (Zz l0))] true []) vs:=by have:=Zd (w5k l0) n _ (x6z l0);rwa [h] at this
abbrev nRso :Nat:=23
def cel (xs ys zs:List Int) (i k n:Nat):R6:=⟨rd xs i,rd ys k,rd zs n,rd xs (i+1),rd ys (k+1),rd zs (n+1)⟩
def cZ (L:List R7) (xs ys zs:List Int) (i k:Nat):Nat→Nat→List R6
 | 0,_=>[]
 | m+1,n=>(bif x5o L (rd xs i) (rd ys k) (rd zs n) == 1 then [cel xs ys zs i k n] else [])++cZ L xs ys zs i k m (n+1)
def cY (L:List R7) (xs ys zs:List Int) (i:Nat):Nat→Nat→List R6
 | 0,_=>[]
 | m+1,k=>cZ L xs ys zs i k (zs.length - 1) 0++cY L xs ys zs i m (k+1)
def cX (L:List R7) (xs ys zs:List Int):Nat→Nat→List R6
 | 0,_=>[]
 | m+1,i=>cY L xs ys zs i (ys.length - 1) 0++cX L xs ys zs m (i+1)
theorem w3w (L:List R7) (xs ys zs:List Int) (i k:Nat): ∀m n,(cZ L xs ys zs i k m n).length ≤m
 | 0,_=>AA _
 | m+1,n=>by
  have h:=w3w L xs ys zs i k m (n+1);unfold cZ;rw [Ar];cases x5o L (rd xs i) (rd ys k) (rd zs n) == 1
  ·rw [Aa,Bq];omega
  ·rw [Ab,Bl];omega
theorem u7c (L:List R7) (xs ys zs:List Int) (hz:zs.length≤40) (i:Nat): ∀m k,(cY L xs ys zs i m k).length ≤40*m
 | 0,_=>AA _
 | m+1,k=>by have h:=u7c L xs ys zs hz i m (k+1);have h2:=w3w L xs ys zs i k (zs.length - 1) 0;unfold cY;rw [Ar];omega
def xsQ (L:List R7):List Int:=L.flatMap fun r=>[r.b,r.e]
def ysQ (L:List R7):List Int:=L.flatMap fun r=>[r.c,r.f]
def zeQ (L:List R7):List Int:=L.flatMap fun r=>[r.d,r.g]
def Qn (L:List R7):List R6:=cX L (Un (xsQ L)) (Un (ysQ L)) (Un (zeQ L)) ((Un (xsQ L)).length - 1) 0
def w5m (L:List R7) (B:List R6):Int:=bif !(z2f 2 B []) then 28 else bif !(u8z (y6z (Xe 2 B [])) L) then 28 else 0
def y0x (L:List R7):Int:=bif z9e L != 0 then z9e L else w5m L (Qn L)
def z5u (L:List R7):List R6:=y6t (y0x L) (Xe 2 (Qn L) [])
def rsoO (L:List R7):Prop:=((Un (xsQ L)).length ≤40∧(Un (ysQ L)).length ≤40∧(Un (zeQ L)).length ≤40)∧jsZ (Qn L)∧(z2f 2 (Qn L) []=true→v6h (Xe 2 (Qn L) [])∧(y6z (Xe 2 (Qn L) [])).length ≤1000000)
def z4d (L:List R7):Bool:=Vv L&&pd (z9e L=0→rsoO L)
section
variable (L:List R7) (hl:L.length≤3000) (xs ys zs:List Int) (hx:xs.length≤40) (hy:ys.length≤40) (hz:zs.length≤40)
include hl hx hy hz
theorem u3p (i k:Nat) (hi:i+1<xs.length) (hk:k+1<ys.length): ∀(m n:Nat) (out:List R6),m=zs.length - 1 - n→n≤40→out.length≤1000000+n→
  ∃s,∀N,Zs (Wa L) (N+s) (.to (.h3 xs ys zs out (i:Int) (k:Int) (n:Int)))=Zs (Wa L) N (.to (.h2 xs ys zs (out++cZ L xs ys zs i k m n) (i:Int) ((k+1:Nat):Int)))
 | 0,n,out,h,hn,ho=>by
  refine ⟨1,fun N=> ?_⟩;rw [Zv];show _=Zs (Wa L) N (.to (.h2 xs ys zs (out++[]) (i:Int) ((k+1:Nat):Int)));rw [Az];have w:wrap .i64 ((n:Int)+1)=((n+1:Nat):Int):=by rw [Zk (by omega)];rfl
  have wk:wrap .i64 ((k:Int)+1)=((k+1:Nat):Int):=by rw [Zk (by omega)];rfl
  have g:decide (((n+1:Nat):Int)<(zs.length:Int))=false:=Ay (by omega);simp only [Wa,w,wk,g,Aa]
 | m+1,n,out,h,hn,ho=>by
  have hz1:n+1<zs.length:=by omega
  have hc:(bif x5o L (rd xs i) (rd ys k) (rd zs n) == 1 then [cel xs ys zs i k n] else []).length ≤1:=by
   cases x5o L (rd xs i) (rd ys k) (rd zs n) == 1
   ·exact AA _
   ·exact Ao _
  obtain ⟨s,hs⟩:=u3p i k hi hk m (n+1) (out++(bif x5o L (rd xs i) (rd ys k) (rd zs n) == 1 then [cel xs ys zs i k n] else [])) (by omega) (by omega) (by rw [Ar];omega);refine ⟨s+1,fun N=> ?_⟩;have hs:=hs N;rw [←AD,Zv];show _=Zs (Wa L) N (.to (.h2 xs ys zs (out++(_++cZ L xs ys zs i k m (n+1))) (i:Int) ((k+1:Nat):Int)));rw [←AH,←hs]
  congr 1
  have w:wrap .i64 ((n:Int)+1)=((n+1:Nat):Int):=by rw [Zk (by omega)];rfl
  have wk:wrap .i64 ((k:Int)+1)=((k+1:Nat):Int):=by rw [Zk (by omega)];rfl
  have wi:wrap .i64 ((i:Int)+1)=((i+1:Nat):Int):=by rw [Zk (by omega)];rfl
  have g:decide (((n+1:Nat):Int)<(zs.length:Int))=true:=Ah (by omega);have a1:decide (0≤(i:Int)∧(i:Int)<(xs.length:Int))=true:=Ah (by omega);have a2:decide (0≤(k:Int)∧(k:Int)<(ys.length:Int))=true:=Ah (by omega);have a3:decide (0≤(n:Int)∧(n:Int)<(zs.length:Int))=true:=Ah (by omega);have a4:decide (0≤((i+1:Nat):Int)∧((i+1:Nat):Int)<(xs.length:Int))=true:=Ah (by omega);have a5:decide (0≤((k+1:Nat):Int)∧((k+1:Nat):Int)<(ys.length:Int))=true:=Ah (by omega);have a6:decide (0≤((n+1:Nat):Int)∧((n+1:Nat):Int)<(zs.length:Int))=true:=Ah (by omega);have o: ∀x y z,z8g L x y z=true:=fun x y z=>Ah (by omega);have m1:decide (0+out.length=out.length)=true:=Ah (by omega);have r1:decide ((out.length+1+1)*(48+1)≤Uw)=true:=Zf (by omega);have b6:Nat.beq 6 6=true:=rfl;simp only [Wa,Zg,w,wk,wi,g,a1,a2,a3,a4,a5,a6,o,m1,r1,b6,Zj,Ai,Al,Ab];rcases Yd (x5o L (rd xs i) (rd ys k) (rd zs n) == 1) with e | e <;> rw [e]
  ·rfl
  ·rw [Aa,Aa,Az]
theorem u3q (i:Nat) (hi:i+1<xs.length): ∀(m k:Nat) (out:List R6),m=ys.length - 1 - k→k≤40→out.length≤500000+40*k→
  ∃s,∀N,Zs (Wa L) (N+s) (.to (.h2 xs ys zs out (i:Int) (k:Int)))=Zs (Wa L) N (.to (.h1 xs ys zs (out++cY L xs ys zs i m k) ((i+1:Nat):Int)))
 | 0,k,out,h,hk,ho=>by
  refine ⟨1,fun N=> ?_⟩;rw [Zv];show _=Zs (Wa L) N (.to (.h1 xs ys zs (out++[]) ((i+1:Nat):Int)));rw [Az];have wk:wrap .i64 ((k:Int)+1)=((k+1:Nat):Int):=by rw [Zk (by omega)];rfl
  have wi:wrap .i64 ((i:Int)+1)=((i+1:Nat):Int):=by rw [Zk (by omega)];rfl
  have g:decide (((k+1:Nat):Int)<(ys.length:Int))=false:=Ay (by omega);simp only [Wa,wk,wi,g,Aa]
 | m+1,k,out,h,hk,ho=>by
  have hk1:k+1<ys.length:=by omega
  have hc:=w3w L xs ys zs i k (zs.length - 1) 0;obtain ⟨s,hs⟩:=u3q i hi m (k+1) (out++cZ L xs ys zs i k (zs.length - 1) 0) (by omega) (by omega) (by rw [Ar];omega);obtain ⟨t,ht⟩:=u3p L hl xs ys zs hx hy hz i k hi hk1 (zs.length - 1) 0 out rfl (by omega) (by omega);refine ⟨s+t+1,fun N=> ?_⟩;have hs:=hs N;have ht:=ht (N+s);rw [Qo] at ht;rw [show N+(s+t+1)=(N+s+t)+1 by omega,Zv];have wk:wrap .i64 ((k:Int)+1)=((k+1:Nat):Int):=by rw [Zk (by omega)];rfl
  have g:decide (((k+1:Nat):Int)<(ys.length:Int))=true:=Ah (by omega);have e:Wa L (.h2 xs ys zs out (i:Int) (k:Int))=.to (.h3 xs ys zs out (i:Int) (k:Int) 0):=by simp only [Wa,wk,g,Ab]
  rw [e,ht,hs,AH];rfl
theorem u3r : ∀(m i:Nat) (out:List R6),m=xs.length - 1 - i→i≤40→out.length≤1600*i→jsZ (out++cX L xs ys zs m i)→
  (z2f 2 (out++cX L xs ys zs m i) []=true→v6h (Xe 2 (out++cX L xs ys zs m i) [])∧(y6z (Xe 2 (out++cX L xs ys zs m i) [])).length ≤1000000)→
  ∃s,Zs (Wa L) s (.to (.h1 xs ys zs out (i:Int)))=.ret (y1a (w5m L (out++cX L xs ys zs m i)) (Xe 2 (out++cX L xs ys zs m i) []))
 | 0,i,out,h,hi,ho,h1,h2=>by
  rw [show out++cX L xs ys zs 0 i=out from Az _] at h1 h2 ⊢;refine ⟨1,?_⟩;rw [Zv];have wi:wrap .i64 ((i:Int)+1)=((i+1:Nat):Int):=by rw [Zk (by omega)];rfl
  have g:decide (((i+1:Nat):Int)<(xs.length:Int))=false:=Ay (by omega);have o1:z3f 2 out []=true:=pd_true ⟨h1,v3c (AA _)⟩;unfold w5m;rcases Yd (z2f 2 out []) with e | e
  ·obtain ⟨k1,k2⟩:=h2 e;have o2:z7o (Xe 2 out [])=true:=pd_true k1;have o3:z7l (y6z (Xe 2 out [])) L=true:=Ah k2;rcases Yd (u8z (y6z (Xe 2 out [])) L) with e2 | e2
   ·simp only [Wa,Zg,wi,g,o1,o2,o3,e,e2,AG,AK,Ab,Aa,Zp];rfl
   ·simp only [Wa,Zg,wi,g,o1,o2,o3,e,e2,AG,AK,Ab,Aa,Zp];rfl
  ·simp only [Wa,Zg,wi,g,o1,e,AG,AK,Ab,Aa,Zp];rfl
 | m+1,i,out,h,hi,ho,h1,h2=>by
  have hi1:i+1<xs.length:=by omega
  have hc:=u7c L xs ys zs hz i (ys.length - 1) 0;have ea:out++cX L xs ys zs (m+1) i=(out++cY L xs ys zs i (ys.length - 1) 0)++cX L xs ys zs m (i+1):=(AH _ _ _).symm;rw [ea] at h1 h2 ⊢;obtain ⟨s,hs⟩:=u3r m (i+1) (out++cY L xs ys zs i (ys.length - 1) 0) (by omega) (by omega) (by rw [Ar];omega) h1 h2;obtain ⟨t,ht⟩:=u3q L hl xs ys zs hx hy hz i hi1 (ys.length - 1) 0 out rfl (by omega) (by omega);refine ⟨s+t+1,?_⟩;have ht:=ht s;rw [Qo] at ht;rw [Zv];have wi:wrap .i64 ((i:Int)+1)=((i+1:Nat):Int):=by rw [Zk (by omega)];rfl
  have g:decide (((i+1:Nat):Int)<(xs.length:Int))=true:=Ah (by omega);have e:Wa L (.h1 xs ys zs out (i:Int))=.to (.h2 xs ys zs out (i:Int) 0):=by simp only [Wa,wi,g,Ab]
  rw [e,ht,hs]
end
theorem x3o (f g:R7→Int): ∀L:List R7,(L.flatMap fun r=>[f r,g r]).length =2*L.length
 | []=>rfl
 | r::L=>by have h:=x3o f g L;rw [Be,Ar,h];simp only [AW,Bq];omega
theorem x8e (f g:R7→Int) (L:List R7) {i:Nat} (hi:i<L.length):((L.take (i+1)).flatMap fun r=>[f r,g r])=((L.take i).flatMap fun r=>[f r,g r])++[f (rd L i),g (rd L i)]:=by rw [A9,Aq hi,Bt,Yo hi];rfl
theorem u3s (L:List R7) (hl:L.length≤3000) (hw:rsoO L): ∀(k i:Nat),i+k=L.length→
  ∃s,Zs (Wa L) s (.to (.h0 (xsQ (L.take i)) (ysQ (L.take i)) (zeQ (L.take i)) (i:Int)))=.ret (y1a (w5m L (Qn L)) (Xe 2 (Qn L) []))
 | 0,i,h=>by
  obtain ⟨⟨hx,hy,hz⟩,h1,h2⟩:=hw;obtain ⟨s,hs⟩:=u3r L hl (Un (xsQ L)) (Un (ysQ L)) (Un (zeQ L)) hx hy hz ((Un (xsQ L)).length - 1) 0 [] rfl (by omega) (AA _) h1 h2;refine ⟨s+1,?_⟩;rw [AP (by omega),Zv];have g:decide ((i:Int)<(L.length:Int))=false:=Ay (by omega);have o: ∀f g:R7→Int,Wu (L.flatMap fun r=>[f r,g r])=true:=fun f g=>Ah (by rw [x3o];omega);have e:Wa L (.h0 (xsQ L) (ysQ L) (zeQ L) (i:Int))=.to (.h1 (Un (xsQ L)) (Un (ysQ L)) (Un (zeQ L)) [] 0):=by simp only [Wa,Zg,g,show Wu (xsQ L)=true from o _ _,show Wu (ysQ L)=true from o _ _,show Wu (zeQ L)=true from o _ _,Ab,Aa]
  rw [e];exact hs
 | k+1,i,h=>by
  have hi:i<L.length:=by omega
  obtain ⟨s,hs⟩:=u3s L hl hw k (i+1) (by omega);refine ⟨s+1,?_⟩;rw [Zv,←hs]
  congr 1
  have n1:(xsQ (L.take i)).length =2*i:=by unfold xsQ;rw [x3o,A0];omega
  have n2:(ysQ (L.take i)).length =2*i:=by unfold ysQ;rw [x3o,A0];omega
  have n3:(zeQ (L.take i)).length =2*i:=by unfold zeQ;rw [x3o,A0];omega
  have e1:xsQ (L.take (i+1))=xsQ (L.take i)++[(rd L i).b,(rd L i).e]:=x8e _ _ L hi;have e2:ysQ (L.take (i+1))=ysQ (L.take i)++[(rd L i).c,(rd L i).f]:=x8e _ _ L hi;have e3:zeQ (L.take (i+1))=zeQ (L.take i)++[(rd L i).d,(rd L i).g]:=x8e _ _ L hi;have m: ∀l:List Int,decide (0+l.length=l.length)=true:=fun l=>Ah (Ag _);have r: ∀l:List Int,l.length=2*i→decide ((l.length+2+1)*(8+1)≤Uw)=true:=fun l hl2=>Zf (by omega);rw [e1,e2,e3];simp (disch:=omega) only [Wa,Zn,Zo,Zk,Zx,Zj,m,r _ n1,r _ n2,r _ n3,show Nat.beq 1 1=true from rfl,Ai,Al,Ab]
theorem u9a (L:List R7) (h:z4d L=true): ∃s,Zs (Wa L) s (y2m L)=.ret (y1a (y0x L) (Xe 2 (Qn L) [])):=by
 obtain ⟨h1,h2⟩:=Bool.and_eq_true_iff.1 h;have h2:=Ve h2;unfold y2m y0x;simp only [Zg,show z1y L=true from h1,show v8z L=z9e L from rfl,Ab];rcases Yd (z9e L != 0) with e | e
 ·refine ⟨0,?_⟩;rw [e,Ab,Ab,z0x _ e];rfl
 ·have e0:z9e L=0:=by simpa using e
  obtain ⟨s,hs⟩:=u3s L (y3g e0).1 (h2 e0) L.length 0 (Ag _);refine ⟨s,?_⟩;rw [e,Aa,Aa];exact hs
def fRso :List AVal→Option (AVal×Bool)
 | [a0]=>match asL R7 a0 with
  | some (L0,g0,n0)=>some (.tup [.dat (z5u L0).length (Zz (z5u L0)),.int .i64 (y0x L0)],isT R7 n0 g0&&(z4d L0))
  | _=>none
 | _=>none
theorem j2q {S:Specs} (hS:Zu prog S):Zu prog (S.with nRso fRso):=by
 refine w8u hS (by kernel_rfl) fun args v h=> ?_;unfold fRso at h;split at h
 ·rename_i a0;split at h
  ·rename_i L0 g0 n0 e0;simp only [Ae,Ad,Ac] at h;obtain ⟨rfl,ho0,hw⟩:=h;obtain ⟨N,hN⟩:=u9a L0 hw;exact ⟨_,_,(.cons (asL_le e0 ho0) .nil),z2v _ _,v7q L0 N _ hN,3,z6k _ _⟩
  ·cases h
 ·cases h
def Ph :Specs:=Pg.with nRso fRso
theorem u1x :Zu prog Ph:=j2q z3w
inductive mslS where
def mslC (l0:List R7):mslS→Cfg
 :=nofun
def x8m (l0:List R7):mslS→Xv mslS
 :=nofun
def y3d (l0:List R7):Xv mslS:=(bif (z7d (cvT l0)) then (bif (v6k (cvT l0)) then (.ret [(.bool true)]) else (bif (z8f (cvT l0)) then (bif (z4d (cvT l0)) then (bif (Vv (cvT l0)) then (bif (z1y (cvT l0)) then (bif ((z9e (cvT l0)) == (v8z (cvT l0))) then (bif (Vp (cvT (Kd (cvT l0))) (cvT (z5u (cvT l0)))) then (bif (Kb (cvT (Kd (cvT l0))) (cvT (z5u (cvT l0)))) then (.ret [(.bool ((y4t (cvT l0)) == (y0x (cvT l0))))]) else (.ret [(.bool false)])) else .stuck) else (.ret [(.bool false)])) else .stuck) else .stuck) else .stuck) else .stuck)) else .stuck)
theorem w6l (l0:List R7): ∀s,Yt prog (Zy prog 4) (mslC l0) (mslC l0 s) (x8m l0 s)
 :=nofun
theorem x8n (l0:List R7):Yt prog (Zy prog 4) (mslC l0) (Za prog 4 [(.dat l0.length (Zz l0))] true []) (y3d l0):=(lo fun bZ=>(lb (fun k0=>(lr 34 4 [1,0,1,0,0] 1 3 [(2,(.bool true))] (sl u1x 15 [] ⟨[],[],[some [2]],[]⟩ ⟨[],[],[]⟩ [true] (tt k0 (pp (pp (xr l0) (xw bZ)) nn))))) (fun k0=>(lo fun aG=>(lo fun aU=>(lo fun bR=>(lo fun cL=>(lb (fun k1=>(lo fun bW=>(lb (fun k2=>(lr 34 3 [1,1,1,1,1,1,1,0] 1 3 [(2,(.bool ((y4t (cvT l0)) == (y0x (cvT l0)))))] (sl u1x 51 [] ⟨[],[],[some [2]],[]⟩ ⟨[],[],[]⟩ [false,true,true,true,true,true,true] (tt k2 (pp (pp (xI R6 (Kd (cvT l0)).length (Zz (Kd (cvT l0)))) (pp (xI R6 (z5u (cvT l0)).length (Zz (z5u (cvT l0)))) (xw bW))) (tt k1 (pp (pp (xr l0) (xw cL)) (pp (pp (xr l0) (xw bR)) (pp (pp (xr l0) (xw aU)) (pp (pp (xr l0) (xw aG)) (tt k0 (pp (pp (xr l0) (xw bZ)) nn)))))))))))) (fun k2=>(lr 34 3 [1,1,1,1,1,1,1,0] 1 3 [(2,(.bool false))] (sl u1x 51 [] ⟨[],[],[some [2]],[]⟩ ⟨[],[],[]⟩ [false,true,true,true,false,false,false] (tt k2 (pp (pp (xI R6 (Kd (cvT l0)).length (Zz (Kd (cvT l0)))) (pp (xI R6 (z5u (cvT l0)).length (Zz (z5u (cvT l0)))) (xw bW))) (tt k1 (pp (pp (xr l0) (xw cL)) (pp (pp (xr l0) (xw bR)) (pp (pp (xr l0) (xw aU)) (pp (pp (xr l0) (xw aG)) (tt k0 (pp (pp (xr l0) (xw bZ)) nn))))))))))))))) (fun k1=>(lr 34 3 [1,1,1,1,1,1,1,0] 1 3 [(2,(.bool false))] (sl u1x 51 [] ⟨[],[],[some [2]],[]⟩ ⟨[],[],[]⟩ [false,false,false,false,false,false,false] (tt k1 (pp (pp (xr l0) (xw cL)) (pp (pp (xr l0) (xw bR)) (pp (pp (xr l0) (xw aU)) (pp (pp (xr l0) (xw aG)) (tt k0 (pp (pp (xr l0) (xw bZ)) nn))))))))))))))))))
theorem msl_ends (l0:List R7) (n:Nat) (vs:List AVal) (h:Zs (x8m l0) n (y3d l0)=.ret vs):Jy prog (Zy prog 4) (Za prog 4 [(.dat l0.length (Zz l0))] true []) vs:=by have:=Zd (w6l l0) n _ (x8n l0);rwa [h] at this
def inS (X:List R6) (x y z:Int):Prop:= ∃r∈X,(r.a≤x∧x<r.d)∧(r.b≤y∧y<r.e)∧(r.c≤z∧z<r.f)
theorem z6s (X:List R6) (x y z:Int):inS X x y z↔ptL y6x.inB X (z,x,y):=by
 constructor
 ·rintro ⟨r,hr,h1,h2,h3⟩;exact ⟨r,hr,h3.1,h3.2,h1.1,h1.2,h2.1,h2.2⟩
 ·rintro ⟨r,hr,h1,h2,h3,h4,h5,h6⟩;exact ⟨r,hr,⟨h3,h4⟩,⟨h5,h6⟩,h1,h2⟩
namespace Dim
variable {α β:Type} {D:Dim α β}
theorem j1v (hD:D.Fair) (s:List β) (a b x:Int):D.inn (s.map (D.put a b)) x=if a≤x∧x<b then s else []:=by
 unfold inn;have e:(s.map (D.put a b)).filter (fun r=>decide (D.lo r≤x)&&decide (x<D.hi r))=if a≤x∧x<b then s.map (D.put a b) else []:=by
  split
  ·rename_i h;refine List.filter_eq_self.2 fun r hr=> ?_;obtain ⟨c,_,rfl⟩:=AX.1 hr;rw [hD.lo_put,hD.hi_put,Ah h.1,Ah h.2];rfl
  ·rename_i h;refine BJ.2 fun r hr hq=>h ?_;obtain ⟨c,_,rfl⟩:=AX.1 hr;rw [hD.lo_put,hD.hi_put,Ac] at hq;exact ⟨AC hq.1,AC hq.2⟩
 rw [e];split
 ·rw [List.map_map];exact (B3 fun c _=>hD.pr_put a b c).trans (List.map_id _)
 ·rfl
theorem inn_can (hD:D.Fair) {γ:Type} (M:Sem β γ) (x:Int): ∀G:List (Kp β),z0o M G→M.can (D.inn (D.flat G) x)
 | [],_=>M.nil
 | g::r,h=>by
  rw [show D.flat (g::r)=g.s.map (D.put g.a g.b)++D.flat r from rfl,D.inn_append,j1v hD];split
  ·rename_i hx;have e:D.inn (D.flat r) x=[]:=by unfold inn;rw [Cj,BJ];intro a ha hq;obtain ⟨k,hk,ha⟩:=AN.1 ha;obtain ⟨c,_,rfl⟩:=AX.1 ha;rw [hD.lo_put,Ac] at hq;have h1:=AC hq.1;have:=h.later k hk;omega
   rw [e,Az];exact h.head.2.1
  ·rw [Bf];exact inn_can hD M x r h.tail
end Dim
theorem w1u {L:List R6} (hl:L.length≤400) (hv: ∀r∈L,z1i r=true) (hc:y6x.can L):Vw L=0:=by
 have hi: ∀z,D4.out (D6.inn L z)=D6.inn L z:=fun z=>by obtain ⟨h1,h2⟩:=z1j (z7a hv z) (AL (D6.inn_length L z) hl);obtain ⟨G,hG,e⟩:=hc;exact Xa.uniq _ _ h1 (by rw [e];exact Dim.inn_can z3s Xa z G hG) h2
 have hs:Secs L:=fun z=>by rw [hi z];exact AL (D6.inn_length L z) hl
 obtain ⟨h1,h2⟩:=u8b hv hl hs;have e:=y6x.uniq _ _ h1 hc h2;have ok: ∀k i,okF L k i=true:=fun k=>by
  induction k with
  | zero=>intro i;rfl
  | succ k ih=>intro i;show (bif Xn (D6.inn L (rd (D6.cuts L) i)) != 0 then false else okF L k (i+1))=true;rw [(z7u (z7a hv _) (AL (D6.inn_length L _) hl) (hs _)).2];exact ih (i+1)
 unfold Vw;rw [Ay (by omega),Au.2 hv,ok,e,Ay (by omega),show Kb L L=true from Ah rfl];rfl
theorem v5i {L:List R6} (hc:y6x.can L) (hb: ∀x y z,inS L x y z→(-1000000≤x∧x<1000000)∧(-1000000≤y∧y<1000000)∧(-1000000≤z∧z<1000000)): ∀r∈L,z1i r=true:=fun r hr=>by
 have hp:r.a<r.d∧r.b<r.e∧r.c<r.f:=by obtain ⟨G,hG,e⟩:=hc;rw [e] at hr;obtain ⟨g,hg,hr⟩:=AN.1 hr;obtain ⟨b,hb,rfl⟩:=AX.1 hr;obtain ⟨h1,⟨H,hH,e2⟩,_⟩:=hG.all g hg;rw [e2] at hb;obtain ⟨k,hk,hb⟩:=AN.1 hb;obtain ⟨c,hc,rfl⟩:=AX.1 hb;obtain ⟨h2,h3,_⟩:=hH.all k hk;exact ⟨h2,Can.pos h3 c hc,h1⟩
 have h1:=hb r.a r.b r.c ⟨r,hr,by omega,by omega,by omega⟩;have h2:=hb (r.d - 1) (r.e - 1) (r.f - 1) ⟨r,hr,by omega,by omega,by omega⟩;rw [w9f];simp only [w4i,Ac,As];omega
open Go.Proofs Go.Sort Go.Shelf Go.RowKit Go.Lib
def Ax.inB (q:Ax) (r:R6) (p u v:Int):Prop:=(q.lo r≤p∧p<q.hi r)∧((q.rc r).a ≤u∧u<(q.rc r).c)∧((q.rc r).b ≤v∧v<(q.rc r).d)
def Ax.inL (q:Ax) (L:List R6) (p u v:Int):Prop:= ∃r∈L,q.inB r p u v
def Ax.to (q:Ax) (p u v:Int):Int×Int×Int:=match q with
 | .x =>(p,u,v)
 | .y =>(u,p,v)
 | .z =>(u,v,p)
theorem Ax.inL_S (q:Ax) (L:List R6) (p u v:Int):q.inL L p u v↔inS L (q.to p u v).1 (q.to p u v).2.1 (q.to p u v).2.2:=by
 cases q <;> constructor <;> rintro ⟨r,hr,h1,h2,h3⟩
 ·exact ⟨r,hr,h1,h2,h3⟩
 ·exact ⟨r,hr,h1,h2,h3⟩
 ·exact ⟨r,hr,h2,h1,h3⟩
 ·exact ⟨r,hr,h2,h1,h3⟩
 ·exact ⟨r,hr,h2,h3,h1⟩
 ·exact ⟨r,hr,h3,h1,h2⟩
theorem u5j (l:List R4) (u v:Int):ptL Xa.inB l (u,v)↔ ∃r∈l,(r.a≤u∧u<r.c)∧(r.b≤v∧v<r.d):=by
 constructor
 ·rintro ⟨r,hr,h1,h2,h3,h4⟩;exact ⟨r,hr,⟨h1,h2⟩,h3,h4⟩
 ·rintro ⟨r,hr,⟨h1,h2⟩,h3,h4⟩;exact ⟨r,hr,h1,h2,h3,h4⟩
theorem v4u (q:Ax) (L:List R6) (p u v:Int):ptL Xa.inB (z3j q L p) (u,v)↔q.inL L p u v:=by
 rw [u5j];constructor
 ·rintro ⟨s,hs,h⟩;obtain ⟨r,hr,rfl⟩:=AX.1 hs;obtain ⟨h1,h2⟩:=Bg.1 hr;simp only [Ac,As] at h2;exact ⟨r,h1,h2,h⟩
 ·rintro ⟨r,hr,h1,h2⟩;exact ⟨q.rc r,AX.2 ⟨r,Bg.2 ⟨hr,by simp only [Ac,As];exact h1⟩,rfl⟩,h2⟩
theorem Ax.val (q:Ax) {r:R6} (h:z1i r=true):Vo (q.rc r)=true∧q.lo r<q.hi r∧ -1000000≤q.lo r∧q.hi r≤1000000:=by
 have:=z1s h;cases q
 ·refine ⟨?_,by show r.a<r.d;omega,by show _≤r.a;omega,by show r.d≤_;omega⟩;show Vo ⟨r.b,r.c,r.e,r.f⟩=true;simp only [Vo,Ac,As]
  (repeat' apply And.intro) <;> omega
 ·refine ⟨?_,by show r.b<r.e;omega,by show _≤r.b;omega,by show r.e≤_;omega⟩;show Vo ⟨r.a,r.c,r.d,r.f⟩=true;simp only [Vo,Ac,As]
  (repeat' apply And.intro) <;> omega
 ·refine ⟨?_,by show r.c<r.f;omega,by show _≤r.c;omega,by show r.f≤_;omega⟩;show Vo ⟨r.a,r.b,r.d,r.e⟩=true;simp only [Vo,Ac,As]
  (repeat' apply And.intro) <;> omega
theorem w0h (q:Ax) {L:List R6} (hv: ∀r∈L,z1i r=true) (p:Int): ∀s∈z3j q L p,Vo s=true:=fun s hs=>by obtain ⟨r,hr,rfl⟩:=AX.1 hs;exact (q.val (hv r (Bg.1 hr).1)).1
theorem v4v (q:Ax) (L:List R6) (p:Int):(z3j q L p).length ≤L.length:=by unfold z3j;rw [AS];exact BS _ _
theorem z5l {l:List R4} (hc:Xa.can l) (hb: ∀u v,ptL Xa.inB l (u,v)→(-1000000≤u∧u<1000000)∧(-1000000≤v∧v<1000000)): ∀r∈l,Vo r=true:=fun r hr=>by
 have hp:r.a<r.c∧r.b<r.d:=by obtain ⟨G,hG,e⟩:=hc;rw [e] at hr;obtain ⟨g,hg,hr⟩:=AN.1 hr;obtain ⟨b,hb,rfl⟩:=AX.1 hr;obtain ⟨h1,h2,_⟩:=hG.all g hg;exact ⟨h1,Can.pos h2 b hb⟩
 have h1:=hb r.a r.b ((u5j _ _ _).2 ⟨r,hr,by omega,by omega⟩);have h2:=hb (r.c - 1) (r.d - 1) ((u5j _ _ _).2 ⟨r,hr,by omega,by omega⟩);simp only [Vo,Ac,As];omega
theorem z2n {l:List R4} (hv: ∀r∈l,Vo r=true) {u v:Int} (h:ptL Xa.inB l (u,v)):(-1000000≤u∧u<1000000)∧(-1000000≤v∧v<1000000):=by obtain ⟨r,hr,h1,h2⟩:=(u5j _ _ _).1 h;have:=hv r hr;simp only [Vo,Ac,As] at this;omega
theorem y3j {l:List R4} (hc:Xa.can l) (x:Int):z2q.can (D4.inn l x):=by obtain ⟨G,hG,e⟩:=hc;rw [e];exact Dim.inn_can z1n z2q x G hG
theorem w2f {l:List R4} (hl:l.length≤400) (hv: ∀r∈l,Vo r=true) (hc:Xa.can l):y6s l=0:=by
 obtain ⟨h1,h2⟩:=z1j hv hl;have e:D4.out l=l:=Xa.uniq _ _ h1 hc h2;have m1:z1c l=0:=by show y9s (D4.out l).length =0;rw [e];unfold y9s;rw [Ay (by omega)];rfl
 have m0:Wk l=l:=by unfold Wk y6t;rw [show u6q l=0 from m1,e];rfl
 unfold y6s rgcF;rw [Ay (by omega),Au.2 hv,m1,m0,show Ur l l=true from Ah rfl];rfl
theorem v4c {E:Int→Int} {cs:List Int} (h: ∀x,E x=0): ∀k i,w8t E cs k i=0
 | 0,i=>rfl
 | k+1,i=>by show (bif E (rd cs i) != 0 then E (rd cs i) else w8t E cs k (i+1))=0;rw [h];exact v4c h k (i+1)
theorem x0q (o:Op) {a b:List R4} (la:a.length≤400) (lb:b.length≤400) (va: ∀r∈a,Vo r=true) (vb: ∀r∈b,Vo r=true) (ca:Xa.can a) (cb:Xa.can b)
  (sa: ∀x,(D4.inn a x).length +(D4.inn b x).length ≤400) (lj:(rgJ o.k a b).length ≤400):rgE o a b=0:=by
 have sc: ∀(l:List R4) (x:Int),l.length≤400→(∀r∈l,Vo r=true)→Xa.can l→y8b (D4.inn l x)=0:=fun l x hl hv hc=>
  (x0h _).2 ⟨AL (D4.inn_length l x) hl,Uo hv x,y3j hc x⟩
 have hz: ∀x,rgA o a b x=0:=fun x=>by unfold rgA spE;rw [sc a x la va ca,sc b x lb vb cb];have:=z4y o.k (Uo va x) (Uo vb x);show y9s _=0;unfold y9s;rw [Ay (by have:=sa x;omega)];rfl
 unfold rgE;rw [w2f la va ca,w2f lb vb cb,v4c hz];show y9s _=0;unfold y9s;rw [Ay (by omega)];rfl
def upF (q:Ax) (L:List R6) (p:Int):List R4:=rgJ 2 (D4.out (z3j q L (p - 1))) (D4.out (z3j q L p))
def dnF (q:Ax) (L:List R6) (p:Int):List R4:=rgJ 2 (D4.out (z3j q L p)) (D4.out (z3j q L (p - 1)))
def fcF (q:Ax) (s:Bool) (L:List R6) (p:Int):List R4:=match s with
 | true=>upF q L p
 | false=>dnF q L p
theorem z9p (q:Ax) (L:List R6):(plQ q L).Pairwise (· < ·):=by unfold plQ;rw [Jv];exact (Ye _).1
theorem Jw (q:Ax) (L:List R6) (p:Int):p∈plQ q L↔ ∃r∈L,p=q.lo r∨p=q.hi r:=by
 unfold plQ;rw [Jv,(Ye _).2 p];unfold z3h;constructor
 ·intro h;obtain ⟨r,hr,h⟩:=AN.1 h;simp only [AE,Bc,BX] at h;exact ⟨r,hr,h⟩
 ·rintro ⟨r,hr,h⟩;exact AN.2 ⟨r,hr,by simp only [AE,Bc,BX];exact h⟩
theorem x4p (E:Int→Int): ∀l:List Int,(∀p∈l,E p=0)→v4n E l=0
 | [],_=>rfl
 | p::l,h=>by unfold v4n;rw [h p (by simp)];exact x4p E l fun x hx=>h x (by simp [hx])
theorem z2i {α β:Type} {f g:α→List β}: ∀{l:List α},(∀a∈l,f a=g a)→l.flatMap f=l.flatMap g
 | [],_=>rfl
 | a::l,h=>by rw [Be,Be,h a (by simp),z2i fun x hx=>h x (by simp [hx])]
theorem Dim.goS_cg {α β:Type} (D:Dim α β) (f g:Int→List β) (cs:List Int): ∀(k i:Nat) (s:Sw α β),(∀j,i≤j→j<i+k→f (rd cs j)=g (rd cs j))→D.goS f cs k i s=D.goS g cs k i s
 | 0,i,s,_=>rfl
 | k+1,i,s,h=>by show D.goS f cs k (i+1) (D.oneS (f (rd cs i)) _ _ s)=D.goS g cs k (i+1) (D.oneS (g (rd cs i)) _ _ s);rw [h i (Ao _) (by omega)];exact goS_cg D f g cs k (i+1) _ fun j h1 h2=>h j (by omega) (by omega)
theorem x4u {n:Nat} (h:y9s n=0):n≤400:=by
 unfold y9s at h;by_cases q:(n:Int)>400
 ·rw [Ah q] at h;cases h
 ·omega
theorem x7r {l:List R4} (h:Xn l=0):l.length≤400∧(∀r∈l,Vo r=true)∧Zc l=D4.out l:=by
 unfold Xn at h;cases g1:decide (400<l.length) with
 | true=>rw [g1] at h;cases h
 | false=>
  cases g2:l.all Vo with
  | false=>rw [g1,g2] at h;cases h
  | true=>
   rw [g1,g2,Aa,Ab] at h;have hl:l.length≤400:=by have:=of_decide_eq_false g1;omega
   refine ⟨hl,Au.1 g2,?_⟩;exact (z7u (Au.1 g2) hl (x4u h)).1
theorem w2n {l:List R6}: ∀(k i:Nat),okF l k i=true→ ∀j,i≤j→j<i+k→Xn (D6.inn l (rd (D6.cuts l) j))=0
 | 0,i,h,j,h1,h2=>by omega
 | k+1,i,h,j,h1,h2=>by
  unfold okF at h;rcases Yd (j4t l (rd (D6.cuts l) i)) with q | q
  ·rw [q] at h;cases h
  ·rw [q,Aa] at h;rcases A1 h1 with e | e
   ·rw [←e];unfold j4t at q
    simpa using q
   ·exact w2n k (i+1) h j e (by omega)
theorem w1r {l:List R6} (h:Ka l=0):l.length≤400∧(∀r∈l,z1i r=true)∧okF l ((D6.cuts l).length - 1) 0=true∧(D6.out l).length ≤400:=by
 unfold Ka at h;cases g1:decide (400<l.length) with
 | true=>rw [g1] at h;cases h
 | false=>
  cases g2:l.all z1i with
  | false=>rw [g1,g2] at h;cases h
  | true=>
   rw [g1,g2,Aa,Ab] at h;cases g3:okF l ((D6.cuts l).length - 1) 0 with
   | false=>rw [g3,Aa] at h;have:=u1j _ _ g3;rw [h] at this;cases this
   | true=>rw [g3,Ab] at h;exact ⟨by have:=of_decide_eq_false g1;omega,Au.1 g2,rfl,x4u h⟩
theorem v0a {l:List R6} (h:Ka l=0):Xx l=D6.out l:=by unfold Xx y6t;rw [h];rfl
theorem v0b {l:List R6} (h:Ka l=0):y6x.can (Xx l)∧ ∀x y z,inS (Xx l) x y z↔inS l x y z:=by
 obtain ⟨hl,hv,hok,ho⟩:=w1r h;have hf:=w2n _ _ hok;rw [v0a h];have hc:(D6.cuts l).Pairwise (· < ·):=by show (Kz (D6.ends l)).Pairwise (· < ·);rw [Jv];exact (Ye _).1
 have eS:D6.out l=(D6.goS (fun x=>bif Xn (D6.inn l x) != 0 then [] else Zc (D6.inn l x)) (D6.cuts l) ((D6.cuts l).length - 1) 0 ⟨[],[],0,0⟩).out :=by unfold Dim.out;rw [D6.go_goS,D6.goS_cg (D6.sec l) (fun x=>bif Xn (D6.inn l x) != 0 then [] else Zc (D6.inn l x))];intro j h1 h2;show _=bif Xn (D6.inn l _) != 0 then _ else _;rw [hf j h1 h2];rfl
 have hs: ∀x,Xa.can (bif Xn (D6.inn l x) != 0 then [] else Zc (D6.inn l x)):=fun x=>by
  cases g:(Xn (D6.inn l x) != 0) with
  | true=>exact Xa.nil
  | false=>obtain ⟨m1,m2,m3⟩:=x7r (show Xn (D6.inn l x)=0 by simpa using g);rw [Aa,m3];exact (z1j m2 m1).1
 obtain ⟨h1,h2⟩:=Dim.goS_can z3s z7g Xa (cs:=D6.cuts l) hc hs;rw [eS];refine ⟨h1,fun x y z=> ?_⟩;rw [z6s,z6s,show ptL y6x.inB _ (z,x,y)↔_ from h2 z (x,y)];have ia: ∀j,j+1<(D6.cuts l).length →rd (D6.cuts l) j≤z→z<rd (D6.cuts l) (j+1)→(ptL Xa.inB (bif Xn (D6.inn l (rd (D6.cuts l) j)) != 0 then [] else Zc (D6.inn l (rd (D6.cuts l) j))) (x,y)↔ptL y6x.inB l (z,x,y)):=fun j j1 j2 j3=>by have q:=hf j (AA _) (by omega);obtain ⟨m1,m2,m3⟩:=x7r q;rw [q,show ((0:Int) != 0)=false from rfl,Aa,m3,(z1j m2 m1).2,Dim.inn_slab l l (fun r hr=>hr) j1 j2 j3];exact Dim.pt_inn (D:=D6) Xa.inB l z (x,y)
 constructor
 ·rintro ⟨j,j1,j2,j3,j4⟩;exact (ia j j1 j2 j3).1 j4
 ·intro hp;refine AI fun hn=> ?_;have hx: ∀j,j+1<(D6.cuts l).length → ¬(rd (D6.cuts l) j≤z∧z<rd (D6.cuts l) (j+1)):=fun j j1 j2=>hn ⟨j,j1,j2.1,j2.2,(ia j j1 j2.1 j2.2).2 hp⟩;have g:=(Dim.pt_inn (D:=D6) Xa.inB l z (x,y)).2 hp;rw [Dim.inn_out l l (fun r hr=>hr) hx] at g;exact z6n _ _ g
theorem w1s {L:List R6} (h:Vw L=0):Ka L=0∧Xx L=L:=by
 have hs:=Vx h;have key:Ka L=0:=by
  unfold Vw at h;unfold Ka;cases g1:decide (400<L.length) with
  | true=>rw [g1] at h;cases h
  | false=>
   cases g2:L.all z1i with
   | false=>rw [g1,g2] at h;cases h
   | true=>
    rw [g1,g2,Aa,Ab] at h;cases g3:okF L ((D6.cuts L).length - 1) 0 with
    | false=>rw [g3] at h;cases h
    | true=>rw [Aa,Ab,Ab];unfold y9s;rw [←hs.2.2.1,Xm (by have:=hs.1;omega)];rfl
 exact ⟨key,(v0a key).trans hs.2.2.1.symm⟩
theorem v0f {L:List R6} (h:Vw L=0):y6x.can L:=by obtain ⟨h1,h2⟩:=w1s h;have:=(v0b h1).1;rwa [h2] at this
theorem v4w (L:List R6) (z:Int):z3j .z L z=D6.inn L z:=rfl
theorem z5v (L:List R6) (z u v:Int):ptL Xa.inB (D6.inn L z) (u,v)↔Ax.inL .z L z u v:=v4u .z L z u v
theorem x9h (k:Nat) {a b:List R4} (ha: ∀r∈a,Vo r=true) (hb: ∀r∈b,Vo r=true) (x:Int):(D4.inn (rgJ k a b) x).length ≤(D4.inn a x).length +(D4.inn b x).length :=by
 obtain ⟨j1,j2,_⟩:=z1k k ha hb;obtain ⟨s1,s2⟩:=x6i k (Uo ha x) (Uo hb x);have e:D4.inn (rgJ k a b) x=spJ k (D4.inn a x) (D4.inn b x):=z2q.uniq _ _ (y3j j1 x) s1 fun y=>by rw [s2];show pt (D4.inn (rgJ k a b) x) y↔_;rw [z6o,j2];have e1:decide (pt (D4.inn a x) y)=decide (ptL Xa.inB a (x,y)):=Bu.2 (z6o a x y);have e2:decide (pt (D4.inn b x) y)=decide (ptL Xa.inB b (x,y)):=Bu.2 (z6o b x y);rw [e1,e2]
 rw [e];exact z4y k (Uo ha x) (Uo hb x)
theorem w2e {l:List R4} (hl:l.length≤400) (hv: ∀r∈l,Vo r=true) (hc:Xa.can l):Xn l=0∧Zc l=l:=by obtain ⟨h1,h2⟩:=z1j hv hl;have e:D4.out l=l:=Xa.uniq _ _ h1 hc h2;obtain ⟨r0,r1⟩:=z7u hv hl (by rw [e];exact hl);exact ⟨r1,r0.trans e⟩
theorem x8j {A B:Prop} [Decidable A] [Decidable B]:opB 2 (decide A) (decide B)=true↔A∧ ¬B:=by simp [opB]
theorem j0s {A B:Prop} [Decidable A] [Decidable B]:opB 1 (decide A) (decide B)=true↔A∧B:=by simp [opB]
theorem opB0i {A B:Prop} [Decidable A] [Decidable B]:opB 0 (decide A) (decide B)=true↔A∨B:=by simp [opB]
theorem w2h (q:Op) {a b:List R4} (h:rgE q a b=0):Vy q a b=rgJ q.k a b:=by unfold Vy;rw [h];rfl
theorem zQ_nil {d:Int} {l:List R7} (z:Int) (h: ∀r∈l,r.a≠d):zQ d l z=[]:=by unfold zQ;rw [Cj,BJ];intro r hr hq;simp only [Ac,As] at hq;exact h r hr hq.1
theorem u2a (s:Bool) (p:Int) (l:List R4) (z:Int):zQ (match s with | true=>4 | false=>5) (l.map (qd .z s p)) z=if p=z then l else []:=by
 induction l with
 | nil=>cases s <;> (by_cases e:p=z <;> simp [e,zQ])
 | cons r l ih=>
  rw [A4,show qd .z s p r::l.map (qd .z s p)=[qd .z s p r]++l.map (qd .z s p) from rfl,We,ih];by_cases e:p=z
  ·rw [AB e,AB e];cases s <;> simp [zQ,qd,e]
  ·rw [Aw e,Aw e,Az];cases s <;> simp [zQ,qd,e]
theorem x5q (s:Bool) (F:Int→List R4) (z:Int): ∀P:List Int,P.Pairwise (· < ·)→(z ∉ P→F z=[])→zQ (match s with | true=>4 | false=>5) (P.flatMap fun p=>(F p).map (qd .z s p)) z=F z
 | [],_,h=>by rw [h (by simp)];cases s <;> rfl
 | p::P,hP,h=>by
  obtain ⟨h1,h2⟩:=AV.1 hP;rw [Be,We,u2a];by_cases e:p=z
  ·subst e;rw [AB rfl];have: ∀Q:List Int,(∀x∈Q,p<x)→zQ (match s with | true=>4 | false=>5) (Q.flatMap fun p=>(F p).map (qd .z s p)) p=[]:=fun Q=>by
    induction Q with
    | nil=>intro _;cases s <;> rfl
    | cons x Q ih=>intro hx;rw [Be,We,u2a,Aw (by have:=hx x (by simp);omega),ih fun y hy=>hx y (by simp [hy])];rfl
   rw [this P h1,Az]
  ·rw [Aw e,Bf];exact x5q s F z P h2 fun hn=>h (by simp [hn,Ne.symm e])
theorem qd_a (q:Ax) (s:Bool) (p:Int) (t:R4):(qd q s p t).a =2*q.ix+sdI s:=by cases q <;> cases s <;> rfl
theorem const (S:Int→List R4) (a:Int): ∀n:Nat,(∀x,a<x→x≤a+n→S (x - 1)=S x)→S (a+n)=S a
 | 0,_=>by rw [show a+((0:Nat):Int)=a by omega]
 | n+1,h=>by
  have:=const S a n fun x h1 h2=>h x h1 (by omega);rw [←this,←h (a+((n+1:Nat):Int)) (by omega) (AU _)]
  congr 1;omega
theorem const' (S:Int→List R4) {a b:Int} (hab:a≤b) (h: ∀x,a<x→x≤b→S (x - 1)=S x):S b=S a:=by have:=const S a (b - a).toNat fun x h1 h2=>h x h1 (by omega);rw [show a+((b - a).toNat :Int)=b by omega] at this;exact this
structure Chg (S:Int→List R4) (r:List Int) (lo:Int):Prop where
 asc:r.Pairwise (· < ·)
 low: ∀z∈r,lo≤z
 ne: ∀z∈r,S (z - 1)≠S z
 all: ∀x,lo≤x→S (x - 1)≠S x→x∈r
theorem Chg.tail {S:Int→List R4} {z lo:Int} {r:List Int} (h:Chg S (z::r) lo):Chg S r (z+1):=by
 obtain ⟨h1,h2⟩:=AV.1 h.asc;refine ⟨h2,fun x hx=>by have:=h1 x hx;omega,fun x hx=>h.ne x (by simp [hx]),fun x hx hn=> ?_⟩;have:=h.low z (by simp);rcases AE.1 (h.all x (by omega) hn) with e | e
 ·omega
 ·exact e
theorem Chg.flat {S:Int→List R4} {lo:Int} {r:List Int} (h:Chg S r lo) {x:Int} (hx:lo - 1≤x) (hr: ∀z∈r,x<z):S x=S (lo - 1):=
 const' S hx fun y h1 h2=>AI fun hn=>by have:=hr y (h.all y (by omega) hn);omega
def bxs (S:Int→List R4):List Int→List R6
 | []=>[]
 | z::r=>(match r with
  | []=>[]
  | z'::_=>(S z).map (pz6 z z'))++bxs S r
def gbs (S:Int→List R4):List Int→List (Kp R4)
 | []=>[]
 | z::r=>(match r with
  | []=>[]
  | z'::_=>match S z with
   | []=>[]
   | t::s=>[⟨z,z',t::s⟩])++gbs S r
theorem w3p (S:Int→List R4): ∀r,D6.flat (gbs S r)=bxs S r
 | []=>rfl
 | [z]=>rfl
 | z::z'::r=>by
  have ih:=w3p S (z'::r);show D6.flat ((match S z with | []=>[] | t::s=>[⟨z,z',t::s⟩])++gbs S (z'::r))=(S z).map (pz6 z z')++bxs S (z'::r);rw [D6.flat_append,ih]
  congr 1
  cases S z with
  | nil=>rfl
  | cons t s=>exact D6.flat_one _
theorem x1l (S:Int→List R4): ∀(r:List Int) (lo:Int),Chg S r lo→ ∀g∈gbs S r,g.a∈r∧g.a<g.b∧g.s=S g.a∧g.s≠ []∧ ∀x,g.a≤x→x<g.b→S x=g.s
 | [],_,_,g,hg=>by cases hg
 | [z],_,_,g,hg=>by cases hg
 | z ::z'::r,lo,h,g,hg=>by
  have ht:=h.tail;rcases AF.1 hg with hg | hg
  ·have hz:=ht.low z' (by simp);have ht2:=(AV.1 ht.asc).1;have cst: ∀x,z≤x→x<z'→S x=S z:=fun x h1 h2=>by
    have:=ht.flat (x:=x) (by omega) fun y hy=>by
     rcases AE.1 hy with rfl | hy
     ·exact h2
     ·have:=ht2 y hy;omega
    rw [this,show z+1 - 1=z by omega]
   have hg:g∈(match S z with | []=>[] | t::s=>[(⟨z,z',t::s⟩:Kp R4)]):=hg;cases e:S z with
   | nil=>rw [e] at hg;cases hg
   | cons t s=>rw [e] at hg;obtain rfl:=AT.1 hg;exact ⟨by simp,by show z<z';omega,e.symm,by simp,fun x h1 h2=>(cst x h1 h2).trans e⟩
  ·obtain ⟨g1,g2⟩:=x1l S (z'::r) (z+1) ht g hg;exact ⟨by simp only [AE] at g1 ⊢;exact .inr g1,g2⟩
theorem v3s (S:Int→List R4) (hS: ∀x,Xa.can (S x)): ∀(r:List Int) (lo:Int),Chg S r lo→z0o Xa (gbs S r)
 | [],_,_=>.nil
 | [z],_,_=>.nil
 | z ::z'::r,lo,h=>by
  have ht:=h.tail;have ih:=v3s S hS (z'::r) (z+1) ht;have hz:=ht.low z' (by simp);have ht2:=(AV.1 ht.asc).1;show z0o Xa ((match S z with | []=>[] | t::s=>[⟨z,z',t::s⟩])++gbs S (z'::r));cases e:S z with
  | nil=>exact ih
  | cons t s=>
   have ok:OkS Xa (⟨z,z',t::s⟩:Kp R4):=⟨by show z<z';omega,by show Xa.can (t::s);rw [←e];exact hS z,by simp⟩
   cases eg:gbs S (z'::r) with
   | nil=>exact .one _ ok
   | cons k G=>
    rw [eg] at ih;obtain ⟨m1,_,m3,_⟩:=x1l S (z'::r) (z+1) ht k (by rw [eg];simp);refine .cons _ k G ok ⟨?_,fun eb es=> ?_⟩ ih
    ·show z'≤k.a;rcases AE.1 m1 with e | e
     ·omega
     ·have:=ht2 _ e;omega
    ·have eb:z'=k.a:=eb;have es:t::s=k.s:=es;have c:=ht.flat (x:=z' - 1) (by omega) fun y hy=>by
      rcases AE.1 hy with rfl | hy
      ·omega
      ·have:=ht2 y hy;omega
     refine ht.ne z' (by simp) ?_;rw [c,show z+1 - 1=z by omega,e,es,m3,←eb]
theorem v3r (S:Int→List R4) (hf: ∀x,1000000≤x→S x=[]): ∀(r:List Int) (lo:Int),Chg S r lo→S (lo - 1)=[]→ ∀x,S x≠ []→lo≤x→ ∃g∈gbs S r,g.a≤x∧x<g.b
 | [],lo,h,h0,x,hx,hlo=>by refine (hx ?_).elim;rw [h.flat (by omega) (by simp),h0]
 | [z],lo,h,h0,x,hx,hlo=>by
  have hz:=h.low z (by simp);by_cases q:x<z
  ·refine (hx ?_).elim;rw [h.flat (by omega) (by simpa using q),h0]
  ·refine (hx ?_).elim;have ht:=h.tail;have e1:=ht.flat (x:=x) (by omega) (by simp);have e2:=ht.flat (x:=x+2000000+z.natAbs) (by omega) (by simp);rw [e1,←e2];exact hf _ (by omega)
 | z ::z'::r,lo,h,h0,x,hx,hlo=>by
  have ht:=h.tail;have hz:=h.low z (by simp);have hz':=ht.low z' (by simp);have ht2:=(AV.1 ht.asc).1;by_cases q:x<z
  ·refine (hx ?_).elim;rw [h.flat (by omega) fun y hy=>by
    rcases AE.1 hy with rfl | hy
    ·exact q
    ·have:=(AV.1 h.asc).1 y hy;omega,h0]
  by_cases q2:x<z'
  ·have c:S x=S z:=by
    have:=ht.flat (x:=x) (by omega) fun y hy=>by
     rcases AE.1 hy with rfl | hy
     ·exact q2
     ·have:=ht2 y hy;omega
    rw [this,show z+1 - 1=z by omega]
   cases e:S z with
   | nil=>exact (hx (c.trans e)).elim
   | cons t s=>refine ⟨⟨z,z',t::s⟩,?_,by show z≤x;omega,q2⟩;show _∈(match S z with | []=>[] | t::s=>[⟨z,z',t::s⟩])++gbs S (z'::r);rw [e];simp
  ·have go: ∃g∈gbs S (z'::r),g.a≤x∧x<g.b:=by
    by_cases hS:S z=[]
    ·exact v3r S hf (z'::r) (z+1) ht (by rw [show z+1 - 1=z by omega];exact hS) x hx (by omega)
    ·-- the section before z' is not empty: start at z'
     exact gbs_hit2 S hf z' r ((z+1)) ht x hx (by omega)
   obtain ⟨g,hg,hh⟩:=go;exact ⟨g,AF.2 (.inr hg),hh⟩
where
 gbs_hit2 (S:Int→List R4) (hf: ∀x,1000000≤x→S x=[]) (z':Int): ∀(r:List Int) (lo:Int),Chg S (z'::r) lo→ ∀x,S x≠ []→z'≤x→ ∃g∈gbs S (z'::r),g.a≤x∧x<g.b
  | [],lo,h,x,hx,hlo=>by refine (hx ?_).elim;have ht:=h.tail;have e1:=ht.flat (x:=x) (by omega) (by simp);have e2:=ht.flat (x:=x+2000000+z'.natAbs) (by omega) (by simp);rw [e1,←e2];exact hf _ (by omega)
  | z2::r,lo,h,x,hx,hlo=>by
   have ht:=h.tail;have hz':=ht.low z2 (by simp);have ht2:=(AV.1 ht.asc).1;by_cases q2:x<z2
   ·have c:S x=S z':=by
     have:=ht.flat (x:=x) (by omega) fun y hy=>by
      rcases AE.1 hy with rfl | hy
      ·exact q2
      ·have:=ht2 y hy;omega
     rw [this,show z'+1 - 1=z' by omega]
    cases e:S z' with
    | nil=>exact (hx (c.trans e)).elim
    | cons t s=>refine ⟨⟨z',z2,t::s⟩,?_,by show z'≤x;omega,q2⟩;show _∈(match S z' with | []=>[] | t::s=>[⟨z',z2,t::s⟩])++gbs S (z2::r);rw [e];simp
   ·obtain ⟨g,hg,hh⟩:=gbs_hit2 S hf z2 r (z'+1) ht x hx (by omega);exact ⟨g,AF.2 (.inr hg),hh⟩
def z2a (P:Prop):Nat:= @ite _ P (Classical.propDecidable P) 1 0
theorem Qq {P:Prop} (h:P):z2a P=1:= @AB _ (Classical.propDecidable P) h _ _ _
theorem Up {P:Prop} (h: ¬P):z2a P=0:= @Aw _ (Classical.propDecidable P) h _ _ _
theorem y9t (w:Int): ∀s:List R2,Can s→(s.filter fun t=>decide (t.a≤w)&&decide (w<t.b)).length =z2a (pt s w)
 | [],_=>(Up fun ⟨_,h,_⟩=>by cases h).symm
 | t::s,h=>by
  have ih:=y9t w s h.tail;have hd:=h.head;rw [Br];by_cases q:t.a≤w∧w<t.b
  ·rw [AB (by simp [q.1,q.2])];have e:(s.filter fun t=>decide (t.a≤w)&&decide (w<t.b))=[]:=BJ.2 fun r hr k=>by have:=hd r hr;simp only [Ac,As] at k;omega
   rw [e,Qq ⟨t,by simp,q⟩];rfl
  ·rw [Aw (by simpa using q),ih];by_cases g:pt s w
   ·rw [Qq g];obtain ⟨r,hr,k⟩:=g;rw [Qq ⟨r,by simp [hr],k⟩]
   ·rw [Up g,Up];rintro ⟨r,hr,k⟩;rcases AE.1 hr with rfl | hr
    ·exact q k
    ·exact g ⟨r,hr,k⟩
def u0n (u w:Int) (t:R4):Bool:=(decide (t.a≤u)&&decide (u<t.c))&&(decide (t.b≤w)&&decide (w<t.d))
theorem v5k {l:List R4} (hc:Xa.can l) (u w:Int):(l.filter (u0n u w)).length =z2a (ptL Xa.inB l (u,w)):=by
 have h1:=y9t w (D4.inn l u) (y3j hc u);have e:((D4.inn l u).filter fun t=>decide (t.a≤w)&&decide (w<t.b)).length =(l.filter (u0n u w)).length :=by
  show (((l.filter fun r=>decide (r.a≤u)&&decide (u<r.c)).map fun r=>(⟨r.b,r.d⟩:R2)).filter _).length =_;rw [List.filter_map,AS,List.filter_filter]
  congr 1
  refine List.filter_congr fun r _=> ?_;unfold u0n;simp only [Function.comp];exact Bool.and_comm _ _
 rw [←e,h1];have:pt (D4.inn l u) w↔ptL Xa.inB l (u,w):=z6o l u w;by_cases g:pt (D4.inn l u) w
 ·rw [Qq g,Qq (this.1 g)]
 ·rw [Up g,Up fun k=>g (this.2 k)]
theorem shs_in (L:List R6) (x y z:Int):shsV L x y z=true↔inS L x y z:=by
 unfold shsV inS;rw [List.any_eq_true];constructor
 ·rintro ⟨r,hr,h⟩;simp only [shR,Ac,As] at h;exact ⟨r,hr,⟨h.1,h.2.1⟩,⟨h.2.2.1,h.2.2.2.1⟩,h.2.2.2.2.1,h.2.2.2.2.2⟩
 ·rintro ⟨r,hr,⟨h1,h2⟩,⟨h3,h4⟩,h5,h6⟩;exact ⟨r,hr,by simp only [shR,Ac,As];exact ⟨h1,h2,h3,h4,h5,h6⟩⟩
theorem z4c (q:Ax) (L:List R6) {x:Int} (hx:x ∉ plQ q L) (u w:Int):q.inL L (x - 1) u w↔q.inL L x u w:=by
 constructor
 ·rintro ⟨r,hr,⟨h1,h2⟩,k⟩;exact ⟨r,hr,⟨by omega,AI fun hn=>hx ((Jw q L x).2 ⟨r,hr,.inr (by omega)⟩)⟩,k⟩
 ·rintro ⟨r,hr,⟨h1,h2⟩,k⟩;exact ⟨r,hr,⟨AI fun hn=>hx ((Jw q L x).2 ⟨r,hr,.inl (by omega)⟩),by omega⟩,k⟩
theorem Qk {xs:List Int} {i:Nat} (h:i<xs.length):rd xs i∈xs:=by rw [Yo h];exact AR h
theorem v1m {xs:List Int} {x:Int} (h:x∈xs): ∃i,i<xs.length∧rd xs i=x:=by obtain ⟨i,hi,e⟩:=AZ h;exact ⟨i,hi,by rw [Yo hi];exact e⟩
theorem Kh {xs:List Int} (hx:xs.Pairwise (· < ·)) {G:Int→Prop} (h: ∀t,t ∉ xs→(G (t - 1)↔G t)) {i:Nat} (hi:i+1<xs.length) {u:Int} (h1:rd xs i≤u) (h2:u<rd xs (i+1)):G u↔G (rd xs i):=by
 have gap: ∀t,rd xs i<t→t<rd xs (i+1)→t ∉ xs:=fun t t1 t2 k=>by
  obtain ⟨j,hj,e⟩:=v1m k;rcases Bi i j with g | g
  ·rcases A1 g with e2 | e2
   ·rw [←e2,Nat.succ_eq_add_one] at e;omega
   ·have:=z3v hx e2 hj;have e3:i.succ=i+1:=rfl;rw [e3] at this;omega
  ·rcases A1 g with e2 | e2
   ·rw [e2] at e;omega
   ·have:=z3v hx e2 (by omega);omega
 have go: ∀n:Nat,rd xs i+(n:Int)<rd xs (i+1)→(G (rd xs i+(n:Int))↔G (rd xs i)):=fun n=>by
  induction n with
  | zero=>intro _;rw [show rd xs i+((0:Nat):Int)=rd xs i by omega]
  | succ n ih=>intro hn;rw [←ih (by omega),←h (rd xs i+((n+1:Nat):Int)) (gap _ (by omega) hn),show rd xs i+((n+1:Nat):Int) - 1=rd xs i+(n:Int) by omega]
 have:=go (u - rd xs i).toNat (by omega);rwa [show rd xs i+((u - rd xs i).toNat :Int)=u by omega] at this
theorem y5z {xs:List Int} (hx:xs.Pairwise (· < ·)) {a b u:Int} (ha:a∈xs) (hb:b∈xs) (h1:a≤u) (h2:u<b): ∃i,i+1<xs.length∧rd xs i≤u∧u<rd xs (i+1):=by
 obtain ⟨n,hn,rfl⟩:=v1m ha;obtain ⟨m,hm,rfl⟩:=v1m hb;have h0:rd xs 0≤rd xs n:=by
  rcases BT n with e | e
  ·rw [e];exact AU _
  ·exact Cq (z3v hx e hn)
 obtain ⟨j,j1,j2,j3⟩:=x1t m hm u (by omega) h2;exact ⟨j,by omega,j2,j3⟩
theorem y3s {ys:List Int} (hy:ys.Pairwise (· < ·)) (P:Int→Bool):Can (z1q ys (ys.map P))∧ ∀w,pt (z1q ys (ys.map P)) w↔ ∃m,m+1<ys.length∧P (rd ys m)=true∧rd ys m≤w∧w<rd ys (m+1):=by
 obtain ⟨r1,r2⟩:=y3t ys (ys.map P) hy (ys.length - 1) 0 [] (by omega) .nil (by simp);refine ⟨r1,fun w=> ?_⟩;have hmap: ∀j,j<ys.length→rd (ys.map P) j=P (rd ys j):=fun j hj=>by rw [Yo (by simpa using hj),Yo hj,B9]
 unfold z1q;rw [r2];constructor
 ·rintro (⟨s,hs,_⟩ | ⟨j,_,h2,h3,h4⟩)
  ·cases hs
  ·rw [hmap j (by omega)] at h3;exact ⟨j,by omega,h3,h4⟩
 ·rintro ⟨m,hm,h3,h4⟩;exact .inr ⟨m,AA _,by omega,by rw [hmap m (by omega)];exact h3,h4⟩
theorem v5m {ys:List Int} (hy:ys.Pairwise (· < ·)) (P:Int→Bool):2*(z1q ys (ys.map P)).length ≤ys.length:=by
 obtain ⟨c,pts⟩:=y3s hy P;have hsub: ∀y∈y6d (z1q ys (ys.map P)),y∈ys:=fun y h=>AI fun hn=>chg c h (by
  rw [pts,pts];have key: ∀m,m+1<ys.length→((rd ys m≤y - 1∧y - 1<rd ys (m+1))↔(rd ys m≤y∧y<rd ys (m+1))):=fun m hm=>by have n1:y≠rd ys m:=fun e=>hn (e ▸ Qk (by omega));have n2:y≠rd ys (m+1):=fun e=>hn (e ▸ Qk hm);omega
  constructor
  ·rintro ⟨m,hm,h1,h2⟩;exact ⟨m,hm,h1,(key m hm).1 h2⟩
  ·rintro ⟨m,hm,h1,h2⟩;exact ⟨m,hm,h1,(key m hm).2 h2⟩)
 have:=z4n _ ys ((y6c c).imp fun {a b} h=>by omega) hsub;rw [Qv] at this;omega
theorem w5s {xs ys:List Int} (hy:ys.Pairwise (· < ·)) (P:Int→Int→Bool): ∀k i,2*(z1w xs ys P k i).length ≤ys.length*k
 | 0,i=>AA _
 | k+1,i=>by have h1:=v5m hy (P (rd xs i));have h2:=w5s (xs:=xs) hy P k (i+1);unfold z1w;rw [Ar,AS,Nat.mul_succ];omega
theorem z7q {xs ys:List Int} (P:Int→Int→Bool) (r:R4): ∀k i,r∈z1w xs ys P k i↔ ∃j,i≤j∧j<i+k∧ ∃s∈z1q ys (ys.map (P (rd xs j))),r=⟨rd xs j,s.a,rd xs (j+1),s.b⟩
 | 0,i=>⟨fun h=>(by cases h),fun ⟨j,h1,h2,_⟩=>by omega⟩
 | k+1,i=>by
  unfold z1w;rw [AF,z7q P r k (i+1),AX];constructor
  ·rintro (⟨s,hs,e⟩ | ⟨j,h1,h2,h3⟩)
   ·exact ⟨i,Ao _,by omega,s,hs,e.symm⟩
   ·exact ⟨j,by omega,by omega,h3⟩
  ·rintro ⟨j,h1,h2,s,hs,e⟩;rcases A1 h1 with rfl | h1
   ·exact .inl ⟨s,hs,e.symm⟩
   ·exact .inr ⟨j,h1,by omega,s,hs,e⟩
def Ax.ua (q:Ax):Ax:=match q with
 | .x =>.y
 | .y =>.x
 | .z =>.x
def Ax.wa (q:Ax):Ax:=match q with
 | .x =>.z
 | .y =>.z
 | .z =>.y
theorem y5y (q:Ax) (L:List R6):z1m L q.ix=plQ q L:=by
 unfold z1m plQ;rw [Jv]
 congr 1
 unfold u1i z3h;exact z2i fun r _=>by cases q <;> rfl
theorem uX_pl (q:Ax) (L:List R6):uX L q.ix=plQ q.ua L:=by
 cases q
 ·exact y5y .y L
 ·exact y5y .x L
 ·exact y5y .x L
theorem uY_pl (q:Ax) (L:List R6):uY L q.ix=plQ q.wa L:=by
 cases q
 ·exact y5y .z L
 ·exact y5y .z L
 ·exact y5y .y L
theorem pU_in (q:Ax) (L:List R6) (p u w:Int):pU L q.ix p u w=true↔q.inL L p u w:=by rw [q.inL_S];cases q <;> exact shs_in _ _ _ _
theorem u3i (q:Ax) (L:List R6) {t:Int} (h:t ∉ plQ q.ua L) (p w:Int):q.inL L p (t - 1) w↔q.inL L p t w:=by
 cases q
 ·have:=z4c .y L h p w;rw [Ax.inL_S,Ax.inL_S] at this ⊢;exact this
 ·have:=z4c .x L h p w;rw [Ax.inL_S,Ax.inL_S] at this ⊢;exact this
 ·have:=z4c .x L h w p;rw [Ax.inL_S,Ax.inL_S] at this ⊢;exact this
theorem u3h (q:Ax) (L:List R6) {t:Int} (h:t ∉ plQ q.wa L) (p u:Int):q.inL L p u (t - 1)↔q.inL L p u t:=by
 cases q
 ·have:=z4c .z L h p u;rw [Ax.inL_S,Ax.inL_S] at this ⊢;exact this
 ·have:=z4c .z L h u p;rw [Ax.inL_S,Ax.inL_S] at this ⊢;exact this
 ·have:=z4c .y L h u p;rw [Ax.inL_S,Ax.inL_S] at this ⊢;exact this
theorem in_u (q:Ax) {L:List R6} {p u w:Int} (h:q.inL L p u w): ∃a∈plQ q.ua L,∃b∈plQ q.ua L,a≤u∧u<b:=by
 obtain ⟨r,hr,_,h2,_⟩:=h;cases q
 ·exact ⟨r.b,(Jw _ L _).2 ⟨r,hr,.inl rfl⟩,r.e,(Jw _ L _).2 ⟨r,hr,.inr rfl⟩,h2⟩
 ·exact ⟨r.a,(Jw _ L _).2 ⟨r,hr,.inl rfl⟩,r.d,(Jw _ L _).2 ⟨r,hr,.inr rfl⟩,h2⟩
 ·exact ⟨r.a,(Jw _ L _).2 ⟨r,hr,.inl rfl⟩,r.d,(Jw _ L _).2 ⟨r,hr,.inr rfl⟩,h2⟩
theorem in_w (q:Ax) {L:List R6} {p u w:Int} (h:q.inL L p u w): ∃a∈plQ q.wa L,∃b∈plQ q.wa L,a≤w∧w<b:=by
 obtain ⟨r,hr,_,_,h2⟩:=h;cases q
 ·exact ⟨r.c,(Jw _ L _).2 ⟨r,hr,.inl rfl⟩,r.f,(Jw _ L _).2 ⟨r,hr,.inr rfl⟩,h2⟩
 ·exact ⟨r.c,(Jw _ L _).2 ⟨r,hr,.inl rfl⟩,r.f,(Jw _ L _).2 ⟨r,hr,.inr rfl⟩,h2⟩
 ·exact ⟨r.b,(Jw _ L _).2 ⟨r,hr,.inl rfl⟩,r.e,(Jw _ L _).2 ⟨r,hr,.inr rfl⟩,h2⟩
theorem at_nil (z:Int):atV ([]:List R6) z=[]:=rfl
namespace Dim
variable {α β:Type} (D:Dim α β)
theorem refS (hs: ∀a b,D.same a b=true↔a=b) (sec:Int→List β) (cs:List Int): ∀(k i:Nat) (s:Sw α β) (out:List α) (last:List β) (first:Nat),
  s.out=out→s.last=last→(last≠ []→s.first=first)→(last=[]→out.length≤first)→(0<i→s.fin=rd cs i)→(i=0→last=[])→
  (D.goS sec cs k i s).out =D.ref sec cs k i out last first
 | 0,i,s,out,last,first,h1,h2,h3,h4,h5,h6=>h1
 | k +1,i,s,out,last,first,h1,h2,h3,h4,h5,h6=>by
  subst h1 h2;have e1:D.goS sec cs (k+1) i s=D.goS sec cs k (i+1) (D.oneS (sec (rd cs i)) (rd cs i) (rd cs (i+1)) s):=rfl;rw [e1];unfold ref;rcases Yd (decide (0<(sec (rd cs i)).length)&&((s.fin == rd cs i)&&D.same s.last (sec (rd cs i)))) with q | q
  ·have e:D.oneS (sec (rd cs i)) (rd cs i) (rd cs (i+1)) s=⟨D.grow s.out s.first (rd cs (i+1)),s.last,s.first,rd cs (i+1)⟩:=by unfold oneS;rw [q];rfl
   simp only [Ac,As] at q;obtain ⟨q1,q2,q3⟩:=q;have q3:=(hs _ _).1 q3;have hne:s.last≠ []:=fun h=>by rw [h] at q3;rw [←q3] at q1;exact Ck _ q1
   have hi:0<i:=Nat.pos_of_ne_zero fun h=>hne (h6 h);have e2:(decide (0<i)&&D.same (sec (rd cs i)) s.last)=true:=by rw [Ah hi,Al,hs,q3]
   rw [e2,Ab,e];refine refS hs sec cs k (i+1) _ _ _ _ ?_ rfl h3 (fun h=>absurd h hne) (fun _=>rfl) (fun h=>by omega);rw [h3 hne]
  ·have e:D.oneS (sec (rd cs i)) (rd cs i) (rd cs (i+1)) s=⟨s.out++(sec (rd cs i)).map (D.put (rd cs i) (rd cs (i+1))),sec (rd cs i),s.out.length,rd cs (i+1)⟩:=by unfold oneS;rw [q];rfl
   rcases Yd (decide (0<i)&&D.same (sec (rd cs i)) s.last) with q2 | q2
   ·rw [q2,Ab,e];simp only [Ac,As] at q2;obtain ⟨hi,q3⟩:=q2;have q3:=(hs _ _).1 q3;rw [(hs s.last (sec (rd cs i))).2 q3.symm,Ai,h5 hi] at q;have hz:sec (rd cs i)=[]:=by
     cases h:sec (rd cs i) with
     | nil=>rfl
     | cons a b=>rw [h] at q;simp at q
    have hl:s.last=[]:=(by rw [←q3,hz]);have hf:=h4 hl;rw [hz,Bb,Az];refine refS hs sec cs k (i+1) _ _ _ _ ?_ hl.symm (fun h=>absurd hl h) (fun _=> ?_) (fun _=>rfl) (fun h=>by omega)
    ·exact (D.grow_nil _ _ _ hf).symm
    ·rw [D.grow_length];exact hf
   ·rw [q2,Aa,e];exact refS hs sec cs k (i+1) _ _ _ _ rfl rfl (fun _=>rfl) (fun h=>by rw [h];simp) (fun _=>rfl) (fun h=>by omega)
theorem refS0 (hs: ∀a b,D.same a b=true↔a=b) (sec:Int→List β) (cs:List Int):D.ref sec cs (cs.length - 1) 0 [] [] 0=(D.goS sec cs (cs.length - 1) 0 ⟨[],[],0,0⟩).out :=
 (D.refS hs sec cs _ 0 _ [] [] 0 rfl rfl (fun _=>rfl) (fun _=>Ao _) (fun h=>absurd h (Ck _)) (fun _=>rfl)).symm
end Dim
theorem u8j (l:List R4) (hv:l.all Vo=true) (x:Int):swV (D4.inn l x)=x0g 2 l [] x:=by
 have hin:=D4.inn_length l x;have hvi:(D4.inn l x).all z1o=true:=Au.2 fun s hs=>by obtain ⟨r,hr,_,_,rfl⟩:=x1k hs;have:=Au.1 hv r hr;simp only [Vo,z1o,Ac,As] at this ⊢;omega
 obtain ⟨c1,c2⟩:=y3y _ hvi;obtain ⟨y1,y2⟩:=Ye (z1r l++z1r []);have e2:x0g 2 l [] x=z1q (ysV l []) ((ysV l []).map fun y=>has4V l x y):=by
  unfold x0g
  congr 1
  exact B3 fun y _=>j4j l x y
 obtain ⟨d1,d2⟩:=u1r (ysV l []) y1 (fun y=>has4V l x y) (D4.inn l x) (fun s hs=>by
  obtain ⟨r,hr,_,_,rfl⟩:=x1k hs;unfold ysV;exact ⟨(y2 _).2 (AF.2 (.inl (AN.2 ⟨r,hr,by simp⟩))),(y2 _).2 (AF.2 (.inl (AN.2 ⟨r,hr,by simp⟩)))⟩) (fun y=>by
  unfold has4V;rw [List.any_eq_true];constructor
  ·rintro ⟨r,hr,h⟩;simp only [in4,Ac,As] at h;exact ⟨_,j1j hr h.1 h.2.1,h.2.2.1,h.2.2.2⟩
  ·rintro ⟨s,hs,h1,h2⟩;obtain ⟨r,hr,r1,r2,rfl⟩:=x1k hs;refine ⟨r,hr,?_⟩;simp only [in4,Ac,As];exact ⟨r1,r2,h1,h2⟩)
 rw [e2];exact v5j _ _ c1 d1 fun y=>by rw [c2,d2]
theorem u7t :swV []=[]:=by
 obtain ⟨h1,h2⟩:=y3y [] rfl;exact z2b z2q h1 fun q hq=>by obtain ⟨s,hs,_⟩:=(h2 q).1 hq;cases hs
theorem v3d {l:List R4} (hv: ∀r∈l,Vo r=true):Xa.can (joV 2 l [])∧ ∀p,ptL Xa.inB (joV 2 l []) p↔ptL Xa.inB l p:=by
 have e:joV 2 l []=(D4.goS (fun x=>swV (D4.inn l x)) (D4.cuts (l++[])) ((D4.cuts (l++[])).length - 1) 0 ⟨[],[],0,0⟩).out :=by
  rw [Az,joV,v3e,←j5d,←Dim.refS0 D4 z7h]
  congr 1
  funext x
  exact (u8j l (Au.2 hv) x).symm
 rw [e];have hs: ∀x,z2q.can (swV (D4.inn l x))∧ ∀y,ptL z2q.inB (swV (D4.inn l x)) y↔ptL z2q.inB (D4.inn l x) y:=fun x=>y3y _ (Uo hv x);obtain ⟨h1,h2⟩:=Dim.goJ_can z1n z7h z2q l [] (fun s _=>swV s) (fun x=>(hs x).1) u7t;refine ⟨h1,fun ⟨x,y⟩=> ?_⟩;rw [show ptL Xa.inB _ (x,y)↔_ from h2 x y,(hs x).2,Dim.pt_inn];rfl
def u2x (l:List R6):List R6:=D6.ref (y6y 2 l []) (D6.cuts l) ((D6.cuts l).length - 1) 0 [] [] 0
theorem jo_nil :joV 2 [] []=[]:=rfl
theorem w1t {l:List R6} (hv: ∀r∈l,z1i r=true):y6x.can (u2x l)∧ ∀x y z,inS (u2x l) x y z↔inS l x y z:=by
 have e:u2x l=(D6.goS (fun z=>joV 2 (D6.inn l z) []) (D6.cuts (l++[])) ((D6.cuts (l++[])).length - 1) 0 ⟨[],[],0,0⟩).out :=by rw [Az,←Dim.refS0 D6 z7g];rfl
 rw [e];have hq: ∀z,Xa.can (joV 2 (D6.inn l z) [])∧ ∀p,ptL Xa.inB (joV 2 (D6.inn l z) []) p↔ptL Xa.inB (D6.inn l z) p:=fun z=>v3d (z7a hv z);obtain ⟨h1,h2⟩:=Dim.goJ_can z3s z7g Xa l [] (fun s _=>joV 2 s []) (fun x=>(hq x).1) jo_nil;refine ⟨h1,fun x y z=> ?_⟩;rw [z6s,z6s,show ptL y6x.inB _ (z,x,y)↔_ from h2 z (x,y),(hq z).2,Dim.pt_inn];rfl
theorem u2b (a b:List R4):xsV a b=xsV (a++b) []:=by unfold xsV z2m;rw [Bt,List.flatMap_nil,Az]
theorem ys_app (a b:List R4):ysV a b=ysV (a++b) []:=by unfold ysV z1r;rw [Bt,List.flatMap_nil,Az]
theorem u8k (a b:List R4) (x:Int):x0g 2 a b x=x0g 2 (a++b) [] x:=by
 unfold x0g;rw [ys_app]
 congr 1
 exact B3 fun y _=>by unfold v5b y1g has4V;rw [List.any_append];show (_||_)=((_||_)||false);rw [Bool.or_false]
theorem v3f (a b:List R4): ∀(k i:Nat) (out:List R4) (last:List R2) (first:Nat),jF 2 a b k i out last first=jF 2 (a++b) [] k i out last first
 | 0,_,_,_,_=>rfl
 | k+1,i,out,last,first=>by unfold jF;rw [u2b,u8k,v3f a b k,v3f a b k]
theorem jo_app (a b:List R4):joV 2 a b=joV 2 (a++b) []:=by unfold joV;rw [u2b,v3f]
theorem at_app (a b:List R6) (z:Int):atV (a++b) z=atV a z++atV b z:=by unfold atV;rw [B7,By]
theorem v7b (a b:List R6) (z:Int):y6y 2 a b z=y6y 2 (a++b) [] z:=by unfold y6y;rw [jo_app,←at_app,at_nil]
theorem v4x (a b:List R6):Wo a b=D6.cuts (a++b):=by rw [j5c];unfold Wo z2l;rw [Bt,List.flatMap_nil,Az]
def okJ (a b:List R6):Nat→Nat→Bool
 | 0,_=>true
 | k+1,i=>bif z9t 2 a b (rd (D6.cuts (a++b)) i) then false else okJ a b k (i+1)
theorem j1s (a b:List R6): ∀(k i:Nat) (out:List R6) (last:List R4) (first:Nat),jsF 2 a b k i out last first=bif okJ a b k i then some (D6.ref (y6y 2 (a++b) []) (D6.cuts (a++b)) k i out last first) else none
 | 0,_,_,_,_=>rfl
 | k+1,i,out,last,first=>by
  unfold jsF okJ Dim.ref;rw [v4x];rcases Yd (z9t 2 a b (rd (D6.cuts (a++b)) i)) with q | q
  ·rw [q];rfl
  ·rw [q,Aa,Aa,v7b,j1s a b k,j1s a b k];have e:D6.same (y6y 2 (a++b) [] (rd (D6.cuts (a++b)) i)) last=Ur (y6y 2 (a++b) [] (rd (D6.cuts (a++b)) i)) last:=rfl;rw [e];cases (decide (0<i)&&Ur (y6y 2 (a++b) [] (rd (D6.cuts (a++b)) i)) last) <;> rfl
theorem jsO_J (a b:List R6):jsO 2 a b=bif okJ a b ((D6.cuts (a++b)).length - 1) 0 then some (u2x (a++b)) else none:=by unfold jsO;rw [j1s,v4x];rfl
theorem v3b {a b:List R6} (h:z2f 2 a b=true):Xe 2 a b=u2x (a++b)∧(u2x (a++b)).length ≤400:=by
 unfold z2f at h;unfold Xe;rw [jsO_J] at h ⊢;rcases Yd (okJ a b ((D6.cuts (a++b)).length - 1) 0) with q | q
 ·rw [q] at h ⊢;exact ⟨rfl,by have:=AC h;omega⟩
 ·rw [q] at h;cases h
theorem js_ok {a b:List R6} (hm: ∀z,z9t 2 a b z=false) (hl:(u2x (a++b)).length ≤400):z2f 2 a b=true:=by
 have ok: ∀k i,okJ a b k i=true:=fun k=>by
  induction k with
  | zero=>intro i;rfl
  | succ k ih=>intro i;unfold okJ;rw [hm];exact ih (i+1)
 unfold z2f;rw [jsO_J,ok];exact Ah (by omega)
theorem u1q {X Y:List R6} (hX:y6x.can X) (hY:y6x.can Y) (h: ∀x y z,inS X x y z↔inS Y x y z):X=Y:=
 y6x.uniq X Y hX hY fun ⟨z,x,y⟩=>by rw [←z6s,←z6s];exact h x y z
theorem x9i (l:List R6) (x y z:Int):ptL Xa.inB (D6.inn l z) (x,y)↔inS l x y z:=by rw [z6s,Dim.pt_inn];rfl
theorem sec_le {X l:List R6} {z:Int} (hX:y6x.can X) (hv: ∀r∈l,z1i r=true) (h:(∀x y,inS l x y z↔inS X x y z)∨ ∀x y,¬inS l x y z):(joV 2 (atV l z) []).length ≤X.length:=by
 obtain ⟨h1,h2⟩:=v3d (z7a hv z);rcases h with h | h
 ·obtain ⟨G,hG,e⟩:=hX;have:joV 2 (D6.inn l z) []=D6.inn X z:=Xa.uniq _ _ h1 (by rw [e];exact Dim.inn_can z3s Xa z G hG) fun ⟨x,y⟩=>by rw [h2,x9i,x9i];exact h x y
  show (joV 2 (D6.inn l z) []).length ≤_;rw [this];exact D6.inn_length X z
 ·have:joV 2 (D6.inn l z) []=[]:=z2b Xa h1 fun ⟨x,y⟩ hq=>h x y ((x9i l x y z).1 ((h2 (x,y)).1 hq));show (joV 2 (D6.inn l z) []).length ≤_;rw [this];exact AA _
open Go.Proofs Go.Sort Go.Shelf Go.RowKit Go.Lib
def stG {β:Type}:List (Kp β)→List Int
 | []=>[]
 | [g]=>[g.a,g.b]
 | g::h::r=>g.a::stG (h::r)
theorem w9n {β:Type}: ∀G:List (Kp β),G≠ []→(stG G).length =G.length+1
 | [],h=>absurd rfl h
 | [g],_=>rfl
 | g::h::r,_=>by show (stG (h::r)).length +1=_;rw [w9n (h::r) (by simp)];rfl
section
variable {β γ:Type} {M:Sem β γ}
def chG (M:Sem β γ) (G:List (Kp β)) (x:Int):Prop:= ∃q,¬(ptG M G (x - 1) q↔ptG M G x q)
theorem x6d : ∀(g:Kp β) (r:List (Kp β)),z0o M (g::r)→ ∀x∈stG (g::r),g.a≤x
 | g,[],h,x,hx=>by
  have:=h.head.1;have hx:x∈ [g.a,g.b]:=hx;simp only [AE,Bc,BX] at hx;rcases hx with rfl | rfl <;> omega
 | g,k::r,h,x,hx=>by
  have hx:x∈g.a::stG (k::r):=hx;rcases AE.1 hx with rfl | hx
  ·exact AU _
  ·have:=x6d k r h.tail x hx;have:=h.later k (by simp);have:=h.head.1;omega
theorem w9p : ∀G:List (Kp β),z0o M G→(stG G).Pairwise (· < ·)
 | [],_=>.nil
 | [g],h=>by have:=h.head.1;show [g.a,g.b].Pairwise (· < ·);simp [this]
 | g::k::r,h=>by refine AV.2 ⟨fun x hx=> ?_,w9p (k::r) h.tail⟩;have:=x6d k r h.tail x hx;have:=h.later k (by simp);have:=h.head.1;omega
theorem x2t {g:Kp β} {r:List (Kp β)} (h:z0o M (g::r)):chG M (g::r) g.a:=by obtain ⟨q,hq⟩:=M.some _ h.head.2.1 h.head.2.2;refine ⟨q,fun e=> ?_⟩;have:=h.low (e.2 ((h.sec0 ⟨AU _,h.head.1⟩ q).2 hq));omega
theorem w9o : ∀G:List (Kp β),z0o M G→ ∀x∈stG G,chG M G x
 | [],_,x,hx=>by cases hx
 | [g],h,x,hx=>by
  have hx:x∈ [g.a,g.b]:=hx;simp only [AE,Bc,BX] at hx;rcases hx with rfl | rfl
  ·exact x2t h
  ·obtain ⟨q,hq⟩:=M.some _ h.head.2.1 h.head.2.2;have hp:=h.head.1;refine ⟨q,fun e=> ?_⟩;have:=e.1 ((h.sec0 ⟨by omega,by omega⟩ q).2 hq);obtain ⟨k,hk,_⟩:=(h.rest g.b q).2 ⟨AU _,this⟩;cases hk
 | g::k::r,h,x,hx=>by
  have hx:x∈g.a::stG (k::r):=hx;rcases AE.1 hx with rfl | hx
  ·exact x2t h
  ·have h1:=x6d k r h.tail x hx;have h2:=h.later k (by simp);have hp:=h.head.1;obtain ⟨q,hq⟩:=w9o (k::r) h.tail x hx;by_cases e:g.b<x
   ·refine ⟨q,fun k1=>hq ?_⟩;rw [h.rest,h.rest,k1];constructor <;> exact fun ⟨_,m⟩=>⟨by omega,m⟩
   ·refine AI fun hn=> ?_;have hn: ∀q,ptG M (g::k::r) (x - 1) q↔ptG M (g::k::r) x q:=fun q=>AI fun m=>hn ⟨q,m⟩;cases h with
    | cons _ _ _ ok nx kk=>refine nx.2 (by omega) (M.uniq _ _ ok.2.1 kk.head.2.1 fun q=> ?_);have hk:=kk.head.1;rw [←(z0o.cons g k r ok nx kk).sec0 (x:=x - 1) ⟨by omega,by omega⟩ q,hn q,←kk.sec0 (x:=x) ⟨by omega,by omega⟩ q,(z0o.cons g k r ok nx kk).rest];exact ⟨fun m=>⟨by omega,m⟩,fun m=>m.2⟩
theorem v6z {G:List (Kp β)} (h:z0o M G) (U:List Int) (hU: ∀x,chG M G x→x∈U):G.length≤U.length - 1:=by
 cases G with
 | nil=>exact AA _
 | cons g r=>have:=z4n (stG (g::r)) U ((w9p _ h).imp fun {a b} k=>by omega) fun x hx=>hU x (w9o _ h x hx);rw [w9n _ (by simp)] at this;omega
end
theorem v5n {β γ:Type} {M:Sem β γ}: ∀G:List (Kp β),z0o M G→G.Pairwise fun g k=>g.b≤k.a
 | [],_=>.nil
 | g::r,h=>AV.2 ⟨h.later,v5n r h.tail⟩
theorem v3w {α β:Type} (D:Dim α β) (k:Nat): ∀G:List (Kp β),(∀g∈G,g.s.length≤k)→(D.flat G).length ≤G.length*k
 | [],_=>AA _
 | g::r,h=>by have ih:=v3w D k r fun x hx=>h x (by simp [hx]);have:=h g (by simp);show ((g.s.map (D.put g.a g.b))++D.flat r).length ≤_;rw [Ar,AS,AW,Ch];omega
theorem v5l {l:List R4} (hc:Xa.can l) (P:Int→Int→Prop) (hp: ∀x y,ptL Xa.inB l (x,y)↔P x y) (U:List Int) (hU: ∀x y,¬(P (x - 1) y↔P x y)→x∈U) (k:Nat)
  (hk: ∀(x:Int) (s:List R2),z2q.can s→(∀y,ptL z2q.inB s y↔P x y)→s.length≤k):l.length≤(U.length - 1)*k:=by
 obtain ⟨G,hG,rfl⟩:=hc;have e: ∀x y,ptG z2q G x y↔P x y:=fun x y=>by rw [←hp];exact (Dim.flat_pt z1n z2q G x y).symm
 refine AL (v3w D4 k G fun g hg=>hk g.a g.s (hG.all g hg).2.1 fun y=> ?_) (AJ k (v6z hG U fun x ⟨q,hq⟩=>hU x q (by rw [←e,←e];exact hq)));have hg1:=(hG.all g hg).1;have c1:=Dim.inn_can z1n z2q g.a G hG;rw [←hp];constructor
 ·intro m;exact (Dim.flat_pt z1n z2q G g.a y).2 ⟨g,hg,AU _,hg1,m⟩
 ·intro m;obtain ⟨k,hk,k1,k2,k3⟩:=(Dim.flat_pt z1n z2q G g.a y).1 m;have:k=g:=by
   obtain ⟨i,hi,ei⟩:=AZ hg;obtain ⟨j,hj,ej⟩:=AZ hk;have pw:=v5n G hG;have pw:=Bp.1 pw;rcases BC i j with q | q | q
   ·have:=pw i j hi hj q;rw [ei,ej] at this;omega
   ·subst q;rw [←ei,ej]
   ·have:=pw j i hj hi q;have:=(hG.all k hk).1;rw [ei,ej] at*;omega
  rw [←this];exact k3
theorem u6y (c:Nat): ∀(l E:List Int),l.Pairwise (· ≠ ·)→(∀x∈l,c≤E.count x)→c*l.length≤E.length
 | [],E,_,_=>AA _
 | x::l,E,h,hs=>by
  obtain ⟨h1,h2⟩:=AV.1 h;have hx:=hs x (by simp);have:=u6y c l (E.filter fun y=> !(y == x)) h2 fun y hy=>by rw [List.count_filter (by simp [(h1 y hy).symm])];exact hs y (by simp [hy])
  have e:E.length=E.count x+(E.filter fun y=> !(y == x)).length :=by
   have:=List.length_eq_countP_add_countP (fun y=>y == x) (l:=E);rw [this,List.countP_eq_length_filter (p:=fun a=>decide (¬(a == x)=true))]
   congr 2
   refine List.filter_congr fun a _=> ?_;cases a == x <;> rfl
  rw [AW,Nat.mul_succ];omega
theorem x6e {s:List R2} (hc:z2q.can s) (E:List Int) (c:Nat) (hE: ∀y,¬(ptL z2q.inB s (y - 1)↔ptL z2q.inB s y)→c≤E.count y):c*(2*s.length)≤E.length:=by have hc:Can s:=hc;have:=u6y c (y6d s) E ((y6c hc).imp fun {a b} k=>by omega) fun y hy=>hE y fun e=>chg hc hy e;rwa [Qv] at this
theorem w3s {E:Int→Int}: ∀{l:List Int},v4n E l=0→ ∀p∈l,E p=0
 | [],_,p,hp=>by cases hp
 | x::l,h,p,hp=>by
  unfold v4n at h;cases g:(E x != 0) with
  | true=>rw [g,Ab] at h;rw [h] at g;cases g
  | false=>
   rw [g,Aa] at h;rcases AE.1 hp with rfl | hp
   ·simpa using g
   ·exact w3s h p hp
theorem Qr {e x:Int} (h:(bif e != 0 then e else x)=0):e=0∧x=0:=by
 cases g:(e != 0) with
 | true=>rw [g,Ab] at h;rw [h] at g;cases g
 | false=>rw [g,Aa] at h;exact ⟨by simpa using g,h⟩
theorem u1m {L:List R6} (h:w6o L=0) (q:Ax) (s:Bool):z8u q s L=0:=by unfold w6o at h;obtain ⟨h1,h⟩:=Qr h;obtain ⟨h2,h⟩:=Qr h;obtain ⟨h3,h⟩:=Qr h;obtain ⟨h4,h⟩:=Qr h;obtain ⟨h5,h⟩:=Qr h;obtain ⟨h6,_⟩:=Qr h;cases q <;> cases s <;> assumption
theorem z8b {L:List R6} (hv: ∀r∈L,z1i r=true) (q:Ax) {p:Int} (h:p∈plQ q L): -1000000≤p∧p≤1000000:=by obtain ⟨r,hr,h⟩:=(Jw q L p).1 h;obtain ⟨_,h1,h2,h3⟩:=q.val (hv r hr);rcases h with rfl | rfl <;> omega
theorem v2u {L:List R6} (hv: ∀r∈L,z1i r=true) (q:Ax) (s:Bool) (p:Int) (hp: -1000000≤p∧p≤1000000) (h:Ut q L p s=0):
  Xa.can (Jz q L p s)∧ ∀u w,ptL Xa.inB (Jz q L p s) (u,w)↔(match s with
   | true=>q.inL L (p - 1) u w∧ ¬q.inL L p u w
   | false=>q.inL L p u w∧ ¬q.inL L (p - 1) u w):=by
 have w:wrap .i64 (p - 1)=p - 1:=Zk (by omega);unfold Ut at h;obtain ⟨hE,h⟩:=Qr h;have hE':=hE;unfold w6q at hE';obtain ⟨e1,e2⟩:=Qr hE';rw [w] at e1 h;unfold Jz;rw [hE,w];have one: ∀x,Jk q L x=0→Xa.can (Ya q L x)∧(∀u w,ptL Xa.inB (Ya q L x) (u,w)↔q.inL L x u w)∧ ∀r∈Ya q L x,Vo r=true:=fun x hx=>by obtain ⟨m1,m2,m3⟩:=x7r (l:=z3j q L x) hx;obtain ⟨c,pt⟩:=z1j m2 m1;unfold Ya;rw [m3];exact ⟨c,fun u w=>by rw [pt,v4u],z5l c fun u v k=>z2n m2 ((pt _).1 k)⟩
 obtain ⟨a1,a2,a3⟩:=one _ e1;obtain ⟨b1,b2,b3⟩:=one _ e2;cases s with
 | true=>have h:rgE .d (Ya q L (p - 1)) (Ya q L p)=0:=h;show Xa.can (Vy .d (Ya q L (p - 1)) (Ya q L p))∧ ∀u w,ptL Xa.inB (Vy .d (Ya q L (p - 1)) (Ya q L p)) (u,w)↔_;rw [w2h .d h];obtain ⟨j1,j2,_⟩:=z1k 2 a3 b3;exact ⟨j1,fun u w=>by rw [show ptL Xa.inB (rgJ Op.d.k _ _) (u,w)↔_ from j2 (u,w),x8j,a2,b2]⟩
 | false=>have h:rgE .d (Ya q L p) (Ya q L (p - 1))=0:=h;show Xa.can (Vy .d (Ya q L p) (Ya q L (p - 1)))∧ ∀u w,ptL Xa.inB (Vy .d (Ya q L p) (Ya q L (p - 1))) (u,w)↔_;rw [w2h .d h];obtain ⟨j1,j2,_⟩:=z1k 2 b3 a3;exact ⟨j1,fun u w=>by rw [show ptL Xa.inB (rgJ Op.d.k _ _) (u,w)↔_ from j2 (u,w),x8j,a2,b2]⟩
def inI (q:Ax) (L:List R6) (u w p:Int):Int:=(z2a (q.inL L p u w):Int)
theorem w6i (A B:Prop):(z2a (A∧ ¬B):Int) - (z2a (B∧ ¬A):Int)=(z2a A:Int) - (z2a B:Int):=by
 by_cases a:A <;> by_cases b:B
 ·rw [Up fun k=>k.2 b,Up fun k=>k.2 a,Qq a,Qq b];rfl
 ·rw [Qq ⟨a,b⟩,Up fun k=>b k.1,Qq a,Up b]
 ·rw [Up fun k=>a k.1,Qq ⟨b,a⟩,Up a,Qq b]
 ·rw [Up fun k=>a k.1,Up fun k=>b k.1,Up a,Up b]
theorem tele (f:Int→Int): ∀(P:List Int) (lo:Int),P.Pairwise (· < ·)→(∀p∈P,lo≤p)→(∀x,lo≤x→f (x - 1)≠f x→x∈P)→ ∀hi,(∀p∈P,p≤hi)→lo - 1≤hi→(P.map fun p=>f (p - 1) - f p).sum =f (lo - 1) - f hi
 | [],lo,_,_,hc,hi,_,hlo=>by
  have: ∀n:Nat,f (lo - 1+n)=f (lo - 1):=fun n=>by
   induction n with
   | zero=>simp
   | succ n ih=>
    rw [←ih];refine AI fun hn=> ?_;have:=hc (lo - 1+(n+1:Nat)) (by omega) (by
     rw [show lo - 1+((n+1:Nat):Int) - 1=lo - 1+(n:Int) by omega];exact fun e=>hn e.symm)
    cases this
  have k:=this (hi - (lo - 1)).toNat;rw [show lo - 1+((hi - (lo - 1)).toNat :Int)=hi by omega] at k;rw [k];simp
 | p ::P,lo,hP,hl,hc,hi,hh,hlo=>by
  obtain ⟨h1,h2⟩:=AV.1 hP;have ih:=tele f P (p+1) h2 (fun x hx=>by have:=h1 x hx;omega) (fun x hx hn=>by
   have:=hl p (by simp);rcases AE.1 (hc x (by omega) hn) with e | e
   ·omega
   ·exact e) hi (fun x hx=>hh x (by simp [hx])) (by have:=hh p (by simp);omega)
  have hlp:=hl p (by simp);have e:f (p - 1)=f (lo - 1):=by
   have: ∀n:Nat,lo - 1+n≤p - 1→f (lo - 1+n)=f (lo - 1):=fun n=>by
    induction n with
    | zero=>intro _;simp
    | succ n ih=>
     intro hn;rw [←ih (by omega)];refine AI fun hne=> ?_;have:=hc (lo - 1+(n+1:Nat)) (by omega) (by
      rw [show lo - 1+((n+1:Nat):Int) - 1=lo - 1+(n:Int) by omega];exact fun e=>hne e.symm)
     rcases AE.1 this with e | e
     ·omega
     ·have:=h1 _ e;omega
   have k:=this (p - 1 - (lo - 1)).toNat (by omega);rwa [show lo - 1+((p - 1 - (lo - 1)).toNat :Int)=p - 1 by omega] at k
  rw [A4,Cl,ih,e,show p+1 - 1=p by omega];omega
def fM (q:Ax) (s:Bool) (L:List R6):List R7:=(plQ q L).flatMap fun p=>(fcF q s L p).map (qd q s p)
def FM (L:List R6):List R7:=fM .x true L++fM .x false L++fM .y true L++fM .y false L++fM .z true L++fM .z false L
def Qs (q:Ax) (L:List R6):List (Int×R4):=(plQ q L).flatMap fun p=>(fcF q true L p++fcF q false L p).map fun t=>(p,t)
def PQ (q:Ax) (L:List R6):List Int:=(Qs q L).map (·.1)
def EQ (q:Ax) (L:List R6):List Int:=(Qs q L).flatMap fun x=>[x.2.b,x.2.d]
theorem EQ_len (q:Ax) (L:List R6):(EQ q L).length =2*(Qs q L).length :=by
 unfold EQ
 induction Qs q L with
 | nil=>rfl
 | cons x l ih=>rw [Be,Ar,ih];simp only [AW,Bq];omega
theorem u7h (q:Ax) (L:List R6):(Qs q L).length =(fM q true L).length +(fM q false L).length :=by
 unfold Qs fM
 induction plQ q L with
 | nil=>rfl
 | cons p P ih=>simp only [Be,Ar,AS] at ih ⊢;omega
theorem u7i (L:List R6):(FM L).length =(Qs .x L).length +(Qs .y L).length +(Qs .z L).length :=by unfold FM;simp only [Ar,u7h];omega
theorem w4b (q:Ax) (L:List R6):(Qs q.ua L).length +(Qs q.wa L).length +(Qs q L).length =(FM L).length :=by
 rw [u7i];cases q
 ·show (Qs .y L).length +(Qs .z L).length +(Qs .x L).length =_;omega
 ·show (Qs .x L).length +(Qs .z L).length +(Qs .y L).length =_;omega
 ·show (Qs .x L).length +(Qs .y L).length +(Qs .z L).length =_;omega
theorem two_of {Q:List (Int×R4)} {w:Int} {x y:Int×R4} (hx:x∈Q) (hy:y∈Q) (hxy:x≠y) (h1:w=x.2.b∨w=x.2.d) (h2:w=y.2.b∨w=y.2.d):2≤(Q.flatMap fun x=>[x.2.b,x.2.d]).count w:=by
 obtain ⟨s,t,rfl⟩:=List.append_of_mem hx;have one: ∀{R:List (Int×R4)} {z:Int×R4},z∈R→(w=z.2.b∨w=z.2.d)→1≤(R.flatMap fun x=>[x.2.b,x.2.d]).count w:=fun {R z} hz hw=>by refine List.count_pos_iff.2 (AN.2 ⟨z,hz,?_⟩);simp only [AE,Bc,BX];exact hw
 have c1:=one (R:=[x]) (z:=x) (by simp) h1;rw [Bt,Be,List.count_append,List.count_append];rw [Be,List.flatMap_nil,Az] at c1;rcases AF.1 hy with m | m
 ·have:=one m h2;omega
 ·rcases AE.1 m with e | m
  ·exact absurd e.symm hxy
  ·have:=one m h2;omega
theorem x4q {l:List R4} {u w:Int} (h: ∀t∈l,¬(w=t.b∨w=t.d)):ptL Xa.inB l (u,w - 1)↔ptL Xa.inB l (u,w):=by
 rw [u5j,u5j];constructor
 ·rintro ⟨t,ht,h1,h2⟩;have:=h t ht;exact ⟨t,ht,h1,by omega⟩
 ·rintro ⟨t,ht,h1,h2⟩;have:=h t ht;exact ⟨t,ht,h1,by omega⟩
section
variable {L:List R6} (h:Vw L=0)
include h
theorem sct (q:Ax) (p:Int):Xa.can (D4.out (z3j q L p))∧(∀u v,ptL Xa.inB (D4.out (z3j q L p)) (u,v)↔q.inL L p u v)∧ ∀r∈D4.out (z3j q L p),Vo r=true:=by obtain ⟨hl,hv,_,_⟩:=Vx h;obtain ⟨h1,h2⟩:=z1j (w0h q hv p) (AL (v4v q L p) hl);exact ⟨h1,fun u v=>by rw [h2,v4u],z5l h1 fun u v k=>z2n (w0h q hv p) ((h2 _).1 k)⟩
theorem Jt (q:Ax) (s:Bool) (p:Int):Xa.can (fcF q s L p)∧ ∀u v,ptL Xa.inB (fcF q s L p) (u,v)↔(match s with
   | true=>q.inL L (p - 1) u v∧ ¬q.inL L p u v
   | false=>q.inL L p u v∧ ¬q.inL L (p - 1) u v):=by
 obtain ⟨a1,a2,a3⟩:=sct h q (p - 1);obtain ⟨b1,b2,b3⟩:=sct h q p;cases s with
 | true=>obtain ⟨j1,j2,_⟩:=z1k 2 a3 b3;exact ⟨j1,fun u v=>by rw [show ptL Xa.inB (fcF q true L p) (u,v)↔_ from j2 (u,v),x8j,a2,b2]⟩
 | false=>obtain ⟨j1,j2,_⟩:=z1k 2 b3 a3;exact ⟨j1,fun u v=>by rw [show ptL Xa.inB (fcF q false L p) (u,v)↔_ from j2 (u,v),x8j,a2,b2]⟩
theorem fc_val (q:Ax) (s:Bool) (p:Int): ∀t∈fcF q s L p,Vo t=true:=by
 obtain ⟨c,pts⟩:=Jt h q s p;obtain ⟨_,a2,a3⟩:=sct h q (p - 1);obtain ⟨_,b2,b3⟩:=sct h q p;refine z5l c fun u v k=> ?_;have k:=(pts u v).1 k;cases s with
 | true=>exact z2n a3 ((a2 u v).2 k.1)
 | false=>exact z2n b3 ((b2 u v).2 k.1)
theorem j2d {q:Ax} {s:Bool} {p:Int} {t:R4} (ht:t∈fcF q s L p):p∈plQ q L:=AI fun hn=>by
 have hv:=fc_val h q s p t ht;simp only [Vo,Ac,As] at hv;have k:=((Jt h q s p).2 t.a t.b).1 ((u5j _ _ _).2 ⟨t,ht,⟨by omega,by omega⟩,by omega,by omega⟩);have e:=z4c q L hn t.a t.b;cases s with
 | true=>exact k.2 (e.1 k.1)
 | false=>exact k.2 (e.2 k.1)
theorem v6d {q:Ax} {s:Bool} {p:Int} {t:R4} (ht:t∈fcF q s L p):(p,t)∈Qs q L:=by
 refine AN.2 ⟨p,j2d h ht,AX.2 ⟨t,AF.2 ?_,rfl⟩⟩;cases s with
 | true=>exact .inl ht
 | false=>exact .inr ht
theorem v4d (q:Ax) (s:Bool) (p:Int):(fcF q s L p).length ≤(FM L).length :=by
 have h3:=w4b q L;have hq:=u7h q L;have key:(fcF q s L p).length ≤(fM q s L).length :=by
  by_cases hp:p∈plQ q L
  ·unfold fM;obtain ⟨a,b,e⟩:=List.append_of_mem hp;rw [e,Bt,Be,Ar,Ar,AS];omega
  ·have:fcF q s L p=[]:=by
    cases e:fcF q s L p with
    | nil=>rfl
    | cons t r=>exact absurd (j2d h (s:=s) (p:=p) (t:=t) (by rw [e];simp)) hp
   rw [this];exact AA _
 cases s <;> omega
theorem z8x {q:Ax} {p u v:Int} (hn: ¬(q.inL L (p - 1) u v↔q.inL L p u v)):p∈PQ q L:=by
 have go: ∀s,ptL Xa.inB (fcF q s L p) (u,v)→p∈PQ q L:=fun s k=>by obtain ⟨t,ht,_⟩:=k;exact AX.2 ⟨_,v6d h ht,rfl⟩
 by_cases a:q.inL L (p - 1) u v
 ·exact go true (((Jt h q true p).2 u v).2 ⟨a,fun b=>hn ⟨fun _=>b,fun _=>a⟩⟩)
 ·by_cases b:q.inL L p u v
  ·exact go false (((Jt h q false p).2 u v).2 ⟨b,a⟩)
  ·exact absurd ⟨fun k=>absurd k a,fun k=>absurd k b⟩ hn
theorem v3m (q:Ax) (p u v:Int):q.inL L p u v↔(q.inL L (p - 1) u v∧ ¬ptL Xa.inB (fcF q true L p) (u,v))∨ptL Xa.inB (fcF q false L p) (u,v):=by rw [(Jt h q true p).2 u v,(Jt h q false p).2 u v];show _↔(_∧ ¬(q.inL L (p - 1) u v∧ ¬q.inL L p u v))∨(q.inL L p u v∧ ¬q.inL L (p - 1) u v);by_cases a:q.inL L (p - 1) u v <;> by_cases b:q.inL L p u v <;> simp [a,b]
theorem v3l (q:Ax) (p u v:Int):q.inL L (p - 1) u v↔(q.inL L p u v∧ ¬ptL Xa.inB (fcF q false L p) (u,v))∨ptL Xa.inB (fcF q true L p) (u,v):=by rw [(Jt h q true p).2 u v,(Jt h q false p).2 u v];show _↔(_∧ ¬(q.inL L p u v∧ ¬q.inL L (p - 1) u v))∨(q.inL L (p - 1) u v∧ ¬q.inL L p u v);by_cases a:q.inL L (p - 1) u v <;> by_cases b:q.inL L p u v <;> simp [a,b]
theorem y5j (q:Ax) {p u v:Int} (k:q.inL L p u v): -1000000≤p∧p<1000000:=by obtain ⟨_,hv,_,_⟩:=Vx h;obtain ⟨r,hr,⟨h1,h2⟩,_⟩:=k;obtain ⟨_,_,h3,h4⟩:=q.val (hv r hr);omega
theorem bel (q:Ax) {u w z:Int} (hno: ∀x∈Qs q L,x.1≤z→ ¬(w=x.2.b∨w=x.2.d)) (n:Nat): ∀p:Int,p= -1000001+(n:Int)→p≤z→(q.inL L p u (w - 1)↔q.inL L p u w):=by
 induction n with
 | zero=>intro p hp _;exact ⟨fun k=>by have:=(y5j h q k).1;omega,fun k=>by have:=(y5j h q k).1;omega⟩
 | succ n ih=>intro p hp hz;have ih:=ih (p - 1) (by omega) (by omega);have e: ∀s,ptL Xa.inB (fcF q s L p) (u,w - 1)↔ptL Xa.inB (fcF q s L p) (u,w):=fun s=>x4q fun t ht=>hno _ (v6d h ht) hz;rw [v3m h q p,v3m h q p u w,e,e,ih]
theorem abv (q:Ax) {u w z:Int} (hno: ∀x∈Qs q L,z<x.1→ ¬(w=x.2.b∨w=x.2.d)) (n:Nat): ∀p:Int,p=1000000 - (n:Int)→z≤p→(q.inL L p u (w - 1)↔q.inL L p u w):=by
 induction n with
 | zero=>intro p hp _;exact ⟨fun k=>by have:=(y5j h q k).2;omega,fun k=>by have:=(y5j h q k).2;omega⟩
 | succ n ih=>intro p hp hz;have ih:=ih (p+1) (by omega) (by omega);have e: ∀s,ptL Xa.inB (fcF q s L (p+1)) (u,w - 1)↔ptL Xa.inB (fcF q s L (p+1)) (u,w):=fun s=>x4q fun t ht=>hno _ (v6d h ht) (by show z<p+1;omega);have a:=v3l h q (p+1) u (w - 1);have b:=v3l h q (p+1) u w;rw [show p+1 - 1=p by omega] at a b;rw [a,b,e,e,ih]
theorem v6n (q:Ax) {z u w:Int} (hn: ¬(q.inL L z u (w - 1)↔q.inL L z u w)):2≤(EQ q L).count w:=by
 have hz: -1000000≤z∧z<1000000:=by
  by_cases a:q.inL L z u w
  ·exact y5j h q a
  ·by_cases b:q.inL L z u (w - 1)
   ·exact y5j h q b
   ·exact absurd ⟨fun k=>absurd k b,fun k=>absurd k a⟩ hn
 have h1: ∃x∈Qs q L,x.1≤z∧(w=x.2.b∨w=x.2.d):=AI fun hc=>hn (by
  exact bel h q (u:=u) (w:=w) (z:=z) (fun x hx k1 k2=>hc ⟨x,hx,k1,k2⟩) (z+1000001).toNat z (by omega) (AU _))
 have h2: ∃x∈Qs q L,z<x.1∧(w=x.2.b∨w=x.2.d):=AI fun hc=>hn (by
  exact abv h q (u:=u) (w:=w) (z:=z) (fun x hx k1 k2=>hc ⟨x,hx,k1,k2⟩) (1000000 - z).toNat z (by omega) (AU _))
 obtain ⟨x,hx,x1,x2⟩:=h1;obtain ⟨y,hy,y1,y2⟩:=h2;exact two_of hx hy (fun e=>by rw [e] at x1;omega) x2 y2
theorem chg_u (q:Ax) {p x w:Int} (hn: ¬(q.inL L p (x - 1) w↔q.inL L p x w)):x∈PQ q.ua L:=by
 cases q
 ·exact z8x h (q:=.y) (u:=p) (v:=w) fun e=>hn (by rw [Ax.inL_S,Ax.inL_S] at e ⊢;exact e)
 ·exact z8x h (q:=.x) (u:=p) (v:=w) fun e=>hn (by rw [Ax.inL_S,Ax.inL_S] at e ⊢;exact e)
 ·exact z8x h (q:=.x) (u:=w) (v:=p) fun e=>hn (by rw [Ax.inL_S,Ax.inL_S] at e ⊢;exact e)
theorem chg_w (q:Ax) {p u t:Int} (hn: ¬(q.inL L p u (t - 1)↔q.inL L p u t)):t∈PQ q.wa L:=by
 cases q
 ·exact z8x h (q:=.z) (u:=p) (v:=u) fun e=>hn (by rw [Ax.inL_S,Ax.inL_S] at e ⊢;exact e)
 ·exact z8x h (q:=.z) (u:=u) (v:=p) fun e=>hn (by rw [Ax.inL_S,Ax.inL_S] at e ⊢;exact e)
 ·exact z8x h (q:=.y) (u:=u) (v:=p) fun e=>hn (by rw [Ax.inL_S,Ax.inL_S] at e ⊢;exact e)
theorem w2l (q:Ax) (h80:(FM L).length ≤80) {l:List R4} (hc:Xa.can l) (z1 z2:Int) (hp: ∀u v,ptL Xa.inB l (u,v)↔q.inL L z1 u v∧q.inL L z2 u v):l.length≤400∧ ∀x,(D4.inn l x).length ≤40:=by
 have h3:=w4b q L;have sp: ∀(x:Int) (s:List R2),z2q.can s→(∀y,ptL z2q.inB s y↔q.inL L z1 x y∧q.inL L z2 x y)→2*s.length≤(Qs q.wa L).length ∧2*s.length≤(Qs q L).length :=fun x s hs hy=>by
  have two: ∀y,¬(ptL z2q.inB s (y - 1)↔ptL z2q.inB s y)→ ∃z,¬(q.inL L z x (y - 1)↔q.inL L z x y):=fun y hn=>AI fun hc=>hn (by
   have e: ∀z,q.inL L z x (y - 1)↔q.inL L z x y:=fun z=>AI fun m=>hc ⟨z,m⟩;rw [hy,hy,e,e])
  have a:=x6e hs (PQ q.wa L) 1 fun y hn=>by obtain ⟨z,hz⟩:=two y hn;exact List.count_pos_iff.2 (chg_w h q hz)
  have b:=x6e hs (EQ q L) 2 fun y hn=>by obtain ⟨z,hz⟩:=two y hn;exact v6n h q hz
  rw [EQ_len] at b;unfold PQ at a;rw [AS] at a;omega
 have hk: ∀k,k≤20→(79 - 4*k)*k≤400:=by decide
 refine ⟨?_,fun x=> ?_⟩
 ·have cnt:=v5l hc (fun u v=>q.inL L z1 u v∧q.inL L z2 u v) hp (PQ q.ua L) (fun x y hn=>by
   by_cases e1:q.inL L z1 (x - 1) y↔q.inL L z1 x y
   ·by_cases e2:q.inL L z2 (x - 1) y↔q.inL L z2 x y
    ·exact absurd (by show (_∧_)↔(_∧_);rw [e1,e2]) hn
    ·exact chg_u h q e2
   ·exact chg_u h q e1) (min ((Qs q.wa L).length / 2) ((Qs q L).length / 2)) (fun x s hs hy=>by
    have:=sp x s hs hy;omega)
  unfold PQ at cnt;rw [AS] at cnt;have hm1:min ((Qs q.wa L).length / 2) ((Qs q L).length / 2)≤20:=by omega
  have hm2:=AJ (min ((Qs q.wa L).length / 2) ((Qs q L).length / 2)) (show (Qs q.ua L).length - 1≤79 - 4*min ((Qs q.wa L).length / 2) ((Qs q L).length / 2) by omega);have:=hk _ hm1;omega
 ·have:=sp x (D4.inn l x) (y3j hc x) fun y=>by rw [←hp];exact z6o l x y
  omega
theorem dM_fM (hz:w6o L=0) (q:Ax) (s:Bool):dM q s L=fM q s L:=by obtain ⟨_,hv,_,_⟩:=Vx h;unfold dM v4q fM;refine z2i fun p hp=> ?_;obtain ⟨c,pts⟩:=v2u hv q s p (z8b hv q hp) (w3s (u1m hz q s) p hp);obtain ⟨c',pts'⟩:=Jt h q s p;rw [Xa.uniq _ _ c c' fun ⟨u,v⟩=>by rw [pts,pts'];cases s <;> exact Iff.rfl]
theorem u6g (hz:w6o L=0):w3a L=FM L:=by unfold w3a FM;simp only [dM_fM h hz]
theorem u6h (h80:(FM L).length ≤80) (q:Ax) (s:Bool) {p:Int} (hp: -1000000≤p∧p≤1000000):Ut q L p s=0:=by
 obtain ⟨hl,hv,_,_⟩:=Vx h;have w:wrap .i64 (p - 1)=p - 1:=Zk (by omega);have one: ∀x,Xn (z3j q L x)=0∧Zc (z3j q L x)=D4.out (z3j q L x)∧(D4.out (z3j q L x)).length ≤400∧ ∀y,(D4.inn (D4.out (z3j q L x)) y).length ≤40:=fun x=>by
  obtain ⟨c,pts,_⟩:=sct h q x;obtain ⟨r1,r2⟩:=w2l h q h80 c x x fun u v=>by rw [pts];exact ⟨fun k=>⟨k,k⟩,fun k=>k.1⟩
  obtain ⟨m0,m1⟩:=z7u (w0h q hv x) (AL (v4v q L x) hl) r1;exact ⟨m1,m0,r1,r2⟩
 obtain ⟨a1,a2,a3,a4⟩:=one (p - 1);obtain ⟨b1,b2,b3,b4⟩:=one p;obtain ⟨ca,_,va⟩:=sct h q (p - 1);obtain ⟨cb,_,vb⟩:=sct h q p;have fl:=fun s=>v4d h q s p;have e:w6q q L p=0:=by unfold w6q Jk;rw [w,a1,b1];rfl
 unfold Ut;rw [e,w];unfold Ya;rw [a2,b2];cases s with
 | true=>exact x0q .d a3 b3 va vb ca cb (fun x=>by have:=a4 x;have:=b4 x;omega) (AL (fl true) (by omega))
 | false=>exact x0q .d b3 a3 vb va cb ca (fun x=>by have:=a4 x;have:=b4 x;omega) (AL (fl false) (by omega))
theorem j1h (h80:(FM L).length ≤80):w6o L=0:=by
 obtain ⟨hl,hv,_,_⟩:=Vx h;have d: ∀q s,z8u q s L=0:=fun q s=>x4p _ _ fun p hp=>u6h h h80 q s (z8b hv q hp);have f: ∀q s,dM q s L=fM q s L:=fun q s=>by unfold dM v4q fM;refine z2i fun p hp=> ?_;obtain ⟨c,pts⟩:=v2u hv q s p (z8b hv q hp) (u6h h h80 q s (z8b hv q hp));obtain ⟨c',pts'⟩:=Jt h q s p;rw [Xa.uniq _ _ c c' fun ⟨u,v⟩=>by rw [pts,pts'];cases s <;> exact Iff.rfl]
 have e:w3a L=FM L:=by unfold w3a FM;simp only [f]
 unfold w6o;simp only [d,e];rw [Ay (by omega)];rfl
end
theorem fM_a {q:Ax} {s:Bool} {L:List R6} {r:R7} (h:r∈fM q s L):r.a=2*q.ix+sdI s:=by obtain ⟨p,_,h⟩:=AN.1 h;obtain ⟨t,_,rfl⟩:=AX.1 h;exact qd_a q s p t
section
variable {L:List R6} (h:Vw L=0)
include h
theorem u8i (z:Int):Xa.can (D6.inn L z)∧(∀r∈D6.inn L z,Vo r=true)∧(D6.inn L z).length ≤400∧D4.out (D6.inn L z)=D6.inn L z:=by
 obtain ⟨hl,hv,_,_⟩:=Vx h;obtain ⟨G,hG,e⟩:=v0f h;have c:Xa.can (D6.inn L z):=by rw [e];exact Dim.inn_can z3s Xa z G hG
 have v:=z7a hv z;have n:=AL (D6.inn_length L z) hl;exact ⟨c,v,n,Xa.uniq _ _ (z1j v (by omega)).1 c (z1j v (by omega)).2⟩
theorem facg_z (z:Int):upF .z L z=rgJ 2 (D6.inn L (z - 1)) (D6.inn L z)∧dnF .z L z=rgJ 2 (D6.inn L z) (D6.inn L (z - 1)):=by unfold upF dnF;rw [v4w,v4w,(u8i h z).2.2.2,(u8i h (z - 1)).2.2.2];exact ⟨rfl,rfl⟩
theorem u5k (q:Ax) (s:Bool) {p:Int} (hp:p ∉ plQ q L):fcF q s L p=[]:=by
 cases e:fcF q s L p with
 | nil=>rfl
 | cons t r=>exact absurd (j2d h (s:=s) (p:=p) (t:=t) (by rw [e];simp)) hp
theorem w9a (z:Int):zQ 4 (FM L) z=upF .z L z∧zQ 5 (FM L) z=dnF .z L z:=by
 have f4:=x5q true (fcF .z true L) z (plQ .z L) (z9p .z L) fun hn=>u5k h .z true hn;have f5:=x5q false (fcF .z false L) z (plQ .z L) (z9p .z L) fun hn=>u5k h .z false hn;have no: ∀(d:Int) (q:Ax) (s:Bool),d≠2*q.ix+sdI s→zQ d (fM q s L) z=[]:=fun d q s hd=>zQ_nil z fun r hr e=>hd (e ▸ fM_a hr);unfold FM;constructor
 ·rw [We,We,We,We,We,no 4 .x true (by decide),no 4 .x false (by decide),no 4 .y true (by decide),no 4 .y false (by decide),no 4 .z false (by decide),Az];exact f4
 ·rw [We,We,We,We,We,no 5 .x true (by decide),no 5 .x false (by decide),no 5 .y true (by decide),no 5 .y false (by decide),no 5 .z true (by decide)];exact f5
theorem v1y (z:Int):z∈plZ (FM L)↔D6.inn L (z - 1)≠D6.inn L z:=by
 obtain ⟨_,hv,_,hL⟩:=Vx h;have u1:Xa.can (upF .z L z):=(Jt h .z true z).1;have u2: ∀u v,ptL Xa.inB (upF .z L z) (u,v)↔(Ax.inL .z L (z - 1) u v∧ ¬Ax.inL .z L z u v):=(Jt h .z true z).2;have d1:Xa.can (dnF .z L z):=(Jt h .z false z).1;have d2: ∀u v,ptL Xa.inB (dnF .z L z) (u,v)↔(Ax.inL .z L z u v∧ ¬Ax.inL .z L (z - 1) u v):=(Jt h .z false z).2;have hm:z∈plZ (FM L)↔upF .z L z≠ []∨dnF .z L z≠ []:=by
  unfold plZ;rw [Jv,(Ye _).2 z];unfold zsQ;constructor
  ·intro k;obtain ⟨r,hr,e⟩:=AX.1 k;obtain ⟨hr,ha⟩:=Bg.1 hr;have ha:=AC ha;have key:r.a=4∨r.a=5:=by
    unfold FM at hr;simp only [AF] at hr;rcases hr with ((((hr | hr) | hr) | hr) | hr) | hr <;> have e:=fM_a hr
    ·have e:r.a=0:=e;omega
    ·have e:r.a=1:=e;omega
    ·have e:r.a=2:=e;omega
    ·have e:r.a=3:=e;omega
    ·exact .inl e
    ·exact .inr e
   have me: ∀d,r.a=d→zQ d (FM L) z≠ []:=fun d hd hn=>by unfold zQ at hn;rw [Cj,BJ] at hn;exact hn r hr (by simp [hd,e])
   rcases key with e4 | e5
   ·exact .inl (by rw [←(w9a h z).1];exact me 4 e4)
   ·exact .inr (by rw [←(w9a h z).2];exact me 5 e5)
  ·intro k;have me: ∀d,4≤d→zQ d (FM L) z≠ []→z∈((FM L).filter fun r=>decide (4≤r.a)).map (·.d):=fun d hd hn=>by obtain ⟨t,ht⟩:=List.exists_mem_of_ne_nil _ hn;obtain ⟨r,hr,_⟩:=AX.1 ht;obtain ⟨hr,hq⟩:=Bg.1 hr;simp only [Ac,As] at hq;exact AX.2 ⟨r,Bg.2 ⟨hr,Ah (by omega)⟩,hq.2⟩
   rcases k with k | k
   ·exact me 4 (by decide) (by rw [(w9a h z).1];exact k)
   ·exact me 5 (by decide) (by rw [(w9a h z).2];exact k)
 rw [hm];constructor
 ·rintro hk e;rcases hk with hk | hk
  ·refine hk (z2b Xa u1 fun ⟨u,v⟩ k=> ?_);have k:=(u2 u v).1 k;rw [←z5v,←z5v,e] at k;exact k.2 k.1
  ·refine hk (z2b Xa d1 fun ⟨u,v⟩ k=> ?_);have k:=(d2 u v).1 k;rw [←z5v,←z5v,e] at k;exact k.2 k.1
 ·intro hn;refine AI fun hk=>hn ?_;rw [not_or,Decidable.not_not,Decidable.not_not] at hk;refine Xa.uniq _ _ (u8i h (z - 1)).1 (u8i h z).1 fun ⟨u,v⟩=> ?_;rw [z5v,z5v];have a:=u2 u v;have b:=d2 u v;rw [hk.1] at a;rw [hk.2] at b;have a: ¬(Ax.inL .z L (z - 1) u v∧ ¬Ax.inL .z L z u v):=fun k=>z6n _ _ (a.2 k);have b: ¬(Ax.inL .z L z u v∧ ¬Ax.inL .z L (z - 1) u v):=fun k=>z6n _ _ (b.2 k);exact ⟨fun k=>AI fun m=>a ⟨k,m⟩,fun k=>AI fun m=>b ⟨k,m⟩⟩
theorem farg {x:Int} (hx:x< -1000000∨1000000≤x):D6.inn L x=[]:=by obtain ⟨_,hv,_,_⟩:=Vx h;show (L.filter _).map _=[];rw [Cj,BJ];intro r hr hq;have:=z1s (hv r hr);simp only [Ac,As] at hq;have h1:r.c≤x:=hq.1;have h2:x<r.f:=hq.2;omega
theorem chg_g :Chg (D6.inn L) (plZ (FM L)) (-1000000):=by refine ⟨by unfold plZ;rw [Jv];exact (Ye _).1,fun z hz=> ?_,fun z hz=>(v1y h z).1 hz,fun x _ hn=>(v1y h x).2 hn⟩;refine AI fun hn=>(v1y h z).1 hz ?_;rw [farg h (.inl (by omega)),farg h (.inl (by omega))]
theorem bxs_g :bxs (D6.inn L) (plZ (FM L))=L:=by
 have c:=chg_g h;have hS: ∀x,Xa.can (D6.inn L x):=fun x=>(u8i h x).1;have hf: ∀x,1000000≤x→D6.inn L x=[]:=fun x hx=>farg h (.inr hx);have hg:=v3s (D6.inn L) hS _ _ c;rw [←w3p];refine y6x.uniq _ _ ⟨_,hg,rfl⟩ (v0f h) fun ⟨x,p⟩=> ?_;rw [show ptL y6x.inB (D6.flat (gbs (D6.inn L) (plZ (FM L)))) (x,p)↔_ from Dim.flat_pt z3s Xa _ x p,show ptL y6x.inB L (x,p)↔_ from (Dim.pt_inn (D:=D6) Xa.inB L x p).symm];constructor
 ·rintro ⟨g,hg,g1,g2,g3⟩;obtain ⟨_,_,_,_,m⟩:=x1l (D6.inn L) _ _ c g hg;rw [m x g1 g2];exact g3
 ·intro k;have hx:D6.inn L x≠ []:=fun e=>by rw [e] at k;exact z6n _ _ k
  have hlo: -1000000≤x:=AI fun hn=>hx (farg h (.inl (by omega)));obtain ⟨g,hg,g1,g2⟩:=v3r (D6.inn L) hf _ _ c (farg h (.inl (by omega))) x hx hlo;obtain ⟨_,_,_,_,m⟩:=x1l (D6.inn L) _ _ c g hg;exact ⟨g,hg,g1,g2,by rw [←m x g1 g2];exact k⟩
variable (h80:(FM L).length ≤80)
include h80
theorem step_g {z:Int}:j4u (D6.inn L (z - 1)) (upF .z L z) (dnF .z L z)=false∧x0v (D6.inn L (z - 1)) (upF .z L z) (dnF .z L z)=D6.inn L z:=by
 obtain ⟨a1,a2,a3,_⟩:=u8i h (z - 1);obtain ⟨b1,b2,b3,_⟩:=u8i h z;obtain ⟨eu,ed⟩:=facg_z h z;have hu:(rgJ 2 (D6.inn L (z - 1)) (D6.inn L z)).length ≤80:=by rw [←eu];exact AL (v4d h .z true z) h80
 have hd:(rgJ 2 (D6.inn L z) (D6.inn L (z - 1))).length ≤80:=by rw [←ed];exact AL (v4d h .z false z) h80
 have i1:=(w2l h .z h80 a1 (z - 1) (z - 1) fun u v=>by rw [z5v];exact ⟨fun k=>⟨k,k⟩,fun k=>k.1⟩).2;have i2:=(w2l h .z h80 b1 z z fun u v=>by rw [z5v];exact ⟨fun k=>⟨k,k⟩,fun k=>k.1⟩).2;rw [eu,ed];obtain ⟨u1,u2,_⟩:=z1k 2 a2 b2;obtain ⟨d1,d2,_⟩:=z1k 2 b2 a2;have uv: ∀r∈rgJ 2 (D6.inn L (z - 1)) (D6.inn L z),Vo r=true:=z5l u1 fun u v k=>by have:=(u2 (u,v)).1 k;simp only [opB,Ac,As] at this;exact z2n a2 this.1
 have dv: ∀r∈rgJ 2 (D6.inn L z) (D6.inn L (z - 1)),Vo r=true:=z5l d1 fun u v k=>by have:=(d2 (u,v)).1 k;simp only [opB,Ac,As] at this;exact z2n b2 this.1
 obtain ⟨m1,m0⟩:=w2e (l:=rgJ 2 (D6.inn L (z - 1)) (D6.inn L z)) (by omega) uv u1;obtain ⟨n1,n0⟩:=w2e (l:=rgJ 2 (D6.inn L z) (D6.inn L (z - 1))) (by omega) dv d1;obtain ⟨r1,r2,_⟩:=z1k 2 a2 uv;obtain ⟨c1,c2,c3⟩:=z1k 1 a2 b2;have er:rgJ 2 (D6.inn L (z - 1)) (rgJ 2 (D6.inn L (z - 1)) (D6.inn L z))=rgJ 1 (D6.inn L (z - 1)) (D6.inn L z):=Xa.uniq _ _ r1 c1 fun p=>by rw [r2,c2,x8j,j0s,u2 p,x8j];by_cases g1:ptL Xa.inB (D6.inn L (z - 1)) p <;> by_cases g2:ptL Xa.inB (D6.inn L z) p <;> simp [g1,g2]
 have cl:(rgJ 1 (D6.inn L (z - 1)) (D6.inn L z)).length ≤400:=(w2l h .z h80 c1 (z - 1) z fun u v=>by rw [c2,j0s,z5v,z5v]).1;have z1:rgE .d (D6.inn L (z - 1)) (rgJ 2 (D6.inn L (z - 1)) (D6.inn L z))=0:=x0q .d (by omega) (by omega) a2 uv a1 u1
  (fun x=>by have:=x9h 2 a2 b2 x;have:=i1 x;have:=i2 x;omega) (by
   show (rgJ 2 (D6.inn L (z - 1)) (rgJ 2 (D6.inn L (z - 1)) (D6.inn L z))).length ≤400;rw [er];exact cl)
 have v1:Vy .d (D6.inn L (z - 1)) (rgJ 2 (D6.inn L (z - 1)) (D6.inn L z))=rgJ 1 (D6.inn L (z - 1)) (D6.inn L z):=(w2h .d z1).trans er;have cv: ∀r∈rgJ 1 (D6.inn L (z - 1)) (D6.inn L z),Vo r=true:=z5l c1 fun u v k=>by have:=(c2 (u,v)).1 k;simp only [opB,Ac,As] at this;exact z2n a2 this.1
 obtain ⟨w1,w2,_⟩:=z1k 0 cv dv;have ew:rgJ 0 (rgJ 1 (D6.inn L (z - 1)) (D6.inn L z)) (rgJ 2 (D6.inn L z) (D6.inn L (z - 1)))=D6.inn L z:=Xa.uniq _ _ w1 b1 fun p=>by rw [w2,opB0i,c2 p,j0s,d2 p,x8j];by_cases g1:ptL Xa.inB (D6.inn L (z - 1)) p <;> by_cases g2:ptL Xa.inB (D6.inn L z) p <;> simp [g1,g2]
 have z2:rgE .u (rgJ 1 (D6.inn L (z - 1)) (D6.inn L z)) (rgJ 2 (D6.inn L z) (D6.inn L (z - 1)))=0:=x0q .u cl (by omega) cv dv c1 d1
  (fun x=>by have:=x9h 1 a2 b2 x;have:=x9h 2 b2 a2 x;have:=i1 x;have:=i2 x;omega) (by
   show (rgJ 0 (rgJ 1 (D6.inn L (z - 1)) (D6.inn L z)) (rgJ 2 (D6.inn L z) (D6.inn L (z - 1)))).length ≤400;rw [ew];omega)
 unfold j4u x0v;rw [m1,n1,m0,n0,z1,v1,z2];exact ⟨rfl,(w2h .u z2).trans ew⟩
theorem goP_g : ∀(r:List Int) (lo:Int) (bx:List R6),Chg (D6.inn L) r lo→goP (FM L) r (D6.inn L (lo - 1)) bx=some (bx++bxs (D6.inn L) r)
 | [],lo,bx,_=>by simp [goP,bxs]
 | z::r,lo,bx,c=>by
  have hz:=c.low z (by simp);have hc:=(AV.1 c.asc).1;have e:D6.inn L (lo - 1)=D6.inn L (z - 1):=(c.flat (x:=z - 1) (by omega) fun y hy=>by
   rcases AE.1 hy with rfl | hy
   ·omega
   ·have:=hc y hy;omega).symm
  obtain ⟨s1,s2⟩:=step_g h h80 (z:=z);obtain ⟨q4,q5⟩:=w9a h z;have ih:=fun b=>goP_g r (z+1) b c.tail;rw [show z+1 - 1=z by omega] at ih;rw [e];unfold goP;rw [q4,q5,s1,Aa,s2,ih,AH];rfl
theorem back_g (hm:z9e (FM L)=0):x3x (FM L)=0∧Kd (FM L)=L:=by
 have hz:=j1h h h80;have hF:=u6g h hz;have hg:goP (FM L) (plZ (FM L)) [] []=some L:=by have:=goP_g h h80 (plZ (FM L)) (-1000000) [] (chg_g h);rw [farg h (.inl (by omega)),bxs_g h] at this;exact this
 obtain ⟨m1,m0⟩:=w1s h;have e:x3x (FM L)=0:=by unfold x3x;rw [hm,hg];show w8s (FM L) L=0;unfold w8s z4o Us;rw [m1,m0,hz,hF,show y0w (y6t 0 (FM L)) (FM L)=true from Ah rfl];rfl
 refine ⟨e,?_⟩;unfold Kd v9o;rw [e,hg];show Xx L=L;exact m0
end
theorem u9k {xs ys:List Int} (hx:xs.Pairwise (· < ·)) (hy:ys.Pairwise (· < ·)) (bx: ∀x∈xs,-1000000≤x∧x≤1000000) (by': ∀y∈ys,-1000000≤y∧y≤1000000) (F:Int→Int→Prop) (P:Int→Int→Bool) (hP: ∀x y,P x y=true↔F x y)
  (fx: ∀t w,t ∉ xs→(F (t - 1) w↔F t w)) (fy: ∀u t,t ∉ ys→(F u (t - 1)↔F u t)) (cx: ∀u w,F u w→ ∃a∈xs,∃b∈xs,a≤u∧u<b) (cy: ∀u w,F u w→ ∃a∈ys,∃b∈ys,a≤w∧w<b):
  Xa.can (joV 2 (z1w xs ys P (xs.length - 1) 0) [])∧ ∀u w,ptL Xa.inB (joV 2 (z1w xs ys P (xs.length - 1) 0) []) (u,w)↔F u w:=by
 have hv: ∀r∈z1w xs ys P (xs.length - 1) 0,Vo r=true:=fun r hr=>by
  obtain ⟨j,_,hj,s,hs,rfl⟩:=(z7q P r _ _).1 hr;obtain ⟨c,pts⟩:=y3s hy (P (rd xs j));have hp:=Can.pos c s hs;obtain ⟨m,hm,_,m1,_⟩:=(pts s.a).1 ⟨s,hs,AU _,hp⟩;obtain ⟨n,hn,_,_,n2⟩:=(pts (s.b - 1)).1 ⟨s,hs,by omega,by omega⟩;have b1:=bx _ (Qk (show j<xs.length by omega));have b2:=bx _ (Qk (show j+1<xs.length by omega));have b3:=by' _ (Qk (show m<ys.length by omega))
  have b4:=by' _ (Qk hn)
  have hlt:=z3v hx (Bz j) (show j+1<xs.length by omega);have e3:j.succ=j+1:=rfl;rw [e3] at hlt;simp only [Vo,Ac,As];omega
 obtain ⟨h1,h2⟩:=v3d hv;refine ⟨h1,fun u w=> ?_⟩;rw [h2,u5j];constructor
 ·rintro ⟨r,hr,k1,k2⟩;obtain ⟨j,_,hj,s,hs,rfl⟩:=(z7q P r _ _).1 hr;obtain ⟨c,pts⟩:=y3s hy (P (rd xs j));obtain ⟨m,hm,hp,m1⟩:=(pts w).1 ⟨s,hs,k2⟩;have g1:=(hP _ _).1 hp;have g2:=(Kh hy (G:=fun w=>F (rd xs j) w) (fun t ht=>fy _ t ht) hm m1.1 m1.2).2 g1;exact (Kh hx (G:=fun u=>F u w) (fun t ht=>fx t w ht) (show j+1<xs.length by omega) k1.1 k1.2).2 g2
 ·intro h;obtain ⟨a,ha,b,hb,a1,a2⟩:=cx u w h;obtain ⟨j,hj,j1,j2⟩:=y5z hx ha hb a1 a2;have g2:=(Kh hx (G:=fun u=>F u w) (fun t ht=>fx t w ht) hj j1 j2).1 h;obtain ⟨a',ha',b',hb',a3,a4⟩:=cy _ w g2;obtain ⟨m,hm,m1,m2⟩:=y5z hy ha' hb' a3 a4;have g1:=(Kh hy (G:=fun w=>F (rd xs j) w) (fun t ht=>fy _ t ht) hm m1 m2).1 g2;obtain ⟨c,pts⟩:=y3s hy (P (rd xs j));obtain ⟨s,hs,s1,s2⟩:=(pts w).2 ⟨m,hm,(hP _ _).2 g1,m1,m2⟩;exact ⟨_,(z7q P _ _ _).2 ⟨j,AA _,by omega,s,hs,rfl⟩,⟨j1,j2⟩,s1,s2⟩
section
variable {L:List R6} (h:Vw L=0)
include h
theorem rfa_g (q:Ax) (s:Bool) {p:Int} (hp: -1000000≤p∧p≤1000000):x3e L q.ix (sdI s) p=fcF q s L p:=by
 obtain ⟨_,hv,_,hL⟩:=Vx h;have w1:wrap .i64 (p - 1)=p - 1:=Zk (by omega);have r:=u9k (z9p q.ua L) (z9p q.wa L) (fun x hx=>z8b hv _ hx) (fun x hx=>z8b hv _ hx) (fun u w=>match s with
   | true=>q.inL L (p - 1) u w∧ ¬q.inL L p u w
   | false=>q.inL L p u w∧ ¬q.inL L (p - 1) u w) (x5n L q.ix (sdI s) p) (fun x y=>by
   unfold x5n;rw [w1];have a1:=pU_in q L (p - 1) x y;have a2:=pU_in q L p x y;cases s with
   | true=>show (!(pU L q.ix (p - 1) x y == pU L q.ix p x y)&&(pU L q.ix (p - 1) x y == true))=true↔_;rw [←a1,←a2];cases pU L q.ix (p - 1) x y <;> cases pU L q.ix p x y <;> simp
   | false=>
    show (!(pU L q.ix (p - 1) x y == pU L q.ix p x y)&&(pU L q.ix (p - 1) x y == false))=true↔_;rw [←a1,←a2];cases pU L q.ix (p - 1) x y <;> cases pU L q.ix p x y <;> simp)
  (fun t w ht=>by
   have a1:=u3i q L ht (p - 1) w;have a2:=u3i q L ht p w;cases s <;> (show (_∧ ¬_)↔(_∧ ¬_);rw [a1,a2]))
  (fun u t ht=>by
   have a1:=u3h q L ht (p - 1) u;have a2:=u3h q L ht p u;cases s <;> (show (_∧ ¬_)↔(_∧ ¬_);rw [a1,a2]))
  (fun u w k=>by cases s <;> exact in_u q k.1) (fun u w k=>by cases s <;> exact in_w q k.1)
 unfold x3e;rw [uX_pl,uY_pl];cases s with
 | true=>obtain ⟨u1,u2⟩:=Jt h q true p;refine Xa.uniq _ _ r.1 u1 fun ⟨u,w⟩=> ?_;exact (r.2 u w).trans (u2 u w).symm
 | false=>obtain ⟨u1,u2⟩:=Jt h q false p;refine Xa.uniq _ _ r.1 u1 fun ⟨u,w⟩=> ?_;exact (r.2 u w).trans (u2 u w).symm
theorem rqP_g (q:Ax) (s:Bool) (d:Int) (hd:d=2*q.ix+sdI s):rqP L d (z1m L (dh d))=fM q s L:=by
 obtain ⟨_,hv,_,hL⟩:=Vx h;have e1:dh d=q.ix∧Int.tmod d 2=sdI s:=by subst hd;cases q <;> cases s <;> exact ⟨rfl,rfl⟩
 rw [e1.1,y5y];unfold rqP fM;rw [e1.1,e1.2];refine z2i fun p hp=> ?_;rw [rfa_g h q s (z8b hv q hp)];refine B3 fun t _=> ?_;subst hd;cases q <;> cases s <;> rfl
theorem u9j :y6z L=FM L:=by have e: ∀q s (i:Nat),(i:Int)=2*q.ix+sdI s→rqP L (i:Int) (z1m L (dh (i:Int)))=fM q s L:=fun q s i hi=>rqP_g h q s _ hi;unfold y6z FM;simp only [rqD];rw [e .x true 0 rfl,e .x false (0+1) rfl,e .y true (0+1+1) rfl,e .y false (0+1+1+1) rfl,e .z true (0+1+1+1+1) rfl,e .z false (0+1+1+1+1+1) rfl,Az];simp only [AH]
end
theorem w9y {α:Type} (f:α→Int): ∀l:List α,(∀r∈l,f r=0)→sm l f=0
 | [],_=>rfl
 | r::l,h=>by rw [x6j,h r (by simp),w9y f l fun x hx=>h x (by simp [hx])];rfl
theorem lv7_z (s:Bool) (x y z p:Int) (t:R4):lv7 x y z (qd .z s p t)=if p≤z then (if u0n x y t=true then (match s with | true=> -1 | false=>1) else 0) else 0:=by
 have e1:decide ((qd .z s p t).a <4)=false:=by cases s <;> rfl
 have e2:(qd .z s p t).d =p:=by cases s <;> rfl
 have e3:(qd .z s p t).b =t.a∧(qd .z s p t).c =t.b∧(qd .z s p t).e =t.c∧(qd .z s p t).f =t.d:=by cases s <;> exact ⟨rfl,rfl,rfl,rfl⟩
 obtain ⟨b,c,e,f⟩:=e3;unfold lv7;rw [e1,e2,b,c,e,f,BF];by_cases hp:p≤z
 ·rw [AB hp,Ay (show¬p>z by omega),BF];by_cases g:u0n x y t=true
  ·rw [AB g];unfold u0n at g;simp only [Ac,As] at g;rw [Ay (show¬x<t.a by omega),Ay (show¬x≥t.c by omega),Ay (show¬y<t.b by omega),Ay (show¬y≥t.d by omega)];cases s <;> rfl
  ·rw [Aw g];have:(decide (x<t.a)||(decide (x≥t.c)||(decide (y<t.b)||decide (y≥t.d))))=true:=by refine AI fun hn=>g ?_;simp only [Bo,As,not_or] at hn;unfold u0n;simp only [Ac,As];omega
   rw [this];rfl
 ·rw [Aw hp,Ah (show p>z by omega)];rfl
theorem sm_lv (s:Bool) (x y z p:Int): ∀l:List R4,sm (l.map (qd .z s p)) (lv7 x y z)=if p≤z then (match s with | true=> -1 | false=>1)*((l.filter (u0n x y)).length :Int) else 0
 | []=>by
  rw [Bb,u2p];split
  ·cases s <;> rfl
  ·rfl
 | t::l=>by
  rw [A4,x6j,sm_lv s x y z p l,lv7_z,Br];by_cases hp:p≤z
  ·rw [AB hp,AB hp,AB hp];by_cases g:u0n x y t=true
   ·rw [AB g,AB g,AW];cases s <;> simp <;> omega
   ·rw [Aw g,Aw g];omega
  ·rw [Aw hp,Aw hp,Aw hp];rfl
theorem w9z {α β:Type} (f:β→Int) (g:α→List β): ∀P:List α,sm (P.flatMap g) f=(P.map fun p=>sm (g p) f).sum
 | []=>rfl
 | p::P=>by rw [Be,z1t,w9z f g P,A4,Cl]
section
variable {L:List R6} (h:Vw L=0)
include h
theorem lvl_FM (x y z:Int):x5o (FM L) x y z=(z2a (inS L x y z):Int):=by
 obtain ⟨_,hv,_,_⟩:=Vx h;have other: ∀q,q≠ .z → ∀s,sm (fM q s L) (lv7 x y z)=0:=fun q hq s=>w9y _ _ fun r hr=>by
  have e:r.a=2*q.ix+sdI s:=by obtain ⟨p,_,hr⟩:=AN.1 hr;obtain ⟨t,_,rfl⟩:=AX.1 hr;exact qd_a q s p t
  have:r.a<4:=by
   rw [e];cases q <;> cases s <;> first | exact absurd rfl hq | decide
  unfold lv7;rw [Ah this];rfl
 have dir: ∀s,sm (fM .z s L) (lv7 x y z)=((plQ .z L).map fun p=>if p≤z then (match s with | true=>(-1:Int) | false=>1)*(z2a (ptL Xa.inB (fcF .z s L p) (x,y)):Int) else 0).sum :=fun s=>by
  unfold fM;rw [w9z]
  congr 1
  refine B3 fun p _=> ?_;rw [sm_lv,v5k (Jt h .z s p).1]
 let J:Int→Int:=fun p=>inI .z L x y (min p z)
 have add: ∀P:List Int,(P.map fun p=>if p≤z then (-1:Int)*(z2a (ptL Xa.inB (fcF .z true L p) (x,y)):Int) else 0).sum +(P.map fun p=>if p≤z then (1:Int)*(z2a (ptL Xa.inB (fcF .z false L p) (x,y)):Int) else 0).sum = - (P.map fun p=>J (p - 1) - J p).sum :=fun P=>by
  induction P with
  | nil=>rfl
  | cons p P ih=>
   simp only [A4,Cl] at ih ⊢;have key:(if p≤z then (-1:Int)*(z2a (ptL Xa.inB (fcF .z true L p) (x,y)):Int) else 0)+(if p≤z then (1:Int)*(z2a (ptL Xa.inB (fcF .z false L p) (x,y)):Int) else 0)= - (J (p - 1) - J p):=by
    by_cases hp:p≤z
    ·rw [AB hp,AB hp];have a:z2a (ptL Xa.inB (fcF .z true L p) (x,y))=z2a (Ax.inL .z L (p - 1) x y∧ ¬Ax.inL .z L p x y):=(by rw [propext ((Jt h .z true p).2 x y)]);have b:z2a (ptL Xa.inB (fcF .z false L p) (x,y))=z2a (Ax.inL .z L p x y∧ ¬Ax.inL .z L (p - 1) x y):=(by rw [propext ((Jt h .z false p).2 x y)]);have d:=w6i (Ax.inL .z L (p - 1) x y) (Ax.inL .z L p x y);show _= - (inI .z L x y (min (p - 1) z) - inI .z L x y (min p z));rw [show min (p - 1) z=p - 1 by omega,show min p z=p by omega,a,b];unfold inI;omega
    ·rw [Aw hp,Aw hp];show _= - (inI .z L x y (min (p - 1) z) - inI .z L x y (min p z));rw [show min (p - 1) z=z by omega,show min p z=z by omega];omega
   omega
 have out: ∀t,(t< -1000000∨1000000≤t)→inI .z L x y t=0:=fun t ht=>by unfold inI;rw [Up];rfl;intro k;have:=y5j h .z k;omega
 have same: ∀t,t ∉ plQ .z L→inI .z L x y (t - 1)=inI .z L x y t:=fun t ht=>by have e:=z4c .z L ht x y;unfold inI;rw [propext e]
 have tel:=tele J (plQ .z L) (-1000000) (z9p .z L) (fun p hp=>(z8b hv .z hp).1) (fun t _ hn=>AI fun hx=>hn (by
  show inI .z L x y (min (t - 1) z)=inI .z L x y (min t z);by_cases hz:t≤z
  ·rw [show min (t - 1) z=t - 1 by omega,show min t z=t by omega];exact same t hx
  ·rw [show min (t - 1) z=z by omega,show min t z=z by omega])) 1000000 (fun p hp=>(z8b hv .z hp).2) (by decide)
 have j0:J (-1000000 - 1)=0:=out _ (.inl (by omega));have j1:J 1000000=inI .z L x y z:=by
  show inI .z L x y (min 1000000 z)=_;by_cases hz:z≤1000000
  ·rw [show min 1000000 z=z by omega]
  ·rw [out _ (.inr (by omega)),out _ (.inr (by omega))]
 have sum:sm (fM .z true L) (lv7 x y z)+sm (fM .z false L) (lv7 x y z)=inI .z L x y z:=by rw [dir true,dir false,add,tel,j0,j1];omega
 have fin:inI .z L x y z=(z2a (inS L x y z):Int):=by unfold inI;rw [propext (Ax.inL_S .z L z x y)];rfl
 unfold x5o FM;rw [z1t,z1t,z1t,z1t,z1t,other .x (by simp),other .x (by simp),other .y (by simp),other .y (by simp),←fin,←sum];omega
theorem v2x (x y z:Int):(x5o (FM L) x y z == 1)=true↔inS L x y z:=by
 rw [lvl_FM h];by_cases g:inS L x y z
 ·rw [Qq g];simp [g]
 ·rw [Up g];simp [g]
end
theorem w3v (L:List R7) (xs ys zs:List Int) (i k:Nat) (r:R6): ∀m n,r∈cZ L xs ys zs i k m n↔ ∃j,n≤j∧j<n+m∧(x5o L (rd xs i) (rd ys k) (rd zs j) == 1)=true∧r=cel xs ys zs i k j
 | 0,n=>⟨fun h=>(by cases h),fun ⟨j,h1,h2,_⟩=>by omega⟩
 | m+1,n=>by
  unfold cZ;rw [AF,w3v L xs ys zs i k r m (n+1)];constructor
  ·rintro (a | ⟨j,h1,h2,h3⟩)
   ·rcases Yd (x5o L (rd xs i) (rd ys k) (rd zs n) == 1) with q | q
    ·rw [q,Ab] at a;exact ⟨n,Ao _,by omega,q,AT.1 a⟩
    ·rw [q,Aa] at a;cases a
   ·exact ⟨j,by omega,by omega,h3⟩
  ·rintro ⟨j,h1,h2,h3,h4⟩;rcases A1 h1 with rfl | h1
   ·exact .inl (by rw [h3,Ab,h4];simp)
   ·exact .inr ⟨j,h1,by omega,h3,h4⟩
theorem v5o (L:List R7) (xs ys zs:List Int) (i:Nat) (r:R6): ∀m k,r∈cY L xs ys zs i m k↔ ∃j,k≤j∧j<k+m∧r∈cZ L xs ys zs i j (zs.length - 1) 0
 | 0,k=>⟨fun h=>(by cases h),fun ⟨j,h1,h2,_⟩=>by omega⟩
 | m+1,k=>by
  unfold cY;rw [AF,v5o L xs ys zs i r m (k+1)];constructor
  ·rintro (a | ⟨j,h1,h2,h3⟩)
   ·exact ⟨k,Ao _,by omega,a⟩
   ·exact ⟨j,by omega,by omega,h3⟩
  ·rintro ⟨j,h1,h2,h3⟩;rcases A1 h1 with rfl | h1
   ·exact .inl h3
   ·exact .inr ⟨j,h1,by omega,h3⟩
theorem u7e (L:List R7) (xs ys zs:List Int) (r:R6): ∀m i,r∈cX L xs ys zs m i↔ ∃j,i≤j∧j<i+m∧r∈cY L xs ys zs j (ys.length - 1) 0
 | 0,k=>⟨fun h=>(by cases h),fun ⟨j,h1,h2,_⟩=>by omega⟩
 | m+1,k=>by
  unfold cX;rw [AF,u7e L xs ys zs r m (k+1)];constructor
  ·rintro (a | ⟨j,h1,h2,h3⟩)
   ·exact ⟨k,Ao _,by omega,a⟩
   ·exact ⟨j,by omega,by omega,h3⟩
  ·rintro ⟨j,h1,h2,h3⟩;rcases A1 h1 with rfl | h1
   ·exact .inl h3
   ·exact .inr ⟨j,h1,by omega,h3⟩
def xsL (L:List R7):List Int:=Un (xsQ L)
def ysL (L:List R7):List Int:=Un (ysQ L)
def zsL (L:List R7):List Int:=Un (zeQ L)
theorem w0s (L:List R7) (r:R6):r∈Qn L↔ ∃i k n,(i+1<(xsL L).length ∧k+1<(ysL L).length ∧n+1<(zsL L).length)∧(x5o L (rd (xsL L) i) (rd (ysL L) k) (rd (zsL L) n) == 1)=true∧r=cel (xsL L) (ysL L) (zsL L) i k n:=by
 show r∈cX L (xsL L) (ysL L) (zsL L) ((xsL L).length - 1) 0↔_;rw [u7e];constructor
 ·rintro ⟨i,_,hi,hr⟩;obtain ⟨k,_,hk,hr⟩:=(v5o _ _ _ _ _ _ _ _).1 hr;obtain ⟨n,_,hn,h1,h2⟩:=(w3v _ _ _ _ _ _ _ _ _).1 hr;exact ⟨i,k,n,⟨by omega,by omega,by omega⟩,h1,h2⟩
 ·rintro ⟨i,k,n,⟨hi,hk,hn⟩,h1,h2⟩;exact ⟨i,AA _,by omega,(v5o _ _ _ _ _ _ _ _).2 ⟨k,AA _,by omega,(w3v _ _ _ _ _ _ _ _ _).2 ⟨n,AA _,by omega,h1,h2⟩⟩⟩
theorem w1l (L:List R7):(xsL L).Pairwise (· < ·):=(Ye _).1
theorem w1k (L:List R7):(ysL L).Pairwise (· < ·):=(Ye _).1
theorem x2m (L:List R7):(zsL L).Pairwise (· < ·):=(Ye _).1
theorem j3u {F:Int→Prop} {lo x:Int} (h0: ∀t,t<lo→ ¬F t) (hx:F x): ∃a,a≤x∧ ¬(F (a - 1)↔F a):=AI fun hn=>by
 have e: ∀a,a≤x→(F (a - 1)↔F a):=fun a ha=>AI fun m=>hn ⟨a,ha,m⟩;have: ∀n:Nat,F (x - (n:Int)):=fun n=>by
  induction n with
  | zero=>rw [show x - ((0:Nat):Int)=x by omega];exact hx
  | succ n ih=>have:=(e (x - (n:Int)) (by omega)).2 ih;rwa [show x - (n:Int) - 1=x - ((n+1:Nat):Int) by omega] at this
 exact h0 _ (by have:lo≤x:=AI fun k=>h0 x (by omega) hx;omega) (this (x - lo+1).toNat)
theorem j3v {F:Int→Prop} {hi x:Int} (h0: ∀t,hi≤t→ ¬F t) (hx:F x): ∃b,x<b∧ ¬(F (b - 1)↔F b):=AI fun hn=>by
 have e: ∀a,x<a→(F (a - 1)↔F a):=fun a ha=>AI fun m=>hn ⟨a,ha,m⟩;have: ∀n:Nat,F (x+(n:Int)):=fun n=>by
  induction n with
  | zero=>rw [show x+((0:Nat):Int)=x by omega];exact hx
  | succ n ih=>have:=(e (x+(n:Int)+1) (by omega)).1 (by rw [show x+(n:Int)+1 - 1=x+(n:Int) by omega];exact ih);rwa [show x+(n:Int)+1=x+((n+1:Nat):Int) by omega] at this
 exact h0 _ (by have:x<hi:=AI fun k=>h0 x (by omega) hx;omega) (this (hi - x).toNat)
section
variable {L:List R6} (h:Vw L=0)
include h
theorem j4z {q:Ax} {p:Int} (hp:p∈PQ q L): ∃s t,qd q s p t∈FM L:=by
 have _u:=h;obtain ⟨⟨p',t⟩,hx,rfl⟩:=AX.1 hp;obtain ⟨p'',hpl,hx⟩:=AN.1 hx;obtain ⟨t',ht,e⟩:=AX.1 hx;obtain ⟨rfl,rfl⟩:=Prod.mk.inj e;have go: ∀s,t'∈fcF q s L p''→qd q s p'' t'∈FM L:=fun s k=>by have m:qd q s p'' t'∈fM q s L:=AN.2 ⟨p'',hpl,AX.2 ⟨t',k,rfl⟩⟩;unfold FM;simp only [AF];cases q <;> cases s <;> simp [m]
 rcases AF.1 ht with ht | ht
 ·exact ⟨true,t',go true ht⟩
 ·exact ⟨false,t',go false ht⟩
theorem j4o {t y z:Int} (hn: ¬(inS L (t - 1) y z↔inS L t y z)):t∈xsL (FM L):=by obtain ⟨s,r,m⟩:=j4z h (z8x h (q:=.x) (p:=t) (u:=y) (v:=z) fun e=>hn (by rw [Ax.inL_S,Ax.inL_S] at e;exact e));exact ((Ye _).2 t).2 (AN.2 ⟨_,m,by cases s <;> simp [qd]⟩)
theorem j4n {x t z:Int} (hn: ¬(inS L x (t - 1) z↔inS L x t z)):t∈ysL (FM L):=by obtain ⟨s,r,m⟩:=j4z h (z8x h (q:=.y) (p:=t) (u:=x) (v:=z) fun e=>hn (by rw [Ax.inL_S,Ax.inL_S] at e;exact e));exact ((Ye _).2 t).2 (AN.2 ⟨_,m,by cases s <;> simp [qd]⟩)
theorem j4m {x y t:Int} (hn: ¬(inS L x y (t - 1)↔inS L x y t)):t∈zsL (FM L):=by obtain ⟨s,r,m⟩:=j4z h (z8x h (q:=.z) (p:=t) (u:=x) (v:=y) fun e=>hn (by rw [Ax.inL_S,Ax.inL_S] at e;exact e));exact ((Ye _).2 t).2 (AN.2 ⟨_,m,by cases s <;> simp [qd]⟩)
theorem z9z {x y z:Int} (k:inS L x y z):(-1000000≤x∧x<1000000)∧(-1000000≤y∧y<1000000)∧(-1000000≤z∧z<1000000):=by obtain ⟨_,hv,_,_⟩:=Vx h;obtain ⟨r,hr,h1,h2,h3⟩:=k;have:=z1s (hv r hr);omega
theorem j4p (x y z:Int):inS (Qn (FM L)) x y z↔inS L x y z:=by
 have cx: ∀{i:Nat},i+1<(xsL (FM L)).length → ∀{u y z},rd (xsL (FM L)) i≤u→u<rd (xsL (FM L)) (i+1)→(inS L u y z↔inS L (rd (xsL (FM L)) i) y z):=fun {i} hi {u y z} h1 h2=>
  Kh (w1l _) (G:=fun u=>inS L u y z) (fun t ht=>AI fun m=>ht (j4o h m)) hi h1 h2
 have cy: ∀{i:Nat},i+1<(ysL (FM L)).length → ∀{x u z},rd (ysL (FM L)) i≤u→u<rd (ysL (FM L)) (i+1)→(inS L x u z↔inS L x (rd (ysL (FM L)) i) z):=fun {i} hi {x u z} h1 h2=>
  Kh (w1k _) (G:=fun u=>inS L x u z) (fun t ht=>AI fun m=>ht (j4n h m)) hi h1 h2
 have cz: ∀{i:Nat},i+1<(zsL (FM L)).length → ∀{x y u},rd (zsL (FM L)) i≤u→u<rd (zsL (FM L)) (i+1)→(inS L x y u↔inS L x y (rd (zsL (FM L)) i)):=fun {i} hi {x y u} h1 h2=>
  Kh (x2m _) (G:=fun u=>inS L x y u) (fun t ht=>AI fun m=>ht (j4m h m)) hi h1 h2
 constructor
 ·rintro ⟨r,hr,h1,h2,h3⟩;obtain ⟨i,k,n,⟨hi,hk,hn⟩,g,rfl⟩:=(w0s _ _).1 hr;have g:=(v2x h _ _ _).1 g;exact (cx hi h1.1 h1.2).2 ((cy hk h2.1 h2.2).2 ((cz hn h3.1 h3.2).2 g))
 ·intro g;obtain ⟨a,a1,a2⟩:=j3u (F:=fun t=>inS L t y z) (lo:= -1000000) (fun t ht k=>by have:=z9z h k;omega) g;obtain ⟨b,b1,b2⟩:=j3v (F:=fun t=>inS L t y z) (hi:=1000000) (fun t ht k=>by have:=z9z h k;omega) g;obtain ⟨i,hi,i1,i2⟩:=y5z (w1l _) (j4o h a2) (j4o h b2) a1 b1;have g1:=(cx hi i1 i2).1 g;obtain ⟨a,a1,a2⟩:=j3u (F:=fun t=>inS L (rd (xsL (FM L)) i) t z) (lo:= -1000000) (fun t ht k=>by have:=z9z h k;omega) g1;obtain ⟨b,b1,b2⟩:=j3v (F:=fun t=>inS L (rd (xsL (FM L)) i) t z) (hi:=1000000) (fun t ht k=>by have:=z9z h k;omega) g1;obtain ⟨k,hk,k1,k2⟩:=y5z (w1k _) (j4n h a2) (j4n h b2) a1 b1;have g2:=(cy hk k1 k2).1 g1;obtain ⟨a,a1,a2⟩:=j3u (F:=fun t=>inS L (rd (xsL (FM L)) i) (rd (ysL (FM L)) k) t) (lo:= -1000000) (fun t ht k=>by have:=z9z h k;omega) g2;obtain ⟨b,b1,b2⟩:=j3v (F:=fun t=>inS L (rd (xsL (FM L)) i) (rd (ysL (FM L)) k) t) (hi:=1000000) (fun t ht k=>by have:=z9z h k;omega) g2;obtain ⟨n,hn,n1,n2⟩:=y5z (x2m _) (j4m h a2) (j4m h b2) a1 b1;have g3:=(cz hn n1 n2).1 g2;have hm:cel (xsL (FM L)) (ysL (FM L)) (zsL (FM L)) i k n∈Qn (FM L):=(w0s _ _).2 ⟨i,k,n,⟨hi,hk,hn⟩,(v2x h _ _ _).2 g3,rfl⟩;generalize Qn (FM L)=C at hm ⊢;generalize xsL (FM L)=X at*;generalize ysL (FM L)=Y at*;generalize zsL (FM L)=Z at*;exact ⟨_,hm,⟨i1,i2⟩,⟨k1,k2⟩,n1,n2⟩
end
def z3x (x:Int):Prop:= -16≤x∧x≤16
def sm16 (l:List R7):Prop:= ∀r∈l,z3x r.b∧z3x r.c∧z3x r.d∧z3x r.e∧z3x r.f∧z3x r.g
theorem x9y {a b:Int} (h:far3 a b=false):z3x a∧z3x b:=by unfold far3 at h;rw [BG,BM,BM] at h;unfold y1f y1p at h;unfold z3x;obtain ⟨h1,h2⟩:=h;split at h1 <;> split at h2 <;> omega
theorem w1m {l:List R7} (h:v6k l=false) (hl:l.length≤3000):l.length≤80∧sm16 l:=by unfold v6k at h;rw [Ay (by omega),Aa,BG,BM] at h;obtain ⟨h1,h2⟩:=h;refine ⟨by omega,fun r hr=> ?_⟩;rw [AP (by omega),List.any_eq_false] at h1;have h1:=h1 r hr;unfold far7 at h1;simp only [Bo,not_or,Bool.not_eq_true] at h1;obtain ⟨x1,x2⟩:=x9y h1.1;obtain ⟨y1,y2⟩:=x9y h1.2.1;obtain ⟨z1,z2⟩:=x9y h1.2.2;exact ⟨x1,y1,z1,x2,y2,z2⟩
def L33 :List Int:=(List.range 33).map fun (n:Nat)=>(n:Int) - 16
theorem w1j {x:Int} (h:z3x x):x∈L33:=by unfold z3x at h;exact AX.2 ⟨(x+16).toNat,A2.2 (by omega),by omega⟩
theorem v2z {l:List Int} (h:l.Pairwise (· < ·)) (hb: ∀x∈l,z3x x):l.length≤33:=by
 have:=z4n l L33 (h.imp fun {a b} k=>by omega) fun x hx=>w1j (hb x hx)
 simpa [L33] using this
section
variable {l:List R7} (hs:sm16 l)
include hs
theorem w9c : ∀x∈xsL l,z3x x:=fun x hx=>by
 obtain ⟨r,hr,k⟩:=AN.1 (((Ye _).2 x).1 hx);have:=hs r hr;simp only [AE,Bc,BX] at k;rcases k with rfl | rfl
 ·exact this.1
 ·exact this.2.2.2.1
theorem w9b : ∀x∈ysL l,z3x x:=fun x hx=>by
 obtain ⟨r,hr,k⟩:=AN.1 (((Ye _).2 x).1 hx);have:=hs r hr;simp only [AE,Bc,BX] at k;rcases k with rfl | rfl
 ·exact this.2.1
 ·exact this.2.2.2.2.1
theorem w8z : ∀x∈zsL l,z3x x:=fun x hx=>by
 obtain ⟨r,hr,k⟩:=AN.1 (((Ye _).2 x).1 hx);have:=hs r hr;simp only [AE,Bc,BX] at k;rcases k with rfl | rfl
 ·exact this.2.2.1
 ·exact this.2.2.2.2.2
theorem x1u {r:R6} (hr:r∈Qn l):z1i r=true∧z3x r.a∧z3x r.b∧z3x r.c∧z3x r.d∧z3x r.e∧z3x r.f:=by
 obtain ⟨i,k,n,⟨hi,hk,hn⟩,_,rfl⟩:=(w0s _ _).1 hr;have x1:=w9c hs _ (Qk (show i<(xsL l).length by omega));have x2:=w9c hs _ (Qk hi);have y1:=w9b hs _ (Qk (show k<(ysL l).length by omega));have y2:=w9b hs _ (Qk hk);have z1:=w8z hs _ (Qk (show n<(zsL l).length by omega));have z2:=w8z hs _ (Qk hn);have a1:rd (xsL l) i<rd (xsL l) (i+1):=z3v (w1l l) (Bz i) hi;have a2:rd (ysL l) k<rd (ysL l) (k+1):=z3v (w1k l) (Bz k) hk;have a3:rd (zsL l) n<rd (zsL l) (n+1):=z3v (x2m l) (Bz n) hn;refine ⟨?_,x1,y1,z1,x2,y2,z2⟩;unfold z3x at*;rw [w9f];unfold cel w4i;dsimp only;simp only [Ac,As]
 (repeat' apply And.intro) <;> omega
theorem w3u {x y z:Int} (k:inS (Qn l) x y z):(-16≤x∧x<16)∧(-16≤y∧y<16)∧(-16≤z∧z<16):=by obtain ⟨r,hr,h1,h2,h3⟩:=k;have:=(x1u hs hr).2;unfold z3x at this;omega
theorem y9g (hj:z2f 2 (Qn l) []=true):Vw (Xe 2 (Qn l) [])=0∧ ∀x y z,inS (Xe 2 (Qn l) []) x y z↔inS (Qn l) x y z:=by obtain ⟨j0,j1⟩:=v3b hj;rw [Az] at j0 j1;obtain ⟨c,pts⟩:=w1t (l:=Qn l) fun r hr=>(x1u hs hr).1;rw [j0];refine ⟨w1u j1 (v5i c fun x y z k=> ?_) c,pts⟩;have:=w3u hs ((pts x y z).1 k);omega
end
theorem bif28 {e x:Int} (h:(bif e != 0 then 28 else x)=0):e=0∧x=0:=by
 cases g:(e != 0) with
 | true=>rw [g,Ab] at h;cases h
 | false=>rw [g,Aa] at h;exact ⟨by simpa using g,h⟩
theorem v5q {b:Bool} {x:Int} (h:(bif !b then 28 else x)=0):b=true∧x=0:=by
 cases b
 ·cases h
 ·exact ⟨rfl,h⟩
theorem j0r {l:List R7} (hs:sm16 l) (ho:x3x l=0):z9e l=0∧w5m l (Qn l)=0∧Xe 2 (Qn l) []=v9o l:=by
 unfold x3x at ho;obtain ⟨hm,ho⟩:=Qr ho;cases hg:goP l (plZ l) [] [] with
 | none=>rw [hg] at ho;cases ho
 | some bx=>
  rw [hg] at ho;have ho:w8s l bx=0:=ho;unfold w8s at ho;obtain ⟨s1,ho⟩:=bif28 ho;obtain ⟨m1,ho⟩:=bif28 ho;obtain ⟨e1,_⟩:=v5q ho;have e1:Us (Xx bx)=l:=AC e1;have e2:v9o l=Xx bx:=by unfold v9o;rw [hg]
  obtain ⟨c,pts⟩:=v0b s1;obtain ⟨_,bv,_,_⟩:=w1r s1;have hk:Vw (Xx bx)=0:=w1u (y4g bx) (v5i c fun x y z k=>by
   obtain ⟨r,hr,h1,h2,h3⟩:=(pts x y z).1 k;have:=z1s (bv r hr);omega) c
  have m1:w6o (Xx bx)=0:=m1;have e3:l=FM (Xx bx):=by rw [←u6g hk m1,←e1];unfold Us;rw [m1];rfl
  have cp: ∀x y z,inS (Qn l) x y z↔inS (Xx bx) x y z:=fun x y z=>by rw [e3];exact j4p hk x y z
  obtain ⟨jc,jp⟩:=w1t (l:=Qn l) fun r hr=>(x1u hs hr).1;have je:u2x (Qn l)=Xx bx:=u1q jc c fun x y z=>by rw [jp,cp]
  have sec: ∀z,(joV 2 (atV (Qn l) z) []).length ≤400:=fun z=>AL (sec_le c (fun r hr=>(x1u hs hr).1) (.inl fun x y=>cp x y z)) (y4g bx);have jo:z2f 2 (Qn l) []=true:=js_ok (fun z=>by
   have s:=sec z;have e:y6y 2 (Qn l) [] z=joV 2 (atV (Qn l) z) []:=rfl;have n:(joV 2 (atV ([]:List R6) z) []).length =0:=rfl;unfold z9t;rw [e,n,Ay (by omega),Ay (by omega)];rfl) (by rw [Az,je];exact y4g bx)
  have j0:Xe 2 (Qn l) []=Xx bx:=by rw [(v3b jo).1,Az,je]
  refine ⟨hm,?_,by rw [j0,e2]⟩;unfold w5m;rw [jo,j0,u9j hk,←e3,show u8z l l=true from Ah rfl];rfl
theorem j0j {l:List R7} (hs:sm16 l) (h80:l.length≤80) (hm:z9e l=0) (hr:w5m l (Qn l)=0):x3x l=0:=by unfold w5m at hr;obtain ⟨j1,hr⟩:=v5q hr;obtain ⟨e1,_⟩:=v5q hr;obtain ⟨hk,_⟩:=y9g hs j1;have e1:y6z (Xe 2 (Qn l) [])=l:=AC e1;rw [u9j hk] at e1;have:=(back_g hk (by rw [e1];exact h80) (by rw [e1];exact hm)).1;rwa [e1] at this
theorem j0z {l:List R7} (hm:z9e l=0):x3x l=0∨x3x l=28:=by
 unfold x3x;rw [hm];show (match goP l (plZ l) [] [] with | none=>28 | some bx=>w8s l bx)=(0:Int)∨_;cases goP l (plZ l) [] [] with
 | none=>exact .inr rfl
 | some bx=>
  show w8s l bx=0∨w8s l bx=28;unfold w8s;cases Ka bx != 0
  ·cases z4o (Xx bx) != 0
   ·cases y0w (Us (Xx bx)) l
    ·exact .inr rfl
    ·exact .inl rfl
   ·exact .inr rfl
  ·exact .inr rfl
theorem u9d (l:List R7) (B:List R6):w5m l B=0∨w5m l B=28:=by
 unfold w5m;cases z2f 2 B []
 ·exact .inr rfl
 ·cases u8z (y6z (Xe 2 B [])) l
  ·exact .inr rfl
  ·exact .inl rfl
theorem v6s {l:List R7} (hw:v6k l=false):y4t l=y0x l∧Kd l=z5u l:=by
 unfold y4t Kd z5u y0x;rcases Yd (z9e l != 0) with q | q
 ·have e:x3x l=z9e l:=by unfold x3x;rw [q];rfl
  rw [q,Ab,e];refine ⟨rfl,?_⟩;unfold y6t;rw [q];rfl
 ·have hm:z9e l=0:=by simpa using q
  obtain ⟨h80,hs⟩:=w1m hw (y3g hm).1;rw [q,Aa];by_cases ho:x3x l=0
  ·obtain ⟨_,r1,r2⟩:=j0r hs ho;rw [ho,r1,r2];exact ⟨rfl,rfl⟩
  ·have hr:w5m l (Qn l)≠0:=fun k=>ho (j0j hs h80 hm k);have a:x3x l=28:=(j0z hm).resolve_left ho;have b:w5m l (Qn l)=28:=(u9d _ _).resolve_left hr;rw [a,b];exact ⟨rfl,rfl⟩
theorem cY_sz (L:List R7) (xs ys zs:List Int) (i:Nat): ∀m k,(cY L xs ys zs i m k).length ≤m*(zs.length - 1)
 | 0,_=>AA _
 | m+1,k=>by have h1:=cY_sz L xs ys zs i m (k+1);have h2:=w3w L xs ys zs i k (zs.length - 1) 0;unfold cY;rw [Ar,Ch];omega
theorem cX_sz (L:List R7) (xs ys zs:List Int): ∀m i,(cX L xs ys zs m i).length ≤m*((ys.length - 1)*(zs.length - 1))
 | 0,_=>AA _
 | m+1,i=>by have h1:=cX_sz L xs ys zs m (i+1);have h2:=cY_sz L xs ys zs i (ys.length - 1) 0;unfold cX;rw [Ar,Ch];omega
theorem rd_le {xs:List Int} (h:xs.Pairwise (· < ·)) {i j:Nat} (hij:i≤j) (hj:j<xs.length):rd xs i≤rd xs j:=by
 rcases A1 hij with rfl | k
 ·exact AU _
 ·exact Cq (z3v h k hj)
theorem u7a {L:List R7} {xs ys zs:List Int} (hz:zs.Pairwise (· < ·)) (i k:Nat) (z:Int): ∀m n,n+m+1≤zs.length→((cZ L xs ys zs i k m n).filter (on6 z)).length ≤1
 | 0,n,_=>AA _
 | m+1,n,h=>by
  have ih:=u7a (L:=L) (xs:=xs) (ys:=ys) hz i k z m (n+1) (by omega);unfold cZ;rw [B7,Ar];rcases Yd (x5o L (rd xs i) (rd ys k) (rd zs n) == 1) with q | q
  ·rw [q,Ab];by_cases g:on6 z (cel xs ys zs i k n)=true
   ·have:(cZ L xs ys zs i k m (n+1)).filter (on6 z)=[]:=by rw [BJ];intro r hr hq;obtain ⟨j,j1,j2,_,rfl⟩:=(w3v _ _ _ _ _ _ _ _ _).1 hr;have g2:z<rd zs (n+1):=AC (Bool.and_eq_true_iff.1 g).2;have q2:rd zs j≤z:=AC (Bool.and_eq_true_iff.1 hq).1;have:=rd_le hz j1 (by omega);omega
    rw [this,Br,AB g];simp
   ·rw [Br,Aw g];simpa using ih
  ·rw [q,Aa];simpa using ih
theorem u7b {L:List R7} {xs ys zs:List Int} (hz:zs.Pairwise (· < ·)) (i:Nat) (z:Int): ∀m k,((cY L xs ys zs i m k).filter (on6 z)).length ≤m
 | 0,_=>AA _
 | m+1,k=>by
  have ih:=u7b (L:=L) (xs:=xs) (ys:=ys) hz i z m (k+1);unfold cY;rw [B7,Ar];by_cases h:zs.length=0
  ·have:cZ L xs ys zs i k (zs.length - 1) 0=[]:=by rw [show zs.length - 1=0 by omega];rfl
   rw [this];have:(([]:List R6).filter (on6 z)).length =0:=rfl;omega
  ·have:=u7a (L:=L) (xs:=xs) (ys:=ys) hz i k z (zs.length - 1) 0 (by omega);omega
theorem u7d {L:List R7} {xs ys zs:List Int} (hz:zs.Pairwise (· < ·)) (z:Int): ∀m i,((cX L xs ys zs m i).filter (on6 z)).length ≤m*(ys.length - 1)
 | 0,_=>AA _
 | m+1,i=>by have ih:=u7d (L:=L) (xs:=xs) (ys:=ys) hz z m (i+1);have:=u7b (L:=L) (xs:=xs) (ys:=ys) hz i z (ys.length - 1) 0;unfold cX;rw [B7,Ar,Ch];omega
section
variable {l:List R7} (hs:sm16 l)
include hs
theorem ax33 :(xsL l).length ≤33∧(ysL l).length ≤33∧(zsL l).length ≤33:=⟨v2z (w1l l) (w9c hs),v2z (w1k l) (w9b hs),v2z (x2m l) (w8z hs)⟩
theorem j4q :jsZ (Qn l):=by
 obtain ⟨h1,h2,h3⟩:=ax33 hs;refine ⟨?_,fun z=> ?_⟩
 ·have:=cX_sz l (xsL l) (ysL l) (zsL l) ((xsL l).length - 1) 0;have m1:((ysL l).length - 1)*((zsL l).length - 1)≤32*32:=Cp (by omega) (by omega);have m2:((xsL l).length - 1)*(((ysL l).length - 1)*((zsL l).length - 1))≤32*(32*32):=Cp (by omega) m1;exact AL this (by omega)
 ·have:=u7d (L:=l) (xs:=xsL l) (ys:=ysL l) (x2m l) z ((xsL l).length - 1) 0;have m1:((xsL l).length - 1)*((ysL l).length - 1)≤32*32:=Cp (by omega) (by omega);unfold atV;rw [AS];exact AL this (by omega)
variable (hj:z2f 2 (Qn l) []=true)
include hj
theorem S_bnd {r:R6} (hr:r∈Xe 2 (Qn l) []):z3x r.a∧z3x r.b∧z3x r.c∧z3x r.d∧z3x r.e∧z3x r.f:=by obtain ⟨hk,pts⟩:=y9g hs hj;have v:=z1s ((Vx hk).2.1 r hr);have p1:=w3u hs ((pts _ _ _).1 ⟨r,hr,⟨AU r.a,by omega⟩,⟨AU r.b,by omega⟩,AU r.c,by omega⟩);have p2:=w3u hs ((pts (r.d - 1) (r.e - 1) (r.f - 1)).1 ⟨r,hr,⟨by omega,by omega⟩,⟨by omega,by omega⟩,by omega,by omega⟩);unfold z3x;omega
theorem S_40 :v6h (Xe 2 (Qn l) []):=by
 obtain ⟨hk,_⟩:=y9g hs hj;have h4:=(Vx hk).1;refine ⟨by omega,fun a=>AL (v2z (Ye _).1 fun x hx=> ?_) (by omega)⟩;obtain ⟨r,hr,k⟩:=AN.1 (((Ye _).2 x).1 hx);have b:=S_bnd hs hj hr;simp only [AE,Bc,BX] at k;have cr: ∀{u v w:Int},z3x u→z3x v→z3x w→z3x (Jq u v w a):=fun {u v w} h1 h2 h3=>by
  unfold Jq;cases a == 0
  ·cases a == 1
   ·exact h3
   ·exact h2
  ·exact h1
 rcases k with rfl | rfl
 ·exact cr b.1 b.2.1 b.2.2.1
 ·exact cr b.2.2.2.1 b.2.2.2.2.1 b.2.2.2.2.2
theorem S_in (q:Ax) {p u v:Int} (k:q.inL (Xe 2 (Qn l) []) p u v):(-16≤p∧p<16)∧(-16≤u∧u<16)∧(-16≤v∧v<16):=by
 obtain ⟨hk,pts⟩:=y9g hs hj;rw [q.inL_S,pts] at k;have:=w3u hs k;cases q
 ·have:(-16≤p∧p<16)∧(-16≤u∧u<16)∧(-16≤v∧v<16):=this;exact this
 ·have:(-16≤u∧u<16)∧(-16≤p∧p<16)∧(-16≤v∧v<16):=this;omega
 ·have:(-16≤u∧u<16)∧(-16≤v∧v<16)∧(-16≤p∧p<16):=this;omega
theorem S_fc (q:Ax) (s:Bool) (p:Int):(fcF q s (Xe 2 (Qn l) []) p).length ≤512:=by
 obtain ⟨hk,_⟩:=y9g hs hj;obtain ⟨c,pts⟩:=Jt hk q s p;have rng: ∀u v,ptL Xa.inB (fcF q s (Xe 2 (Qn l) []) p) (u,v)→(-16≤u∧u<16)∧(-16≤v∧v<16):=fun u v k=>by
  have k:=(pts u v).1 k;cases s with
  | true=>exact (S_in hs hj q k.1).2
  | false=>exact (S_in hs hj q k.1).2
 have:=v5l c (fun u v=>ptL Xa.inB (fcF q s (Xe 2 (Qn l) []) p) (u,v)) (fun _ _=>Iff.rfl) L33 (fun x y hn=>w1j (by
  unfold z3x;by_cases a:ptL Xa.inB (fcF q s (Xe 2 (Qn l) []) p) (x,y)
  ·have:=rng _ _ a;omega
  ·by_cases b:ptL Xa.inB (fcF q s (Xe 2 (Qn l) []) p) (x - 1,y)
   ·have:=rng _ _ b;omega
   ·exact absurd ⟨fun k=>absurd k b,fun k=>absurd k a⟩ hn)) 16 (fun x t ht hy=>by
  have:=x6e ht L33 1 fun y hn=>List.count_pos_iff.2 (w1j (by
   unfold z3x;by_cases a:ptL z2q.inB t y
   ·have:=rng _ _ ((hy y).1 a);omega
   ·by_cases b:ptL z2q.inB t (y - 1)
    ·have:=rng _ _ ((hy (y - 1)).1 b);omega
    ·exact absurd ⟨fun k=>absurd k b,fun k=>absurd k a⟩ hn))
  have e:L33.length=33:=rfl;omega)
 exact this
theorem S_rqu :(y6z (Xe 2 (Qn l) [])).length ≤1000000:=by
 obtain ⟨hk,_⟩:=y9g hs hj;rw [u9j hk,u7i];have one: ∀q,(Qs q (Xe 2 (Qn l) [])).length ≤33*1024:=fun q=>by
  have hp:(plQ q (Xe 2 (Qn l) [])).length ≤33:=v2z (z9p q _) fun x hx=>by
   obtain ⟨r,hr,k⟩:=(Jw q _ x).1 hx;have b:=S_bnd hs hj hr;cases q <;> rcases k with rfl | rfl
   ·exact b.1
   ·exact b.2.2.2.1
   ·exact b.2.1
   ·exact b.2.2.2.2.1
   ·exact b.2.2.1
   ·exact b.2.2.2.2.2
  have go: ∀P:List Int,(P.flatMap fun p=>(fcF q true (Xe 2 (Qn l) []) p++fcF q false (Xe 2 (Qn l) []) p).map fun t=>(p,t)).length ≤P.length*1024:=fun P=>by
   induction P with
   | nil=>exact AA _
   | cons p P ih=>have h1:=S_fc hs hj q true p;have h2:=S_fc hs hj q false p;rw [Be,Ar,AS,Ar,AW,Ch];omega
  exact AL (go _) (AJ _ hp)
 have a:=one .x;have b:=one .y;have c:=one .z;omega
end
theorem rso_ow {l:List R7} (ho:Vv l=true) (hw:v6k l=false):z4d l=true:=by unfold z4d;rw [ho,Al];refine pd_true fun hm=> ?_;obtain ⟨_,hs⟩:=w1m hw (y3g hm).1;obtain ⟨h1,h2,h3⟩:=ax33 hs;exact ⟨⟨AL h1 (by omega),AL h2 (by omega),AL h3 (by omega)⟩,j4q hs,fun hj=>⟨S_40 hs hj,S_rqu hs hj⟩⟩
theorem mck_lst {n:Nat} (c:Nat→Nat→Int) (h: ∀i,i<n→ ∀(j:Nat) (k:IntKind),[IntKind.u8,.i64,.i64,.i64,.i64,.i64,.i64][j]? =some k→k.has (c i j)):
  Vv (lst R7 n fun i=>rowOf [.u8,.i64,.i64,.i64,.i64,.i64,.i64] (c i))=true:=by
 refine Au.2 fun r hr=> ?_;obtain ⟨i,hi,rfl⟩:=AX.1 hr;have hi:=A2.1 hi;have:=h i hi 0 .u8 rfl;simp [IntKind.has,IntKind.min,IntKind.max,IntKind.signed,IntKind.bits] at this;have e:(Ys.of (rowOf [.u8,.i64,.i64,.i64,.i64,.i64,.i64] (c i)):R7).a =c i 0:=rfl;rw [e,Ah (show 0≤c i 0 by omega),Ah (show c i 0<256 by omega)];rfl
theorem v6t (l:List R7):(Kd l).length ≤1000000:=by
 unfold Kd y6t;cases x3x l != 0
 ·show (v9o l).length ≤_;unfold v9o;cases goP l (plZ l) [] [] with
  | none=>exact AA _
  | some bx=>have:=y4g bx;show (Xx bx).length ≤_;omega
 ·exact AA _
theorem msl_run (l0:List R7) (ho:Vv l0=true): ∃n,Zs (x8m l0) n (y3d l0)=.ret [.bool true]:=by
 refine ⟨0,?_⟩;unfold y3d;simp only [Zg,show z7d l0=true from rfl,Ab];rcases Yd (v6k l0) with w | w
 ·rw [w,Ab];rfl
 ·obtain ⟨e1,e0⟩:=v6s w;have o6:Vp (Kd l0) (Kd l0)=true:=Ah (v6t l0);rw [w,Aa];simp only [show z8f l0=true from ho,rso_ow ho w,ho,show z1y l0=true from ho,show v8z l0=z9e l0 from rfl,beq_self_eq_true,o6,Ab,←e0,←e1,show Kb (Kd l0) (Kd l0)=true from Ah rfl];rfl
end Go.Am
end
