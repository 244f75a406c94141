/- A part of a proof: several texts in one. -/
import Derived.Test.YtpddoeiakpbkbaaGreatLn2
import Derived.Shelf.SlSortCmp.NoneTotal
set_option maxRecDepth 1000000
set_option maxHeartbeats 8000000
set_option linter.unusedVariables false
set_option linter.unusedSimpArgs false
noncomputable section
namespace Go.Am
open IntKind (wrap)
open Go.Proofs.Tryz
open Go.Proofs
inductive rjsS where
 | h0 (v9:List R6) (v10:List R4) (v11:Int) (v12:Int)
 | h1 (v9:List R6) (v10:List R4) (v11:Int) (v12:Int) (v13:List R4) (v15:Int)
 | h2 (v9:List R6) (v10:List R4) (v11:Int) (v12:Int) (v14:Int)
abbrev w3d (l1:List R6) (l2:List R6) (v12:Int):=(rd (Vy (cvT l1) (cvT l2)) (tn v12))
abbrev y8k (v9:List R6) (v14:Int) (l1:List R6) (l2:List R6) (v12:Int):=(v9.set (0+(tn v14)) (R6.mk (rd v9 (0+(tn v14))).a (rd v9 (0+(tn v14))).b (rd v9 (0+(tn v14))).c (rd v9 (0+(tn v14))).d (rd v9 (0+(tn v14))).e (rd (Vy (cvT l1) (cvT l2)) (tn (wr (v12+1))))))
abbrev y8j (v9:List R6) (v13:List R4) (v15:Int) (l1:List R6) (l2:List R6) (v12:Int):=(v9++[(R6.mk (rd v13 (tn v15)).a (rd v13 (tn v15)).b (w3d l1 l2 v12) (rd v13 (tn v15)).c (rd v13 (tn v15)).d (rd (Vy (cvT l1) (cvT l2)) (tn (wr (v12+1)))))])
abbrev Ve (l1:List R6) (l2:List R6) (v12:Int):=(atV (cvT l1) (w3d l1 l2 v12))
abbrev Ui (l2:List R6) (l1:List R6) (v12:Int):=(atV (cvT l2) (w3d l1 l2 v12))
abbrev u5t (v9:List R6) (v13:List R4) (v15:Int) (l1:List R6) (l2:List R6) (v12:Int):=(Zh (Zz v9) 0 v9.length 6 [(ii (rd v13 (tn v15)).a),(ii (rd v13 (tn v15)).b),(ii (w3d l1 l2 v12)),(ii (rd v13 (tn v15)).c),(ii (rd v13 (tn v15)).d),(ii (rd (Vy (cvT l1) (cvT l2)) (tn (wr (v12+1)))))])
def v2o (l1:List R6) (l2:List R6):AVal:=(.dat (Vy (cvT l1) (cvT l2)).length (Zz (Vy (cvT l1) (cvT l2))))
def rjsC (x0:Int) (l1:List R6) (l2:List R6):rjsS→Cfg
 | .h0 v9 v10 v11 v12=>⟨⟨137,0,true⟩,none,(Zc prog 77 [1,1,1,1,1,0,1,0,0] 0),none,(Zy prog 10),⟨Yj [(0,(ii x0)),(1,(.dat l1.length (Zz l1))),(2,(.dat l2.length (Zz l2))),(8,(v2o l1 l2)),(9,(.sla 0 6 0 v9.length (.un 6))),(10,(.dat v10.length (Zz v10))),(11,(ii v11)),(12,(ii v12))],Wn [⟨Yk v9.length (Zz v9),57,some ⟨6,v9.length,(Zz v9)⟩⟩] 0,1,[],true⟩,[],.leaf⟩
 | .h1 v9 v10 v11 v12 v13 v15=>⟨⟨137,0,true⟩,none,(Zc prog 77 [1,1,1,1,1,0,1,0,0,1,0,0,1,1,1,1,1,0,0] 0),none,(Zy prog 10),⟨Yj [(0,(ii x0)),(1,(.dat l1.length (Zz l1))),(2,(.dat l2.length (Zz l2))),(8,(v2o l1 l2)),(9,(.sla 0 6 0 v9.length (.un 6))),(10,(.dat v10.length (Zz v10))),(11,(ii v11)),(12,(ii v12)),(13,(.dat v13.length (Zz v13))),(15,(ii v15))],Wn [⟨Yk v9.length (Zz v9),57,some ⟨6,v9.length,(Zz v9)⟩⟩] 0,1,[],true⟩,[],.leaf⟩
 | .h2 v9 v10 v11 v12 v14=>⟨⟨137,0,true⟩,none,(Zc prog 77 [1,1,1,1,1,0,1,0,0,1,0,0,1,1,0,1,0,0,1,0,0] 0),none,(Zy prog 10),⟨Yj [(0,(ii x0)),(1,(.dat l1.length (Zz l1))),(2,(.dat l2.length (Zz l2))),(8,(v2o l1 l2)),(9,(.sla 0 6 0 v9.length (.un 6))),(10,(.dat v10.length (Zz v10))),(11,(ii v11)),(12,(ii v12)),(14,(ii v14))],Wn [⟨Yk v9.length (Zz v9),57,some ⟨6,v9.length,(Zz v9)⟩⟩] 0,1,[],true⟩,[],.leaf⟩
def j1i :List (Option (List Nat)):=[some [0,1,2,8,9,10,11,12]]
def j1k :List (Option (List Nat)):=[]
def j1h :List (Option (List Nat)):=[some [0,1,2,8,9,10,11,12,13,15]]
def j1j :List (Option (List Nat)):=[]
def rjsN2 :List (Option (List Nat)):=[some [0,1,2,8,9,10,11,12,14]]
def rjsM2 :List (Option (List Nat)):=[]
def Vr (x0:Int) (l1:List R6) (l2:List R6):rjsS→Xx rjsS
 | .h0 v9 v10 v11 v12=>(bif (decide ((wrap .i64 (v12+1))<(((Vy (cvT l1) (cvT l2)).length :Nat):Int))) then (bif (z5j (cvT l1) (rd (Vy (cvT l1) (cvT l2)) v12.toNat)) then (bif ((decide (0≤v12∧v12<(((Vy (cvT l1) (cvT l2)).length :Nat):Int)))&&true) then (bif (z5j (cvT l2) (rd (Vy (cvT l1) (cvT l2)) v12.toNat)) then (bif (Qj x0 (cvT (atV (cvT l1) (rd (Vy (cvT l1) (cvT l2)) v12.toNat))) (cvT (atV (cvT l2) (rd (Vy (cvT l1) (cvT l2)) v12.toNat)))) then (bif (decide ((((joV x0 (cvT (atV (cvT l1) (rd (Vy (cvT l1) (cvT l2)) v12.toNat))) (cvT (atV (cvT l2) (rd (Vy (cvT l1) (cvT l2)) v12.toNat)))).length :Nat):Int)>400)) then (.ret [.nils,(.bool false)]) else (bif (Qj 2 (cvT (atV (cvT l1) (rd (Vy (cvT l1) (cvT l2)) v12.toNat))) ([]:List R4)) then (bif (decide ((((joV 2 (cvT (atV (cvT l1) (rd (Vy (cvT l1) (cvT l2)) v12.toNat))) ([]:List R4)).length :Nat):Int)>400)) then (.ret [.nils,(.bool false)]) else (bif (Qj 2 (cvT (atV (cvT l2) (rd (Vy (cvT l1) (cvT l2)) v12.toNat))) ([]:List R4)) then (bif (decide ((((joV 2 (cvT (atV (cvT l2) (rd (Vy (cvT l1) (cvT l2)) v12.toNat))) ([]:List R4)).length :Nat):Int)>400)) then (.ret [.nils,(.bool false)]) else (bif (decide (v12>0)) then (bif (Xs (cvT (joV x0 (cvT (atV (cvT l1) (rd (Vy (cvT l1) (cvT l2)) v12.toNat))) (cvT (atV (cvT l2) (rd (Vy (cvT l1) (cvT l2)) v12.toNat))))) (cvT v10)) then (bif (Vw (cvT (joV x0 (cvT (atV (cvT l1) (rd (Vy (cvT l1) (cvT l2)) v12.toNat))) (cvT (atV (cvT l2) (rd (Vy (cvT l1) (cvT l2)) v12.toNat))))) (cvT v10)) then (.to (.h2 v9 v10 v11 v12 v11)) else (.to (.h1 v9 (joV x0 (cvT (atV (cvT l1) (rd (Vy (cvT l1) (cvT l2)) v12.toNat))) (cvT (atV (cvT l2) (rd (Vy (cvT l1) (cvT l2)) v12.toNat)))) (v9.length:Int) v12 (joV x0 (cvT (atV (cvT l1) (rd (Vy (cvT l1) (cvT l2)) v12.toNat))) (cvT (atV (cvT l2) (rd (Vy (cvT l1) (cvT l2)) v12.toNat)))) 0))) else .stuck) else (.to (.h1 v9 (joV x0 (cvT (atV (cvT l1) (rd (Vy (cvT l1) (cvT l2)) v12.toNat))) (cvT (atV (cvT l2) (rd (Vy (cvT l1) (cvT l2)) v12.toNat)))) (v9.length:Int) v12 (joV x0 (cvT (atV (cvT l1) (rd (Vy (cvT l1) (cvT l2)) v12.toNat))) (cvT (atV (cvT l2) (rd (Vy (cvT l1) (cvT l2)) v12.toNat)))) 0)))) else .stuck)) else .stuck)) else .stuck) else .stuck) else .stuck) else .stuck) else (.ret [(.dat v9.length (Zz v9)),(.bool (decide ((v9.length:Int)≤400)))]))
 | .h1 v9 v10 v11 v12 v13 v15=>(bif (decide (v15<(v13.length:Int))) then (bif ((decide (0≤v12∧v12<(((Vy (cvT l1) (cvT l2)).length :Nat):Int)))&&true) then (bif ((decide (0≤v15∧v15<(v13.length:Int)))&&true) then (bif ((decide (0≤(wrap .i64 (v12+1))∧(wrap .i64 (v12+1))<(((Vy (cvT l1) (cvT l2)).length :Nat):Int)))&&true) then (bif (Nat.beq 6 6&&((decide (0+v9.length=v9.length))&&decide ((v9.length+1+1)*(48+1)≤room))) then (.to (.h1 (v9++[(R6.mk (rd v13 v15.toNat).a (rd v13 v15.toNat).b (rd (Vy (cvT l1) (cvT l2)) v12.toNat) (rd v13 v15.toNat).c (rd v13 v15.toNat).d (rd (Vy (cvT l1) (cvT l2)) (Int.toNat (wrap .i64 (v12+1)))))]) v10 v11 v12 v13 (wrap .i64 (v15+1)))) else .stuck) else .stuck) else .stuck) else .stuck) else (.to (.h0 v9 v10 v11 (wrap .i64 (v12+1)))))
 | .h2 v9 v10 v11 v12 v14=>(bif (decide (v14<(v9.length:Int))) then (bif ((decide (0≤(wrap .i64 (v12+1))∧(wrap .i64 (v12+1))<(((Vy (cvT l1) (cvT l2)).length :Nat):Int)))&&true) then (bif ((decide (0≤v14∧v14<(v9.length:Int)))&&true) then (bif (decide ((0+v14.toNat)<v9.length)) then (.to (.h2 (v9.set (0+v14.toNat) (R6.mk (rd v9 (0+v14.toNat)).a (rd v9 (0+v14.toNat)).b (rd v9 (0+v14.toNat)).c (rd v9 (0+v14.toNat)).d (rd v9 (0+v14.toNat)).e (rd (Vy (cvT l1) (cvT l2)) (Int.toNat (wrap .i64 (v12+1)))))) v10 v11 v12 (wrap .i64 (v14+1)))) else .stuck) else .stuck) else .stuck) else (.to (.h0 v9 v10 v11 (wrap .i64 (v12+1)))))
def y2v (x0:Int) (l1:List R6) (l2:List R6):Xx rjsS:=(bif (z8n (cvT l1) (cvT l2)) then (.to (.h0 ([]:List R6) ([]:List R4) 0 0)) else .stuck)
theorem w7c (x0:Int) (l1:List R6) (l2:List R6): ∀s,Xy prog (Zy prog 77) (rjsC x0 l1 l2) (rjsC x0 l1 l2 s) (Vr x0 l1 l2 s)
 | .h0 v9 v10 v11 v12=>(lb (fun k0=>(lo fun aI=>(lo fun bD=>(lo fun cD=>(lo fun cT=>(lb (fun k1=>(lr 137 77 [1,1,1,1,1,0,1,0,0,1,0,0,1,0,1,0,0] 1 10 [(6,.nils),(7,(.bool false))] (sl y0k 50 [] ⟨[],[],[some [6,7]],[]⟩ ⟨[],[],[]⟩ (trs 20 []) (tt k1 (pp (pp (xI R4 (Ve l1 l2 v12).length (Zz (Ve l1 l2 v12))) (pp (xI R4 (Ui l2 l1 v12).length (Zz (Ui l2 l1 v12))) (xw cT))) (pp (pp (xr l2) (xw cD)) (ww bD (pp (pp (xr l1) (xw aI)) (ww bD (tt k0 nn)))))))))) (fun k1=>(lo fun bS=>(lb (fun k2=>(lr 137 77 [1,1,1,1,1,0,1,0,0,1,0,0,1,0,1,0,0] 1 10 [(6,.nils),(7,(.bool false))] (sl y0k 50 [] ⟨[],[],[some [6,7]],[]⟩ ⟨[],[],[]⟩ (bl 20 1047553) (tt k2 (pp (pp (xI R4 (Ve l1 l2 v12).length (Zz (Ve l1 l2 v12))) (pp (xI R4 0 (fun _=>[])) (xw bS))) (pp (pp (xr l1) (xw aI)) (ww bD (tt k1 (pp (pp (xI R4 (Ve l1 l2 v12).length (Zz (Ve l1 l2 v12))) (pp (xI R4 (Ui l2 l1 v12).length (Zz (Ui l2 l1 v12))) (xw cT))) (pp (pp (xr l2) (xw cD)) (ww bD (pp (pp (xr l1) (xw aI)) (ww bD (tt k0 nn)))))))))))))) (fun k2=>(lo fun cE=>(lb (fun k3=>(lr 137 77 [1,1,1,1,1,0,1,0,0,1,0,0,1,0,1,0,0] 1 10 [(6,.nils),(7,(.bool false))] (sl y0k 50 [] ⟨[],[],[some [6,7]],[]⟩ ⟨[],[],[]⟩ (bl 20 524289) (tt k3 (pp (pp (xI R4 (Ui l2 l1 v12).length (Zz (Ui l2 l1 v12))) (pp (xI R4 0 (fun _=>[])) (xw cE))) (pp (pp (xr l2) (xw cD)) (ww bD (tt k2 (pp (pp (xI R4 (Ve l1 l2 v12).length (Zz (Ve l1 l2 v12))) (pp (xI R4 0 (fun _=>[])) (xw bS))) (pp (pp (xr l1) (xw aI)) (ww bD (tt k1 (pp (pp (xI R4 (Ve l1 l2 v12).length (Zz (Ve l1 l2 v12))) (pp (xI R4 (Ui l2 l1 v12).length (Zz (Ui l2 l1 v12))) (xw cT))) (pp (pp (xr l2) (xw cD)) (ww bD (pp (pp (xr l1) (xw aI)) (ww bD (tt k0 nn)))))))))))))))))) (fun k3=>(lb (fun k4=>(lo fun cN=>(lb (fun k5=>(sl y0k 66 [] ⟨[0],[],rjsN2,rjsM2⟩ ⟨[],[],[]⟩ (bl 24 15728641) (pp (fl v9 nn) (tt k5 (pp (pp (xI R4 (joV x0 (cvT (Ve l1 l2 v12)) (cvT (Ui l2 l1 v12))).length (Zz (joV x0 (cvT (Ve l1 l2 v12)) (cvT (Ui l2 l1 v12))))) (pp (xr v10) (xw cN))) (tt k4 (tt k3 (pp (pp (xI R4 (Ui l2 l1 v12).length (Zz (Ui l2 l1 v12))) (pp (xI R4 0 (fun _=>[])) (xw cE))) (pp (pp (xr l2) (xw cD)) (ww bD (tt k2 (pp (pp (xI R4 (Ve l1 l2 v12).length (Zz (Ve l1 l2 v12))) (pp (xI R4 0 (fun _=>[])) (xw bS))) (pp (pp (xr l1) (xw aI)) (ww bD (tt k1 (pp (pp (xI R4 (Ve l1 l2 v12).length (Zz (Ve l1 l2 v12))) (pp (xI R4 (Ui l2 l1 v12).length (Zz (Ui l2 l1 v12))) (xw cT))) (pp (pp (xr l2) (xw cD)) (ww bD (pp (pp (xr l1) (xw aI)) (ww bD (tt k0 nn))))))))))))))))))))) (fun k5=>(sl y0k 73 [] ⟨[0],[],j1h,j1j⟩ ⟨[],[],[]⟩ (bl 24 7340033) (pp (fl v9 nn) (tt k5 (pp (pp (xI R4 (joV x0 (cvT (Ve l1 l2 v12)) (cvT (Ui l2 l1 v12))).length (Zz (joV x0 (cvT (Ve l1 l2 v12)) (cvT (Ui l2 l1 v12))))) (pp (xr v10) (xw cN))) (tt k4 (tt k3 (pp (pp (xI R4 (Ui l2 l1 v12).length (Zz (Ui l2 l1 v12))) (pp (xI R4 0 (fun _=>[])) (xw cE))) (pp (pp (xr l2) (xw cD)) (ww bD (tt k2 (pp (pp (xI R4 (Ve l1 l2 v12).length (Zz (Ve l1 l2 v12))) (pp (xI R4 0 (fun _=>[])) (xw bS))) (pp (pp (xr l1) (xw aI)) (ww bD (tt k1 (pp (pp (xI R4 (Ve l1 l2 v12).length (Zz (Ve l1 l2 v12))) (pp (xI R4 (Ui l2 l1 v12).length (Zz (Ui l2 l1 v12))) (xw cT))) (pp (pp (xr l2) (xw cD)) (ww bD (pp (pp (xr l1) (xw aI)) (ww bD (tt k0 nn)))))))))))))))))))))))) (fun k4=>(sl y0k 73 [] ⟨[0],[],j1h,j1j⟩ ⟨[],[],[]⟩ (bl 24 1) (pp (fl v9 nn) (tt k4 (tt k3 (pp (pp (xI R4 (Ui l2 l1 v12).length (Zz (Ui l2 l1 v12))) (pp (xI R4 0 (fun _=>[])) (xw cE))) (pp (pp (xr l2) (xw cD)) (ww bD (tt k2 (pp (pp (xI R4 (Ve l1 l2 v12).length (Zz (Ve l1 l2 v12))) (pp (xI R4 0 (fun _=>[])) (xw bS))) (pp (pp (xr l1) (xw aI)) (ww bD (tt k1 (pp (pp (xI R4 (Ve l1 l2 v12).length (Zz (Ve l1 l2 v12))) (pp (xI R4 (Ui l2 l1 v12).length (Zz (Ui l2 l1 v12))) (xw cT))) (pp (pp (xr l2) (xw cD)) (ww bD (pp (pp (xr l1) (xw aI)) (ww bD (tt k0 nn))))))))))))))))))))))))))))))))) (fun k0=>(lr 137 3 [1,1,1,1,0] 1 10 [(6,(.dat v9.length (Zz v9))),(7,(.bool (decide ((v9.length:Int)≤400))))] (sl y0k 20 [] ⟨[],[0],[some [6,7]],[]⟩ ⟨[(6,.frz v9.length v9.length (Zz v9) (Zz v9))],[],[]⟩ [false] (pp (xZ (z1o 6 6 0 v9.length v9.length (Zz v9)) v9.length (Zz v9)) (pp (xL v9.length v9.length) (pp (xS v9.length (Zz v9) (Zz v9)) (pp (fl v9 nn) (tt k0 nn)))))))))
 | .h1 v9 v10 v11 v12 v13 v15=>(lb (fun k0=>(lo fun o0=>(lo fun o1=>(lo fun o2=>(lo fun o3=>(sl y0k 20 [] ⟨[2],[],j1h,j1j⟩ ⟨[(9,.len (y8j v9 v13 v15 l1 l2 v12).length)],[.rowed 6 (y8j v9 v13 v15 l1 l2 v12).length (Zz (y8j v9 v13 v15 l1 l2 v12))],[]⟩ [true] (pp (xL (v9.length+1) (y8j v9 v13 v15 l1 l2 v12).length) (pp (xL (v9.length+1) (y8j v9 v13 v15 l1 l2 v12).length) (pp (xS (v9.length+1) (u5t v9 v13 v15 l1 l2 v12) (Zz (y8j v9 v13 v15 l1 l2 v12))) (pp (pp (xF (u5t v9 v13 v15 l1 l2 v12)) nn) (ww o3 (ww o2 (ww o1 (ww o1 (ww o0 (ww o1 (ww o1 (tt k0 nn)))))))))))))))))) (fun k0=>(sl y0k 17 [] ⟨[0],[],j1i,j1k⟩ ⟨[],[],[]⟩ [false] (pp (fl v9 nn) (tt k0 nn)))))
 | .h2 v9 v10 v11 v12 v14=>(lb (fun k0=>(lo fun o0=>(lo fun o1=>(lo fun o2=>(sl y0k 32 [] ⟨[0],[],rjsN2,rjsM2⟩ ⟨[(9,.len (y8k v9 v14 l1 l2 v12).length)],[.rowed 6 (y8k v9 v14 l1 l2 v12).length (Zz (y8k v9 v14 l1 l2 v12))],[]⟩ [true] (pp (xL v9.length (y8k v9 v14 l1 l2 v12).length) (pp (xL v9.length (y8k v9 v14 l1 l2 v12).length) (pp (xS v9.length (Yt (Zz v9) (0+(tn v14)) 5 [(ii (rd (Vy (cvT l1) (cvT l2)) (tn (wr (v12+1)))))]) (Zz (y8k v9 v14 l1 l2 v12))) (pp (pp (xF (Yt (Zz v9) (0+(tn v14)) 5 [(ii (rd (Vy (cvT l1) (cvT l2)) (tn (wr (v12+1)))))])) nn) (ww o2 (ww o1 (ww o0 (tt k0 nn))))))))))))) (fun k0=>(sl y0k 17 [] ⟨[0],[],j1i,j1k⟩ ⟨[],[],[]⟩ [false] (pp (fl v9 nn) (tt k0 nn)))))
theorem x7w (x0:Int) (l1:List R6) (l2:List R6):Xy prog (Zy prog 77) (rjsC x0 l1 l2) (Zg prog 77 [(.int .i64 x0),(.dat l1.length (Zz l1)),(.dat l2.length (Zz l2))] true []) (y2v x0 l1 l2):=(lo fun o0=>(sl y0k 31 [(57,6,Zz ([]:List R6))] ⟨[0],[],j1i,j1k⟩ ⟨[(9,.grow 0 6),(10,.list 0 (Zz ([]:List R4)))],[],[]⟩ [] (pp (fl ([]:List R6) nn) (pp (pp (xr l1) (pp (xr l2) (xw o0))) nn))))
theorem v9j (x0:Int) (l1:List R6) (l2:List R6) (n:Nat) (vs:List AVal) (h:Zr (Vr x0 l1 l2) n (y2v x0 l1 l2)=.ret vs):Uz prog (Zy prog 77) (Zg prog 77 [(.int .i64 x0),(.dat l1.length (Zz l1)),(.dat l2.length (Zz l2))] true []) vs:=by have:=Zd (w7c x0 l1 l2) n _ (x7w x0 l1 l2);rwa [h] at this
theorem Qy (l m:List R6):(Vy l m).length ≤2*l.length+2*m.length:=by
 refine AE (z6c _) ?_
 grind [z3n]
theorem z5k (l:List R6) (z:Int):(atV l z).length ≤l.length:=by
 grind [atV]
def v6z (out:List R6) (first:Nat) (z:Int):List R6:=out.take first++(out.drop first).map fun r=>⟨r.a,r.b,r.c,r.d,r.e,z⟩
def j2l (z z':Int) (s:List R4):List R6:=s.map fun p=>⟨p.a,p.b,z,p.c,p.d,z'⟩
section
variable (kind:Int) (l m:List R6)
def z0z (z:Int):List R4:=joV kind (atV l z) (atV m z)
def z3l (z:Int):Bool:=decide (400<(z0z kind l m z).length)||(decide (400<(joV 2 (atV l z) []).length)||decide (400<(joV 2 (atV m z) []).length))
def jsF :Nat→Nat→List R6→List R4→Nat→Option (List R6)
 | 0,_,out,_,_=>some out
 | k+1,i,out,last,first=>
  bif z3l kind l m (rd (Vy l m) i) then none
  else bif decide (0<i)&&Vw (z0z kind l m (rd (Vy l m) i)) last then jsF k (i+1) (v6z out first (rd (Vy l m) (i+1))) last first
  else jsF k (i+1) (out++j2l (rd (Vy l m) i) (rd (Vy l m) (i+1)) (z0z kind l m (rd (Vy l m) i))) (z0z kind l m (rd (Vy l m) i)) out.length
def jsO :Option (List R6):=jsF kind l m ((Vy l m).length - 1) 0 [] [] 0
def x9t :Option (List R6)→List AVal
 | none=>[.nils,.bool false]
 | some out=>[.dat out.length (Zz out),.bool (decide ((out.length:Int)≤400))]
def Jg :List R6:=(jsO kind l m).getD []
def z0p :Bool:=match jsO kind l m with
 | none=>false
 | some out=>decide ((out.length:Int)≤400)
end
def jsZ (l:List R6):Prop:=l.length≤40000∧ ∀z,(atV l z).length ≤5000
theorem y9i {l:List R6} (h:l.length≤5000):jsZ l:=⟨by omega,fun z=>AE (z5k l z) h⟩
def z0c (_:Int) (l m:List R6):Bool:=pd (jsZ l∧jsZ m)
theorem u7r {k:Int} {l m:List R6} (hl:l.length≤5000) (hm:m.length≤5000):z0c k l m=true:=Yi ⟨y9i hl,y9i hm⟩
section
variable (kind:Int) (l m:List R6) (hl:jsZ l) (hm:jsZ m)
include hl hm
theorem u5s (last:List R4) (first:Int) (i:Nat) (hi:i+1<(Vy l m).length) (s:List R4) (hs:s.length≤1000000): ∀(k j:Nat) (out:List R6),j+k=s.length→out.length≤10000000000+j→
  ∃n,∀N,Zr (Vr kind l m) (N+n) (.to (.h1 out last first (i:Int) s (j:Int)))=Zr (Vr kind l m) N (.to (.h0 (out++j2l (rd (Vy l m) i) (rd (Vy l m) (i+1)) (s.drop j)) last first ((i+1:Nat):Int)))
 | 0,j,out,h,ho=>by
  have hx:=Qy l m;have hl1:=hl.1;have hm1:=hm.1;refine ⟨1,fun N=> ?_⟩
  grind [Zw,Vr,Zj,j2l]
 | k+1,j,out,h,ho=>by
  have hx:=Qy l m;have hl1:=hl.1;have hm1:=hm.1;obtain ⟨n,hn⟩:=u5s last first i hi s hs k (j+1) (out++j2l (rd (Vy l m) i) (rd (Vy l m) (i+1)) [rd s j]) (by omega) (by simp [j2l];omega)
  refine ⟨n+1,fun N=> ?_⟩;have:=hn N;rw [Yg (show j<s.length by omega),←AG,Zw];simp (disch:=omega) only [Vr,Zb,Zp,Zs,Zn,Ya,Yu,Ze,Zj,Zx,Yp,Zk,Af,Ao,Ah,Ai,Ab];rw [AI] at this;exact this
omit hl hm in
theorem u1z (out:List R6) (j:Nat) (x:Int) (h:j<out.length):v6z (out.set j ⟨(rd out j).a,(rd out j).b,(rd out j).c,(rd out j).d,(rd out j).e,x⟩) (j+1) x=v6z out j x:=by
 unfold v6z;rw [Yg h,A2];have e1:(out.set j ⟨(rd out j).a,(rd out j).b,(rd out j).c,(rd out j).d,(rd out j).e,x⟩).take (j+1)=out.take j++[⟨(rd out j).a,(rd out j).b,(rd out j).c,(rd out j).d,(rd out j).e,x⟩]:=by
  apply BJ
  ·simp;omega
  ·intro n h1 h2;simp only [Bz,List.getElem_set];by_cases e:j=n
   ·subst e;rw [AK rfl,Bq (by simp only [BB];omega)];simp
   ·rw [AF e,Bw (by simp at h1 ⊢;omega),Bz]
 have e2:(out.set j ⟨(rd out j).a,(rd out j).b,(rd out j).c,(rd out j).d,(rd out j).e,x⟩).drop (j+1)=out.drop (j+1):=by rw [List.drop_set];rw [AK (by omega)]
 rw [e1,e2,AI];rfl
theorem u5r (last:List R4) (first:Int) (i:Nat) (hi:i+1<(Vy l m).length): ∀(k j:Nat) (out:List R6),j+k=out.length→out.length≤10000000000→
  ∃n,∀N,Zr (Vr kind l m) (N+n) (.to (.h2 out last first (i:Int) (j:Int)))=Zr (Vr kind l m) N (.to (.h0 (v6z out j (rd (Vy l m) (i+1))) last first ((i+1:Nat):Int)))
 | 0,j,out,h,ho=>by
  have hx:=Qy l m;have hl1:=hl.1;have hm1:=hm.1;refine ⟨1,fun N=> ?_⟩;have e:v6z out j (rd (Vy l m) (i+1))=out:=by
   grind [v6z]
  grind [Zw,Vr,Zj]
 | k+1,j,out,h,ho=>by
  have hx:=Qy l m;have hl1:=hl.1;have hm1:=hm.1;obtain ⟨n,hn⟩:=u5r last first i hi k (j+1) (out.set j ⟨(rd out j).a,(rd out j).b,(rd out j).c,(rd out j).d,(rd out j).e,rd (Vy l m) (i+1)⟩) (by simp;omega) (by grind)
  refine ⟨n+1,fun N=> ?_⟩;have:=hn N;rw [u1z out j _ (by omega)] at this;rw [←AG,Zw];simp (disch:=omega) only [Vr,Zb,Zp,Zs,Zn,Yv,Ya,Yu,Ze,Zj,Zx,Yp,Zk,Af,Ao,Ah,Ai,Ab];exact this
theorem v2n : ∀(k i:Nat) (out:List R6) (last:List R4) (first:Nat),k=(Vy l m).length - 1 - i→i≤(Vy l m).length →out.length≤i*400→last.length≤400→first≤out.length→
  ∃n,Zr (Vr kind l m) n (.to (.h0 out last (first:Int) (i:Int)))=.ret (x9t (jsF kind l m k i out last first))
 | 0,i,out,last,first,h,hi,ho,hla,hf=>by
  have hx:=Qy l m;have hl1:=hl.1;have hm1:=hm.1;refine ⟨1,?_⟩
  grind [Zw,Vr,Zb,Zj,Zq,jsF,x9t]
 | k+1,i,out,last,first,h,hi,ho,hla,hf=>by
  have hx:=Qy l m;have hl1:=hl.1;have hm1:=hm.1;have hi1:i+1<(Vy l m).length :=by omega
  have hbig:i*400≤160000*400:=AC _ (by omega);have a1:=fun z=>hl.2 z;have a2:=fun z=>hm.2 z;have w1: ∀z,z5j l z=true:=fun z=>Al (by omega);have w2: ∀z,z5j m z=true:=fun z=>Al (by omega);have w3: ∀k z,Qj k (atV l z) (atV m z)=true:=fun k z=>Al (by grind);have w4: ∀k z,Qj k (atV l z) ([]:List R4)=true:=fun k z=>Al (by grind);have w5: ∀k z,Qj k (atV m z) ([]:List R4)=true:=fun k z=>Al (by grind);unfold jsF;have eI:z0z kind l m (rd (Vy l m) i)=joV kind (atV l (rd (Vy l m) i)) (atV m (rd (Vy l m) i)):=rfl;by_cases c1:400<(z0z kind l m (rd (Vy l m) i)).length
  ·refine ⟨1,?_⟩;have hb:z3l kind l m (rd (Vy l m) i)=true:=by grind [z3l]
   rw [hb,Ab,Zw];rw [eI] at c1;simp (disch:=omega) only [Vr,Zb,Zp,Zs,Yn,Zn,Zj,Zx,Zk,w1,w2,w3,w4,w5,Ah,Ab,Zq,x9t]
  by_cases c2:400<(joV 2 (atV l (rd (Vy l m) i)) []).length
  ·refine ⟨1,?_⟩;have hb:z3l kind l m (rd (Vy l m) i)=true:=by grind [z3l]
   rw [hb,Ab,Zw];rw [eI] at c1;simp (disch:=omega) only [Vr,Zb,Zp,Zs,Yn,Xi,Zn,Zj,Zx,Zk,w1,w2,w3,w4,w5,Ah,Ab,Aa,Zq,x9t]
  by_cases c3:400<(joV 2 (atV m (rd (Vy l m) i)) []).length
  ·refine ⟨1,?_⟩;have hb:z3l kind l m (rd (Vy l m) i)=true:=by grind [z3l]
   rw [hb,Ab,Zw];rw [eI] at c1;simp (disch:=omega) only [Vr,Zb,Zp,Zs,Yn,Xi,Zn,Zj,Zx,Zk,w1,w2,w3,w4,w5,Ah,Ab,Aa,Zq,x9t]
  have hb:z3l kind l m (rd (Vy l m) i)=false:=by grind [z3l]
  rw [hb,Aa];have w6:Xs (joV kind (atV l (rd (Vy l m) i)) (atV m (rd (Vy l m) i))) last=true:=Al (by grind);rcases Yy (decide (0<i)&&Vw (z0z kind l m (rd (Vy l m) i)) last) with q | q
  ·obtain ⟨n3,h3⟩:=u5r kind l m hl hm last first i hi1 (out.length - first) first out (by omega) (by omega)
   obtain ⟨n0,h0⟩:=v2n k (i+1) (v6z out first (rd (Vy l m) (i+1))) last first (by omega) (by omega) (by simp [v6z];omega) hla (by simp [v6z];omega)
   refine ⟨n0+n3+1,?_⟩;rw [q,Ab,Zw];simp only [Ac,At] at q;obtain ⟨q1,q2⟩:=q;rw [eI] at c1 q2;simp (disch:=omega) only [Vr,Zb,Zp,Zs,Yn,Xi,Zn,Zj,Zx,Zk,w1,w2,w3,w4,w5,w6,q2,Ah,Ab,Aa]
   grind
  ·obtain ⟨n2,h2⟩:=u5s kind l m hl hm (z0z kind l m (rd (Vy l m) i)) (out.length:Int) i hi1 (z0z kind l m (rd (Vy l m) i)) (by omega) (z0z kind l m (rd (Vy l m) i)).length 0 out (Af _) (by omega);obtain ⟨n0,h0⟩:=v2n k (i+1) (out++j2l (rd (Vy l m) i) (rd (Vy l m) (i+1)) (z0z kind l m (rd (Vy l m) i))) (z0z kind l m (rd (Vy l m) i)) out.length (by omega) (by omega) (by simp [j2l];omega) (by omega) (by simp);refine ⟨n0+n2+1,?_⟩;rw [q,Aa,Zw];have h2':=h2 n0;simp only [AT,z2b] at h2';have c1':=c1;rw [eI] at c1';by_cases hi0:0<i
   ·rw [Al hi0,Ai,eI] at q;simp (disch:=omega) only [Vr,Zb,Zp,Zs,Yn,Xi,Zn,Zj,Zx,Zk,w1,w2,w3,w4,w5,w6,q,Ah,Ab,Aa]
    grind
   ·simp (disch:=omega) only [Vr,Zb,Zp,Zs,Yn,Xi,Zn,Zj,Zx,Zk,w1,w2,w3,w4,w5,w6,Ah,Ab,Aa]
    grind
end
theorem j1g (kind:Int) (l m:List R6) (h:z0c kind l m=true): ∃N,Zr (Vr kind l m) N (y2v kind l m)=.ret (x9t (jsO kind l m)):=by obtain ⟨hl,hm⟩:=Ut h;have hl1:=hl.1;have hm1:=hm.1;obtain ⟨N,hN⟩:=v2n kind l m hl hm ((Vy l m).length - 1) 0 [] [] 0 rfl (AA _) (AA _) (AA _) (Aq _);refine ⟨N,?_⟩;have w1:z8n l m=true:=Al ⟨by omega,by omega⟩;simp only [y2v,Zb,Zp,w1,Ab];exact hN
def fJs :List AVal→Option (AVal×Bool)
 | [.int .i64 x0,a1,a2]=>match asL R6 a1,asL R6 a2 with
  | some (L1,g1,n1),some (L2,g2,n2)=>some (.tup [.dat (Jg x0 L1 L2).length (Zz (Jg x0 L1 L2)),.bool (z0p x0 L1 L2)],isT R6 n1 g1&&(isT R6 n2 g2&&(z0c x0 L1 L2)))
  | _,_=>none
 | _=>none
theorem fJs_ok {S:Specs} (hS:Zv prog S):Zv prog (S.with u7e fJs):=by
 refine x6d hS (by kernel_rfl) fun args v h=> ?_;unfold fJs at h;split at h
 ·rename_i x0 a1 a2;split at h
  ·rename_i L1 g1 n1 L2 g2 n2 e1 e2;simp only [Ae,Ad,Ac] at h;obtain ⟨rfl,ho1,ho2,hw⟩:=h;obtain ⟨N,hN⟩:=j1g x0 L1 L2 hw;refine ⟨_,x9t (jsO x0 L1 L2),(.cons (.refl _) (.cons (Yc e1 ho1) (.cons (Yc e2 ho2) .nil))),?_,v9j x0 L1 L2 N _ hN,3,?_⟩
   ·unfold Jg z0p;cases jsO x0 L1 L2 with
    | none=>exact fun ρ u hu=>z3g (.cons (Qd R6) (RLe.refl _)) ρ u hu
    | some out=>exact fun ρ u hu=>hu
   ·cases jsO x0 L1 L2 <;> rfl
  ·cases h
 ·cases h
def T4 :Specs:=T3.with u7e fJs
theorem T4_ok :Zv prog T4:=fJs_ok y0k
open Go.Sort Go.Shelf Go.RowKit Go.Lib
def j5t (x:E3):List Value:=w8z x.1
theorem j5s (l:List R3) (h:y1m l=true):Go.Sort.flatK j5t 3 (x2v l h).toArray =Go.Sort.flatK w8z 3 l.toArray:=by
 have hl:=Qx l h;unfold Go.Sort.flatK;rw [show (x2v l h).toArray.size =l.toArray.size by simpa using hl];apply Array.ext
 ·simp
 ·intro t h1 h2;simp only [Array.getElem_map,Array.getElem_range];have ht:t<l.length*3:=by simpa using h1
  have hq:t / 3<l.length:=by omega
  congr 1
  rw [getElem!_pos (x2v l h).toArray (t / 3) (by simpa [hl] using hq),getElem!_pos l.toArray (t / 3) (by simpa using hq)];unfold j5t
  congr 1
  have:=y3t l h;have e:=AN (fun z:List R3=>z[t / 3]?) this;simp only [List.getElem?_map] at e;rw [Au (by rw [hl];exact hq),Au hq] at e
  simpa using e
theorem u1t (d:Array E3):Go.Sort.flatK j5t 3 d=Go.Sort.flatK w8z 3 (d.toList.map Subtype.val).toArray :=by
 unfold Go.Sort.flatK;rw [show d.size=(d.toList.map Subtype.val).toArray.size by simp];apply Array.ext
 ·simp
 ·intro t h1 h2;simp only [Array.getElem_map,Array.getElem_range];have ht:t<d.size*3:=by simpa using h1
  have hq:t / 3<d.size:=by omega
  congr 1
  rw [getElem!_pos d (t / 3) hq,getElem!_pos (d.toList.map Subtype.val).toArray (t / 3) (by simpa using hq)];simp [j5t]
theorem z8d (l:List R3):x1n l.length (z1j (cvT l)).length =true:=Vt (by
 rw [Zb];by_cases h:y1m l=true
 ·exact (Qq l h).1.length_eq.symm
 ·unfold z1j;rw [dif_neg h])
theorem isAgg3 : ∀w,(isAgg (Tryz.sortEnd_ren.t 24)).run prog w=.ok true w:=fun w=>by rfl
theorem size3 : ∀w,(Go.sizeOf (Tryz.sortEnd_ren.t 24)).run prog w=.ok 3 w:=fun w=>by rfl
theorem v1b :x6a prog u6w (w4y R3 z1j y1m w4d):=by
 refine v5t (fun L=> ?_) (fun blk off cap L w hb hH eN hsz=> ?_) fun p cap fv w=>AnyF.slices_SortFunc_none Tryz.sortEnd p cap fv w
 ·by_cases h:y1m L=true
  ·exact (Qq L h).1.length_eq
  ·unfold z1j;rw [dif_neg h]
 ·have eg: ∀args w,(callFunc 194 args).run prog w=.ok (.enter 194 args) w:=enters_of Tryz.func194 (by kernel_rfl) rfl;have hcmp:CmpLays prog 194 #[] j5t 3 cf3 blk off (x2v L hb).toArray.size w:=fun m os dk _ x y=>by have hx:=Av x.2;have hy:=Av y.2;exact Tryz.cmpEnd x.1.a x.1.b x.1.c y.1.a y.1.b y.1.c hx hy _
  have hH':HoldsK j5t 3 w blk off (x2v L hb).toArray :=by unfold HoldsK;rw [j5s L hb];exact hH
  have hcon:=AnyQ.slices_SortFunc_eq Tryz.sortEnd 3 isAgg3 size3 j5t (fun x=>w0v x.1) (fun x v hv=>by
   obtain ⟨a,ha,rfl⟩:=AP.1 hv;have:x9w a=true:=Ar.1 (u8k.num x.1) a ha;cases a <;> first | rfl | (simp [x9w] at this;done)) cf3 swo3 194 #[] blk off cap (x2v L hb).toArray w eg hcmp hH' eN (by simpa [Qx] using hsz)
  have hs:(x2v L hb).toArray.size =L.length:=by simp [Qx]
  rw [hs] at hcon;refine Calls.mono hcon fun e w' ⟨he,n,os,hw⟩=>⟨he,n,os,?_⟩
  rw [hw];unfold sortWorldK putRowK;rw [u1t];unfold z1j;rw [dif_pos hb];rfl
def Xr (zs:List Int):List Int:=zs.mergeSort fun x y=>decide (x≤y)
theorem v1a :x6a prog nSort (fRow Xr):=
 j5u (fun zs=>List.length_mergeSort zs) (fun blk off cap zs w hH hb hz=>Tryz.slices_Sort_int blk off cap zs w hH hb hz) fun p cap w=>Tryz.slices_Sort_int_none p cap w
def Wd (zs:List Int):List Int:=compact zs++List.replicate (zs.length - (compact zs).length) 0
def u8b (zs:List Int):Nat:=(compact zs).length
theorem Jf (zs:List Int):(Wd zs).length =zs.length:=by have:=compact_length_le zs;simp [Wd];omega
theorem z4i (n:Nat) (c:Nat→Int):x1n n (Wd (Ye n c)).length =true:=Vt (by rw [Jf];simp [Ye])
theorem v4w (w:World):grow w #[]=w:=by simp [grow]
theorem w1g :x6a prog w4f (fCut Wd u8b):=
 j5v (fun zs=>by have:=compact_length_le zs;simp [Wd];omega) (fun zs=>compact_length_le zs)
  (fun blk off cap zs w hH hb hz dM=>(Tryz.slices_Compact_int blk off cap zs w hH (by omega) dM).mono fun e w' ⟨he,q,hw⟩=>⟨he,q, #[],by rw [hw,v4w];rfl⟩)
  fun p cap w=>Tryz.slices_Compact_int_empty p cap w
def T5 :Specs:=((T4.withE u6w (w4y R3 z1j y1m w4d)).withE nSort (fRow Xr)).withE w4f (fCut Wd u8b)
theorem z0i :Zv prog T5:=x0b (x0b (x0b T4_ok (by kernel_rfl) v1b) (by kernel_rfl) v1a) (by kernel_rfl) w1g
-- h2: index into an array (choices [true, true, false, false])
-- h2: index into an array (choices [true, false, true, false, false])
-- h2: index into an array (choices [true, false, false, true, true, false, false])
-- h2: index into an array (choices [true, false, false, true, false, false, false])
-- h2: index into an array (choices [true, false, false, false, false, false])
inductive spmS where
 | h0 (v8:Int)
 | h1 (v3:List R3) (v17:Int)
 | h2 (v5:List R3) (v6:Int) (v7:Int) (aB:Int) (bL:Int) (aU:Int) (aF:Bool) (aC:List R2)
abbrev Uf (aC:List R2) (aU:Int) (v5:List R3) (v7:Int):=(aC++[(R2.mk aU (rd v5 (0+(tn v7))).a)])
abbrev y0q (aC:List R2) (aU:Int) (v5:List R3) (v7:Int):=(Zh (Zz aC) 0 aC.length 2 [(ii aU),(ii (rd v5 (0+(tn v7))).a)])
abbrev y7r (v3:List R3) (l0:List R2) (v17:Int):=(v3++[(R3.mk (rd l0 (tn v17)).a 0 1),(R3.mk (rd l0 (tn v17)).b 0 (-1))])
def u3h (l0:List R2):AFr:=⟨⟨11,0,true⟩,(Vk prog 156 [1,1,1,0] 1),(Zc prog 156 [1,1,1,0] 1),none,(Zy prog 14),Yj [(9,(.dat l0.length (Zz l0)))]⟩
def spmC (l0:List R2):spmS→Cfg
 | .h0 v8=>⟨⟨19,0,true⟩,none,(Zc prog 191 [1,0,1,0,0] 0),none,(Zy prog 6),⟨Yj [(0,(.dat l0.length (Zz l0))),(1,(.fn 178 [])),(7,(ii (l0.length:Int))),(8,(ii v8))],Wn [] 0,0,[],true⟩,[⟨⟨9,0,true⟩,(Vk prog 177 [1,0] 2),(Zc prog 177 [1,0] 1),none,(Zy prog 6),Yj [(5,(.dat l0.length (Zz l0))),(6,(.fn 178 []))]⟩,⟨⟨11,0,true⟩,(Vk prog 156 [1,1,0,0] 1),(Zc prog 156 [1,1,0,0] 1),none,(Zy prog 14),Yj [(0,(.dat l0.length (Zz l0))),(7,(.dat l0.length (Zz l0)))]⟩],.leaf⟩
 | .h1 v3 v17=>⟨⟨38,0,true⟩,none,(Zc prog 184 [1,1,0,1,0,0,1,1,0,0,1,1,0,0] 0),none,(Zy prog 9),⟨Yj [(3,(.sla 7 3 0 v3.length (.un 3))),(4,(ii 0)),(8,(.sl 0 0 2 (.un 1))),(9,(ii 2)),(10,(ii 0)),(15,(.dat l0.length (Zz l0))),(16,(ii (l0.length:Int))),(17,(ii v17))],Wn [⟨[(.dat l0.length (Zz l0)),.nils],155,none⟩,⟨[(.fn 180 [])],167,none⟩,⟨[(ii 0),(ii 0)],222,none⟩,⟨[.nils],155,none⟩,⟨[(ii 0)],3,none⟩,⟨[(.bool false)],4,none⟩,⟨[(.fn 183 [(.ptr 5 0),(.ptr 4 0),(.ptr 3 0)])],223,none⟩,⟨Yk v3.length (Zz v3),227,some ⟨3,v3.length,(Zz v3)⟩⟩] 0,8,[],true⟩,[⟨⟨42,0,true⟩,(Vk prog 161 [1,1,1,1,1,0,0] 3),(Zc prog 161 [1,1,1,1,1,0,0] 1),none,(Zy prog 3),Yj [(5,(.ptr 1 0)),(6,.nils),(7,(.ptr 2 0)),(8,(.ptr 3 0)),(9,(.ptr 4 0)),(10,(.ptr 5 0)),(11,(.ptr 6 0)),(16,(.sl 0 0 2 (.un 1)))]⟩,(u3h l0)],.leaf⟩
 | .h2 v5 v6 v7 aB bL aU aF aC=>⟨⟨16,0,true⟩,none,(Zc prog 198 [1,0,0] 0),none,[],⟨Yj [(0,(.yld 0)),(5,(.sla 7 3 0 v5.length (.un 3))),(6,(ii v6)),(7,(ii v7))],z6q [(1,⟨[(.fn 180 [])],167,none⟩),(2,⟨[(ii aB),(ii bL)],222,none⟩),(3,⟨[(ii aU)],3,none⟩),(4,⟨[(.bool aF)],4,none⟩),(5,⟨[(.fn 183 [(.ptr 4 0),(.ptr 3 0),(.ptr 6 0)])],223,none⟩),(6,⟨[(.sla 8 2 0 aC.length (.un 2))],155,none⟩),(7,⟨Yk v5.length (Zz v5),227,some ⟨3,v5.length,(Zz v5)⟩⟩),(8,⟨Yk aC.length (Zz aC),176,some ⟨2,aC.length,(Zz aC)⟩⟩)],9,[],true⟩,[⟨⟨42,0,true⟩,none,(.inRangeFunc 0::(Zc prog 161 [1,1,1,1,1,0,1,0] 1)),none,(Zy prog 3),Yj [(6,.nils),(8,(.ptr 6 0))]⟩,(u3h l0)],(y1k [(0,⟨.ready,none,42,Yj [(5,(.ptr 1 0)),(7,(.ptr 2 0)),(9,(.ptr 3 0)),(10,(.ptr 4 0)),(11,(.ptr 5 0))],[18],(Wc prog 161 [1,1,1,1,1,0,1,0,0]),(Wc prog 161 [1,1,1,1,1,0,1,0,1])⟩)])⟩
def spmN0 :List (Option (List Nat)):=[some [0,1,7,8],some [5,6],some [0,7]]
def spmM0 :List (Option (List Nat)):=[]
def v0w :List (Option (List Nat)):=[some [3,4,8,9,10,15,16,17],some [5,6,7,8,9,10,11,16],some [9]]
def v0x :List (Option (List Nat)):=[]
def y4c :List (Option (List Nat)):=[some [0,5,6,7],some [6,8],some [9]]
def y4d :List (Option (List Nat)):=[some [5,7,9,10,11],none,none,none,none,none,none,none,none]
def Jy (l0:List R2):spmS→Xx spmS
 | .h0 v8=>(bif (decide (v8<(l0.length:Int))) then (bif ((decide (0≤v8∧v8<(l0.length:Int)))&&true) then (bif (decide ((rd l0 v8.toNat).a <(rd l0 v8.toNat).b)) then (bif (decide ((rd l0 v8.toNat).a ≥(-1000000))) then (bif (!(decide ((rd l0 v8.toNat).b ≤1000000))) then (bif (decide (v8≥0)) then (.ret [.nils,(.int .i64 8)]) else (.to (.h1 ([]:List R3) 0))) else (.to (.h0 (wrap .i64 (v8+1))))) else (bif (decide (v8≥0)) then (.ret [.nils,(.int .i64 8)]) else (.to (.h1 ([]:List R3) 0)))) else (bif (decide (v8≥0)) then (.ret [.nils,(.int .i64 8)]) else (.to (.h1 ([]:List R3) 0)))) else .stuck) else (.to (.h1 ([]:List R3) 0)))
 | .h1 v3 v17=>(bif (decide (v17<(l0.length:Int))) then (bif ((decide (0≤v17∧v17<(l0.length:Int)))&&true) then (bif (Nat.beq 3 3&&((decide (0+v3.length=v3.length))&&decide ((v3.length+2+1)*(24+1)≤room))) then (.to (.h1 (v3++[(R3.mk (rd l0 v17.toNat).a 0 1),(R3.mk (rd l0 v17.toNat).b 0 (-1))]) (wrap .i64 (v17+1)))) else .stuck) else .stuck) else (bif (y1m (cvT v3)) then (bif (decide (v3.length<4611686018427387904)) then (bif (decide (v3.length=v3.length)) then (.to (.h2 (z1j (cvT v3)) (v3.length:Int) 0 0 0 0 false ([]:List R2))) else .stuck) else .stuck) else .stuck))
 | .h2 v5 v6 v7 aB bL aU aF aC=>(bif (decide (v7<v6)) then (bif ((decide (0≤v7∧v7<(v5.length:Int)))&&true) then (bif (decide ((0+v7.toNat)<v5.length)) then (bif (!aF) then (bif (decide ((rd v5 (0+v7.toNat)).b =Int.ofNat 0)) then (.to (.h2 v5 v6 (wrap .i64 (v7+1)) (wrap .i64 (aB+(rd v5 (0+v7.toNat)).c)) bL (rd v5 (0+v7.toNat)).a (w4t (decide ((wrap .i64 (aB+(rd v5 (0+v7.toNat)).c))>0)) (decide (bL>0))) aC)) else (bif (decide ((rd v5 (0+v7.toNat)).b =Int.ofNat 1)) then (.to (.h2 v5 v6 (wrap .i64 (v7+1)) aB (wrap .i64 (bL+(rd v5 (0+v7.toNat)).c)) (rd v5 (0+v7.toNat)).a (w4t (decide (aB>0)) (decide ((wrap .i64 (bL+(rd v5 (0+v7.toNat)).c))>0))) aC)) else .stuck)) else (bif (aU == (rd v5 (0+v7.toNat)).a) then (bif (decide ((rd v5 (0+v7.toNat)).b =Int.ofNat 0)) then (.to (.h2 v5 v6 (wrap .i64 (v7+1)) (wrap .i64 (aB+(rd v5 (0+v7.toNat)).c)) bL (rd v5 (0+v7.toNat)).a (w4t (decide ((wrap .i64 (aB+(rd v5 (0+v7.toNat)).c))>0)) (decide (bL>0))) aC)) else (bif (decide ((rd v5 (0+v7.toNat)).b =Int.ofNat 1)) then (.to (.h2 v5 v6 (wrap .i64 (v7+1)) aB (wrap .i64 (bL+(rd v5 (0+v7.toNat)).c)) (rd v5 (0+v7.toNat)).a (w4t (decide (aB>0)) (decide ((wrap .i64 (bL+(rd v5 (0+v7.toNat)).c))>0))) aC)) else .stuck)) else (bif (decide ((aC.length:Int)>0)) then (bif ((decide (0≤(wrap .i64 ((aC.length:Int) - 1))∧(wrap .i64 ((aC.length:Int) - 1))<(aC.length:Int)))&&true) then (bif (decide ((0+(Int.toNat (wrap .i64 ((aC.length:Int) - 1))))<aC.length)) then (bif ((rd aC (0+(Int.toNat (wrap .i64 ((aC.length:Int) - 1))))).b == aU) then (bif (decide ((rd v5 (0+v7.toNat)).b =Int.ofNat 0)) then (.to (.h2 v5 v6 (wrap .i64 (v7+1)) (wrap .i64 (aB+(rd v5 (0+v7.toNat)).c)) bL (rd v5 (0+v7.toNat)).a (w4t (decide ((wrap .i64 (aB+(rd v5 (0+v7.toNat)).c))>0)) (decide (bL>0))) (aC.set (0+(Int.toNat (wrap .i64 ((aC.length:Int) - 1)))) (R2.mk (rd aC (0+(Int.toNat (wrap .i64 ((aC.length:Int) - 1))))).a (rd v5 (0+v7.toNat)).a)))) else (bif (decide ((rd v5 (0+v7.toNat)).b =Int.ofNat 1)) then (.to (.h2 v5 v6 (wrap .i64 (v7+1)) aB (wrap .i64 (bL+(rd v5 (0+v7.toNat)).c)) (rd v5 (0+v7.toNat)).a (w4t (decide (aB>0)) (decide ((wrap .i64 (bL+(rd v5 (0+v7.toNat)).c))>0))) (aC.set (0+(Int.toNat (wrap .i64 ((aC.length:Int) - 1)))) (R2.mk (rd aC (0+(Int.toNat (wrap .i64 ((aC.length:Int) - 1))))).a (rd v5 (0+v7.toNat)).a)))) else .stuck)) else (bif (Nat.beq 2 2&&((decide (0+aC.length=aC.length))&&decide ((aC.length+1+1)*(16+1)≤room))) then (bif (decide ((rd v5 (0+v7.toNat)).b =Int.ofNat 0)) then (.to (.h2 v5 v6 (wrap .i64 (v7+1)) (wrap .i64 (aB+(rd v5 (0+v7.toNat)).c)) bL (rd v5 (0+v7.toNat)).a (w4t (decide ((wrap .i64 (aB+(rd v5 (0+v7.toNat)).c))>0)) (decide (bL>0))) (aC++[(R2.mk aU (rd v5 (0+v7.toNat)).a)]))) else (bif (decide ((rd v5 (0+v7.toNat)).b =Int.ofNat 1)) then (.to (.h2 v5 v6 (wrap .i64 (v7+1)) aB (wrap .i64 (bL+(rd v5 (0+v7.toNat)).c)) (rd v5 (0+v7.toNat)).a (w4t (decide (aB>0)) (decide ((wrap .i64 (bL+(rd v5 (0+v7.toNat)).c))>0))) (aC++[(R2.mk aU (rd v5 (0+v7.toNat)).a)]))) else .stuck)) else .stuck)) else .stuck) else .stuck) else (bif (Nat.beq 2 2&&((decide (0+aC.length=aC.length))&&decide ((aC.length+1+1)*(16+1)≤room))) then (bif (decide ((rd v5 (0+v7.toNat)).b =Int.ofNat 0)) then (.to (.h2 v5 v6 (wrap .i64 (v7+1)) (wrap .i64 (aB+(rd v5 (0+v7.toNat)).c)) bL (rd v5 (0+v7.toNat)).a (w4t (decide ((wrap .i64 (aB+(rd v5 (0+v7.toNat)).c))>0)) (decide (bL>0))) (aC++[(R2.mk aU (rd v5 (0+v7.toNat)).a)]))) else (bif (decide ((rd v5 (0+v7.toNat)).b =Int.ofNat 1)) then (.to (.h2 v5 v6 (wrap .i64 (v7+1)) aB (wrap .i64 (bL+(rd v5 (0+v7.toNat)).c)) (rd v5 (0+v7.toNat)).a (w4t (decide (aB>0)) (decide ((wrap .i64 (bL+(rd v5 (0+v7.toNat)).c))>0))) (aC++[(R2.mk aU (rd v5 (0+v7.toNat)).a)]))) else .stuck)) else .stuck)))) else .stuck) else .stuck) else (.ret [(.dat aC.length (Zz aC)),(.int .i64 0)]))
def y1y (l0:List R2):Xx spmS:=(bif (decide ((l0.length:Int)>400)) then (.ret [.nils,(.int .i64 4)]) else (.to (.h0 0)))
theorem w5v (l0:List R2): ∀s,Xy prog (Zy prog 156) (spmC l0) (spmC l0 s) (Jy l0 s)
 | .h0 v8=>(lb (fun k0=>(lo fun aI=>(lb (fun k1=>(lb (fun k2=>(lb (fun k3=>(lb (fun k4=>(lr 11 156 [1,1,0,1,0,0] 1 14 [(2,.nils),(3,(ii 8))] (sl z0i 79 [] ⟨[],[],[some [2,3]],[]⟩ ⟨[],[],[]⟩ (trs 9 []) (tt k4 (tt k3 (tt k2 (tt k1 (ww aI (tt k0 nn))))))))) (fun k4=>(sl z0i 154 [(227,3,Zz ([]:List R3))] ⟨[8,2,3,4,5,6,7,9],[],v0w,v0x⟩ ⟨[(3,.grow 7 3)],[],[]⟩ (trs 8 (bl 2 2)) (pp (fl ([]:List R3) nn) (tt k4 (tt k3 (tt k2 (tt k1 (ww aI (tt k0 nn))))))))))) (fun k3=>(sl z0i 69 [] ⟨[],[],spmN0,spmM0⟩ ⟨[],[],[]⟩ (trs 7 [false]) (tt k3 (tt k2 (tt k1 (ww aI (tt k0 nn))))))))) (fun k2=>(lb (fun k3=>(lr 11 156 [1,1,0,1,0,0] 1 14 [(2,.nils),(3,(ii 8))] (sl z0i 79 [] ⟨[],[],[some [2,3]],[]⟩ ⟨[],[],[]⟩ (trs 4 (bl 5 24)) (tt k3 (tt k2 (tt k1 (ww aI (tt k0 nn)))))))) (fun k3=>(sl z0i 154 [(227,3,Zz ([]:List R3))] ⟨[8,2,3,4,5,6,7,9],[],v0w,v0x⟩ ⟨[(3,.grow 7 3)],[],[]⟩ (trs 4 (bl 6 40)) (pp (fl ([]:List R3) nn) (tt k3 (tt k2 (tt k1 (ww aI (tt k0 nn)))))))))))) (fun k1=>(lb (fun k2=>(lr 11 156 [1,1,0,1,0,0] 1 14 [(2,.nils),(3,(ii 8))] (sl z0i 79 [] ⟨[],[],[some [2,3]],[]⟩ ⟨[],[],[]⟩ (bl 9 385) (tt k2 (tt k1 (ww aI (tt k0 nn))))))) (fun k2=>(sl z0i 154 [(227,3,Zz ([]:List R3))] ⟨[8,2,3,4,5,6,7,9],[],v0w,v0x⟩ ⟨[(3,.grow 7 3)],[],[]⟩ (bl 10 641) (pp (fl ([]:List R3) nn) (tt k2 (tt k1 (ww aI (tt k0 nn)))))))))))) (fun k0=>(sl z0i 98 [(227,3,Zz ([]:List R3))] ⟨[6,0,1,2,3,4,5,7],[],v0w,v0x⟩ ⟨[(3,.grow 7 3)],[],[]⟩ (bl 3 4) (pp (fl ([]:List R3) nn) (tt k0 nn)))))
 | .h1 v3 v17=>(lb (fun k0=>(lo fun o0=>(lo fun o1=>(sl z0i 36 [] ⟨[0,1,2,3,4,5,6,10],[],v0w,v0x⟩ ⟨[(3,.len (y7r v3 l0 v17).length)],(kpB 7 [.rowed 3 (y7r v3 l0 v17).length (Zz (y7r v3 l0 v17))]),[]⟩ [true] (pp (xL (v3.length+2) (y7r v3 l0 v17).length) (pp (xL (v3.length+2) (y7r v3 l0 v17).length) (pp (xS (v3.length+2) (Zh (Zz v3) 0 v3.length 3 [(ii (rd l0 (tn v17)).a),(ii 0),(ii 1),(ii (rd l0 (tn v17)).b),(ii 0),(ii (-1))]) (Zz (y7r v3 l0 v17))) (pp (pp (xF (Zh (Zz v3) 0 v3.length 3 [(ii (rd l0 (tn v17)).a),(ii 0),(ii 1),(ii (rd l0 (tn v17)).b),(ii 0),(ii (-1))])) nn) (ww o1 (ww o0 (tt k0 nn))))))))))) (fun k0=>(lo fun o0=>(lo fun o1=>(lo fun o2=>(sl z0i 92 [(176,2,Zz ([]:List R2))] ⟨[9,1,2,4,5,6,3,7,10],[],y4c,y4d⟩ ⟨[(5,.len (z1j (cvT v3)).length)],(kpB 6 [.cells [.grow 8 2],.rowed 3 (z1j (cvT v3)).length (Zz (z1j (cvT v3))),.keep]),[]⟩ (bl 4 2) (pp (xL v3.length (z1j (cvT v3)).length (by first | exact z8d _ | exact Vt rfl)) (pp (xL v3.length (z1j (cvT v3)).length (by first | exact z8d _ | exact Vt rfl)) (pp (xS v3.length (Zz (z1j (cvT v3))) (Zz (z1j (cvT v3)))) (pp (fl (z1j (cvT v3)) (fl ([]:List R2) nn)) (pp (pp (xG (Nat.beq 3 3)) (pp (xG (Nat.beq 3 3)) (pp (xG (Nat.beq 0 0)) (pp (pp (xG (decide (v3.length=v3.length))) (pp (xr v3) (xG (decide (v3.length<4611686018427387904))))) (xG (y1m (cvT v3))))))) (tt k0 nn))))))))))))
 | .h2 v5 v6 v7 aB bL aU aF aC=>(lb (fun k0=>(lo fun aI=>(lo fun bD=>(lb (fun k1=>(lb (fun k2=>(sl z0i 62 [] ⟨(List.range 9),[],y4c,y4d⟩ ⟨[],[],[]⟩ (trs 5 (bl 3 0)) (pp (fl v5 (fl aC nn)) (ww k2 (tt k1 (ww bD (ww aI (tt k0 nn)))))))) (fun k2=>(lb (fun k3=>(sl z0i 62 [] ⟨(List.range 9),[],y4c,y4d⟩ ⟨[],[],[]⟩ (trs 6 (bl 4 2)) (pp (fl v5 (fl aC nn)) (ww k3 (tt k1 (ww bD (ww aI (tt k0 nn)))))))) (fun k3=>trivial))))) (fun k1=>(lb (fun k2=>(lb (fun k3=>(sl z0i 62 [] ⟨(List.range 9),[],y4c,y4d⟩ ⟨[],[],[]⟩ (bl 8 17) (pp (fl v5 (fl aC nn)) (ww k3 (tt k2 (tt k1 (ww bD (ww aI (tt k0 nn))))))))) (fun k3=>(lb (fun k4=>(sl z0i 62 [] ⟨(List.range 9),[],y4c,y4d⟩ ⟨[],[],[]⟩ (bl 10 177) (pp (fl v5 (fl aC nn)) (ww k4 (tt k2 (tt k1 (ww bD (ww aI (tt k0 nn))))))))) (fun k4=>trivial))))) (fun k2=>(lb (fun k3=>(lo fun bU=>(lo fun cU=>(lb (fun k4=>(lb (fun k5=>(sl z0i 81 [] ⟨(List.range 9),[],y4c,y4d⟩ ⟨[],(kpB 6 [.cells [.len (aC.set (0+(tn (wr ((aC.length:Int) - 1)))) (R2.mk (rd aC (0+(tn (wr ((aC.length:Int) - 1))))).a (rd v5 (0+(tn v7))).a)).length],.keep,.rowed 2 (aC.set (0+(tn (wr ((aC.length:Int) - 1)))) (R2.mk (rd aC (0+(tn (wr ((aC.length:Int) - 1))))).a (rd v5 (0+(tn v7))).a)).length (Zz (aC.set (0+(tn (wr ((aC.length:Int) - 1)))) (R2.mk (rd aC (0+(tn (wr ((aC.length:Int) - 1))))).a (rd v5 (0+(tn v7))).a)))]),[]⟩ (bl 17 16353) (pp (xL aC.length (aC.set (0+(tn (wr ((aC.length:Int) - 1)))) (R2.mk (rd aC (0+(tn (wr ((aC.length:Int) - 1))))).a (rd v5 (0+(tn v7))).a)).length) (pp (xL aC.length (aC.set (0+(tn (wr ((aC.length:Int) - 1)))) (R2.mk (rd aC (0+(tn (wr ((aC.length:Int) - 1))))).a (rd v5 (0+(tn v7))).a)).length) (pp (xS aC.length (Yt (Zz aC) (0+(tn (wr ((aC.length:Int) - 1)))) 1 [(ii (rd v5 (0+(tn v7))).a)]) (Zz (aC.set (0+(tn (wr ((aC.length:Int) - 1)))) (R2.mk (rd aC (0+(tn (wr ((aC.length:Int) - 1))))).a (rd v5 (0+(tn v7))).a)))) (pp (fl v5 (pp (xF (Yt (Zz aC) (0+(tn (wr ((aC.length:Int) - 1)))) 1 [(ii (rd v5 (0+(tn v7))).a)])) nn)) (ww k5 (ww cU (ww bU (tt k4 (ww cU (ww bU (tt k3 (tt k2 (tt k1 (ww bD (ww aI (tt k0 nn)))))))))))))))))) (fun k5=>(lb (fun k6=>(sl z0i 81 [] ⟨(List.range 9),[],y4c,y4d⟩ ⟨[],(kpB 6 [.cells [.len (aC.set (0+(tn (wr ((aC.length:Int) - 1)))) (R2.mk (rd aC (0+(tn (wr ((aC.length:Int) - 1))))).a (rd v5 (0+(tn v7))).a)).length],.keep,.rowed 2 (aC.set (0+(tn (wr ((aC.length:Int) - 1)))) (R2.mk (rd aC (0+(tn (wr ((aC.length:Int) - 1))))).a (rd v5 (0+(tn v7))).a)).length (Zz (aC.set (0+(tn (wr ((aC.length:Int) - 1)))) (R2.mk (rd aC (0+(tn (wr ((aC.length:Int) - 1))))).a (rd v5 (0+(tn v7))).a)))]),[]⟩ (bl 19 98273) (pp (xL aC.length (aC.set (0+(tn (wr ((aC.length:Int) - 1)))) (R2.mk (rd aC (0+(tn (wr ((aC.length:Int) - 1))))).a (rd v5 (0+(tn v7))).a)).length) (pp (xL aC.length (aC.set (0+(tn (wr ((aC.length:Int) - 1)))) (R2.mk (rd aC (0+(tn (wr ((aC.length:Int) - 1))))).a (rd v5 (0+(tn v7))).a)).length) (pp (xS aC.length (Yt (Zz aC) (0+(tn (wr ((aC.length:Int) - 1)))) 1 [(ii (rd v5 (0+(tn v7))).a)]) (Zz (aC.set (0+(tn (wr ((aC.length:Int) - 1)))) (R2.mk (rd aC (0+(tn (wr ((aC.length:Int) - 1))))).a (rd v5 (0+(tn v7))).a)))) (pp (fl v5 (pp (xF (Yt (Zz aC) (0+(tn (wr ((aC.length:Int) - 1)))) 1 [(ii (rd v5 (0+(tn v7))).a)])) nn)) (ww k6 (ww cU (ww bU (tt k4 (ww cU (ww bU (tt k3 (tt k2 (tt k1 (ww bD (ww aI (tt k0 nn)))))))))))))))))) (fun k6=>trivial))))) (fun k4=>(lo fun cN=>(lb (fun k5=>(sl z0i 81 [] ⟨[0,1,2,3,4,5,6,7,12],[],y4c,y4d⟩ ⟨[],(kpB 6 [.cells [.len (Uf aC aU v5 v7).length],.keep,.rowed 2 (Uf aC aU v5 v7).length (Zz (Uf aC aU v5 v7))]),[]⟩ (bl 17 8161) (pp (xL (aC.length+1) (Uf aC aU v5 v7).length) (pp (xL (aC.length+1) (Uf aC aU v5 v7).length) (pp (xS (aC.length+1) (y0q aC aU v5 v7) (Zz (Uf aC aU v5 v7))) (pp (fl v5 (pp (xF (y0q aC aU v5 v7)) nn)) (ww k5 (ww cN (tt k4 (ww cU (ww bU (tt k3 (tt k2 (tt k1 (ww bD (ww aI (tt k0 nn))))))))))))))))) (fun k5=>(lb (fun k6=>(sl z0i 81 [] ⟨[0,1,2,3,4,5,6,7,12],[],y4c,y4d⟩ ⟨[],(kpB 6 [.cells [.len (Uf aC aU v5 v7).length],.keep,.rowed 2 (Uf aC aU v5 v7).length (Zz (Uf aC aU v5 v7))]),[]⟩ (bl 19 90081) (pp (xL (aC.length+1) (Uf aC aU v5 v7).length) (pp (xL (aC.length+1) (Uf aC aU v5 v7).length) (pp (xS (aC.length+1) (y0q aC aU v5 v7) (Zz (Uf aC aU v5 v7))) (pp (fl v5 (pp (xF (y0q aC aU v5 v7)) nn)) (ww k6 (ww cN (tt k4 (ww cU (ww bU (tt k3 (tt k2 (tt k1 (ww bD (ww aI (tt k0 nn))))))))))))))))) (fun k6=>trivial)))))))))) (fun k3=>(lo fun bU=>(lb (fun k4=>(sl z0i 81 [] ⟨[0,1,2,3,4,5,6,7,12],[],y4c,y4d⟩ ⟨[],(kpB 6 [.cells [.len (Uf aC aU v5 v7).length],.keep,.rowed 2 (Uf aC aU v5 v7).length (Zz (Uf aC aU v5 v7))]),[]⟩ (bl 17 1) (pp (xL (aC.length+1) (Uf aC aU v5 v7).length) (pp (xL (aC.length+1) (Uf aC aU v5 v7).length) (pp (xS (aC.length+1) (y0q aC aU v5 v7) (Zz (Uf aC aU v5 v7))) (pp (fl v5 (pp (xF (y0q aC aU v5 v7)) nn)) (ww k4 (ww bU (tt k3 (tt k2 (tt k1 (ww bD (ww aI (tt k0 nn)))))))))))))) (fun k4=>(lb (fun k5=>(sl z0i 81 [] ⟨[0,1,2,3,4,5,6,7,12],[],y4c,y4d⟩ ⟨[],(kpB 6 [.cells [.len (Uf aC aU v5 v7).length],.keep,.rowed 2 (Uf aC aU v5 v7).length (Zz (Uf aC aU v5 v7))]),[]⟩ (bl 19 81921) (pp (xL (aC.length+1) (Uf aC aU v5 v7).length) (pp (xL (aC.length+1) (Uf aC aU v5 v7).length) (pp (xS (aC.length+1) (y0q aC aU v5 v7) (Zz (Uf aC aU v5 v7))) (pp (fl v5 (pp (xF (y0q aC aU v5 v7)) nn)) (ww k5 (ww bU (tt k3 (tt k2 (tt k1 (ww bD (ww aI (tt k0 nn)))))))))))))) (fun k5=>trivial)))))))))))))) (fun k0=>(lr 11 3 [1,1,1,1,0] 1 14 [(2,(.dat aC.length (Zz aC))),(3,(ii 0))] (sl z0i 19 [] ⟨[],[8],[some [2,3]],[]⟩ ⟨[(2,.frz aC.length aC.length (Zz aC) (Zz aC))],[],[]⟩ [false] (pp (xZ (z1o 2 2 0 aC.length aC.length (Zz aC)) aC.length (Zz aC)) (pp (xL aC.length aC.length) (pp (xS aC.length (Zz aC) (Zz aC)) (pp (fl aC nn) (tt k0 nn)))))))))
theorem x6q (l0:List R2):Xy prog (Zy prog 156) (spmC l0) (Zg prog 156 [(.dat l0.length (Zz l0))] true []) (y1y l0):=(lb (fun k0=>(lr 11 156 [1,0,1,0,0] 1 14 [(2,.nils),(3,(ii 4))] (sl z0i 18 [] ⟨[],[],[some [2,3]],[]⟩ ⟨[],[],[]⟩ [true] (tt k0 nn)))) (fun k0=>(sl z0i 41 [] ⟨[],[],spmN0,spmM0⟩ ⟨[],[],[]⟩ [false] (tt k0 nn))))
theorem v7i (l0:List R2) (n:Nat) (vs:List AVal) (h:Zr (Jy l0) n (y1y l0)=.ret vs):Uz prog (Zy prog 156) (Zg prog 156 [(.dat l0.length (Zz l0))] true []) vs:=by have:=Zd (w5v l0) n _ (x6q l0);rwa [h] at this
def z1i (s:R2):Bool:=decide (s.a<s.b)&&(decide (s.a≥ -1000000)&&decide (s.b≤1000000))
def Qb (l:List R2):List R3:=l.flatMap fun s=>[⟨s.a,0,1⟩,⟨s.b,0,-1⟩]
def Uq (out:List R2) (last:Int) (inn:Bool) (at':Int):List R2:=
 bif !inn then out else bif last == at' then out else
 bif decide (0<out.length)&&((rd out (out.length - 1)).b == last) then out.set (out.length - 1) ⟨(rd out (out.length - 1)).a,at'⟩ else out++[⟨last,at'⟩]
def swF :List R3→Int→Int→Bool→List R2→List R2
 | [],_,_,_,out=>out
 | e::r,o,last,inn,out=>swF r (o+e.c) e.a (decide (o+e.c>0)) (Uq out last inn e.a)
def swV (l:List R2):List R2:=swF (z1j (Qb l)) 0 0 false []
def Xe (l:List R2):List R2:=bif decide (400<l.length) then [] else bif l.all z1i then swV l else []
def u3i (l:List R2):Int:=bif decide (400<l.length) then 4 else bif l.all z1i then 0 else 8
def y4b (l:List R2):Bool:=true
def x3d (l:List R2):List AVal:=bif decide (400<l.length) then [.nils,.int .i64 4] else bif l.all z1i then [.dat (swV l).length (Zz (swV l)),.int .i64 0] else [.nils,.int .i64 8]
theorem z4n (l:List R2):(Qb l).length =2*l.length:=by
 induction l with
 | nil=>rfl
 | cons r l ih=>grind [Qb]
theorem z3a (out:List R2) (last:Int) (inn:Bool) (a:Int):(Uq out last inn a).length ≤out.length+1:=by
 grind [Uq]
theorem y1x (e:R3) (r:List R3) (o last:Int) (inn:Bool) (out:List R2):swF (e::r) o last inn out=swF r (o+e.c) e.a (decide (o+e.c>0)) (Uq out last inn e.a):=rfl
theorem j2r {a:Int} (k:Nat) (h:a=(k:Int)):decide (a=Int.ofNat k)=true:=by grind
section
variable (l:List R2) (hl:l.length≤400)
include hl
theorem u3e (L:List R3) (hL:L.length≤800) (hE: ∀i,i<L.length→(rd L i).b =0∧((rd L i).c =1∨(rd L i).c = -1)): ∀(k i:Nat) (o last:Int) (inn:Bool) (out:List R2),i+k=L.length→ -(i:Int)≤o→o≤i→out.length≤i→
  ∃n,Zr (Jy l) n (.to (.h2 L (L.length:Int) (i:Int) o 0 last inn out))=.ret [.dat (swF (L.drop i) o last inn out).length (Zz (swF (L.drop i) o last inn out)),.int .i64 0]
 | 0,i,o,last,inn,out,h,ho1,ho2,hout=>by
  have _uhl:=hl;refine ⟨1,?_⟩
  grind [Zw,Jy,Zq,swF]
 | k +1,i,o,last,inn,out,h,ho1,ho2,hout=>by
  obtain ⟨hb,hc⟩:=hE i (by omega);have hcl:=z3a out last inn (rd L i).a;obtain ⟨n,hn⟩:=u3e L hL hE k (i+1) (o+(rd L i).c) (rd L i).a (decide (o+(rd L i).c >0)) (Uq out last inn (rd L i).a) (by omega) (by grind) (by grind) (by omega);refine ⟨n+1,?_⟩;rw [Yg (show i<L.length by omega),Zw];have hf: ∀b,w4t b (decide ((0:Int)>0))=b:=fun b=>rfl;have hw:wrap .i64 (o+(rd L i).c)=o+(rd L i).c :=Zj (by grind);rw [y1x];have hf': ∀b,w4t b false=b:=fun b=>rfl;have hz:=j2r 0 hb;unfold Uq at hn ⊢;cases inn with
  | false=>simp only [Ay,Ab] at hn ⊢;simp (disch:=omega) only [Jy,Ay,hz,hw,hf,hf',Zs,Zn,Yv,Zj,Zx,Zk,Af,Ah,Ab];exact hn
  | true=>
   simp only [Aw,Aa] at hn ⊢;rcases Yy (last == (rd L i).a) with q | q
   ·rw [q] at hn ⊢;simp only [Ab] at hn ⊢;simp (disch:=omega) only [Jy,Aw,q,hz,hw,hf,hf',Zs,Zn,Yv,Zj,Zx,Zk,Af,Ah,Ab,Aa];exact hn
   ·rw [q] at hn ⊢;simp only [Aa] at hn ⊢;by_cases h0:0<out.length
    ·rw [Al h0,Ai] at hn ⊢;rcases Yy ((rd out (out.length - 1)).b == last) with q2 | q2
     ·rw [q2] at hn ⊢;simp only [Ab] at hn ⊢;simp (disch:=omega) only [Jy,Aw,q,q2,hz,hw,hf,hf',Zs,Yn,Zn,Yv,Zj,Zx,Zk,Zf,Af,Ah,Ab,Aa];exact hn
     ·rw [q2] at hn ⊢;simp only [Aa] at hn ⊢;simp (disch:=omega) only [Jy,Aw,q,q2,hz,hw,hf,hf',Zs,Yn,Zn,Yv,Yu,Ze,Yp,Ao,Zj,Zx,Zk,Zf,Af,Ah,Ai,Ab,Aa];exact hn
    ·rw [Az h0,Bc] at hn ⊢;simp only [Aa] at hn ⊢;simp (disch:=omega) only [Jy,Aw,q,hz,hw,hf,hf',Zs,Xi,Zn,Yv,Yu,Ze,Yp,Ao,Zj,Zx,Zk,Af,Ah,Ai,Ab,Aa];exact hn
theorem v5s (h:l.all z1i=true): ∀e∈Qb l,bnd3 e=true∧e.b=0∧(e.c=1∨e.c= -1):=by
 have _uhl:=hl;intro e he;obtain ⟨s,hs,h1⟩:=AD.1 he;have hv:=Ar.1 h s hs;simp only [z1i,Ac,At] at hv;simp only [AM,List.not_mem_nil,or_false] at h1;rcases h1 with rfl | rfl
 ·exact ⟨Al (by grind),rfl,.inl rfl⟩
 ·exact ⟨Al (by grind),rfl,.inr rfl⟩
theorem u3f (hv:l.all z1i=true): ∀(k i:Nat) (acc:List R3),i+k=l.length→acc=Qb (l.take i)→ ∃n,Zr (Jy l) n (.to (.h1 acc (i:Int)))=.ret [.dat (swV l).length (Zz (swV l)),.int .i64 0]
 | 0,i,acc,h,ha=>by
  have e:acc=Qb l:=by grind
  subst e;have hle:=z4n l;have eK:=v5s l hl hv;have hb:y1m (Qb l)=true:=Ar.2 fun e he=>(eK e he).1;obtain ⟨hp,_⟩:=Qq (Qb l) hb;have hpl:=hp.length_eq;obtain ⟨n,hn⟩:=u3e l hl (z1j (Qb l)) (by omega) (fun i hi=>by
   grind [Xz]) (z1j (Qb l)).length 0 0 0 false [] (Af _) (by omega) (by omega) (AA _)
  refine ⟨n+1,?_⟩;rw [Zw];simp (disch:=omega) only [Jy,Zb,Zp,hb,Yb,Yv,Yu,Ao,Ab,Aa];rw [←hpl];simp only [z2b,AT] at hn;exact hn
 | k+1,i,acc,h,ha=>by
  have hle:=z4n (l.take i);have fM:acc.length≤2*i:=by grind
  obtain ⟨n,hn⟩:=u3f hv k (i+1) (acc++Qb [rd l i]) (by omega) (by
   rw [ha,A0]
   grind [Xz,Qb])
  refine ⟨n+1,?_⟩;rw [Zw];simp (disch:=omega) only [Jy,Zs,Zn,Ya,Yu,Ze,Yp,Ao,Zj,Zx,Zk,Af,Ah,Ai,Ab];exact hn
theorem u3g : ∀(k i:Nat),i+k=l.length→(∀s∈l.take i,z1i s=true)→ ∃n,Zr (Jy l) n (.to (.h0 (i:Int)))=.ret (bif l.all z1i then [.dat (swV l).length (Zz (swV l)),.int .i64 0] else [.nils,.int .i64 8])
 | 0,i,h,ht=>by
  have hv:l.all z1i=true:=Ar.2 fun s hs=>ht s (by grind);obtain ⟨n,hn⟩:=u3f l hl hv l.length 0 [] (Af _) rfl;refine ⟨n+1,?_⟩
  grind [Zw,Jy]
 | k+1,i,h,ht=>by
  have hi:i<l.length:=by omega
  rcases Yy (z1i (rd l i)) with q | q
  ·obtain ⟨n,hn⟩:=u3g k (i+1) (by omega) (fun s hs=>by
    rw [A0] at hs
    grind [Xz])
   refine ⟨n+1,?_⟩
   grind [Zw,z1i,Jy,Zj]
  ·have hv:l.all z1i=false:=AZ.2 fun e=>by
    grind [Xz]
   refine ⟨1,?_⟩;rw [Zw,hv,Aa];unfold z1i at q;rcases Yy (decide ((rd l i).a <(rd l i).b)) with q1 | q1 <;> rcases Yy (decide ((rd l i).a ≥ -1000000)) with q2 | q2 <;> rcases Yy (decide ((rd l i).b ≤1000000)) with q3 | q3 <;>
    rw [q1,q2,q3] at q <;> first
    | (exfalso;revert q;decide)
    | simp (disch:=omega) only [Jy,q1,q2,q3,Zs,dge_t,Zn,Zj,Zx,Zk,Aw,Ay,Ah,Ab,Aa,Zq]
end
theorem u9a (l:List R2): ∃n,Zr (Jy l) n (y1y l)=.ret (x3d l):=by
 unfold y1y x3d;by_cases h:400<l.length
 ·refine ⟨0,?_⟩;rw [Al h,Yn (show (l.length:Int)>400 by omega)];rfl
 ·obtain ⟨n,hn⟩:=u3g l (by omega) l.length 0 (Af _) (fun s hs=>by simp at hs)
  grind
def fSpm :List AVal→Option (AVal×Bool)
 | [a1]=>match asL R2 a1 with
  | some (L1,g1,n1)=>some (.tup [.dat (Xe L1).length (Zz (Xe L1)),.int .i64 (u3i L1)],isT R2 n1 g1&&y4b L1)
  | _=>none
 | _=>none
theorem j3v {S:Specs} (hS:Zv prog S):Zv prog (S.with x4i fSpm):=by
 refine x6d hS (by kernel_rfl) fun args v h=> ?_;unfold fSpm at h;split at h
 ·rename_i a1;split at h
  ·rename_i L1 g1 n1 e1;simp only [Ae,Ad,Ac] at h;obtain ⟨rfl,ho1,hw⟩:=h;obtain ⟨N,hN⟩:=u9a L1;refine ⟨_,x3d L1,(.cons (Yc e1 ho1) .nil),?_,v7i L1 N _ hN,3,?_⟩
   ·unfold Xe u3i x3d;cases decide (400<L1.length) <;> simp only [Ab,Aa]
    ·cases L1.all z1i <;> simp only [Ab,Aa]
     ·exact fun ρ u hu=>z3g (.cons (Qd R2) (RLe.refl _)) ρ u hu
     ·exact fun ρ u hu=>hu
    ·exact fun ρ u hu=>z3g (.cons (Qd R2) (RLe.refl _)) ρ u hu
   ·unfold x3d;cases decide (400<L1.length) <;> simp only [Ab,Aa]
    ·cases L1.all z1i <;> rfl
    ·rfl
  ·cases h
 ·cases h
def T6 :Specs:=T5.with x4i fSpm
theorem Kb :Zv prog T6:=j3v z0i
theorem y0f {γ:Type} (a b:Bool) (x y:γ):(bif a&&b then x else y)=bif a then (bif b then x else y) else y:=by grind
theorem y0e {γ:Type} (a:Bool) (x y:γ):(bif !a then x else y)=bif a then y else x:=by grind
structure Dim (α β:Type) where
 lo:α→Int
 hi:α→Int
 pr:α→β
 put:Int→Int→β→α
 ext:Int→α→α
 mak:List β→List β
 same:List β→List β→Bool
structure Sw (α β:Type) where
 out:List α
 last:List β
 first:Nat
 fin:Int
def Kz (zs:List Int):List Int:=compact (Xr zs)
theorem y6c (zs:List Int):u8b (Xr zs)=(Kz zs).length :=rfl
theorem Jz (zs:List Int):(Xr zs).length =zs.length:=List.length_mergeSort zs
theorem x1z (zs:List Int):(Kz zs).length ≤zs.length:=by have:=compact_length_le (Xr zs);rw [Jz] at this;exact this
theorem z5r (zs:List Int) (i:Nat) (h:i<(Kz zs).length):rd (Wd (Xr zs)) i=rd (Kz zs) i:=by
 change i<(compact (Xr zs)).length at h;show rd (compact (Xr zs)++_) i=rd (compact (Xr zs)) i
 grind [Xz]
theorem z1v (zs:List Int):Ye zs.length (cOf (Zz (Xr zs)))=Xr zs:=by
 grind [Ks,Jz]
namespace Dim
variable {α β:Type} (D:Dim α β) (l:List α)
def ends :List Int:=l.flatMap fun r=>[D.lo r,D.hi r]
def cuts :List Int:=Kz (D.ends l)
def inn (x:Int):List β:=(l.filter fun r=>decide (D.lo r≤x)&&decide (x<D.hi r)).map D.pr
def sec (x:Int):List β:=D.mak (D.inn l x)
def grow (out:List α) (k:Nat) (x:Int):List α:=out.take k++(out.drop k).map (D.ext x)
def one (x x':Int) (s:Sw α β):Sw α β:=
 bif decide (0<(D.sec l x).length)&&((s.fin == x)&&D.same s.last (D.sec l x)) then ⟨D.grow s.out s.first x',s.last,s.first,x'⟩
 else ⟨s.out++(D.sec l x).map (D.put x x'),D.sec l x,s.out.length,x'⟩
def go :Nat→Nat→Sw α β→Sw α β
 | 0,_,s=>s
 | k+1,i,s=>go k (i+1) (D.one l (rd (D.cuts l) i) (rd (D.cuts l) (i+1)) s)
def out :List α:=(D.go l ((D.cuts l).length - 1) 0 ⟨[],[],0,0⟩).out
theorem ends_length :(D.ends l).length =2*l.length:=by
 induction l with
 | nil=>rfl
 | cons r l ih=>show (_::_::D.ends l).length =_;grind
theorem cuts_length :(D.cuts l).length ≤2*l.length:=by have:=x1z (D.ends l);rw [D.ends_length] at this;exact this
theorem ends_append (m:List α):D.ends (l++m)=D.ends l++D.ends m:=by simp [ends]
theorem inn_append (m:List α) (x:Int):D.inn (l++m) x=D.inn l x++D.inn m x:=by simp [inn]
theorem inn_length (x:Int):(D.inn l x).length ≤l.length:=by grind [inn]
theorem inn_t (r:α) (x:Int) (h1:D.lo r≤x) (h2:x<D.hi r):D.inn [r] x=[D.pr r]:=by simp [inn,h1,h2]
theorem inn_f1 (r:α) (x:Int) (h1: ¬D.lo r≤x):D.inn [r] x=[]:=by simp [inn,h1]
theorem inn_f2 (r:α) (x:Int) (h1: ¬x<D.hi r):D.inn [r] x=[]:=by simp [inn,h1]
theorem grow_nil (out:List α) (k:Nat) (x:Int) (h:out.length≤k):D.grow out k x=out:=by unfold grow;rw [As h,By,AB,AU h]
theorem grow_length (out:List α) (k:Nat) (x:Int):(D.grow out k x).length =out.length:=by unfold grow;simp;omega
theorem grow_set [Xk α] (out:List α) (j:Nat) (x:Int) (h:j<out.length):D.grow (out.set j (D.ext x (rd out j))) (j+1) x=D.grow out j x:=by
 unfold grow;rw [Yg h,A2];have e1:(out.set j (D.ext x (rd out j))).take (j+1)=out.take j++[D.ext x (rd out j)]:=by
  apply BJ;all_goals grind
 have e2:(out.set j (D.ext x (rd out j))).drop (j+1)=out.drop (j+1):=by rw [List.drop_set];grind
 grind
theorem one_length (x x':Int) (s:Sw α β):(D.one l x x' s).out.length ≤s.out.length+(D.sec l x).length :=by
 grind [one,grow_length]
end Dim
open Go.Proofs.Tryz
open Go.Proofs
inductive vl4S where
def vl4C (aJ:Int) (aL:Int) (aK:Int) (aR:Int):vl4S→Cfg
 :=nofun
def x6h (aJ:Int) (aL:Int) (aK:Int) (aR:Int):vl4S→Xx vl4S
 :=nofun
def y1v (aJ:Int) (aL:Int) (aK:Int) (aR:Int):Xx vl4S:=(bif (decide (aJ<aK)) then (bif (decide (aL<aR)) then (bif (decide (aJ≥(-1000000))) then (bif (decide (aJ≤1000000)) then (bif (decide (aK≥(-1000000))) then (bif (decide (aK≤1000000)) then (bif (decide (aL≥(-1000000))) then (bif (decide (aL≤1000000)) then (bif (decide (aR≥(-1000000))) then (.ret [(.bool (decide (aR≤1000000)))]) else (.ret [(.bool false)])) else (.ret [(.bool false)])) else (.ret [(.bool false)])) else (.ret [(.bool false)])) else (.ret [(.bool false)])) else (.ret [(.bool false)])) else (.ret [(.bool false)])) else (.ret [(.bool false)])) else (.ret [(.bool false)]))
theorem w5k (aJ:Int) (aL:Int) (aK:Int) (aR:Int): ∀s,Xy prog (Zy prog 116) (vl4C aJ aL aK aR) (vl4C aJ aL aK aR s) (x6h aJ aL aK aR s)
 :=nofun
theorem x6i (aJ:Int) (aL:Int) (aK:Int) (aR:Int):Xy prog (Zy prog 116) (vl4C aJ aL aK aR) (Zg prog 116 [(.agg [(.int .i64 aJ),(.int .i64 aL),(.int .i64 aK),(.int .i64 aR)])] true []) (y1v aJ aL aK aR):=(lb (fun k0=>(lb (fun k1=>(lb (fun k2=>(lb (fun k3=>(lb (fun k4=>(lb (fun k5=>(lb (fun k6=>(lb (fun k7=>(lb (fun k8=>(lr 35 3 [1,1,1,1,0] 1 9 [(2,(.bool (decide (aR≤1000000))))] (sl Kb 101 [] ⟨[],[],[some [2]],[]⟩ ⟨[],[],[]⟩ (trs 25 []) (tt k8 (tt k7 (tt k6 (tt k5 (tt k4 (tt k3 (tt k2 (tt k1 (tt k0 nn)))))))))))) (fun k8=>(lr 35 3 [1,1,1,1,0] 1 9 [(2,(.bool false))] (sl Kb 101 [] ⟨[],[],[some [2]],[]⟩ ⟨[],[],[]⟩ (trs 23 [false,false]) (tt k8 (tt k7 (tt k6 (tt k5 (tt k4 (tt k3 (tt k2 (tt k1 (tt k0 nn)))))))))))))) (fun k7=>(lr 35 3 [1,1,1,1,0] 1 9 [(2,(.bool false))] (sl Kb 86 [] ⟨[],[],[some [2]],[]⟩ ⟨[],[],[]⟩ (trs 20 [false,false,false]) (tt k7 (tt k6 (tt k5 (tt k4 (tt k3 (tt k2 (tt k1 (tt k0 nn))))))))))))) (fun k6=>(lr 35 3 [1,1,1,1,0] 1 9 [(2,(.bool false))] (sl Kb 86 [] ⟨[],[],[some [2]],[]⟩ ⟨[],[],[]⟩ (trs 18 [false,false,false,false,false]) (tt k6 (tt k5 (tt k4 (tt k3 (tt k2 (tt k1 (tt k0 nn)))))))))))) (fun k5=>(lr 35 3 [1,1,1,1,0] 1 9 [(2,(.bool false))] (sl Kb 71 [] ⟨[],[],[some [2]],[]⟩ ⟨[],[],[]⟩ (trs 15 [false,false,false,false,false,false]) (tt k5 (tt k4 (tt k3 (tt k2 (tt k1 (tt k0 nn))))))))))) (fun k4=>(lr 35 3 [1,1,1,1,0] 1 9 [(2,(.bool false))] (sl Kb 71 [] ⟨[],[],[some [2]],[]⟩ ⟨[],[],[]⟩ (trs 13 [false,false,false,false,false,false,false,false]) (tt k4 (tt k3 (tt k2 (tt k1 (tt k0 nn)))))))))) (fun k3=>(lr 35 3 [1,1,1,1,0] 1 9 [(2,(.bool false))] (sl Kb 56 [] ⟨[],[],[some [2]],[]⟩ ⟨[],[],[]⟩ (trs 10 [false,false,false,false,false,false,false,false,false]) (tt k3 (tt k2 (tt k1 (tt k0 nn))))))))) (fun k2=>(lr 35 3 [1,1,1,1,0] 1 9 [(2,(.bool false))] (sl Kb 56 [] ⟨[],[],[some [2]],[]⟩ ⟨[],[],[]⟩ (trs 8 [false,false,false,false,false,false,false,false,false,false,false]) (tt k2 (tt k1 (tt k0 nn)))))))) (fun k1=>(lr 35 3 [1,1,1,1,0] 1 9 [(2,(.bool false))] (sl Kb 41 [] ⟨[],[],[some [2]],[]⟩ ⟨[],[],[]⟩ (trs 5 [false,false,false,false,false,false,false,false,false,false,false,false]) (tt k1 (tt k0 nn))))))) (fun k0=>(lr 35 3 [1,1,1,1,0] 1 9 [(2,(.bool false))] (sl Kb 41 [] ⟨[],[],[some [2]],[]⟩ ⟨[],[],[]⟩ [false,false,false,false,false,false,false,false,false,false,false,false,false,false,false,false,false] (tt k0 nn)))))
theorem v7d (aJ:Int) (aL:Int) (aK:Int) (aR:Int) (n:Nat) (vs:List AVal) (h:Zr (x6h aJ aL aK aR) n (y1v aJ aL aK aR)=.ret vs):Uz prog (Zy prog 116) (Zg prog 116 [(.agg [(.int .i64 aJ),(.int .i64 aL),(.int .i64 aK),(.int .i64 aR)])] true []) vs:=by have:=Zd (w5k aJ aL aK aR) n _ (x6i aJ aL aK aR);rwa [h] at this
inductive madS where
 | h0 (v16:Int) (aB:List Int)
 | h1 (v4:Int) (bI:List R4) (bW:List R2) (cF:Int) (cG:Int) (bE:Nat) (bK:List Int)
 | h2 (v4:Int) (v38:Int) (bI:List R4) (bW:List R2) (cF:Int) (cG:Int) (bE:Nat) (bK:List Int) (aC:Int) (cM:Int) (aS:List R2)
 | h3 (v1:Int) (v2:Int) (v71:List R2) (v72:Int) (v73:Int) (bV:List R2) (aV:Int) (aD:List R4) (bB:List R2) (bA:Int) (bE:Nat) (bK:List Int) (aC:List R2)
 | h4 (v2:Int) (v8:Int) (cP:Int) (bV:List R2) (aV:Int) (aD:List R4) (bB:List R2) (bA:Int) (bN:Int) (cH:Nat) (cO:List Int) (aS:List R2)
abbrev y9d (aD:List R4) (v8:Int) (v2:Int):=(aD.set (0+(tn v8)) (R4.mk (rd aD (0+(tn v8))).a (rd aD (0+(tn v8))).b v2 (rd aD (0+(tn v8))).d))
abbrev y9c (aB:List Int):=(Wd (Ye aB.length (cOf (Zz (Xr (Ye aB.length (cOf (Zz aB))))))))
def u7q :AFr:=⟨⟨29,0,true⟩,none,(.inRangeFunc 0::(Zc prog 117 [1,1,0,1,0] 1)),none,(Zy prog 14),Yj [(2,.nils),(3,(ii 0)),(4,(.ptr 1 0))]⟩
def u7p :=(y1k [(0,⟨.ready,none,29,Yj [(4,(.ptr 1 0))],[11],(Wc prog 117 [1,1,0,1,0,0]),(Wc prog 117 [1,1,0,1,0,1])⟩)])
abbrev y9b (aS:List R2) (l0:List R4) (v38:Int):=(aS++[(R2.mk (rd l0 (tn v38)).b (rd l0 (tn v38)).d)])
abbrev y9a (aD:List R4) (v1:Int) (v71:List R2) (v73:Int) (v2:Int):=(aD++[(R4.mk v1 (rd v71 (tn v73)).a v2 (rd v71 (tn v73)).b)])
def x4l (l0:List R4):ABlk:=⟨[(.dat l0.length (Zz l0))],80,none⟩
abbrev y8z (aB:List Int) (l0:List R4) (v16:Int):=(aB++[(rd l0 (tn v16)).a,(rd l0 (tn v16)).c])
def madC (l0:List R4):madS→Cfg
 | .h0 v16 aB=>⟨⟨34,0,true⟩,none,(Zc prog 155 [1,1,0,1,0,0,1,1,0,0,1,1,0,0] 0),none,(Zy prog 9),⟨Yj [(1,(.ptr 0 0)),(3,(.ptr 2 0)),(8,(.sl 1 0 1 (.un 1))),(9,(ii 1)),(10,(ii 0)),(14,(.dat l0.length (Zz l0))),(15,(ii (l0.length:Int))),(16,(ii v16))],Wn [⟨[(.sl 1 0 1 (.un 1))],182,none⟩,(x4l l0),⟨[(.sla 4 1 0 aB.length (.un 1))],125,none⟩,⟨[.nils,.nils,(ii 0),(ii 0)],157,none⟩,⟨Yk aB.length (Zz aB),3,some ⟨1,aB.length,(Zz aB)⟩⟩] 0,5,[],true⟩,[⟨⟨29,0,true⟩,(Vk prog 117 [1,1,0,0] 2),(Zc prog 117 [1,1,0,0] 1),none,(Zy prog 14),Yj [(2,.nils),(3,(ii 0)),(4,(.ptr 3 0)),(9,(.sl 1 0 1 (.un 1)))]⟩],.leaf⟩
 | .h1 v4 bI bW cF cG bE bK=>⟨⟨76,0,true⟩,none,(Zc prog 176 [1,0,0] 0),none,[],⟨Yj [(0,(.yld 0)),(1,(.ptr 2 0)),(2,(.ptr 4 0)),(4,(ii v4))],z6q [(1,⟨[(.sla 6 4 0 bI.length (.un 4)),(.dat bW.length (Zz bW)),(ii cF),(ii cG)],157,none⟩),(2,⟨[(.sla 3 1 0 bE (.un 1))],125,none⟩),(3,⟨Yk bK.length (Zz bK),3,some ⟨1,bK.length,(Zz bK)⟩⟩),(4,⟨[(.sl 5 0 1 (.un 1))],182,none⟩),(5,(x4l l0)),(6,⟨Yk bI.length (Zz bI),116,some ⟨4,bI.length,(Zz bI)⟩⟩)],7,[],true⟩,[u7q],u7p⟩
 | .h2 v4 v38 bI bW cF cG bE bK aC cM aS=>⟨⟨76,0,true⟩,none,(Zc prog 176 [1,0,0,1,0,0,1,0,1,0,0,1,1,0,0,1,1,0,0] 0),none,[],⟨Yj [(0,(.yld 0)),(1,(.ptr 2 0)),(2,(.ptr 4 0)),(4,(ii v4)),(5,(.ptr 6 0)),(6,(ii 0)),(29,(.sl 5 0 1 (.un 1))),(30,(ii 1)),(31,(ii 0)),(36,(.dat l0.length (Zz l0))),(37,(ii (l0.length:Int))),(38,(ii v38))],z6q [(1,⟨[(.sla 9 4 0 bI.length (.un 4)),(.dat bW.length (Zz bW)),(ii cF),(ii cG)],157,none⟩),(2,⟨[(.sla 3 1 0 bE (.un 1))],125,none⟩),(3,⟨Yk bK.length (Zz bK),3,some ⟨1,bK.length,(Zz bK)⟩⟩),(4,⟨[(.sl 5 0 1 (.un 1))],182,none⟩),(5,(x4l l0)),(6,⟨[(ii aC),(ii cM),(.sl 7 0 1 (.ex 1))],162,none⟩),(7,⟨[(.sla 8 2 0 aS.length (.un 2))],155,none⟩),(8,⟨Yk aS.length (Zz aS),176,some ⟨2,aS.length,(Zz aS)⟩⟩),(9,⟨Yk bI.length (Zz bI),116,some ⟨4,bI.length,(Zz bI)⟩⟩)],10,[],true⟩,[u7q],u7p⟩
 | .h3 v1 v2 v71 v72 v73 bV aV aD bB bA bE bK aC=>⟨⟨94,0,true⟩,none,(Zc prog 120 [1,1,1,0,0] 0),none,[],⟨Yj [(0,(.ptr 0 0)),(1,(ii v1)),(2,(ii v2)),(71,(.dat v71.length (Zz v71))),(72,(ii v72)),(73,(ii v73))],z6q [(0,⟨[(.sla 7 4 0 aD.length (.un 4)),(.dat bB.length (Zz bB)),(ii bA),(ii v2)],157,none⟩),(2,⟨[(.sla 3 1 0 bE (.un 1))],125,none⟩),(3,⟨Yk bK.length (Zz bK),3,some ⟨1,bK.length,(Zz bK)⟩⟩),(4,⟨[(.sl 5 0 1 (.un 1))],182,none⟩),(5,(x4l l0)),(6,⟨[(.dat aC.length (Zz aC))],155,none⟩),(7,⟨Yk aD.length (Zz aD),116,some ⟨4,aD.length,(Zz aD)⟩⟩)],8,[],true⟩,[⟨⟨29,0,true⟩,(Vk prog 117 [1,1,0,1,0,1,0,1] 5),(Zc prog 117 [1,1,0,1,0,1,0,1] 1),(some 1),[],Yj [(4,(.ptr 0 0)),(21,(ii v1)),(23,(ii v2)),(24,(.dat bV.length (Zz bV)))]⟩,⟨⟨76,0,true⟩,(Vk prog 176 [1,0,0,1,0,0,1,1,0] 2),(Zc prog 176 [1,0,0,1,0,0,1,1,0] 1),none,[],Yj [(0,(.yld 1)),(1,(.ptr 2 0)),(2,(.ptr 4 0)),(4,(ii aV)),(72,(.yld 1)),(73,(.agg [(ii v1),(ii v2),(.sl 6 0 1 (.ex 1))]))]⟩,⟨⟨29,0,true⟩,none,(.inRangeFunc 1::(Zc prog 117 [1,1,0,1,0] 1)),none,(Zy prog 14),Yj [(2,.nils),(3,(ii 0)),(4,(.ptr 0 0))]⟩],(y1k [(1,⟨.busy,none,29,Yj [(4,(.ptr 0 0))],[11],(Wc prog 117 [1,1,0,1,0,0]),(Wc prog 117 [1,1,0,1,0,1])⟩)])⟩
 | .h4 v2 v8 cP bV aV aD bB bA bN cH cO aS=>⟨⟨94,0,true⟩,none,(Zc prog 120 [0,1,0,0,1,0,0] 0),none,[],⟨Yj [(0,(.ptr 0 0)),(2,(ii v2)),(8,(ii v8))],z6q [(0,⟨[(.sla 1 4 0 aD.length (.un 4)),(.dat bB.length (Zz bB)),(ii bA),(ii bN)],157,none⟩),(1,⟨Yk aD.length (Zz aD),116,some ⟨4,aD.length,(Zz aD)⟩⟩),(3,⟨[(.sla 4 1 0 cH (.un 1))],125,none⟩),(4,⟨Yk cO.length (Zz cO),3,some ⟨1,cO.length,(Zz cO)⟩⟩),(5,⟨[(.sl 6 0 1 (.un 1))],182,none⟩),(6,(x4l l0)),(7,⟨[(.dat aS.length (Zz aS))],155,none⟩)],8,[],true⟩,[⟨⟨29,0,true⟩,(Vk prog 117 [1,1,0,1,0,1,0,1] 5),(Zc prog 117 [1,1,0,1,0,1,0,1] 1),(some 2),[],Yj [(4,(.ptr 0 0)),(21,(ii cP)),(23,(ii v2)),(24,(.dat bV.length (Zz bV)))]⟩,⟨⟨76,0,true⟩,(Vk prog 176 [1,0,0,1,0,0,1,1,0] 2),(Zc prog 176 [1,0,0,1,0,0,1,1,0] 1),none,[],Yj [(0,(.yld 2)),(1,(.ptr 3 0)),(2,(.ptr 5 0)),(4,(ii aV)),(72,(.yld 2)),(73,(.agg [(ii cP),(ii v2),(.sl 7 0 1 (.ex 1))]))]⟩,⟨⟨29,0,true⟩,none,(.inRangeFunc 2::(Zc prog 117 [1,1,0,1,0] 1)),none,(Zy prog 14),Yj [(2,.nils),(3,(ii 0)),(4,(.ptr 0 0))]⟩],(y1k [(2,⟨.busy,none,29,Yj [(4,(.ptr 0 0))],[11],(Wc prog 117 [1,1,0,1,0,0]),(Wc prog 117 [1,1,0,1,0,1])⟩)])⟩
def madN0 :List (Option (List Nat)):=[some [1,3,8,9,10,14,15,16],some [2,3,4,9]]
def madM0 :List (Option (List Nat)):=[]
def j2x :List (Option (List Nat)):=[some [0,1,2,4],some [2,3,4]]
def j2y :List (Option (List Nat)):=[some [4],none,none,none,none,none,none]
def u1a :List (Option (List Nat)):=[some [0,1,2,4,5,6,29,30,31,36,37,38],some [2,3,4]]
def u1c :List (Option (List Nat)):=[some [4],none,none,none,none,none,none,none,none,none]
def u0z :List (Option (List Nat)):=[some [0,1,2,71,72,73],some [4,21,23,24],some [0,1,2,4,72,73],some [2,3,4]]
def u1b :List (Option (List Nat)):=[none,some [4],none,none,none,none,none,none]
def madN4 :List (Option (List Nat)):=[some [0,2,8],some [4,21,23,24],some [0,1,2,4,72,73],some [2,3,4]]
def madM4 :List (Option (List Nat)):=[none,none,some [4],none,none,none,none,none]
def Xt (l0:List R4):madS→Xx madS
 | .h0 v16 aB=>(bif (decide (v16<(l0.length:Int))) then (bif ((decide (0≤v16∧v16<(l0.length:Int)))&&true) then (bif (Nat.beq 1 1&&((decide (0+aB.length=aB.length))&&decide ((aB.length+2+1)*(8+1)≤room))) then (.to (.h0 (wrap .i64 (v16+1)) (aB++[(rd l0 v16.toNat).a,(rd l0 v16.toNat).c]))) else .stuck) else .stuck) else (bif (decide (aB.length<4611686018427387904)) then (bif (decide (aB.length=aB.length)) then (.to (.h1 1 ([]:List R4) ([]:List R2) 0 0 (u8b (Ye aB.length (cOf (Zz (Xr (Ye aB.length (cOf (Zz aB)))))))) (Wd (Ye aB.length (cOf (Zz (Xr (Ye aB.length (cOf (Zz aB)))))))))) else .stuck) else .stuck))
 | .h1 v4 bI bW cF cG bE bK=>(bif (decide (v4<((bE:Nat):Int))) then (bif ((decide (0≤(wrap .i64 (v4 - 1))∧(wrap .i64 (v4 - 1))<((bE:Nat):Int)))&&true) then (bif (decide ((0+(Int.toNat (wrap .i64 (v4 - 1))))<bK.length)) then (bif ((decide (0≤v4∧v4<((bE:Nat):Int)))&&true) then (bif (decide ((0+v4.toNat)<bK.length)) then (.to (.h2 v4 0 bI bW cF cG bE bK (rd bK (0+(Int.toNat (wrap .i64 (v4 - 1))))) (rd bK (0+v4.toNat)) ([]:List R2))) else .stuck) else .stuck) else .stuck) else .stuck) else (bif (decide ((bI.length:Int)>400)) then (.ret [.nils,(.int .i64 4)]) else (.ret [(.dat bI.length (Zz bI)),(.int .i64 0)])))
 | .h2 v4 v38 bI bW cF cG bE bK aC cM aS=>(bif (decide (v38<(l0.length:Int))) then (bif ((decide (0≤v38∧v38<(l0.length:Int)))&&true) then (bif (decide ((rd l0 v38.toNat).a ≤aC)) then (bif (decide (aC<(rd l0 v38.toNat).c)) then (bif (Nat.beq 2 2&&((decide (0+aS.length=aS.length))&&decide ((aS.length+1+1)*(16+1)≤room))) then (.to (.h2 v4 (wrap .i64 (v38+1)) bI bW cF cG bE bK aC cM (aS++[(R2.mk (rd l0 v38.toNat).b (rd l0 v38.toNat).d)]))) else .stuck) else (.to (.h2 v4 (wrap .i64 (v38+1)) bI bW cF cG bE bK aC cM aS))) else (.to (.h2 v4 (wrap .i64 (v38+1)) bI bW cF cG bE bK aC cM aS))) else .stuck) else (bif (y4b (cvT aS)) then (bif (decide ((((Xe (cvT aS)).length :Nat):Int)>0)) then (bif (cG == aC) then (bif (Vo (cvT bW) (cvT (Xe (cvT aS)))) then (bif (Kf (cvT bW) (cvT (Xe (cvT aS)))) then (.to (.h4 cM cF aC (Xe (cvT aS)) v4 bI bW cF cG bE bK aS)) else (.to (.h3 aC cM (Xe (cvT aS)) (((Xe (cvT aS)).length :Nat):Int) 0 (Xe (cvT aS)) v4 bI (Xe (cvT aS)) (bI.length:Int) bE bK aS))) else .stuck) else (.to (.h3 aC cM (Xe (cvT aS)) (((Xe (cvT aS)).length :Nat):Int) 0 (Xe (cvT aS)) v4 bI (Xe (cvT aS)) (bI.length:Int) bE bK aS))) else (.to (.h3 aC cM (Xe (cvT aS)) (((Xe (cvT aS)).length :Nat):Int) 0 (Xe (cvT aS)) v4 bI (Xe (cvT aS)) (bI.length:Int) bE bK aS))) else .stuck))
 | .h3 v1 v2 v71 v72 v73 bV aV aD bB bA bE bK aC=>(bif (decide (v73<v72)) then (bif ((decide (0≤v73∧v73<(v71.length:Int)))&&true) then (bif (Nat.beq 4 4&&((decide (0+aD.length=aD.length))&&decide ((aD.length+1+1)*(32+1)≤room))) then (.to (.h3 v1 v2 v71 v72 (wrap .i64 (v73+1)) bV aV (aD++[(R4.mk v1 (rd v71 v73.toNat).a v2 (rd v71 v73.toNat).b)]) bB bA bE bK aC)) else .stuck) else .stuck) else (.to (.h1 (wrap .i64 (aV+1)) aD bB bA v2 bE bK)))
 | .h4 v2 v8 cP bV aV aD bB bA bN cH cO aS=>(bif (decide (v8<(aD.length:Int))) then (bif ((decide (0≤v8∧v8<(aD.length:Int)))&&true) then (bif (decide ((0+v8.toNat)<aD.length)) then (.to (.h4 v2 (wrap .i64 (v8+1)) cP bV aV (aD.set (0+v8.toNat) (R4.mk (rd aD (0+v8.toNat)).a (rd aD (0+v8.toNat)).b v2 (rd aD (0+v8.toNat)).d)) bB bA bN cH cO aS)) else .stuck) else .stuck) else (.to (.h1 (wrap .i64 (aV+1)) aD bB bA v2 cH cO)))
def x1j (l0:List R4):Xx madS:=(.to (.h0 0 ([]:List Int)))
theorem w7y (l0:List R4): ∀s,Xy prog (Zy prog 117) (madC l0) (madC l0 s) (Xt l0 s)
 | .h0 v16 aB=>(lb (fun k0=>(lo fun o0=>(lo fun o1=>(sl Kb 32 [] ⟨[0,1,2,3,7],[],madN0,madM0⟩ ⟨[],[.keep,.keep,.cells [.len (y8z aB l0 v16).length],.keep,.rowed 1 (y8z aB l0 v16).length (Zz (y8z aB l0 v16))],[]⟩ [true] (pp (xL (aB.length+2) (y8z aB l0 v16).length) (pp (xL (aB.length+2) (y8z aB l0 v16).length) (pp (xS (aB.length+2) (Zh (Zz aB) 0 aB.length 1 [(ii (rd l0 (tn v16)).a),(ii (rd l0 (tn v16)).c)]) (Zz (y8z aB l0 v16))) (pp (pp (xF (Zh (Zz aB) 0 aB.length 1 [(ii (rd l0 (tn v16)).a),(ii (rd l0 (tn v16)).c)])) nn) (ww o1 (ww o0 (tt k0 nn))))))))))) (fun k0=>(lo fun o0=>(lo fun o1=>(sl Kb 46 [(116,4,Zz ([]:List R4))] ⟨[5,3,2,4,0,1,6],[],j2x,j2y⟩ ⟨[],[.keep,.cells [.grow 6 4,.list 0 (Zz ([]:List R2)),.keep,.keep],.keep,.rowed 1 (y9c aB).length (Zz (y9c aB)),.keep,.keep,.keep],[]⟩ (bl 2 0) (pp (xL aB.length (y9c aB).length (by first | exact z4i _ _ | exact Vt rfl)) (pp (xS aB.length (Zz (y9c aB)) (Zz (y9c aB))) (pp (fl (y9c aB) (fl ([]:List R4) nn)) (pp (pp (xG (Nat.beq 1 1)) (pp (xG (Nat.beq 1 1)) (pp (xG (Nat.beq 0 0)) (pp (xG (decide (aB.length=aB.length))) (pp (xG (isI (Zz (Xr (Ye aB.length (cOf (Zz aB))))))) (xG (decide (aB.length<4611686018427387904)))))))) (pp (pp (xG (Nat.beq 1 1)) (pp (xG (Nat.beq 1 1)) (pp (xG (Nat.beq 0 0)) (pp (xG (decide (aB.length=aB.length))) (pp (xG (isI (Zz aB))) (xG (decide (aB.length<4611686018427387904)))))))) (tt k0 nn)))))))))))
 | .h1 v4 bI bW cF cG bE bK=>(lb (fun k0=>(lo fun o0=>(lo fun o1=>(lo fun o2=>(lo fun o3=>(sl Kb 48 [(176,2,Zz ([]:List R2))] ⟨[0,1,2,3,4,5,7,8,9,6],[],u1a,u1c⟩ ⟨[],(kpB 7 [.cells [.grow 8 2],.keep,.keep]),[]⟩ (trs 3 []) (pp (fl bK (fl ([]:List R2) (fl bI nn))) (ww o3 (ww o2 (ww o1 (ww o0 (tt k0 nn)))))))))))) (fun k0=>(lb (fun k1=>(lr 29 3 [1,1,1,1,0] 1 14 [(2,.nils),(3,(ii 4))] (sl Kb 43 [] ⟨[],[],[some [2,3]],[]⟩ ⟨[],[],[]⟩ (bl 2 2) (tt k1 (tt k0 nn))))) (fun k1=>(lr 29 3 [1,1,1,1,0] 1 14 [(2,(.dat bI.length (Zz bI))),(3,(ii 0))] (sl Kb 48 [] ⟨[],[6],[some [2,3]],[]⟩ ⟨[(2,.frz bI.length bI.length (Zz bI) (Zz bI))],[],[]⟩ (bl 2 0) (pp (xZ (z1o 4 4 0 bI.length bI.length (Zz bI)) bI.length (Zz bI)) (pp (xL bI.length bI.length) (pp (xS bI.length (Zz bI) (Zz bI)) (pp (fl bI nn) (tt k1 (tt k0 nn))))))))))))
 | .h2 v4 v38 bI bW cF cG bE bK aC cM aS=>(lb (fun k0=>(lo fun aI=>(lb (fun k1=>(lb (fun k2=>(lo fun o0=>(sl Kb 39 [] ⟨[0,1,2,3,4,5,6,7,12,9],[],u1a,u1c⟩ ⟨[],(kpB 7 [.cells [.len (y9b aS l0 v38).length],.rowed 2 (y9b aS l0 v38).length (Zz (y9b aS l0 v38)),.keep]),[]⟩ (trs 7 []) (pp (xL (aS.length+1) (y9b aS l0 v38).length) (pp (xL (aS.length+1) (y9b aS l0 v38).length) (pp (xS (aS.length+1) (Zh (Zz aS) 0 aS.length 2 [(ii (rd l0 (tn v38)).b),(ii (rd l0 (tn v38)).d)]) (Zz (y9b aS l0 v38))) (pp (fl bK (pp (xF (Zh (Zz aS) 0 aS.length 2 [(ii (rd l0 (tn v38)).b),(ii (rd l0 (tn v38)).d)])) (fl bI nn))) (ww o0 (tt k2 (tt k1 (ww aI (tt k0 nn)))))))))))) (fun k2=>(sl Kb 39 [] ⟨(List.range 10),[],u1a,u1c⟩ ⟨[],[],[]⟩ (trs 6 [false]) (pp (fl bK (fl aS (fl bI nn))) (tt k2 (tt k1 (ww aI (tt k0 nn))))))))) (fun k1=>(sl Kb 39 [] ⟨(List.range 10),[],u1a,u1c⟩ ⟨[],[],[]⟩ (bl 7 1) (pp (fl bK (fl aS (fl bI nn))) (tt k1 (ww aI (tt k0 nn))))))))) (fun k0=>(Wy (sl Kb (C':=⟨⟨29,0,true⟩,(Vk prog 117 [1,1,0,1,0,1,0,0] 4),(Zc prog 117 [1,1,0,1,0,1,0,0] 1),(some 0),[],⟨Yj [(4,(.ptr 1 0)),(5,(.ptr 3 0)),(16,(.dat aS.length (Zz aS)))],z6q [(1,⟨[(.sla 2 4 0 bI.length (.un 4)),(.dat bW.length (Zz bW)),(ii cF),(ii cG)],157,none⟩),(2,⟨Yk bI.length (Zz bI),116,some ⟨4,bI.length,(Zz bI)⟩⟩),(3,⟨[(ii aC),(ii cM),(.sl 4 0 1 (.ex 1))],162,none⟩),(4,⟨[(.dat aS.length (Zz aS))],155,none⟩),(5,⟨[(.sla 6 1 0 bE (.un 1))],125,none⟩),(6,⟨Yk bK.length (Zz bK),3,some ⟨1,bK.length,(Zz bK)⟩⟩),(7,⟨[(.sl 8 0 1 (.un 1))],182,none⟩),(8,⟨[(.dat l0.length (Zz l0))],80,none⟩)],9,[],true⟩,[⟨⟨76,0,true⟩,(Vk prog 176 [1,0,0,1,0,0,1,1,0] 2),(Zc prog 176 [1,0,0,1,0,0,1,1,0] 1),none,[],Yj [(0,(.yld 0)),(1,(.ptr 5 0)),(2,(.ptr 7 0)),(4,(ii v4)),(72,(.yld 0)),(73,(.agg [(ii aC),(ii cM),(.sl 4 0 1 (.ex 1))]))]⟩,⟨⟨29,0,true⟩,none,(.inRangeFunc 0::(Zc prog 117 [1,1,0,1,0] 1)),none,(Zy prog 14),Yj [(2,.nils),(3,(ii 0)),(4,(.ptr 1 0))]⟩],(y1k [(0,⟨.busy,none,29,Yj [(4,(.ptr 1 0))],[11],(Wc prog 117 [1,1,0,1,0,0]),(Wc prog 117 [1,1,0,1,0,1])⟩)])⟩) 37 [] ⟨[0,1,9,10,7,2,3,4,5],[8],[some [4,5,16],some [0,1,2,4,72,73],some [2,3,4]],[some [4],none,none,none,none,none,none,none,none]⟩ ⟨[(16,.frz aS.length aS.length (Zz aS) (Zz aS))],[.keep,.keep,.keep,.keep,.cells [.frz aS.length aS.length (Zz aS) (Zz aS)],.keep,.keep,.keep,.keep],[]⟩ (bl 2 0) (pp (xZ (z1o 2 2 0 aS.length aS.length (Zz aS)) aS.length (Zz aS)) (pp (xL aS.length aS.length) (pp (xS aS.length (Zz aS) (Zz aS)) (pp (xZ (z1o 2 2 0 aS.length aS.length (Zz aS)) aS.length (Zz aS)) (pp (xL aS.length aS.length) (pp (xS aS.length (Zz aS) (Zz aS)) (pp (fl bI (fl bK nn)) (pp (fl aS nn) (tt k0 nn)))))))))) (lo fun aI=>(lb (fun k1=>(lb (fun k2=>(lo fun cE=>(lb (fun k3=>(sl Kb 49 [] ⟨[1,2,0,5,6,7,8,4],[],madN4,madM4⟩ ⟨[],[],[]⟩ (trs 13 []) (pp (fl bI (fl bK nn)) (tt k3 (pp (pp (xr bW) (pp (xI R2 (Xe (cvT aS)).length (Zz (Xe (cvT aS)))) (xw cE))) (tt k2 (tt k1 (pp (pp (xr aS) (xw aI)) nn)))))))) (fun k3=>(sl Kb 69 [] ⟨[1,0,5,6,7,8,4,2],[],u0z,u1b⟩ ⟨[],[],[]⟩ (trs 12 [false]) (pp (fl bK (fl bI nn)) (tt k3 (pp (pp (xr bW) (pp (xI R2 (Xe (cvT aS)).length (Zz (Xe (cvT aS)))) (xw cE))) (tt k2 (tt k1 (pp (pp (xr aS) (xw aI)) nn))))))))))) (fun k2=>(sl Kb 69 [] ⟨[1,0,5,6,7,8,4,2],[],u0z,u1b⟩ ⟨[],[],[]⟩ (trs 6 (bl 7 0)) (pp (fl bK (fl bI nn)) (tt k2 (tt k1 (pp (pp (xr aS) (xw aI)) nn)))))))) (fun k1=>(sl Kb 69 [] ⟨[1,0,5,6,7,8,4,2],[],u0z,u1b⟩ ⟨[],[],[]⟩ (bl 13 0) (pp (fl bK (fl bI nn)) (tt k1 (pp (pp (xr aS) (xw aI)) nn))))))))))
 | .h3 v1 v2 v71 v72 v73 bV aV aD bB bA bE bK aC=>(lb (fun k0=>(lo fun o0=>(lo fun o1=>(sl Kb 23 [] ⟨[0,1,2,3,4,5,6,10],[],u0z,u1b⟩ ⟨[],[.cells [.len (y9a aD v1 v71 v73 v2).length,.keep,.keep,.keep],.keep,.keep,.keep,.keep,.keep,.keep,.rowed 4 (y9a aD v1 v71 v73 v2).length (Zz (y9a aD v1 v71 v73 v2))],[]⟩ [true] (pp (xL (aD.length+1) (y9a aD v1 v71 v73 v2).length) (pp (xL (aD.length+1) (y9a aD v1 v71 v73 v2).length) (pp (xS (aD.length+1) (Zh (Zz aD) 0 aD.length 4 [(ii v1),(ii (rd v71 (tn v73)).a),(ii v2),(ii (rd v71 (tn v73)).b)]) (Zz (y9a aD v1 v71 v73 v2))) (pp (fl bK (pp (xF (Zh (Zz aD) 0 aD.length 4 [(ii v1),(ii (rd v71 (tn v73)).a),(ii v2),(ii (rd v71 (tn v73)).b)])) nn)) (ww o1 (ww o0 (tt k0 nn))))))))))) (fun k0=>(sl Kb 22 [] ⟨[1,0,2,3,4,5,7],[],j2x,j2y⟩ ⟨[],[],[]⟩ (bl 2 0) (pp (fl bK (fl aD nn)) (tt k0 nn)))))
 | .h4 v2 v8 cP bV aV aD bB bA bN cH cO aS=>(lb (fun k0=>(lo fun o0=>(lo fun o1=>(sl Kb 33 [] ⟨(List.range 8),[],madN4,madM4⟩ ⟨[],[.cells [.len (y9d aD v8 v2).length,.keep,.keep,.keep],.rowed 4 (y9d aD v8 v2).length (Zz (y9d aD v8 v2)),.keep,.keep,.keep,.keep,.keep,.keep],[]⟩ [true] (pp (xL aD.length (y9d aD v8 v2).length) (pp (xL aD.length (y9d aD v8 v2).length) (pp (xS aD.length (Yt (Zz aD) (0+(tn v8)) 2 [(ii v2)]) (Zz (y9d aD v8 v2))) (pp (pp (xF (Yt (Zz aD) (0+(tn v8)) 2 [(ii v2)])) (fl cO nn)) (ww o1 (ww o0 (tt k0 nn))))))))))) (fun k0=>(sl Kb 36 [] ⟨[2,0,3,4,5,6,1],[],j2x,j2y⟩ ⟨[],[],[]⟩ (bl 2 0) (pp (fl cO (fl aD nn)) (tt k0 nn)))))
theorem x9i (l0:List R4):Xy prog (Zy prog 117) (madC l0) (Zg prog 117 [(.dat l0.length (Zz l0))] true []) (x1j l0):=(sl Kb 56 [(3,1,Zz ([]:List Int))] ⟨[2,1,3,0,4],[],madN0,madM0⟩ ⟨[],[.keep,.keep,.cells [.grow 4 1],.keep,.keep],[]⟩ [true] (pp (fl ([]:List Int) nn) nn))
theorem u0y (l0:List R4) (n:Nat) (vs:List AVal) (h:Zr (Xt l0) n (x1j l0)=.ret vs):Uz prog (Zy prog 117) (Zg prog 117 [(.dat l0.length (Zz l0))] true []) vs:=by have:=Zd (w7y l0) n _ (x9i l0);rwa [h] at this
open Go.Sort Go.Shelf Go.RowKit Go.Lib
theorem x5g {i n:Nat} (h:i<n):decide ((i:Int)<(n:Int))=true:=by grind
theorem z4k {σ:Type} (step:σ→Xx σ) (a b:Nat) (s:Xx σ):Zr step (a+b) s=Zr step a (Zr step b s):=by
 induction b generalizing s with
 | zero=>cases s <;> simp [Zr]
 | succ b ih=>cases s with
  | to s=>exact ih (step s)
  | ret vs=>simp only [Zq]
  | stuck=>cases a <;> cases b <;> rfl
theorem w5a {i:Nat}:decide ((i:Int)≥0)=true:=by grind
def Ki {α:Type} [Xk α] (out:List α):List AVal:=bif decide ((out.length:Int)>400) then [.nils,.int .i64 4] else [.dat out.length (Zz out),.int .i64 0]
def z8y {α:Type} [Xk α] (e:Int) (L:List α):List AVal:=bif e != 0 then [.nils,.int .i64 e] else [.dat L.length (Zz L),.int .i64 0]
def y7f {α:Type} (e:Int) (L:List α):List α:=bif e != 0 then [] else L
theorem Qt {α:Type} [Xk α] (e:Int) (L:List α) (ρ:Rho) (u:Value) (hu:Zt ρ (Un (z8y e L)) u):Zt ρ (.tup [.dat (y7f e L).length (Zz (y7f e L)),.int .i64 e]) u:=by
 unfold z8y at hu;unfold y7f;by_cases h:e=0
 ·subst h;exact hu
 ·have h:(e != 0)=true:=by simpa using h
  rw [h] at hu ⊢;exact z3g (.cons (Qd α) (RLe.refl _)) ρ u hu
theorem z2n {α:Type} [Xk α] (e:Int) (L:List α):pf 3 (Un (z8y e L))=true:=by unfold z8y;cases (e != 0) <;> rfl
def y7g (n:Nat):Int:=bif decide ((n:Int)>400) then 4 else 0
theorem z8r {α:Type} [Xk α] (L:List α):Ki L=z8y (y7g L.length) L:=by
 grind [Ki,z8y,y7g]
theorem Vv {α:Type} [Xk α] {e:Int} (L:List α) (h:(e != 0)=true):z8y e L=[.nils,.int .i64 e]:=by unfold z8y;rw [h];rfl
theorem y7p : ∀(L:List R3) (o last:Int) (inn:Bool) (out:List R2),(swF L o last inn out).length ≤out.length+L.length
 | [],_,_,_,out=>Aq _
 | e::r,o,last,inn,out=>by rw [y1x];have:=y7p r (o+e.c) e.a (decide (o+e.c>0)) (Uq out last inn e.a);have:=z3a out last inn e.a;simp only [BI];omega
theorem y4a (l:List R3):(z1j l).length =l.length:=by
 by_cases h:y1m l=true
 ·exact (Qq l h).1.length_eq
 ·unfold z1j;grind
theorem x6r (l:List R2):(Xe l).length ≤800:=by
 grind [Xe,swV,y7p,y4a,z4n]
def Jj (r:R4):Bool:=decide (r.a<r.c)&&(decide (r.b<r.d)&&(decide (r.a≥ -1000000)&&(decide (r.a≤1000000)&&(decide (r.c≥ -1000000)&&(decide (r.c≤1000000)&&(decide (r.b≥ -1000000)&&(decide (r.b≤1000000)&&(decide (r.d≥ -1000000)&&decide (r.d≤1000000)))))))))
def D4 :Dim R4 R2:=⟨R4.a,R4.c,fun r=>⟨r.b,r.d⟩,fun x x' s=>⟨x,s.a,x',s.b⟩,fun x r=>⟨r.a,r.b,x,r.d⟩,Xe,Kf⟩
theorem D4_sec (l:List R4) (x:Int):(D4.sec l x).length ≤1000:=AE (x6r _) (by omega)
section
variable (l:List R4) (hl:l.length≤400)
include hl
theorem u7n (i:Nat) (out:List R4) (last:List R2) (first fin x x':Int): ∀(k j:Nat) (acc:List R2),j+k=l.length→acc.length≤j→
  ∃n,∀N,Zr (Xt l) (N+n) (.to (.h2 (i:Int) (j:Int) out last first fin ((D4.cuts l).length) (Wd (Xr (D4.ends l))) x x' acc))=Zr (Xt l) N (.to (.h2 (i:Int) (l.length:Int) out last first fin ((D4.cuts l).length) (Wd (Xr (D4.ends l))) x x' (acc++D4.inn (l.drop j) x)))
 | 0,j,acc,h,ha=>by refine ⟨0,fun N=> ?_⟩;rw [As (by omega),show D4.inn ([]:List R4) x=[] from rfl,AB,Bh,show j=l.length by omega]
 | k+1,j,acc,h,ha=>by
  have hj:j<l.length:=by omega
  obtain ⟨n,hn⟩:=u7n i out last first fin x x' k (j+1) (acc++D4.inn [rd l j] x) (by omega) (by have:=D4.inn_length [rd l j] x;grind)
  refine ⟨n+1,fun N=> ?_⟩;have e:D4.inn (l.drop j) x=D4.inn [rd l j] x++D4.inn (l.drop (j+1)) x:=by rw [Yg hj,←D4.inn_append];rfl
  rw [e,←AG,Zw,←AI,←hn N];by_cases h1:D4.lo (rd l j)≤x
  ·by_cases h2:x<D4.hi (rd l j)
   ·rw [D4.inn_t _ _ h1 h2];simp only [D4] at h1 h2 ⊢;simp (disch:=omega) only [Xt,Xo,Zb,Zp,Zs,Zn,Ya,Yv,Yu,Ze,Zj,Zx,Yp,Zk,Af,Ao,Ah,Ai,Ab,Aa]
   ·rw [D4.inn_f2 _ _ h2,AB];simp only [D4] at h1 h2;simp (disch:=omega) only [Xt,Xo,Yb,Zb,Zp,Zs,Zn,Ya,Yv,Yu,Ze,Zj,Zx,Yp,Zk,Af,Ao,Ah,Ai,Ab,Aa]
  ·rw [D4.inn_f1 _ _ h1,AB];simp only [D4] at h1;simp (disch:=omega) only [Xt,w0y,Zb,Zp,Zs,Zn,Ya,Yv,Yu,Ze,Zj,Zx,Yp,Zk,Af,Ao,Ah,Ai,Ab,Aa]
theorem u7m (i:Nat) (hi:i≤1000) (x x':Int) (s last:List R2) (first:Int) (inn:List R2) (hs:s.length≤1000): ∀(k j:Nat) (out:List R4),j+k=s.length→out.length≤10000000+j→
  ∃n,∀N,Zr (Xt l) (N+n) (.to (.h3 x x' s (s.length:Int) (j:Int) s (i:Int) out last first ((D4.cuts l).length) (Wd (Xr (D4.ends l))) inn))=Zr (Xt l) N (.to (.h1 ((i+1:Nat):Int) (out++(s.drop j).map (D4.put x x')) last first x' ((D4.cuts l).length) (Wd (Xr (D4.ends l)))))
 | 0,j,out,h,ho=>by
  have _u:=hl;refine ⟨1,fun N=> ?_⟩
  grind [Zw,Xt,Zj]
 | k+1,j,out,h,ho=>by
  obtain ⟨n,hn⟩:=u7m i hi x x' s last first inn hs k (j+1) (out++[D4.put x x' (rd s j)]) (by omega) (by simp;omega)
  refine ⟨n+1,fun N=> ?_⟩;have:=hn N;rw [Yg (show j<s.length by omega),A2,←AG,Zw];simp (disch:=omega) only [Xt,Zb,Zp,Zs,Zn,Ya,Yv,Yu,Ze,Zj,Zx,Yp,Zk,Af,Ao,Ah,Ai,Ab,Aa];rw [AI] at this;exact this
theorem u7l (i:Nat) (hi:i≤1000) (x x' fin:Int) (s last:List R2) (first:Int) (inn:List R2): ∀(k j:Nat) (out:List R4),j+k=out.length→out.length≤10000000→
  ∃n,∀N,Zr (Xt l) (N+n) (.to (.h4 x' (j:Int) x s (i:Int) out last first fin ((D4.cuts l).length) (Wd (Xr (D4.ends l))) inn))=Zr (Xt l) N (.to (.h1 ((i+1:Nat):Int) (D4.grow out j x') last first x' ((D4.cuts l).length) (Wd (Xr (D4.ends l)))))
 | 0,j,out,h,ho=>by
  have _u:=hl;refine ⟨1,fun N=> ?_⟩;rw [D4.grow_nil _ _ _ (by omega),Zw]
  grind [Xt,Zj]
 | k+1,j,out,h,ho=>by
  obtain ⟨n,hn⟩:=u7l i hi x x' fin s last first inn k (j+1) (out.set j (D4.ext x' (rd out j))) (by simp;omega) (by grind)
  refine ⟨n+1,fun N=> ?_⟩;have:=hn N;rw [D4.grow_set out j _ (by omega)] at this;rw [←AG,Zw];simp (disch:=omega) only [Xt,Zb,Zp,Zs,Zn,Ya,Yv,Yu,Ze,Zj,Zx,Yp,Zk,Af,Ao,Ah,Ai,Ab,Aa];exact this
theorem v4k : ∀(k i:Nat) (s:Sw R4 R2),k=(D4.cuts l).length - 1 - i→i≤(D4.cuts l).length →s.out.length≤i*1000→s.last.length≤1000→s.first≤s.out.length→
  ∃n,Zr (Xt l) n (.to (.h1 ((i+1:Nat):Int) s.out s.last (s.first:Int) s.fin ((D4.cuts l).length) (Wd (Xr (D4.ends l)))))=.ret (Ki (D4.go l k i s).out)
 | 0,i,s,h,hi,ho,hla,hf=>by
  have hc:=D4.cuts_length l;refine ⟨1,?_⟩;rw [Zw,show D4.go l 0 i s=s from rfl]
  grind [Ki,Xt,Zq]
 | k +1,i,s,h,hi,ho,hla,hf=>by
  have hc:=D4.cuts_length l;have hi1:i+1<(D4.cuts l).length :=by omega
  have hpl:(Wd (Xr (D4.ends l))).length =2*l.length:=by rw [Jf,Jz,D4.ends_length]
  have r0:rd (Wd (Xr (D4.ends l))) i=rd (D4.cuts l) i:=z5r _ _ (by show i<(D4.cuts l).length;omega);have r1:rd (Wd (Xr (D4.ends l))) (i+1)=rd (D4.cuts l) (i+1):=z5r _ _ (by show i+1<(D4.cuts l).length;omega);have hbig:i*1000≤1000*1000:=AC _ (by omega);have hsl:=D4_sec l (rd (D4.cuts l) i);have hsd:D4.sec l (rd (D4.cuts l) i)=Xe (D4.inn l (rd (D4.cuts l) i)):=rfl;obtain ⟨n3,h3⟩:=u7n l hl (i+1) s.out s.last (s.first:Int) s.fin (rd (D4.cuts l) i) (rd (D4.cuts l) (i+1)) l.length 0 [] (Af _) (Aq _);simp only [AT,A8,z2b] at h3;have w1:y4b (D4.inn l (rd (D4.cuts l) i))=true:=rfl;have w2:Vo s.last (Xe (D4.inn l (rd (D4.cuts l) i)))=true:=Al (by omega);have ol:=D4.one_length l (rd (D4.cuts l) i) (rd (D4.cuts l) (i+1)) s;have st0: ∀N,Zr (Xt l) (N+n3+1) (.to (.h1 ((i+1:Nat):Int) s.out s.last (s.first:Int) s.fin ((D4.cuts l).length) (Wd (Xr (D4.ends l)))))=Zr (Xt l) N (.to (.h2 ((i+1:Nat):Int) (l.length:Int) s.out s.last (s.first:Int) s.fin ((D4.cuts l).length) (Wd (Xr (D4.ends l))) (rd (D4.cuts l) i) (rd (D4.cuts l) (i+1)) (D4.inn l (rd (D4.cuts l) i)))):=fun N=>by
   rw [←h3 N,Zw];have e1:wrap .i64 (((i+1:Nat):Int) - 1)=(i:Int):=by rw [Zo];exact Zj (by omega)
   simp (disch:=omega) only [Xt,e1,r0,r1,Zb,Zp,Zs,Zn,Ya,Yv,Yu,Ze,Zj,Zx,Yp,Zk,Af,Ao,Ah,Ai,Ab,Aa]
  rcases Yy (decide (0<(D4.sec l (rd (D4.cuts l) i)).length)&&((s.fin == rd (D4.cuts l) i)&&D4.same s.last (D4.sec l (rd (D4.cuts l) i)))) with q | q
  ·obtain ⟨n5,h5⟩:=u7l l hl (i+1) (by omega) (rd (D4.cuts l) i) (rd (D4.cuts l) (i+1)) s.fin (D4.sec l (rd (D4.cuts l) i)) s.last (s.first:Int) (D4.inn l (rd (D4.cuts l) i)) (s.out.length - s.first) s.first s.out (by omega) (by omega)
   have e:D4.one l (rd (D4.cuts l) i) (rd (D4.cuts l) (i+1)) s=⟨D4.grow s.out s.first (rd (D4.cuts l) (i+1)),s.last,s.first,rd (D4.cuts l) (i+1)⟩:=by unfold Dim.one;rw [q];rfl
   obtain ⟨n0,h0⟩:=v4k k (i+1) (D4.one l (rd (D4.cuts l) i) (rd (D4.cuts l) (i+1)) s) (by omega) (by omega) (by omega) (by grind) (by grind [Dim.grow_length]);refine ⟨n0+n5+1+n3+1,?_⟩;rw [st0 (n0+n5+1),Zw];simp only [Ac,At] at q;obtain ⟨q1,q2,q3⟩:=q;have q3':Kf s.last (Xe (D4.inn l (rd (D4.cuts l) i)))=true:=q3
   grind [Xt,Zb,Dim.go]
  ·obtain ⟨n4,h4⟩:=u7m l hl (i+1) (by omega) (rd (D4.cuts l) i) (rd (D4.cuts l) (i+1)) (D4.sec l (rd (D4.cuts l) i)) (D4.sec l (rd (D4.cuts l) i)) (s.out.length:Int) (D4.inn l (rd (D4.cuts l) i)) hsl (D4.sec l (rd (D4.cuts l) i)).length 0 s.out (Af _) (by omega);simp only [AT,z2b] at h4;have e:D4.one l (rd (D4.cuts l) i) (rd (D4.cuts l) (i+1)) s=⟨s.out++(D4.sec l (rd (D4.cuts l) i)).map (D4.put (rd (D4.cuts l) i) (rd (D4.cuts l) (i+1))),D4.sec l (rd (D4.cuts l) i),s.out.length,rd (D4.cuts l) (i+1)⟩:=by unfold Dim.one;rw [q];rfl
   obtain ⟨n0,h0⟩:=v4k k (i+1) (D4.one l (rd (D4.cuts l) i) (rd (D4.cuts l) (i+1)) s) (by omega) (by omega) (by omega) (by grind) (by rw [e];simp);have hg:Zr (Xt l) 1 (.to (.h2 ((i+1:Nat):Int) (l.length:Int) s.out s.last (s.first:Int) s.fin ((D4.cuts l).length) (Wd (Xr (D4.ends l))) (rd (D4.cuts l) i) (rd (D4.cuts l) (i+1)) (D4.inn l (rd (D4.cuts l) i))))=.to (.h3 (rd (D4.cuts l) i) (rd (D4.cuts l) (i+1)) (D4.sec l (rd (D4.cuts l) i)) ((D4.sec l (rd (D4.cuts l) i)).length :Int) 0 (D4.sec l (rd (D4.cuts l) i)) ((i+1:Nat):Int) s.out (D4.sec l (rd (D4.cuts l) i)) (s.out.length:Int) ((D4.cuts l).length) (Wd (Xr (D4.ends l))) (D4.inn l (rd (D4.cuts l) i))):=by
    rw [show (1:Nat)=0+1 from rfl,Zw];rw [hsd] at q ⊢;have e3:D4.same s.last (Xe (D4.inn l (rd (D4.cuts l) i)))=Kf s.last (Xe (D4.inn l (rd (D4.cuts l) i))):=rfl;rw [e3] at q;by_cases q1:0<(Xe (D4.inn l (rd (D4.cuts l) i))).length
    ·rw [Al q1,Ai] at q;rcases Yy (s.fin == rd (D4.cuts l) i) with q2 | q2
     ·rw [q2,Ai] at q;simp (disch:=omega) only [Xt,Zb,Zp,Yb,Yn,q2,q,w1,w2,Ab,Aa];rfl
     ·simp (disch:=omega) only [Xt,Zb,Zp,Yb,Yn,q2,w1,w2,Ab,Aa];rfl
    ·simp (disch:=omega) only [Xt,Zb,Zp,Yb,Xi,w1,w2,Ab,Aa];rfl
   refine ⟨n0+n4+1+n3+1,?_⟩;simp_all [z4k,Dim.go]
theorem u7o : ∀(k i:Nat) (acc:List Int),i+k=l.length→acc=D4.ends (l.take i)→ ∃n,Zr (Xt l) n (.to (.h0 (i:Int) acc))=.ret (Ki (D4.go l ((D4.cuts l).length - 1) 0 ⟨[],[],0,0⟩).out)
 | 0,i,acc,h,ha=>by
  have e:acc=D4.ends l:=by grind
  subst e;have hle:=D4.ends_length l;obtain ⟨n,hn⟩:=v4k l hl ((D4.cuts l).length - 1) 0 ⟨[],[],0,0⟩ (by omega) (AA _) (AA _) (AA _) (AA _);refine ⟨n+1,?_⟩;rw [Zw];simp (disch:=omega) only [Xt,Ks,z1v,y6c,Yb,Yv,Yu,Ao,Ab,Aa];exact hn
 | k+1,i,acc,h,ha=>by
  have hle:=D4.ends_length (l.take i);have fM:acc.length≤2*i:=by grind
  obtain ⟨n,hn⟩:=u7o k (i+1) (acc++D4.ends [rd l i]) (by omega) (by
   rw [ha,A0];have:l[i]? =some (rd l i):=by grind [Xz]
   rw [this,D4.ends_append];rfl)
  refine ⟨n+1,?_⟩;rw [Zw];simp (disch:=omega) only [Xt,Zb,Zp,Zs,Zn,Ya,Yv,Yu,Ze,Zj,Zx,Yp,Zk,Af,Ao,Ah,Ai,Ab,Aa];exact hn
end
def j2z (l:List R4):Int:=y7g (D4.out l).length
def Wa (l:List R4):List R4:=y7f (j2z l) (D4.out l)
def z1u (l:List R4):Int:=j2z l
def Qa (l:List R4):Bool:=decide (l.length≤400)
theorem j2w (l:List R4) (h:Qa l=true): ∃n,Zr (Xt l) n (x1j l)=.ret (z8y (j2z l) (D4.out l)):=by rw [show z8y (j2z l) (D4.out l)=Ki (D4.out l) from (z8r _).symm];exact u7o l (Av h) l.length 0 [] (Af _) rfl
def u8q (a b c d:Int):Bool:=Jj ⟨a,b,c,d⟩
theorem u8p (a b c d:Int): ∃N,Zr (x6h a b c d) N (y1v a b c d)=.ret [.bool (u8q a b c d)]:=⟨0,by
 unfold y1v u8q Jj;simp only [y0f];cases decide (a<c) <;> cases decide (b<d) <;> cases decide (a≥ -1000000) <;> cases decide (a≤1000000) <;> cases decide (c≥ -1000000) <;> cases decide (c≤1000000) <;> cases decide (b≥ -1000000) <;> cases decide (b≤1000000) <;> cases decide (d≥ -1000000) <;> rfl⟩
def fVl4 :List AVal→Option (AVal×Bool)
 | [.agg [.int .i64 aJ,.int .i64 aL,.int .i64 aK,.int .i64 aR]]=>some (.bool (u8q aJ aL aK aR),true)
 | _=>none
theorem j3r {S:Specs} (hS:Zv prog S):Zv prog (S.with w3x fVl4):=by
 refine Qe hS (by kernel_rfl) fun args v h=> ?_;unfold fVl4 at h;split at h
 ·rename_i aJ aL aK aR;simp only [Ae,Ad,Bl] at h;subst h;obtain ⟨N,hN⟩:=u8p aJ aL aK aR;exact ⟨_,_,(.cons (.refl _) .nil),rfl,v7d aJ aL aK aR N _ hN,3,rfl⟩
 ·cases h
def fMad :List AVal→Option (AVal×Bool)
 | [a0]=>match asL R4 a0 with
  | some (L0,g0,n0)=>some (.tup [.dat (Wa L0).length (Zz (Wa L0)),.int .i64 (z1u L0)],isT R4 n0 g0&&(Qa L0))
  | _=>none
 | _=>none
theorem j5a {S:Specs} (hS:Zv prog S):Zv prog (S.with v4e fMad):=by
 refine x6d hS (by kernel_rfl) fun args v h=> ?_;unfold fMad at h;split at h
 ·rename_i a0;split at h
  ·rename_i L0 g0 n0 e0;simp only [Ae,Ad,Ac] at h;obtain ⟨rfl,ho0,hw⟩:=h;obtain ⟨N,hN⟩:=j2w L0 hw;exact ⟨_,_,(.cons (Yc e0 ho0) .nil),Qt _ _,u0y L0 N _ hN,3,z2n _ _⟩
  ·cases h
 ·cases h
def T6v :Specs:=(T6.with w3x fVl4)
theorem T6v_ok :Zv prog T6v:=(j3r Kb)
def T6m :Specs:=(T6v.with v4e fMad)
theorem y6x :Zv prog T6m:=(j5a T6v_ok)
inductive rgmS where
 | h0 (v8:Int)
def rgmC (l0:List R4):rgmS→Cfg
 | .h0 v8=>⟨⟨19,0,true⟩,none,(Zc prog 153 [1,0,1,0,0] 0),none,(Zy prog 6),⟨Yj [(0,(.dat l0.length (Zz l0))),(1,(.fn 115 [])),(7,(ii (l0.length:Int))),(8,(ii v8))],Wn [] 0,0,[],true⟩,[⟨⟨9,0,true⟩,(Vk prog 114 [1,0] 2),(Zc prog 114 [1,0] 1),none,(Zy prog 6),Yj [(5,(.dat l0.length (Zz l0))),(6,(.fn 115 []))]⟩,⟨⟨13,0,true⟩,(Vk prog 83 [1,1,0,0] 1),(Zc prog 83 [1,1,0,0] 1),none,(Zy prog 14),Yj [(0,(.dat l0.length (Zz l0))),(7,(.dat l0.length (Zz l0)))]⟩],.leaf⟩
def rgmN0 :List (Option (List Nat)):=[some [0,1,7,8],some [5,6],some [0,7]]
def rgmM0 :List (Option (List Nat)):=[]
def z4c (l0:List R4):rgmS→Xx rgmS
 | .h0 v8=>(bif (decide (v8<(l0.length:Int))) then (bif ((decide (0≤v8∧v8<(l0.length:Int)))&&true) then (bif (!(u8q (rd l0 v8.toNat).a (rd l0 v8.toNat).b (rd l0 v8.toNat).c (rd l0 v8.toNat).d)) then (bif (decide (v8≥0)) then (.ret [.nils,(.int .i64 8)]) else (bif (Qa (cvT l0)) then (.ret [(.dat (Wa (cvT l0)).length (Zz (Wa (cvT l0)))),(.int .i64 (z1u (cvT l0)))]) else .stuck)) else (.to (.h0 (wrap .i64 (v8+1))))) else .stuck) else (bif (Qa (cvT l0)) then (.ret [(.dat (Wa (cvT l0)).length (Zz (Wa (cvT l0)))),(.int .i64 (z1u (cvT l0)))]) else .stuck))
def z7r (l0:List R4):Xx rgmS:=(bif (decide ((l0.length:Int)>400)) then (.ret [.nils,(.int .i64 4)]) else (.to (.h0 0)))
theorem w7i (l0:List R4): ∀s,Xy prog (Zy prog 83) (rgmC l0) (rgmC l0 s) (z4c l0 s)
 | .h0 v8=>(lb (fun k0=>(lo fun aI=>(lb (fun k1=>(lb (fun k2=>(lr 13 83 [1,1,0,1,0,0] 1 14 [(2,.nils),(3,(ii 8))] (sl y6x 54 [] ⟨[],[],[some [2,3]],[]⟩ ⟨[],[],[]⟩ (trs 3 []) (tt k2 (tt k1 (ww aI (tt k0 nn))))))) (fun k2=>(lo fun o0=>(lr 13 3 [1,1,1,1,0] 1 14 [(2,(.dat (Wa (cvT l0)).length (Zz (Wa (cvT l0))))),(3,(ii (z1u (cvT l0))))] (sl y6x 59 [] ⟨[],[],[some [2,3]],[]⟩ ⟨[],[],[]⟩ (bl 3 3) (pp (pp (xr l0) (xw o0)) (tt k2 (tt k1 (ww aI (tt k0 nn))))))))))) (fun k1=>(sl y6x 44 [] ⟨[],[],rgmN0,rgmM0⟩ ⟨[],[],[]⟩ (bl 2 1) (tt k1 (ww aI (tt k0 nn)))))))) (fun k0=>(lo fun o0=>(lr 13 3 [1,1,1,1,0] 1 14 [(2,(.dat (Wa (cvT l0)).length (Zz (Wa (cvT l0))))),(3,(ii (z1u (cvT l0))))] (sl y6x 28 [] ⟨[],[],[some [2,3]],[]⟩ ⟨[],[],[]⟩ (bl 2 0) (pp (pp (xr l0) (xw o0)) (tt k0 nn)))))))
theorem x8j (l0:List R4):Xy prog (Zy prog 83) (rgmC l0) (Zg prog 83 [(.dat l0.length (Zz l0))] true []) (z7r l0):=(lb (fun k0=>(lr 13 83 [1,0,1,0,0] 1 14 [(2,.nils),(3,(ii 4))] (sl y6x 18 [] ⟨[],[],[some [2,3]],[]⟩ ⟨[],[],[]⟩ [true] (tt k0 nn)))) (fun k0=>(sl y6x 41 [] ⟨[],[],rgmN0,rgmM0⟩ ⟨[],[],[]⟩ [false] (tt k0 nn))))
theorem v9s (l0:List R4) (n:Nat) (vs:List AVal) (h:Zr (z4c l0) n (z7r l0)=.ret vs):Uz prog (Zy prog 83) (Zg prog 83 [(.dat l0.length (Zz l0))] true []) vs:=by have:=Zd (w7i l0) n _ (x8j l0);rwa [h] at this
theorem u5z (l:List R4) (hl:l.length≤400): ∀(k i:Nat),i+k=l.length→(∀s∈l.take i,Jj s=true)→ ∃n,Zr (z4c l) n (.to (.h0 (i:Int)))=.ret (bif l.all Jj then [.dat (Wa l).length (Zz (Wa l)),.int .i64 (z1u l)] else [.nils,.int .i64 8])
 | 0,i,h,ht=>by
  have hv:l.all Jj=true:=Ar.2 fun s hs=>ht s (by grind);have w:Qa l=true:=Al hl;refine ⟨1,?_⟩
  grind [Zw,z4c,Zb,Zq]
 | k+1,i,h,ht=>by
  have hi:i<l.length:=by omega
  have hs:z4c l (.h0 (i:Int))=bif Jj (rd l i) then .to (.h0 ((i+1:Nat):Int)) else .ret [.nils,.int .i64 8]:=by have e:u8q (rd l i).a (rd l i).b (rd l i).c (rd l i).d =Jj (rd l i):=rfl;simp (disch:=omega) only [z4c,e,y0e,x5g,w5a,Zn,Zj,Zx,Zk,Ah,Ab,Aa]
  rcases Yy (Jj (rd l i)) with q | q
  ·obtain ⟨n,hn⟩:=u5z l hl k (i+1) (by omega) (fun s hs=>by
    rw [A0] at hs
    grind [Xz])
   refine ⟨n+1,?_⟩
   grind [Zw]
  ·have hv:l.all Jj=false:=AZ.2 fun e=>by
    grind [Xz]
   refine ⟨1,?_⟩
   grind [Zw,Zq]
theorem v9r (l:List R4): ∃n,Zr (z4c l) n (z7r l)=.ret (bif decide (400<l.length) then [.nils,.int .i64 4] else bif l.all Jj then [.dat (Wa l).length (Zz (Wa l)),.int .i64 (z1u l)] else [.nils,.int .i64 8]):=by
 unfold z7r;by_cases h:400<l.length
 ·refine ⟨0,?_⟩;rw [Al h,Yn (show (l.length:Int)>400 by omega)];rfl
 ·obtain ⟨n,hn⟩:=u5z l (by omega) l.length 0 (Af _) (fun s hs=>by simp at hs)
  grind
def Zm (l:List R4):List R4:=bif decide (400<l.length) then [] else bif l.all Jj then (bif decide (((D4.out l).length :Int)>400) then [] else D4.out l) else []
def Yo (l:List R4):Int:=bif decide (400<l.length) then 4 else bif l.all Jj then (bif decide (((D4.out l).length :Int)>400) then 4 else 0) else 8
def Uu (l:List R4):Bool:=true
theorem j1w (l:List R4) (h:Uu l=true): ∃n,Zr (z4c l) n (z7r l)=.ret (bif decide (400<l.length) then [.nils,.int .i64 4] else bif l.all Jj then [.dat (Zm l).length (Zz (Zm l)),.int .i64 (Yo l)] else [.nils,.int .i64 8]):=by
 obtain ⟨n,hn⟩:=v9r l
 grind [Wa,Zm,j2z,y7f,y7g,z1u,Yo]
def fRgm :List AVal→Option (AVal×Bool)
 | [a0]=>match asL R4 a0 with
  | some (L0,g0,n0)=>some (.tup [.dat (Zm L0).length (Zz (Zm L0)),.int .i64 (Yo L0)],isT R4 n0 g0&&(Uu L0))
  | _=>none
 | _=>none
theorem j4s {S:Specs} (hS:Zv prog S):Zv prog (S.with w3z fRgm):=by
 refine x6d hS (by kernel_rfl) fun args v h=> ?_;unfold fRgm at h;split at h
 ·rename_i a0;split at h
  ·rename_i L0 g0 n0 e0;simp only [Ae,Ad,Ac] at h;obtain ⟨rfl,ho0,hw⟩:=h;obtain ⟨N,hN⟩:=j1w L0 hw;refine ⟨_,_,(.cons (Yc e0 ho0) .nil),?_,v9s L0 N _ hN,3,?_⟩
   ·cases h1:decide (400<L0.length) <;> cases h2:L0.all Jj <;> simp only [Zm,Yo,h1,h2,Ab,Aa]
    ·exact fun ρ u hu=>z3g (.cons (Qd R4) (RLe.refl _)) ρ u hu
    ·exact fun ρ u hu=>hu
    ·exact fun ρ u hu=>z3g (.cons (Qd R4) (RLe.refl _)) ρ u hu
    ·exact fun ρ u hu=>z3g (.cons (Qd R4) (RLe.refl _)) ρ u hu
   ·cases decide (400<L0.length) <;> cases L0.all Jj <;> rfl
  ·cases h
 ·cases h
def T7 :Specs:=(T6m.with w3z fRgm)
theorem x5x :Zv prog T7:=(j4s y6x)
inductive vl6S where
def vl6C (aJ:Int) (aL:Int) (aK:Int) (aR:Int) (aW:Int) (aT:Int):vl6S→Cfg
 :=nofun
def x6f (aJ:Int) (aL:Int) (aK:Int) (aR:Int) (aW:Int) (aT:Int):vl6S→Xx vl6S
 :=nofun
def y1u (aJ:Int) (aL:Int) (aK:Int) (aR:Int) (aW:Int) (aT:Int):Xx vl6S:=(bif (decide (aJ<aR)) then (bif (decide (aL<aW)) then (bif (decide (aK<aT)) then (bif (decide ((Kx (Kx aJ aL) aK)≥(-1000000))) then (bif (decide ((Kw (Kw aJ aL) aK)≤1000000)) then (bif (decide ((Kx (Kx aR aW) aT)≥(-1000000))) then (.ret [(.bool (decide ((Kw (Kw aR aW) aT)≤1000000)))]) else (.ret [(.bool false)])) else (.ret [(.bool false)])) else (.ret [(.bool false)])) else (.ret [(.bool false)])) else (.ret [(.bool false)])) else (.ret [(.bool false)]))
theorem w5j (aJ:Int) (aL:Int) (aK:Int) (aR:Int) (aW:Int) (aT:Int): ∀s,Xy prog (Zy prog 92) (vl6C aJ aL aK aR aW aT) (vl6C aJ aL aK aR aW aT s) (x6f aJ aL aK aR aW aT s)
 :=nofun
theorem x6g (aJ:Int) (aL:Int) (aK:Int) (aR:Int) (aW:Int) (aT:Int):Xy prog (Zy prog 92) (vl6C aJ aL aK aR aW aT) (Zg prog 92 [(.agg [(.int .i64 aJ),(.int .i64 aL),(.int .i64 aK),(.int .i64 aR),(.int .i64 aW),(.int .i64 aT)])] true []) (y1u aJ aL aK aR aW aT):=(lb (fun k0=>(lb (fun k1=>(lb (fun k2=>(lb (fun k3=>(lb (fun k4=>(lb (fun k5=>(lr 38 3 [1,1,1,1,0] 1 9 [(2,(.bool (decide ((Kw (Kw aR aW) aT)≤1000000))))] (sl x5x 100 [] ⟨[],[],[some [2]],[]⟩ ⟨[],[],[]⟩ (trs 36 []) (tt k5 (tt k4 (tt k3 (tt k2 (tt k1 (tt k0 nn))))))))) (fun k5=>(lr 38 3 [1,1,1,1,0] 1 9 [(2,(.bool false))] (sl x5x 100 [] ⟨[],[],[some [2]],[]⟩ ⟨[],[],[]⟩ (trs 28 [false,false,false,false,false,false,false,false]) (tt k5 (tt k4 (tt k3 (tt k2 (tt k1 (tt k0 nn))))))))))) (fun k4=>(lr 38 3 [1,1,1,1,0] 1 9 [(2,(.bool false))] (sl x5x 72 [] ⟨[],[],[some [2]],[]⟩ ⟨[],[],[]⟩ (trs 25 [false,false,false]) (tt k4 (tt k3 (tt k2 (tt k1 (tt k0 nn)))))))))) (fun k3=>(lr 38 3 [1,1,1,1,0] 1 9 [(2,(.bool false))] (sl x5x 72 [] ⟨[],[],[some [2]],[]⟩ ⟨[],[],[]⟩ (trs 17 [false,false,false,false,false,false,false,false,false,false,false]) (tt k3 (tt k2 (tt k1 (tt k0 nn))))))))) (fun k2=>(lr 38 3 [1,1,1,1,0] 1 9 [(2,(.bool false))] (sl x5x 44 [] ⟨[],[],[some [2]],[]⟩ ⟨[],[],[]⟩ (trs 14 [false,false,false,false,false,false]) (tt k2 (tt k1 (tt k0 nn)))))))) (fun k1=>(lr 38 3 [1,1,1,1,0] 1 9 [(2,(.bool false))] (sl x5x 44 [] ⟨[],[],[some [2]],[]⟩ ⟨[],[],[]⟩ (trs 7 [false,false,false,false,false,false,false,false,false,false,false,false,false]) (tt k1 (tt k0 nn))))))) (fun k0=>(lr 38 3 [1,1,1,1,0] 1 9 [(2,(.bool false))] (sl x5x 44 [] ⟨[],[],[some [2]],[]⟩ ⟨[],[],[]⟩ [false,false,false,false,false,false,false,false,false,false,false,false,false,false,false,false,false,false,false,false] (tt k0 nn)))))
theorem v7c (aJ:Int) (aL:Int) (aK:Int) (aR:Int) (aW:Int) (aT:Int) (n:Nat) (vs:List AVal) (h:Zr (x6f aJ aL aK aR aW aT) n (y1u aJ aL aK aR aW aT)=.ret vs):Uz prog (Zy prog 92) (Zg prog 92 [(.agg [(.int .i64 aJ),(.int .i64 aL),(.int .i64 aK),(.int .i64 aR),(.int .i64 aW),(.int .i64 aT)])] true []) vs:=by have:=Zd (w5j aJ aL aK aR aW aT) n _ (x6g aJ aL aK aR aW aT);rwa [h] at this
def Kv (r:R6):Bool:=decide (r.a<r.d)&&(decide (r.b<r.e)&&(decide (r.c<r.f)&&(decide ((Kx (Kx r.a r.b) r.c)≥(-1000000))&&(decide ((Kw (Kw r.a r.b) r.c)≤1000000)&&(decide ((Kx (Kx r.d r.e) r.f)≥(-1000000))&&decide ((Kw (Kw r.d r.e) r.f)≤1000000))))))
def u8o (a b c d e f:Int):Bool:=Kv ⟨a,b,c,d,e,f⟩
theorem u8n (a b c d e f:Int): ∃N,Zr (x6f a b c d e f) N (y1u a b c d e f)=.ret [.bool (u8o a b c d e f)]:=⟨0,by
 unfold y1u u8o Kv;simp only [y0f];cases decide (a<d) <;> cases decide (b<e) <;> cases decide (c<f) <;> cases decide ((Kx (Kx a b) c)≥(-1000000)) <;> cases decide ((Kw (Kw a b) c)≤1000000) <;> cases decide ((Kx (Kx d e) f)≥(-1000000)) <;> rfl⟩
def fVl6 :List AVal→Option (AVal×Bool)
 | [.agg [.int .i64 aJ,.int .i64 aL,.int .i64 aK,.int .i64 aR,.int .i64 aW,.int .i64 aT]]=>some (.bool (u8o aJ aL aK aR aW aT),true)
 | _=>none
theorem j3q {S:Specs} (hS:Zv prog S):Zv prog (S.with w3v fVl6):=by
 refine Qe hS (by kernel_rfl) fun args v h=> ?_;unfold fVl6 at h;split at h
 ·rename_i aJ aL aK aR aW aT;simp only [Ae,Ad,Bl] at h;subst h;obtain ⟨N,hN⟩:=u8n aJ aL aK aR aW aT;exact ⟨_,_,(.cons (.refl _) .nil),rfl,v7c aJ aL aK aR aW aT N _ hN,3,rfl⟩
 ·cases h
def T7v :Specs:=(T7.with w3v fVl6)
theorem Vf :Zv prog T7v:=(j3q x5x)
inductive sckS where
 | h0 (v8:Int)
 | h1 (v16:Int) (aB:List Int)
 | h2 (v4:Int) (aF:List R6) (aN:List R4) (aY:Int) (aZ:Int) (aE:Nat) (aH:List Int)
 | h3 (v4:Int) (v38:Int) (aF:List R6) (aN:List R4) (aY:Int) (aZ:Int) (aE:Nat) (aH:List Int) (aM:Int) (aX:Int) (aA:List R4)
 | h4 (v1:Int) (v2:Int) (v72:List R4) (v73:Int) (v74:Int) (bJ:List R4) (aV:Int) (aD:List R6) (bB:List R4) (bA:Int) (aE:Nat) (aH:List Int) (aM:List R4)
 | h5 (v2:Int) (v8:Int) (bR:Int) (bJ:List R4) (aV:Int) (aD:List R6) (bB:List R4) (bA:Int) (bN:Int) (bG:Nat) (bM:List Int) (aA:List R4)
abbrev y8e (aD:List R6) (v8:Int) (v2:Int):=(aD.set (0+(tn v8)) (R6.mk (rd aD (0+(tn v8))).a (rd aD (0+(tn v8))).b (rd aD (0+(tn v8))).c (rd aD (0+(tn v8))).d (rd aD (0+(tn v8))).e v2))
def v1r (l0:List R6):AFr:=⟨⟨25,0,true⟩,(Vk prog 52 [1,1,1,0,0] 3),(Zc prog 52 [1,1,1,0,0] 1),none,(Zy prog 9),Yj [(0,(.dat l0.length (Zz l0))),(11,(.agg [.nilf])),(13,(.sl 8 0 1 (.un 1)))]⟩
abbrev y8d (aB:List Int):=(Wd (Ye aB.length (cOf (Zz (Xr (Ye aB.length (cOf (Zz aB))))))))
abbrev y8c (aA:List R4) (l0:List R6) (v38:Int):=(aA++[(R4.mk (rd l0 (tn v38)).a (rd l0 (tn v38)).b (rd l0 (tn v38)).d (rd l0 (tn v38)).e)])
abbrev y8b (aD:List R6) (v72:List R4) (v74:Int) (v1:Int) (v2:Int):=(aD++[(R6.mk (rd v72 (tn v74)).a (rd v72 (tn v74)).b v1 (rd v72 (tn v74)).c (rd v72 (tn v74)).d v2)])
def u4p :=(y1k [(0,⟨.ready,none,65,Yj [(2,(.ptr 1 0)),(4,(.ptr 2 0)),(5,(.ptr 3 0)),(6,(.ptr 4 0))],[15],(Wc prog 93 [1,1,0,1,0,0]),(Wc prog 93 [1,1,0,1,0,1])⟩)])
def z1q (l0:List R6):AVal:=(.dat l0.length (Zz l0))
def u4o :AFr:=⟨⟨65,0,true⟩,none,(.inRangeFunc 0::(Zc prog 93 [1,1,0,1,0] 1)),none,(Zy prog 93),Yj [(4,(.ptr 2 0)),(5,(.ptr 3 0)),(6,(.ptr 4 0))]⟩
abbrev y8a (aB:List Int) (l0:List R6) (v16:Int):=(aB++[(rd l0 (tn v16)).c,(rd l0 (tn v16)).f])
def sckC (l0:List R6):sckS→Cfg
 | .h0 v8=>⟨⟨19,0,true⟩,none,(Zc prog 95 [1,0,1,0,0] 0),none,(Zy prog 6),⟨Yj [(0,(z1q l0)),(1,(.fn 91 [])),(7,(ii (l0.length:Int))),(8,(ii v8))],Wn [] 0,0,[],true⟩,[⟨⟨9,0,true⟩,(Vk prog 57 [1,0] 2),(Zc prog 57 [1,0] 1),none,(Zy prog 6),Yj [(5,(z1q l0)),(6,(.fn 91 []))]⟩,⟨⟨25,0,true⟩,(Vk prog 52 [1,1,0,0] 1),(Zc prog 52 [1,1,0,0] 1),none,(Zy prog 9),Yj [(0,(z1q l0)),(8,(z1q l0))]⟩],.leaf⟩
 | .h1 v16 aB=>⟨⟨36,0,true⟩,none,(Zc prog 135 [1,1,0,1,0,0,1,1,0,0,1,1,0,0] 0),none,(Zy prog 9),⟨Yj [(1,(.ptr 0 0)),(3,(.ptr 2 0)),(8,(.sl 1 0 1 (.un 1))),(9,(ii 1)),(10,(ii 0)),(14,(z1q l0)),(15,(ii (l0.length:Int))),(16,(ii v16))],Wn [⟨[(.sl 1 0 1 (.un 1))],177,none⟩,⟨[(z1q l0)],32,none⟩,⟨[(.sla 7 1 0 aB.length (.un 1))],125,none⟩,⟨[.nilf],101,none⟩,⟨[.nils],33,none⟩,⟨[(ii 0)],24,none⟩,⟨[.nils,.nils,(ii 0),(ii 0)],179,none⟩,⟨Yk aB.length (Zz aB),3,some ⟨1,aB.length,(Zz aB)⟩⟩] 0,8,[],true⟩,[⟨⟨65,0,true⟩,(Vk prog 93 [1,1,0,0] 1),(Zc prog 93 [1,1,0,0] 1),none,(Zy prog 93),Yj [(2,(.ptr 3 0)),(4,(.ptr 4 0)),(5,(.ptr 5 0)),(6,(.ptr 6 0)),(13,(.sl 1 0 1 (.un 1)))]⟩,⟨⟨25,0,true⟩,(Vk prog 52 [1,1,1,0,0] 3),(Zc prog 52 [1,1,1,0,0] 1),none,(Zy prog 9),Yj [(0,(z1q l0)),(11,(.agg [.nilf])),(13,(.sl 1 0 1 (.un 1)))]⟩],.leaf⟩
 | .h2 v4 aF aN aY aZ aE aH=>⟨⟨86,0,true⟩,none,(Zc prog 162 [1,0,0] 0),none,[],⟨Yj [(0,(.yld 0)),(1,(.ptr 5 0)),(2,(.ptr 7 0)),(4,(ii v4))],z6q [(1,⟨[.nilf],101,none⟩),(2,⟨[.nils],33,none⟩),(3,⟨[(ii 0)],24,none⟩),(4,⟨[(.sla 9 6 0 aF.length (.un 6)),(.dat aN.length (Zz aN)),(ii aY),(ii aZ)],179,none⟩),(5,⟨[(.sla 6 1 0 aE (.un 1))],125,none⟩),(6,⟨Yk aH.length (Zz aH),3,some ⟨1,aH.length,(Zz aH)⟩⟩),(7,⟨[(.sl 8 0 1 (.un 1))],177,none⟩),(8,⟨[(z1q l0)],32,none⟩),(9,⟨Yk aF.length (Zz aF),57,some ⟨6,aF.length,(Zz aF)⟩⟩)],10,[],true⟩,[u4o,(v1r l0)],u4p⟩
 | .h3 v4 v38 aF aN aY aZ aE aH aM aX aA=>⟨⟨86,0,true⟩,none,(Zc prog 162 [1,0,0,1,0,0,1,0,1,0,0,1,1,0,0,1,1,0,0] 0),none,[],⟨Yj [(0,(.yld 0)),(1,(.ptr 5 0)),(2,(.ptr 7 0)),(4,(ii v4)),(5,(.ptr 9 0)),(6,(ii 0)),(29,(.sl 8 0 1 (.un 1))),(30,(ii 1)),(31,(ii 0)),(36,(z1q l0)),(37,(ii (l0.length:Int))),(38,(ii v38))],z6q [(1,⟨[.nilf],101,none⟩),(2,⟨[.nils],33,none⟩),(3,⟨[(ii 0)],24,none⟩),(4,⟨[(.sla 12 6 0 aF.length (.un 6)),(.dat aN.length (Zz aN)),(ii aY),(ii aZ)],179,none⟩),(5,⟨[(.sla 6 1 0 aE (.un 1))],125,none⟩),(6,⟨Yk aH.length (Zz aH),3,some ⟨1,aH.length,(Zz aH)⟩⟩),(7,⟨[(.sl 8 0 1 (.un 1))],177,none⟩),(8,⟨[(z1q l0)],32,none⟩),(9,⟨[(ii aM),(ii aX),(.sl 10 0 1 (.ex 1))],184,none⟩),(10,⟨[(.sla 11 4 0 aA.length (.un 4))],80,none⟩),(11,⟨Yk aA.length (Zz aA),116,some ⟨4,aA.length,(Zz aA)⟩⟩),(12,⟨Yk aF.length (Zz aF),57,some ⟨6,aF.length,(Zz aF)⟩⟩)],13,[],true⟩,[u4o,(v1r l0)],u4p⟩
 | .h4 v1 v2 v72 v73 v74 bJ aV aD bB bA aE aH aM=>⟨⟨101,0,true⟩,none,(Zc prog 136 [1,1,1,0,0] 0),none,[],⟨Yj [(0,(.ptr 0 0)),(1,(ii v1)),(2,(ii v2)),(72,(.dat v72.length (Zz v72))),(73,(ii v73)),(74,(ii v74))],z6q [(0,⟨[(.sla 10 6 0 aD.length (.un 6)),(.dat bB.length (Zz bB)),(ii bA),(ii v2)],179,none⟩),(2,⟨[.nilf],101,none⟩),(3,⟨[.nils],33,none⟩),(4,⟨[(ii 0)],24,none⟩),(5,⟨[(.sla 6 1 0 aE (.un 1))],125,none⟩),(6,⟨Yk aH.length (Zz aH),3,some ⟨1,aH.length,(Zz aH)⟩⟩),(7,⟨[(.sl 8 0 1 (.un 1))],177,none⟩),(8,⟨[(z1q l0)],32,none⟩),(9,⟨[(.dat aM.length (Zz aM))],80,none⟩),(10,⟨Yk aD.length (Zz aD),57,some ⟨6,aD.length,(Zz aD)⟩⟩)],11,[],true⟩,[⟨⟨65,0,true⟩,(Vk prog 93 [1,1,0,1,0,1,0,1,1,1] 5),(Zc prog 93 [1,1,0,1,0,1,0,1,1,1] 1),(some 1),[],Yj [(6,(.ptr 0 0)),(54,(ii v1)),(56,(ii v2)),(57,(.dat bJ.length (Zz bJ)))]⟩,⟨⟨86,0,true⟩,(Vk prog 162 [1,0,0,1,0,0,1,1,0] 2),(Zc prog 162 [1,0,0,1,0,0,1,1,0] 1),none,[],Yj [(0,(.yld 1)),(1,(.ptr 5 0)),(2,(.ptr 7 0)),(4,(ii aV)),(82,(.yld 1)),(83,(.agg [(ii v1),(ii v2),(.sl 9 0 1 (.ex 1))]))]⟩,⟨⟨65,0,true⟩,none,(.inRangeFunc 1::(Zc prog 93 [1,1,0,1,0] 1)),none,(Zy prog 93),Yj [(4,(.ptr 3 0)),(5,(.ptr 4 0)),(6,(.ptr 0 0))]⟩,(v1r l0)],(y1k [(1,⟨.busy,none,65,Yj [(2,(.ptr 2 0)),(4,(.ptr 3 0)),(5,(.ptr 4 0)),(6,(.ptr 0 0))],[15],(Wc prog 93 [1,1,0,1,0,0]),(Wc prog 93 [1,1,0,1,0,1])⟩)])⟩
 | .h5 v2 v8 bR bJ aV aD bB bA bN bG bM aA=>⟨⟨101,0,true⟩,none,(Zc prog 136 [0,1,0,0,1,0,0] 0),none,[],⟨Yj [(0,(.ptr 0 0)),(2,(ii v2)),(8,(ii v8))],z6q [(0,⟨[(.sla 1 6 0 aD.length (.un 6)),(.dat bB.length (Zz bB)),(ii bA),(ii bN)],179,none⟩),(1,⟨Yk aD.length (Zz aD),57,some ⟨6,aD.length,(Zz aD)⟩⟩),(3,⟨[.nilf],101,none⟩),(4,⟨[.nils],33,none⟩),(5,⟨[(ii 0)],24,none⟩),(6,⟨[(.sla 7 1 0 bG (.un 1))],125,none⟩),(7,⟨Yk bM.length (Zz bM),3,some ⟨1,bM.length,(Zz bM)⟩⟩),(8,⟨[(.sl 9 0 1 (.un 1))],177,none⟩),(9,⟨[(z1q l0)],32,none⟩),(10,⟨[(.dat aA.length (Zz aA))],80,none⟩)],11,[],true⟩,[⟨⟨65,0,true⟩,(Vk prog 93 [1,1,0,1,0,1,0,1,1,1] 5),(Zc prog 93 [1,1,0,1,0,1,0,1,1,1] 1),(some 2),[],Yj [(6,(.ptr 0 0)),(54,(ii bR)),(56,(ii v2)),(57,(.dat bJ.length (Zz bJ)))]⟩,⟨⟨86,0,true⟩,(Vk prog 162 [1,0,0,1,0,0,1,1,0] 2),(Zc prog 162 [1,0,0,1,0,0,1,1,0] 1),none,[],Yj [(0,(.yld 2)),(1,(.ptr 6 0)),(2,(.ptr 8 0)),(4,(ii aV)),(82,(.yld 2)),(83,(.agg [(ii bR),(ii v2),(.sl 10 0 1 (.ex 1))]))]⟩,⟨⟨65,0,true⟩,none,(.inRangeFunc 2::(Zc prog 93 [1,1,0,1,0] 1)),none,(Zy prog 93),Yj [(4,(.ptr 4 0)),(5,(.ptr 5 0)),(6,(.ptr 0 0))]⟩,⟨⟨25,0,true⟩,(Vk prog 52 [1,1,1,0,0] 3),(Zc prog 52 [1,1,1,0,0] 1),none,(Zy prog 9),Yj [(0,(z1q l0)),(11,(.agg [.nilf])),(13,(.sl 9 0 1 (.un 1)))]⟩],(y1k [(2,⟨.busy,none,65,Yj [(2,(.ptr 3 0)),(4,(.ptr 4 0)),(5,(.ptr 5 0)),(6,(.ptr 0 0))],[15],(Wc prog 93 [1,1,0,1,0,0]),(Wc prog 93 [1,1,0,1,0,1])⟩)])⟩
def sckN0 :List (Option (List Nat)):=[some [0,1,7,8],some [5,6],some [0,8]]
def sckM0 :List (Option (List Nat)):=[]
def j0e :List (Option (List Nat)):=[some [1,3,8,9,10,14,15,16],some [2,4,5,6,13],some [0,11,13]]
def j0g :List (Option (List Nat)):=[]
def j0d :List (Option (List Nat)):=[some [0,1,2,4],some [4,5,6],some [0,11,13]]
def j0f :List (Option (List Nat)):=[some [2,4,5,6],none,none,none,none,none,none,none,none,none]
def v8g :List (Option (List Nat)):=[some [0,1,2,4,5,6,29,30,31,36,37,38],some [4,5,6],some [0,11,13]]
def v8i :List (Option (List Nat)):=[some [2,4,5,6],none,none,none,none,none,none,none,none,none,none,none,none]
def v8f :List (Option (List Nat)):=[some [0,1,2,72,73,74],some [6,54,56,57],some [0,1,2,4,82,83],some [4,5,6],some [0,11,13]]
def v8h :List (Option (List Nat)):=[none,some [2,4,5,6],none,none,none,none,none,none,none,none,none]
def sckN5 :List (Option (List Nat)):=[some [0,2,8],some [6,54,56,57],some [0,1,2,4,82,83],some [4,5,6],some [0,11,13]]
def sckM5 :List (Option (List Nat)):=[none,none,some [2,4,5,6],none,none,none,none,none,none,none,none]
def Xp (l0:List R6):sckS→Xx sckS
 | .h0 v8=>(bif (decide (v8<(l0.length:Int))) then (bif ((decide (0≤v8∧v8<(l0.length:Int)))&&true) then (bif (!(u8o (rd l0 v8.toNat).a (rd l0 v8.toNat).b (rd l0 v8.toNat).c (rd l0 v8.toNat).d (rd l0 v8.toNat).e (rd l0 v8.toNat).f)) then (bif (decide (v8≥0)) then (.ret [(.int .i64 8)]) else (.to (.h1 0 ([]:List Int)))) else (.to (.h0 (wrap .i64 (v8+1))))) else .stuck) else (.to (.h1 0 ([]:List Int))))
 | .h1 v16 aB=>(bif (decide (v16<(l0.length:Int))) then (bif ((decide (0≤v16∧v16<(l0.length:Int)))&&true) then (bif (Nat.beq 1 1&&((decide (0+aB.length=aB.length))&&decide ((aB.length+2+1)*(8+1)≤room))) then (.to (.h1 (wrap .i64 (v16+1)) (aB++[(rd l0 v16.toNat).c,(rd l0 v16.toNat).f]))) else .stuck) else .stuck) else (bif (decide (aB.length<4611686018427387904)) then (bif (decide (aB.length=aB.length)) then (.to (.h2 1 ([]:List R6) ([]:List R4) 0 0 (u8b (Ye aB.length (cOf (Zz (Xr (Ye aB.length (cOf (Zz aB)))))))) (Wd (Ye aB.length (cOf (Zz (Xr (Ye aB.length (cOf (Zz aB)))))))))) else .stuck) else .stuck))
 | .h2 v4 aF aN aY aZ aE aH=>(bif (decide (v4<((aE:Nat):Int))) then (bif ((decide (0≤(wrap .i64 (v4 - 1))∧(wrap .i64 (v4 - 1))<((aE:Nat):Int)))&&true) then (bif (decide ((0+(Int.toNat (wrap .i64 (v4 - 1))))<aH.length)) then (bif ((decide (0≤v4∧v4<((aE:Nat):Int)))&&true) then (bif (decide ((0+v4.toNat)<aH.length)) then (.to (.h3 v4 0 aF aN aY aZ aE aH (rd aH (0+(Int.toNat (wrap .i64 (v4 - 1))))) (rd aH (0+v4.toNat)) ([]:List R4))) else .stuck) else .stuck) else .stuck) else .stuck) else (bif (decide ((aF.length:Int)>400)) then (.ret [(.int .i64 8)]) else (bif (Nat.beq 6 6&&(decide (0+aF.length≤aF.length)&&z0q (Zz aF))) then (bif (Vn (lst R6 (aF.length) (fun k=>(Zz aF) (0+k))) (cvT l0)) then (bif (!(Ke (lst R6 (aF.length) (fun k=>(Zz aF) (0+k))) (cvT l0))) then (.ret [(.int .i64 8)]) else (.ret [(.int .i64 0)])) else .stuck) else .stuck)))
 | .h3 v4 v38 aF aN aY aZ aE aH aM aX aA=>(bif (decide (v38<(l0.length:Int))) then (bif ((decide (0≤v38∧v38<(l0.length:Int)))&&true) then (bif (decide ((rd l0 v38.toNat).c ≤aM)) then (bif (decide (aM<(rd l0 v38.toNat).f)) then (bif (Nat.beq 4 4&&((decide (0+aA.length=aA.length))&&decide ((aA.length+1+1)*(32+1)≤room))) then (.to (.h3 v4 (wrap .i64 (v38+1)) aF aN aY aZ aE aH aM aX (aA++[(R4.mk (rd l0 v38.toNat).a (rd l0 v38.toNat).b (rd l0 v38.toNat).d (rd l0 v38.toNat).e)]))) else .stuck) else (.to (.h3 v4 (wrap .i64 (v38+1)) aF aN aY aZ aE aH aM aX aA))) else (.to (.h3 v4 (wrap .i64 (v38+1)) aF aN aY aZ aE aH aM aX aA))) else .stuck) else (bif (Uu (cvT aA)) then (bif ((Yo (cvT aA)) != 0) then (.ret [(.int .i64 8)]) else (bif (decide ((((Zm (cvT aA)).length :Nat):Int)>0)) then (bif (aZ == aM) then (bif (Xs (cvT aN) (cvT (Zm (cvT aA)))) then (bif (Vw (cvT aN) (cvT (Zm (cvT aA)))) then (.to (.h5 aX aY aM (Zm (cvT aA)) v4 aF aN aY aZ aE aH aA)) else (.to (.h4 aM aX (Zm (cvT aA)) (((Zm (cvT aA)).length :Nat):Int) 0 (Zm (cvT aA)) v4 aF (Zm (cvT aA)) (aF.length:Int) aE aH aA))) else .stuck) else (.to (.h4 aM aX (Zm (cvT aA)) (((Zm (cvT aA)).length :Nat):Int) 0 (Zm (cvT aA)) v4 aF (Zm (cvT aA)) (aF.length:Int) aE aH aA))) else (.to (.h4 aM aX (Zm (cvT aA)) (((Zm (cvT aA)).length :Nat):Int) 0 (Zm (cvT aA)) v4 aF (Zm (cvT aA)) (aF.length:Int) aE aH aA)))) else .stuck))
 | .h4 v1 v2 v72 v73 v74 bJ aV aD bB bA aE aH aM=>(bif (decide (v74<v73)) then (bif ((decide (0≤v74∧v74<(v72.length:Int)))&&true) then (bif (Nat.beq 6 6&&((decide (0+aD.length=aD.length))&&decide ((aD.length+1+1)*(48+1)≤room))) then (.to (.h4 v1 v2 v72 v73 (wrap .i64 (v74+1)) bJ aV (aD++[(R6.mk (rd v72 v74.toNat).a (rd v72 v74.toNat).b v1 (rd v72 v74.toNat).c (rd v72 v74.toNat).d v2)]) bB bA aE aH aM)) else .stuck) else .stuck) else (.to (.h2 (wrap .i64 (aV+1)) aD bB bA v2 aE aH)))
 | .h5 v2 v8 bR bJ aV aD bB bA bN bG bM aA=>(bif (decide (v8<(aD.length:Int))) then (bif ((decide (0≤v8∧v8<(aD.length:Int)))&&true) then (bif (decide ((0+v8.toNat)<aD.length)) then (.to (.h5 v2 (wrap .i64 (v8+1)) bR bJ aV (aD.set (0+v8.toNat) (R6.mk (rd aD (0+v8.toNat)).a (rd aD (0+v8.toNat)).b (rd aD (0+v8.toNat)).c (rd aD (0+v8.toNat)).d (rd aD (0+v8.toNat)).e v2)) bB bA bN bG bM aA)) else .stuck) else .stuck) else (.to (.h2 (wrap .i64 (aV+1)) aD bB bA v2 bG bM)))
def y2d (l0:List R6):Xx sckS:=(bif (decide ((l0.length:Int)>400)) then (.ret [(.int .i64 4)]) else (.to (.h0 0)))
theorem w6g (l0:List R6): ∀s,Xy prog (Zy prog 52) (sckC l0) (sckC l0 s) (Xp l0 s)
 | .h0 v8=>(lb (fun k0=>(lo fun aI=>(lb (fun k1=>(lb (fun k2=>(lr 25 52 [1,1,0,1,0,0] 1 9 [(2,(ii 8))] (sl Vf 53 [] ⟨[],[],[some [2]],[]⟩ ⟨[],[],[]⟩ (trs 3 []) (tt k2 (tt k1 (ww aI (tt k0 nn))))))) (fun k2=>(sl Vf 113 [(3,1,Zz ([]:List Int))] ⟨[6,1,7,2,3,4,5,8],[],j0e,j0g⟩ ⟨[],[.keep,.keep,.cells [.grow 7 1],.keep,.keep,.keep,.keep,.keep],[]⟩ (bl 4 11) (pp (fl ([]:List Int) nn) (tt k2 (tt k1 (ww aI (tt k0 nn))))))))) (fun k1=>(sl Vf 44 [] ⟨[],[],sckN0,sckM0⟩ ⟨[],[],[]⟩ (bl 2 1) (tt k1 (ww aI (tt k0 nn)))))))) (fun k0=>(sl Vf 82 [(3,1,Zz ([]:List Int))] ⟨[5,0,6,1,2,3,4,7],[],j0e,j0g⟩ ⟨[],[.keep,.keep,.cells [.grow 7 1],.keep,.keep,.keep,.keep,.keep],[]⟩ (bl 3 4) (pp (fl ([]:List Int) nn) (tt k0 nn)))))
 | .h1 v16 aB=>(lb (fun k0=>(lo fun o0=>(lo fun o1=>(sl Vf 34 [] ⟨[0,1,2,3,4,5,6,10],[],j0e,j0g⟩ ⟨[],[.keep,.keep,.cells [.len (y8a aB l0 v16).length],.keep,.keep,.keep,.keep,.rowed 1 (y8a aB l0 v16).length (Zz (y8a aB l0 v16))],[]⟩ [true] (pp (xL (aB.length+2) (y8a aB l0 v16).length) (pp (xL (aB.length+2) (y8a aB l0 v16).length) (pp (xS (aB.length+2) (Zh (Zz aB) 0 aB.length 1 [(ii (rd l0 (tn v16)).c),(ii (rd l0 (tn v16)).f)]) (Zz (y8a aB l0 v16))) (pp (pp (xF (Zh (Zz aB) 0 aB.length 1 [(ii (rd l0 (tn v16)).c),(ii (rd l0 (tn v16)).f)])) nn) (ww o1 (ww o0 (tt k0 nn))))))))))) (fun k0=>(lo fun o0=>(lo fun o1=>(sl Vf 46 [(57,6,Zz ([]:List R6))] ⟨[8,3,4,5,6,2,7,0,1,9],[],j0d,j0f⟩ ⟨[],(kpB 4 [.cells [.grow 9 6,.list 0 (Zz ([]:List R4)),.keep,.keep],.keep,.rowed 1 (y8d aB).length (Zz (y8d aB)),.keep,.keep,.keep]),[]⟩ (bl 2 0) (pp (xL aB.length (y8d aB).length (by first | exact z4i _ _ | exact Vt rfl)) (pp (xS aB.length (Zz (y8d aB)) (Zz (y8d aB))) (pp (fl (y8d aB) (fl ([]:List R6) nn)) (pp (pp (xG (Nat.beq 1 1)) (pp (xG (Nat.beq 1 1)) (pp (xG (Nat.beq 0 0)) (pp (xG (decide (aB.length=aB.length))) (pp (xG (isI (Zz (Xr (Ye aB.length (cOf (Zz aB))))))) (xG (decide (aB.length<4611686018427387904)))))))) (pp (pp (xG (Nat.beq 1 1)) (pp (xG (Nat.beq 1 1)) (pp (xG (Nat.beq 0 0)) (pp (xG (decide (aB.length=aB.length))) (pp (xG (isI (Zz aB))) (xG (decide (aB.length<4611686018427387904)))))))) (tt k0 nn)))))))))))
 | .h2 v4 aF aN aY aZ aE aH=>(lb (fun k0=>(lo fun o0=>(lo fun o1=>(lo fun o2=>(lo fun o3=>(sl Vf 48 [(116,4,Zz ([]:List R4))] ⟨[0,1,2,3,4,5,6,7,8,10,11,12,9],[],v8g,v8i⟩ ⟨[],(kpB 10 [.cells [.grow 11 4],.keep,.keep]),[]⟩ (trs 3 []) (pp (fl aH (fl ([]:List R4) (fl aF nn))) (ww o3 (ww o2 (ww o1 (ww o0 (tt k0 nn)))))))))))) (fun k0=>(lb (fun k1=>(lr 25 52 [1,1,1,0,1,1,0,0] 1 9 [(2,(ii 8))] (sl Vf 50 [] ⟨[],[],[some [2]],[]⟩ ⟨[],[],[]⟩ (bl 7 126) (tt k1 (tt k0 nn))))) (fun k1=>(lo fun bS=>(lo fun dD=>(lb (fun k2=>(lr 25 52 [1,1,1,0,1,1,0,0] 1 9 [(2,(ii 8))] (sl Vf 53 [] ⟨[],[],[some [2]],[]⟩ ⟨[],[],[]⟩ (bl 7 64) (tt k2 (pp (pp (pp (xw bS) (pp nn nn)) (pp (xI R6 (aF.length) (fun k=>(Zz aF) (0+k))) (pp (xr l0) (xw dD)))) (tt k1 (tt k0 nn))))))) (fun k2=>(lr 25 3 [1,1,1,1,0] 1 9 [(2,(ii 0))] (sl Vf 54 [] ⟨[],[],[some [2]],[]⟩ ⟨[],[],[]⟩ (bl 7 0) (tt k2 (pp (pp (pp (xw bS) (pp nn nn)) (pp (xI R6 (aF.length) (fun k=>(Zz aF) (0+k))) (pp (xr l0) (xw dD)))) (tt k1 (tt k0 nn))))))))))))))
 | .h3 v4 v38 aF aN aY aZ aE aH aM aX aA=>(lb (fun k0=>(lo fun aI=>(lb (fun k1=>(lb (fun k2=>(lo fun o0=>(sl Vf 41 [] ⟨[0,1,2,3,4,5,6,7,8,9,10,15,12],[],v8g,v8i⟩ ⟨[],(kpB 10 [.cells [.len (y8c aA l0 v38).length],.rowed 4 (y8c aA l0 v38).length (Zz (y8c aA l0 v38)),.keep]),[]⟩ (trs 8 []) (pp (xL (aA.length+1) (y8c aA l0 v38).length) (pp (xL (aA.length+1) (y8c aA l0 v38).length) (pp (xS (aA.length+1) (Zh (Zz aA) 0 aA.length 4 [(ii (rd l0 (tn v38)).a),(ii (rd l0 (tn v38)).b),(ii (rd l0 (tn v38)).d),(ii (rd l0 (tn v38)).e)]) (Zz (y8c aA l0 v38))) (pp (fl aH (pp (xF (Zh (Zz aA) 0 aA.length 4 [(ii (rd l0 (tn v38)).a),(ii (rd l0 (tn v38)).b),(ii (rd l0 (tn v38)).d),(ii (rd l0 (tn v38)).e)])) (fl aF nn))) (ww o0 (tt k2 (tt k1 (ww aI (tt k0 nn)))))))))))) (fun k2=>(sl Vf 41 [] ⟨(List.range 13),[],v8g,v8i⟩ ⟨[],[],[]⟩ (trs 7 [false]) (pp (fl aH (fl aA (fl aF nn))) (tt k2 (tt k1 (ww aI (tt k0 nn))))))))) (fun k1=>(sl Vf 41 [] ⟨(List.range 13),[],v8g,v8i⟩ ⟨[],[],[]⟩ (bl 8 1) (pp (fl aH (fl aA (fl aF nn))) (tt k1 (ww aI (tt k0 nn))))))))) (fun k0=>(Wy (sl Vf (C':=⟨⟨65,0,true⟩,(Vk prog 93 [1,1,0,1,0,1,0,0] 4),(Zc prog 93 [1,1,0,1,0,1,0,0] 1),(some 0),[],⟨Yj [(2,(.ptr 1 0)),(4,(.ptr 2 0)),(5,(.ptr 3 0)),(6,(.ptr 4 0)),(7,(.ptr 6 0)),(20,(.dat aA.length (Zz aA)))],z6q [(1,⟨[.nilf],101,none⟩),(2,⟨[.nils],33,none⟩),(3,⟨[(ii 0)],24,none⟩),(4,⟨[(.sla 5 6 0 aF.length (.un 6)),(.dat aN.length (Zz aN)),(ii aY),(ii aZ)],179,none⟩),(5,⟨Yk aF.length (Zz aF),57,some ⟨6,aF.length,(Zz aF)⟩⟩),(6,⟨[(ii aM),(ii aX),(.sl 7 0 1 (.ex 1))],184,none⟩),(7,⟨[(.dat aA.length (Zz aA))],80,none⟩),(8,⟨[(.sla 9 1 0 aE (.un 1))],125,none⟩),(9,⟨Yk aH.length (Zz aH),3,some ⟨1,aH.length,(Zz aH)⟩⟩),(10,⟨[(.sl 11 0 1 (.un 1))],177,none⟩),(11,⟨[(.dat l0.length (Zz l0))],32,none⟩)],12,[],true⟩,[⟨⟨86,0,true⟩,(Vk prog 162 [1,0,0,1,0,0,1,1,0] 2),(Zc prog 162 [1,0,0,1,0,0,1,1,0] 1),none,[],Yj [(0,(.yld 0)),(1,(.ptr 8 0)),(2,(.ptr 10 0)),(4,(ii v4)),(82,(.yld 0)),(83,(.agg [(ii aM),(ii aX),(.sl 7 0 1 (.ex 1))]))]⟩,⟨⟨65,0,true⟩,none,(.inRangeFunc 0::(Zc prog 93 [1,1,0,1,0] 1)),none,(Zy prog 93),Yj [(4,(.ptr 2 0)),(5,(.ptr 3 0)),(6,(.ptr 4 0))]⟩,⟨⟨25,0,true⟩,(Vk prog 52 [1,1,1,0,0] 3),(Zc prog 52 [1,1,1,0,0] 1),none,(Zy prog 9),Yj [(0,(.dat l0.length (Zz l0))),(11,(.agg [.nilf])),(13,(.sl 11 0 1 (.un 1)))]⟩],(y1k [(0,⟨.busy,none,65,Yj [(2,(.ptr 1 0)),(4,(.ptr 2 0)),(5,(.ptr 3 0)),(6,(.ptr 4 0))],[15],(Wc prog 93 [1,1,0,1,0,0]),(Wc prog 93 [1,1,0,1,0,1])⟩)])⟩) 37 [] ⟨[0,1,2,3,4,12,13,10,5,6,7,8],[11],[some [2,4,5,6,7,20],some [0,1,2,4,82,83],some [4,5,6],some [0,11,13]],[some [2,4,5,6],none,none,none,none,none,none,none,none,none,none,none]⟩ ⟨[(20,.frz aA.length aA.length (Zz aA) (Zz aA))],[.keep,.keep,.keep,.keep,.keep,.keep,.keep,.cells [.frz aA.length aA.length (Zz aA) (Zz aA)],.keep,.keep,.keep,.keep],[]⟩ (bl 2 0) (pp (xZ (z1o 4 4 0 aA.length aA.length (Zz aA)) aA.length (Zz aA)) (pp (xL aA.length aA.length) (pp (xS aA.length (Zz aA) (Zz aA)) (pp (xZ (z1o 4 4 0 aA.length aA.length (Zz aA)) aA.length (Zz aA)) (pp (xL aA.length aA.length) (pp (xS aA.length (Zz aA) (Zz aA)) (pp (fl aF (fl aH nn)) (pp (fl aA nn) (tt k0 nn)))))))))) (lo fun aI=>(lb (fun k1=>(lr 25 52 [1,1,1,0,1,1,0,0] 1 9 [(2,(ii 8))] (sl Vf 67 [] ⟨[],[],[some [2]],[]⟩ ⟨[],[],[]⟩ (bl 8 254) (tt k1 (tt k1 (pp (pp (xr aA) (xw aI)) nn)))))) (fun k1=>(lb (fun k2=>(lb (fun k3=>(lo fun bU=>(lb (fun k4=>(sl Vf 75 [] ⟨[4,5,0,1,2,3,8,9,10,11,7],[],sckN5,sckM5⟩ ⟨[],[],[]⟩ (bl 15 32764) (pp (fl aF (fl aH nn)) (tt k4 (pp (pp (xr aN) (pp (xI R4 (Zm (cvT aA)).length (Zz (Zm (cvT aA)))) (xw bU))) (tt k3 (tt k2 (tt k1 (pp (pp (xr aA) (xw aI)) nn))))))))) (fun k4=>(sl Vf 95 [] ⟨[4,0,1,2,3,8,9,10,11,7,5],[],v8f,v8h⟩ ⟨[],[],[]⟩ (bl 15 16380) (pp (fl aH (fl aF nn)) (tt k4 (pp (pp (xr aN) (pp (xI R4 (Zm (cvT aA)).length (Zz (Zm (cvT aA)))) (xw bU))) (tt k3 (tt k2 (tt k1 (pp (pp (xr aA) (xw aI)) nn)))))))))))) (fun k3=>(sl Vf 95 [] ⟨[4,0,1,2,3,8,9,10,11,7,5],[],v8f,v8h⟩ ⟨[],[],[]⟩ (bl 15 252) (pp (fl aH (fl aF nn)) (tt k3 (tt k2 (tt k1 (pp (pp (xr aA) (xw aI)) nn))))))))) (fun k2=>(sl Vf 95 [] ⟨[4,0,1,2,3,8,9,10,11,7,5],[],v8f,v8h⟩ ⟨[],[],[]⟩ (bl 15 0) (pp (fl aH (fl aF nn)) (tt k2 (tt k1 (pp (pp (xr aA) (xw aI)) nn)))))))))))))
 | .h4 v1 v2 v72 v73 v74 bJ aV aD bB bA aE aH aM=>(lb (fun k0=>(lo fun o0=>(lo fun o1=>(sl Vf 23 [] ⟨[0,1,2,3,4,5,6,7,8,9,13],[],v8f,v8h⟩ ⟨[],[.cells [.len (y8b aD v72 v74 v1 v2).length,.keep,.keep,.keep],.keep,.keep,.keep,.keep,.keep,.keep,.keep,.keep,.keep,.rowed 6 (y8b aD v72 v74 v1 v2).length (Zz (y8b aD v72 v74 v1 v2))],[]⟩ [true] (pp (xL (aD.length+1) (y8b aD v72 v74 v1 v2).length) (pp (xL (aD.length+1) (y8b aD v72 v74 v1 v2).length) (pp (xS (aD.length+1) (Zh (Zz aD) 0 aD.length 6 [(ii (rd v72 (tn v74)).a),(ii (rd v72 (tn v74)).b),(ii v1),(ii (rd v72 (tn v74)).c),(ii (rd v72 (tn v74)).d),(ii v2)]) (Zz (y8b aD v72 v74 v1 v2))) (pp (fl aH (pp (xF (Zh (Zz aD) 0 aD.length 6 [(ii (rd v72 (tn v74)).a),(ii (rd v72 (tn v74)).b),(ii v1),(ii (rd v72 (tn v74)).c),(ii (rd v72 (tn v74)).d),(ii v2)])) nn)) (ww o1 (ww o0 (tt k0 nn))))))))))) (fun k0=>(sl Vf 22 [] ⟨[1,2,3,4,0,5,6,7,8,10],[],j0d,j0f⟩ ⟨[],[],[]⟩ (bl 2 0) (pp (fl aH (fl aD nn)) (tt k0 nn)))))
 | .h5 v2 v8 bR bJ aV aD bB bA bN bG bM aA=>(lb (fun k0=>(lo fun o0=>(lo fun o1=>(sl Vf 34 [] ⟨(List.range 11),[],sckN5,sckM5⟩ ⟨[],[.cells [.len (y8e aD v8 v2).length,.keep,.keep,.keep],.rowed 6 (y8e aD v8 v2).length (Zz (y8e aD v8 v2)),.keep,.keep,.keep,.keep,.keep,.keep,.keep,.keep,.keep],[]⟩ [true] (pp (xL aD.length (y8e aD v8 v2).length) (pp (xL aD.length (y8e aD v8 v2).length) (pp (xS aD.length (Yt (Zz aD) (0+(tn v8)) 5 [(ii v2)]) (Zz (y8e aD v8 v2))) (pp (pp (xF (Yt (Zz aD) (0+(tn v8)) 5 [(ii v2)])) (fl bM nn)) (ww o1 (ww o0 (tt k0 nn))))))))))) (fun k0=>(sl Vf 36 [] ⟨[2,3,4,5,0,6,7,8,9,1],[],j0d,j0f⟩ ⟨[],[],[]⟩ (bl 2 0) (pp (fl bM (fl aD nn)) (tt k0 nn)))))
theorem x7a (l0:List R6):Xy prog (Zy prog 52) (sckC l0) (Zg prog 52 [(.dat l0.length (Zz l0))] true []) (y2d l0):=(lb (fun k0=>(lr 25 52 [1,0,1,0,0] 1 9 [(2,(ii 4))] (sl Vf 16 [] ⟨[],[],[some [2]],[]⟩ ⟨[],[],[]⟩ [true] (tt k0 nn)))) (fun k0=>(sl Vf 40 [] ⟨[],[],sckN0,sckM0⟩ ⟨[],[],[]⟩ [false] (tt k0 nn))))
theorem v8d (l0:List R6) (n:Nat) (vs:List AVal) (h:Zr (Xp l0) n (y2d l0)=.ret vs):Uz prog (Zy prog 52) (Zg prog 52 [(.dat l0.length (Zz l0))] true []) vs:=by have:=Zd (w6g l0) n _ (x7a l0);rwa [h] at this
theorem x8k (l:List R4):(Zm l).length ≤400:=by
 grind [Zm]
def D6 :Dim R6 R4:=⟨R6.c,R6.f,fun r=>⟨r.a,r.b,r.d,r.e⟩,fun x x' s=>⟨s.a,s.b,x,s.c,s.d,x'⟩,fun x r=>⟨r.a,r.b,r.c,r.d,r.e,x⟩,Zm,Vw⟩
theorem u8l (l:List R6) (x:Int):(D6.sec l x).length ≤1000:=AE (x8k _) (by omega)
def sckErr :List AVal:=[.int .i64 8]
def x3g (l out:List R6):List AVal:=bif decide ((out.length:Int)>400) then [.int .i64 8] else bif Ke out l then [.int .i64 0] else [.int .i64 8]
def v0g (l:List R6) (x:Int):Bool:=Yo (D6.inn l x) != 0
def okF (l:List R6):Nat→Nat→Bool
 | 0,_=>true
 | k+1,i=>bif v0g l (rd (D6.cuts l) i) then false else okF l k (i+1)
section
variable (l:List R6) (hl:l.length≤400)
include hl
theorem u4l (i:Nat) (out:List R6) (last:List R4) (first fin x x':Int): ∀(k j:Nat) (acc:List R4),j+k=l.length→acc.length≤j→
  ∃n,∀N,Zr (Xp l) (N+n) (.to (.h3 (i:Int) (j:Int) out last first fin ((D6.cuts l).length) (Wd (Xr (D6.ends l))) x x' acc))=Zr (Xp l) N (.to (.h3 (i:Int) (l.length:Int) out last first fin ((D6.cuts l).length) (Wd (Xr (D6.ends l))) x x' (acc++D6.inn (l.drop j) x)))
 | 0,j,acc,h,ha=>by refine ⟨0,fun N=> ?_⟩;rw [As (by omega),show D6.inn ([]:List R6) x=[] from rfl,AB,Bh,show j=l.length by omega]
 | k+1,j,acc,h,ha=>by
  have hj:j<l.length:=by omega
  obtain ⟨n,hn⟩:=u4l i out last first fin x x' k (j+1) (acc++D6.inn [rd l j] x) (by omega) (by have:=D6.inn_length [rd l j] x;grind)
  refine ⟨n+1,fun N=> ?_⟩;have e:D6.inn (l.drop j) x=D6.inn [rd l j] x++D6.inn (l.drop (j+1)) x:=by rw [Yg hj,←D6.inn_append];rfl
  rw [e,←AG,Zw,←AI,←hn N];by_cases h1:D6.lo (rd l j)≤x
  ·by_cases h2:x<D6.hi (rd l j)
   ·rw [D6.inn_t _ _ h1 h2];simp only [D6] at h1 h2 ⊢;simp (disch:=omega) only [Xp,Xo,Zb,Zp,Zs,Zn,Ya,Yv,Yu,Ze,Zj,Zx,Yp,Zk,Af,Ao,Ah,Ai,Ab,Aa]
   ·rw [D6.inn_f2 _ _ h2,AB];simp only [D6] at h1 h2;simp (disch:=omega) only [Xp,Xo,Yb,Zb,Zp,Zs,Zn,Ya,Yv,Yu,Ze,Zj,Zx,Yp,Zk,Af,Ao,Ah,Ai,Ab,Aa]
  ·rw [D6.inn_f1 _ _ h1,AB];simp only [D6] at h1;simp (disch:=omega) only [Xp,w0y,Zb,Zp,Zs,Zn,Ya,Yv,Yu,Ze,Zj,Zx,Yp,Zk,Af,Ao,Ah,Ai,Ab,Aa]
theorem u4k (i:Nat) (hi:i≤1000) (x x':Int) (s last:List R4) (first:Int) (inn:List R4) (hs:s.length≤1000): ∀(k j:Nat) (out:List R6),j+k=s.length→out.length≤10000000+j→
  ∃n,∀N,Zr (Xp l) (N+n) (.to (.h4 x x' s (s.length:Int) (j:Int) s (i:Int) out last first ((D6.cuts l).length) (Wd (Xr (D6.ends l))) inn))=Zr (Xp l) N (.to (.h2 ((i+1:Nat):Int) (out++(s.drop j).map (D6.put x x')) last first x' ((D6.cuts l).length) (Wd (Xr (D6.ends l)))))
 | 0,j,out,h,ho=>by
  have _u:=hl;refine ⟨1,fun N=> ?_⟩
  grind [Zw,Xp,Zj]
 | k+1,j,out,h,ho=>by
  obtain ⟨n,hn⟩:=u4k i hi x x' s last first inn hs k (j+1) (out++[D6.put x x' (rd s j)]) (by omega) (by simp;omega)
  refine ⟨n+1,fun N=> ?_⟩;have:=hn N;rw [Yg (show j<s.length by omega),A2,←AG,Zw];simp (disch:=omega) only [Xp,Zb,Zp,Zs,Zn,Ya,Yv,Yu,Ze,Zj,Zx,Yp,Zk,Af,Ao,Ah,Ai,Ab,Aa];rw [AI] at this;exact this
theorem u4j (i:Nat) (hi:i≤1000) (x x' fin:Int) (s last:List R4) (first:Int) (inn:List R4): ∀(k j:Nat) (out:List R6),j+k=out.length→out.length≤10000000→
  ∃n,∀N,Zr (Xp l) (N+n) (.to (.h5 x' (j:Int) x s (i:Int) out last first fin ((D6.cuts l).length) (Wd (Xr (D6.ends l))) inn))=Zr (Xp l) N (.to (.h2 ((i+1:Nat):Int) (D6.grow out j x') last first x' ((D6.cuts l).length) (Wd (Xr (D6.ends l)))))
 | 0,j,out,h,ho=>by
  have _u:=hl;refine ⟨1,fun N=> ?_⟩;rw [D6.grow_nil _ _ _ (by omega),Zw]
  grind [Xp,Zj]
 | k+1,j,out,h,ho=>by
  obtain ⟨n,hn⟩:=u4j i hi x x' fin s last first inn k (j+1) (out.set j (D6.ext x' (rd out j))) (by simp;omega) (by grind)
  refine ⟨n+1,fun N=> ?_⟩;have:=hn N;rw [D6.grow_set out j _ (by omega)] at this;rw [←AG,Zw];simp (disch:=omega) only [Xp,Zb,Zp,Zs,Zn,Ya,Yv,Yu,Ze,Zj,Zx,Yp,Zk,Af,Ao,Ah,Ai,Ab,Aa];exact this
theorem v1q : ∀(k i:Nat) (s:Sw R6 R4),k=(D6.cuts l).length - 1 - i→i≤(D6.cuts l).length →s.out.length≤i*1000→s.last.length≤1000→s.first≤s.out.length→
  ∃n,Zr (Xp l) n (.to (.h2 ((i+1:Nat):Int) s.out s.last (s.first:Int) s.fin ((D6.cuts l).length) (Wd (Xr (D6.ends l)))))=.ret ((bif okF l k i then x3g l (D6.go l k i s).out else sckErr))
 | 0,i,s,h,hi,ho,hla,hf=>by
  have hc:=D6.cuts_length l;refine ⟨1,?_⟩;rw [Zw,show D6.go l 0 i s=s from rfl,show okF l 0 i=true from rfl,Ab];unfold x3g;by_cases q:(s.out.length:Int)>400
  ·grind [Xp,Zq]
  ·have e:lst R6 s.out.length (fun k=>(Zz s.out) k)=s.out:=Zp s.out;have w:Vn s.out l=true:=Al (by omega);have f:z0q (Zz s.out)=true:=Xa _;rcases Yy (Ke s.out l) with q2 | q2 <;>
   simp (disch:=omega) only [Xp,Zb,e,w,f,q2,Yb,Xi,Ya,Yp,Af,Aw,Ay,Ah,Ab,Aa,Zq]
 | k +1,i,s,h,hi,ho,hla,hf=>by
  have hc:=D6.cuts_length l;have hi1:i+1<(D6.cuts l).length :=by omega
  have hpl:(Wd (Xr (D6.ends l))).length =2*l.length:=by rw [Jf,Jz,D6.ends_length]
  have r0:rd (Wd (Xr (D6.ends l))) i=rd (D6.cuts l) i:=z5r _ _ (by show i<(D6.cuts l).length;omega);have r1:rd (Wd (Xr (D6.ends l))) (i+1)=rd (D6.cuts l) (i+1):=z5r _ _ (by show i+1<(D6.cuts l).length;omega);have hbig:i*1000≤1000*1000:=AC _ (by omega);have hsl:=u8l l (rd (D6.cuts l) i);have hsd:D6.sec l (rd (D6.cuts l) i)=Zm (D6.inn l (rd (D6.cuts l) i)):=rfl;obtain ⟨n3,h3⟩:=u4l l hl (i+1) s.out s.last (s.first:Int) s.fin (rd (D6.cuts l) i) (rd (D6.cuts l) (i+1)) l.length 0 [] (Af _) (Aq _);simp only [AT,A8,z2b] at h3;have w1:Uu (D6.inn l (rd (D6.cuts l) i))=true:=rfl;have w2:Xs s.last (Zm (D6.inn l (rd (D6.cuts l) i)))=true:=Al (by omega);have ol:=D6.one_length l (rd (D6.cuts l) i) (rd (D6.cuts l) (i+1)) s;have st0: ∀N,Zr (Xp l) (N+n3+1) (.to (.h2 ((i+1:Nat):Int) s.out s.last (s.first:Int) s.fin ((D6.cuts l).length) (Wd (Xr (D6.ends l)))))=Zr (Xp l) N (.to (.h3 ((i+1:Nat):Int) (l.length:Int) s.out s.last (s.first:Int) s.fin ((D6.cuts l).length) (Wd (Xr (D6.ends l))) (rd (D6.cuts l) i) (rd (D6.cuts l) (i+1)) (D6.inn l (rd (D6.cuts l) i)))):=fun N=>by
   rw [←h3 N,Zw];have e1:wrap .i64 (((i+1:Nat):Int) - 1)=(i:Int):=by rw [Zo];exact Zj (by omega)
   simp (disch:=omega) only [Xp,e1,r0,r1,Zb,Zp,Zs,Zn,Ya,Yv,Yu,Ze,Zj,Zx,Yp,Zk,Af,Ao,Ah,Ai,Ab,Aa]
  rcases Yy (v0g l (rd (D6.cuts l) i)) with q0 | q0
  ·refine ⟨1+n3+1,?_⟩;rw [st0 1,Zw];simp only [okF,q0,Ab,Aa];have q0':(Yo (D6.inn l (rd (D6.cuts l) i)) != 0)=true:=q0;simp (disch:=omega) only [Xp,Zb,Zp,Yb,q0',w1,Ab,Aa,Zq];rfl
  have q0':(Yo (D6.inn l (rd (D6.cuts l) i)) != 0)=false:=q0;rcases Yy (decide (0<(D6.sec l (rd (D6.cuts l) i)).length)&&((s.fin == rd (D6.cuts l) i)&&D6.same s.last (D6.sec l (rd (D6.cuts l) i)))) with q | q
  ·obtain ⟨n5,h5⟩:=u4j l hl (i+1) (by omega) (rd (D6.cuts l) i) (rd (D6.cuts l) (i+1)) s.fin (D6.sec l (rd (D6.cuts l) i)) s.last (s.first:Int) (D6.inn l (rd (D6.cuts l) i)) (s.out.length - s.first) s.first s.out (by omega) (by omega)
   have e:D6.one l (rd (D6.cuts l) i) (rd (D6.cuts l) (i+1)) s=⟨D6.grow s.out s.first (rd (D6.cuts l) (i+1)),s.last,s.first,rd (D6.cuts l) (i+1)⟩:=by unfold Dim.one;rw [q];rfl
   obtain ⟨n0,h0⟩:=v1q k (i+1) (D6.one l (rd (D6.cuts l) i) (rd (D6.cuts l) (i+1)) s) (by omega) (by omega) (by omega) (by grind) (by grind [Dim.grow_length]);refine ⟨n0+n5+1+n3+1,?_⟩;rw [st0 (n0+n5+1),Zw];simp only [Ac,At] at q;obtain ⟨q1,q2,q3⟩:=q;have q3':Vw s.last (Zm (D6.inn l (rd (D6.cuts l) i)))=true:=q3
   grind [Xp,Zb,okF,Dim.go]
  ·obtain ⟨n4,h4⟩:=u4k l hl (i+1) (by omega) (rd (D6.cuts l) i) (rd (D6.cuts l) (i+1)) (D6.sec l (rd (D6.cuts l) i)) (D6.sec l (rd (D6.cuts l) i)) (s.out.length:Int) (D6.inn l (rd (D6.cuts l) i)) hsl (D6.sec l (rd (D6.cuts l) i)).length 0 s.out (Af _) (by omega);simp only [AT,z2b] at h4;have e:D6.one l (rd (D6.cuts l) i) (rd (D6.cuts l) (i+1)) s=⟨s.out++(D6.sec l (rd (D6.cuts l) i)).map (D6.put (rd (D6.cuts l) i) (rd (D6.cuts l) (i+1))),D6.sec l (rd (D6.cuts l) i),s.out.length,rd (D6.cuts l) (i+1)⟩:=by unfold Dim.one;rw [q];rfl
   obtain ⟨n0,h0⟩:=v1q k (i+1) (D6.one l (rd (D6.cuts l) i) (rd (D6.cuts l) (i+1)) s) (by omega) (by omega) (by omega) (by grind) (by rw [e];simp);have hg:Zr (Xp l) 1 (.to (.h3 ((i+1:Nat):Int) (l.length:Int) s.out s.last (s.first:Int) s.fin ((D6.cuts l).length) (Wd (Xr (D6.ends l))) (rd (D6.cuts l) i) (rd (D6.cuts l) (i+1)) (D6.inn l (rd (D6.cuts l) i))))=.to (.h4 (rd (D6.cuts l) i) (rd (D6.cuts l) (i+1)) (D6.sec l (rd (D6.cuts l) i)) ((D6.sec l (rd (D6.cuts l) i)).length :Int) 0 (D6.sec l (rd (D6.cuts l) i)) ((i+1:Nat):Int) s.out (D6.sec l (rd (D6.cuts l) i)) (s.out.length:Int) ((D6.cuts l).length) (Wd (Xr (D6.ends l))) (D6.inn l (rd (D6.cuts l) i))):=by
    rw [show (1:Nat)=0+1 from rfl,Zw];rw [hsd] at q ⊢;have e3:D6.same s.last (Zm (D6.inn l (rd (D6.cuts l) i)))=Vw s.last (Zm (D6.inn l (rd (D6.cuts l) i))):=rfl;rw [e3] at q;by_cases q1:0<(Zm (D6.inn l (rd (D6.cuts l) i))).length
    ·rw [Al q1,Ai] at q;rcases Yy (s.fin == rd (D6.cuts l) i) with q2 | q2
     ·rw [q2,Ai] at q;simp (disch:=omega) only [Xp,Zb,Zp,Yb,Yn,q0',q2,q,w1,w2,Ab,Aa];rfl
     ·simp (disch:=omega) only [Xp,Zb,Zp,Yb,Yn,q0',q2,w1,w2,Ab,Aa];rfl
    ·simp (disch:=omega) only [Xp,Zb,Zp,Yb,Xi,q0',w1,w2,Ab,Aa];rfl
   refine ⟨n0+n4+1+n3+1,?_⟩;simp_all [z4k,okF,Dim.go]
theorem u4m : ∀(k i:Nat) (acc:List Int),i+k=l.length→acc=D6.ends (l.take i)→ ∃n,Zr (Xp l) n (.to (.h1 (i:Int) acc))=.ret ((bif okF l ((D6.cuts l).length - 1) 0 then x3g l (D6.go l ((D6.cuts l).length - 1) 0 ⟨[],[],0,0⟩).out else sckErr))
 | 0,i,acc,h,ha=>by
  have e:acc=D6.ends l:=by grind
  subst e;have hle:=D6.ends_length l;obtain ⟨n,hn⟩:=v1q l hl ((D6.cuts l).length - 1) 0 ⟨[],[],0,0⟩ (by omega) (AA _) (AA _) (AA _) (AA _);refine ⟨n+1,?_⟩;rw [Zw];simp (disch:=omega) only [Xp,Ks,z1v,y6c,Yb,Yv,Yu,Ao,Ab,Aa];exact hn
 | k+1,i,acc,h,ha=>by
  have hle:=D6.ends_length (l.take i);have fM:acc.length≤2*i:=by grind
  obtain ⟨n,hn⟩:=u4m k (i+1) (acc++D6.ends [rd l i]) (by omega) (by
   rw [ha,A0];have:l[i]? =some (rd l i):=by grind [Xz]
   rw [this,D6.ends_append];rfl)
  refine ⟨n+1,?_⟩;rw [Zw];simp (disch:=omega) only [Xp,Zb,Zp,Zs,Zn,Ya,Yv,Yu,Ze,Zj,Zx,Yp,Zk,Af,Ao,Ah,Ai,Ab,Aa];exact hn
theorem u4n : ∀(k i:Nat),i+k=l.length→(∀s∈l.take i,Kv s=true)→ ∃n,Zr (Xp l) n (.to (.h0 (i:Int)))=.ret (bif l.all Kv then (bif okF l ((D6.cuts l).length - 1) 0 then x3g l (D6.go l ((D6.cuts l).length - 1) 0 ⟨[],[],0,0⟩).out else sckErr) else sckErr)
 | 0,i,h,ht=>by
  have hv:l.all Kv=true:=Ar.2 fun s hs=>ht s (by grind);obtain ⟨n,hn⟩:=u4m l hl l.length 0 [] (Af _) rfl;refine ⟨n+1,?_⟩
  grind [Zw,Xp]
 | k+1,i,h,ht=>by
  have hi:i<l.length:=by omega
  have hs:Xp l (.h0 (i:Int))=bif Kv (rd l i) then .to (.h0 ((i+1:Nat):Int)) else .ret sckErr:=by have e:u8o (rd l i).a (rd l i).b (rd l i).c (rd l i).d (rd l i).e (rd l i).f =Kv (rd l i):=rfl;simp (disch:=omega) only [Xp,e,y0e,x5g,w5a,Zn,Zj,Zx,Zk,Ah,Ab,Aa];rfl
  rcases Yy (Kv (rd l i)) with q | q
  ·obtain ⟨n,hn⟩:=u4n k (i+1) (by omega) (fun s hs=>by
    rw [A0] at hs
    grind [Xz])
   refine ⟨n+1,?_⟩
   grind [Zw]
  ·have hv:l.all Kv=false:=AZ.2 fun e=>by
    grind [Xz]
   refine ⟨1,?_⟩
   grind [Zw,Zq]
end
def Yx (l:List R6):Int:=bif decide (400<l.length) then 4 else bif l.all Kv then (bif okF l ((D6.cuts l).length - 1) 0 then (bif decide (((D6.out l).length :Int)>400) then 8 else bif Ke (D6.out l) l then 0 else 8) else 8) else 8
def v1s (l:List R6):Bool:=true
theorem j0b (l:List R6): ∃n,Zr (Xp l) n (y2d l)=.ret [.int .i64 (Yx l)]:=by
 unfold y2d Yx;by_cases h:400<l.length
 ·refine ⟨0,?_⟩;rw [Al h,Yn (show (l.length:Int)>400 by omega)];rfl
 ·obtain ⟨n,hn⟩:=u4n l (by omega) l.length 0 (Af _) (fun s hs=>by simp at hs);refine ⟨n,?_⟩;rw [Az h,Xi (show ¬(l.length:Int)>400 by omega),Aa,Aa];rw [z2b] at hn;rw [hn];unfold sckErr x3g;cases l.all Kv <;> simp only [Ab,Aa];cases okF l ((D6.cuts l).length - 1) 0 <;> simp only [Ab,Aa];show Xx.ret (bif decide (((D6.out l).length :Int)>400) then _ else bif Ke (D6.out l) l then _ else _)=_
  grind
def fSck :List AVal→Option (AVal×Bool)
 | [a1]=>match asL R6 a1 with
  | some (L1,g1,n1)=>some (.int .i64 (Yx L1),isT R6 n1 g1&&v1s L1)
  | _=>none
 | _=>none
theorem j4b {S:Specs} (hS:Zv prog S):Zv prog (S.with x4j fSck):=by
 refine Qe hS (by kernel_rfl) fun args v h=> ?_;unfold fSck at h;split at h
 ·rename_i a1;split at h
  ·rename_i L1 g1 n1 e1;simp only [Ae,Ad,Ac] at h;obtain ⟨rfl,ho1,hw⟩:=h;obtain ⟨N,hN⟩:=j0b L1;exact ⟨_,_,(.cons (Yc e1 ho1) .nil),rfl,v8d L1 N _ hN,3,rfl⟩
  ·cases h
 ·cases h
def T8 :Specs:=T7v.with x4j fSck
theorem z0w :Zv prog T8:=j4b Vf
def Vi (l:List R6):Bool:=true
def Vs (l:List R6):Bool:=true
inductive rchkS where
 | h0 (v3:Int)
def j2f (l0:List R6):rchkS→Cfg
 | .h0 v3=>⟨⟨34,0,true⟩,none,(Zc prog 59 [1,1,0,1,0,0] 0),none,(Zy prog 9),⟨Yj [(0,(.dat l0.length (Zz l0))),(3,(ii v3))],Wn [] 0,0,[],true⟩,[],.leaf⟩
def u6n :List (Option (List Nat)):=[some [0,3]]
def u6o :List (Option (List Nat)):=[]
def z1a (l0:List R6):rchkS→Xx rchkS
 | .h0 v3=>(bif (decide (v3<(l0.length:Int))) then (bif ((decide (0≤v3∧v3<(l0.length:Int)))&&true) then (bif (decide ((rd l0 v3.toNat).a ≥(-1000000))) then (bif (decide ((rd l0 v3.toNat).b ≥(-1000000))) then (bif (decide ((rd l0 v3.toNat).c ≥(-1000000))) then (bif (decide ((rd l0 v3.toNat).a ≤1000000)) then (bif (decide ((rd l0 v3.toNat).b ≤1000000)) then (bif (decide ((rd l0 v3.toNat).c ≤1000000)) then (bif (decide ((rd l0 v3.toNat).d ≥(-1000000))) then (bif (decide ((rd l0 v3.toNat).e ≥(-1000000))) then (bif (decide ((rd l0 v3.toNat).f ≥(-1000000))) then (bif (decide ((rd l0 v3.toNat).d ≤1000000)) then (bif (decide ((rd l0 v3.toNat).e ≤1000000)) then (bif (decide ((rd l0 v3.toNat).f ≤1000000)) then (bif (decide ((rd l0 v3.toNat).a <(rd l0 v3.toNat).d)) then (bif (decide ((rd l0 v3.toNat).b <(rd l0 v3.toNat).e)) then (bif (!(decide ((rd l0 v3.toNat).c <(rd l0 v3.toNat).f))) then (.ret [(.int .i64 8)]) else (.to (.h0 (wrap .i64 (v3+1))))) else (.ret [(.int .i64 8)])) else (.ret [(.int .i64 8)])) else (.ret [(.int .i64 8)])) else (.ret [(.int .i64 8)])) else (.ret [(.int .i64 8)])) else (.ret [(.int .i64 8)])) else (.ret [(.int .i64 8)])) else (.ret [(.int .i64 8)])) else (.ret [(.int .i64 8)])) else (.ret [(.int .i64 8)])) else (.ret [(.int .i64 8)])) else (.ret [(.int .i64 8)])) else (.ret [(.int .i64 8)])) else (.ret [(.int .i64 8)])) else .stuck) else (bif (z0c 2 (cvT l0) ([]:List R6)) then (bif (!(z0p 2 (cvT l0) ([]:List R6))) then (.ret [(.int .i64 8)]) else (bif (Vn (cvT (Jg 2 (cvT l0) ([]:List R6))) (cvT l0)) then (bif (!(Ke (cvT (Jg 2 (cvT l0) ([]:List R6))) (cvT l0))) then (.ret [(.int .i64 8)]) else (.ret [(.int .i64 0)])) else .stuck)) else .stuck))
def z7w (l0:List R6):Xx rchkS:=(bif (decide ((l0.length:Int)>400)) then (.ret [(.int .i64 4)]) else (.to (.h0 0)))
theorem x8s (l0:List R6): ∀s,Xy prog (Zy prog 59) (j2f l0) (j2f l0 s) (z1a l0 s)
 | .h0 v3=>(lb (fun k0=>(lo fun aI=>(lb (fun k1=>(lb (fun k2=>(lb (fun k3=>(lb (fun k4=>(lb (fun k5=>(lb (fun k6=>(lb (fun k7=>(lb (fun k8=>(lb (fun k9=>(lb (fun k10=>(lb (fun k11=>(lb (fun k12=>(lb (fun k13=>(lb (fun k14=>(lb (fun k15=>(lr 34 59 [1,1,0,1,0,0,1,0,0,1,0,0] 1 9 [(2,(ii 8))] (sl z0w 158 [] ⟨[],[],[some [2]],[]⟩ ⟨[],[],[]⟩ (trs 60 []) (tt k15 (tt k14 (tt k13 (tt k12 (tt k11 (tt k10 (tt k9 (tt k8 (tt k7 (tt k6 (tt k5 (tt k4 (tt k3 (tt k2 (tt k1 (ww aI (tt k0 nn)))))))))))))))))))) (fun k15=>(sl z0w 162 [] ⟨[],[],u6n,u6o⟩ ⟨[],[],[]⟩ (trs 59 [false]) (tt k15 (tt k14 (tt k13 (tt k12 (tt k11 (tt k10 (tt k9 (tt k8 (tt k7 (tt k6 (tt k5 (tt k4 (tt k3 (tt k2 (tt k1 (ww aI (tt k0 nn))))))))))))))))))))) (fun k14=>(lr 34 59 [1,1,0,1,0,0,1,0,0,1,0,0] 1 9 [(2,(ii 8))] (sl z0w 158 [] ⟨[],[],[some [2]],[]⟩ ⟨[],[],[]⟩ (trs 52 (bl 8 128)) (tt k14 (tt k13 (tt k12 (tt k11 (tt k10 (tt k9 (tt k8 (tt k7 (tt k6 (tt k5 (tt k4 (tt k3 (tt k2 (tt k1 (ww aI (tt k0 nn))))))))))))))))))))) (fun k13=>(lr 34 59 [1,1,0,1,0,0,1,0,0,1,0,0] 1 9 [(2,(ii 8))] (sl z0w 158 [] ⟨[],[],[some [2]],[]⟩ ⟨[],[],[]⟩ (trs 45 (bl 15 16384)) (tt k13 (tt k12 (tt k11 (tt k10 (tt k9 (tt k8 (tt k7 (tt k6 (tt k5 (tt k4 (tt k3 (tt k2 (tt k1 (ww aI (tt k0 nn)))))))))))))))))))) (fun k12=>(lr 34 59 [1,1,0,1,0,0,1,0,0,1,0,0] 1 9 [(2,(ii 8))] (sl z0w 158 [] ⟨[],[],[some [2]],[]⟩ ⟨[],[],[]⟩ (trs 38 (bl 22 2097152)) (tt k12 (tt k11 (tt k10 (tt k9 (tt k8 (tt k7 (tt k6 (tt k5 (tt k4 (tt k3 (tt k2 (tt k1 (ww aI (tt k0 nn))))))))))))))))))) (fun k11=>(lr 34 59 [1,1,0,1,0,0,1,0,0,1,0,0] 1 9 [(2,(ii 8))] (sl z0w 158 [] ⟨[],[],[some [2]],[]⟩ ⟨[],[],[]⟩ (trs 35 (bl 25 16777216)) (tt k11 (tt k10 (tt k9 (tt k8 (tt k7 (tt k6 (tt k5 (tt k4 (tt k3 (tt k2 (tt k1 (ww aI (tt k0 nn)))))))))))))))))) (fun k10=>(lr 34 59 [1,1,0,1,0,0,1,0,0,1,0,0] 1 9 [(2,(ii 8))] (sl z0w 158 [] ⟨[],[],[some [2]],[]⟩ ⟨[],[],[]⟩ (trs 32 (bl 28 134217728)) (tt k10 (tt k9 (tt k8 (tt k7 (tt k6 (tt k5 (tt k4 (tt k3 (tt k2 (tt k1 (ww aI (tt k0 nn))))))))))))))))) (fun k9=>(lr 34 59 [1,1,0,1,0,0,1,0,0,1,0,0] 1 9 [(2,(ii 8))] (sl z0w 158 [] ⟨[],[],[some [2]],[]⟩ ⟨[],[],[]⟩ (trs 29 (bl 31 1073741824)) (tt k9 (tt k8 (tt k7 (tt k6 (tt k5 (tt k4 (tt k3 (tt k2 (tt k1 (ww aI (tt k0 nn)))))))))))))))) (fun k8=>(lr 34 59 [1,1,0,1,0,0,1,0,0,1,0,0] 1 9 [(2,(ii 8))] (sl z0w 158 [] ⟨[],[],[some [2]],[]⟩ ⟨[],[],[]⟩ (trs 25 (bl 35 17179869184)) (tt k8 (tt k7 (tt k6 (tt k5 (tt k4 (tt k3 (tt k2 (tt k1 (ww aI (tt k0 nn))))))))))))))) (fun k7=>(lr 34 59 [1,1,0,1,0,0,1,0,0,1,0,0] 1 9 [(2,(ii 8))] (sl z0w 158 [] ⟨[],[],[some [2]],[]⟩ ⟨[],[],[]⟩ (trs 21 (bl 39 274877906944)) (tt k7 (tt k6 (tt k5 (tt k4 (tt k3 (tt k2 (tt k1 (ww aI (tt k0 nn)))))))))))))) (fun k6=>(lr 34 59 [1,1,0,1,0,0,1,0,0,1,0,0] 1 9 [(2,(ii 8))] (sl z0w 117 [] ⟨[],[],[some [2]],[]⟩ ⟨[],[],[]⟩ (trs 18 (bl 25 16777216)) (tt k6 (tt k5 (tt k4 (tt k3 (tt k2 (tt k1 (ww aI (tt k0 nn))))))))))))) (fun k5=>(lr 34 59 [1,1,0,1,0,0,1,0,0,1,0,0] 1 9 [(2,(ii 8))] (sl z0w 117 [] ⟨[],[],[some [2]],[]⟩ ⟨[],[],[]⟩ (trs 15 (bl 28 134217728)) (tt k5 (tt k4 (tt k3 (tt k2 (tt k1 (ww aI (tt k0 nn)))))))))))) (fun k4=>(lr 34 59 [1,1,0,1,0,0,1,0,0,1,0,0] 1 9 [(2,(ii 8))] (sl z0w 117 [] ⟨[],[],[some [2]],[]⟩ ⟨[],[],[]⟩ (trs 12 (bl 31 1073741824)) (tt k4 (tt k3 (tt k2 (tt k1 (ww aI (tt k0 nn))))))))))) (fun k3=>(lr 34 59 [1,1,0,1,0,0,1,0,0,1,0,0] 1 9 [(2,(ii 8))] (sl z0w 117 [] ⟨[],[],[some [2]],[]⟩ ⟨[],[],[]⟩ (trs 9 (bl 34 8589934592)) (tt k3 (tt k2 (tt k1 (ww aI (tt k0 nn)))))))))) (fun k2=>(lr 34 59 [1,1,0,1,0,0,1,0,0,1,0,0] 1 9 [(2,(ii 8))] (sl z0w 117 [] ⟨[],[],[some [2]],[]⟩ ⟨[],[],[]⟩ (trs 5 (bl 38 137438953472)) (tt k2 (tt k1 (ww aI (tt k0 nn))))))))) (fun k1=>(lr 34 59 [1,1,0,1,0,0,1,0,0,1,0,0] 1 9 [(2,(ii 8))] (sl z0w 117 [] ⟨[],[],[some [2]],[]⟩ ⟨[],[],[]⟩ (bl 43 4398046511105) (tt k1 (ww aI (tt k0 nn))))))))) (fun k0=>(lo fun aI=>(lb (fun k1=>(lr 34 59 [1,1,1,1,0,1,0,0] 1 9 [(2,(ii 8))] (sl z0w 37 [] ⟨[],[],[some [2]],[]⟩ ⟨[],[],[]⟩ (bl 6 62) (tt k1 (pp (pp (xr l0) (pp (xI R6 0 (fun _=>[])) (xw aI))) (tt k0 nn)))))) (fun k1=>(lo fun bS=>(lb (fun k2=>(lr 34 59 [1,1,1,1,0,1,0,0] 1 9 [(2,(ii 8))] (sl z0w 37 [] ⟨[],[],[some [2]],[]⟩ ⟨[],[],[]⟩ (bl 6 32) (tt k2 (pp (pp (xI R6 (Jg 2 (cvT l0) ([]:List R6)).length (Zz (Jg 2 (cvT l0) ([]:List R6)))) (pp (xr l0) (xw bS))) (tt k1 (pp (pp (xr l0) (pp (xI R6 0 (fun _=>[])) (xw aI))) (tt k0 nn)))))))) (fun k2=>(lr 34 3 [1,1,1,1,0] 1 9 [(2,(ii 0))] (sl z0w 38 [] ⟨[],[],[some [2]],[]⟩ ⟨[],[],[]⟩ (bl 6 0) (tt k2 (pp (pp (xI R6 (Jg 2 (cvT l0) ([]:List R6)).length (Zz (Jg 2 (cvT l0) ([]:List R6)))) (pp (xr l0) (xw bS))) (tt k1 (pp (pp (xr l0) (pp (xI R6 0 (fun _=>[])) (xw aI))) (tt k0 nn)))))))))))))))
theorem x3x (l0:List R6):Xy prog (Zy prog 59) (j2f l0) (Zg prog 59 [(.dat l0.length (Zz l0))] true []) (z7w l0):=(lb (fun k0=>(lr 34 59 [1,0,1,0,0] 1 9 [(2,(ii 4))] (sl z0w 16 [] ⟨[],[],[some [2]],[]⟩ ⟨[],[],[]⟩ [true] (tt k0 nn)))) (fun k0=>(sl z0w 20 [] ⟨[],[],u6n,u6o⟩ ⟨[],[],[]⟩ [false] (tt k0 nn))))
theorem v3j (l0:List R6) (n:Nat) (vs:List AVal) (h:Zr (z1a l0) n (z7w l0)=.ret vs):Uz prog (Zy prog 59) (Zg prog 59 [(.dat l0.length (Zz l0))] true []) vs:=by have:=Zd (x8s l0) n _ (x3x l0);rwa [h] at this
def x2y (r:R6):Bool:=decide (r.a≥ -1000000)&&(decide (r.b≥ -1000000)&&(decide (r.c≥ -1000000)&&(decide (r.a≤1000000)&&(decide (r.b≤1000000)&&(decide (r.c≤1000000)&&(decide (r.d≥ -1000000)&&(decide (r.e≥ -1000000)&&(decide (r.f≥ -1000000)&&(decide (r.d≤1000000)&&(decide (r.e≤1000000)&&(decide (r.f≤1000000)&&(decide (r.a<r.d)&&(decide (r.b<r.e)&&decide (r.c<r.f))))))))))))))
def rckF (l:List R6):Int:=bif z0p 2 l [] then (bif Ke (Jg 2 l []) l then 0 else 8) else 8
def Xm (l:List R6):Int:=bif decide (400<l.length) then 4 else bif l.all x2y then rckF l else 8
def v3h (l:List R6):Bool:=true
theorem y9j (k:Int) (l m:List R6):(Jg k l m).length ≤400∨z0p k l m=false:=by
 grind [Jg,z0p]
section
variable (l:List R6) (hl:l.length≤400)
include hl
theorem v3i : ∀(k i:Nat),i+k=l.length→(∀s∈l.take i,x2y s=true)→ ∃n,Zr (z1a l) n (.to (.h0 (i:Int)))=.ret [.int .i64 (bif l.all x2y then rckF l else 8)]
 | 0,i,h,ht=>by
  have hv:l.all x2y=true:=Ar.2 fun s hs=>ht s (by grind);have w1:z0c 2 l []=true:=u7r (by omega) (by simp);refine ⟨1,?_⟩;rw [Zw,hv,Ab];unfold rckF;rcases Yy (z0p 2 l []) with q | q
  ·have w2:Vn (Jg 2 l []) l=true:=Al (by
    grind [y9j])
   rcases Yy (Ke (Jg 2 l []) l) with q2 | q2 <;>
   simp (disch:=omega) only [z1a,Zb,Yb,q,q2,w1,w2,Aw,Ay,Ab,Aa,Zq]
  grind [z1a,Zb,Zq]
 | k+1,i,h,ht=>by
  have hi:i<l.length:=by omega
  have hs:z1a l (.h0 (i:Int))=bif x2y (rd l i) then .to (.h0 ((i+1:Nat):Int)) else .ret [.int .i64 8]:=by simp (disch:=omega) only [z1a,x2y,y0f,y0e,x5g,Zn,Zj,Zx,Zk,Ah,Ab,Aa]
  rcases Yy (x2y (rd l i)) with q | q
  ·obtain ⟨n,hn⟩:=v3i k (i+1) (by omega) (fun s hs=>by
    rw [A0] at hs
    grind [Xz])
   refine ⟨n+1,?_⟩
   grind [Zw]
  ·have hv:l.all x2y=false:=AZ.2 fun e=>by
    grind [Xz]
   refine ⟨1,?_⟩
   grind [Zw,Zq]
end
theorem u0e (l:List R6): ∃n,Zr (z1a l) n (z7w l)=.ret [.int .i64 (Xm l)]:=by
 unfold z7w Xm;by_cases h:400<l.length
 ·refine ⟨0,?_⟩;rw [Al h,Yn (show (l.length:Int)>400 by omega)];rfl
 ·obtain ⟨n,hn⟩:=v3i l (by omega) l.length 0 (Af _) (fun s hs=>by simp at hs)
  grind
def fRck :List AVal→Option (AVal×Bool)
 | [a1]=>match asL R6 a1 with
  | some (L1,g1,n1)=>some (.int .i64 (Xm L1),isT R6 n1 g1&&v3h L1)
  | _=>none
 | _=>none
theorem j4v {S:Specs} (hS:Zv prog S):Zv prog (S.with v4f fRck):=by
 refine Qe hS (by kernel_rfl) fun args v h=> ?_;unfold fRck at h;split at h
 ·rename_i a1;split at h
  ·rename_i L1 g1 n1 e1;simp only [Ae,Ad,Ac] at h;obtain ⟨rfl,ho1,hw⟩:=h;obtain ⟨N,hN⟩:=u0e L1;exact ⟨_,_,(.cons (Yc e1 ho1) .nil),rfl,v3j L1 N _ hN,3,rfl⟩
  ·cases h
 ·cases h
def T9 :Specs:=T8.with v4f fRck
theorem z5n :Zv prog T9:=j4v z0w
def pt (L:List R2) (y:Int):Prop:= ∃s∈L,s.a≤y∧y<s.b
structure Can (L:List R2):Prop where
 pos: ∀s∈L,s.a<s.b
 sep:L.Pairwise fun s t=>s.b<t.a
theorem Can.nil :Can []:=⟨by simp,.nil⟩
theorem Can.tail {s:R2} {L:List R2} (h:Can (s::L)):Can L:=⟨fun t ht=>h.pos t (List.mem_cons_of_mem _ ht),(A1.1 h.sep).2⟩
theorem Can.head {s:R2} {L:List R2} (h:Can (s::L)): ∀t∈L,s.b<t.a:=(A1.1 h.sep).1
theorem u8g {s:R2} {L:List R2} (h:Can (s::L)) {y:Int} (hy:pt (s::L) y):s.a≤y:=by
 obtain ⟨t,ht,h1,h2⟩:=hy;rcases AM.1 ht with rfl | ht
 ·exact h1
 ·have:=h.head t ht;have:=h.pos s (by simp);omega
theorem w5e : ∀(L M:List R2),Can L→Can M→(∀y,pt L y↔pt M y)→L=M
 | [],[],_,_,_=>rfl
 | [],t::M,_,hM,h=>by have:=(h t.a).2 ⟨t,by simp,Bb _,hM.pos t (by simp)⟩;obtain ⟨s,hs,_⟩:=this;cases hs
 | s::L,[],hL,_,h=>by have:=(h s.a).1 ⟨s,by simp,Bb _,hL.pos s (by simp)⟩;obtain ⟨s,hs,_⟩:=this;cases hs
 | s::L,t::M,hL,hM,h=>by
  have p1:=hL.pos s (by simp);have p2:=hM.pos t (by simp);have a1:t.a≤s.a:=u8g hM ((h s.a).1 ⟨s,by simp,Bb _,p1⟩);have a2:s.a≤t.a:=u8g hL ((h t.a).2 ⟨t,by simp,Bb _,p2⟩);have b1: ¬s.b<t.b:=fun hb=>by
   obtain ⟨u,hu,h1,h2⟩:=(h s.b).2 ⟨t,by simp,by omega,hb⟩;rcases AM.1 hu with rfl | hu
   ·omega
   ·have:=hL.head u hu;omega
  have b2: ¬t.b<s.b:=fun hb=>by
   obtain ⟨u,hu,h1,h2⟩:=(h t.b).1 ⟨s,by simp,by omega,hb⟩;rcases AM.1 hu with rfl | hu
   ·omega
   ·have:=hM.head u hu;omega
  have e:s=t:=by
   obtain ⟨sa,sb⟩:=s;obtain ⟨ta,tb⟩:=t;simp only at a1 a2 b1 b2;have:sa=ta:=by omega
   have:sb=tb:=by omega
   subst_vars;rfl
  subst e
  congr 1
  refine w5e L M hL.tail hM.tail fun y=>⟨fun hy=> ?_,fun hy=> ?_⟩
  ·obtain ⟨u,hu,h1,h2⟩:=hy;have g:=hL.head u hu;obtain ⟨v,hv,h3,h4⟩:=(h y).1 ⟨u,by simp [hu],h1,h2⟩;rcases AM.1 hv with rfl | hv
   ·omega
   ·exact ⟨v,hv,h3,h4⟩
  ·obtain ⟨u,hu,h1,h2⟩:=hy;have g:=hM.head u hu;obtain ⟨v,hv,h3,h4⟩:=(h y).2 ⟨u,by simp [hu],h1,h2⟩;rcases AM.1 hv with rfl | hv
   ·omega
   ·exact ⟨v,hv,h3,h4⟩
def push (out:List R2) (x x':Int):List R2:=
 bif decide (0<out.length)&&((rd out (out.length - 1)).b == x) then out.set (out.length - 1) ⟨(rd out (out.length - 1)).a,x'⟩ else out++[⟨x,x'⟩]
theorem v3m (out:List R2) (s:R2) (x x':Int):push (out++[s]) x x'=bif s.b == x then out++[⟨s.a,x'⟩] else out++[s]++[⟨x,x'⟩]:=by
 grind [rd,push]
theorem w3o {out:List R2} {x x':Int} (hc:Can out) (hb: ∀s∈out,s.b≤x) (hx:x<x'):
  Can (push out x x')∧(∀s∈push out x x',s.b≤x')∧ ∀y,pt (push out x x') y↔pt out y∨(x≤y∧y<x'):=by
 rcases List.eq_nil_or_concat out with rfl | ⟨L,s,rfl⟩
 ·refine ⟨⟨?_,?_⟩,?_,fun y=> ?_⟩;all_goals simp_all [push,pt]
 ·rw [List.concat_eq_append] at*;rw [v3m];have hs:=hb s (by simp);have hp:=hc.pos s (by simp);have sep:=BG.1 hc.sep;rcases Yy (s.b == x) with q | q
  ·rw [q,Ab];have q:s.b=x:=by simpa using q
   refine ⟨⟨?_,?_⟩,?_,fun y=> ?_⟩
   ·intro t ht;rcases AH.1 ht with ht | ht
    ·exact hc.pos t (by simp [ht])
    grind
   ·grind
   ·grind
   ·constructor
    ·rintro ⟨t,ht,h1,h2⟩;rcases AH.1 ht with ht | ht
     ·exact .inl ⟨t,by simp [ht],h1,h2⟩
     ·rw [BD.1 ht] at h1 h2;by_cases hy:y<s.b
      ·exact .inl ⟨s,by simp,h1,hy⟩
      grind
    ·rintro (⟨t,ht,h1,h2⟩ | ⟨h1,h2⟩)
     ·rcases AH.1 ht with ht | ht
      ·exact ⟨t,by simp [ht],h1,h2⟩
      ·rw [BD.1 ht] at h1 h2;exact ⟨⟨s.a,x'⟩,by simp,h1,by grind⟩
     ·exact ⟨⟨s.a,x'⟩,by simp,by grind,h2⟩
  ·rw [q,Aa];have q:s.b≠x:=by simpa using q
   refine ⟨⟨?_,?_⟩,?_,fun y=> ?_⟩
   ·intro t ht;rcases AH.1 ht with ht | ht
    ·exact hc.pos t ht
    grind
   ·grind
   ·grind
   ·constructor
    ·rintro ⟨t,ht,h1,h2⟩;rcases AH.1 ht with ht | ht
     ·exact .inl ⟨t,ht,h1,h2⟩
     grind
    ·rintro (⟨t,ht,h1,h2⟩ | ⟨h1,h2⟩)
     ·exact ⟨t,AH.2 (.inl ht),h1,h2⟩
     ·exact ⟨⟨x,x'⟩,by simp,h1,h2⟩
theorem y5g {l:List Int} (h:l.Pairwise (· < ·)) {i j:Nat} (hij:i<j) (hj:j<l.length):rd l i<rd l j:=by rw [Xz (by omega),Xz hj];exact Be.1 h i j (by omega) hj hij
theorem x2g (cuts:List Int) (ins:List Bool) (hc:cuts.Pairwise (· < ·)): ∀(k i:Nat) (out:List R2),i+k<cuts.length∨k=0→Can out→(∀s∈out,s.b≤rd cuts i)→
  Can (v0f cuts ins k i out)∧ ∀y,pt (v0f cuts ins k i out) y↔pt out y∨ ∃j,i≤j∧j<i+k∧rd ins j=true∧rd cuts j≤y∧y<rd cuts (j+1)
 | 0,i,out,h,ho,hb=>⟨ho,fun y=>⟨.inl,fun hy=>hy.elim id fun ⟨j,h1,h2,_⟩=>by omega⟩⟩
 | k +1,i,out,h,ho,hb=>by
  have hlt:rd cuts i<rd cuts (i+1):=y5g hc (BS _) (by omega);obtain ⟨p1,p2,p3⟩:=w3o ho hb hlt;have e:v0f cuts ins (k+1) i out=v0f cuts ins k (i+1) (bif rd ins i then push out (rd cuts i) (rd cuts (i+1)) else out):=rfl;rw [e];rcases Yy (rd ins i) with q | q
  ·rw [q,Ab];obtain ⟨r1,r2⟩:=x2g cuts ins hc k (i+1) (push out (rd cuts i) (rd cuts (i+1))) (by omega) p1 p2;refine ⟨r1,fun y=> ?_⟩;rw [r2,p3];constructor
   ·rintro ((h | h) | ⟨j,h1,h2,h3⟩)
    ·exact .inl h
    ·exact .inr ⟨i,Aq _,by omega,q,h⟩
    ·exact .inr ⟨j,by omega,by omega,h3⟩
   ·rintro (h | ⟨j,h1,h2,h3⟩)
    ·exact .inl (.inl h)
    ·rcases A3 h1 with rfl | h1
     ·exact .inl (.inr h3.2)
     ·exact .inr ⟨j,h1,by omega,h3⟩
  ·rw [q,Aa];obtain ⟨r1,r2⟩:=x2g cuts ins hc k (i+1) out (by omega) ho (fun s hs=>by have:=hb s hs;omega);refine ⟨r1,fun y=> ?_⟩;rw [r2];constructor
   ·rintro (h | ⟨j,h1,h2,h3⟩)
    ·exact .inl h
    ·exact .inr ⟨j,by omega,by omega,h3⟩
   ·rintro (h | ⟨j,h1,h2,h3⟩)
    ·exact .inl h
    ·rcases A3 h1 with rfl | h1
     ·rw [q] at h3;cases h3.1
     ·exact .inr ⟨j,h1,by omega,h3⟩
theorem w1k {cuts:List Int}: ∀(k:Nat),k<cuts.length→ ∀y,rd cuts 0≤y→y<rd cuts k→ ∃j,j<k∧rd cuts j≤y∧y<rd cuts (j+1)
 | 0,_,y,h1,h2=>by omega
 | k+1,hk,y,h1,h2=>by
  by_cases h:rd cuts k≤y
  ·exact ⟨k,BS _,h,h2⟩
  ·obtain ⟨j,h3,h4⟩:=w1k k (by omega) y h1 (by omega);exact ⟨j,by omega,h4⟩
theorem x2f (cuts:List Int) (hc:cuts.Pairwise (· < ·)) (P:Int→Bool) (S:List R2) (hS: ∀s∈S,s.a∈cuts∧s.b∈cuts) (hP: ∀y,P y=true↔pt S y):
  Can (y0d cuts (cuts.map P))∧ ∀y,pt (y0d cuts (cuts.map P)) y↔pt S y:=by
 obtain ⟨r1,r2⟩:=x2g cuts (cuts.map P) hc (cuts.length - 1) 0 [] (by omega) .nil (by simp);refine ⟨r1,fun y=> ?_⟩;unfold y0d;rw [r2];have hin: ∀x,x∈cuts→ ∃i,i<cuts.length∧rd cuts i=x:=fun x hx=>by obtain ⟨i,hi,h⟩:=AR hx;exact ⟨i,hi,by rw [Xz hi];exact h⟩
 have hmap: ∀j,j<cuts.length→rd (cuts.map P) j=P (rd cuts j):=fun j hj=>by
  grind [Xz]
 have le_of: ∀i j,i<cuts.length→j<cuts.length→i≤j→rd cuts i≤rd cuts j:=fun i j hi hj hij=>by
  rcases A3 hij with rfl | h
  ·grind
  ·exact BR (y5g hc h hj)
 constructor
 ·rintro (⟨s,hs,_⟩ | ⟨j,h1,h2,h3,h4,h5⟩)
  ·cases hs
  ·have hj:j+1<cuts.length:=by omega
   rw [hmap j (by omega)] at h3;obtain ⟨s,hs,a1,a2⟩:=(hP _).1 h3;obtain ⟨ca,cb⟩:=hS s hs;obtain ⟨m,hm,em⟩:=hin s.b cb;refine ⟨s,hs,by omega,?_⟩
   grind
 ·rintro ⟨s,hs,a1,a2⟩;right;obtain ⟨ca,cb⟩:=hS s hs;obtain ⟨n,hn,en⟩:=hin s.a ca;obtain ⟨m,hm,em⟩:=hin s.b cb;have h0:=le_of 0 n (by omega) hn (AA _);obtain ⟨j,h1,h2,h3⟩:=w1k m hm y (by omega) (by omega);refine ⟨j,AA _,by omega,?_,h2,h3⟩;rw [hmap j (by omega),hP];refine ⟨s,hs,?_,?_⟩;all_goals grind
def net (E:List R3) (y:Int):Int:=(E.map fun e=>if e.a≤y then e.c else 0).sum
theorem z1e (e:R3) (E:List R3) (y:Int):net (e::E) y=(if e.a≤y then e.c else 0)+net E y:=by simp [net]
theorem u0r {E F:List R3} (h:E.Perm F) (y:Int):net E y=net F y:=by
 induction h with
 | nil=>rfl
 | cons e _ ih=>rw [z1e,z1e,ih]
 | swap a b l=>simp only [z1e];omega
 | trans _ _ i1 i2=>rw [i1,i2]
theorem w3t (E:List R3) (y:Int) (h: ∀e∈E,y<e.a):net E y=0:=by
 induction E with
 | nil=>rfl
 | cons e E ih=>
  grind [z1e]
theorem v6d (out:List R2) (last:Int) (inn:Bool) (x:Int):Uq out last inn x=bif inn&& !(last == x) then push out last x else out:=by
 grind [Uq,push]
theorem y9v {out:List R2} {last x:Int} (inn:Bool) (hc:Can out) (hb: ∀s∈out,s.b≤last) (hx:last≤x):
  Can (Uq out last inn x)∧(∀s∈Uq out last inn x,s.b≤x)∧ ∀y,pt (Uq out last inn x) y↔pt out y∨(inn=true∧last≤y∧y<x):=by
 rw [v6d];rcases Yy (inn&& !(last == x)) with q | q;all_goals grind [w3o]
def Asc (E:List R3):Prop:=E.Pairwise fun e f=>e.a≤f.a
theorem v0p : ∀(E:List R3) (o last:Int) (out:List R2),Asc E→(∀e∈E,last≤e.a)→Can out→(∀s∈out,s.b≤last)→
  Can (swF E o last (decide (o>0)) out)∧ ∀y,pt (swF E o last (decide (o>0)) out) y↔pt out y∨(last≤y∧0<o+net E y∧ ∃e∈E,y<e.a)
 | [],o,last,out,_,_,hc,_=>⟨hc,fun y=>⟨.inl,fun h=>h.elim id fun ⟨_,_,e,he,_⟩=>by cases he⟩⟩
 | e ::r,o,last,out,hE,hl,hc,hb=>by
  have he:=hl e (by simp);have hr:=A1.1 hE;obtain ⟨p1,p2,p3⟩:=y9v (decide (o>0)) hc hb he;obtain ⟨q1,q2⟩:=v0p r (o+e.c) e.a (Uq out last (decide (o>0)) e.a) hr.2 hr.1 p1 p2;rw [y1x];refine ⟨q1,fun y=> ?_⟩;rw [q2,p3,z1e];constructor
  ·rintro ((h | ⟨h1,h2,h3⟩) | ⟨h1,h2,f,hf,h3⟩)
   ·exact .inl h
   ·right;have h1:=Av h1;refine ⟨h2,?_,e,by simp,h3⟩;rw [AF (by omega),w3t r y fun f hf=>by have:=hr.1 f hf;omega];omega
   ·right;refine ⟨by omega,?_,f,by simp [hf],h3⟩;rw [AK h1];omega
  ·rintro (h | ⟨h1,h2,f,hf,h3⟩)
   ·exact .inl (.inl h)
   ·by_cases hy:e.a≤y
    ·right;rw [AK hy] at h2;refine ⟨hy,by omega,f,?_,h3⟩;rcases AM.1 hf with rfl | hf
     ·omega
     ·exact hf
    ·left;right;rw [AF hy,w3t r y fun f hf=>by have:=hr.1 f hf;omega] at h2;exact ⟨Al (by omega),h1,by omega⟩
theorem u0s (l:List R2) (hv: ∀s∈l,s.a<s.b) (y:Int):0≤net (Qb l) y∧(0<net (Qb l) y↔pt l y):=by
 induction l with
 | nil=>grind [net,Qb,pt]
 | cons s l ih=>
  obtain ⟨i1,i2⟩:=ih fun t ht=>hv t (by simp [ht]);have hs:=hv s (by simp);have e:net (Qb (s::l)) y=(if s.a≤y∧y<s.b then 1 else 0)+net (Qb l) y:=by
   grind [Qb,z1e]
  rw [e];by_cases h:s.a≤y∧y<s.b
  ·rw [AK h];exact ⟨by omega,⟨fun _=>⟨s,by simp,h⟩,fun _=>by omega⟩⟩
  ·rw [AF h];refine ⟨by omega,?_⟩;rw [Int.zero_add,i2];constructor
   ·rintro ⟨t,ht,h2⟩;exact ⟨t,by simp [ht],h2⟩
   ·rintro ⟨t,ht,h2⟩;rcases AM.1 ht with rfl | ht
    ·grind
    ·exact ⟨t,ht,h2⟩
theorem y5x {l:List R2} {s:R2} (h:s∈l):(⟨s.b,0,-1⟩:R3)∈Qb l∧(⟨s.a,0,1⟩:R3)∈Qb l:=
 ⟨AD.2 ⟨s,h,by simp⟩,AD.2 ⟨s,h,by simp⟩⟩
theorem w2l (l:List R3) (h:y1m l=true):Asc (z1j l):=by
 refine Be.2 fun i j hi hj hij=> ?_
 grind [Qq,Xz]
theorem z9c (l:List R2) (hv:l.all z1i=true):Can (swV l)∧ ∀y,pt (swV l) y↔pt l y:=by
 have hb:y1m (Qb l)=true:=Ar.2 fun e he=>by obtain ⟨s,hs,h1⟩:=AD.1 he;have hv:=Ar.1 hv s hs;simp only [z1i,Ac,At] at hv;simp only [AM,List.not_mem_nil,or_false] at h1;rcases h1 with rfl | rfl <;> exact Al (by grind)
 have hpos: ∀s∈l,s.a<s.b:=fun s hs=>by
  grind [z1i]
 obtain ⟨hp,_⟩:=Qq (Qb l) hb;have ha:=w2l (Qb l) hb;have hn: ∀y,net (z1j (Qb l)) y=net (Qb l) y:=fun y=>u0r hp y;unfold swV;generalize z1j (Qb l)=E at hp ha hn;cases E with
 | nil=>refine ⟨.nil,fun y=>⟨fun ⟨s,hs,_⟩=>(by cases hs),fun ⟨s,hs,_⟩=> ?_⟩⟩;have:=hp.mem_iff.2 (y5x hs).1;cases this
 | cons e r=>
  have hr:=A1.1 ha;rw [y1x,Int.zero_add];have e0:Uq [] 0 false e.a=[]:=rfl;rw [e0];obtain ⟨q1,q2⟩:=v0p r e.c e.a [] hr.2 hr.1 .nil (by simp);refine ⟨q1,fun y=> ?_⟩;rw [q2];obtain ⟨n1,n2⟩:=u0s l hpos y;rw [←n2,←hn,z1e];constructor
  ·rintro (⟨s,hs,_⟩ | ⟨h1,h2,_⟩);all_goals grind
  ·intro h;have hpt:=n2.1 (by rw [←hn,z1e];exact h);obtain ⟨s,hs,s1,s2⟩:=hpt;have m1:=hp.mem_iff.2 (y5x hs).1
   grind [y5x]
theorem x4c (out:List Int) (hs:out.Pairwise (· < ·)) (x:Int): ∀k,k≤out.length→x8z out x k≤k∧(∀i,x8z out x k≤i→i<k→x<rd out i)∧(0<x8z out x k→rd out (x8z out x k - 1)≤x)
 | 0,_=>⟨Aq _,fun i h1 h2=>by omega,fun h=>by simp [x8z] at h⟩
 | k+1,hk=>by
  unfold x8z;rcases Yy (decide (rd out k>x)) with q | q
  ·rw [q,Ab];obtain ⟨h1,h2,h3⟩:=x4c out hs x k (by omega);refine ⟨by omega,fun i a b=> ?_,h3⟩;rcases A3 (Nat.le_of_lt_succ b) with rfl | b
   ·exact Av q
   ·exact h2 i a b
  ·rw [q,Aa];exact ⟨Aq _,fun i a b=>by omega,fun _=>by have:=AX q;simp only [Nat.add_sub_cancel];omega⟩
theorem v4u (out:List Int) (hs:out.Pairwise (· < ·)) (x:Int):(y9k out x).Pairwise (· < ·)∧ ∀y,y∈y9k out x↔y∈out∨y=x:=by
 obtain ⟨h1,h2,h3⟩:=x4c out hs x out.length (Aq _);unfold y9k;split
 ·rename_i h0;rw [h0] at h2;refine ⟨A1.2 ⟨fun y hy=> ?_,hs⟩,fun y=>by grind⟩;obtain ⟨i,hi,rfl⟩:=AR hy
  grind [Xz]
 ·rename_i k hk;rw [hk] at h1 h2 h3;have h3:rd out k≤x:=h3 (Nat.succ_pos _);have hkl:k<out.length:=by omega
  rcases Yy (rd out k == x) with q | q
  ·grind [Xz]
  ·rw [q,Aa];have q:rd out k≠x:=by simpa using q
   refine ⟨?_,fun y=> ?_⟩
   ·have st:(out.take (k+1)).Pairwise (· < ·):=hs.sublist (List.take_sublist _ _);have sd:(out.drop (k+1)).Pairwise (· < ·):=hs.sublist (List.drop_sublist _ _);have ht: ∀y∈out.take (k+1),y<x:=fun y hy=>by
     obtain ⟨i,hi,rfl⟩:=AR hy;have hi':i<k+1:=(by grind);rw [Bz];have:rd out i≤rd out k:=by
      rcases A3 (Nat.le_of_lt_succ hi') with rfl | h
      ·grind
      ·exact BR (y5g hs h hkl)
     grind [Xz]
    have hd: ∀y∈out.drop (k+1),x<y:=fun y hy=>by obtain ⟨i,hi,rfl⟩:=AR hy;simp_all [Xz]
    refine BG.2 ⟨st,A1.2 ⟨hd,sd⟩,fun a ha b hb=> ?_⟩
    grind
   ·rw [AH,AM];constructor
    ·grind
    ·rintro (h | h)
     ·rw [←List.take_append_drop (k+1) out,AH] at h
      grind
     grind
theorem Xd (l:List Int):(z0y l).Pairwise (· < ·)∧ ∀y,y∈z0y l↔y∈l:=by
 have: ∀(l out:List Int),out.Pairwise (· < ·)→(l.foldl y9k out).Pairwise (· < ·)∧ ∀y,y∈l.foldl y9k out↔y∈out∨y∈l:=by
  intro l
  induction l with
  | nil=>grind
  | cons x l ih=>
   grind [v4u]
 simp_all [z0y]
theorem y0z : ∀(l m:List Int),l.Pairwise (· < ·)→m.Pairwise (· < ·)→(∀x,x∈l↔x∈m)→l=m
 | [],[],_,_,_=>rfl
 | [],b::m,_,_,h=>by have:=(h b).2 (by simp);cases this
 | a::l,[],_,_,h=>by have:=(h a).1 (by simp);cases this
 | a::l,b::m,hl,hm,h=>by
  obtain ⟨a1,a2⟩:=A1.1 hl;obtain ⟨b1,b2⟩:=A1.1 hm;have e:a=b:=by
   have x1:=(h a).1 (by simp);have x2:=(h b).2 (by simp);rcases AM.1 x1 with x1 | x1
   ·exact x1
   rcases AM.1 x2 with x2 | x2
   ·exact x2.symm
   have:=b1 a x1;have:=a1 b x2;omega
  subst e
  congr 1
  refine y0z l m a2 b2 fun x=>⟨fun hx=> ?_,fun hx=> ?_⟩
  ·rcases AM.1 ((h x).1 (by simp [hx])) with e | e
   ·have:=a1 x hx;omega
   ·exact e
  ·rcases AM.1 ((h x).2 (by simp [hx])) with e | e
   ·have:=b1 x hx;omega
   ·exact e
theorem y1b (zs:List Int) (hs:zs.Pairwise (· ≤ ·)): ∀m,m≤zs.length→(compactUpTo zs.toArray m).Pairwise (· < ·)∧ ∀x,x∈compactUpTo zs.toArray m↔x∈zs.take m
 | 0,_=>by simp [compactUpTo]
 | m +1,h=>by
  obtain ⟨h1,h2⟩:=y1b zs hs m (by omega);have hg: ∀j (hj:j<zs.length),zs.toArray[j]! =zs[j]:=fun j hj=>by simp [hj]
  have hle: ∀i j (hi:i<zs.length) (hj:j<zs.length),i<j→zs[i]≤zs[j]:=fun i j hi hj hij=>Be.1 hs i j hi hj hij;have hm:m<zs.length:=by omega
  rw [compactUpTo_succ,hg m hm,List.take_succ_eq_append_getElem hm];by_cases hk:keeps zs.toArray m=true
  ·rw [AK hk];refine ⟨BG.2 ⟨h1,List.pairwise_singleton _ _,fun x hx y hy=> ?_⟩,fun x=>by rw [AH,AH,h2 x]⟩;rw [BD.1 hy];obtain ⟨i,hi,rfl⟩:=AR ((h2 x).1 hx);have hi':i<m:=by simp at hi;omega
   rw [Bz];simp only [keeps,At] at hk;rcases hk with hk | hk
   ·omega
   ·rw [hg m hm,hg (m - 1) (by omega)] at hk;have k1:zs[i]≤zs[m - 1]:=by
     rcases A6 i (m - 1) with q | q
     ·exact hle i (m - 1) _ _ q
     ·have e:i=m - 1:=(by omega);subst e;exact Bb _
    have k2:=hle (m - 1) m (by omega) hm (by omega);omega
  ·rw [AF hk,AB];refine ⟨h1,fun x=> ?_⟩;rw [h2 x,AH,BD];refine ⟨.inl,fun hx=>hx.elim id fun e=> ?_⟩;simp only [keeps,At,not_or,Decidable.not_not] at hk;rw [hg m hm,hg (m - 1) (by omega)] at hk;rw [e,hk.2];have:m - 1<(zs.take m).length :=by simp;omega
   have e2:(zs.take m)[m - 1]=zs[m - 1]:=Bz;rw [←e2];exact AY this
theorem srt_le (zs:List Int):(Xr zs).Pairwise (· ≤ ·):=by have:=List.pairwise_mergeSort (le:=fun x y:Int=>decide (x≤y)) (fun a b c h1 h2=>by grind) (fun a b=>by simp;omega) zs;exact this.imp fun h=>by simpa using h
theorem u8x (zs:List Int) (x:Int):x∈Xr zs↔x∈zs:=List.mem_mergeSort
theorem Qf (zs:List Int):Kz zs=z0y zs:=by obtain ⟨h1,h2⟩:=y1b (Xr zs) (srt_le zs) (Xr zs).length (Aq _);obtain ⟨s1,s2⟩:=Xd zs;refine y0z _ _ h1 s1 fun x=> ?_;rw [show Kz zs=compactUpTo (Xr zs).toArray (Xr zs).length from rfl,h2 x,List.take_length,u8x,s2]
namespace Dim
variable {α β:Type} (D:Dim α β)
def ref (sec:Int→List β) (cs:List Int):Nat→Nat→List α→List β→Nat→List α
 | 0,_,out,_,_=>out
 | k+1,i,out,last,first=>
  bif decide (0<i)&&D.same (sec (rd cs i)) last then ref sec cs k (i+1) (D.grow out first (rd cs (i+1))) last first
  else ref sec cs k (i+1) (out++(sec (rd cs i)).map (D.put (rd cs i) (rd cs (i+1)))) (sec (rd cs i)) out.length
theorem ref_eq (hs: ∀a b,D.same a b=true↔a=b) (l:List α): ∀(k i:Nat) (s:Sw α β) (out:List α) (last:List β) (first:Nat),
  s.out=out→s.last=last→(last≠ []→s.first=first)→(last=[]→out.length≤first)→(0<i→s.fin=rd (D.cuts l) i)→(i=0→last=[])→
  (D.go l k i s).out =D.ref (D.sec l) (D.cuts l) k i out last first
 | 0,i,s,out,last,first,h1,h2,h3,h4,h5,h6=>h1
 | k +1,i,s,out,last,first,h1,h2,h3,h4,h5,h6=>by
  subst h1 h2;have e1:D.go l (k+1) i s=D.go l k (i+1) (D.one l (rd (D.cuts l) i) (rd (D.cuts l) (i+1)) s):=rfl;rw [e1];unfold ref;rcases Yy (decide (0<(D.sec l (rd (D.cuts l) i)).length)&&((s.fin == rd (D.cuts l) i)&&D.same s.last (D.sec l (rd (D.cuts l) i)))) with q | q
  ·have e:D.one l (rd (D.cuts l) i) (rd (D.cuts l) (i+1)) s=⟨D.grow s.out s.first (rd (D.cuts l) (i+1)),s.last,s.first,rd (D.cuts l) (i+1)⟩:=by unfold one;rw [q];rfl
   simp only [Ac,At] at q;obtain ⟨q1,q2,q3⟩:=q;have q3:=(hs _ _).1 q3;have hne:s.last≠ []:=fun h=>by rw [h] at q3;rw [←q3] at q1;exact BV _ q1
   have hi:0<i:=Nat.pos_of_ne_zero fun h=>hne (h6 h);have e2:(decide (0<i)&&D.same (D.sec l (rd (D.cuts l) i)) s.last)=true:=by rw [Al hi,Ai,hs,q3]
   rw [e2,Ab,e];refine ref_eq hs l k (i+1) _ _ _ _ ?_ rfl h3 (fun h=>absurd h hne) (fun _=>rfl) (fun h=>by omega);rw [h3 hne]
  ·have e:D.one l (rd (D.cuts l) i) (rd (D.cuts l) (i+1)) s=⟨s.out++(D.sec l (rd (D.cuts l) i)).map (D.put (rd (D.cuts l) i) (rd (D.cuts l) (i+1))),D.sec l (rd (D.cuts l) i),s.out.length,rd (D.cuts l) (i+1)⟩:=by unfold one;rw [q];rfl
   rcases Yy (decide (0<i)&&D.same (D.sec l (rd (D.cuts l) i)) s.last) with q2 | q2
   ·rw [q2,Ab,e];simp only [Ac,At] at q2;obtain ⟨hi,q3⟩:=q2;have q3:=(hs _ _).1 q3;rw [(hs s.last (D.sec l (rd (D.cuts l) i))).2 q3.symm,Ah,h5 hi] at q;have hz:D.sec l (rd (D.cuts l) i)=[]:=by
     cases h:D.sec l (rd (D.cuts l) i) with
     | nil=>rfl
     | cons a b=>rw [h] at q;simp at q
    have hl:s.last=[]:=(by rw [←q3,hz]);have hf:=h4 hl;rw [hz,By,AB];refine ref_eq hs l k (i+1) _ _ _ _ ?_ hl.symm (fun h=>absurd hl h) (fun _=> ?_) (fun _=>rfl) (fun h=>by omega)
    ·exact (D.grow_nil _ _ _ hf).symm
    ·rw [D.grow_length];exact hf
   ·rw [q2,Aa,e];exact ref_eq hs l k (i+1) _ _ _ _ rfl rfl (fun _=>rfl) (fun h=>by rw [h];simp) (fun _=>rfl) (fun h=>by omega)
theorem out_eq (hs: ∀a b,D.same a b=true↔a=b) (l:List α):D.out l=D.ref (D.sec l) (D.cuts l) ((D.cuts l).length - 1) 0 [] [] 0:=
 D.ref_eq hs l _ 0 _ [] [] 0 rfl rfl (fun _=>rfl) (fun _=>Aq _) (fun h=>absurd h (BV _)) (fun _=>rfl)
end Dim
theorem w2h (l:List R4):D4.cuts l=xsV l []:=by unfold Dim.cuts xsV;rw [Qf,show z2g ([]:List R4)=[] from rfl,AB];rfl
theorem v6b (l:List R4) (x y:Int):w9g 2 l [] x y=z0v l x y:=by
 grind [w9g,y0y,z0v]
theorem z2w {l:List R4} {x:Int} {s:R2} (h:s∈D4.inn l x): ∃r∈l,r.a≤x∧x<r.c∧s=⟨r.b,r.d⟩:=by obtain ⟨r,hr,e⟩:=AP.1 h;obtain ⟨h1,h2⟩:=A5.1 hr;simp only [Ac,At] at h2;exact ⟨r,h1,h2.1,h2.2,e.symm⟩
theorem x9f {l:List R4} {x:Int} {r:R4} (h:r∈l) (h1:r.a≤x) (h2:x<r.c):(⟨r.b,r.d⟩:R2)∈D4.inn l x:=by refine AP.2 ⟨r,A5.2 ⟨h,?_⟩,rfl⟩;simp only [Ac,At];exact ⟨h1,h2⟩
theorem sec_eq (l:List R4) (hv:l.all Jj=true) (hl:l.length≤400) (x:Int):D4.sec l x=y1i 2 l [] x:=by
 have hin:=D4.inn_length l x;have hvi:(D4.inn l x).all z1i=true:=Ar.2 fun s hs=>by
  grind [z2w,Jj,z1i]
 have e1:D4.sec l x=swV (D4.inn l x):=by
  show Xe (D4.inn l x)=_
  grind [Xe]
 obtain ⟨c1,c2⟩:=z9c _ hvi;obtain ⟨y1,y2⟩:=Xd (Qk l++Qk []);have e2:y1i 2 l [] x=y0d (ysV l []) ((ysV l []).map fun y=>z0v l x y):=by
  unfold y1i
  congr 1
  simp_all [v6b]
 obtain ⟨d1,d2⟩:=x2f (ysV l []) y1 (fun y=>z0v l x y) (D4.inn l x) (fun s hs=>by
  obtain ⟨r,hr,_,_,rfl⟩:=z2w hs;unfold ysV;exact ⟨(y2 _).2 (AH.2 (.inl (AD.2 ⟨r,hr,by simp⟩))),(y2 _).2 (AH.2 (.inl (AD.2 ⟨r,hr,by simp⟩)))⟩) (fun y=>by
  unfold z0v;rw [BU];constructor
  ·rintro ⟨r,hr,h⟩;simp only [in4,Ac,At] at h;exact ⟨_,x9f hr h.1 h.2.1,h.2.2.1,h.2.2.2⟩
  ·rintro ⟨s,hs,h1,h2⟩
   grind [z2w,in4])
 grind [w5e]
theorem w4m (l:List R4): ∀(k i:Nat) (out:List R4) (last:List R2) (first:Nat),jF 2 l [] k i out last first=D4.ref (y1i 2 l []) (xsV l []) k i out last first
 | 0,_,_,_,_=>rfl
 | k+1,i,out,last,first=>by unfold jF Dim.ref;rw [w4m l k,w4m l k];rfl
theorem v4p (l:List R4) (hv:l.all Jj=true) (hl:l.length≤400):D4.out l=joV 2 l []:=by
 rw [D4.out_eq (fun a b=>AS) l,joV,w4m,←w2h]
 congr 1
 funext x
 exact sec_eq l hv hl x
theorem w2g (l:List R6):D6.cuts l=Vy l []:=by unfold Dim.cuts Vy;rw [Qf,show z2f ([]:List R6)=[] from rfl,AB];rfl
theorem u8m (l:List R6) (z:Int):D6.inn l z=atV l z:=rfl
theorem y3w (r:R6):Kv r=x2y r:=by
 unfold Kv x2y;simp only [x1t,x1u];rw [Bool.eq_iff_iff];simp only [Ac,At];have m1: ∀x y z:Int,x≤min y z↔x≤y∧x≤z:=fun x y z=>by omega
 have m2: ∀x y z:Int,max y z≤x↔y≤x∧z≤x:=fun x y z=>by omega
 simp only [ge_iff_le,m1,m2]
 grind
theorem v6n (l:List R6) (hv:l.all Kv=true) (z:Int):(atV l z).all Jj=true:=Ar.2 fun s hs=>by
 obtain ⟨r,hr,rfl⟩:=AP.1 hs;have:=Ar.1 hv r (A5.1 hr).1;rw [y3w] at this;simp only [x2y,Ac,At] at this;show Jj ⟨r.a,r.b,r.d,r.e⟩=true
 grind [Jj]
section
variable (l:List R6) (hv:l.all Kv=true) (hl:l.length≤400)
include hv hl
theorem u8j (z:Int):D4.out (atV l z)=joV 2 (atV l z) []:=v4p _ (v6n l hv z) (AE (z5k l z) hl)
theorem u8i (z:Int):v0g l z=z3l 2 l [] z:=by
 have h1:=u8j l hv hl z;have h2:=z5k l z;have e:joV 2 (atV [] z) []=[]:=rfl
 grind [v0g,z3l,z0z,atV,u8m,Yo,v6n]
theorem u9y (z:Int) (h:v0g l z=false):D6.sec l z=z0z 2 l [] z:=by
 have h1:=u8j l hv hl z;have h2:=z5k l z;rw [u8i l hv hl] at h;show Zm (D6.inn l z)=joV 2 (atV l z) (atV [] z)
 grind [u8m,Zm,atV,z3l,v6n]
theorem x9u : ∀(k i:Nat) (out:List R6) (last:List R4) (first:Nat),jsF 2 l [] k i out last first=bif okF l k i then some (D6.ref (D6.sec l) (D6.cuts l) k i out last first) else none
 | 0,_,_,_,_=>rfl
 | k+1,i,out,last,first=>by
  unfold jsF okF Dim.ref;rw [←w2g,←u8i l hv hl];rcases Yy (v0g l (rd (D6.cuts l) i)) with q | q
  ·rw [q];rfl
  ·have:=u9y l hv hl _ q;rw [q,Aa,Aa,this,x9u k,x9u k];have e:D6.same (z0z 2 l [] (rd (D6.cuts l) i)) last=Vw (z0z 2 l [] (rd (D6.cuts l) i)) last:=rfl;rw [e];cases (decide (0<i)&&Vw (z0z 2 l [] (rd (D6.cuts l) i)) last) <;> rfl
theorem jsO_eq :jsO 2 l []=bif okF l ((D6.cuts l).length - 1) 0 then some (D6.out l) else none:=by unfold jsO;rw [x9u l hv hl,←w2g,D6.out_eq (fun a b=>AS) l]
end
theorem z0e (l:List R6):Yx l=Xm l:=by
 unfold Yx Xm;by_cases h:400<l.length
 ·grind
 ·rw [Az h,Aa,Aa,show l.all x2y=l.all Kv from by grind [y3w]];rcases Yy (l.all Kv) with hv | hv
  ·rw [hv,Ab,Ab];unfold rckF z0p Jg;rw [jsO_eq l hv (by omega)]
   grind
  grind
open Go.Proofs Go.Sort Go.Shelf Go.RowKit Go.Lib
namespace Dim
variable {α β:Type} (D:Dim α β)
structure Fair :Prop where
 lo_put: ∀x x' b,D.lo (D.put x x' b)=x
 hi_put: ∀x x' b,D.hi (D.put x x' b)=x'
 pr_put: ∀x x' b,D.pr (D.put x x' b)=b
 ext_put: ∀x x' x'' b,D.ext x'' (D.put x x' b)=D.put x x'' b
def Ap (R:β→β→Prop) (a b:α):Prop:=D.hi a≤D.lo b∨D.hi b≤D.lo a∨R (D.pr a) (D.pr b)
theorem v3c {D:Dim α β} (hD:D.Fair) (R:β→β→Prop) (sec:Int→List β) (cs:List Int) (hc:cs.Pairwise (· < ·)) (eI: ∀x,(sec x).Pairwise R):
  ∀(k i:Nat) (pre:List α) (last:List β) (x0:Int),(i+k<cs.length∨k=0)→pre.Pairwise (D.Ap R)→(∀a∈pre,D.hi a≤x0)→(last≠ []→x0≤rd cs i)→(last=[]→x0≤rd cs i)→last.Pairwise R→
  (D.ref sec cs k i (pre++last.map (D.put x0 (rd cs i))) last pre.length).Pairwise (D.Ap R):=by
 have fin: ∀(pre:List α) (last:List β) (x0 x':Int),pre.Pairwise (D.Ap R)→(∀a∈pre,D.hi a≤x0)→last.Pairwise R→(pre++last.map (D.put x0 x')).Pairwise (D.Ap R):=fun pre last x0 x' h1 h2 h3=>by
  refine BG.2 ⟨h1,?_,fun a ha b hb=> ?_⟩
  ·refine List.pairwise_map.2 (h3.imp fun {a b} h=>.inr (.inr ?_));rw [hD.pr_put,hD.pr_put];exact h
  ·obtain ⟨c,_,rfl⟩:=AP.1 hb;exact .inl (by rw [hD.lo_put];exact h2 a ha)
 intro k
 induction k with
 | zero=>intro i pre last x0 _ h1 h2 _ _ h3;exact fin pre last x0 _ h1 h2 h3
 | succ k ih=>
  intro i pre last x0 hk h1 h2 h4 h5 h3;have hlt:rd cs i<rd cs (i+1):=y5g hc (BS _) (by omega);unfold ref;cases hq:(decide (0<i)&&D.same (sec (rd cs i)) last) with
  | true=>
   rw [Ab];have e:D.grow (pre++last.map (D.put x0 (rd cs i))) pre.length (rd cs (i+1))=pre++last.map (D.put x0 (rd cs (i+1))):=by
    unfold grow;rw [List.take_left,List.drop_left,List.map_map]
    congr 1
    exact List.map_congr_left fun b _=>hD.ext_put _ _ _ _
   rw [e];exact ih (i+1) pre last x0 (by omega) h1 h2 (fun h=>by grind) (fun h=>by grind) h3
  | false=>
   rw [Aa];refine ih (i+1) (pre++last.map (D.put x0 (rd cs i))) (sec (rd cs i)) (rd cs i) (by omega) (fin pre last x0 _ h1 h2 h3) (fun a ha=> ?_) (fun _=>by omega) (fun _=>by omega) (eI _);rcases AH.1 ha with ha | ha
   ·grind
   ·obtain ⟨c,_,rfl⟩:=AP.1 ha;rw [hD.hi_put];grind
theorem out_apart {D:Dim α β} (hD:D.Fair) (R:β→β→Prop) (hs: ∀a b,D.same a b=true↔a=b) (l:List α) (eI: ∀x,(D.sec l x).Pairwise R):(D.out l).Pairwise (D.Ap R):=by
 rw [D.out_eq hs l];have hc:(D.cuts l).Pairwise (· < ·):=by show (Kz (D.ends l)).Pairwise (· < ·);rw [Qf];exact (Xd _).1
 have:=v3c hD R (D.sec l) (D.cuts l) hc eI ((D.cuts l).length - 1) 0 [] [] (rd (D.cuts l) 0) (by omega) .nil (by simp) (fun _=>Bb _) (fun _=>Bb _) .nil;exact this
end Dim
theorem y0n :D4.Fair:=⟨fun _ _ _=>rfl,fun _ _ _=>rfl,fun _ _ _=>rfl,fun _ _ _ _=>rfl⟩
theorem z1n :D6.Fair:=⟨fun _ _ _=>rfl,fun _ _ _=>rfl,fun _ _ _=>rfl,fun _ _ _ _=>rfl⟩
def Ap2 (s t:R2):Prop:=s.b≤t.a∨t.b≤s.a
def Ap4 (s t:R4):Prop:=s.c≤t.a∨t.c≤s.a∨s.d≤t.b∨t.d≤s.b
def Ap6 (s t:R6):Prop:=s.d≤t.a∨t.d≤s.a∨s.e≤t.b∨t.e≤s.b∨s.f≤t.c∨t.f≤s.c
theorem v0v (l:List R2):(Xe l).Pairwise Ap2:=by
 unfold Xe;by_cases h:400<l.length
 ·simp_all
 ·rw [Az h,Aa];cases hv:l.all z1i with
  | false=>exact .nil
  | true=>rw [Ab];exact (z9c l hv).1.sep.imp fun {s t} h=>.inl (by omega)
theorem v2t (l:List R4):(Zm l).Pairwise Ap4:=by
 have key:(D4.out l).Pairwise Ap4:=(Dim.out_apart y0n Ap2 (fun a b=>AS) l fun x=>v0v _).imp fun {s t} h=>by
  rcases h with h | h | h | h
  ·exact .inl h
  ·exact .inr (.inl h)
  ·exact .inr (.inr (.inl h))
  ·exact .inr (.inr (.inr h))
 unfold Zm;by_cases h:400<l.length
 ·simp_all
 ·rw [Az h,Aa];cases l.all Jj with
  | false=>exact .nil
  | true=>
   rw [Ab];cases decide (((D4.out l).length :Int)>400) with
   | true=>exact .nil
   | false=>exact key
theorem Vh {l:List R6} (h:Yx l=0):l.length≤400∧(∀r∈l,Kv r=true)∧l=D6.out l∧l.Pairwise Ap6:=by
 unfold Yx at h;by_cases h1:400<l.length
 ·grind
 ·rw [Az h1,Aa] at h;cases hv:l.all Kv with
  | false=>grind
  | true=>
   rw [hv,Ab] at h;cases ho:okF l ((D6.cuts l).length - 1) 0 with
   | false=>grind
   | true=>
    rw [ho,Ab] at h;cases h2:decide (((D6.out l).length :Int)>400) with
    | true=>grind
    | false=>
     rw [h2,Aa] at h;cases h3:Ke (D6.out l) l with
     | false=>grind
     | true=>
      have e:D6.out l=l:=Av h3;refine ⟨by omega,fun r hr=>Ar.1 hv r hr,e.symm,?_⟩;have:=(Dim.out_apart z1n Ap4 (fun a b=>AS) l fun x=>v2t _).imp (S:=Ap6) fun {s t} h=>by
       rcases h with h | h | h | h | h | h
       ·exact .inr (.inr (.inr (.inr (.inl h))))
       ·exact .inr (.inr (.inr (.inr (.inr h))))
       ·exact .inl h
       ·exact .inr (.inl h)
       ·exact .inr (.inr (.inl h))
       ·exact .inr (.inr (.inr (.inl h)))
      grind
theorem We {r:R6} (h:Kv r=true):r.a<r.d∧r.b<r.e∧r.c<r.f∧ -1000000≤r.a∧ -1000000≤r.b∧ -1000000≤r.c∧r.d≤1000000∧r.e≤1000000∧r.f≤1000000:=by
 grind [y3w,x2y]
open Go.Proofs Go.Sort Go.Shelf Go.RowKit Go.Lib
structure z1p (β:Type) where
 a:Int
 b:Int
 s:List β
def ptL {β γ:Type} (inB:β→γ→Prop) (s:List β) (q:γ):Prop:= ∃r∈s,inB r q
theorem z9p {β γ:Type} (inB:β→γ→Prop) (q:γ): ¬ptL inB [] q:=fun ⟨_,h,_⟩=>by cases h
structure Sem (β γ:Type) where
 can:List β→Prop
 inB:β→γ→Prop
 uniq: ∀s t,can s→can t→(∀q,ptL inB s q↔ptL inB t q)→s=t
 some: ∀s,can s→s≠ []→ ∃q,ptL inB s q
 nil:can []
section
variable {β γ:Type} (M:Sem β γ)
def OkS (g:z1p β):Prop:=g.a<g.b∧M.can g.s∧g.s≠ []
def Nxt (g h:z1p β):Prop:=g.b≤h.a∧(g.b=h.a→g.s≠h.s)
inductive z3m :List (z1p β)→Prop
 | nil:z3m []
 | one (g:z1p β) (h:OkS M g):z3m [g]
 | cons (g h:z1p β) (r:List (z1p β)) (ok:OkS M g) (nx:Nxt g h) (k:z3m (h::r)):z3m (g::h::r)
def ptG (G:List (z1p β)) (x:Int) (q:γ):Prop:= ∃g∈G,g.a≤x∧x<g.b∧ptL M.inB g.s q
variable {M}
theorem z3m.head {g:z1p β} {r:List (z1p β)} (h:z3m M (g::r)):OkS M g:=by cases h <;> assumption
theorem z3m.tail {g:z1p β} {r:List (z1p β)} (h:z3m M (g::r)):z3m M r:=by
 cases h with
 | one=>exact .nil
 | cons _ _ _ _ _ k=>exact k
theorem z3m.later {g:z1p β} {r:List (z1p β)} (h:z3m M (g::r)): ∀k∈r,g.b≤k.a:=by
 induction r generalizing g with
 | nil=>grind
 | cons k r ih=>
  cases h with
  | cons _ _ _ ok nx kk=>
   intro m hm;rcases AM.1 hm with rfl | hm
   ·exact nx.1
   ·have h1:=ih kk m hm;have h2:=kk.head.1;have h3:=nx.1;omega
theorem z3m.all {G:List (z1p β)} (h:z3m M G): ∀g∈G,OkS M g:=by
 induction G with
 | nil=>grind
 | cons k r ih=>
  intro g hg;rcases AM.1 hg with rfl | hg
  ·exact h.head
  ·exact ih h.tail g hg
theorem z3m.before {G:List (z1p β)} {g:z1p β} (k:z3m M (G++[g])): ∀m∈G,m.b≤g.a:=by
 induction G with
 | nil=>grind
 | cons m r ih=>
  intro n hn;rcases AM.1 hn with rfl | hn
  ·exact k.later g (by simp)
  ·exact ih k.tail n hn
theorem z3m.snoc {G:List (z1p β)} {g h:z1p β} (k:z3m M (G++[g])) (ok:OkS M h) (nx:Nxt g h):z3m M (G++[g]++[h]):=by
 induction G with
 | nil=>exact .cons g h [] k.head nx (.one h ok)
 | cons m r ih=>
  have i:=ih k.tail;cases r with
  | nil=>
   cases k with
   | cons _ _ _ ok1 nx1 k1=>exact .cons m g [h] ok1 nx1 i
  | cons m2 r=>
   cases k with
   | cons _ _ _ ok1 nx1 k1=>exact .cons m m2 _ ok1 nx1 i
theorem z3m.stretch {G:List (z1p β)} {g:z1p β} {x:Int} (k:z3m M (G++[g])) (hx:g.b≤x):z3m M (G++[⟨g.a,x,g.s⟩]):=by
 induction G with
 | nil=>have:=k.head;exact .one _ ⟨by have:=this.1;grind,this.2⟩
 | cons m r ih=>
  have i:=ih k.tail;cases r with
  | nil=>
   cases k with
   | cons _ _ _ ok1 nx1 k1=>exact .cons m _ [] ok1 nx1 i
  | cons m2 r=>
   cases k with
   | cons _ _ _ ok1 nx1 k1=>exact .cons m m2 _ ok1 nx1 i
theorem z7y (g:z1p β) (G:List (z1p β)) (x:Int) (q:γ):ptG M (g::G) x q↔(g.a≤x∧x<g.b∧ptL M.inB g.s q)∨ptG M G x q:=by
 constructor
 ·rintro ⟨k,hk,h⟩;rcases AM.1 hk with rfl | hk
  ·exact .inl h
  ·exact .inr ⟨k,hk,h⟩
 ·rintro (h | ⟨k,hk,h⟩)
  ·exact ⟨g,by simp,h⟩
  ·exact ⟨k,by simp [hk],h⟩
theorem y8u (G H:List (z1p β)) (x:Int) (q:γ):ptG M (G++H) x q↔ptG M G x q∨ptG M H x q:=by
 constructor
 ·rintro ⟨k,hk,h⟩;rcases AH.1 hk with hk | hk
  ·exact .inl ⟨k,hk,h⟩
  ·exact .inr ⟨k,hk,h⟩
 ·rintro (⟨k,hk,h⟩ | ⟨k,hk,h⟩)
  ·exact ⟨k,AH.2 (.inl hk),h⟩
  ·exact ⟨k,AH.2 (.inr hk),h⟩
theorem z3m.low {g:z1p β} {r:List (z1p β)} (h:z3m M (g::r)) {x:Int} {q:γ} (hp:ptG M (g::r) x q):g.a≤x:=by
 rcases (z7y g r x q).1 hp with hp | ⟨k,hk,h1,_⟩
 ·exact hp.1
 ·have:=h.later k hk;have:=h.head.1;omega
theorem z3m.rest {g:z1p β} {r:List (z1p β)} (h:z3m M (g::r)) (x:Int) (q:γ):ptG M r x q↔g.b≤x∧ptG M (g::r) x q:=by
 constructor
 ·rintro ⟨k,hk,h1,h2⟩;have:=h.later k hk;exact ⟨by omega,k,by simp [hk],h1,h2⟩
 grind [z7y]
theorem z3m.sec0 {g:z1p β} {r:List (z1p β)} (h:z3m M (g::r)) {x:Int} (hx:g.a≤x∧x<g.b) (q:γ):ptG M (g::r) x q↔ptL M.inB g.s q:=by
 rw [z7y];constructor
 ·rintro (h1 | ⟨k,hk,h1,_⟩)
  ·exact h1.2.2
  ·have:=h.later k hk;omega
 grind
theorem x5h : ∀(G H:List (z1p β)),z3m M G→z3m M H→(∀x q,ptG M G x q↔ptG M H x q)→G=H
 | [],[],_,_,_=>rfl
 | [],h::H,_,hH,e=>by obtain ⟨q,hq⟩:=M.some _ hH.head.2.1 hH.head.2.2;have:=(e h.a q).2 ((hH.sec0 ⟨Bb _,hH.head.1⟩ q).2 hq);obtain ⟨k,hk,_⟩:=this;cases hk
 | g::G,[],hG,_,e=>by obtain ⟨q,hq⟩:=M.some _ hG.head.2.1 hG.head.2.2;have:=(e g.a q).1 ((hG.sec0 ⟨Bb _,hG.head.1⟩ q).2 hq);obtain ⟨k,hk,_⟩:=this;cases hk
 | g::G,h::H,hG,hH,e=>by
  have og:=hG.head;have oh:=hH.head;obtain ⟨q,hq⟩:=M.some _ og.2.1 og.2.2;obtain ⟨p,hp⟩:=M.some _ oh.2.1 oh.2.2;have a1:h.a≤g.a:=hH.low ((e g.a q).1 ((hG.sec0 ⟨Bb _,og.1⟩ q).2 hq));have a2:g.a≤h.a:=hG.low ((e h.a p).2 ((hH.sec0 ⟨Bb _,oh.1⟩ p).2 hp));have a3:g.a=h.a:=by omega
  have s1:g.s=h.s:=M.uniq _ _ og.2.1 oh.2.1 fun q=>by rw [←hG.sec0 (x:=g.a) ⟨Bb _,og.1⟩,e,hH.sec0 (x:=g.a) ⟨by omega,by have:=oh.1;omega⟩]
  have key: ∀(g h:z1p β) (G H:List (z1p β)),z3m M (g::G)→z3m M (h::H)→(∀x q,ptG M (g::G) x q↔ptG M (h::H) x q)→g.a=h.a→g.s=h.s→ ¬g.b<h.b:=fun g h G H hG hH e ea es hlt=>by
   have og:=hG.head;have oh:=hH.head;have at_: ∀q,ptG M (g::G) g.b q↔ptL M.inB h.s q:=fun q=>by rw [e,hH.sec0 ⟨by have:=og.1;omega,hlt⟩]
   obtain ⟨q,hq⟩:=M.some _ oh.2.1 oh.2.2;have:=(hG.rest g.b q).2 ⟨Bb _,(at_ q).2 hq⟩;cases hG with
   | one=>obtain ⟨k,hk,_⟩:=this;cases hk
   | cons _ k r ok nx kk=>
    have hk:k.a≤g.b:=kk.low this;have hk2:g.b=k.a:=by have:=nx.1;omega
    refine nx.2 hk2 ?_;rw [es];refine M.uniq _ _ oh.2.1 kk.head.2.1 fun p=> ?_;rw [←at_,←kk.sec0 (x:=g.b) ⟨by omega,by have:=kk.head.1;omega⟩];constructor
    ·exact fun hp=>((z3m.cons g k r ok nx kk).rest g.b p).2 ⟨Bb _,hp⟩
    ·exact fun hp=>(((z3m.cons g k r ok nx kk).rest g.b p).1 hp).2
  have b1:=key g h G H hG hH e a3 s1;have b2:=key h g H G hH hG (fun x q=>(e x q).symm) a3.symm s1.symm;have b3:g.b=h.b:=by omega
  have eg:g=h:=by
   obtain ⟨ga,gb,gs⟩:=g;obtain ⟨ha,hb,hs⟩:=h;simp only at a3 b3 s1
   subst_vars;rfl
  subst eg
  congr 1
  exact x5h G H hG.tail hH.tail fun x q=>by rw [hG.rest,hH.rest,e]
end
namespace Dim
variable {α β:Type} (D:Dim α β)
def flat (G:List (z1p β)):List α:=G.flatMap fun g=>g.s.map (D.put g.a g.b)
theorem flat_append (G H:List (z1p β)):D.flat (G++H)=D.flat G++D.flat H:=by simp [flat]
theorem flat_one (g:z1p β):D.flat [g]=g.s.map (D.put g.a g.b):=by simp [flat]
def inA {γ:Type} (inB:β→γ→Prop) (r:α) (p:Int×γ):Prop:=D.lo r≤p.1∧p.1<D.hi r∧inB (D.pr r) p.2
variable {D}
theorem w0o (hD:D.Fair) {γ:Type} (M:Sem β γ) (G:List (z1p β)) (x:Int) (q:γ):ptL (D.inA M.inB) (D.flat G) (x,q)↔ptG M G x q:=by
 constructor
 ·rintro ⟨r,hr,h⟩;obtain ⟨g,hg,hr⟩:=AD.1 hr;obtain ⟨b,hb,rfl⟩:=AP.1 hr;unfold inA at h;rw [hD.lo_put,hD.hi_put,hD.pr_put] at h;exact ⟨g,hg,h.1,h.2.1,b,hb,h.2.2⟩
 ·rintro ⟨g,hg,h1,h2,b,hb,h3⟩;refine ⟨D.put g.a g.b b,AD.2 ⟨g,hg,AP.2 ⟨b,hb,rfl⟩⟩,?_⟩;unfold inA;rw [hD.lo_put,hD.hi_put,hD.pr_put]
  grind
def can {γ:Type} (M:Sem β γ) (l:List α):Prop:= ∃G,z3m M G∧l=D.flat G
def sem (hD:D.Fair) {γ:Type} (M:Sem β γ):Sem α (Int×γ) where
 can:=D.can M
 inB:=D.inA M.inB
 uniq:=fun s t ⟨G,hG,e1⟩ ⟨H,hH,e2⟩ h=>by subst e1 e2;rw [x5h G H hG hH fun x q=>by simp_all [w0o]]
 some:=fun s ⟨G,hG,e1⟩ hs=>by
  subst e1;cases G with
  | nil=>exact absurd rfl hs
  | cons g G=>obtain ⟨q,hq⟩:=M.some _ hG.head.2.1 hG.head.2.2;exact ⟨(g.a,q),(w0o hD M _ _ _).2 ((hG.sec0 ⟨Bb _,hG.head.1⟩ q).2 hq)⟩
 nil:=⟨[],.nil,rfl⟩
variable (D)
def oneS (sec:List β) (x x':Int) (s:Sw α β):Sw α β:=
 bif decide (0<sec.length)&&((s.fin == x)&&D.same s.last sec) then ⟨D.grow s.out s.first x',s.last,s.first,x'⟩
 else ⟨s.out++sec.map (D.put x x'),sec,s.out.length,x'⟩
def goS (sec:Int→List β) (cs:List Int):Nat→Nat→Sw α β→Sw α β
 | 0,_,s=>s
 | k+1,i,s=>goS sec cs k (i+1) (D.oneS (sec (rd cs i)) (rd cs i) (rd cs (i+1)) s)
theorem go_goS (l:List α): ∀(k i:Nat) (s:Sw α β),D.go l k i s=D.goS (D.sec l) (D.cuts l) k i s
 | 0,_,_=>rfl
 | k+1,i,s=>go_goS l k (i+1) _
variable {D}
structure Inv {γ:Type} (M:Sem β γ) (sec:Int→List β) (cs:List Int) (i:Nat) (s:Sw α β) (G:List (z1p β)):Prop where
 can:z3m M G
 out:s.out=D.flat G
 gap:s.last=[]→ ∀g∈G,g.b<rd cs i
 end_ : s.last ≠ [] → ∃ Gp g, G = Gp ++ [g] ∧ g.s = s.last ∧ g.b = rd cs i ∧ s.fin = rd cs i ∧ s.first = (D.flat Gp).length
 pts: ∀x q,ptG M G x q↔ ∃j,j<i∧rd cs j≤x∧x<rd cs (j+1)∧ptL M.inB (sec (rd cs j)) q
theorem u1m (hD:D.Fair) (hs: ∀a b,D.same a b=true↔a=b) {γ:Type} (M:Sem β γ) {sec:Int→List β} {cs:List Int} (hc:cs.Pairwise (· < ·)) (eI: ∀x,M.can (sec x)) {i:Nat} (hi:i+1<cs.length) {s:Sw α β} {G:List (z1p β)} (h:Inv (D:=D) M sec cs i s G):
  ∃G',Inv (D:=D) M sec cs (i+1) (D.oneS (sec (rd cs i)) (rd cs i) (rd cs (i+1)) s) G':=by
 have hlt:rd cs i<rd cs (i+1):=y5g hc (BS _) hi;unfold oneS;rcases Yy (decide (0<(sec (rd cs i)).length)&&((s.fin == rd cs i)&&D.same s.last (sec (rd cs i)))) with q | q
 ·rw [q,Ab];simp only [Ac,At] at q;obtain ⟨q1,q2,q3⟩:=q;have q3:=(hs _ _).1 q3;have hne:s.last≠ []:=fun e=>by grind
  obtain ⟨Gp,g,e1,e2,e3,e4,e5⟩:=h.end_ hne;subst e1;refine ⟨Gp++[⟨g.a,rd cs (i+1),g.s⟩],h.can.stretch (by omega),?_,fun e=>absurd e hne,fun _=>⟨Gp,_,rfl,e2,rfl,rfl,e5⟩,fun x p=> ?_⟩
  ·show D.grow s.out s.first (rd cs (i+1))=_
   rw [h.out,e5];unfold grow;rw [D.flat_append,D.flat_append,D.flat_one,D.flat_one,List.take_left,List.drop_left,List.map_map]
   congr 1
   exact List.map_congr_left fun b _=>hD.ext_put _ _ _ _
  ·have hp:=h.pts x p;rw [y8u,z7y] at hp ⊢;have z: ¬ptG M ([]:List (z1p β)) x p:=fun ⟨_,hk,_⟩=>by cases hk
   constructor
   ·grind
   ·rintro ⟨j,j1,j2,j3,j4⟩;rcases A3 (Nat.le_of_lt_succ j1) with rfl | j1
    ·refine .inr (.inl ⟨?_,j3,?_⟩)
     ·have:=(h.can.all g (by simp)).1;grind
     grind
    grind
 ·rw [q,Aa];by_cases he:sec (rd cs i)=[]
  ·rw [he];refine ⟨G,h.can,?_,fun _ g hg=> ?_,fun e=>absurd rfl e,fun x p=> ?_⟩
   ·show s.out++[].map _=_;rw [By,AB,h.out]
   ·by_cases hl:s.last=[]
    ·have:=h.gap hl g hg;omega
    ·obtain ⟨Gp,g',e1,e2,e3,_⟩:=h.end_ hl;subst e1;rcases AH.1 hg with hg | hg
     ·have:=h.can.before g hg;have:=(h.can.all g' (by simp)).1;omega
     grind
   ·rw [h.pts]
    grind [z9p]
  ·have ok:OkS M (⟨rd cs i,rd cs (i+1),sec (rd cs i)⟩:z1p β):=⟨hlt,eI _,he⟩
   have hcan:z3m M (G++[⟨rd cs i,rd cs (i+1),sec (rd cs i)⟩]):=by
    rcases List.eq_nil_or_concat G with rfl | ⟨Gp,g,rfl⟩
    ·exact .one _ ok
    ·rw [List.concat_eq_append] at*;refine h.can.snoc ok ?_;by_cases hl:s.last=[]
     ·have:=h.gap hl g (by simp);exact ⟨by grind,fun e=>by grind⟩
     ·obtain ⟨Gp',g',e1,e2,e3,e4,_⟩:=h.end_ hl;obtain ⟨rfl,e⟩:=List.append_inj' e1 rfl;obtain rfl:g=g':=by simpa using e
      refine ⟨by grind,fun _ e=> ?_⟩;rw [Al (show 0<(sec (rd cs i)).length from List.length_pos_iff.2 he),e4,(hs _ _).2 (e2.symm.trans e)] at q;simp at q
   refine ⟨_,hcan,?_,fun e=>absurd e he,fun _=>⟨G,_,rfl,rfl,rfl,rfl,by show s.out.length=_;rw [h.out]⟩,fun x p=> ?_⟩
   ·show s.out++_=_;rw [D.flat_append,D.flat_one,h.out]
   ·rw [y8u,z7y,h.pts]
    grind [ptG]
theorem u7t (hD:D.Fair) (hs: ∀a b,D.same a b=true↔a=b) {γ:Type} (M:Sem β γ) {sec:Int→List β} {cs:List Int} (hc:cs.Pairwise (· < ·)) (eI: ∀x,M.can (sec x)): ∀(k i:Nat) (s:Sw α β) (G:List (z1p β)),i+k<cs.length∨k=0→Inv (D:=D) M sec cs i s G→
  ∃G',Inv (D:=D) M sec cs (i+k) (D.goS sec cs k i s) G'
 | 0,i,s,G,_,h=>⟨G,h⟩
 | k+1,i,s,G,hk,h=>by obtain ⟨G1,h1⟩:=u1m hD hs M hc eI (show i+1<cs.length by omega) h;obtain ⟨G2,h2⟩:=u7t hD hs M hc eI k (i+1) _ G1 (by omega) h1;exact ⟨G2,by rw [show i+(k+1)=i+1+k by omega];exact h2⟩
theorem goS_can (hD:D.Fair) (hs: ∀a b,D.same a b=true↔a=b) {γ:Type} (M:Sem β γ) {sec:Int→List β} {cs:List Int} (hc:cs.Pairwise (· < ·)) (eI: ∀x,M.can (sec x)):
  (D.sem hD M).can (D.goS sec cs (cs.length - 1) 0 ⟨[],[],0,0⟩).out ∧ ∀x q,ptL (D.sem hD M).inB (D.goS sec cs (cs.length - 1) 0 ⟨[],[],0,0⟩).out (x,q)↔ ∃j,j+1<cs.length∧rd cs j≤x∧x<rd cs (j+1)∧ptL M.inB (sec (rd cs j)) q:=by
 obtain ⟨G,h⟩:=u7t hD hs M hc eI (cs.length - 1) 0 ⟨[],[],0,0⟩ [] (by omega) ⟨.nil,rfl,fun _ g hg=>by (cases hg),fun e=>absurd rfl e,fun x q=>⟨fun ⟨_,hg,_⟩=>(by cases hg),fun ⟨j,hj,_⟩=>absurd hj (AJ _)⟩⟩;refine ⟨⟨G,h.can,h.out⟩,fun x q=> ?_⟩;rw [h.out];rw [show ptL (D.sem hD M).inB (D.flat G) (x,q)↔ptG M G x q from w0o hD M G x q,h.pts]
 grind
end Dim
open Go.Proofs Go.Sort Go.Shelf Go.RowKit Go.Lib
def y4i :Sem R2 Int where
 can:=Can
 inB s y:=s.a≤y∧y<s.b
 uniq:=w5e
 some s hs hn:=by
  cases s with
  | nil=>grind
  | cons r l=>exact ⟨r.a,r,by simp,Bb _,hs.pos r (by simp)⟩
 nil:=.nil
def Ug :Sem R4 (Int×Int):=Dim.sem y0n y4i
def z0j :Sem R6 (Int×Int×Int):=Dim.sem z1n Ug
namespace Dim
variable {α β:Type} {D:Dim α β}
theorem inn_slab (l m:List α) (hl: ∀r∈m,r∈l) {j:Nat} (hj:j+1<(D.cuts l).length) {x:Int} (h1:rd (D.cuts l) j≤x) (h2:x<rd (D.cuts l) (j+1)):D.inn m (rd (D.cuts l) j)=D.inn m x:=by
 have hc:(D.cuts l).Pairwise (· < ·):=by show (Kz (D.ends l)).Pairwise (· < ·);rw [Qf];exact (Xd _).1
 have hmem: ∀r∈m,D.lo r∈D.cuts l∧D.hi r∈D.cuts l:=fun r hr=>by show D.lo r∈Kz (D.ends l)∧D.hi r∈Kz (D.ends l);rw [Qf,(Xd _).2,(Xd _).2];exact ⟨AD.2 ⟨r,hl r hr,by simp⟩,AD.2 ⟨r,hl r hr,by simp⟩⟩
 have side: ∀c,c∈D.cuts l→(c≤rd (D.cuts l) j↔c≤x):=fun c hcm=>by
  obtain ⟨i,hi,rfl⟩:=AR hcm;rw [←Xz hi];rcases A6 j i with h | h
  ·have:rd (D.cuts l) (j+1)≤rd (D.cuts l) i:=by
    rcases A3 (show j+1≤i from h) with e | e
    ·grind
    ·exact BR (y5g hc e hi)
   grind
  ·have:rd (D.cuts l) i≤rd (D.cuts l) j:=by
    rcases A3 h with e | e
    ·grind
    ·exact BR (y5g hc e (by omega))
   grind
 unfold inn
 congr 1
 refine List.filter_congr fun r hr=> ?_
 grind
theorem inn_out (l m:List α) (hl: ∀r∈m,r∈l) {x:Int} (h: ∀j,j+1<(D.cuts l).length → ¬(rd (D.cuts l) j≤x∧x<rd (D.cuts l) (j+1))):D.inn m x=[]:=by
 unfold inn;rw [List.map_eq_nil_iff,List.filter_eq_nil_iff];intro r hr hb;simp only [Ac,At] at hb;have hmem:D.lo r∈D.cuts l∧D.hi r∈D.cuts l:=by show D.lo r∈Kz (D.ends l)∧D.hi r∈Kz (D.ends l);rw [Qf,(Xd _).2,(Xd _).2];exact ⟨AD.2 ⟨r,hl r hr,by simp⟩,AD.2 ⟨r,hl r hr,by simp⟩⟩
 have hc:(D.cuts l).Pairwise (· < ·):=by show (Kz (D.ends l)).Pairwise (· < ·);rw [Qf];exact (Xd _).1
 obtain ⟨i,hi,e1⟩:=AR hmem.1;obtain ⟨k,hk,e2⟩:=AR hmem.2;rw [←Xz hi] at e1;rw [←Xz hk] at e2;have h0:rd (D.cuts l) 0≤rd (D.cuts l) i:=by
  rcases A3 (AA i) with e | e
  ·grind
  ·exact BR (y5g hc e hi)
 obtain ⟨j,j1,j2,j3⟩:=w1k k hk x (by omega) (by omega)
 grind
theorem goJ_can (hD:D.Fair) (hs: ∀a b,D.same a b=true↔a=b) {γ:Type} (M:Sem β γ) (a b:List α) (J:List β→List β→List β) (hJ: ∀x,M.can (J (D.inn a x) (D.inn b x))) (h0:J [] []=[]):
  (D.sem hD M).can (D.goS (fun x=>J (D.inn a x) (D.inn b x)) (D.cuts (a++b)) ((D.cuts (a++b)).length - 1) 0 ⟨[],[],0,0⟩).out ∧
  ∀x q,ptL (D.sem hD M).inB (D.goS (fun x=>J (D.inn a x) (D.inn b x)) (D.cuts (a++b)) ((D.cuts (a++b)).length - 1) 0 ⟨[],[],0,0⟩).out (x,q)↔ptL M.inB (J (D.inn a x) (D.inn b x)) q:=by
 have hc:(D.cuts (a++b)).Pairwise (· < ·):=by show (Kz (D.ends (a++b))).Pairwise (· < ·);rw [Qf];exact (Xd _).1
 obtain ⟨h1,h2⟩:=goS_can hD hs M (cs:=D.cuts (a++b)) hc hJ;refine ⟨h1,fun x q=> ?_⟩;rw [h2];constructor
 ·grind [inn_slab]
 ·intro hp;by_cases hx: ∃j,j+1<(D.cuts (a++b)).length ∧rd (D.cuts (a++b)) j≤x∧x<rd (D.cuts (a++b)) (j+1)
  ·grind [inn_slab]
  ·have hx': ∀j,j+1<(D.cuts (a++b)).length → ¬(rd (D.cuts (a++b)) j≤x∧x<rd (D.cuts (a++b)) (j+1)):=fun j j1 j2=>hx ⟨j,j1,j2⟩;rw [inn_out (a++b) a (fun r hr=>AH.2 (.inl hr)) hx',inn_out (a++b) b (fun r hr=>AH.2 (.inr hr)) hx',h0] at hp;exact absurd hp (z9p _ _)
theorem pt_inn {γ:Type} (inB:β→γ→Prop) (l:List α) (x:Int) (q:γ):ptL inB (D.inn l x) q↔ptL (D.inA inB) l (x,q):=by
 constructor
 ·rintro ⟨b,hb,h⟩;obtain ⟨r,hr,rfl⟩:=AP.1 hb;obtain ⟨h1,h2⟩:=A5.1 hr;simp only [Ac,At] at h2;exact ⟨r,h1,h2.1,h2.2,h⟩
 ·rintro ⟨r,hr,h1,h2,h3⟩;refine ⟨D.pr r,AP.2 ⟨r,A5.2 ⟨hr,?_⟩,rfl⟩,h3⟩
  grind
theorem out_goJ (l:List α):D.out l=(D.goS (fun x=>D.mak (D.inn l x)) (D.cuts (l++[])) ((D.cuts (l++[])).length - 1) 0 ⟨[],[],0,0⟩).out :=by rw [AB];unfold out;rw [go_goS];rfl
end Dim
theorem Kj (a b:List R4):D6.same a b=true↔a=b:=AS
theorem z3w (a b:List R2):D4.same a b=true↔a=b:=AS
theorem Jd {l:List R4} (h: ∀r∈l,Jj r=true) (x:Int):(D4.inn l x).all z1i=true:=Ar.2 fun s hs=>by
 grind [z2w,Jj,z1i]
theorem v0u {l:List R2} (hv:l.all z1i=true) (hl:l.length≤400):y4i.can (Xe l)∧ ∀y,ptL y4i.inB (Xe l) y↔ptL y4i.inB l y:=by
 obtain ⟨c1,c2⟩:=z9c l hv;have e:Xe l=swV l:=by grind [Xe]
 rw [e];exact ⟨c1,c2⟩
theorem y8x {β γ:Type} (M:Sem β γ) {l:List β} (h:M.can l) (hp: ∀q,¬ptL M.inB l q):l=[]:=Bt fun hn=>by obtain ⟨q,hq⟩:=M.some l h hn;exact hp q hq
theorem u9b :Xe []=[]:=by
 grind [v0u,y8x,z9p]
theorem Dim.out_nil {α β:Type} (D:Dim α β):D.out []=[]:=by
 have h:(D.cuts []).length ≤2*0:=D.cuts_length [];have e:(D.cuts []).length - 1=0:=by omega
 unfold Dim.out;rw [e];rfl
theorem j1x :Zm []=[]:=by
 grind [Zm,Dim.out_nil]
theorem Ko {l:List R4} (hv: ∀r∈l,Jj r=true) (hl:l.length≤400):Ug.can (D4.out l)∧ ∀p,ptL Ug.inB (D4.out l) p↔ptL Ug.inB l p:=by rw [Dim.out_goJ];have hs: ∀x,y4i.can (D4.mak (D4.inn l x))∧ ∀y,ptL y4i.inB (D4.mak (D4.inn l x)) y↔ptL y4i.inB (D4.inn l x) y:=fun x=>v0u (Jd hv x) (AE (D4.inn_length l x) hl);obtain ⟨h1,h2⟩:=Dim.goJ_can y0n z3w y4i l [] (fun s _=>D4.mak s) (fun x=>(hs x).1) u9b;refine ⟨h1,fun ⟨x,y⟩=> ?_⟩;rw [show ptL Ug.inB _ (x,y)↔_ from h2 x y,(hs x).2,Dim.pt_inn];rfl
theorem z0r {l:List R6} (hv: ∀r∈l,Kv r=true) (z:Int): ∀r∈D6.inn l z,Jj r=true:=fun r hr=>by
 obtain ⟨s,hs,rfl⟩:=AP.1 hr;have:=We (hv s (A5.1 hs).1);show Jj ⟨s.a,s.b,s.d,s.e⟩=true
 grind [Jj]
def Secs (l:List R6):Prop:= ∀z,(D4.out (D6.inn l z)).length ≤400
theorem z5a {l:List R4} (hv: ∀r∈l,Jj r=true) (hl:l.length≤400) (h:(D4.out l).length ≤400):Zm l=D4.out l∧Yo l=0:=by
 grind [Zm,Yo]
theorem u9e {l:List R6} (hv: ∀r∈l,Kv r=true) (hl:l.length≤400) (hs:Secs l):z0j.can (D6.out l)∧ ∀p,ptL z0j.inB (D6.out l) p↔ptL z0j.inB l p:=by
 rw [Dim.out_goJ];have hq: ∀z,Ug.can (D6.mak (D6.inn l z))∧ ∀p,ptL Ug.inB (D6.mak (D6.inn l z)) p↔ptL Ug.inB (D6.inn l z) p:=fun z=>by show Ug.can (Zm (D6.inn l z))∧ ∀p,ptL Ug.inB (Zm (D6.inn l z)) p↔_;rw [(z5a (z0r hv z) (AE (D6.inn_length l z) hl) (hs z)).1];exact Ko (z0r hv z) (AE (D6.inn_length l z) hl)
 obtain ⟨h1,h2⟩:=Dim.goJ_can z1n Kj Ug l [] (fun s _=>D6.mak s) (fun x=>(hq x).1) j1x;refine ⟨h1,fun ⟨z,p⟩=> ?_⟩;rw [show ptL z0j.inB _ (z,p)↔_ from h2 z p,(hq z).2,Dim.pt_inn];rfl
open Go.Proofs Go.Sort Go.Shelf Go.RowKit Go.Lib
def opB (k:Nat) (a b:Bool):Bool:=match k with
 | 0=>a||b
 | 1=>a&&b
 | _=>a&& !b
theorem u6s (k:Nat):opB k false false=false:=by
 match k with
 | 0=>rfl
 | 1=>rfl
 | _+2=>rfl
def Wk (i:Int) (l:List R2):List R3:=l.flatMap fun s=>[⟨s.a,i,1⟩,⟨s.b,i,-1⟩]
def z5s (i:Int) (E:List R3) (y:Int):Int:=(E.map fun e=>if e.b=i∧e.a≤y then e.c else 0).sum
theorem Qg (i:Int) (e:R3) (E:List R3) (y:Int):z5s i (e::E) y=(if e.b=i∧e.a≤y then e.c else 0)+z5s i E y:=by simp [z5s]
theorem y5b (i:Int) (E F:List R3) (y:Int):z5s i (E++F) y=z5s i E y+z5s i F y:=by simp [z5s]
theorem x4g (i:Int) {E F:List R3} (h:E.Perm F) (y:Int):z5s i E y=z5s i F y:=by
 induction h with
 | nil=>rfl
 | cons e _ ih=>rw [Qg,Qg,ih]
 | swap a b l=>simp only [Qg];omega
 | trans _ _ i1 i2=>rw [i1,i2]
theorem v3y (i:Int) (E:List R3) (y:Int) (h: ∀e∈E,y<e.a):z5s i E y=0:=by
 induction E with
 | nil=>rfl
 | cons e E ih=>
  grind [Qg]
theorem v3z (i:Int) (l:List R2) (hv: ∀s∈l,s.a<s.b) (y:Int):0≤z5s i (Wk i l) y∧(0<z5s i (Wk i l) y↔pt l y):=by
 induction l with
 | nil=>grind [z5s,Wk,pt]
 | cons s l ih=>
  obtain ⟨i1,i2⟩:=ih fun t ht=>hv t (by simp [ht]);have hs:=hv s (by simp);have e:z5s i (Wk i (s::l)) y=(if s.a≤y∧y<s.b then 1 else 0)+z5s i (Wk i l) y:=by
   grind [Wk,Qg]
  rw [e];by_cases h:s.a≤y∧y<s.b
  ·rw [AK h];exact ⟨by omega,⟨fun _=>⟨s,by simp,h⟩,fun _=>by omega⟩⟩
  ·rw [AF h];refine ⟨by omega,?_⟩;rw [Int.zero_add,i2];constructor
   ·rintro ⟨t,ht,h2⟩;exact ⟨t,by simp [ht],h2⟩
   ·rintro ⟨t,ht,h2⟩;rcases AM.1 ht with rfl | ht
    ·grind
    ·exact ⟨t,ht,h2⟩
theorem y8y (i j:Int) (hij:i≠j) (l:List R2) (y:Int):z5s i (Wk j l) y=0:=by
 induction l with
 | nil=>rfl
 | cons s l ih=>
  show z5s i (⟨s.a,j,1⟩::⟨s.b,j,-1⟩::Wk j l) y=0
  grind [Qg]
def sw2 (f:Bool→Bool→Bool):List R3→Int→Int→Int→Bool→List R2→List R2
 | [],_,_,_,_,out=>out
 | e::r,o,p,last,inn,out=>
  sw2 f r (bif e.b == 0 then o+e.c else o) (bif e.b == 0 then p else p+e.c) e.a (f (decide ((bif e.b == 0 then o+e.c else o)>0)) (decide ((bif e.b == 0 then p else p+e.c)>0))) (Uq out last inn e.a)
def Two (E:List R3):Prop:= ∀e∈E,e.b=0∨e.b=1
theorem v0q (f:Bool→Bool→Bool): ∀(E:List R3) (o p last:Int) (out:List R2),Asc E→Two E→(∀e∈E,last≤e.a)→Can out→(∀s∈out,s.b≤last)→
  Can (sw2 f E o p last (f (decide (o>0)) (decide (p>0))) out)∧ ∀y,pt (sw2 f E o p last (f (decide (o>0)) (decide (p>0))) out) y↔pt out y∨(last≤y∧f (decide (o+z5s 0 E y>0)) (decide (p+z5s 1 E y>0))=true∧ ∃e∈E,y<e.a)
 | [],o,p,last,out,_,_,_,hc,_=>⟨hc,fun y=>⟨.inl,fun h=>h.elim id fun ⟨_,_,e,he,_⟩=>by cases he⟩⟩
 | e ::r,o,p,last,out,hE,ht,hl,hc,hb=>by
  have he:=hl e (by simp);have hr:=A1.1 hE;obtain ⟨p1,p2,p3⟩:=y9v (f (decide (o>0)) (decide (p>0))) hc hb he;have hz: ∀y,y<e.a→ ∀i,z5s i (e::r) y=0:=fun y hy i=>v3y i _ _ fun g hg=>by
   grind
  have main: ∀(o' p':Int),(∀y,e.a≤y→o'+z5s 0 r y=o+z5s 0 (e::r) y∧p'+z5s 1 r y=p+z5s 1 (e::r) y)→
    Can (sw2 f r o' p' e.a (f (decide (o'>0)) (decide (p'>0))) (Uq out last (f (decide (o>0)) (decide (p>0))) e.a))∧
    ∀y,pt (sw2 f r o' p' e.a (f (decide (o'>0)) (decide (p'>0))) (Uq out last (f (decide (o>0)) (decide (p>0))) e.a)) y↔pt out y∨(last≤y∧f (decide (o+z5s 0 (e::r) y>0)) (decide (p+z5s 1 (e::r) y>0))=true∧ ∃g∈e::r,y<g.a):=fun o' p' hop=>by
   obtain ⟨q1,q2⟩:=v0q f r o' p' e.a (Uq out last (f (decide (o>0)) (decide (p>0))) e.a) hr.2 (fun g hg=>ht g (by simp [hg])) hr.1 p1 p2;refine ⟨q1,fun y=> ?_⟩;rw [q2,p3];constructor
   ·rintro ((h | ⟨h1,h2,h3⟩) | ⟨h1,h2,g,hg,h3⟩)
    ·exact .inl h
    ·simp_all
    ·refine .inr ⟨by omega,?_,g,by simp [hg],h3⟩;simp_all
   ·rintro (h | ⟨h1,h2,g,hg,h3⟩)
    ·grind
    ·by_cases hy:e.a≤y
     ·right;obtain ⟨e1,e2⟩:=hop y hy;refine ⟨hy,by simp_all,g,?_,h3⟩
      grind
     simp_all
  show Can (sw2 f r _ _ _ _ _)∧ ∀y,pt (sw2 f r _ _ _ _ _) y↔_;rcases ht e (by simp) with h0 | h0
  ·have hb0:(e.b == 0)=true:=by rw [h0];rfl
   rw [hb0,Ab,Ab];refine main _ _ fun y hy=>⟨?_,?_⟩
   all_goals grind [Qg]
  ·have hb0:(e.b == 0)=false:=by rw [h0];rfl
   rw [hb0,Aa,Aa];refine main _ _ fun y hy=>⟨?_,?_⟩
   all_goals grind [Qg]
instance ptDec (l:List R2) (y:Int):Decidable (pt l y):=Classical.propDecidable _
theorem u8w (f:Bool→Bool→Bool) (hf:f false false=false) (a b:List R2) (ha: ∀s∈a,s.a<s.b) (hb: ∀s∈b,s.a<s.b) (E:List R3) (hp:E.Perm (Wk 0 a++Wk 1 b)) (hE:Asc E):
  Can (sw2 f E 0 0 0 false [])∧ ∀y,pt (sw2 f E 0 0 0 false []) y↔f (decide (pt a y)) (decide (pt b y))=true:=by
 have hn: ∀y,z5s 0 E y=z5s 0 (Wk 0 a) y∧z5s 1 E y=z5s 1 (Wk 1 b) y:=fun y=>by rw [x4g 0 hp,x4g 1 hp,y5b,y5b,y8y 0 1 (by decide),y8y 1 0 (by decide)];omega
 have hd: ∀y,decide (z5s 0 E y>0)=decide (pt a y)∧decide (z5s 1 E y>0)=decide (pt b y):=fun y=>by simp_all [v3z]
 have ht:Two E:=fun e he=>by
  rcases AH.1 (hp.mem_iff.1 he) with h | h
  ·obtain ⟨s,_,h⟩:=AD.1 h
   grind
  ·obtain ⟨s,_,h⟩:=AD.1 h
   grind
 have cover: ∀y,f (decide (pt a y)) (decide (pt b y))=true→ ∃e∈E,y<e.a∧ ∃g∈E,g.a≤y:=fun y hy=>by
  by_cases h1:pt a y
  ·obtain ⟨s,hs,s1,s2⟩:=h1;exact ⟨⟨s.b,0,-1⟩,hp.mem_iff.2 (AH.2 (.inl (AD.2 ⟨s,hs,by simp⟩))),s2,⟨s.a,0,1⟩,hp.mem_iff.2 (AH.2 (.inl (AD.2 ⟨s,hs,by simp⟩))),s1⟩
  ·by_cases h2:pt b y
   ·obtain ⟨s,hs,s1,s2⟩:=h2;exact ⟨⟨s.b,1,-1⟩,hp.mem_iff.2 (AH.2 (.inr (AD.2 ⟨s,hs,by simp⟩))),s2,⟨s.a,1,1⟩,hp.mem_iff.2 (AH.2 (.inr (AD.2 ⟨s,hs,by simp⟩))),s1⟩
   grind
 cases E with
 | nil=>
  refine ⟨.nil,fun y=>⟨fun ⟨s,hs,_⟩=>(by cases hs),fun hy=> ?_⟩⟩
  grind
 | cons e r=>
  have hr:=A1.1 hE;have hz0:f (decide ((0:Int)>0)) (decide ((0:Int)>0))=false:=hf;have e0:sw2 f (e::r) 0 0 0 false []=sw2 f (e::r) 0 0 e.a (f (decide ((0:Int)>0)) (decide ((0:Int)>0))) []:=by
   grind [sw2,Uq]
  rw [e0];obtain ⟨q1,q2⟩:=v0q f (e::r) 0 0 e.a [] hE ht (fun g hg=>by
   grind) .nil (by simp)
  refine ⟨q1,fun y=> ?_⟩;rw [q2,Int.zero_add,Int.zero_add,(hd y).1,(hd y).2];constructor
  ·rintro (⟨s,hs,_⟩ | ⟨_,h2,_⟩);all_goals grind
  grind
def tri :Nat→Nat
 | 0=>0
 | k+1=>tri k+k
theorem v0n : ∀n,tri (n+1)+tri n=n*n
 | 0=>rfl
 | n+1=>by have:=v0n n;show tri (n+1)+(n+1)+(tri n+n)=(n+1)*(n+1);rw [AQ,Nat.mul_add];omega
def hat (n:Nat):Nat→Nat
 | 0=>0
 | v+1=>hat n v+min v (2*n - v)
theorem v4v (n:Nat): ∀v,v≤n+1→hat n v=tri v
 | 0,_=>rfl
 | v+1,h=>by show hat n v+min v (2*n - v)=tri v+v;rw [v4v n v (by omega)];omega
theorem y3l (n:Nat): ∀j,j≤n→hat n (n+1+j)+tri (n - j)=n*n
 | 0,_=>by grind [v4v,v0n]
 | j+1,h=>by
  have:=y3l n j (by omega);show hat n (n+1+j)+min (n+1+j) (2*n - (n+1+j))+tri (n - (j+1))=_;have e:tri (n - j)=tri (n - (j+1))+(n - (j+1)):=by rw [show n - j=(n - (j+1))+1 by omega];rfl
  omega
theorem hat_le (n v:Nat):hat n v≤n*n:=by
 by_cases h1:v≤2*n+1
 ·by_cases h2:v≤n+1
  ·have h3:=y3l n 0 (AA _);have mono: ∀k v,hat n v≤hat n (v+k):=fun k v=>by
    induction k with
    | zero=>grind
    | succ k ih=>exact AE ih (Nat.le_add_right _ _)
   have:=mono (n+1 - v) v
   grind
  ·have:=y3l n (v - (n+1)) (by omega)
   grind
 ·have h3:hat n (2*n+1)≤n*n:=by
   have:=y3l n n (Aq _)
   grind
  have: ∀k,hat n (2*n+1+k)=hat n (2*n+1):=fun k=>by
   induction k with
   | zero=>rfl
   | succ k ih=>
    grind [hat]
  have h4:=this (v - (2*n+1))
  grind
theorem w4r (n:Nat) (E:Nat→Nat): ∀k,(∀i,i+1<k→E i<E (i+1))→((List.range k).map fun i=>min (E i) (2*n - E i)).sum ≤(match k with | 0=>0 | k+1=>hat n (E k+1))
 | 0,_=>Aq _
 | k+1,h=>by
  rw [BE,Bo,BM];have ih:=w4r n E k fun i hi=>h i (by omega);have mono: ∀k v,hat n v≤hat n (v+k):=fun k v=>by
   induction k with
   | zero=>grind
   | succ k ih=>exact AE ih (Nat.le_add_right _ _)
  simp only [A2,By,List.sum_cons,List.sum_nil,Bh];show _≤hat n (E k)+min (E k) (2*n - E k);cases k with
  | zero=>
   grind
  | succ k=>
   have h1:=h k (by omega);have h2:=mono (E (k+1) - (E k+1)) (E k+1)
   grind
def x6e (p:Int→Bool) (l:List Int):Nat:=(l.filter p).length
theorem z8p (p:Int→Bool) (x:Int) (l:List Int):x6e p (x::l)=(if p x=true then 1 else 0)+x6e p l:=by
 grind [x6e]
theorem j6g (p:Int→Bool) (l:List Int):x6e p l≤l.length:=List.length_filter_le _ _
theorem v6c {p q:Int→Bool} (h: ∀x,p x=true→q x=true) (l:List Int):x6e p l≤x6e q l:=by
 induction l with
 | nil=>exact Aq _
 | cons x l ih=>
  grind [z8p]
theorem j6f {p q:Int→Bool} (h: ∀x,p x=true→q x=true) {l:List Int} {y:Int} (hy:y∈l) (hq:q y=true) (hp:p y=false):x6e p l<x6e q l:=by
 induction l with
 | nil=>cases hy
 | cons x l ih=>
  rw [z8p,z8p];rcases AM.1 hy with rfl | hy
  ·have:=v6c h l
   grind
  grind
namespace Dim
variable {α β:Type} {D:Dim α β}
theorem inn_min (l:List α) (x:Int) (hv: ∀r∈l,D.lo r<D.hi r):(D.inn l x).length ≤min (x6e (fun y=>decide (y≤x)) (D.ends l)) (2*l.length - x6e (fun y=>decide (y≤x)) (D.ends l)):=by
 induction l with
 | nil=>exact AA _
 | cons r l ih=>
  have ih:=ih fun s hs=>hv s (by simp [hs]);have hr:=hv r (by simp);have hc:=j6g (fun y=>decide (y≤x)) (D.ends l);rw [D.ends_length] at hc;have e:x6e (fun y=>decide (y≤x)) (D.ends (r::l))=(if D.lo r≤x then 1 else 0)+((if D.hi r≤x then 1 else 0)+x6e (fun y=>decide (y≤x)) (D.ends l)):=by
   show x6e _ (D.lo r::D.hi r::D.ends l)=_
   grind [z8p]
  grind [inn]
theorem open_sum (l:List α) (hv: ∀r∈l,D.lo r<D.hi r): ∀k,k≤(D.cuts l).length →((List.range k).map fun i=>(D.inn l (rd (D.cuts l) i)).length).sum ≤l.length*l.length:=fun k hk=>by
 have hc:(D.cuts l).Pairwise (· < ·):=by show (Kz (D.ends l)).Pairwise (· < ·);rw [Qf];exact (Xd _).1
 have hm: ∀i,i<(D.cuts l).length →rd (D.cuts l) i∈D.ends l:=fun i hi=>by
  have:rd (D.cuts l) i∈Kz (D.ends l):=by rw [Xz hi];exact AY hi
  grind [Qf,Xd]
 have h1:((List.range k).map fun i=>(D.inn l (rd (D.cuts l) i)).length).sum ≤((List.range k).map fun i=>min (x6e (fun y=>decide (y≤rd (D.cuts l) i)) (D.ends l)) (2*l.length - x6e (fun y=>decide (y≤rd (D.cuts l) i)) (D.ends l))).sum :=by
  induction k with
  | zero=>grind
  | succ k ih=>
   rw [BE,Bo,Bo,BM,BM];have:=ih (by omega);have h2:=D.inn_min l (rd (D.cuts l) k) hv
   grind
 refine AE h1 ?_;have h2:=w4r l.length (fun i=>x6e (fun y=>decide (y≤rd (D.cuts l) i)) (D.ends l)) k fun i hi=>by
  have hlt:=y5g hc (show i<i+1 by omega) (show i+1<_ by omega);refine j6f (fun x hx=> ?_) (hm (i+1) (by omega)) (Al (Bb _)) (Az (by omega))
  grind
 grind [hat_le]
theorem goS_length (sec:Int→List β) (cs:List Int): ∀(k i:Nat) (s:Sw α β),(D.goS sec cs k i s).out.length ≤s.out.length+((List.range k).map fun j=>(sec (rd cs (i+j))).length).sum
 | 0,i,s=>Aq _
 | k+1,i,s=>by
  have h1:=goS_length sec cs k (i+1) (D.oneS (sec (rd cs i)) (rd cs i) (rd cs (i+1)) s);have h2:(D.oneS (sec (rd cs i)) (rd cs i) (rd cs (i+1)) s).out.length ≤s.out.length+(sec (rd cs i)).length :=by
   unfold oneS;cases (decide (0<(sec (rd cs i)).length)&&((s.fin == rd cs i)&&D.same s.last (sec (rd cs i)))) with
   | true=>rw [Ab,D.grow_length];omega
   | false=>rw [Aa];simp
  rw [List.range_succ_eq_map,A2,List.map_map,List.sum_cons,show rd cs (i+0)=rd cs i from rfl];have e:((fun j=>(sec (rd cs (i+j))).length)∘Nat.succ)=fun j=>(sec (rd cs (i+1+j))).length :=by
   funext j;simp only [Function.comp];rw [show i+j.succ=i+1+j by omega]
  rw [e];show (D.goS sec cs k (i+1) _).out.length ≤_;omega
theorem goJ_length (a b:List α) (J:List β→List β→List β) (hJ: ∀x,(J (D.inn a x) (D.inn b x)).length ≤(D.inn a x).length +(D.inn b x).length) (hv: ∀r∈a++b,D.lo r<D.hi r):
  (D.goS (fun x=>J (D.inn a x) (D.inn b x)) (D.cuts (a++b)) ((D.cuts (a++b)).length - 1) 0 ⟨[],[],0,0⟩).out.length ≤(a.length+b.length)*(a.length+b.length):=by
 have h1:=D.goS_length (fun x=>J (D.inn a x) (D.inn b x)) (D.cuts (a++b)) ((D.cuts (a++b)).length - 1) 0 ⟨[],[],0,0⟩;have h2:=D.open_sum (a++b) hv ((D.cuts (a++b)).length - 1) (Nat.sub_le _ _);rw [AO] at h2;refine AE h1 (AE ?_ h2);simp only [Bx,Af];generalize (D.cuts (a++b)).length - 1=k
 induction k with
 | zero=>grind
 | succ k ih=>rw [BE,Bo,Bo,BM,BM];have:=hJ (rd (D.cuts (a++b)) k);simp only [A2,By,List.sum_cons,List.sum_nil];rw [D.inn_append,AO];omega
end Dim
open Go.Proofs Go.Sort Go.Shelf Go.RowKit Go.Lib
def spJ (k:Nat) (a b:List R2):List R2:=sw2 (opB k) (z1j (Wk 0 a++Wk 1 b)) 0 0 0 false []
theorem x5f (i:Int) (l:List R2) (hv:l.all z1i=true):y1m (Wk i l)=true:=Ar.2 fun e he=>by obtain ⟨s,hs,h1⟩:=AD.1 he;have hv:=Ar.1 hv s hs;simp only [z1i,Ac,At] at hv;simp only [AM,List.not_mem_nil,or_false] at h1;rcases h1 with rfl | rfl <;> exact Al (by grind)
theorem w2i {l:List R2} (hv:l.all z1i=true): ∀s∈l,s.a<s.b:=fun s hs=>by
 grind [z1i]
theorem x0h (k:Nat) {a b:List R2} (ha:a.all z1i=true) (hb:b.all z1i=true):y4i.can (spJ k a b)∧ ∀y,ptL y4i.inB (spJ k a b) y↔opB k (decide (pt a y)) (decide (pt b y))=true:=by
 have hbnd:y1m (Wk 0 a++Wk 1 b)=true:=by
  grind [x5f,y1m]
 obtain ⟨hp,_⟩:=Qq _ hbnd;exact u8w (opB k) (u6s k) a b (w2i ha) (w2i hb) _ hp (w2l _ hbnd)
theorem w3s : ∀(l S:List Int),l.Pairwise (· < ·)→(∀x∈l,x∈S)→l.length≤S.length
 | [],S,_,_=>AA _
 | x::l,S,h,hs=>by
  obtain ⟨h1,h2⟩:=A1.1 h;have hx:=hs x (by simp);have:=w3s l (S.erase x) h2 fun y hy=>(List.mem_erase_of_ne (by grind)).2 (hs y (by simp [hy]))
  grind
def x5i (L:List R2):List Int:=L.flatMap fun s=>[s.a,s.b]
theorem y1c (L:List R2):(x5i L).length =2*L.length:=by
 induction L with
 | nil=>rfl
 | cons r l ih=>grind [x5i]
theorem v6m {L:List R2} (h:Can L):(x5i L).Pairwise (· < ·):=by
 induction L with
 | nil=>exact .nil
 | cons s L ih=>
  have hp:=h.pos s (by simp);have hn: ∀y∈x5i L,s.b<y:=fun y hy=>by
   obtain ⟨t,ht,h1⟩:=AD.1 hy;have:=h.head t ht;have:=h.pos t (by simp [ht])
   grind
  show (s.a::s.b::x5i L).Pairwise (· < ·);refine A1.2 ⟨fun y hy=> ?_,A1.2 ⟨hn,ih h.tail⟩⟩
  grind
theorem w9l {L:List R2} (h:Can L) (S:List Int) (hS: ∀y,y ∉ S→(pt L (y - 1)↔pt L y)):2*L.length≤S.length:=by
 rw [←y1c];refine w3s _ S (v6m h) fun y hy=>Bt fun hn=> ?_;obtain ⟨s,hs,h1⟩:=AD.1 hy;have hp:=h.pos s hs;have sepL: ∀t∈L,t=s∨t.b<s.a∨s.b<t.a:=fun t ht=>by
  obtain ⟨i,hi,ei⟩:=AR hs;obtain ⟨j,hj,ej⟩:=AR ht;have pw:=Be.1 h.sep
  grind
 simp only [AM,List.not_mem_nil,or_false] at h1;rcases h1 with rfl | rfl
 ·obtain ⟨t,ht,t1,t2⟩:=(hS _ hn).2 ⟨s,hs,Bb _,hp⟩
  grind
 ·obtain ⟨t,ht,t1,t2⟩:=(hS _ hn).1 ⟨s,hs,by omega,by omega⟩
  grind
theorem v3n {l:List R2} {y:Int} (h:y ∉ x5i l):pt l (y - 1)↔pt l y:=by
 constructor
 ·rintro ⟨s,hs,h1,h2⟩;refine ⟨s,hs,by omega,?_⟩;have:y≠s.b:=fun e=>h (AD.2 ⟨s,hs,by simp [e]⟩);omega
 ·rintro ⟨s,hs,h1,h2⟩;refine ⟨s,hs,?_,by omega⟩;have:y≠s.a:=fun e=>h (AD.2 ⟨s,hs,by simp [e]⟩);omega
theorem z4r (k:Nat) {a b:List R2} (ha:a.all z1i=true) (hb:b.all z1i=true):(spJ k a b).length ≤a.length+b.length:=by
 obtain ⟨h1,h2⟩:=x0h k ha hb;have:=w9l h1 (x5i a++x5i b) fun y hy=>by
  rw [AH,not_or] at hy;have e1:decide (pt a (y - 1))=decide (pt a y):=decide_eq_decide.2 (v3n hy.1);have e2:decide (pt b (y - 1))=decide (pt b y):=decide_eq_decide.2 (v3n hy.2);have q1:pt (spJ k a b) (y - 1)↔_:=h2 (y - 1);have q2:pt (spJ k a b) y↔_:=h2 y
  grind
 grind [y1c]
def rgJ (k:Nat) (a b:List R4):List R4:=(D4.goS (fun x=>spJ k (D4.inn a x) (D4.inn b x)) (D4.cuts (a++b)) ((D4.cuts (a++b)).length - 1) 0 ⟨[],[],0,0⟩).out
theorem u9d (k:Nat):spJ k [] []=[]:=by have:=z4r k (a:=[]) (b:=[]) rfl rfl;simp_all
instance ptDec4 (l:List R4) (p:Int×Int):Decidable (ptL Ug.inB l p):=Classical.propDecidable _
theorem x8y (l:List R4) (x y:Int):pt (D4.inn l x) y↔ptL Ug.inB l (x,y):=Dim.pt_inn (D:=D4) y4i.inB l x y
theorem y4q (k:Nat) {a b:List R4} (ha: ∀r∈a,Jj r=true) (hb: ∀r∈b,Jj r=true):
  Ug.can (rgJ k a b)∧(∀p,ptL Ug.inB (rgJ k a b) p↔opB k (decide (ptL Ug.inB a p)) (decide (ptL Ug.inB b p))=true)∧(rgJ k a b).length ≤(a.length+b.length)*(a.length+b.length):=by
 have hs: ∀x,y4i.can (spJ k (D4.inn a x) (D4.inn b x))∧ ∀y,ptL y4i.inB (spJ k (D4.inn a x) (D4.inn b x)) y↔opB k (decide (pt (D4.inn a x) y)) (decide (pt (D4.inn b x) y))=true:=fun x=>x0h k (Jd ha x) (Jd hb x);obtain ⟨h1,h2⟩:=Dim.goJ_can y0n z3w y4i a b (spJ k) (fun x=>(hs x).1) (u9d k);refine ⟨h1,fun ⟨x,y⟩=> ?_,?_⟩
 ·rw [show ptL Ug.inB (rgJ k a b) (x,y)↔_ from h2 x y,(hs x).2]
  grind [x8y]
 ·refine Dim.goJ_length a b (spJ k) (fun x=>z4r k (Jd ha x) (Jd hb x)) fun r hr=> ?_;have hv:Jj r=true:=by
   grind
  simp only [Jj,Ac,At] at hv;exact hv.1
open Go.Proofs.Tryz
inductive schS where
 | h0 (v10:Int)
def schC (l0:List R2):schS→Cfg
 | .h0 v10=>⟨⟨34,0,true⟩,none,(Zc prog 160 [1,1,0,1,0,0] 0),none,(Zy prog 9),⟨Yj [(0,(.dat l0.length (Zz l0))),(8,(.dat l0.length (Zz l0))),(9,(ii (l0.length:Int))),(10,(ii v10))],Wn [] 0,0,[],true⟩,[],.leaf⟩
def j0i :List (Option (List Nat)):=[some [0,8,9,10]]
def j0j :List (Option (List Nat)):=[]
def z3u (l0:List R2):schS→Xx schS
 | .h0 v10=>(bif (decide (v10<(l0.length:Int))) then (bif ((decide (0≤v10∧v10<(l0.length:Int)))&&true) then (bif (decide ((rd l0 v10.toNat).a <(rd l0 v10.toNat).b)) then (bif (decide ((rd l0 v10.toNat).a ≥(-1000000))) then (bif (!(decide ((rd l0 v10.toNat).b ≤1000000))) then (.ret [(.int .i64 8)]) else (bif (decide (v10>0)) then (bif ((decide (0≤(wrap .i64 (v10 - 1))∧(wrap .i64 (v10 - 1))<(l0.length:Int)))&&true) then (bif (decide ((rd l0 (Int.toNat (wrap .i64 (v10 - 1)))).b ≥(rd l0 v10.toNat).a)) then (.ret [(.int .i64 8)]) else (.to (.h0 (wrap .i64 (v10+1))))) else .stuck) else (.to (.h0 (wrap .i64 (v10+1)))))) else (.ret [(.int .i64 8)])) else (.ret [(.int .i64 8)])) else .stuck) else (.ret [(.int .i64 0)]))
def y2e (l0:List R2):Xx schS:=(bif (decide ((l0.length:Int)>400)) then (.ret [(.int .i64 4)]) else (.to (.h0 0)))
theorem w6h (l0:List R2): ∀s,Xy prog (Zy prog 160) (schC l0) (schC l0 s) (z3u l0 s)
 | .h0 v10=>(lb (fun k0=>(lo fun aI=>(lb (fun k1=>(lb (fun k2=>(lb (fun k3=>(lr 34 160 [1,1,0,1,0,0,1,1,0,0,1,1,0,0] 1 9 [(2,(ii 8))] (sl z5n 25 [] ⟨[],[],[some [2]],[]⟩ ⟨[],[],[]⟩ (trs 12 []) (tt k3 (tt k2 (tt k1 (ww aI (tt k0 nn)))))))) (fun k3=>(lb (fun k4=>(lo fun cN=>(lb (fun k5=>(lr 34 160 [1,1,0,1,0,0,1,1,0,0,1,1,0,0] 1 9 [(2,(ii 8))] (sl z5n 25 [] ⟨[],[],[some [2]],[]⟩ ⟨[],[],[]⟩ (trs 7 (bl 14 12280)) (tt k5 (ww cN (tt k4 (tt k3 (tt k2 (tt k1 (ww aI (tt k0 nn))))))))))) (fun k5=>(sl z5n 28 [] ⟨[],[],j0i,j0j⟩ ⟨[],[],[]⟩ (trs 7 (bl 14 4088)) (tt k5 (ww cN (tt k4 (tt k3 (tt k2 (tt k1 (ww aI (tt k0 nn))))))))))))) (fun k4=>(sl z5n 28 [] ⟨[],[],j0i,j0j⟩ ⟨[],[],[]⟩ (trs 7 (bl 14 0)) (tt k4 (tt k3 (tt k2 (tt k1 (ww aI (tt k0 nn)))))))))))) (fun k2=>(lr 34 160 [1,1,0,1,0,0,1,1,0,0,1,1,0,0] 1 9 [(2,(ii 8))] (sl z5n 25 [] ⟨[],[],[some [2]],[]⟩ ⟨[],[],[]⟩ (trs 4 (bl 8 248)) (tt k2 (tt k1 (ww aI (tt k0 nn))))))))) (fun k1=>(lr 34 160 [1,1,0,1,0,0,1,1,0,0,1,1,0,0] 1 9 [(2,(ii 8))] (sl z5n 25 [] ⟨[],[],[some [2]],[]⟩ ⟨[],[],[]⟩ (bl 12 3969) (tt k1 (ww aI (tt k0 nn))))))))) (fun k0=>(lr 34 3 [1,1,1,1,0] 1 9 [(2,(ii 0))] (sl z5n 11 [] ⟨[],[],[some [2]],[]⟩ ⟨[],[],[]⟩ [false] (tt k0 nn)))))
theorem x7b (l0:List R2):Xy prog (Zy prog 160) (schC l0) (Zg prog 160 [(.dat l0.length (Zz l0))] true []) (y2e l0):=(lb (fun k0=>(lr 34 160 [1,0,1,0,0] 1 9 [(2,(ii 4))] (sl z5n 16 [] ⟨[],[],[some [2]],[]⟩ ⟨[],[],[]⟩ [true] (tt k0 nn)))) (fun k0=>(sl z5n 22 [] ⟨[],[],j0i,j0j⟩ ⟨[],[],[]⟩ [false] (tt k0 nn))))
theorem v8j (l0:List R2) (n:Nat) (vs:List AVal) (h:Zr (z3u l0) n (y2e l0)=.ret vs):Uz prog (Zy prog 160) (Zg prog 160 [(.dat l0.length (Zz l0))] true []) vs:=by have:=Zd (w6h l0) n _ (x7b l0);rwa [h] at this
inductive cuS where
def cuC (x0:Bool) (x1:Bool):cuS→Cfg
 :=nofun
def v5y (x0:Bool) (x1:Bool):cuS→Xx cuS
 :=nofun
def w1b (x0:Bool) (x1:Bool):Xx cuS:=(bif x0 then (.ret [(.bool true)]) else (.ret [(.bool x1)]))
theorem v5x (x0:Bool) (x1:Bool): ∀s,Xy prog (Zy prog 164) (cuC x0 x1) (cuC x0 x1 s) (v5y x0 x1 s)
 :=nofun
theorem w9d (x0:Bool) (x1:Bool):Xy prog (Zy prog 164) (cuC x0 x1) (Zg prog 164 [(.bool x0),(.bool x1)] true []) (w1b x0 x1):=(lb (fun k0=>(lr 9 3 [1,1,1,1,0] 1 6 [(4,(.bool true))] (sl z5n 12 [] ⟨[],[],[some [4]],[]⟩ ⟨[],[],[]⟩ [true] (tt k0 nn)))) (fun k0=>(lr 9 3 [1,1,1,1,0] 1 6 [(4,(.bool x1))] (sl z5n 12 [] ⟨[],[],[some [4]],[]⟩ ⟨[],[],[]⟩ [false] (tt k0 nn)))))
theorem j6c (x0:Bool) (x1:Bool) (n:Nat) (vs:List AVal) (h:Zr (v5y x0 x1) n (w1b x0 x1)=.ret vs):Uz prog (Zy prog 164) (Zg prog 164 [(.bool x0),(.bool x1)] true []) vs:=by have:=Zd (v5x x0 x1) n _ (w9d x0 x1);rwa [h] at this
inductive ceS where
def ceC (x0:Bool) (x1:Bool):ceS→Cfg
 :=nofun
def v6i (x0:Bool) (x1:Bool):ceS→Xx ceS
 :=nofun
def w1j (x0:Bool) (x1:Bool):Xx ceS:=(bif x0 then (.ret [(.bool x1)]) else (.ret [(.bool false)]))
theorem v6h (x0:Bool) (x1:Bool): ∀s,Xy prog (Zy prog 133) (ceC x0 x1) (ceC x0 x1 s) (v6i x0 x1 s)
 :=nofun
theorem w9j (x0:Bool) (x1:Bool):Xy prog (Zy prog 133) (ceC x0 x1) (Zg prog 133 [(.bool x0),(.bool x1)] true []) (w1j x0 x1):=(lb (fun k0=>(lr 9 3 [1,1,1,1,0] 1 6 [(4,(.bool x1))] (sl z5n 12 [] ⟨[],[],[some [4]],[]⟩ ⟨[],[],[]⟩ [true] (tt k0 nn)))) (fun k0=>(lr 9 3 [1,1,1,1,0] 1 6 [(4,(.bool false))] (sl z5n 12 [] ⟨[],[],[some [4]],[]⟩ ⟨[],[],[]⟩ [false] (tt k0 nn)))))
theorem j6h (x0:Bool) (x1:Bool) (n:Nat) (vs:List AVal) (h:Zr (v6i x0 x1) n (w1j x0 x1)=.ret vs):Uz prog (Zy prog 133) (Zg prog 133 [(.bool x0),(.bool x1)] true []) vs:=by have:=Zd (v6h x0 x1) n _ (w9j x0 x1);rwa [h] at this
inductive cdS where
def cdC (x0:Bool) (x1:Bool):cdS→Cfg
 :=nofun
def v6k (x0:Bool) (x1:Bool):cdS→Xx cdS
 :=nofun
def w1l (x0:Bool) (x1:Bool):Xx cdS:=(bif x0 then (.ret [(.bool (!x1))]) else (.ret [(.bool false)]))
theorem v6j (x0:Bool) (x1:Bool): ∀s,Xy prog (Zy prog 123) (cdC x0 x1) (cdC x0 x1 s) (v6k x0 x1 s)
 :=nofun
theorem w9k (x0:Bool) (x1:Bool):Xy prog (Zy prog 123) (cdC x0 x1) (Zg prog 123 [(.bool x0),(.bool x1)] true []) (w1l x0 x1):=(lb (fun k0=>(lr 10 3 [1,1,1,1,0] 1 6 [(4,(.bool (!x1)))] (sl z5n 13 [] ⟨[],[],[some [4]],[]⟩ ⟨[],[],[]⟩ [true,true] (tt k0 nn)))) (fun k0=>(lr 10 3 [1,1,1,1,0] 1 6 [(4,(.bool false))] (sl z5n 13 [] ⟨[],[],[some [4]],[]⟩ ⟨[],[],[]⟩ [false,false] (tt k0 nn)))))
theorem j6i (x0:Bool) (x1:Bool) (n:Nat) (vs:List AVal) (h:Zr (v6k x0 x1) n (w1l x0 x1)=.ret vs):Uz prog (Zy prog 123) (Zg prog 123 [(.bool x0),(.bool x1)] true []) vs:=by have:=Zd (v6j x0 x1) n _ (w9k x0 x1);rwa [h] at this
end Go.Am
end
