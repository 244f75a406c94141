/- A part. -/
import Derived.Test.YtpddoeiakpbkbaaGreatLo2
import Derived.Shelf.SlSortCmp.NoneTotal
set_option maxRecDepth 99999
set_option maxHeartbeats 0
set_option linter.unusedVariables false
set_option linter.unusedSimpArgs false
noncomputable section
namespace Go.Am
open IntKind (wrap)
open Go.Proofs.Tryz
open Go.Proofs
inductive IZ where
 | h0 (v9:List R6) (v10:List R4) (v11:Int) (v12:Int)
 | h1 (v9:List R6) (v10:List R4) (v11:Int) (v12:Int) (v13:List R4) (v15:Int)
 | h2 (v9:List R6) (v10:List R4) (v11:Int) (v12:Int) (v14:Int)
abbrev w7o (l1:List R6) (l2:List R6) (v12:Int):=(rd (Vn (B3 l1) (B3 l2)) (tn v12))
abbrev x1x (v9:List R6) (v14:Int) (l1:List R6) (l2:List R6) (v12:Int):=(v9.set (0+(tn v14)) (R6.mk (rd v9 (0+(tn v14))).a (rd v9 (0+(tn v14))).b (rd v9 (0+(tn v14))).c (rd v9 (0+(tn v14))).d (rd v9 (0+(tn v14))).e (rd (Vn (B3 l1) (B3 l2)) (tn (wr (v12+1))))))
abbrev x1w (v9:List R6) (v13:List R4) (v15:Int) (l1:List R6) (l2:List R6) (v12:Int):=(v9++[(R6.mk (rd v13 (tn v15)).a (rd v13 (tn v15)).b (w7o l1 l2 v12) (rd v13 (tn v15)).c (rd v13 (tn v15)).d (rd (Vn (B3 l1) (B3 l2)) (tn (wr (v12+1)))))])
abbrev Um (l1:List R6) (l2:List R6) (v12:Int):=(CQ (B3 l1) (w7o l1 l2 v12))
abbrev Jb (l2:List R6) (l1:List R6) (v12:Int):=(CQ (B3 l2) (w7o l1 l2 v12))
abbrev j3w (v9:List R6) (v13:List R4) (v15:Int) (l1:List R6) (l2:List R6) (v12:Int):=(Zt (Zz v9) 0 v9.length 6 [(ii (rd v13 (tn v15)).a),(ii (rd v13 (tn v15)).b),(ii (w7o l1 l2 v12)),(ii (rd v13 (tn v15)).c),(ii (rd v13 (tn v15)).d),(ii (rd (Vn (B3 l1) (B3 l2)) (tn (wr (v12+1)))))])
def v8g (l1:List R6) (l2:List R6):B2:=(.dat (Vn (B3 l1) (B3 l2)).length (Zz (Vn (B3 l1) (B3 l2))))
def PF (x0:Int) (l1:List R6) (l2:List R6):IZ->CB
 | .h0 v9 v10 v11 v12=>⟨⟨137,0,true⟩,none,(Zg prog 77 [1,1,1,1,1,0,1,0,0] 0),none,(Zy prog 10),⟨Yj [(0,(ii x0)),(1,(.dat l1.length (Zz l1))),(2,(.dat l2.length (Zz l2))),(8,(v8g l1 l2)),(9,(.sla 0 6 0 v9.length (.un 6))),(10,(.dat v10.length (Zz v10))),(11,(ii v11)),(12,(ii v12))],Vk [⟨Ya v9.length (Zz v9),57,some ⟨6,v9.length,(Zz v9)⟩⟩] 0,1,[],true⟩,[],.leaf⟩
 | .h1 v9 v10 v11 v12 v13 v15=>⟨⟨137,0,true⟩,none,(Zg prog 77 [1,1,1,1,1,0,1,0,0,1,0,0,1,1,1,1,1,0,0] 0),none,(Zy prog 10),⟨Yj [(0,(ii x0)),(1,(.dat l1.length (Zz l1))),(2,(.dat l2.length (Zz l2))),(8,(v8g l1 l2)),(9,(.sla 0 6 0 v9.length (.un 6))),(10,(.dat v10.length (Zz v10))),(11,(ii v11)),(12,(ii v12)),(13,(.dat v13.length (Zz v13))),(15,(ii v15))],Vk [⟨Ya v9.length (Zz v9),57,some ⟨6,v9.length,(Zz v9)⟩⟩] 0,1,[],true⟩,[],.leaf⟩
 | .h2 v9 v10 v11 v12 v14=>⟨⟨137,0,true⟩,none,(Zg prog 77 [1,1,1,1,1,0,1,0,0,1,0,0,1,1,0,1,0,0,1,0,0] 0),none,(Zy prog 10),⟨Yj [(0,(ii x0)),(1,(.dat l1.length (Zz l1))),(2,(.dat l2.length (Zz l2))),(8,(v8g l1 l2)),(9,(.sla 0 6 0 v9.length (.un 6))),(10,(.dat v10.length (Zz v10))),(11,(ii v11)),(12,(ii v12)),(14,(ii v14))],Vk [⟨Ya v9.length (Zz v9),57,some ⟨6,v9.length,(Zz v9)⟩⟩] 0,1,[],true⟩,[],.leaf⟩
def j9w :List (Option (List Nat)):=[some [0,1,2,8,9,10,11,12]]
def j9y :List (Option (List Nat)):=[]
def j9v :List (Option (List Nat)):=[some [0,1,2,8,9,10,11,12,13,15]]
def j9x :List (Option (List Nat)):=[]
def MD :List (Option (List Nat)):=[some [0,1,2,8,9,10,11,12,14]]
def ME :List (Option (List Nat)):=[]
def Uh (x0:Int) (l1:List R6) (l2:List R6):IZ->Xz IZ
 | .h0 v9 v10 v11 v12=>(bif (decide ((wrap .i64 (v12+1))<(((Vn (B3 l1) (B3 l2)).length :Nat):Int))) then (bif (SC (B3 l1) (rd (Vn (B3 l1) (B3 l2)) v12.toNat)) then (bif ((decide (0<=v12/\v12<(((Vn (B3 l1) (B3 l2)).length :Nat):Int)))&&true) then (bif (SC (B3 l2) (rd (Vn (B3 l1) (B3 l2)) v12.toNat)) then (bif (J2 x0 (B3 (CQ (B3 l1) (rd (Vn (B3 l1) (B3 l2)) v12.toNat))) (B3 (CQ (B3 l2) (rd (Vn (B3 l1) (B3 l2)) v12.toNat)))) then (bif (decide ((((Ca x0 (B3 (CQ (B3 l1) (rd (Vn (B3 l1) (B3 l2)) v12.toNat))) (B3 (CQ (B3 l2) (rd (Vn (B3 l1) (B3 l2)) v12.toNat)))).length :Nat):Int)>400)) then (.ret [.nils,(.bool false)]) else (bif (J2 2 (B3 (CQ (B3 l1) (rd (Vn (B3 l1) (B3 l2)) v12.toNat))) ([]:List R4)) then (bif (decide ((((Ca 2 (B3 (CQ (B3 l1) (rd (Vn (B3 l1) (B3 l2)) v12.toNat))) ([]:List R4)).length :Nat):Int)>400)) then (.ret [.nils,(.bool false)]) else (bif (J2 2 (B3 (CQ (B3 l2) (rd (Vn (B3 l1) (B3 l2)) v12.toNat))) ([]:List R4)) then (bif (decide ((((Ca 2 (B3 (CQ (B3 l2) (rd (Vn (B3 l1) (B3 l2)) v12.toNat))) ([]:List R4)).length :Nat):Int)>400)) then (.ret [.nils,(.bool false)]) else (bif (decide (v12>0)) then (bif (Wg (B3 (Ca x0 (B3 (CQ (B3 l1) (rd (Vn (B3 l1) (B3 l2)) v12.toNat))) (B3 (CQ (B3 l2) (rd (Vn (B3 l1) (B3 l2)) v12.toNat))))) (B3 v10)) then (bif (Uw (B3 (Ca x0 (B3 (CQ (B3 l1) (rd (Vn (B3 l1) (B3 l2)) v12.toNat))) (B3 (CQ (B3 l2) (rd (Vn (B3 l1) (B3 l2)) v12.toNat))))) (B3 v10)) then (.to (.h2 v9 v10 v11 v12 v11)) else (.to (.h1 v9 (Ca x0 (B3 (CQ (B3 l1) (rd (Vn (B3 l1) (B3 l2)) v12.toNat))) (B3 (CQ (B3 l2) (rd (Vn (B3 l1) (B3 l2)) v12.toNat)))) (v9.length:Int) v12 (Ca x0 (B3 (CQ (B3 l1) (rd (Vn (B3 l1) (B3 l2)) v12.toNat))) (B3 (CQ (B3 l2) (rd (Vn (B3 l1) (B3 l2)) v12.toNat)))) 0))) else .stuck) else (.to (.h1 v9 (Ca x0 (B3 (CQ (B3 l1) (rd (Vn (B3 l1) (B3 l2)) v12.toNat))) (B3 (CQ (B3 l2) (rd (Vn (B3 l1) (B3 l2)) v12.toNat)))) (v9.length:Int) v12 (Ca x0 (B3 (CQ (B3 l1) (rd (Vn (B3 l1) (B3 l2)) v12.toNat))) (B3 (CQ (B3 l2) (rd (Vn (B3 l1) (B3 l2)) v12.toNat)))) 0)))) else .stuck)) else .stuck)) else .stuck) else .stuck) else .stuck) else .stuck) else (.ret [(.dat v9.length (Zz v9)),(.bool (decide ((v9.length:Int)<=400)))]))
 | .h1 v9 v10 v11 v12 v13 v15=>(bif (decide (v15<(v13.length:Int))) then (bif ((decide (0<=v12/\v12<(((Vn (B3 l1) (B3 l2)).length :Nat):Int)))&&true) then (bif ((decide (0<=v15/\v15<(v13.length:Int)))&&true) then (bif ((decide (0<=(wrap .i64 (v12+1))/\(wrap .i64 (v12+1))<(((Vn (B3 l1) (B3 l2)).length :Nat):Int)))&&true) then (bif (Nat.beq 6 6&&((decide (0+v9.length=v9.length))&&decide ((v9.length+1+1)*(48+1)<=CF))) then (.to (.h1 (v9++[(R6.mk (rd v13 v15.toNat).a (rd v13 v15.toNat).b (rd (Vn (B3 l1) (B3 l2)) v12.toNat) (rd v13 v15.toNat).c (rd v13 v15.toNat).d (rd (Vn (B3 l1) (B3 l2)) (Int.toNat (wrap .i64 (v12+1)))))]) v10 v11 v12 v13 (wrap .i64 (v15+1)))) else .stuck) else .stuck) else .stuck) else .stuck) else (.to (.h0 v9 v10 v11 (wrap .i64 (v12+1)))))
 | .h2 v9 v10 v11 v12 v14=>(bif (decide (v14<(v9.length:Int))) then (bif ((decide (0<=(wrap .i64 (v12+1))/\(wrap .i64 (v12+1))<(((Vn (B3 l1) (B3 l2)).length :Nat):Int)))&&true) then (bif ((decide (0<=v14/\v14<(v9.length:Int)))&&true) then (bif (decide ((0+v14.toNat)<v9.length)) then (.to (.h2 (v9.set (0+v14.toNat) (R6.mk (rd v9 (0+v14.toNat)).a (rd v9 (0+v14.toNat)).b (rd v9 (0+v14.toNat)).c (rd v9 (0+v14.toNat)).d (rd v9 (0+v14.toNat)).e (rd (Vn (B3 l1) (B3 l2)) (Int.toNat (wrap .i64 (v12+1)))))) v10 v11 v12 (wrap .i64 (v14+1)))) else .stuck) else .stuck) else .stuck) else (.to (.h0 v9 v10 v11 (wrap .i64 (v12+1)))))
def Y3 (x0:Int) (l1:List R6) (l2:List R6):Xz IZ:=(bif (Z5 (B3 l1) (B3 l2)) then (.to (.h0 ([]:List R6) ([]:List R4) 0 0)) else .stuck)
theorem v1x (x0:Int) (l1:List R6) (l2:List R6): ∀s,Xw prog (Zy prog 77) (PF x0 l1 l2) (PF x0 l1 l2 s) (Uh x0 l1 l2 s)
 | .h0 v9 v10 v11 v12=>(lb (fun k0=>(lo fun aE=>(lo fun bI=>(lo fun dB=>(lo fun dN=>let b:=pp (xr l1) (xw aE);let c:=pp (xr l2) (xw dB);let a:=pp c (ww bI (pp b (ww bI (tt k0 nn))));(lb (fun k1=>(lr 137 77 [1,1,1,1,1,0,1,0,0,1,0,0,1,0,1,0,0] 1 10 [(6,.nils),(7,(.bool false))] (sl Fa 50 [] (a8 [6,7]) a6 (CA 20 []) (tt k1 (pp (pp (xI R4 (Um l1 l2 v12).length (Zz (Um l1 l2 v12))) (pp (xI R4 (Jb l2 l1 v12).length (Zz (Jb l2 l1 v12))) (xw dN))) a))))) (fun k1=>(lo fun bU=>(lb (fun k2=>let d:=xI R4 (Um l1 l2 v12).length (Zz (Um l1 l2 v12));(lr 137 77 [1,1,1,1,1,0,1,0,0,1,0,0,1,0,1,0,0] 1 10 [(6,.nils),(7,(.bool false))] (sl Fa 50 [] (a8 [6,7]) a6 (bl 20 1047553) (tt k2 (pp (pp d (pp (xI R4 0 (fun _=>[])) (xw bU))) (pp b (ww bI (tt k1 (pp (pp d (pp (xI R4 (Jb l2 l1 v12).length (Zz (Jb l2 l1 v12))) (xw dN))) a))))))))) (fun k2=>(lo fun cG=>(lb (fun k3=>let e:=xI R4 (Um l1 l2 v12).length (Zz (Um l1 l2 v12));let j:=xI R4 (Jb l2 l1 v12).length (Zz (Jb l2 l1 v12));let o:=xI R4 0 (fun _=>[]);(lr 137 77 [1,1,1,1,1,0,1,0,0,1,0,0,1,0,1,0,0] 1 10 [(6,.nils),(7,(.bool false))] (sl Fa 50 [] (a8 [6,7]) a6 (bl 20 524289) (tt k3 (pp (pp j (pp o (xw cG))) (pp c (ww bI (tt k2 (pp (pp e (pp o (xw bU))) (pp b (ww bI (tt k1 (pp (pp e (pp j (xw dN))) a))))))))))))) (fun k3=>(lb (fun k4=>(lo fun cJ=>let r:=pp (xr v10) (xw cJ);(lb (fun k5=>let f:=xI R4 (Um l1 l2 v12).length (Zz (Um l1 l2 v12));let l:=xI R4 (Jb l2 l1 v12).length (Zz (Jb l2 l1 v12));let p:=xI R4 0 (fun _=>[]);(sl Fa 66 [] ⟨[0],[],MD,ME⟩ a6 (bl 24 15728641) (pp (fl v9 nn) (tt k5 (pp (pp (xI R4 (Ca x0 (B3 (Um l1 l2 v12)) (B3 (Jb l2 l1 v12))).length (Zz (Ca x0 (B3 (Um l1 l2 v12)) (B3 (Jb l2 l1 v12))))) r) (tt k4 (tt k3 (pp (pp l (pp p (xw cG))) (pp c (ww bI (tt k2 (pp (pp f (pp p (xw bU))) (pp b (ww bI (tt k1 (pp (pp f (pp l (xw dN))) a)))))))))))))))) (fun k5=>let g:=xI R4 (Um l1 l2 v12).length (Zz (Um l1 l2 v12));let m:=xI R4 (Jb l2 l1 v12).length (Zz (Jb l2 l1 v12));let q:=xI R4 0 (fun _=>[]);(sl Fa 73 [] ⟨[0],[],j9v,j9x⟩ a6 (bl 24 7340033) (pp (fl v9 nn) (tt k5 (pp (pp (xI R4 (Ca x0 (B3 (Um l1 l2 v12)) (B3 (Jb l2 l1 v12))).length (Zz (Ca x0 (B3 (Um l1 l2 v12)) (B3 (Jb l2 l1 v12))))) r) (tt k4 (tt k3 (pp (pp m (pp q (xw cG))) (pp c (ww bI (tt k2 (pp (pp g (pp q (xw bU))) (pp b (ww bI (tt k1 (pp (pp g (pp m (xw dN))) a))))))))))))))))))) (fun k4=>let h:=xI R4 (Um l1 l2 v12).length (Zz (Um l1 l2 v12));let i:=xI R4 (Jb l2 l1 v12).length (Zz (Jb l2 l1 v12));let n:=xI R4 0 (fun _=>[]);(sl Fa 73 [] ⟨[0],[],j9v,j9x⟩ a6 (bl 24 1) (pp (fl v9 nn) (tt k4 (tt k3 (pp (pp i (pp n (xw cG))) (pp c (ww bI (tt k2 (pp (pp h (pp n (xw bU))) (pp b (ww bI (tt k1 (pp (pp h (pp i (xw dN))) a)))))))))))))))))))))))))))) (fun k0=>(lr 137 3 [1,1,1,1,0] 1 10 [(6,(.dat v9.length (Zz v9))),(7,(.bool (decide ((v9.length:Int)<=400))))] (sl Fa 20 [] ⟨[],[0],[some [6,7]],[]⟩ ⟨[(6,.frz v9.length v9.length (Zz v9) (Zz v9))],[],[]⟩ [false] (pp (xZ (Cm 6 6 0 v9.length v9.length (Zz v9)) v9.length (Zz v9)) (pp (xL v9.length v9.length) (pp (xS v9.length (Zz v9) (Zz v9)) (pp (fl v9 nn) (tt k0 nn)))))))))
 | .h1 v9 v10 v11 v12 v13 v15=>(lb (fun k0=>(lo fun o0=>(lo fun o1=>(lo fun o2=>(lo fun o3=>let a:=xL (v9.length+1) (x1w v9 v13 v15 l1 l2 v12).length;let b:=x1w v9 v13 v15 l1 l2 v12;(sl Fa 20 [] ⟨[2],[],j9v,j9x⟩ ⟨[(9,.len b.length)],[.rowed 6 b.length (Zz b)],[]⟩ [true] (pp a (pp a (pp (xS (v9.length+1) (j3w v9 v13 v15 l1 l2 v12) (Zz (x1w v9 v13 v15 l1 l2 v12))) (pp (pp (xF (j3w v9 v13 v15 l1 l2 v12)) nn) (ww o3 (ww o2 (ww o1 (ww o1 (ww o0 (ww o1 (ww o1 (tt k0 nn)))))))))))))))))) (fun k0=>(sl Fa 17 [] ⟨[0],[],j9w,j9y⟩ a6 [false] (pp (fl v9 nn) (tt k0 nn)))))
 | .h2 v9 v10 v11 v12 v14=>(lb (fun k0=>(lo fun o0=>(lo fun o1=>(lo fun o2=>let a:=xL v9.length (x1x v9 v14 l1 l2 v12).length;let b:=x1x v9 v14 l1 l2 v12;(sl Fa 32 [] ⟨[0],[],MD,ME⟩ ⟨[(9,.len b.length)],[.rowed 6 b.length (Zz b)],[]⟩ [true] (pp a (pp a (pp (xS v9.length (Xa (Zz v9) (0+(tn v14)) 5 [(ii (rd (Vn (B3 l1) (B3 l2)) (tn (wr (v12+1)))))]) (Zz (x1x v9 v14 l1 l2 v12))) (pp (pp (xF (Xa (Zz v9) (0+(tn v14)) 5 [(ii (rd (Vn (B3 l1) (B3 l2)) (tn (wr (v12+1)))))])) nn) (ww o2 (ww o1 (ww o0 (tt k0 nn))))))))))))) (fun k0=>(sl Fa 17 [] ⟨[0],[],j9w,j9y⟩ a6 [false] (pp (fl v9 nn) (tt k0 nn)))))
theorem w1s (x0:Int) (l1:List R6) (l2:List R6):Xw prog (Zy prog 77) (PF x0 l1 l2) (Zm prog 77 [(.int .i64 x0),(.dat l1.length (Zz l1)),(.dat l2.length (Zz l2))] true []) (Y3 x0 l1 l2):=(lo fun o0=>(sl Fa 31 [(57,6,Zz ([]:List R6))] ⟨[0],[],j9w,j9y⟩ ⟨[(9,.grow 0 6),(10,.list 0 (Zz ([]:List R4)))],[],[]⟩ [] (pp (fl ([]:List R6) nn) (pp (pp (xr l1) (pp (xr l2) (xw o0))) nn))))
theorem u6h (x0:Int) (l1:List R6) (l2:List R6) (n:Nat) (vs:List B2) (h:Zo (Uh x0 l1 l2) n (Y3 x0 l1 l2)=.ret vs):Uj prog (Zy prog 77) (Zm prog 77 [(.int .i64 x0),(.dat l1.length (Zz l1)),(.dat l2.length (Zz l2))] true []) vs:=by have:=Zb (v1x x0 l1 l2) n _ (w1s x0 l1 l2);rwa [h] at this
theorem S1 (l m:List R6):(Vn l m).length <=2*l.length+2*m.length:=by
 refine AF (z8c _) ?_
 grind [z5r]
theorem XN (l:List R6) (z:Int):(CQ l z).length <=l.length:=by grind [CQ]
def HP (out:List R6) (first:Nat) (z:Int):List R6:=out.take first++(out.drop first).map fun r=>⟨r.a,r.b,r.c,r.d,r.e,z⟩
def OU (z z':Int) (s:List R4):List R6:=s.map fun p=>⟨p.a,p.b,z,p.c,p.d,z'⟩
section
variable (kind:Int) (l m:List R6)
def D0 (z:Int):List R4:=Ca kind (CQ l z) (CQ m z)
def FD (z:Int):Bool:=decide (400<(D0 kind l m z).length)||(decide (400<(Ca 2 (CQ l z) []).length)||decide (400<(Ca 2 (CQ m z) []).length))
def HV :Nat->Nat->List R6->List R4->Nat->Option (List R6)
 | 0,_,out,_,_=>some out
 | k+1,i,out,last,first=>
  bif FD kind l m (rd (Vn l m) i) then none
  else bif decide (0<i)&&Uw (D0 kind l m (rd (Vn l m) i)) last then HV k (i+1) (HP out first (rd (Vn l m) (i+1))) last first
  else HV k (i+1) (out++OU (rd (Vn l m) i) (rd (Vn l m) (i+1)) (D0 kind l m (rd (Vn l m) i))) (D0 kind l m (rd (Vn l m) i)) out.length
def HU :Option (List R6):=HV kind l m ((Vn l m).length - 1) 0 [] [] 0
def OA :Option (List R6)->List B2
 | none=>[.nils,.bool false]
 | some out=>[.dat out.length (Zz out),.bool (decide ((out.length:Int)<=400))]
def ER :List R6:=(HU kind l m).getD []
def HL :Bool:=match HU kind l m with
 | none=>false
 | some out=>decide ((out.length:Int)<=400)
end
def WB (l:List R6):Prop:=l.length<=40000/\ ∀z,(CQ l z).length <=5000
theorem j6a {l:List R6} (h:l.length<=5000):WB l:=⟨by omega,fun z=>AF (XN l z) h⟩
def UK (_:Int) (l m:List R6):Bool:=pd (WB l/\WB m)
theorem Pc {k:Int} {l m:List R6} (hl:l.length<=5000) (hm:m.length<=5000):UK k l m=true:=Xj ⟨j6a hl,j6a hm⟩
section
variable (kind:Int) (l m:List R6) (hl:WB l) (hm:WB m)
include hl hm
theorem j3v (last:List R4) (first:Int) (i:Nat) (hi:i+1<(Vn l m).length) (s:List R4) (hs:s.length<=1000000): ∀(k j:Nat) (out:List R6),j+k=s.length->out.length<=10000000000+j->
  ∃n,∀N,Zo (Uh kind l m) (N+n) (.to (.h1 out last first (i:Int) s (j:Int)))=Zo (Uh kind l m) N (.to (.h0 (out++OU (rd (Vn l m) i) (rd (Vn l m) (i+1)) (s.drop j)) last first ((i+1:Nat):Int)))
 | 0,j,out,h,ho=>by
  have hx:=S1 l m;have hl1:=hl.1;have hm1:=hm.1;refine ⟨1,fun N=> ?_⟩
  grind [Zx,Uh,Zj,OU]
 | k+1,j,out,h,ho=>by
  have hx:=S1 l m;have hl1:=hl.1;have hm1:=hm.1;obtain ⟨n,hn⟩:=j3v last first i hi s hs k (j+1) (out++OU (rd (Vn l m) i) (rd (Vn l m) (i+1)) [rd s j]) (by omega) (by simp [OU];omega)
  refine ⟨n+1,fun N=> ?_⟩;have:=hn N;rw [Yg (show j<s.length by omega),<-AD,Zx];simp (disch:=omega) only [Uh,Zd,Zq,Yy,Yz,Yd,Yk,Zh,Zj,Zw,Yc,Zk,Af,Ao,Ah,Ai,Ab];rw [AM] at this;exact this
omit hl hm in
theorem u9l (out:List R6) (j:Nat) (x:Int) (h:j<out.length):HP (out.set j ⟨(rd out j).a,(rd out j).b,(rd out j).c,(rd out j).d,(rd out j).e,x⟩) (j+1) x=HP out j x:=by
 unfold HP;rw [Yg h,AT];have e1:(out.set j ⟨(rd out j).a,(rd out j).b,(rd out j).c,(rd out j).d,(rd out j).e,x⟩).take (j+1)=out.take j++[⟨(rd out j).a,(rd out j).b,(rd out j).c,(rd out j).d,(rd out j).e,x⟩]:=by
  apply BJ
  .simp;omega
  .intro n h1 h2;simp only [Br,List.getElem_set];by_cases e:j=n
   .subst e;rw [AG rfl,By (by simp only [BX];omega)];simp
   .rw [Aw e,BD (by simp at h1 ⊢;omega),Br]
 have e2:(out.set j ⟨(rd out j).a,(rd out j).b,(rd out j).c,(rd out j).d,(rd out j).e,x⟩).drop (j+1)=out.drop (j+1):=by rw [List.drop_set];rw [AG (by omega)]
 rw [e1,e2,AM];rfl
theorem j3u (last:List R4) (first:Int) (i:Nat) (hi:i+1<(Vn l m).length): ∀(k j:Nat) (out:List R6),j+k=out.length->out.length<=10000000000->
  ∃n,∀N,Zo (Uh kind l m) (N+n) (.to (.h2 out last first (i:Int) (j:Int)))=Zo (Uh kind l m) N (.to (.h0 (HP out j (rd (Vn l m) (i+1))) last first ((i+1:Nat):Int)))
 | 0,j,out,h,ho=>by
  have hx:=S1 l m;have hl1:=hl.1;have hm1:=hm.1;refine ⟨1,fun N=> ?_⟩;have e:HP out j (rd (Vn l m) (i+1))=out:=by
   grind [HP]
  grind [Zx,Uh,Zj]
 | k+1,j,out,h,ho=>by
  have hx:=S1 l m;have hl1:=hl.1;have hm1:=hm.1;obtain ⟨n,hn⟩:=j3u last first i hi k (j+1) (out.set j ⟨(rd out j).a,(rd out j).b,(rd out j).c,(rd out j).d,(rd out j).e,rd (Vn l m) (i+1)⟩) (by simp;omega) (by grind)
  refine ⟨n+1,fun N=> ?_⟩;have:=hn N;rw [u9l out j _ (by omega)] at this;rw [<-AD,Zx];simp (disch:=omega) only [Uh,Zd,Zq,Yy,Yz,Yu,Yd,Yk,Zh,Zj,Zw,Yc,Zk,Af,Ao,Ah,Ai,Ab];exact this
theorem v8f : ∀(k i:Nat) (out:List R6) (last:List R4) (first:Nat),k=(Vn l m).length - 1 - i->i<=(Vn l m).length ->out.length<=i*400->last.length<=400->first<=out.length->
  ∃n,Zo (Uh kind l m) n (.to (.h0 out last (first:Int) (i:Int)))=.ret (OA (HV kind l m k i out last first))
 | 0,i,out,last,first,h,hi,ho,hla,hf=>by
  have hx:=S1 l m;have hl1:=hl.1;have hm1:=hm.1;refine ⟨1,?_⟩
  grind [Zx,Uh,Zd,Zj,Zp,HV,OA]
 | k+1,i,out,last,first,h,hi,ho,hla,hf=>by
  have hx:=S1 l m;have hl1:=hl.1;have hm1:=hm.1;have hi1:i+1<(Vn l m).length :=by omega
  have hbig:i*400<=160000*400:=AC _ (by omega);have a1:=fun z=>hl.2 z;have a2:=fun z=>hm.2 z;have w1: ∀z,SC l z=true:=fun z=>Al (by omega);have w2: ∀z,SC m z=true:=fun z=>Al (by omega);have w3: ∀k z,J2 k (CQ l z) (CQ m z)=true:=fun k z=>Al (by grind);have w4: ∀k z,J2 k (CQ l z) ([]:List R4)=true:=fun k z=>Al (by grind);have w5: ∀k z,J2 k (CQ m z) ([]:List R4)=true:=fun k z=>Al (by grind);unfold HV;have fE:D0 kind l m (rd (Vn l m) i)=Ca kind (CQ l (rd (Vn l m) i)) (CQ m (rd (Vn l m) i)):=rfl;by_cases c1:400<(D0 kind l m (rd (Vn l m) i)).length
  .refine ⟨1,?_⟩;have hb:FD kind l m (rd (Vn l m) i)=true:=by grind [FD]
   rw [hb,Ab,Zx];rw [fE] at c1;simp (disch:=omega) only [Uh,Zd,Zq,Yy,Yt,Yz,Zj,Zw,Zk,w1,w2,w3,w4,w5,Ah,Ab,Zp,OA]
  by_cases c2:400<(Ca 2 (CQ l (rd (Vn l m) i)) []).length
  .refine ⟨1,?_⟩;have hb:FD kind l m (rd (Vn l m) i)=true:=by grind [FD]
   rw [hb,Ab,Zx];rw [fE] at c1;simp (disch:=omega) only [Uh,Zd,Zq,Yy,Yt,Wu,Yz,Zj,Zw,Zk,w1,w2,w3,w4,w5,Ah,Ab,Aa,Zp,OA]
  by_cases c3:400<(Ca 2 (CQ m (rd (Vn l m) i)) []).length
  .refine ⟨1,?_⟩;have hb:FD kind l m (rd (Vn l m) i)=true:=by grind [FD]
   rw [hb,Ab,Zx];rw [fE] at c1;simp (disch:=omega) only [Uh,Zd,Zq,Yy,Yt,Wu,Yz,Zj,Zw,Zk,w1,w2,w3,w4,w5,Ah,Ab,Aa,Zp,OA]
  have hb:FD kind l m (rd (Vn l m) i)=false:=by grind [FD]
  rw [hb,Aa];have w6:Wg (Ca kind (CQ l (rd (Vn l m) i)) (CQ m (rd (Vn l m) i))) last=true:=Al (by grind);rcases Zs (decide (0<i)&&Uw (D0 kind l m (rd (Vn l m) i)) last) with q | q
  .obtain ⟨n3,h3⟩:=j3u kind l m hl hm last first i hi1 (out.length - first) first out (by omega) (by omega)
   obtain ⟨n0,h0⟩:=v8f k (i+1) (HP out first (rd (Vn l m) (i+1))) last first (by omega) (by omega) (by simp [HP];omega) hla (by simp [HP];omega)
   refine ⟨n0+n3+1,?_⟩;rw [q,Ab,Zx];simp only [Ae,Ar] at q;obtain ⟨q1,q2⟩:=q;rw [fE] at c1 q2;simp (disch:=omega) only [Uh,Zd,Zq,Yy,Yt,Wu,Yz,Zj,Zw,Zk,w1,w2,w3,w4,w5,w6,q2,Ah,Ab,Aa]
   grind
  .obtain ⟨n2,h2⟩:=j3v kind l m hl hm (D0 kind l m (rd (Vn l m) i)) (out.length:Int) i hi1 (D0 kind l m (rd (Vn l m) i)) (by omega) (D0 kind l m (rd (Vn l m) i)).length 0 out (Af _) (by omega);obtain ⟨n0,h0⟩:=v8f k (i+1) (out++OU (rd (Vn l m) i) (rd (Vn l m) (i+1)) (D0 kind l m (rd (Vn l m) i))) (D0 kind l m (rd (Vn l m) i)) out.length (by omega) (by omega) (by simp [OU];omega) (by omega) (by simp);refine ⟨n0+n2+1,?_⟩;rw [q,Aa,Zx];have h2':=h2 n0;simp only [AS,Du] at h2';have c1':=c1;rw [fE] at c1';by_cases hi0:0<i
   .rw [Al hi0,Ai,fE] at q;simp (disch:=omega) only [Uh,Zd,Zq,Yy,Yt,Wu,Yz,Zj,Zw,Zk,w1,w2,w3,w4,w5,w6,q,Ah,Ab,Aa]
    grind
   .simp (disch:=omega) only [Uh,Zd,Zq,Yy,Yt,Wu,Yz,Zj,Zw,Zk,w1,w2,w3,w4,w5,w6,Ah,Ab,Aa]
    grind
end
theorem j9u (kind:Int) (l m:List R6) (h:UK kind l m=true): ∃N,Zo (Uh kind l m) N (Y3 kind l m)=.ret (OA (HU kind l m)):=by obtain ⟨hl,hm⟩:=Je h;have hl1:=hl.1;have hm1:=hm.1;obtain ⟨N,hN⟩:=v8f kind l m hl hm ((Vn l m).length - 1) 0 [] [] 0 rfl (AA _) (AA _) (AA _) (Aq _);refine ⟨N,?_⟩;have w1:Z5 l m=true:=Al ⟨by omega,by omega⟩;simp only [Y3,Zd,Zq,w1,Ab];exact hN
def fJs :List B2->Option (B2×Bool)
 | [.int .i64 x0,a1,a2]=>match CS R6 a1,CS R6 a2 with
  | some (L1,g1,n1),some (L2,g2,n2)=>some (.tup [.dat (ER x0 L1 L2).length (Zz (ER x0 L1 L2)),.bool (HL x0 L1 L2)],CO R6 n1 g1&&(CO R6 n2 g2&&(UK x0 L1 L2)))
  | _,_=>none
 | _=>none
theorem Q5 {S:B4} (hS:Zv prog S):Zv prog (S.with j5j fJs):=by
 refine Em hS (by kernel_rfl) fun args v h=> ?_;unfold fJs at h;split at h
 .rename_i x0 a1 a2;split at h
  .rename_i L1 g1 n1 L2 g2 n2 e1 e2;simp only [Ad,Ac,Ae] at h;obtain ⟨rfl,ho1,ho2,hw⟩:=h;obtain ⟨N,hN⟩:=j9u x0 L1 L2 hw;refine ⟨_,OA (HU x0 L1 L2),(.cons (.refl _) (.cons (Yn e1 ho1) (.cons (Yn e2 ho2) .nil))),?_,u6h x0 L1 L2 N _ hN,3,?_⟩
   .unfold ER HL;cases HU x0 L1 L2 with
    | none=>exact fun ρ u hu=>GW (.cons (G4 R6) (DL.refl _)) ρ u hu
    | some out=>exact fun ρ u hu=>hu
   .cases HU x0 L1 L2 <;> rfl
  .cases h
 .cases h
def T4 :B4:=T3.with j5j fJs
theorem WY :Zv prog T4:=Q5 Fa
open Go.Sort Go.Shelf Go.RowKit Go.Lib
def OQ (x:E3):List Value:=Fe x.1
theorem t4n (l:List R3) (h:DZ l=true):Go.Sort.flatK OQ 3 (EN l h).toArray =Go.Sort.flatK Fe 3 l.toArray:=by
 have hl:=S0 l h;unfold Go.Sort.flatK;rw [show (EN l h).toArray.size =l.toArray.size by simpa using hl];apply Array.ext
 .simp
 .intro t h1 h2;simp only [Array.getElem_map,Array.getElem_range];have ht:t<l.length*3:=by simpa using h1
  have hq:t / 3<l.length:=by omega
  congr 1
  rw [getElem!_pos (EN l h).toArray (t / 3) (by simpa [hl] using hq),getElem!_pos l.toArray (t / 3) (by simpa using hq)];unfold OQ
  congr 1
  have:=YA l h;have e:=AR (fun z:List R3=>z[t / 3]?) this;simp only [List.getElem?_map] at e;rw [Au (by rw [hl];exact hq),Au hq] at e
  simpa using e
theorem u9a (d:Array E3):Go.Sort.flatK OQ 3 d=Go.Sort.flatK Fe 3 (d.toList.map Subtype.val).toArray :=by
 unfold Go.Sort.flatK;rw [show d.size=(d.toList.map Subtype.val).toArray.size by simp];apply Array.ext
 .simp
 .intro t h1 h2;simp only [Array.getElem_map,Array.getElem_range];have ht:t<d.size*3:=by simpa using h1
  have hq:t / 3<d.size:=by omega
  congr 1
  rw [getElem!_pos d (t / 3) hq,getElem!_pos (d.toList.map Subtype.val).toArray (t / 3) (by simpa using hq)];simp [OQ]
theorem y0m (l:List R3):Hg l.length (Cj (B3 l)).length =true:=Uu (by
 rw [Zd];by_cases h:DZ l=true
 .exact (J8 l h).1.length_eq.symm
 .unfold Cj;rw [dif_neg h])
theorem isAgg3 : ∀w,(isAgg (Tryz.sortEnd_ren.t 24)).run prog w=.ok true w:=fun w=>by rfl
theorem VM : ∀w,(Go.sizeOf (Tryz.sortEnd_ren.t 24)).run prog w=.ok 3 w:=fun w=>by rfl
theorem v6p :KJ prog j4z (w9j R3 Cj DZ w8n):=by
 refine u2d (fun L=> ?_) (fun blk off cap L w hb hH fI hsz=> ?_) fun p cap fv w=>AnyF.slices_SortFunc_none Tryz.sortEnd p cap fv w
 .by_cases h:DZ L=true
  .exact (J8 L h).1.length_eq
  .unfold Cj;rw [dif_neg h]
 .have eg: ∀args w,(callFunc 194 args).run prog w=.ok (.enter 194 args) w:=enters_of Tryz.func194 (by kernel_rfl) rfl;have hcmp:CmpLays prog 194 #[] OQ 3 R9 blk off (EN L hb).toArray.size w:=fun m os dk _ x y=>by have hx:=Az x.2;have hy:=Az y.2;exact Tryz.cmpEnd x.1.a x.1.b x.1.c y.1.a y.1.b y.1.c hx hy _
  have hH':HoldsK OQ 3 w blk off (EN L hb).toArray :=by unfold HoldsK;rw [t4n L hb];exact hH
  have hcon:=AnyQ.slices_SortFunc_eq Tryz.sortEnd 3 isAgg3 VM OQ (fun x=>w5b x.1) (fun x v hv=>by
   obtain ⟨a,ha,rfl⟩:=AO.1 hv;have:Nz a=true:=At.1 (j6t.num x.1) a ha;cases a <;> first | rfl | (simp [Nz] at this;done)) R9 VI 194 #[] blk off cap (EN L hb).toArray w eg hcmp hH' fI (by simpa [S0] using hsz)
  have hs:(EN L hb).toArray.size =L.length:=by simp [S0]
  rw [hs] at hcon;refine Calls.mono hcon fun e w' ⟨he,n,os,hw⟩=>⟨he,n,os,?_⟩
  rw [hw];unfold sortWorldK putRowK;rw [u9a];unfold Cj;rw [dif_pos hb];rfl
def Xm (zs:List Int):List Int:=zs.mergeSort fun x y=>decide (x<=y)
theorem v6o :KJ prog MZ (Ix Xm):=
 t4p (fun zs=>List.length_mergeSort zs) (fun blk off cap zs w hH hb hz=>Tryz.slices_Sort_int blk off cap zs w hH hb hz) fun p cap w=>Tryz.slices_Sort_int_none p cap w
def Wk (zs:List Int):List Int:=compact zs++List.replicate (zs.length - (compact zs).length) 0
def GN (zs:List Int):Nat:=(compact zs).length
theorem Ui (zs:List Int):(Wk zs).length =zs.length:=by have:=compact_length_le zs;simp [Wk];omega
theorem N4 (n:Nat) (c:Nat->Int):Hg n (Wk (Yq n c)).length =true:=Uu (by rw [Ui];simp [Yq])
theorem u1b (w:World):grow w #[]=w:=by simp [grow]
theorem w5o :KJ prog w8p (JB Wk GN):=
 t4q (fun zs=>by have:=compact_length_le zs;simp [Wk];omega) (fun zs=>compact_length_le zs)
  (fun blk off cap zs w hH hb hz eC=>(Tryz.slices_Compact_int blk off cap zs w hH (by omega) eC).mono fun e w' ⟨he,q,hw⟩=>⟨he,q, #[],by rw [hw,u1b];rfl⟩)
  fun p cap w=>Tryz.slices_Compact_int_empty p cap w
def T5 :B4:=((T4.withE j4z (w9j R3 Cj DZ w8n)).withE MZ (Ix Xm)).withE w8p (JB Wk GN)
theorem D5 :Zv prog T5:=x3o (x3o (x3o WY (by kernel_rfl) v6p) (by kernel_rfl) v6o) (by kernel_rfl) w5o
-- h2: index into an array (choices [true, true, false, false])
-- h2: index into an array (choices [true, false, true, false, false])
-- h2: index into an array (choices [true, false, false, true, true, false, false])
-- h2: index into an array (choices [true, false, false, true, false, false, false])
-- h2: index into an array (choices [true, false, false, false, false, false])
inductive Hz where
 | h0 (v8:Int)
 | h1 (v3:List R3) (v17:Int)
 | h2 (v5:List R3) (v6:Int) (v7:Int) (aD:Int) (bV:Int) (aX:Int) (aH:Bool) (aB:List R2)
abbrev Jm (aB:List R2) (aX:Int) (v5:List R3) (v7:Int):=(aB++[(R2.mk aX (rd v5 (0+(tn v7))).a)])
abbrev KI (aB:List R2) (aX:Int) (v5:List R3) (v7:Int):=(Zt (Zz aB) 0 aB.length 2 [(ii aX),(ii (rd v5 (0+(tn v7))).a)])
abbrev x1c (v3:List R3) (l0:List R2) (v17:Int):=(v3++[(R3.mk (rd l0 (tn v17)).a 0 1),(R3.mk (rd l0 (tn v17)).b 0 (-1))])
def j1e (l0:List R2):CV:=⟨⟨11,0,true⟩,(Vm prog 156 [1,1,1,0] 1),(Zg prog 156 [1,1,1,0] 1),none,(Zy prog 14),Yj [(9,(.dat l0.length (Zz l0)))]⟩
def O8 (l0:List R2):Hz->CB
 | .h0 v8=>⟨⟨19,0,true⟩,none,(Zg prog 191 [1,0,1,0,0] 0),none,(Zy prog 6),⟨Yj [(0,(.dat l0.length (Zz l0))),(1,(.fn 178 [])),(7,(ii (l0.length:Int))),(8,(ii v8))],Vk [] 0,0,[],true⟩,[⟨⟨9,0,true⟩,(Vm prog 177 [1,0] 2),(Zg prog 177 [1,0] 1),none,(Zy prog 6),Yj [(5,(.dat l0.length (Zz l0))),(6,(.fn 178 []))]⟩,⟨⟨11,0,true⟩,(Vm prog 156 [1,1,0,0] 1),(Zg prog 156 [1,1,0,0] 1),none,(Zy prog 14),Yj [(0,(.dat l0.length (Zz l0))),(7,(.dat l0.length (Zz l0)))]⟩],.leaf⟩
 | .h1 v3 v17=>⟨⟨38,0,true⟩,none,(Zg prog 184 [1,1,0,1,0,0,1,1,0,0,1,1,0,0] 0),none,(Zy prog 9),⟨Yj [(3,(.sla 7 3 0 v3.length (.un 3))),(4,(ii 0)),(8,(.sl 0 0 2 (.un 1))),(9,(ii 2)),(10,(ii 0)),(15,(.dat l0.length (Zz l0))),(16,(ii (l0.length:Int))),(17,(ii v17))],Vk [⟨[(.dat l0.length (Zz l0)),.nils],155,none⟩,⟨[(.fn 180 [])],167,none⟩,⟨[(ii 0),(ii 0)],222,none⟩,⟨[.nils],155,none⟩,⟨[(ii 0)],3,none⟩,⟨[(.bool false)],4,none⟩,⟨[(.fn 183 [(.ptr 5 0),(.ptr 4 0),(.ptr 3 0)])],223,none⟩,⟨Ya v3.length (Zz v3),227,some ⟨3,v3.length,(Zz v3)⟩⟩] 0,8,[],true⟩,[⟨⟨42,0,true⟩,(Vm prog 161 [1,1,1,1,1,0,0] 3),(Zg prog 161 [1,1,1,1,1,0,0] 1),none,(Zy prog 3),Yj [(5,(.ptr 1 0)),(6,.nils),(7,(.ptr 2 0)),(8,(.ptr 3 0)),(9,(.ptr 4 0)),(10,(.ptr 5 0)),(11,(.ptr 6 0)),(16,(.sl 0 0 2 (.un 1)))]⟩,(j1e l0)],.leaf⟩
 | .h2 v5 v6 v7 aD bV aX aH aB=>⟨⟨16,0,true⟩,none,(Zg prog 198 [1,0,0] 0),none,[],⟨Yj [(0,(.yld 0)),(5,(.sla 7 3 0 v5.length (.un 3))),(6,(ii v6)),(7,(ii v7))],Ch [(1,⟨[(.fn 180 [])],167,none⟩),(2,⟨[(ii aD),(ii bV)],222,none⟩),(3,⟨[(ii aX)],3,none⟩),(4,⟨[(.bool aH)],4,none⟩),(5,⟨[(.fn 183 [(.ptr 4 0),(.ptr 3 0),(.ptr 6 0)])],223,none⟩),(6,⟨[(.sla 8 2 0 aB.length (.un 2))],155,none⟩),(7,⟨Ya v5.length (Zz v5),227,some ⟨3,v5.length,(Zz v5)⟩⟩),(8,⟨Ya aB.length (Zz aB),176,some ⟨2,aB.length,(Zz aB)⟩⟩)],9,[],true⟩,[⟨⟨42,0,true⟩,none,(.inRangeFunc 0::(Zg prog 161 [1,1,1,1,1,0,1,0] 1)),none,(Zy prog 3),Yj [(6,.nils),(8,(.ptr 6 0))]⟩,(j1e l0)],(DH [(0,⟨.ready,none,42,Yj [(5,(.ptr 1 0)),(7,(.ptr 2 0)),(9,(.ptr 3 0)),(10,(.ptr 4 0)),(11,(.ptr 5 0))],[18],(Wc prog 161 [1,1,1,1,1,0,1,0,0]),(Wc prog 161 [1,1,1,1,1,0,1,0,1])⟩)])⟩
def K2 :List (Option (List Nat)):=[some [0,1,7,8],some [5,6],some [0,7]]
def K3 :List (Option (List Nat)):=[]
def VA :List (Option (List Nat)):=[some [3,4,8,9,10,15,16,17],some [5,6,7,8,9,10,11,16],some [9]]
def Ul :List (Option (List Nat)):=[]
def Gd :List (Option (List Nat)):=[some [0,5,6,7],some [6,8],some [9]]
def Gc :List (Option (List Nat)):=[some [5,7,9,10,11],none,none,none,none,none,none,none,none]
def Jh (l0:List R2):Hz->Xz Hz
 | .h0 v8=>(bif (decide (v8<(l0.length:Int))) then (bif ((decide (0<=v8/\v8<(l0.length:Int)))&&true) then (bif (decide ((rd l0 v8.toNat).a <(rd l0 v8.toNat).b)) then (bif (decide ((rd l0 v8.toNat).a >=(-1000000))) then (bif (!(decide ((rd l0 v8.toNat).b <=1000000))) then (bif (decide (v8>=0)) then (.ret [.nils,(.int .i64 8)]) else (.to (.h1 ([]:List R3) 0))) else (.to (.h0 (wrap .i64 (v8+1))))) else (bif (decide (v8>=0)) then (.ret [.nils,(.int .i64 8)]) else (.to (.h1 ([]:List R3) 0)))) else (bif (decide (v8>=0)) then (.ret [.nils,(.int .i64 8)]) else (.to (.h1 ([]:List R3) 0)))) else .stuck) else (.to (.h1 ([]:List R3) 0)))
 | .h1 v3 v17=>(bif (decide (v17<(l0.length:Int))) then (bif ((decide (0<=v17/\v17<(l0.length:Int)))&&true) then (bif (Nat.beq 3 3&&((decide (0+v3.length=v3.length))&&decide ((v3.length+2+1)*(24+1)<=CF))) then (.to (.h1 (v3++[(R3.mk (rd l0 v17.toNat).a 0 1),(R3.mk (rd l0 v17.toNat).b 0 (-1))]) (wrap .i64 (v17+1)))) else .stuck) else .stuck) else (bif (DZ (B3 v3)) then (bif (decide (v3.length<4611686018427387904)) then (bif (decide (v3.length=v3.length)) then (.to (.h2 (Cj (B3 v3)) (v3.length:Int) 0 0 0 0 false ([]:List R2))) else .stuck) else .stuck) else .stuck))
 | .h2 v5 v6 v7 aD bV aX aH aB=>(bif (decide (v7<v6)) then (bif ((decide (0<=v7/\v7<(v5.length:Int)))&&true) then (bif (decide ((0+v7.toNat)<v5.length)) then (bif (!aH) then (bif (decide ((rd v5 (0+v7.toNat)).b =Int.ofNat 0)) then (.to (.h2 v5 v6 (wrap .i64 (v7+1)) (wrap .i64 (aD+(rd v5 (0+v7.toNat)).c)) bV (rd v5 (0+v7.toNat)).a (FH (decide ((wrap .i64 (aD+(rd v5 (0+v7.toNat)).c))>0)) (decide (bV>0))) aB)) else (bif (decide ((rd v5 (0+v7.toNat)).b =Int.ofNat 1)) then (.to (.h2 v5 v6 (wrap .i64 (v7+1)) aD (wrap .i64 (bV+(rd v5 (0+v7.toNat)).c)) (rd v5 (0+v7.toNat)).a (FH (decide (aD>0)) (decide ((wrap .i64 (bV+(rd v5 (0+v7.toNat)).c))>0))) aB)) else .stuck)) else (bif (aX == (rd v5 (0+v7.toNat)).a) then (bif (decide ((rd v5 (0+v7.toNat)).b =Int.ofNat 0)) then (.to (.h2 v5 v6 (wrap .i64 (v7+1)) (wrap .i64 (aD+(rd v5 (0+v7.toNat)).c)) bV (rd v5 (0+v7.toNat)).a (FH (decide ((wrap .i64 (aD+(rd v5 (0+v7.toNat)).c))>0)) (decide (bV>0))) aB)) else (bif (decide ((rd v5 (0+v7.toNat)).b =Int.ofNat 1)) then (.to (.h2 v5 v6 (wrap .i64 (v7+1)) aD (wrap .i64 (bV+(rd v5 (0+v7.toNat)).c)) (rd v5 (0+v7.toNat)).a (FH (decide (aD>0)) (decide ((wrap .i64 (bV+(rd v5 (0+v7.toNat)).c))>0))) aB)) else .stuck)) else (bif (decide ((aB.length:Int)>0)) then (bif ((decide (0<=(wrap .i64 ((aB.length:Int) - 1))/\(wrap .i64 ((aB.length:Int) - 1))<(aB.length:Int)))&&true) then (bif (decide ((0+(Int.toNat (wrap .i64 ((aB.length:Int) - 1))))<aB.length)) then (bif ((rd aB (0+(Int.toNat (wrap .i64 ((aB.length:Int) - 1))))).b == aX) then (bif (decide ((rd v5 (0+v7.toNat)).b =Int.ofNat 0)) then (.to (.h2 v5 v6 (wrap .i64 (v7+1)) (wrap .i64 (aD+(rd v5 (0+v7.toNat)).c)) bV (rd v5 (0+v7.toNat)).a (FH (decide ((wrap .i64 (aD+(rd v5 (0+v7.toNat)).c))>0)) (decide (bV>0))) (aB.set (0+(Int.toNat (wrap .i64 ((aB.length:Int) - 1)))) (R2.mk (rd aB (0+(Int.toNat (wrap .i64 ((aB.length:Int) - 1))))).a (rd v5 (0+v7.toNat)).a)))) else (bif (decide ((rd v5 (0+v7.toNat)).b =Int.ofNat 1)) then (.to (.h2 v5 v6 (wrap .i64 (v7+1)) aD (wrap .i64 (bV+(rd v5 (0+v7.toNat)).c)) (rd v5 (0+v7.toNat)).a (FH (decide (aD>0)) (decide ((wrap .i64 (bV+(rd v5 (0+v7.toNat)).c))>0))) (aB.set (0+(Int.toNat (wrap .i64 ((aB.length:Int) - 1)))) (R2.mk (rd aB (0+(Int.toNat (wrap .i64 ((aB.length:Int) - 1))))).a (rd v5 (0+v7.toNat)).a)))) else .stuck)) else (bif (Nat.beq 2 2&&((decide (0+aB.length=aB.length))&&decide ((aB.length+1+1)*(16+1)<=CF))) then (bif (decide ((rd v5 (0+v7.toNat)).b =Int.ofNat 0)) then (.to (.h2 v5 v6 (wrap .i64 (v7+1)) (wrap .i64 (aD+(rd v5 (0+v7.toNat)).c)) bV (rd v5 (0+v7.toNat)).a (FH (decide ((wrap .i64 (aD+(rd v5 (0+v7.toNat)).c))>0)) (decide (bV>0))) (aB++[(R2.mk aX (rd v5 (0+v7.toNat)).a)]))) else (bif (decide ((rd v5 (0+v7.toNat)).b =Int.ofNat 1)) then (.to (.h2 v5 v6 (wrap .i64 (v7+1)) aD (wrap .i64 (bV+(rd v5 (0+v7.toNat)).c)) (rd v5 (0+v7.toNat)).a (FH (decide (aD>0)) (decide ((wrap .i64 (bV+(rd v5 (0+v7.toNat)).c))>0))) (aB++[(R2.mk aX (rd v5 (0+v7.toNat)).a)]))) else .stuck)) else .stuck)) else .stuck) else .stuck) else (bif (Nat.beq 2 2&&((decide (0+aB.length=aB.length))&&decide ((aB.length+1+1)*(16+1)<=CF))) then (bif (decide ((rd v5 (0+v7.toNat)).b =Int.ofNat 0)) then (.to (.h2 v5 v6 (wrap .i64 (v7+1)) (wrap .i64 (aD+(rd v5 (0+v7.toNat)).c)) bV (rd v5 (0+v7.toNat)).a (FH (decide ((wrap .i64 (aD+(rd v5 (0+v7.toNat)).c))>0)) (decide (bV>0))) (aB++[(R2.mk aX (rd v5 (0+v7.toNat)).a)]))) else (bif (decide ((rd v5 (0+v7.toNat)).b =Int.ofNat 1)) then (.to (.h2 v5 v6 (wrap .i64 (v7+1)) aD (wrap .i64 (bV+(rd v5 (0+v7.toNat)).c)) (rd v5 (0+v7.toNat)).a (FH (decide (aD>0)) (decide ((wrap .i64 (bV+(rd v5 (0+v7.toNat)).c))>0))) (aB++[(R2.mk aX (rd v5 (0+v7.toNat)).a)]))) else .stuck)) else .stuck)))) else .stuck) else .stuck) else (.ret [(.dat aB.length (Zz aB)),(.int .i64 0)]))
def ZO (l0:List R2):Xz Hz:=(bif (decide ((l0.length:Int)>400)) then (.ret [.nils,(.int .i64 4)]) else (.to (.h0 0)))
theorem v0p (l0:List R2): ∀s,Xw prog (Zy prog 156) (O8 l0) (O8 l0 s) (Jh l0 s)
 | .h0 v8=>let b:=fl ([]:List R3) nn;(lb (fun k0=>(lo fun aE=>let a:=ww aE (tt k0 nn);(lb (fun k1=>(lb (fun k2=>let c:=tt k2 (tt k1 a);(lb (fun k3=>(lb (fun k4=>(lr 11 156 [1,1,0,1,0,0] 1 14 [(2,.nils),(3,(ii 8))] (sl D5 79 [] (a8 [2,3]) a6 (CA 9 []) (tt k4 (tt k3 c))))) (fun k4=>(sl D5 154 [(227,3,Zz ([]:List R3))] ⟨[8,2,3,4,5,6,7,9],[],VA,Ul⟩ ⟨[(3,.grow 7 3)],[],[]⟩ (CA 8 (bl 2 2)) (pp b (tt k4 (tt k3 c))))))) (fun k3=>(sl D5 69 [] ⟨[],[],K2,K3⟩ a6 (CA 7 [false]) (tt k3 c))))) (fun k2=>let d:=tt k2 (tt k1 a);(lb (fun k3=>(lr 11 156 [1,1,0,1,0,0] 1 14 [(2,.nils),(3,(ii 8))] (sl D5 79 [] (a8 [2,3]) a6 (CA 4 (bl 5 24)) (tt k3 d)))) (fun k3=>(sl D5 154 [(227,3,Zz ([]:List R3))] ⟨[8,2,3,4,5,6,7,9],[],VA,Ul⟩ ⟨[(3,.grow 7 3)],[],[]⟩ (CA 4 (bl 6 40)) (pp b (tt k3 d)))))))) (fun k1=>(lb (fun k2=>(lr 11 156 [1,1,0,1,0,0] 1 14 [(2,.nils),(3,(ii 8))] (sl D5 79 [] (a8 [2,3]) a6 (bl 9 385) (tt k2 (tt k1 a))))) (fun k2=>(sl D5 154 [(227,3,Zz ([]:List R3))] ⟨[8,2,3,4,5,6,7,9],[],VA,Ul⟩ ⟨[(3,.grow 7 3)],[],[]⟩ (bl 10 641) (pp b (tt k2 (tt k1 a)))))))))) (fun k0=>(sl D5 98 [(227,3,Zz ([]:List R3))] ⟨[6,0,1,2,3,4,5,7],[],VA,Ul⟩ ⟨[(3,.grow 7 3)],[],[]⟩ (bl 3 4) (pp b (tt k0 nn)))))
 | .h1 v3 v17=>(lb (fun k0=>(lo fun o0=>(lo fun o1=>let d:=xL (v3.length+2) (x1c v3 l0 v17).length;let f:=x1c v3 l0 v17;(sl D5 36 [] ⟨[0,1,2,3,4,5,6,10],[],VA,Ul⟩ ⟨[(3,.len f.length)],(Cl 7 [.rowed 3 f.length (Zz f)]),[]⟩ [true] (pp d (pp d (pp (xS (v3.length+2) (Zt (Zz v3) 0 v3.length 3 [(ii (rd l0 (tn v17)).a),(ii 0),(ii 1),(ii (rd l0 (tn v17)).b),(ii 0),(ii (-1))]) (Zz (x1c v3 l0 v17))) (pp (pp (xF (Zt (Zz v3) 0 v3.length 3 [(ii (rd l0 (tn v17)).a),(ii 0),(ii 1),(ii (rd l0 (tn v17)).b),(ii 0),(ii (-1))])) nn) (ww o1 (ww o0 (tt k0 nn))))))))))) (fun k0=>(lo fun o0=>(lo fun o1=>(lo fun o2=>let c:=xL v3.length (Cj (B3 v3)).length (by first | exact y0m _ | exact Uu rfl);let e:=Cj (B3 v3);let g:=xG (Nat.beq 3 3);(sl D5 92 [(176,2,Zz ([]:List R2))] ⟨[9,1,2,4,5,6,3,7,10],[],Gd,Gc⟩ ⟨[(5,.len e.length)],(Cl 6 [.cells [.grow 8 2],.rowed 3 e.length (Zz e),.keep]),[]⟩ (bl 4 2) (pp c (pp c (pp (xS v3.length (Zz (Cj (B3 v3))) (Zz (Cj (B3 v3)))) (pp (fl e (fl ([]:List R2) nn)) (pp (pp g (pp g (pp (xG (Nat.beq 0 0)) (pp (pp (xG (decide (v3.length=v3.length))) (pp (xr v3) (xG (decide (v3.length<4611686018427387904))))) (xG (DZ (B3 v3))))))) (tt k0 nn))))))))))))
 | .h2 v5 v6 v7 aD bV aX aH aB=>(lb (fun k0=>(lo fun aE=>(lo fun bI=>let i:=List.range 9;let j:=fl v5 (fl aB nn);let l:=ww bI (ww aE (tt k0 nn));(lb (fun k1=>(lb (fun k2=>(sl D5 62 [] ⟨i,[],Gd,Gc⟩ a6 (CA 5 (bl 3 0)) (pp j (ww k2 (tt k1 l))))) (fun k2=>(lb (fun k3=>(sl D5 62 [] ⟨i,[],Gd,Gc⟩ a6 (CA 6 (bl 4 2)) (pp j (ww k3 (tt k1 l))))) (fun k3=>trivial))))) (fun k1=>let d:=tt k1 l;(lb (fun k2=>(lb (fun k3=>(sl D5 62 [] ⟨i,[],Gd,Gc⟩ a6 (bl 8 17) (pp j (ww k3 (tt k2 d))))) (fun k3=>(lb (fun k4=>(sl D5 62 [] ⟨i,[],Gd,Gc⟩ a6 (bl 10 177) (pp j (ww k4 (tt k2 d))))) (fun k4=>trivial))))) (fun k2=>let r:=Jm aB aX v5 v7;let c:=Cl 6 [.cells [.len r.length],.keep,.rowed 2 r.length (Zz r)];(lb (fun k3=>(lo fun bZ=>(lo fun cQ=>let g:=ww cQ (ww bZ (tt k3 (tt k2 d)));(lb (fun k4=>let q:=tn (wr ((aB.length:Int) - 1));let b:=aB.set (0+q) (R2.mk (rd aB (0+q)).a (rd v5 (0+(tn v7))).a);let h:=Cl 6 [.cells [.len b.length],.keep,.rowed 2 b.length (Zz b)];let s:=ww cQ (ww bZ (tt k4 g));(lb (fun k5=>let f:=xL aB.length (aB.set (0+(tn (wr ((aB.length:Int) - 1)))) (R2.mk (rd aB (0+(tn (wr ((aB.length:Int) - 1))))).a (rd v5 (0+(tn v7))).a)).length;(sl D5 81 [] ⟨i,[],Gd,Gc⟩ ⟨[],h,[]⟩ (bl 17 16353) (pp f (pp f (pp (xS aB.length (Xa (Zz aB) (0+(tn (wr ((aB.length:Int) - 1)))) 1 [(ii (rd v5 (0+(tn v7))).a)]) (Zz (aB.set (0+(tn (wr ((aB.length:Int) - 1)))) (R2.mk (rd aB (0+(tn (wr ((aB.length:Int) - 1))))).a (rd v5 (0+(tn v7))).a)))) (pp (fl v5 (pp (xF (Xa (Zz aB) (0+(tn (wr ((aB.length:Int) - 1)))) 1 [(ii (rd v5 (0+(tn v7))).a)])) nn)) (ww k5 s))))))) (fun k5=>(lb (fun k6=>let e:=xL aB.length (aB.set (0+(tn (wr ((aB.length:Int) - 1)))) (R2.mk (rd aB (0+(tn (wr ((aB.length:Int) - 1))))).a (rd v5 (0+(tn v7))).a)).length;(sl D5 81 [] ⟨i,[],Gd,Gc⟩ ⟨[],h,[]⟩ (bl 19 98273) (pp e (pp e (pp (xS aB.length (Xa (Zz aB) (0+(tn (wr ((aB.length:Int) - 1)))) 1 [(ii (rd v5 (0+(tn v7))).a)]) (Zz (aB.set (0+(tn (wr ((aB.length:Int) - 1)))) (R2.mk (rd aB (0+(tn (wr ((aB.length:Int) - 1))))).a (rd v5 (0+(tn v7))).a)))) (pp (fl v5 (pp (xF (Xa (Zz aB) (0+(tn (wr ((aB.length:Int) - 1)))) 1 [(ii (rd v5 (0+(tn v7))).a)])) nn)) (ww k6 s))))))) (fun k6=>trivial))))) (fun k4=>(lo fun cJ=>let u:=ww cJ (tt k4 g);(lb (fun k5=>let n:=xL (aB.length+1) (Jm aB aX v5 v7).length;(sl D5 81 [] ⟨[0,1,2,3,4,5,6,7,12],[],Gd,Gc⟩ ⟨[],c,[]⟩ (bl 17 8161) (pp n (pp n (pp (xS (aB.length+1) (KI aB aX v5 v7) (Zz (Jm aB aX v5 v7))) (pp (fl v5 (pp (xF (KI aB aX v5 v7)) nn)) (ww k5 u))))))) (fun k5=>(lb (fun k6=>let p:=xL (aB.length+1) (Jm aB aX v5 v7).length;(sl D5 81 [] ⟨[0,1,2,3,4,5,6,7,12],[],Gd,Gc⟩ ⟨[],c,[]⟩ (bl 19 90081) (pp p (pp p (pp (xS (aB.length+1) (KI aB aX v5 v7) (Zz (Jm aB aX v5 v7))) (pp (fl v5 (pp (xF (KI aB aX v5 v7)) nn)) (ww k6 u))))))) (fun k6=>trivial)))))))))) (fun k3=>(lo fun bZ=>let t:=ww bZ (tt k3 (tt k2 d));(lb (fun k4=>let m:=xL (aB.length+1) (Jm aB aX v5 v7).length;(sl D5 81 [] ⟨[0,1,2,3,4,5,6,7,12],[],Gd,Gc⟩ ⟨[],c,[]⟩ (bl 17 1) (pp m (pp m (pp (xS (aB.length+1) (KI aB aX v5 v7) (Zz (Jm aB aX v5 v7))) (pp (fl v5 (pp (xF (KI aB aX v5 v7)) nn)) (ww k4 t))))))) (fun k4=>(lb (fun k5=>let o:=xL (aB.length+1) (Jm aB aX v5 v7).length;(sl D5 81 [] ⟨[0,1,2,3,4,5,6,7,12],[],Gd,Gc⟩ ⟨[],c,[]⟩ (bl 19 81921) (pp o (pp o (pp (xS (aB.length+1) (KI aB aX v5 v7) (Zz (Jm aB aX v5 v7))) (pp (fl v5 (pp (xF (KI aB aX v5 v7)) nn)) (ww k5 t))))))) (fun k5=>trivial)))))))))))))) (fun k0=>(lr 11 3 [1,1,1,1,0] 1 14 [(2,(.dat aB.length (Zz aB))),(3,(ii 0))] (sl D5 19 [] ⟨[],[8],[some [2,3]],[]⟩ ⟨[(2,.frz aB.length aB.length (Zz aB) (Zz aB))],[],[]⟩ [false] (pp (xZ (Cm 2 2 0 aB.length aB.length (Zz aB)) aB.length (Zz aB)) (pp (xL aB.length aB.length) (pp (xS aB.length (Zz aB) (Zz aB)) (pp (fl aB nn) (tt k0 nn)))))))))
theorem w0l (l0:List R2):Xw prog (Zy prog 156) (O8 l0) (Zm prog 156 [(.dat l0.length (Zz l0))] true []) (ZO l0):=(lb (fun k0=>(lr 11 156 [1,0,1,0,0] 1 14 [(2,.nils),(3,(ii 4))] (sl D5 18 [] (a8 [2,3]) a6 [true] (tt k0 nn)))) (fun k0=>(sl D5 41 [] ⟨[],[],K2,K3⟩ a6 [false] (tt k0 nn))))
theorem u4i (l0:List R2) (n:Nat) (vs:List B2) (h:Zo (Jh l0) n (ZO l0)=.ret vs):Uj prog (Zy prog 156) (Zm prog 156 [(.dat l0.length (Zz l0))] true []) vs:=by have:=Zb (v0p l0) n _ (w0l l0);rwa [h] at this
def C7 (s:R2):Bool:=decide (s.a<s.b)&&(decide (s.a>= -1000000)&&decide (s.b<=1000000))
def DR (l:List R2):List R3:=l.flatMap fun s=>[⟨s.a,0,1⟩,⟨s.b,0,-1⟩]
def Jx (out:List R2) (last:Int) (inn:Bool) (at':Int):List R2:=
 bif !inn then out else bif last == at' then out else
 bif decide (0<out.length)&&((rd out (out.length - 1)).b == last) then out.set (out.length - 1) ⟨(rd out (out.length - 1)).a,at'⟩ else out++[⟨last,at'⟩]
def HR :List R3->Int->Int->Bool->List R2->List R2
 | [],_,_,_,out=>out
 | e::r,o,last,inn,out=>HR r (o+e.c) e.a (decide (o+e.c>0)) (Jx out last inn e.a)
def EH (l:List R2):List R2:=HR (Cj (DR l)) 0 0 false []
def Ww (l:List R2):List R2:=bif decide (400<l.length) then [] else bif l.all C7 then EH l else []
def j1f (l:List R2):Int:=bif decide (400<l.length) then 4 else bif l.all C7 then 0 else 8
def y7g (l:List R2):Bool:=true
def U6 (l:List R2):List B2:=bif decide (400<l.length) then [.nils,.int .i64 4] else bif l.all C7 then [.dat (EH l).length (Zz (EH l)),.int .i64 0] else [.nils,.int .i64 8]
theorem z6s (l:List R2):(DR l).length =2*l.length:=by
 induction l with
 | nil=>rfl
 | cons r l ih=>grind [DR]
theorem z5b (out:List R2) (last:Int) (inn:Bool) (a:Int):(Jx out last inn a).length <=out.length+1:=by grind [Jx]
theorem ZR (e:R3) (r:List R3) (o last:Int) (inn:Bool) (out:List R2):HR (e::r) o last inn out=HR r (o+e.c) e.a (decide (o+e.c>0)) (Jx out last inn e.a):=rfl
theorem t1f {a:Int} (k:Nat) (h:a=(k:Int)):decide (a=Int.ofNat k)=true:=by grind
section
variable (l:List R2) (hl:l.length<=400)
include hl
theorem j1b (L:List R3) (hL:L.length<=800) (hE: ∀i,i<L.length->(rd L i).b =0/\((rd L i).c =1\/(rd L i).c = -1)): ∀(k i:Nat) (o last:Int) (inn:Bool) (out:List R2),i+k=L.length-> -(i:Int)<=o->o<=i->out.length<=i->
  ∃n,Zo (Jh l) n (.to (.h2 L (L.length:Int) (i:Int) o 0 last inn out))=.ret [.dat (HR (L.drop i) o last inn out).length (Zz (HR (L.drop i) o last inn out)),.int .i64 0]
 | 0,i,o,last,inn,out,h,ho1,ho2,hout=>by
  have _uhl:=hl;refine ⟨1,?_⟩
  grind [Zx,Jh,Zp,HR]
 | k +1,i,o,last,inn,out,h,ho1,ho2,hout=>by
  obtain ⟨hb,hc⟩:=hE i (by omega);have hcl:=z5b out last inn (rd L i).a;obtain ⟨n,hn⟩:=j1b L hL hE k (i+1) (o+(rd L i).c) (rd L i).a (decide (o+(rd L i).c >0)) (Jx out last inn (rd L i).a) (by omega) (by grind) (by grind) (by omega);refine ⟨n+1,?_⟩;rw [Yg (show i<L.length by omega),Zx];have hf: ∀b,FH b (decide ((0:Int)>0))=b:=fun b=>rfl;have hw:wrap .i64 (o+(rd L i).c)=o+(rd L i).c :=Zj (by grind);rw [ZR];have hf': ∀b,FH b false=b:=fun b=>rfl;have hz:=t1f 0 hb;unfold Jx at hn ⊢;cases inn with
  | false=>simp only [AB,Ab] at hn ⊢;simp (disch:=omega) only [Jh,AB,hz,hw,hf,hf',Yy,Yz,Yu,Zj,Zw,Zk,Af,Ah,Ab];exact hn
  | true=>
   simp only [Ay,Aa] at hn ⊢;rcases Zs (last == (rd L i).a) with q | q
   .rw [q] at hn ⊢;simp only [Ab] at hn ⊢;simp (disch:=omega) only [Jh,Ay,q,hz,hw,hf,hf',Yy,Yz,Yu,Zj,Zw,Zk,Af,Ah,Ab,Aa];exact hn
   .rw [q] at hn ⊢;simp only [Aa] at hn ⊢;by_cases h0:0<out.length
    .rw [Al h0,Ai] at hn ⊢;rcases Zs ((rd out (out.length - 1)).b == last) with q2 | q2
     .rw [q2] at hn ⊢;simp only [Ab] at hn ⊢;simp (disch:=omega) only [Jh,Ay,q,q2,hz,hw,hf,hf',Yy,Yt,Yz,Yu,Zj,Zw,Zk,Zn,Af,Ah,Ab,Aa];exact hn
     .rw [q2] at hn ⊢;simp only [Aa] at hn ⊢;simp (disch:=omega) only [Jh,Ay,q,q2,hz,hw,hf,hf',Yy,Yt,Yz,Yu,Yk,Zh,Yc,Ao,Zj,Zw,Zk,Zn,Af,Ah,Ai,Ab,Aa];exact hn
    .rw [Av h0,Be] at hn ⊢;simp only [Aa] at hn ⊢;simp (disch:=omega) only [Jh,Ay,q,hz,hw,hf,hf',Yy,Wu,Yz,Yu,Yk,Zh,Yc,Ao,Zj,Zw,Zk,Af,Ah,Ai,Ab,Aa];exact hn
theorem u2c (h:l.all C7=true): ∀e∈DR l,Re e=true/\e.b=0/\(e.c=1\/e.c= -1):=by
 have _uhl:=hl;intro e he;obtain ⟨s,hs,h1⟩:=AK.1 he;have hv:=At.1 h s hs;simp only [C7,Ae,Ar] at hv;simp only [AH,Bo,B1] at h1;rcases h1 with rfl | rfl
 .exact ⟨Al (by grind),rfl,.inl rfl⟩
 .exact ⟨Al (by grind),rfl,.inr rfl⟩
theorem j1c (hv:l.all C7=true): ∀(k i:Nat) (acc:List R3),i+k=l.length->acc=DR (l.take i)-> ∃n,Zo (Jh l) n (.to (.h1 acc (i:Int)))=.ret [.dat (EH l).length (Zz (EH l)),.int .i64 0]
 | 0,i,acc,h,ha=>by
  have e:acc=DR l:=by grind
  subst e;have hle:=z6s l;have fF:=u2c l hl hv;have hb:DZ (DR l)=true:=At.2 fun e he=>(fF e he).1;obtain ⟨hp,_⟩:=J8 (DR l) hb;have hpl:=hp.length_eq;obtain ⟨n,hn⟩:=j1b l hl (Cj (DR l)) (by omega) (fun i hi=>by
   grind [Yo]) (Cj (DR l)).length 0 0 0 false [] (Af _) (by omega) (by omega) (AA _)
  refine ⟨n+1,?_⟩;rw [Zx];simp (disch:=omega) only [Jh,Zd,Zq,hb,Yh,Yu,Yk,Ao,Ab,Aa];rw [<-hpl];simp only [Du,AS] at hn;exact hn
 | k+1,i,acc,h,ha=>by
  have hle:=z6s (l.take i);have gD:acc.length<=2*i:=by grind
  obtain ⟨n,hn⟩:=j1c hv k (i+1) (acc++DR [rd l i]) (by omega) (by
   rw [ha,AW]
   grind [Yo,DR])
  refine ⟨n+1,?_⟩;rw [Zx];simp (disch:=omega) only [Jh,Yy,Yz,Yd,Yk,Zh,Yc,Ao,Zj,Zw,Zk,Af,Ah,Ai,Ab];exact hn
theorem j1d : ∀(k i:Nat),i+k=l.length->(∀s∈l.take i,C7 s=true)-> ∃n,Zo (Jh l) n (.to (.h0 (i:Int)))=.ret (bif l.all C7 then [.dat (EH l).length (Zz (EH l)),.int .i64 0] else [.nils,.int .i64 8])
 | 0,i,h,ht=>by
  have hv:l.all C7=true:=At.2 fun s hs=>ht s (by grind);obtain ⟨n,hn⟩:=j1c l hl hv l.length 0 [] (Af _) rfl;refine ⟨n+1,?_⟩
  grind [Zx,Jh]
 | k+1,i,h,ht=>by
  have hi:i<l.length:=by omega
  rcases Zs (C7 (rd l i)) with q | q
  .obtain ⟨n,hn⟩:=j1d k (i+1) (by omega) (fun s hs=>by
    rw [AW] at hs
    grind [Yo])
   refine ⟨n+1,?_⟩
   grind [Zx,C7,Jh,Zj]
  .have hv:l.all C7=false:=A3.2 fun e=>by
    grind [Yo]
   refine ⟨1,?_⟩;rw [Zx,hv,Aa];unfold C7 at q;rcases Zs (decide ((rd l i).a <(rd l i).b)) with q1 | q1 <;> rcases Zs (decide ((rd l i).a >= -1000000)) with q2 | q2 <;> rcases Zs (decide ((rd l i).b <=1000000)) with q3 | q3 <;>
    rw [q1,q2,q3] at q <;> first
    | (exfalso;revert q;decide)
    | simp (disch:=omega) only [Jh,q1,q2,q3,Yy,WN,Yz,Zj,Zw,Zk,Ay,AB,Ah,Ab,Aa,Zp]
end
theorem j7u (l:List R2): ∃n,Zo (Jh l) n (ZO l)=.ret (U6 l):=by
 unfold ZO U6;by_cases h:400<l.length
 .refine ⟨0,?_⟩;rw [Al h,Yt (show (l.length:Int)>400 by omega)];rfl
 .obtain ⟨n,hn⟩:=j1d l (by omega) l.length 0 (Af _) (fun s hs=>by simp at hs)
  grind
def QF :List B2->Option (B2×Bool)
 | [a1]=>match CS R2 a1 with
  | some (L1,g1,n1)=>some (.tup [.dat (Ww L1).length (Zz (Ww L1)),.int .i64 (j1f L1)],CO R2 n1 g1&&y7g L1)
  | _=>none
 | _=>none
theorem t2u {S:B4} (hS:Zv prog S):Zv prog (S.with x7u QF):=by
 refine Em hS (by kernel_rfl) fun args v h=> ?_;unfold QF at h;split at h
 .rename_i a1;split at h
  .rename_i L1 g1 n1 e1;simp only [Ad,Ac,Ae] at h;obtain ⟨rfl,ho1,hw⟩:=h;obtain ⟨N,hN⟩:=j7u L1;refine ⟨_,U6 L1,(.cons (Yn e1 ho1) .nil),?_,u4i L1 N _ hN,3,?_⟩
   .unfold Ww j1f U6;cases decide (400<L1.length) <;> simp only [Ab,Aa]
    .cases L1.all C7 <;> simp only [Ab,Aa]
     .exact fun ρ u hu=>GW (.cons (G4 R2) (DL.refl _)) ρ u hu
     .exact fun ρ u hu=>hu
    .exact fun ρ u hu=>GW (.cons (G4 R2) (DL.refl _)) ρ u hu
   .unfold U6;cases decide (400<L1.length) <;> simp only [Ab,Aa]
    .cases L1.all C7 <;> rfl
    .rfl
  .cases h
 .cases h
def T6 :B4:=T5.with x7u QF
theorem Qc :Zv prog T6:=t2u D5
theorem S6 {γ:Type} (a b:Bool) (x y:γ):(bif a&&b then x else y)=bif a then (bif b then x else y) else y:=by grind
theorem S7 {γ:Type} (a:Bool) (x y:γ):(bif !a then x else y)=bif a then y else x:=by grind
structure CJ (α β:Type) where
 lo:α->Int
 hi:α->Int
 pr:α->β
 put:Int->Int->β->α
 ext:Int->α->α
 mak:List β->List β
 same:List β->List β->Bool
structure Sw (α β:Type) where
 out:List α
 last:List β
 first:Nat
 fin:Int
def Kz (zs:List Int):List Int:=compact (Xm zs)
theorem NH (zs:List Int):GN (Xm zs)=(Kz zs).length :=rfl
theorem Uz (zs:List Int):(Xm zs).length =zs.length:=List.length_mergeSort zs
theorem x5q (zs:List Int):(Kz zs).length <=zs.length:=by have:=compact_length_le (Xm zs);rw [Uz] at this;exact this
theorem GC (zs:List Int) (i:Nat) (h:i<(Kz zs).length):rd (Wk (Xm zs)) i=rd (Kz zs) i:=by
 change i<(compact (Xm zs)).length at h;show rd (compact (Xm zs)++_) i=rd (compact (Xm zs)) i
 grind [Yo]
theorem N8 (zs:List Int):Yq zs.length (CP (Zz (Xm zs)))=Xm zs:=by grind [Jo,Uz]
namespace CJ
variable {α β:Type} (D:CJ α β) (l:List α)
def ends :List Int:=l.flatMap fun r=>[D.lo r,D.hi r]
def cuts :List Int:=Kz (D.ends l)
def inn (x:Int):List β:=(l.filter fun r=>decide (D.lo r<=x)&&decide (x<D.hi r)).map D.pr
def sec (x:Int):List β:=D.mak (D.inn l x)
def grow (out:List α) (k:Nat) (x:Int):List α:=out.take k++(out.drop k).map (D.ext x)
def one (x x':Int) (s:Sw α β):Sw α β:=
 bif decide (0<(D.sec l x).length)&&((s.fin == x)&&D.same s.last (D.sec l x)) then ⟨D.grow s.out s.first x',s.last,s.first,x'⟩
 else ⟨s.out++(D.sec l x).map (D.put x x'),D.sec l x,s.out.length,x'⟩
def go :Nat->Nat->Sw α β->Sw α β
 | 0,_,s=>s
 | k+1,i,s=>go k (i+1) (D.one l (rd (D.cuts l) i) (rd (D.cuts l) (i+1)) s)
def out :List α:=(D.go l ((D.cuts l).length - 1) 0 ⟨[],[],0,0⟩).out
theorem ends_length :(D.ends l).length =2*l.length:=by
 induction l with
 | nil=>rfl
 | cons r l ih=>show (_::_::D.ends l).length =_;grind
theorem cuts_length :(D.cuts l).length <=2*l.length:=by have:=x5q (D.ends l);rw [D.ends_length] at this;exact this
theorem ends_append (m:List α):D.ends (l++m)=D.ends l++D.ends m:=by simp [ends]
theorem inn_append (m:List α) (x:Int):D.inn (l++m) x=D.inn l x++D.inn m x:=by simp [inn]
theorem inn_length (x:Int):(D.inn l x).length <=l.length:=by grind [inn]
theorem inn_t (r:α) (x:Int) (h1:D.lo r<=x) (h2:x<D.hi r):D.inn [r] x=[D.pr r]:=by simp [inn,h1,h2]
theorem inn_f1 (r:α) (x:Int) (h1: ¬D.lo r<=x):D.inn [r] x=[]:=by simp [inn,h1]
theorem inn_f2 (r:α) (x:Int) (h1: ¬x<D.hi r):D.inn [r] x=[]:=by simp [inn,h1]
theorem grow_nil (out:List α) (k:Nat) (x:Int) (h:out.length<=k):D.grow out k x=out:=by unfold grow;rw [As h,Bi,AE,A2 h]
theorem grow_length (out:List α) (k:Nat) (x:Int):(D.grow out k x).length =out.length:=by unfold grow;simp;omega
theorem grow_set [Xc α] (out:List α) (j:Nat) (x:Int) (h:j<out.length):D.grow (out.set j (D.ext x (rd out j))) (j+1) x=D.grow out j x:=by
 unfold grow;rw [Yg h,AT];have e1:(out.set j (D.ext x (rd out j))).take (j+1)=out.take j++[D.ext x (rd out j)]:=by
  apply BJ;all_goals grind
 have e2:(out.set j (D.ext x (rd out j))).drop (j+1)=out.drop (j+1):=by rw [List.drop_set];grind
 grind
theorem one_length (x x':Int) (s:Sw α β):(D.one l x x' s).out.length <=s.out.length+(D.sec l x).length :=by grind [one,grow_length]
end CJ
open Go.Proofs.Tryz
open Go.Proofs
inductive Hm where
def ON (aI:Int) (aL:Int) (aM:Int) (aS:Int):Hm->CB
 :=nofun
def x9t (aI:Int) (aL:Int) (aM:Int) (aS:Int):Hm->Xz Hm
 :=nofun
def ZU (aI:Int) (aL:Int) (aM:Int) (aS:Int):Xz Hm:=(bif (decide (aI<aM)) then (bif (decide (aL<aS)) then (bif (decide (aI>=(-1000000))) then (bif (decide (aI<=1000000)) then (bif (decide (aM>=(-1000000))) then (bif (decide (aM<=1000000)) then (bif (decide (aL>=(-1000000))) then (bif (decide (aL<=1000000)) then (bif (decide (aS>=(-1000000))) then (.ret [(.bool (decide (aS<=1000000)))]) else (.ret [(.bool false)])) else (.ret [(.bool false)])) else (.ret [(.bool false)])) else (.ret [(.bool false)])) else (.ret [(.bool false)])) else (.ret [(.bool false)])) else (.ret [(.bool false)])) else (.ret [(.bool false)])) else (.ret [(.bool false)]))
theorem v0c (aI:Int) (aL:Int) (aM:Int) (aS:Int): ∀s,Xw prog (Zy prog 116) (ON aI aL aM aS) (ON aI aL aM aS s) (x9t aI aL aM aS s)
 :=nofun
theorem x9u (aI:Int) (aL:Int) (aM:Int) (aS:Int):Xw prog (Zy prog 116) (ON aI aL aM aS) (Zm prog 116 [(.agg [(.int .i64 aI),(.int .i64 aL),(.int .i64 aM),(.int .i64 aS)])] true []) (ZU aI aL aM aS):=(lb (fun k0=>(lb (fun k1=>let c:=tt k1 (tt k0 nn);(lb (fun k2=>(lb (fun k3=>let a:=tt k3 (tt k2 c);(lb (fun k4=>(lb (fun k5=>let d:=tt k5 (tt k4 a);(lb (fun k6=>let b:=tt k6 d;(lb (fun k7=>(lb (fun k8=>(lr 35 3 [1,1,1,1,0] 1 9 [(2,(.bool (decide (aS<=1000000))))] (sl Qc 101 [] (a8 [2]) a6 (CA 25 []) (tt k8 (tt k7 b))))) (fun k8=>(lr 35 3 [1,1,1,1,0] 1 9 [(2,(.bool false))] (sl Qc 101 [] (a8 [2]) a6 (CA 23 (bl 2 0)) (tt k8 (tt k7 b))))))) (fun k7=>(lr 35 3 [1,1,1,1,0] 1 9 [(2,(.bool false))] (sl Qc 86 [] (a8 [2]) a6 (CA 20 (bl 3 0)) (tt k7 b)))))) (fun k6=>(lr 35 3 [1,1,1,1,0] 1 9 [(2,(.bool false))] (sl Qc 86 [] (a8 [2]) a6 (CA 18 (bl 5 0)) (tt k6 d)))))) (fun k5=>(lr 35 3 [1,1,1,1,0] 1 9 [(2,(.bool false))] (sl Qc 71 [] (a8 [2]) a6 (CA 15 (bl 6 0)) (tt k5 (tt k4 a))))))) (fun k4=>(lr 35 3 [1,1,1,1,0] 1 9 [(2,(.bool false))] (sl Qc 71 [] (a8 [2]) a6 (CA 13 (bl 8 0)) (tt k4 a)))))) (fun k3=>(lr 35 3 [1,1,1,1,0] 1 9 [(2,(.bool false))] (sl Qc 56 [] (a8 [2]) a6 (CA 10 (bl 9 0)) (tt k3 (tt k2 c))))))) (fun k2=>(lr 35 3 [1,1,1,1,0] 1 9 [(2,(.bool false))] (sl Qc 56 [] (a8 [2]) a6 (CA 8 (bl 11 0)) (tt k2 c)))))) (fun k1=>(lr 35 3 [1,1,1,1,0] 1 9 [(2,(.bool false))] (sl Qc 41 [] (a8 [2]) a6 (CA 5 (bl 12 0)) (tt k1 (tt k0 nn))))))) (fun k0=>(lr 35 3 [1,1,1,1,0] 1 9 [(2,(.bool false))] (sl Qc 41 [] (a8 [2]) a6 (bl 17 0) (tt k0 nn)))))
theorem u4a (aI:Int) (aL:Int) (aM:Int) (aS:Int) (n:Nat) (vs:List B2) (h:Zo (x9t aI aL aM aS) n (ZU aI aL aM aS)=.ret vs):Uj prog (Zy prog 116) (Zm prog 116 [(.agg [(.int .i64 aI),(.int .i64 aL),(.int .i64 aM),(.int .i64 aS)])] true []) vs:=by have:=Zb (v0c aI aL aM aS) n _ (x9u aI aL aM aS);rwa [h] at this
inductive Ih where
 | h0 (v16:Int) (aD:List Int)
 | h1 (v4:Int) (bQ:List R4) (cM:List R2) (cW:Int) (cX:Int) (bM:Nat) (bS:List Int)
 | h2 (v4:Int) (v38:Int) (bQ:List R4) (cM:List R2) (cW:Int) (cX:Int) (bM:Nat) (bS:List Int) (aB:Int) (dC:Int) (aO:List R2)
 | h3 (v1:Int) (v2:Int) (v71:List R2) (v72:Int) (v73:Int) (cK:List R2) (aY:Int) (aC:List R4) (bD:List R2) (aZ:Int) (bM:Nat) (bS:List Int) (aB:List R2)
 | h4 (v2:Int) (v8:Int) (dF:Int) (cK:List R2) (aY:Int) (aC:List R4) (bD:List R2) (aZ:Int) (bT:Int) (cY:Nat) (dE:List Int) (aO:List R2)
abbrev x2p (aC:List R4) (v8:Int) (v2:Int):=(aC.set (0+(tn v8)) (R4.mk (rd aC (0+(tn v8))).a (rd aC (0+(tn v8))).b v2 (rd aC (0+(tn v8))).d))
abbrev Sv (aD:List Int):=(Wk (Yq aD.length (CP (Zz (Xm (Yq aD.length (CP (Zz aD))))))))
def j5w :CV:=⟨⟨29,0,true⟩,none,(.inRangeFunc 0::(Zg prog 117 [1,1,0,1,0] 1)),none,(Zy prog 14),Yj [(2,.nils),(3,(ii 0)),(4,(.ptr 1 0))]⟩
def j5v :=(DH [(0,⟨.ready,none,29,Yj [(4,(.ptr 1 0))],[11],(Wc prog 117 [1,1,0,1,0,0]),(Wc prog 117 [1,1,0,1,0,1])⟩)])
abbrev x2n (aO:List R2) (l0:List R4) (v38:Int):=(aO++[(R2.mk (rd l0 (tn v38)).b (rd l0 (tn v38)).d)])
abbrev x2m (aC:List R4) (v1:Int) (v71:List R2) (v73:Int) (v2:Int):=(aC++[(R4.mk v1 (rd v71 (tn v73)).a v2 (rd v71 (tn v73)).b)])
def UW (l0:List R4):CG:=⟨[(.dat l0.length (Zz l0))],80,none⟩
abbrev x2l (aD:List Int) (l0:List R4) (v16:Int):=(aD++[(rd l0 (tn v16)).a,(rd l0 (tn v16)).c])
def P7 (l0:List R4):Ih->CB
 | .h0 v16 aD=>⟨⟨34,0,true⟩,none,(Zg prog 155 [1,1,0,1,0,0,1,1,0,0,1,1,0,0] 0),none,(Zy prog 9),⟨Yj [(1,(.ptr 0 0)),(3,(.ptr 2 0)),(8,(.sl 1 0 1 (.un 1))),(9,(ii 1)),(10,(ii 0)),(14,(.dat l0.length (Zz l0))),(15,(ii (l0.length:Int))),(16,(ii v16))],Vk [⟨[(.sl 1 0 1 (.un 1))],182,none⟩,(UW l0),⟨[(.sla 4 1 0 aD.length (.un 1))],125,none⟩,⟨[.nils,.nils,(ii 0),(ii 0)],157,none⟩,⟨Ya aD.length (Zz aD),3,some ⟨1,aD.length,(Zz aD)⟩⟩] 0,5,[],true⟩,[⟨⟨29,0,true⟩,(Vm prog 117 [1,1,0,0] 2),(Zg prog 117 [1,1,0,0] 1),none,(Zy prog 14),Yj [(2,.nils),(3,(ii 0)),(4,(.ptr 3 0)),(9,(.sl 1 0 1 (.un 1)))]⟩],.leaf⟩
 | .h1 v4 bQ cM cW cX bM bS=>⟨⟨76,0,true⟩,none,(Zg prog 176 [1,0,0] 0),none,[],⟨Yj [(0,(.yld 0)),(1,(.ptr 2 0)),(2,(.ptr 4 0)),(4,(ii v4))],Ch [(1,⟨[(.sla 6 4 0 bQ.length (.un 4)),(.dat cM.length (Zz cM)),(ii cW),(ii cX)],157,none⟩),(2,⟨[(.sla 3 1 0 bM (.un 1))],125,none⟩),(3,⟨Ya bS.length (Zz bS),3,some ⟨1,bS.length,(Zz bS)⟩⟩),(4,⟨[(.sl 5 0 1 (.un 1))],182,none⟩),(5,(UW l0)),(6,⟨Ya bQ.length (Zz bQ),116,some ⟨4,bQ.length,(Zz bQ)⟩⟩)],7,[],true⟩,[j5w],j5v⟩
 | .h2 v4 v38 bQ cM cW cX bM bS aB dC aO=>⟨⟨76,0,true⟩,none,(Zg prog 176 [1,0,0,1,0,0,1,0,1,0,0,1,1,0,0,1,1,0,0] 0),none,[],⟨Yj [(0,(.yld 0)),(1,(.ptr 2 0)),(2,(.ptr 4 0)),(4,(ii v4)),(5,(.ptr 6 0)),(6,(ii 0)),(29,(.sl 5 0 1 (.un 1))),(30,(ii 1)),(31,(ii 0)),(36,(.dat l0.length (Zz l0))),(37,(ii (l0.length:Int))),(38,(ii v38))],Ch [(1,⟨[(.sla 9 4 0 bQ.length (.un 4)),(.dat cM.length (Zz cM)),(ii cW),(ii cX)],157,none⟩),(2,⟨[(.sla 3 1 0 bM (.un 1))],125,none⟩),(3,⟨Ya bS.length (Zz bS),3,some ⟨1,bS.length,(Zz bS)⟩⟩),(4,⟨[(.sl 5 0 1 (.un 1))],182,none⟩),(5,(UW l0)),(6,⟨[(ii aB),(ii dC),(.sl 7 0 1 (.ex 1))],162,none⟩),(7,⟨[(.sla 8 2 0 aO.length (.un 2))],155,none⟩),(8,⟨Ya aO.length (Zz aO),176,some ⟨2,aO.length,(Zz aO)⟩⟩),(9,⟨Ya bQ.length (Zz bQ),116,some ⟨4,bQ.length,(Zz bQ)⟩⟩)],10,[],true⟩,[j5w],j5v⟩
 | .h3 v1 v2 v71 v72 v73 cK aY aC bD aZ bM bS aB=>⟨⟨94,0,true⟩,none,(Zg prog 120 [1,1,1,0,0] 0),none,[],⟨Yj [(0,(.ptr 0 0)),(1,(ii v1)),(2,(ii v2)),(71,(.dat v71.length (Zz v71))),(72,(ii v72)),(73,(ii v73))],Ch [(0,⟨[(.sla 7 4 0 aC.length (.un 4)),(.dat bD.length (Zz bD)),(ii aZ),(ii v2)],157,none⟩),(2,⟨[(.sla 3 1 0 bM (.un 1))],125,none⟩),(3,⟨Ya bS.length (Zz bS),3,some ⟨1,bS.length,(Zz bS)⟩⟩),(4,⟨[(.sl 5 0 1 (.un 1))],182,none⟩),(5,(UW l0)),(6,⟨[(.dat aB.length (Zz aB))],155,none⟩),(7,⟨Ya aC.length (Zz aC),116,some ⟨4,aC.length,(Zz aC)⟩⟩)],8,[],true⟩,[⟨⟨29,0,true⟩,(Vm prog 117 [1,1,0,1,0,1,0,1] 5),(Zg prog 117 [1,1,0,1,0,1,0,1] 1),(some 1),[],Yj [(4,(.ptr 0 0)),(21,(ii v1)),(23,(ii v2)),(24,(.dat cK.length (Zz cK)))]⟩,⟨⟨76,0,true⟩,(Vm prog 176 [1,0,0,1,0,0,1,1,0] 2),(Zg prog 176 [1,0,0,1,0,0,1,1,0] 1),none,[],Yj [(0,(.yld 1)),(1,(.ptr 2 0)),(2,(.ptr 4 0)),(4,(ii aY)),(72,(.yld 1)),(73,(.agg [(ii v1),(ii v2),(.sl 6 0 1 (.ex 1))]))]⟩,⟨⟨29,0,true⟩,none,(.inRangeFunc 1::(Zg prog 117 [1,1,0,1,0] 1)),none,(Zy prog 14),Yj [(2,.nils),(3,(ii 0)),(4,(.ptr 0 0))]⟩],(DH [(1,⟨.busy,none,29,Yj [(4,(.ptr 0 0))],[11],(Wc prog 117 [1,1,0,1,0,0]),(Wc prog 117 [1,1,0,1,0,1])⟩)])⟩
 | .h4 v2 v8 dF cK aY aC bD aZ bT cY dE aO=>⟨⟨94,0,true⟩,none,(Zg prog 120 [0,1,0,0,1,0,0] 0),none,[],⟨Yj [(0,(.ptr 0 0)),(2,(ii v2)),(8,(ii v8))],Ch [(0,⟨[(.sla 1 4 0 aC.length (.un 4)),(.dat bD.length (Zz bD)),(ii aZ),(ii bT)],157,none⟩),(1,⟨Ya aC.length (Zz aC),116,some ⟨4,aC.length,(Zz aC)⟩⟩),(3,⟨[(.sla 4 1 0 cY (.un 1))],125,none⟩),(4,⟨Ya dE.length (Zz dE),3,some ⟨1,dE.length,(Zz dE)⟩⟩),(5,⟨[(.sl 6 0 1 (.un 1))],182,none⟩),(6,(UW l0)),(7,⟨[(.dat aO.length (Zz aO))],155,none⟩)],8,[],true⟩,[⟨⟨29,0,true⟩,(Vm prog 117 [1,1,0,1,0,1,0,1] 5),(Zg prog 117 [1,1,0,1,0,1,0,1] 1),(some 2),[],Yj [(4,(.ptr 0 0)),(21,(ii dF)),(23,(ii v2)),(24,(.dat cK.length (Zz cK)))]⟩,⟨⟨76,0,true⟩,(Vm prog 176 [1,0,0,1,0,0,1,1,0] 2),(Zg prog 176 [1,0,0,1,0,0,1,1,0] 1),none,[],Yj [(0,(.yld 2)),(1,(.ptr 3 0)),(2,(.ptr 5 0)),(4,(ii aY)),(72,(.yld 2)),(73,(.agg [(ii dF),(ii v2),(.sl 7 0 1 (.ex 1))]))]⟩,⟨⟨29,0,true⟩,none,(.inRangeFunc 2::(Zg prog 117 [1,1,0,1,0] 1)),none,(Zy prog 14),Yj [(2,.nils),(3,(ii 0)),(4,(.ptr 0 0))]⟩],(DH [(2,⟨.busy,none,29,Yj [(4,(.ptr 0 0))],[11],(Wc prog 117 [1,1,0,1,0,0]),(Wc prog 117 [1,1,0,1,0,1])⟩)])⟩
def M9 :List (Option (List Nat)):=[some [1,3,8,9,10,14,15,16],some [2,3,4,9]]
def Mb :List (Option (List Nat)):=[]
def t1s :List (Option (List Nat)):=[some [0,1,2,4],some [2,3,4]]
def t1t :List (Option (List Nat)):=[some [4],none,none,none,none,none,none]
def u8g :List (Option (List Nat)):=[some [0,1,2,4,5,6,29,30,31,36,37,38],some [2,3,4]]
def u8i :List (Option (List Nat)):=[some [4],none,none,none,none,none,none,none,none,none]
def u8f :List (Option (List Nat)):=[some [0,1,2,71,72,73],some [4,21,23,24],some [0,1,2,4,72,73],some [2,3,4]]
def u8h :List (Option (List Nat)):=[none,some [4],none,none,none,none,none,none]
def M8 :List (Option (List Nat)):=[some [0,2,8],some [4,21,23,24],some [0,1,2,4,72,73],some [2,3,4]]
def Ma :List (Option (List Nat)):=[none,none,some [4],none,none,none,none,none]
def Wa (l0:List R4):Ih->Xz Ih
 | .h0 v16 aD=>(bif (decide (v16<(l0.length:Int))) then (bif ((decide (0<=v16/\v16<(l0.length:Int)))&&true) then (bif (Nat.beq 1 1&&((decide (0+aD.length=aD.length))&&decide ((aD.length+2+1)*(8+1)<=CF))) then (.to (.h0 (wrap .i64 (v16+1)) (aD++[(rd l0 v16.toNat).a,(rd l0 v16.toNat).c]))) else .stuck) else .stuck) else (bif (decide (aD.length<4611686018427387904)) then (bif (decide (aD.length=aD.length)) then (.to (.h1 1 ([]:List R4) ([]:List R2) 0 0 (GN (Yq aD.length (CP (Zz (Xm (Yq aD.length (CP (Zz aD)))))))) (Wk (Yq aD.length (CP (Zz (Xm (Yq aD.length (CP (Zz aD)))))))))) else .stuck) else .stuck))
 | .h1 v4 bQ cM cW cX bM bS=>(bif (decide (v4<((bM:Nat):Int))) then (bif ((decide (0<=(wrap .i64 (v4 - 1))/\(wrap .i64 (v4 - 1))<((bM:Nat):Int)))&&true) then (bif (decide ((0+(Int.toNat (wrap .i64 (v4 - 1))))<bS.length)) then (bif ((decide (0<=v4/\v4<((bM:Nat):Int)))&&true) then (bif (decide ((0+v4.toNat)<bS.length)) then (.to (.h2 v4 0 bQ cM cW cX bM bS (rd bS (0+(Int.toNat (wrap .i64 (v4 - 1))))) (rd bS (0+v4.toNat)) ([]:List R2))) else .stuck) else .stuck) else .stuck) else .stuck) else (bif (decide ((bQ.length:Int)>400)) then (.ret [.nils,(.int .i64 4)]) else (.ret [(.dat bQ.length (Zz bQ)),(.int .i64 0)])))
 | .h2 v4 v38 bQ cM cW cX bM bS aB dC aO=>(bif (decide (v38<(l0.length:Int))) then (bif ((decide (0<=v38/\v38<(l0.length:Int)))&&true) then (bif (decide ((rd l0 v38.toNat).a <=aB)) then (bif (decide (aB<(rd l0 v38.toNat).c)) then (bif (Nat.beq 2 2&&((decide (0+aO.length=aO.length))&&decide ((aO.length+1+1)*(16+1)<=CF))) then (.to (.h2 v4 (wrap .i64 (v38+1)) bQ cM cW cX bM bS aB dC (aO++[(R2.mk (rd l0 v38.toNat).b (rd l0 v38.toNat).d)]))) else .stuck) else (.to (.h2 v4 (wrap .i64 (v38+1)) bQ cM cW cX bM bS aB dC aO))) else (.to (.h2 v4 (wrap .i64 (v38+1)) bQ cM cW cX bM bS aB dC aO))) else .stuck) else (bif (y7g (B3 aO)) then (bif (decide ((((Ww (B3 aO)).length :Nat):Int)>0)) then (bif (cX == aB) then (bif (Uf (B3 cM) (B3 (Ww (B3 aO)))) then (bif (EW (B3 cM) (B3 (Ww (B3 aO)))) then (.to (.h4 dC cW aB (Ww (B3 aO)) v4 bQ cM cW cX bM bS aO)) else (.to (.h3 aB dC (Ww (B3 aO)) (((Ww (B3 aO)).length :Nat):Int) 0 (Ww (B3 aO)) v4 bQ (Ww (B3 aO)) (bQ.length:Int) bM bS aO))) else .stuck) else (.to (.h3 aB dC (Ww (B3 aO)) (((Ww (B3 aO)).length :Nat):Int) 0 (Ww (B3 aO)) v4 bQ (Ww (B3 aO)) (bQ.length:Int) bM bS aO))) else (.to (.h3 aB dC (Ww (B3 aO)) (((Ww (B3 aO)).length :Nat):Int) 0 (Ww (B3 aO)) v4 bQ (Ww (B3 aO)) (bQ.length:Int) bM bS aO))) else .stuck))
 | .h3 v1 v2 v71 v72 v73 cK aY aC bD aZ bM bS aB=>(bif (decide (v73<v72)) then (bif ((decide (0<=v73/\v73<(v71.length:Int)))&&true) then (bif (Nat.beq 4 4&&((decide (0+aC.length=aC.length))&&decide ((aC.length+1+1)*(32+1)<=CF))) then (.to (.h3 v1 v2 v71 v72 (wrap .i64 (v73+1)) cK aY (aC++[(R4.mk v1 (rd v71 v73.toNat).a v2 (rd v71 v73.toNat).b)]) bD aZ bM bS aB)) else .stuck) else .stuck) else (.to (.h1 (wrap .i64 (aY+1)) aC bD aZ v2 bM bS)))
 | .h4 v2 v8 dF cK aY aC bD aZ bT cY dE aO=>(bif (decide (v8<(aC.length:Int))) then (bif ((decide (0<=v8/\v8<(aC.length:Int)))&&true) then (bif (decide ((0+v8.toNat)<aC.length)) then (.to (.h4 v2 (wrap .i64 (v8+1)) dF cK aY (aC.set (0+v8.toNat) (R4.mk (rd aC (0+v8.toNat)).a (rd aC (0+v8.toNat)).b v2 (rd aC (0+v8.toNat)).d)) bD aZ bT cY dE aO)) else .stuck) else .stuck) else (.to (.h1 (wrap .i64 (aY+1)) aC bD aZ v2 cY dE)))
def x5b (l0:List R4):Xz Ih:=(.to (.h0 0 ([]:List Int)))
theorem v2w (l0:List R4): ∀s,Xw prog (Zy prog 117) (P7 l0) (P7 l0 s) (Wa l0 s)
 | .h0 v16 aD=>(lb (fun k0=>(lo fun o0=>(lo fun o1=>let e:=xL (aD.length+2) (x2l aD l0 v16).length;let g:=x2l aD l0 v16;(sl Qc 32 [] ⟨[0,1,2,3,7],[],M9,Mb⟩ ⟨[],[.keep,.keep,.cells [.len g.length],.keep,.rowed 1 g.length (Zz g)],[]⟩ [true] (pp e (pp e (pp (xS (aD.length+2) (Zt (Zz aD) 0 aD.length 1 [(ii (rd l0 (tn v16)).a),(ii (rd l0 (tn v16)).c)]) (Zz (x2l aD l0 v16))) (pp (pp (xF (Zt (Zz aD) 0 aD.length 1 [(ii (rd l0 (tn v16)).a),(ii (rd l0 (tn v16)).c)])) nn) (ww o1 (ww o0 (tt k0 nn))))))))))) (fun k0=>(lo fun o0=>(lo fun o1=>let b:=xG (Nat.beq 1 1);let d:=xG (decide (aD.length<4611686018427387904));let f:=xG (decide (aD.length=aD.length));let h:=xG (Nat.beq 0 0);(sl Qc 46 [(116,4,Zz ([]:List R4))] ⟨[5,3,2,4,0,1,6],[],t1s,t1t⟩ ⟨[],[.keep,.cells [.grow 6 4,.list 0 (Zz ([]:List R2)),.keep,.keep],.keep,.rowed 1 (Sv aD).length (Zz (Sv aD)),.keep,.keep,.keep],[]⟩ (bl 2 0) (pp (xL aD.length (Sv aD).length (by first | exact N4 _ _ | exact Uu rfl)) (pp (xS aD.length (Zz (Sv aD)) (Zz (Sv aD))) (pp (fl (Sv aD) (fl ([]:List R4) nn)) (pp (pp b (pp b (pp h (pp f (pp (xG (EP (Zz (Xm (Yq aD.length (CP (Zz aD))))))) d))))) (pp (pp b (pp b (pp h (pp f (pp (xG (EP (Zz aD))) d))))) (tt k0 nn)))))))))))
 | .h1 v4 bQ cM cW cX bM bS=>(lb (fun k0=>(lo fun o0=>(lo fun o1=>(lo fun o2=>(lo fun o3=>(sl Qc 48 [(176,2,Zz ([]:List R2))] ⟨[0,1,2,3,4,5,7,8,9,6],[],u8g,u8i⟩ ⟨[],(Cl 7 [.cells [.grow 8 2],.keep,.keep]),[]⟩ (CA 3 []) (pp (fl bS (fl ([]:List R2) (fl bQ nn))) (ww o3 (ww o2 (ww o1 (ww o0 (tt k0 nn)))))))))))) (fun k0=>(lb (fun k1=>(lr 29 3 [1,1,1,1,0] 1 14 [(2,.nils),(3,(ii 4))] (sl Qc 43 [] (a8 [2,3]) a6 (bl 2 2) (tt k1 (tt k0 nn))))) (fun k1=>(lr 29 3 [1,1,1,1,0] 1 14 [(2,(.dat bQ.length (Zz bQ))),(3,(ii 0))] (sl Qc 48 [] ⟨[],[6],[some [2,3]],[]⟩ ⟨[(2,.frz bQ.length bQ.length (Zz bQ) (Zz bQ))],[],[]⟩ (bl 2 0) (pp (xZ (Cm 4 4 0 bQ.length bQ.length (Zz bQ)) bQ.length (Zz bQ)) (pp (xL bQ.length bQ.length) (pp (xS bQ.length (Zz bQ) (Zz bQ)) (pp (fl bQ nn) (tt k1 (tt k0 nn))))))))))))
 | .h2 v4 v38 bQ cM cW cX bM bS aB dC aO=>(lb (fun k0=>(lo fun aE=>let f:=ww aE (tt k0 nn);let j:=fl bS (fl aO (fl bQ nn));let o:=List.range 10;(lb (fun k1=>(lb (fun k2=>(lo fun o0=>let e:=xL (aO.length+1) (x2n aO l0 v38).length;let i:=x2n aO l0 v38;(sl Qc 39 [] ⟨[0,1,2,3,4,5,6,7,12,9],[],u8g,u8i⟩ ⟨[],(Cl 7 [.cells [.len i.length],.rowed 2 i.length (Zz i),.keep]),[]⟩ (CA 7 []) (pp e (pp e (pp (xS (aO.length+1) (Zt (Zz aO) 0 aO.length 2 [(ii (rd l0 (tn v38)).b),(ii (rd l0 (tn v38)).d)]) (Zz (x2n aO l0 v38))) (pp (fl bS (pp (xF (Zt (Zz aO) 0 aO.length 2 [(ii (rd l0 (tn v38)).b),(ii (rd l0 (tn v38)).d)])) (fl bQ nn))) (ww o0 (tt k2 (tt k1 f)))))))))) (fun k2=>(sl Qc 39 [] ⟨o,[],u8g,u8i⟩ a6 (CA 6 [false]) (pp j (tt k2 (tt k1 f))))))) (fun k1=>(sl Qc 39 [] ⟨o,[],u8g,u8i⟩ a6 (bl 7 1) (pp j (tt k1 f))))))) (fun k0=>let c:=xZ (Cm 2 2 0 aO.length aO.length (Zz aO)) aO.length (Zz aO);let h:=xS aO.length (Zz aO) (Zz aO);let l:=xL aO.length aO.length;let m:=fl bQ (fl bS nn);(Xh (sl Qc (C':=⟨⟨29,0,true⟩,(Vm prog 117 [1,1,0,1,0,1,0,0] 4),(Zg prog 117 [1,1,0,1,0,1,0,0] 1),(some 0),[],⟨Yj [(4,(.ptr 1 0)),(5,(.ptr 3 0)),(16,(.dat aO.length (Zz aO)))],Ch [(1,⟨[(.sla 2 4 0 bQ.length (.un 4)),(.dat cM.length (Zz cM)),(ii cW),(ii cX)],157,none⟩),(2,⟨Ya bQ.length (Zz bQ),116,some ⟨4,bQ.length,(Zz bQ)⟩⟩),(3,⟨[(ii aB),(ii dC),(.sl 4 0 1 (.ex 1))],162,none⟩),(4,⟨[(.dat aO.length (Zz aO))],155,none⟩),(5,⟨[(.sla 6 1 0 bM (.un 1))],125,none⟩),(6,⟨Ya bS.length (Zz bS),3,some ⟨1,bS.length,(Zz bS)⟩⟩),(7,⟨[(.sl 8 0 1 (.un 1))],182,none⟩),(8,⟨[(.dat l0.length (Zz l0))],80,none⟩)],9,[],true⟩,[⟨⟨76,0,true⟩,(Vm prog 176 [1,0,0,1,0,0,1,1,0] 2),(Zg prog 176 [1,0,0,1,0,0,1,1,0] 1),none,[],Yj [(0,(.yld 0)),(1,(.ptr 5 0)),(2,(.ptr 7 0)),(4,(ii v4)),(72,(.yld 0)),(73,(.agg [(ii aB),(ii dC),(.sl 4 0 1 (.ex 1))]))]⟩,⟨⟨29,0,true⟩,none,(.inRangeFunc 0::(Zg prog 117 [1,1,0,1,0] 1)),none,(Zy prog 14),Yj [(2,.nils),(3,(ii 0)),(4,(.ptr 1 0))]⟩],(DH [(0,⟨.busy,none,29,Yj [(4,(.ptr 1 0))],[11],(Wc prog 117 [1,1,0,1,0,0]),(Wc prog 117 [1,1,0,1,0,1])⟩)])⟩) 37 [] ⟨[0,1,9,10,7,2,3,4,5],[8],[some [4,5,16],some [0,1,2,4,72,73],some [2,3,4]],[some [4],none,none,none,none,none,none,none,none]⟩ ⟨[(16,.frz aO.length aO.length (Zz aO) (Zz aO))],[.keep,.keep,.keep,.keep,.cells [.frz aO.length aO.length (Zz aO) (Zz aO)],.keep,.keep,.keep,.keep],[]⟩ (bl 2 0) (pp c (pp l (pp h (pp c (pp l (pp h (pp m (pp (fl aO nn) (tt k0 nn)))))))))) (lo fun aE=>let a:=pp (pp (xr aO) (xw aE)) nn;let g:=fl bS (fl bQ nn);(lb (fun k1=>(lb (fun k2=>(lo fun cG=>let n:=tt k2 (tt k1 a);(lb (fun k3=>(sl Qc 49 [] ⟨[1,2,0,5,6,7,8,4],[],M8,Ma⟩ a6 (CA 13 []) (pp m (tt k3 (pp (pp (xr cM) (pp (xI R2 (Ww (B3 aO)).length (Zz (Ww (B3 aO)))) (xw cG))) n))))) (fun k3=>(sl Qc 69 [] ⟨[1,0,5,6,7,8,4,2],[],u8f,u8h⟩ a6 (CA 12 [false]) (pp g (tt k3 (pp (pp (xr cM) (pp (xI R2 (Ww (B3 aO)).length (Zz (Ww (B3 aO)))) (xw cG))) n)))))))) (fun k2=>(sl Qc 69 [] ⟨[1,0,5,6,7,8,4,2],[],u8f,u8h⟩ a6 (CA 6 (bl 7 0)) (pp g (tt k2 (tt k1 a))))))) (fun k1=>(sl Qc 69 [] ⟨[1,0,5,6,7,8,4,2],[],u8f,u8h⟩ a6 (bl 13 0) (pp g (tt k1 a)))))))))
 | .h3 v1 v2 v71 v72 v73 cK aY aC bD aZ bM bS aB=>(lb (fun k0=>(lo fun o0=>(lo fun o1=>let c:=xL (aC.length+1) (x2m aC v1 v71 v73 v2).length;let d:=x2m aC v1 v71 v73 v2;(sl Qc 23 [] ⟨[0,1,2,3,4,5,6,10],[],u8f,u8h⟩ ⟨[],[.cells [.len d.length,.keep,.keep,.keep],.keep,.keep,.keep,.keep,.keep,.keep,.rowed 4 d.length (Zz d)],[]⟩ [true] (pp c (pp c (pp (xS (aC.length+1) (Zt (Zz aC) 0 aC.length 4 [(ii v1),(ii (rd v71 (tn v73)).a),(ii v2),(ii (rd v71 (tn v73)).b)]) (Zz (x2m aC v1 v71 v73 v2))) (pp (fl bS (pp (xF (Zt (Zz aC) 0 aC.length 4 [(ii v1),(ii (rd v71 (tn v73)).a),(ii v2),(ii (rd v71 (tn v73)).b)])) nn)) (ww o1 (ww o0 (tt k0 nn))))))))))) (fun k0=>(sl Qc 22 [] ⟨[1,0,2,3,4,5,7],[],t1s,t1t⟩ a6 (bl 2 0) (pp (fl bS (fl aC nn)) (tt k0 nn)))))
 | .h4 v2 v8 dF cK aY aC bD aZ bT cY dE aO=>(lb (fun k0=>(lo fun o0=>(lo fun o1=>let a:=xL aC.length (x2p aC v8 v2).length;let b:=x2p aC v8 v2;(sl Qc 33 [] ⟨(List.range 8),[],M8,Ma⟩ ⟨[],[.cells [.len b.length,.keep,.keep,.keep],.rowed 4 b.length (Zz b),.keep,.keep,.keep,.keep,.keep,.keep],[]⟩ [true] (pp a (pp a (pp (xS aC.length (Xa (Zz aC) (0+(tn v8)) 2 [(ii v2)]) (Zz (x2p aC v8 v2))) (pp (pp (xF (Xa (Zz aC) (0+(tn v8)) 2 [(ii v2)])) (fl dE nn)) (ww o1 (ww o0 (tt k0 nn))))))))))) (fun k0=>(sl Qc 36 [] ⟨[2,0,3,4,5,6,1],[],t1s,t1t⟩ a6 (bl 2 0) (pp (fl dE (fl aC nn)) (tt k0 nn)))))
theorem w3h (l0:List R4):Xw prog (Zy prog 117) (P7 l0) (Zm prog 117 [(.dat l0.length (Zz l0))] true []) (x5b l0):=(sl Qc 56 [(3,1,Zz ([]:List Int))] ⟨[2,1,3,0,4],[],M9,Mb⟩ ⟨[],[.keep,.keep,.cells [.grow 4 1],.keep,.keep],[]⟩ [true] (pp (fl ([]:List Int) nn) nn))
theorem u8e (l0:List R4) (n:Nat) (vs:List B2) (h:Zo (Wa l0) n (x5b l0)=.ret vs):Uj prog (Zy prog 117) (Zm prog 117 [(.dat l0.length (Zz l0))] true []) vs:=by have:=Zb (v2w l0) n _ (w3h l0);rwa [h] at this
open Go.Sort Go.Shelf Go.RowKit Go.Lib
theorem UR {i n:Nat} (h:i<n):decide ((i:Int)<(n:Int))=true:=by grind
theorem Tg {σ:Type} (step:σ->Xz σ) (a b:Nat) (s:Xz σ):Zo step (a+b) s=Zo step a (Zo step b s):=by
 induction b generalizing s with
 | zero=>cases s <;> simp [Zo]
 | succ b ih=>cases s with
  | to s=>exact ih (step s)
  | ret vs=>simp only [Zp]
  | stuck=>cases a <;> cases b <;> rfl
theorem w9m {i:Nat}:decide ((i:Int)>=0)=true:=by grind
def Qo {α:Type} [Xc α] (out:List α):List B2:=bif decide ((out.length:Int)>400) then [.nils,.int .i64 4] else [.dat out.length (Zz out),.int .i64 0]
def Cy {α:Type} [Xc α] (e:Int) (L:List α):List B2:=bif e != 0 then [.nils,.int .i64 e] else [.dat L.length (Zz L),.int .i64 0]
def D8 {α:Type} (e:Int) (L:List α):List α:=bif e != 0 then [] else L
theorem H7 {α:Type} [Xc α] (e:Int) (L:List α) (ρ:B6) (u:Value) (hu:VRel ρ (Ut (Cy e L)) u):VRel ρ (.tup [.dat (D8 e L).length (Zz (D8 e L)),.int .i64 e]) u:=by
 unfold Cy at hu;unfold D8;by_cases h:e=0
 .subst h;exact hu
 .have h:(e != 0)=true:=by simpa using h
  rw [h] at hu ⊢;exact GW (.cons (G4 α) (DL.refl _)) ρ u hu
theorem JU {α:Type} [Xc α] (e:Int) (L:List α):pf 3 (Ut (Cy e L))=true:=by unfold Cy;cases (e != 0) <;> rfl
def D7 (n:Nat):Int:=bif decide ((n:Int)>400) then 4 else 0
theorem Z2 {α:Type} [Xc α] (L:List α):Qo L=Cy (D7 L.length) L:=by grind [Qo,Cy,D7]
theorem Uv {α:Type} [Xc α] {e:Int} (L:List α) (h:(e != 0)=true):Cy e L=[.nils,.int .i64 e]:=by unfold Cy;rw [h];rfl
theorem x0x : ∀(L:List R3) (o last:Int) (inn:Bool) (out:List R2),(HR L o last inn out).length <=out.length+L.length
 | [],_,_,_,out=>Aq _
 | e::r,o,last,inn,out=>by rw [ZR];have:=x0x r (o+e.c) e.a (decide (o+e.c>0)) (Jx out last inn e.a);have:=z5b out last inn e.a;simp only [Bn];omega
theorem y7f (l:List R3):(Cj l).length =l.length:=by
 by_cases h:DZ l=true
 .exact (J8 l h).1.length_eq
 .unfold Cj;grind
theorem w0m (l:List R2):(Ww l).length <=800:=by grind [Ww,EH,x0x,y7f,z6s]
def Vo (r:R4):Bool:=decide (r.a<r.c)&&(decide (r.b<r.d)&&(decide (r.a>= -1000000)&&(decide (r.a<=1000000)&&(decide (r.c>= -1000000)&&(decide (r.c<=1000000)&&(decide (r.b>= -1000000)&&(decide (r.b<=1000000)&&(decide (r.d>= -1000000)&&decide (r.d<=1000000)))))))))
def D4 :CJ R4 R2:=⟨R4.a,R4.c,fun r=>⟨r.b,r.d⟩,fun x x' s=>⟨x,s.a,x',s.b⟩,fun x r=>⟨r.a,r.b,x,r.d⟩,Ww,EW⟩
theorem Ry (l:List R4) (x:Int):(D4.sec l x).length <=1000:=AF (w0m _) (by omega)
section
variable (l:List R4) (hl:l.length<=400)
include hl
theorem j5t (i:Nat) (out:List R4) (last:List R2) (first fin x x':Int): ∀(k j:Nat) (acc:List R2),j+k=l.length->acc.length<=j->
  ∃n,∀N,Zo (Wa l) (N+n) (.to (.h2 (i:Int) (j:Int) out last first fin ((D4.cuts l).length) (Wk (Xm (D4.ends l))) x x' acc))=Zo (Wa l) N (.to (.h2 (i:Int) (l.length:Int) out last first fin ((D4.cuts l).length) (Wk (Xm (D4.ends l))) x x' (acc++D4.inn (l.drop j) x)))
 | 0,j,acc,h,ha=>by refine ⟨0,fun N=> ?_⟩;rw [As (by omega),show D4.inn ([]:List R4) x=[] from rfl,AE,Bd,show j=l.length by omega]
 | k+1,j,acc,h,ha=>by
  have hj:j<l.length:=by omega
  obtain ⟨n,hn⟩:=j5t i out last first fin x x' k (j+1) (acc++D4.inn [rd l j] x) (by omega) (by have:=D4.inn_length [rd l j] x;grind)
  refine ⟨n+1,fun N=> ?_⟩;have e:D4.inn (l.drop j) x=D4.inn [rd l j] x++D4.inn (l.drop (j+1)) x:=by rw [Yg hj,<-D4.inn_append];rfl
  rw [e,<-AD,Zx,<-AM,<-hn N];by_cases h1:D4.lo (rd l j)<=x
  .by_cases h2:x<D4.hi (rd l j)
   .rw [D4.inn_t _ _ h1 h2];simp only [D4] at h1 h2 ⊢;simp (disch:=omega) only [Wa,Wj,Zd,Zq,Yy,Yz,Yd,Yu,Yk,Zh,Zj,Zw,Yc,Zk,Af,Ao,Ah,Ai,Ab,Aa]
   .rw [D4.inn_f2 _ _ h2,AE];simp only [D4] at h1 h2;simp (disch:=omega) only [Wa,Wj,Yh,Zd,Zq,Yy,Yz,Yd,Yu,Yk,Zh,Zj,Zw,Yc,Zk,Af,Ao,Ah,Ai,Ab,Aa]
  .rw [D4.inn_f1 _ _ h1,AE];simp only [D4] at h1;simp (disch:=omega) only [Wa,Nx,Zd,Zq,Yy,Yz,Yd,Yu,Yk,Zh,Zj,Zw,Yc,Zk,Af,Ao,Ah,Ai,Ab,Aa]
theorem j5s (i:Nat) (hi:i<=1000) (x x':Int) (s last:List R2) (first:Int) (inn:List R2) (hs:s.length<=1000): ∀(k j:Nat) (out:List R4),j+k=s.length->out.length<=10000000+j->
  ∃n,∀N,Zo (Wa l) (N+n) (.to (.h3 x x' s (s.length:Int) (j:Int) s (i:Int) out last first ((D4.cuts l).length) (Wk (Xm (D4.ends l))) inn))=Zo (Wa l) N (.to (.h1 ((i+1:Nat):Int) (out++(s.drop j).map (D4.put x x')) last first x' ((D4.cuts l).length) (Wk (Xm (D4.ends l)))))
 | 0,j,out,h,ho=>by
  have _u:=hl;refine ⟨1,fun N=> ?_⟩
  grind [Zx,Wa,Zj]
 | k+1,j,out,h,ho=>by
  obtain ⟨n,hn⟩:=j5s i hi x x' s last first inn hs k (j+1) (out++[D4.put x x' (rd s j)]) (by omega) (by simp;omega)
  refine ⟨n+1,fun N=> ?_⟩;have:=hn N;rw [Yg (show j<s.length by omega),AT,<-AD,Zx];simp (disch:=omega) only [Wa,Zd,Zq,Yy,Yz,Yd,Yu,Yk,Zh,Zj,Zw,Yc,Zk,Af,Ao,Ah,Ai,Ab,Aa];rw [AM] at this;exact this
theorem j5r (i:Nat) (hi:i<=1000) (x x' fin:Int) (s last:List R2) (first:Int) (inn:List R2): ∀(k j:Nat) (out:List R4),j+k=out.length->out.length<=10000000->
  ∃n,∀N,Zo (Wa l) (N+n) (.to (.h4 x' (j:Int) x s (i:Int) out last first fin ((D4.cuts l).length) (Wk (Xm (D4.ends l))) inn))=Zo (Wa l) N (.to (.h1 ((i+1:Nat):Int) (D4.grow out j x') last first x' ((D4.cuts l).length) (Wk (Xm (D4.ends l)))))
 | 0,j,out,h,ho=>by
  have _u:=hl;refine ⟨1,fun N=> ?_⟩;rw [D4.grow_nil _ _ _ (by omega),Zx]
  grind [Wa,Zj]
 | k+1,j,out,h,ho=>by
  obtain ⟨n,hn⟩:=j5r i hi x x' fin s last first inn k (j+1) (out.set j (D4.ext x' (rd out j))) (by simp;omega) (by grind)
  refine ⟨n+1,fun N=> ?_⟩;have:=hn N;rw [D4.grow_set out j _ (by omega)] at this;rw [<-AD,Zx];simp (disch:=omega) only [Wa,Zd,Zq,Yy,Yz,Yd,Yu,Yk,Zh,Zj,Zw,Yc,Zk,Af,Ao,Ah,Ai,Ab,Aa];exact this
theorem u0m : ∀(k i:Nat) (s:Sw R4 R2),k=(D4.cuts l).length - 1 - i->i<=(D4.cuts l).length ->s.out.length<=i*1000->s.last.length<=1000->s.first<=s.out.length->
  ∃n,Zo (Wa l) n (.to (.h1 ((i+1:Nat):Int) s.out s.last (s.first:Int) s.fin ((D4.cuts l).length) (Wk (Xm (D4.ends l)))))=.ret (Qo (D4.go l k i s).out)
 | 0,i,s,h,hi,ho,hla,hf=>by
  have hc:=D4.cuts_length l;refine ⟨1,?_⟩;rw [Zx,show D4.go l 0 i s=s from rfl]
  grind [Qo,Wa,Zp]
 | k +1,i,s,h,hi,ho,hla,hf=>by
  have hc:=D4.cuts_length l;have hi1:i+1<(D4.cuts l).length :=by omega
  have hpl:(Wk (Xm (D4.ends l))).length =2*l.length:=by rw [Ui,Uz,D4.ends_length]
  have r0:rd (Wk (Xm (D4.ends l))) i=rd (D4.cuts l) i:=GC _ _ (by show i<(D4.cuts l).length;omega);have r1:rd (Wk (Xm (D4.ends l))) (i+1)=rd (D4.cuts l) (i+1):=GC _ _ (by show i+1<(D4.cuts l).length;omega);have hbig:i*1000<=1000*1000:=AC _ (by omega);have hsl:=Ry l (rd (D4.cuts l) i);have hsd:D4.sec l (rd (D4.cuts l) i)=Ww (D4.inn l (rd (D4.cuts l) i)):=rfl;obtain ⟨n3,h3⟩:=j5t l hl (i+1) s.out s.last (s.first:Int) s.fin (rd (D4.cuts l) i) (rd (D4.cuts l) (i+1)) l.length 0 [] (Af _) (Aq _);simp only [AS,Bc,Du] at h3;have w1:y7g (D4.inn l (rd (D4.cuts l) i))=true:=rfl;have w2:Uf s.last (Ww (D4.inn l (rd (D4.cuts l) i)))=true:=Al (by omega);have ol:=D4.one_length l (rd (D4.cuts l) i) (rd (D4.cuts l) (i+1)) s;have st0: ∀N,Zo (Wa l) (N+n3+1) (.to (.h1 ((i+1:Nat):Int) s.out s.last (s.first:Int) s.fin ((D4.cuts l).length) (Wk (Xm (D4.ends l)))))=Zo (Wa l) N (.to (.h2 ((i+1:Nat):Int) (l.length:Int) s.out s.last (s.first:Int) s.fin ((D4.cuts l).length) (Wk (Xm (D4.ends l))) (rd (D4.cuts l) i) (rd (D4.cuts l) (i+1)) (D4.inn l (rd (D4.cuts l) i)))):=fun N=>by
   rw [<-h3 N,Zx];have e1:wrap .i64 (((i+1:Nat):Int) - 1)=(i:Int):=by rw [Yx];exact Zj (by omega)
   simp (disch:=omega) only [Wa,e1,r0,r1,Zd,Zq,Yy,Yz,Yd,Yu,Yk,Zh,Zj,Zw,Yc,Zk,Af,Ao,Ah,Ai,Ab,Aa]
  rcases Zs (decide (0<(D4.sec l (rd (D4.cuts l) i)).length)&&((s.fin == rd (D4.cuts l) i)&&D4.same s.last (D4.sec l (rd (D4.cuts l) i)))) with q | q
  .obtain ⟨n5,h5⟩:=j5r l hl (i+1) (by omega) (rd (D4.cuts l) i) (rd (D4.cuts l) (i+1)) s.fin (D4.sec l (rd (D4.cuts l) i)) s.last (s.first:Int) (D4.inn l (rd (D4.cuts l) i)) (s.out.length - s.first) s.first s.out (by omega) (by omega)
   have e:D4.one l (rd (D4.cuts l) i) (rd (D4.cuts l) (i+1)) s=⟨D4.grow s.out s.first (rd (D4.cuts l) (i+1)),s.last,s.first,rd (D4.cuts l) (i+1)⟩:=by unfold CJ.one;rw [q];rfl
   obtain ⟨n0,h0⟩:=u0m k (i+1) (D4.one l (rd (D4.cuts l) i) (rd (D4.cuts l) (i+1)) s) (by omega) (by omega) (by omega) (by grind) (by grind [CJ.grow_length]);refine ⟨n0+n5+1+n3+1,?_⟩;rw [st0 (n0+n5+1),Zx];simp only [Ae,Ar] at q;obtain ⟨q1,q2,q3⟩:=q;have q3':EW s.last (Ww (D4.inn l (rd (D4.cuts l) i)))=true:=q3
   grind [Wa,Zd,CJ.go]
  .obtain ⟨n4,h4⟩:=j5s l hl (i+1) (by omega) (rd (D4.cuts l) i) (rd (D4.cuts l) (i+1)) (D4.sec l (rd (D4.cuts l) i)) (D4.sec l (rd (D4.cuts l) i)) (s.out.length:Int) (D4.inn l (rd (D4.cuts l) i)) hsl (D4.sec l (rd (D4.cuts l) i)).length 0 s.out (Af _) (by omega);simp only [AS,Du] at h4;have e:D4.one l (rd (D4.cuts l) i) (rd (D4.cuts l) (i+1)) s=⟨s.out++(D4.sec l (rd (D4.cuts l) i)).map (D4.put (rd (D4.cuts l) i) (rd (D4.cuts l) (i+1))),D4.sec l (rd (D4.cuts l) i),s.out.length,rd (D4.cuts l) (i+1)⟩:=by unfold CJ.one;rw [q];rfl
   obtain ⟨n0,h0⟩:=u0m k (i+1) (D4.one l (rd (D4.cuts l) i) (rd (D4.cuts l) (i+1)) s) (by omega) (by omega) (by omega) (by grind) (by rw [e];simp);have hg:Zo (Wa l) 1 (.to (.h2 ((i+1:Nat):Int) (l.length:Int) s.out s.last (s.first:Int) s.fin ((D4.cuts l).length) (Wk (Xm (D4.ends l))) (rd (D4.cuts l) i) (rd (D4.cuts l) (i+1)) (D4.inn l (rd (D4.cuts l) i))))=.to (.h3 (rd (D4.cuts l) i) (rd (D4.cuts l) (i+1)) (D4.sec l (rd (D4.cuts l) i)) ((D4.sec l (rd (D4.cuts l) i)).length :Int) 0 (D4.sec l (rd (D4.cuts l) i)) ((i+1:Nat):Int) s.out (D4.sec l (rd (D4.cuts l) i)) (s.out.length:Int) ((D4.cuts l).length) (Wk (Xm (D4.ends l))) (D4.inn l (rd (D4.cuts l) i))):=by
    rw [show (1:Nat)=0+1 from rfl,Zx];rw [hsd] at q ⊢;have e3:D4.same s.last (Ww (D4.inn l (rd (D4.cuts l) i)))=EW s.last (Ww (D4.inn l (rd (D4.cuts l) i))):=rfl;rw [e3] at q;by_cases q1:0<(Ww (D4.inn l (rd (D4.cuts l) i))).length
    .rw [Al q1,Ai] at q;rcases Zs (s.fin == rd (D4.cuts l) i) with q2 | q2
     .rw [q2,Ai] at q;simp (disch:=omega) only [Wa,Zd,Zq,Yh,Yt,q2,q,w1,w2,Ab,Aa];rfl
     .simp (disch:=omega) only [Wa,Zd,Zq,Yh,Yt,q2,w1,w2,Ab,Aa];rfl
    .simp (disch:=omega) only [Wa,Zd,Zq,Yh,Wu,w1,w2,Ab,Aa];rfl
   refine ⟨n0+n4+1+n3+1,?_⟩;simp_all [Tg,CJ.go]
theorem j5u : ∀(k i:Nat) (acc:List Int),i+k=l.length->acc=D4.ends (l.take i)-> ∃n,Zo (Wa l) n (.to (.h0 (i:Int) acc))=.ret (Qo (D4.go l ((D4.cuts l).length - 1) 0 ⟨[],[],0,0⟩).out)
 | 0,i,acc,h,ha=>by
  have e:acc=D4.ends l:=by grind
  subst e;have hle:=D4.ends_length l;obtain ⟨n,hn⟩:=u0m l hl ((D4.cuts l).length - 1) 0 ⟨[],[],0,0⟩ (by omega) (AA _) (AA _) (AA _) (AA _);refine ⟨n+1,?_⟩;rw [Zx];simp (disch:=omega) only [Wa,Jo,N8,NH,Yh,Yu,Yk,Ao,Ab,Aa];exact hn
 | k+1,i,acc,h,ha=>by
  have hle:=D4.ends_length (l.take i);have gD:acc.length<=2*i:=by grind
  obtain ⟨n,hn⟩:=j5u k (i+1) (acc++D4.ends [rd l i]) (by omega) (by
   rw [ha,AW];have:l[i]? =some (rd l i):=by grind [Yo]
   rw [this,D4.ends_append];rfl)
  refine ⟨n+1,?_⟩;rw [Zx];simp (disch:=omega) only [Wa,Zd,Zq,Yy,Yz,Yd,Yu,Yk,Zh,Zj,Zw,Yc,Zk,Af,Ao,Ah,Ai,Ab,Aa];exact hn
end
def Mi (l:List R4):Int:=D7 (D4.out l).length
def Ws (l:List R4):List R4:=D8 (Mi l) (D4.out l)
def F5 (l:List R4):Int:=Mi l
def J5 (l:List R4):Bool:=decide (l.length<=400)
theorem t1r (l:List R4) (h:J5 l=true): ∃n,Zo (Wa l) n (x5b l)=.ret (Cy (Mi l) (D4.out l)):=by rw [show Cy (Mi l) (D4.out l)=Qo (D4.out l) from (Z2 _).symm];exact j5u l (Az h) l.length 0 [] (Af _) rfl
def Pj (a b c d:Int):Bool:=Vo ⟨a,b,c,d⟩
theorem j6z (a b c d:Int): ∃N,Zo (x9t a b c d) N (ZU a b c d)=.ret [.bool (Pj a b c d)]:=⟨0,by
 unfold ZU Pj Vo;simp only [S6];cases decide (a<c) <;> cases decide (b<d) <;> cases decide (a>= -1000000) <;> cases decide (a<=1000000) <;> cases decide (c>= -1000000) <;> cases decide (c<=1000000) <;> cases decide (b>= -1000000) <;> cases decide (b<=1000000) <;> cases decide (d>= -1000000) <;> rfl⟩
def Pz :List B2->Option (B2×Bool)
 | [.agg [.int .i64 aI,.int .i64 aL,.int .i64 aM,.int .i64 aS]]=>some (.bool (Pj aI aL aM aS),true)
 | _=>none
theorem t2o {S:B4} (hS:Zv prog S):Zv prog (S.with w8j Pz):=by
 refine Qn hS (by kernel_rfl) fun args v h=> ?_;unfold Pz at h;split at h
 .rename_i aI aL aM aS;simp only [Ad,Ac,Bh] at h;subst h;obtain ⟨N,hN⟩:=j6z aI aL aM aS;exact ⟨_,_,(.cons (.refl _) .nil),rfl,u4a aI aL aM aS N _ hN,3,rfl⟩
 .cases h
def Q2 :List B2->Option (B2×Bool)
 | [a0]=>match CS R4 a0 with
  | some (L0,g0,n0)=>some (.tup [.dat (Ws L0).length (Zz (Ws L0)),.int .i64 (F5 L0)],CO R4 n0 g0&&(J5 L0))
  | _=>none
 | _=>none
theorem t3s {S:B4} (hS:Zv prog S):Zv prog (S.with u0c Q2):=by
 refine Em hS (by kernel_rfl) fun args v h=> ?_;unfold Q2 at h;split at h
 .rename_i a0;split at h
  .rename_i L0 g0 n0 e0;simp only [Ad,Ac,Ae] at h;obtain ⟨rfl,ho0,hw⟩:=h;obtain ⟨N,hN⟩:=t1r L0 hw;exact ⟨_,_,(.cons (Yn e0 ho0) .nil),H7 _ _,u8e L0 N _ hN,3,JU _ _⟩
  .cases h
 .cases h
def T6v :B4:=(T6.with w8j Pz)
theorem Rr :Zv prog T6v:=(t2o Qc)
def T6m :B4:=(T6v.with u0c Q2)
theorem Ns :Zv prog T6m:=(t3s Rr)
inductive I5 where
 | h0 (v8:Int)
def PK (l0:List R4):I5->CB
 | .h0 v8=>⟨⟨19,0,true⟩,none,(Zg prog 153 [1,0,1,0,0] 0),none,(Zy prog 6),⟨Yj [(0,(.dat l0.length (Zz l0))),(1,(.fn 115 [])),(7,(ii (l0.length:Int))),(8,(ii v8))],Vk [] 0,0,[],true⟩,[⟨⟨9,0,true⟩,(Vm prog 114 [1,0] 2),(Zg prog 114 [1,0] 1),none,(Zy prog 6),Yj [(5,(.dat l0.length (Zz l0))),(6,(.fn 115 []))]⟩,⟨⟨13,0,true⟩,(Vm prog 83 [1,1,0,0] 1),(Zg prog 83 [1,1,0,0] 1),none,(Zy prog 14),Yj [(0,(.dat l0.length (Zz l0))),(7,(.dat l0.length (Zz l0)))]⟩],.leaf⟩
def MJ :List (Option (List Nat)):=[some [0,1,7,8],some [5,6],some [0,7]]
def MK :List (Option (List Nat)):=[]
def JV (l0:List R4):I5->Xz I5
 | .h0 v8=>(bif (decide (v8<(l0.length:Int))) then (bif ((decide (0<=v8/\v8<(l0.length:Int)))&&true) then (bif (!(Pj (rd l0 v8.toNat).a (rd l0 v8.toNat).b (rd l0 v8.toNat).c (rd l0 v8.toNat).d)) then (bif (decide (v8>=0)) then (.ret [.nils,(.int .i64 8)]) else (bif (J5 (B3 l0)) then (.ret [(.dat (Ws (B3 l0)).length (Zz (Ws (B3 l0)))),(.int .i64 (F5 (B3 l0)))]) else .stuck)) else (.to (.h0 (wrap .i64 (v8+1))))) else .stuck) else (bif (J5 (B3 l0)) then (.ret [(.dat (Ws (B3 l0)).length (Zz (Ws (B3 l0)))),(.int .i64 (F5 (B3 l0)))]) else .stuck))
def Tb (l0:List R4):Xz I5:=(bif (decide ((l0.length:Int)>400)) then (.ret [.nils,(.int .i64 4)]) else (.to (.h0 0)))
theorem v2c (l0:List R4): ∀s,Xw prog (Zy prog 83) (PK l0) (PK l0 s) (JV l0 s)
 | .h0 v8=>let a:=Ws (B3 l0);let c:=ii (F5 (B3 l0));(lb (fun k0=>(lo fun aE=>let b:=ww aE (tt k0 nn);(lb (fun k1=>(lb (fun k2=>(lr 13 83 [1,1,0,1,0,0] 1 14 [(2,.nils),(3,(ii 8))] (sl Ns 54 [] (a8 [2,3]) a6 (CA 3 []) (tt k2 (tt k1 b))))) (fun k2=>(lo fun o0=>(lr 13 3 [1,1,1,1,0] 1 14 [(2,(.dat a.length (Zz a))),(3,c)] (sl Ns 59 [] (a8 [2,3]) a6 (bl 3 3) (pp (pp (xr l0) (xw o0)) (tt k2 (tt k1 b))))))))) (fun k1=>(sl Ns 44 [] ⟨[],[],MJ,MK⟩ a6 (bl 2 1) (tt k1 b)))))) (fun k0=>(lo fun o0=>(lr 13 3 [1,1,1,1,0] 1 14 [(2,(.dat a.length (Zz a))),(3,c)] (sl Ns 28 [] (a8 [2,3]) a6 (bl 2 0) (pp (pp (xr l0) (xw o0)) (tt k0 nn)))))))
theorem w2d (l0:List R4):Xw prog (Zy prog 83) (PK l0) (Zm prog 83 [(.dat l0.length (Zz l0))] true []) (Tb l0):=(lb (fun k0=>(lr 13 83 [1,0,1,0,0] 1 14 [(2,.nils),(3,(ii 4))] (sl Ns 18 [] (a8 [2,3]) a6 [true] (tt k0 nn)))) (fun k0=>(sl Ns 41 [] ⟨[],[],MJ,MK⟩ a6 [false] (tt k0 nn))))
theorem u6p (l0:List R4) (n:Nat) (vs:List B2) (h:Zo (JV l0) n (Tb l0)=.ret vs):Uj prog (Zy prog 83) (Zm prog 83 [(.dat l0.length (Zz l0))] true []) vs:=by have:=Zb (v2c l0) n _ (w2d l0);rwa [h] at this
theorem j4c (l:List R4) (hl:l.length<=400): ∀(k i:Nat),i+k=l.length->(∀s∈l.take i,Vo s=true)-> ∃n,Zo (JV l) n (.to (.h0 (i:Int)))=.ret (bif l.all Vo then [.dat (Ws l).length (Zz (Ws l)),.int .i64 (F5 l)] else [.nils,.int .i64 8])
 | 0,i,h,ht=>by
  have hv:l.all Vo=true:=At.2 fun s hs=>ht s (by grind);have w:J5 l=true:=Al hl;refine ⟨1,?_⟩
  grind [Zx,JV,Zd,Zp]
 | k+1,i,h,ht=>by
  have hi:i<l.length:=by omega
  have hs:JV l (.h0 (i:Int))=bif Vo (rd l i) then .to (.h0 ((i+1:Nat):Int)) else .ret [.nils,.int .i64 8]:=by have e:Pj (rd l i).a (rd l i).b (rd l i).c (rd l i).d =Vo (rd l i):=rfl;simp (disch:=omega) only [JV,e,S7,UR,w9m,Yz,Zj,Zw,Zk,Ah,Ab,Aa]
  rcases Zs (Vo (rd l i)) with q | q
  .obtain ⟨n,hn⟩:=j4c l hl k (i+1) (by omega) (fun s hs=>by
    rw [AW] at hs
    grind [Yo])
   refine ⟨n+1,?_⟩
   grind [Zx]
  .have hv:l.all Vo=false:=A3.2 fun e=>by
    grind [Yo]
   refine ⟨1,?_⟩
   grind [Zx,Zp]
theorem u6o (l:List R4): ∃n,Zo (JV l) n (Tb l)=.ret (bif decide (400<l.length) then [.nils,.int .i64 4] else bif l.all Vo then [.dat (Ws l).length (Zz (Ws l)),.int .i64 (F5 l)] else [.nils,.int .i64 8]):=by
 unfold Tb;by_cases h:400<l.length
 .refine ⟨0,?_⟩;rw [Al h,Yt (show (l.length:Int)>400 by omega)];rfl
 .obtain ⟨n,hn⟩:=j4c l (by omega) l.length 0 (Af _) (fun s hs=>by simp at hs)
  grind
def Za (l:List R4):List R4:=bif decide (400<l.length) then [] else bif l.all Vo then (bif decide (((D4.out l).length :Int)>400) then [] else D4.out l) else []
def Xk (l:List R4):Int:=bif decide (400<l.length) then 4 else bif l.all Vo then (bif decide (((D4.out l).length :Int)>400) then 4 else 0) else 8
def Us (l:List R4):Bool:=true
theorem t0i (l:List R4) (h:Us l=true): ∃n,Zo (JV l) n (Tb l)=.ret (bif decide (400<l.length) then [.nils,.int .i64 4] else bif l.all Vo then [.dat (Za l).length (Zz (Za l)),.int .i64 (Xk l)] else [.nils,.int .i64 8]):=by
 obtain ⟨n,hn⟩:=u6o l
 grind [Ws,Za,Mi,D8,D7,F5,Xk]
def QS :List B2->Option (B2×Bool)
 | [a0]=>match CS R4 a0 with
  | some (L0,g0,n0)=>some (.tup [.dat (Za L0).length (Zz (Za L0)),.int .i64 (Xk L0)],CO R4 n0 g0&&(Us L0))
  | _=>none
 | _=>none
theorem t3h {S:B4} (hS:Zv prog S):Zv prog (S.with w8l QS):=by
 refine Em hS (by kernel_rfl) fun args v h=> ?_;unfold QS at h;split at h
 .rename_i a0;split at h
  .rename_i L0 g0 n0 e0;simp only [Ad,Ac,Ae] at h;obtain ⟨rfl,ho0,hw⟩:=h;obtain ⟨N,hN⟩:=t0i L0 hw;refine ⟨_,_,(.cons (Yn e0 ho0) .nil),?_,u6p L0 N _ hN,3,?_⟩
   .cases h1:decide (400<L0.length) <;> cases h2:L0.all Vo <;> simp only [Za,Xk,h1,h2,Ab,Aa]
    .exact fun ρ u hu=>GW (.cons (G4 R4) (DL.refl _)) ρ u hu
    .exact fun ρ u hu=>hu
    .exact fun ρ u hu=>GW (.cons (G4 R4) (DL.refl _)) ρ u hu
    .exact fun ρ u hu=>GW (.cons (G4 R4) (DL.refl _)) ρ u hu
   .cases decide (400<L0.length) <;> cases L0.all Vo <;> rfl
  .cases h
 .cases h
def T7 :B4:=(T6m.with w8l QS)
theorem KL :Zv prog T7:=(t3h Ns)
inductive Hl where
def OM (aI:Int) (aL:Int) (aM:Int) (aS:Int) (aV:Int) (aU:Int):Hl->CB
 :=nofun
def x9r (aI:Int) (aL:Int) (aM:Int) (aS:Int) (aV:Int) (aU:Int):Hl->Xz Hl
 :=nofun
def ZV (aI:Int) (aL:Int) (aM:Int) (aS:Int) (aV:Int) (aU:Int):Xz Hl:=(bif (decide (aI<aS)) then (bif (decide (aL<aV)) then (bif (decide (aM<aU)) then (bif (decide ((Wt (Wt aI aL) aM)>=(-1000000))) then (bif (decide ((Wf (Wf aI aL) aM)<=1000000)) then (bif (decide ((Wt (Wt aS aV) aU)>=(-1000000))) then (.ret [(.bool (decide ((Wf (Wf aS aV) aU)<=1000000)))]) else (.ret [(.bool false)])) else (.ret [(.bool false)])) else (.ret [(.bool false)])) else (.ret [(.bool false)])) else (.ret [(.bool false)])) else (.ret [(.bool false)]))
theorem v0b (aI:Int) (aL:Int) (aM:Int) (aS:Int) (aV:Int) (aU:Int): ∀s,Xw prog (Zy prog 92) (OM aI aL aM aS aV aU) (OM aI aL aM aS aV aU s) (x9r aI aL aM aS aV aU s)
 :=nofun
theorem x9s (aI:Int) (aL:Int) (aM:Int) (aS:Int) (aV:Int) (aU:Int):Xw prog (Zy prog 92) (OM aI aL aM aS aV aU) (Zm prog 92 [(.agg [(.int .i64 aI),(.int .i64 aL),(.int .i64 aM),(.int .i64 aS),(.int .i64 aV),(.int .i64 aU)])] true []) (ZV aI aL aM aS aV aU):=(lb (fun k0=>(lb (fun k1=>let b:=tt k1 (tt k0 nn);(lb (fun k2=>let a:=tt k2 b;(lb (fun k3=>(lb (fun k4=>let c:=tt k4 (tt k3 a);(lb (fun k5=>(lr 38 3 [1,1,1,1,0] 1 9 [(2,(.bool (decide ((Wf (Wf aS aV) aU)<=1000000))))] (sl KL 100 [] (a8 [2]) a6 (CA 36 []) (tt k5 c)))) (fun k5=>(lr 38 3 [1,1,1,1,0] 1 9 [(2,(.bool false))] (sl KL 100 [] (a8 [2]) a6 (CA 28 (bl 8 0)) (tt k5 c)))))) (fun k4=>(lr 38 3 [1,1,1,1,0] 1 9 [(2,(.bool false))] (sl KL 72 [] (a8 [2]) a6 (CA 25 (bl 3 0)) (tt k4 (tt k3 a))))))) (fun k3=>(lr 38 3 [1,1,1,1,0] 1 9 [(2,(.bool false))] (sl KL 72 [] (a8 [2]) a6 (CA 17 (bl 11 0)) (tt k3 a)))))) (fun k2=>(lr 38 3 [1,1,1,1,0] 1 9 [(2,(.bool false))] (sl KL 44 [] (a8 [2]) a6 (CA 14 (bl 6 0)) (tt k2 b)))))) (fun k1=>(lr 38 3 [1,1,1,1,0] 1 9 [(2,(.bool false))] (sl KL 44 [] (a8 [2]) a6 (CA 7 (bl 13 0)) (tt k1 (tt k0 nn))))))) (fun k0=>(lr 38 3 [1,1,1,1,0] 1 9 [(2,(.bool false))] (sl KL 44 [] (a8 [2]) a6 (bl 20 0) (tt k0 nn)))))
theorem u3z (aI:Int) (aL:Int) (aM:Int) (aS:Int) (aV:Int) (aU:Int) (n:Nat) (vs:List B2) (h:Zo (x9r aI aL aM aS aV aU) n (ZV aI aL aM aS aV aU)=.ret vs):Uj prog (Zy prog 92) (Zm prog 92 [(.agg [(.int .i64 aI),(.int .i64 aL),(.int .i64 aM),(.int .i64 aS),(.int .i64 aV),(.int .i64 aU)])] true []) vs:=by have:=Zb (v0b aI aL aM aS aV aU) n _ (x9s aI aL aM aS aV aU);rwa [h] at this
def Qv (r:R6):Bool:=decide (r.a<r.d)&&(decide (r.b<r.e)&&(decide (r.c<r.f)&&(decide ((Wt (Wt r.a r.b) r.c)>=(-1000000))&&(decide ((Wf (Wf r.a r.b) r.c)<=1000000)&&(decide ((Wt (Wt r.d r.e) r.f)>=(-1000000))&&decide ((Wf (Wf r.d r.e) r.f)<=1000000))))))
def Pk (a b c d e f:Int):Bool:=Qv ⟨a,b,c,d,e,f⟩
theorem j6x (a b c d e f:Int): ∃N,Zo (x9r a b c d e f) N (ZV a b c d e f)=.ret [.bool (Pk a b c d e f)]:=⟨0,by
 unfold ZV Pk Qv;simp only [S6];cases decide (a<d) <;> cases decide (b<e) <;> cases decide (c<f) <;> cases decide ((Wt (Wt a b) c)>=(-1000000)) <;> cases decide ((Wf (Wf a b) c)<=1000000) <;> cases decide ((Wt (Wt d e) f)>=(-1000000)) <;> rfl⟩
def Py :List B2->Option (B2×Bool)
 | [.agg [.int .i64 aI,.int .i64 aL,.int .i64 aM,.int .i64 aS,.int .i64 aV,.int .i64 aU]]=>some (.bool (Pk aI aL aM aS aV aU),true)
 | _=>none
theorem t2n {S:B4} (hS:Zv prog S):Zv prog (S.with w8h Py):=by
 refine Qn hS (by kernel_rfl) fun args v h=> ?_;unfold Py at h;split at h
 .rename_i aI aL aM aS aV aU;simp only [Ad,Ac,Bh] at h;subst h;obtain ⟨N,hN⟩:=j6x aI aL aM aS aV aU;exact ⟨_,_,(.cons (.refl _) .nil),rfl,u3z aI aL aM aS aV aU N _ hN,3,rfl⟩
 .cases h
def T7v :B4:=(T7.with w8h Py)
theorem Ug :Zv prog T7v:=(t2n KL)
inductive IL where
 | h0 (v8:Int)
 | h1 (v16:Int) (aD:List Int)
 | h2 (v4:Int) (aH:List R6) (aW:List R4) (bE:Int) (bF:Int) (aF:Nat) (aK:List Int)
 | h3 (v4:Int) (v38:Int) (aH:List R6) (aW:List R4) (bE:Int) (bF:Int) (aF:Nat) (aK:List Int) (aG:Int) (bC:Int) (aA:List R4)
 | h4 (v1:Int) (v2:Int) (v72:List R4) (v73:Int) (v74:Int) (bR:List R4) (aY:Int) (aC:List R6) (bD:List R4) (aZ:Int) (aF:Nat) (aK:List Int) (aG:List R4)
 | h5 (v2:Int) (v8:Int) (cB:Int) (bR:List R4) (aY:Int) (aC:List R6) (bD:List R4) (aZ:Int) (bT:Int) (bP:Nat) (bX:List Int) (aA:List R4)
abbrev x1v (aC:List R6) (v8:Int) (v2:Int):=(aC.set (0+(tn v8)) (R6.mk (rd aC (0+(tn v8))).a (rd aC (0+(tn v8))).b (rd aC (0+(tn v8))).c (rd aC (0+(tn v8))).d (rd aC (0+(tn v8))).e v2))
def v7k (l0:List R6):CV:=⟨⟨25,0,true⟩,(Vm prog 52 [1,1,1,0,0] 3),(Zg prog 52 [1,1,1,0,0] 1),none,(Zy prog 9),Yj [(0,(.dat l0.length (Zz l0))),(11,(.agg [.nilf])),(13,(.sl 8 0 1 (.un 1)))]⟩
abbrev Sz (aD:List Int):=(Wk (Yq aD.length (CP (Zz (Xm (Yq aD.length (CP (Zz aD))))))))
abbrev x1t (aA:List R4) (l0:List R6) (v38:Int):=(aA++[(R4.mk (rd l0 (tn v38)).a (rd l0 (tn v38)).b (rd l0 (tn v38)).d (rd l0 (tn v38)).e)])
abbrev x1s (aC:List R6) (v72:List R4) (v74:Int) (v1:Int) (v2:Int):=(aC++[(R6.mk (rd v72 (tn v74)).a (rd v72 (tn v74)).b v1 (rd v72 (tn v74)).c (rd v72 (tn v74)).d v2)])
def j2z :=(DH [(0,⟨.ready,none,65,Yj [(2,(.ptr 1 0)),(4,(.ptr 2 0)),(5,(.ptr 3 0)),(6,(.ptr 4 0))],[15],(Wc prog 93 [1,1,0,1,0,0]),(Wc prog 93 [1,1,0,1,0,1])⟩)])
def F4 (l0:List R6):B2:=(.dat l0.length (Zz l0))
def j2y :CV:=⟨⟨65,0,true⟩,none,(.inRangeFunc 0::(Zg prog 93 [1,1,0,1,0] 1)),none,(Zy prog 93),Yj [(4,(.ptr 2 0)),(5,(.ptr 3 0)),(6,(.ptr 4 0))]⟩
abbrev x1r (aD:List Int) (l0:List R6) (v16:Int):=(aD++[(rd l0 (tn v16)).c,(rd l0 (tn v16)).f])
def Oo (l0:List R6):IL->CB
 | .h0 v8=>⟨⟨19,0,true⟩,none,(Zg prog 95 [1,0,1,0,0] 0),none,(Zy prog 6),⟨Yj [(0,(F4 l0)),(1,(.fn 91 [])),(7,(ii (l0.length:Int))),(8,(ii v8))],Vk [] 0,0,[],true⟩,[⟨⟨9,0,true⟩,(Vm prog 57 [1,0] 2),(Zg prog 57 [1,0] 1),none,(Zy prog 6),Yj [(5,(F4 l0)),(6,(.fn 91 []))]⟩,⟨⟨25,0,true⟩,(Vm prog 52 [1,1,0,0] 1),(Zg prog 52 [1,1,0,0] 1),none,(Zy prog 9),Yj [(0,(F4 l0)),(8,(F4 l0))]⟩],.leaf⟩
 | .h1 v16 aD=>⟨⟨36,0,true⟩,none,(Zg prog 135 [1,1,0,1,0,0,1,1,0,0,1,1,0,0] 0),none,(Zy prog 9),⟨Yj [(1,(.ptr 0 0)),(3,(.ptr 2 0)),(8,(.sl 1 0 1 (.un 1))),(9,(ii 1)),(10,(ii 0)),(14,(F4 l0)),(15,(ii (l0.length:Int))),(16,(ii v16))],Vk [⟨[(.sl 1 0 1 (.un 1))],177,none⟩,⟨[(F4 l0)],32,none⟩,⟨[(.sla 7 1 0 aD.length (.un 1))],125,none⟩,⟨[.nilf],101,none⟩,⟨[.nils],33,none⟩,⟨[(ii 0)],24,none⟩,⟨[.nils,.nils,(ii 0),(ii 0)],179,none⟩,⟨Ya aD.length (Zz aD),3,some ⟨1,aD.length,(Zz aD)⟩⟩] 0,8,[],true⟩,[⟨⟨65,0,true⟩,(Vm prog 93 [1,1,0,0] 1),(Zg prog 93 [1,1,0,0] 1),none,(Zy prog 93),Yj [(2,(.ptr 3 0)),(4,(.ptr 4 0)),(5,(.ptr 5 0)),(6,(.ptr 6 0)),(13,(.sl 1 0 1 (.un 1)))]⟩,⟨⟨25,0,true⟩,(Vm prog 52 [1,1,1,0,0] 3),(Zg prog 52 [1,1,1,0,0] 1),none,(Zy prog 9),Yj [(0,(F4 l0)),(11,(.agg [.nilf])),(13,(.sl 1 0 1 (.un 1)))]⟩],.leaf⟩
 | .h2 v4 aH aW bE bF aF aK=>⟨⟨86,0,true⟩,none,(Zg prog 162 [1,0,0] 0),none,[],⟨Yj [(0,(.yld 0)),(1,(.ptr 5 0)),(2,(.ptr 7 0)),(4,(ii v4))],Ch [(1,⟨[.nilf],101,none⟩),(2,⟨[.nils],33,none⟩),(3,⟨[(ii 0)],24,none⟩),(4,⟨[(.sla 9 6 0 aH.length (.un 6)),(.dat aW.length (Zz aW)),(ii bE),(ii bF)],179,none⟩),(5,⟨[(.sla 6 1 0 aF (.un 1))],125,none⟩),(6,⟨Ya aK.length (Zz aK),3,some ⟨1,aK.length,(Zz aK)⟩⟩),(7,⟨[(.sl 8 0 1 (.un 1))],177,none⟩),(8,⟨[(F4 l0)],32,none⟩),(9,⟨Ya aH.length (Zz aH),57,some ⟨6,aH.length,(Zz aH)⟩⟩)],10,[],true⟩,[j2y,(v7k l0)],j2z⟩
 | .h3 v4 v38 aH aW bE bF aF aK aG bC aA=>⟨⟨86,0,true⟩,none,(Zg prog 162 [1,0,0,1,0,0,1,0,1,0,0,1,1,0,0,1,1,0,0] 0),none,[],⟨Yj [(0,(.yld 0)),(1,(.ptr 5 0)),(2,(.ptr 7 0)),(4,(ii v4)),(5,(.ptr 9 0)),(6,(ii 0)),(29,(.sl 8 0 1 (.un 1))),(30,(ii 1)),(31,(ii 0)),(36,(F4 l0)),(37,(ii (l0.length:Int))),(38,(ii v38))],Ch [(1,⟨[.nilf],101,none⟩),(2,⟨[.nils],33,none⟩),(3,⟨[(ii 0)],24,none⟩),(4,⟨[(.sla 12 6 0 aH.length (.un 6)),(.dat aW.length (Zz aW)),(ii bE),(ii bF)],179,none⟩),(5,⟨[(.sla 6 1 0 aF (.un 1))],125,none⟩),(6,⟨Ya aK.length (Zz aK),3,some ⟨1,aK.length,(Zz aK)⟩⟩),(7,⟨[(.sl 8 0 1 (.un 1))],177,none⟩),(8,⟨[(F4 l0)],32,none⟩),(9,⟨[(ii aG),(ii bC),(.sl 10 0 1 (.ex 1))],184,none⟩),(10,⟨[(.sla 11 4 0 aA.length (.un 4))],80,none⟩),(11,⟨Ya aA.length (Zz aA),116,some ⟨4,aA.length,(Zz aA)⟩⟩),(12,⟨Ya aH.length (Zz aH),57,some ⟨6,aH.length,(Zz aH)⟩⟩)],13,[],true⟩,[j2y,(v7k l0)],j2z⟩
 | .h4 v1 v2 v72 v73 v74 bR aY aC bD aZ aF aK aG=>⟨⟨101,0,true⟩,none,(Zg prog 136 [1,1,1,0,0] 0),none,[],⟨Yj [(0,(.ptr 0 0)),(1,(ii v1)),(2,(ii v2)),(72,(.dat v72.length (Zz v72))),(73,(ii v73)),(74,(ii v74))],Ch [(0,⟨[(.sla 10 6 0 aC.length (.un 6)),(.dat bD.length (Zz bD)),(ii aZ),(ii v2)],179,none⟩),(2,⟨[.nilf],101,none⟩),(3,⟨[.nils],33,none⟩),(4,⟨[(ii 0)],24,none⟩),(5,⟨[(.sla 6 1 0 aF (.un 1))],125,none⟩),(6,⟨Ya aK.length (Zz aK),3,some ⟨1,aK.length,(Zz aK)⟩⟩),(7,⟨[(.sl 8 0 1 (.un 1))],177,none⟩),(8,⟨[(F4 l0)],32,none⟩),(9,⟨[(.dat aG.length (Zz aG))],80,none⟩),(10,⟨Ya aC.length (Zz aC),57,some ⟨6,aC.length,(Zz aC)⟩⟩)],11,[],true⟩,[⟨⟨65,0,true⟩,(Vm prog 93 [1,1,0,1,0,1,0,1,1,1] 5),(Zg prog 93 [1,1,0,1,0,1,0,1,1,1] 1),(some 1),[],Yj [(6,(.ptr 0 0)),(54,(ii v1)),(56,(ii v2)),(57,(.dat bR.length (Zz bR)))]⟩,⟨⟨86,0,true⟩,(Vm prog 162 [1,0,0,1,0,0,1,1,0] 2),(Zg prog 162 [1,0,0,1,0,0,1,1,0] 1),none,[],Yj [(0,(.yld 1)),(1,(.ptr 5 0)),(2,(.ptr 7 0)),(4,(ii aY)),(82,(.yld 1)),(83,(.agg [(ii v1),(ii v2),(.sl 9 0 1 (.ex 1))]))]⟩,⟨⟨65,0,true⟩,none,(.inRangeFunc 1::(Zg prog 93 [1,1,0,1,0] 1)),none,(Zy prog 93),Yj [(4,(.ptr 3 0)),(5,(.ptr 4 0)),(6,(.ptr 0 0))]⟩,(v7k l0)],(DH [(1,⟨.busy,none,65,Yj [(2,(.ptr 2 0)),(4,(.ptr 3 0)),(5,(.ptr 4 0)),(6,(.ptr 0 0))],[15],(Wc prog 93 [1,1,0,1,0,0]),(Wc prog 93 [1,1,0,1,0,1])⟩)])⟩
 | .h5 v2 v8 cB bR aY aC bD aZ bT bP bX aA=>⟨⟨101,0,true⟩,none,(Zg prog 136 [0,1,0,0,1,0,0] 0),none,[],⟨Yj [(0,(.ptr 0 0)),(2,(ii v2)),(8,(ii v8))],Ch [(0,⟨[(.sla 1 6 0 aC.length (.un 6)),(.dat bD.length (Zz bD)),(ii aZ),(ii bT)],179,none⟩),(1,⟨Ya aC.length (Zz aC),57,some ⟨6,aC.length,(Zz aC)⟩⟩),(3,⟨[.nilf],101,none⟩),(4,⟨[.nils],33,none⟩),(5,⟨[(ii 0)],24,none⟩),(6,⟨[(.sla 7 1 0 bP (.un 1))],125,none⟩),(7,⟨Ya bX.length (Zz bX),3,some ⟨1,bX.length,(Zz bX)⟩⟩),(8,⟨[(.sl 9 0 1 (.un 1))],177,none⟩),(9,⟨[(F4 l0)],32,none⟩),(10,⟨[(.dat aA.length (Zz aA))],80,none⟩)],11,[],true⟩,[⟨⟨65,0,true⟩,(Vm prog 93 [1,1,0,1,0,1,0,1,1,1] 5),(Zg prog 93 [1,1,0,1,0,1,0,1,1,1] 1),(some 2),[],Yj [(6,(.ptr 0 0)),(54,(ii cB)),(56,(ii v2)),(57,(.dat bR.length (Zz bR)))]⟩,⟨⟨86,0,true⟩,(Vm prog 162 [1,0,0,1,0,0,1,1,0] 2),(Zg prog 162 [1,0,0,1,0,0,1,1,0] 1),none,[],Yj [(0,(.yld 2)),(1,(.ptr 6 0)),(2,(.ptr 8 0)),(4,(ii aY)),(82,(.yld 2)),(83,(.agg [(ii cB),(ii v2),(.sl 10 0 1 (.ex 1))]))]⟩,⟨⟨65,0,true⟩,none,(.inRangeFunc 2::(Zg prog 93 [1,1,0,1,0] 1)),none,(Zy prog 93),Yj [(4,(.ptr 4 0)),(5,(.ptr 5 0)),(6,(.ptr 0 0))]⟩,⟨⟨25,0,true⟩,(Vm prog 52 [1,1,1,0,0] 3),(Zg prog 52 [1,1,1,0,0] 1),none,(Zy prog 9),Yj [(0,(F4 l0)),(11,(.agg [.nilf])),(13,(.sl 9 0 1 (.un 1)))]⟩],(DH [(2,⟨.busy,none,65,Yj [(2,(.ptr 3 0)),(4,(.ptr 4 0)),(5,(.ptr 5 0)),(6,(.ptr 0 0))],[15],(Wc prog 93 [1,1,0,1,0,0]),(Wc prog 93 [1,1,0,1,0,1])⟩)])⟩
def L9 :List (Option (List Nat)):=[some [0,1,7,8],some [5,6],some [0,8]]
def Lb :List (Option (List Nat)):=[]
def j9e :List (Option (List Nat)):=[some [1,3,8,9,10,14,15,16],some [2,4,5,6,13],some [0,11,13]]
def j9g :List (Option (List Nat)):=[]
def j9d :List (Option (List Nat)):=[some [0,1,2,4],some [4,5,6],some [0,11,13]]
def j9f :List (Option (List Nat)):=[some [2,4,5,6],none,none,none,none,none,none,none,none,none]
def u5o :List (Option (List Nat)):=[some [0,1,2,4,5,6,29,30,31,36,37,38],some [4,5,6],some [0,11,13]]
def u5q :List (Option (List Nat)):=[some [2,4,5,6],none,none,none,none,none,none,none,none,none,none,none,none]
def u5n :List (Option (List Nat)):=[some [0,1,2,72,73,74],some [6,54,56,57],some [0,1,2,4,82,83],some [4,5,6],some [0,11,13]]
def u5p :List (Option (List Nat)):=[none,some [2,4,5,6],none,none,none,none,none,none,none,none,none]
def L8 :List (Option (List Nat)):=[some [0,2,8],some [6,54,56,57],some [0,1,2,4,82,83],some [4,5,6],some [0,11,13]]
def La :List (Option (List Nat)):=[none,none,some [2,4,5,6],none,none,none,none,none,none,none,none]
def Xf (l0:List R6):IL->Xz IL
 | .h0 v8=>(bif (decide (v8<(l0.length:Int))) then (bif ((decide (0<=v8/\v8<(l0.length:Int)))&&true) then (bif (!(Pk (rd l0 v8.toNat).a (rd l0 v8.toNat).b (rd l0 v8.toNat).c (rd l0 v8.toNat).d (rd l0 v8.toNat).e (rd l0 v8.toNat).f)) then (bif (decide (v8>=0)) then (.ret [(.int .i64 8)]) else (.to (.h1 0 ([]:List Int)))) else (.to (.h0 (wrap .i64 (v8+1))))) else .stuck) else (.to (.h1 0 ([]:List Int))))
 | .h1 v16 aD=>(bif (decide (v16<(l0.length:Int))) then (bif ((decide (0<=v16/\v16<(l0.length:Int)))&&true) then (bif (Nat.beq 1 1&&((decide (0+aD.length=aD.length))&&decide ((aD.length+2+1)*(8+1)<=CF))) then (.to (.h1 (wrap .i64 (v16+1)) (aD++[(rd l0 v16.toNat).c,(rd l0 v16.toNat).f]))) else .stuck) else .stuck) else (bif (decide (aD.length<4611686018427387904)) then (bif (decide (aD.length=aD.length)) then (.to (.h2 1 ([]:List R6) ([]:List R4) 0 0 (GN (Yq aD.length (CP (Zz (Xm (Yq aD.length (CP (Zz aD)))))))) (Wk (Yq aD.length (CP (Zz (Xm (Yq aD.length (CP (Zz aD)))))))))) else .stuck) else .stuck))
 | .h2 v4 aH aW bE bF aF aK=>(bif (decide (v4<((aF:Nat):Int))) then (bif ((decide (0<=(wrap .i64 (v4 - 1))/\(wrap .i64 (v4 - 1))<((aF:Nat):Int)))&&true) then (bif (decide ((0+(Int.toNat (wrap .i64 (v4 - 1))))<aK.length)) then (bif ((decide (0<=v4/\v4<((aF:Nat):Int)))&&true) then (bif (decide ((0+v4.toNat)<aK.length)) then (.to (.h3 v4 0 aH aW bE bF aF aK (rd aK (0+(Int.toNat (wrap .i64 (v4 - 1))))) (rd aK (0+v4.toNat)) ([]:List R4))) else .stuck) else .stuck) else .stuck) else .stuck) else (bif (decide ((aH.length:Int)>400)) then (.ret [(.int .i64 8)]) else (bif (Nat.beq 6 6&&(decide (0+aH.length<=aH.length)&&Df (Zz aH))) then (bif (Kn (Cn R6 (aH.length) (fun k=>(Zz aH) (0+k))) (B3 l0)) then (bif (!(E6 (Cn R6 (aH.length) (fun k=>(Zz aH) (0+k))) (B3 l0))) then (.ret [(.int .i64 8)]) else (.ret [(.int .i64 0)])) else .stuck) else .stuck)))
 | .h3 v4 v38 aH aW bE bF aF aK aG bC aA=>(bif (decide (v38<(l0.length:Int))) then (bif ((decide (0<=v38/\v38<(l0.length:Int)))&&true) then (bif (decide ((rd l0 v38.toNat).c <=aG)) then (bif (decide (aG<(rd l0 v38.toNat).f)) then (bif (Nat.beq 4 4&&((decide (0+aA.length=aA.length))&&decide ((aA.length+1+1)*(32+1)<=CF))) then (.to (.h3 v4 (wrap .i64 (v38+1)) aH aW bE bF aF aK aG bC (aA++[(R4.mk (rd l0 v38.toNat).a (rd l0 v38.toNat).b (rd l0 v38.toNat).d (rd l0 v38.toNat).e)]))) else .stuck) else (.to (.h3 v4 (wrap .i64 (v38+1)) aH aW bE bF aF aK aG bC aA))) else (.to (.h3 v4 (wrap .i64 (v38+1)) aH aW bE bF aF aK aG bC aA))) else .stuck) else (bif (Us (B3 aA)) then (bif ((Xk (B3 aA)) != 0) then (.ret [(.int .i64 8)]) else (bif (decide ((((Za (B3 aA)).length :Nat):Int)>0)) then (bif (bF == aG) then (bif (Wg (B3 aW) (B3 (Za (B3 aA)))) then (bif (Uw (B3 aW) (B3 (Za (B3 aA)))) then (.to (.h5 bC bE aG (Za (B3 aA)) v4 aH aW bE bF aF aK aA)) else (.to (.h4 aG bC (Za (B3 aA)) (((Za (B3 aA)).length :Nat):Int) 0 (Za (B3 aA)) v4 aH (Za (B3 aA)) (aH.length:Int) aF aK aA))) else .stuck) else (.to (.h4 aG bC (Za (B3 aA)) (((Za (B3 aA)).length :Nat):Int) 0 (Za (B3 aA)) v4 aH (Za (B3 aA)) (aH.length:Int) aF aK aA))) else (.to (.h4 aG bC (Za (B3 aA)) (((Za (B3 aA)).length :Nat):Int) 0 (Za (B3 aA)) v4 aH (Za (B3 aA)) (aH.length:Int) aF aK aA)))) else .stuck))
 | .h4 v1 v2 v72 v73 v74 bR aY aC bD aZ aF aK aG=>(bif (decide (v74<v73)) then (bif ((decide (0<=v74/\v74<(v72.length:Int)))&&true) then (bif (Nat.beq 6 6&&((decide (0+aC.length=aC.length))&&decide ((aC.length+1+1)*(48+1)<=CF))) then (.to (.h4 v1 v2 v72 v73 (wrap .i64 (v74+1)) bR aY (aC++[(R6.mk (rd v72 v74.toNat).a (rd v72 v74.toNat).b v1 (rd v72 v74.toNat).c (rd v72 v74.toNat).d v2)]) bD aZ aF aK aG)) else .stuck) else .stuck) else (.to (.h2 (wrap .i64 (aY+1)) aC bD aZ v2 aF aK)))
 | .h5 v2 v8 cB bR aY aC bD aZ bT bP bX aA=>(bif (decide (v8<(aC.length:Int))) then (bif ((decide (0<=v8/\v8<(aC.length:Int)))&&true) then (bif (decide ((0+v8.toNat)<aC.length)) then (.to (.h5 v2 (wrap .i64 (v8+1)) cB bR aY (aC.set (0+v8.toNat) (R6.mk (rd aC (0+v8.toNat)).a (rd aC (0+v8.toNat)).b (rd aC (0+v8.toNat)).c (rd aC (0+v8.toNat)).d (rd aC (0+v8.toNat)).e v2)) bD aZ bT bP bX aA)) else .stuck) else .stuck) else (.to (.h2 (wrap .i64 (aY+1)) aC bD aZ v2 bP bX)))
def ZG (l0:List R6):Xz IL:=(bif (decide ((l0.length:Int)>400)) then (.ret [(.int .i64 4)]) else (.to (.h0 0)))
theorem v1g (l0:List R6): ∀s,Xw prog (Zy prog 52) (Oo l0) (Oo l0 s) (Xf l0 s)
 | .h0 v8=>let b:=fl ([]:List Int) nn;(lb (fun k0=>(lo fun aE=>let a:=ww aE (tt k0 nn);(lb (fun k1=>(lb (fun k2=>(lr 25 52 [1,1,0,1,0,0] 1 9 [(2,(ii 8))] (sl Ug 53 [] (a8 [2]) a6 (CA 3 []) (tt k2 (tt k1 a))))) (fun k2=>(sl Ug 113 [(3,1,Zz ([]:List Int))] ⟨[6,1,7,2,3,4,5,8],[],j9e,j9g⟩ ⟨[],[.keep,.keep,.cells [.grow 7 1],.keep,.keep,.keep,.keep,.keep],[]⟩ (bl 4 11) (pp b (tt k2 (tt k1 a))))))) (fun k1=>(sl Ug 44 [] ⟨[],[],L9,Lb⟩ a6 (bl 2 1) (tt k1 a)))))) (fun k0=>(sl Ug 82 [(3,1,Zz ([]:List Int))] ⟨[5,0,6,1,2,3,4,7],[],j9e,j9g⟩ ⟨[],[.keep,.keep,.cells [.grow 7 1],.keep,.keep,.keep,.keep,.keep],[]⟩ (bl 3 4) (pp b (tt k0 nn)))))
 | .h1 v16 aD=>(lb (fun k0=>(lo fun o0=>(lo fun o1=>let d:=xL (aD.length+2) (x1r aD l0 v16).length;let g:=x1r aD l0 v16;(sl Ug 34 [] ⟨[0,1,2,3,4,5,6,10],[],j9e,j9g⟩ ⟨[],[.keep,.keep,.cells [.len g.length],.keep,.keep,.keep,.keep,.rowed 1 g.length (Zz g)],[]⟩ [true] (pp d (pp d (pp (xS (aD.length+2) (Zt (Zz aD) 0 aD.length 1 [(ii (rd l0 (tn v16)).c),(ii (rd l0 (tn v16)).f)]) (Zz (x1r aD l0 v16))) (pp (pp (xF (Zt (Zz aD) 0 aD.length 1 [(ii (rd l0 (tn v16)).c),(ii (rd l0 (tn v16)).f)])) nn) (ww o1 (ww o0 (tt k0 nn))))))))))) (fun k0=>(lo fun o0=>(lo fun o1=>let a:=xG (Nat.beq 1 1);let b:=xG (decide (aD.length<4611686018427387904));let e:=xG (decide (aD.length=aD.length));let h:=xG (Nat.beq 0 0);(sl Ug 46 [(57,6,Zz ([]:List R6))] ⟨[8,3,4,5,6,2,7,0,1,9],[],j9d,j9f⟩ ⟨[],(Cl 4 [.cells [.grow 9 6,.list 0 (Zz ([]:List R4)),.keep,.keep],.keep,.rowed 1 (Sz aD).length (Zz (Sz aD)),.keep,.keep,.keep]),[]⟩ (bl 2 0) (pp (xL aD.length (Sz aD).length (by first | exact N4 _ _ | exact Uu rfl)) (pp (xS aD.length (Zz (Sz aD)) (Zz (Sz aD))) (pp (fl (Sz aD) (fl ([]:List R6) nn)) (pp (pp a (pp a (pp h (pp e (pp (xG (EP (Zz (Xm (Yq aD.length (CP (Zz aD))))))) b))))) (pp (pp a (pp a (pp h (pp e (pp (xG (EP (Zz aD))) b))))) (tt k0 nn)))))))))))
 | .h2 v4 aH aW bE bF aF aK=>(lb (fun k0=>(lo fun o0=>(lo fun o1=>(lo fun o2=>(lo fun o3=>(sl Ug 48 [(116,4,Zz ([]:List R4))] ⟨[0,1,2,3,4,5,6,7,8,10,11,12,9],[],u5o,u5q⟩ ⟨[],(Cl 10 [.cells [.grow 11 4],.keep,.keep]),[]⟩ (CA 3 []) (pp (fl aK (fl ([]:List R4) (fl aH nn))) (ww o3 (ww o2 (ww o1 (ww o0 (tt k0 nn)))))))))))) (fun k0=>(lb (fun k1=>(lr 25 52 [1,1,1,0,1,1,0,0] 1 9 [(2,(ii 8))] (sl Ug 50 [] (a8 [2]) a6 (bl 7 126) (tt k1 (tt k0 nn))))) (fun k1=>(lo fun bU=>(lo fun dA=>let a:=pp (xw bU) (pp nn nn);let b:=pp (xr l0) (xw dA);let c:=tt k1 (tt k0 nn);(lb (fun k2=>(lr 25 52 [1,1,1,0,1,1,0,0] 1 9 [(2,(ii 8))] (sl Ug 53 [] (a8 [2]) a6 (bl 7 64) (tt k2 (pp (pp a (pp (xI R6 (aH.length) (fun k=>(Zz aH) (0+k))) b)) c))))) (fun k2=>(lr 25 3 [1,1,1,1,0] 1 9 [(2,(ii 0))] (sl Ug 54 [] (a8 [2]) a6 (bl 7 0) (tt k2 (pp (pp a (pp (xI R6 (aH.length) (fun k=>(Zz aH) (0+k))) b)) c))))))))))))
 | .h3 v4 v38 aH aW bE bF aF aK aG bC aA=>(lb (fun k0=>(lo fun aE=>let h:=ww aE (tt k0 nn);let n:=fl aK (fl aA (fl aH nn));let q:=List.range 13;(lb (fun k1=>(lb (fun k2=>(lo fun o0=>let g:=xL (aA.length+1) (x1t aA l0 v38).length;let m:=x1t aA l0 v38;(sl Ug 41 [] ⟨[0,1,2,3,4,5,6,7,8,9,10,15,12],[],u5o,u5q⟩ ⟨[],(Cl 10 [.cells [.len m.length],.rowed 4 m.length (Zz m),.keep]),[]⟩ (CA 8 []) (pp g (pp g (pp (xS (aA.length+1) (Zt (Zz aA) 0 aA.length 4 [(ii (rd l0 (tn v38)).a),(ii (rd l0 (tn v38)).b),(ii (rd l0 (tn v38)).d),(ii (rd l0 (tn v38)).e)]) (Zz (x1t aA l0 v38))) (pp (fl aK (pp (xF (Zt (Zz aA) 0 aA.length 4 [(ii (rd l0 (tn v38)).a),(ii (rd l0 (tn v38)).b),(ii (rd l0 (tn v38)).d),(ii (rd l0 (tn v38)).e)])) (fl aH nn))) (ww o0 (tt k2 (tt k1 h)))))))))) (fun k2=>(sl Ug 41 [] ⟨q,[],u5o,u5q⟩ a6 (CA 7 [false]) (pp n (tt k2 (tt k1 h))))))) (fun k1=>(sl Ug 41 [] ⟨q,[],u5o,u5q⟩ a6 (bl 8 1) (pp n (tt k1 h))))))) (fun k0=>let f:=xZ (Cm 4 4 0 aA.length aA.length (Zz aA)) aA.length (Zz aA);let l:=xS aA.length (Zz aA) (Zz aA);let o:=xL aA.length aA.length;let p:=fl aH (fl aK nn);(Xh (sl Ug (C':=⟨⟨65,0,true⟩,(Vm prog 93 [1,1,0,1,0,1,0,0] 4),(Zg prog 93 [1,1,0,1,0,1,0,0] 1),(some 0),[],⟨Yj [(2,(.ptr 1 0)),(4,(.ptr 2 0)),(5,(.ptr 3 0)),(6,(.ptr 4 0)),(7,(.ptr 6 0)),(20,(.dat aA.length (Zz aA)))],Ch [(1,⟨[.nilf],101,none⟩),(2,⟨[.nils],33,none⟩),(3,⟨[(ii 0)],24,none⟩),(4,⟨[(.sla 5 6 0 aH.length (.un 6)),(.dat aW.length (Zz aW)),(ii bE),(ii bF)],179,none⟩),(5,⟨Ya aH.length (Zz aH),57,some ⟨6,aH.length,(Zz aH)⟩⟩),(6,⟨[(ii aG),(ii bC),(.sl 7 0 1 (.ex 1))],184,none⟩),(7,⟨[(.dat aA.length (Zz aA))],80,none⟩),(8,⟨[(.sla 9 1 0 aF (.un 1))],125,none⟩),(9,⟨Ya aK.length (Zz aK),3,some ⟨1,aK.length,(Zz aK)⟩⟩),(10,⟨[(.sl 11 0 1 (.un 1))],177,none⟩),(11,⟨[(.dat l0.length (Zz l0))],32,none⟩)],12,[],true⟩,[⟨⟨86,0,true⟩,(Vm prog 162 [1,0,0,1,0,0,1,1,0] 2),(Zg prog 162 [1,0,0,1,0,0,1,1,0] 1),none,[],Yj [(0,(.yld 0)),(1,(.ptr 8 0)),(2,(.ptr 10 0)),(4,(ii v4)),(82,(.yld 0)),(83,(.agg [(ii aG),(ii bC),(.sl 7 0 1 (.ex 1))]))]⟩,⟨⟨65,0,true⟩,none,(.inRangeFunc 0::(Zg prog 93 [1,1,0,1,0] 1)),none,(Zy prog 93),Yj [(4,(.ptr 2 0)),(5,(.ptr 3 0)),(6,(.ptr 4 0))]⟩,⟨⟨25,0,true⟩,(Vm prog 52 [1,1,1,0,0] 3),(Zg prog 52 [1,1,1,0,0] 1),none,(Zy prog 9),Yj [(0,(.dat l0.length (Zz l0))),(11,(.agg [.nilf])),(13,(.sl 11 0 1 (.un 1)))]⟩],(DH [(0,⟨.busy,none,65,Yj [(2,(.ptr 1 0)),(4,(.ptr 2 0)),(5,(.ptr 3 0)),(6,(.ptr 4 0))],[15],(Wc prog 93 [1,1,0,1,0,0]),(Wc prog 93 [1,1,0,1,0,1])⟩)])⟩) 37 [] ⟨[0,1,2,3,4,12,13,10,5,6,7,8],[11],[some [2,4,5,6,7,20],some [0,1,2,4,82,83],some [4,5,6],some [0,11,13]],[some [2,4,5,6],none,none,none,none,none,none,none,none,none,none,none]⟩ ⟨[(20,.frz aA.length aA.length (Zz aA) (Zz aA))],[.keep,.keep,.keep,.keep,.keep,.keep,.keep,.cells [.frz aA.length aA.length (Zz aA) (Zz aA)],.keep,.keep,.keep,.keep],[]⟩ (bl 2 0) (pp f (pp o (pp l (pp f (pp o (pp l (pp p (pp (fl aA nn) (tt k0 nn)))))))))) (lo fun aE=>let c:=pp (pp (xr aA) (xw aE)) nn;(lb (fun k1=>(lr 25 52 [1,1,1,0,1,1,0,0] 1 9 [(2,(ii 8))] (sl Ug 67 [] (a8 [2]) a6 (bl 8 254) (tt k1 (tt k1 c))))) (fun k1=>let i:=fl aK (fl aH nn);(lb (fun k2=>let j:=tt k2 (tt k1 c);(lb (fun k3=>(lo fun bZ=>(lb (fun k4=>(sl Ug 75 [] ⟨[4,5,0,1,2,3,8,9,10,11,7],[],L8,La⟩ a6 (bl 15 32764) (pp p (tt k4 (pp (pp (xr aW) (pp (xI R4 (Za (B3 aA)).length (Zz (Za (B3 aA)))) (xw bZ))) (tt k3 j)))))) (fun k4=>(sl Ug 95 [] ⟨[4,0,1,2,3,8,9,10,11,7,5],[],u5n,u5p⟩ a6 (bl 15 16380) (pp i (tt k4 (pp (pp (xr aW) (pp (xI R4 (Za (B3 aA)).length (Zz (Za (B3 aA)))) (xw bZ))) (tt k3 j))))))))) (fun k3=>(sl Ug 95 [] ⟨[4,0,1,2,3,8,9,10,11,7,5],[],u5n,u5p⟩ a6 (bl 15 252) (pp i (tt k3 j)))))) (fun k2=>(sl Ug 95 [] ⟨[4,0,1,2,3,8,9,10,11,7,5],[],u5n,u5p⟩ a6 (bl 15 0) (pp i (tt k2 (tt k1 c))))))))))))
 | .h4 v1 v2 v72 v73 v74 bR aY aC bD aZ aF aK aG=>(lb (fun k0=>(lo fun o0=>(lo fun o1=>let e:=xL (aC.length+1) (x1s aC v72 v74 v1 v2).length;let f:=x1s aC v72 v74 v1 v2;(sl Ug 23 [] ⟨[0,1,2,3,4,5,6,7,8,9,13],[],u5n,u5p⟩ ⟨[],[.cells [.len f.length,.keep,.keep,.keep],.keep,.keep,.keep,.keep,.keep,.keep,.keep,.keep,.keep,.rowed 6 f.length (Zz f)],[]⟩ [true] (pp e (pp e (pp (xS (aC.length+1) (Zt (Zz aC) 0 aC.length 6 [(ii (rd v72 (tn v74)).a),(ii (rd v72 (tn v74)).b),(ii v1),(ii (rd v72 (tn v74)).c),(ii (rd v72 (tn v74)).d),(ii v2)]) (Zz (x1s aC v72 v74 v1 v2))) (pp (fl aK (pp (xF (Zt (Zz aC) 0 aC.length 6 [(ii (rd v72 (tn v74)).a),(ii (rd v72 (tn v74)).b),(ii v1),(ii (rd v72 (tn v74)).c),(ii (rd v72 (tn v74)).d),(ii v2)])) nn)) (ww o1 (ww o0 (tt k0 nn))))))))))) (fun k0=>(sl Ug 22 [] ⟨[1,2,3,4,0,5,6,7,8,10],[],j9d,j9f⟩ a6 (bl 2 0) (pp (fl aK (fl aC nn)) (tt k0 nn)))))
 | .h5 v2 v8 cB bR aY aC bD aZ bT bP bX aA=>(lb (fun k0=>(lo fun o0=>(lo fun o1=>let a:=xL aC.length (x1v aC v8 v2).length;let b:=x1v aC v8 v2;(sl Ug 34 [] ⟨(List.range 11),[],L8,La⟩ ⟨[],[.cells [.len b.length,.keep,.keep,.keep],.rowed 6 b.length (Zz b),.keep,.keep,.keep,.keep,.keep,.keep,.keep,.keep,.keep],[]⟩ [true] (pp a (pp a (pp (xS aC.length (Xa (Zz aC) (0+(tn v8)) 5 [(ii v2)]) (Zz (x1v aC v8 v2))) (pp (pp (xF (Xa (Zz aC) (0+(tn v8)) 5 [(ii v2)])) (fl bX nn)) (ww o1 (ww o0 (tt k0 nn))))))))))) (fun k0=>(sl Ug 36 [] ⟨[2,3,4,5,0,6,7,8,9,1],[],j9d,j9f⟩ a6 (bl 2 0) (pp (fl bX (fl aC nn)) (tt k0 nn)))))
theorem w1b (l0:List R6):Xw prog (Zy prog 52) (Oo l0) (Zm prog 52 [(.dat l0.length (Zz l0))] true []) (ZG l0):=(lb (fun k0=>(lr 25 52 [1,0,1,0,0] 1 9 [(2,(ii 4))] (sl Ug 16 [] (a8 [2]) a6 [true] (tt k0 nn)))) (fun k0=>(sl Ug 40 [] ⟨[],[],L9,Lb⟩ a6 [false] (tt k0 nn))))
theorem u5m (l0:List R6) (n:Nat) (vs:List B2) (h:Zo (Xf l0) n (ZG l0)=.ret vs):Uj prog (Zy prog 52) (Zm prog 52 [(.dat l0.length (Zz l0))] true []) vs:=by have:=Zb (v1g l0) n _ (w1b l0);rwa [h] at this
theorem w2f (l:List R4):(Za l).length <=400:=by grind [Za]
def D6 :CJ R6 R4:=⟨R6.c,R6.f,fun r=>⟨r.a,r.b,r.d,r.e⟩,fun x x' s=>⟨s.a,s.b,x,s.c,s.d,x'⟩,fun x r=>⟨r.a,r.b,r.c,r.d,r.e,x⟩,Za,Uw⟩
theorem j6v (l:List R6) (x:Int):(D6.sec l x).length <=1000:=AF (w2f _) (by omega)
def DQ :List B2:=[.int .i64 8]
def U3 (l out:List R6):List B2:=bif decide ((out.length:Int)>400) then [.int .i64 8] else bif E6 out l then [.int .i64 0] else [.int .i64 8]
def Gi (l:List R6) (x:Int):Bool:=Xk (D6.inn l x) != 0
def Ct (l:List R6):Nat->Nat->Bool
 | 0,_=>true
 | k+1,i=>bif Gi l (rd (D6.cuts l) i) then false else Ct l k (i+1)
section
variable (l:List R6) (hl:l.length<=400)
include hl
theorem j2u (i:Nat) (out:List R6) (last:List R4) (first fin x x':Int): ∀(k j:Nat) (acc:List R4),j+k=l.length->acc.length<=j->
  ∃n,∀N,Zo (Xf l) (N+n) (.to (.h3 (i:Int) (j:Int) out last first fin ((D6.cuts l).length) (Wk (Xm (D6.ends l))) x x' acc))=Zo (Xf l) N (.to (.h3 (i:Int) (l.length:Int) out last first fin ((D6.cuts l).length) (Wk (Xm (D6.ends l))) x x' (acc++D6.inn (l.drop j) x)))
 | 0,j,acc,h,ha=>by refine ⟨0,fun N=> ?_⟩;rw [As (by omega),show D6.inn ([]:List R6) x=[] from rfl,AE,Bd,show j=l.length by omega]
 | k+1,j,acc,h,ha=>by
  have hj:j<l.length:=by omega
  obtain ⟨n,hn⟩:=j2u i out last first fin x x' k (j+1) (acc++D6.inn [rd l j] x) (by omega) (by have:=D6.inn_length [rd l j] x;grind)
  refine ⟨n+1,fun N=> ?_⟩;have e:D6.inn (l.drop j) x=D6.inn [rd l j] x++D6.inn (l.drop (j+1)) x:=by rw [Yg hj,<-D6.inn_append];rfl
  rw [e,<-AD,Zx,<-AM,<-hn N];by_cases h1:D6.lo (rd l j)<=x
  .by_cases h2:x<D6.hi (rd l j)
   .rw [D6.inn_t _ _ h1 h2];simp only [D6] at h1 h2 ⊢;simp (disch:=omega) only [Xf,Wj,Zd,Zq,Yy,Yz,Yd,Yu,Yk,Zh,Zj,Zw,Yc,Zk,Af,Ao,Ah,Ai,Ab,Aa]
   .rw [D6.inn_f2 _ _ h2,AE];simp only [D6] at h1 h2;simp (disch:=omega) only [Xf,Wj,Yh,Zd,Zq,Yy,Yz,Yd,Yu,Yk,Zh,Zj,Zw,Yc,Zk,Af,Ao,Ah,Ai,Ab,Aa]
  .rw [D6.inn_f1 _ _ h1,AE];simp only [D6] at h1;simp (disch:=omega) only [Xf,Nx,Zd,Zq,Yy,Yz,Yd,Yu,Yk,Zh,Zj,Zw,Yc,Zk,Af,Ao,Ah,Ai,Ab,Aa]
theorem j2t (i:Nat) (hi:i<=1000) (x x':Int) (s last:List R4) (first:Int) (inn:List R4) (hs:s.length<=1000): ∀(k j:Nat) (out:List R6),j+k=s.length->out.length<=10000000+j->
  ∃n,∀N,Zo (Xf l) (N+n) (.to (.h4 x x' s (s.length:Int) (j:Int) s (i:Int) out last first ((D6.cuts l).length) (Wk (Xm (D6.ends l))) inn))=Zo (Xf l) N (.to (.h2 ((i+1:Nat):Int) (out++(s.drop j).map (D6.put x x')) last first x' ((D6.cuts l).length) (Wk (Xm (D6.ends l)))))
 | 0,j,out,h,ho=>by
  have _u:=hl;refine ⟨1,fun N=> ?_⟩
  grind [Zx,Xf,Zj]
 | k+1,j,out,h,ho=>by
  obtain ⟨n,hn⟩:=j2t i hi x x' s last first inn hs k (j+1) (out++[D6.put x x' (rd s j)]) (by omega) (by simp;omega)
  refine ⟨n+1,fun N=> ?_⟩;have:=hn N;rw [Yg (show j<s.length by omega),AT,<-AD,Zx];simp (disch:=omega) only [Xf,Zd,Zq,Yy,Yz,Yd,Yu,Yk,Zh,Zj,Zw,Yc,Zk,Af,Ao,Ah,Ai,Ab,Aa];rw [AM] at this;exact this
theorem j2s (i:Nat) (hi:i<=1000) (x x' fin:Int) (s last:List R4) (first:Int) (inn:List R4): ∀(k j:Nat) (out:List R6),j+k=out.length->out.length<=10000000->
  ∃n,∀N,Zo (Xf l) (N+n) (.to (.h5 x' (j:Int) x s (i:Int) out last first fin ((D6.cuts l).length) (Wk (Xm (D6.ends l))) inn))=Zo (Xf l) N (.to (.h2 ((i+1:Nat):Int) (D6.grow out j x') last first x' ((D6.cuts l).length) (Wk (Xm (D6.ends l)))))
 | 0,j,out,h,ho=>by
  have _u:=hl;refine ⟨1,fun N=> ?_⟩;rw [D6.grow_nil _ _ _ (by omega),Zx]
  grind [Xf,Zj]
 | k+1,j,out,h,ho=>by
  obtain ⟨n,hn⟩:=j2s i hi x x' fin s last first inn k (j+1) (out.set j (D6.ext x' (rd out j))) (by simp;omega) (by grind)
  refine ⟨n+1,fun N=> ?_⟩;have:=hn N;rw [D6.grow_set out j _ (by omega)] at this;rw [<-AD,Zx];simp (disch:=omega) only [Xf,Zd,Zq,Yy,Yz,Yd,Yu,Yk,Zh,Zj,Zw,Yc,Zk,Af,Ao,Ah,Ai,Ab,Aa];exact this
theorem v7j : ∀(k i:Nat) (s:Sw R6 R4),k=(D6.cuts l).length - 1 - i->i<=(D6.cuts l).length ->s.out.length<=i*1000->s.last.length<=1000->s.first<=s.out.length->
  ∃n,Zo (Xf l) n (.to (.h2 ((i+1:Nat):Int) s.out s.last (s.first:Int) s.fin ((D6.cuts l).length) (Wk (Xm (D6.ends l)))))=.ret ((bif Ct l k i then U3 l (D6.go l k i s).out else DQ))
 | 0,i,s,h,hi,ho,hla,hf=>by
  have hc:=D6.cuts_length l;refine ⟨1,?_⟩;rw [Zx,show D6.go l 0 i s=s from rfl,show Ct l 0 i=true from rfl,Ab];unfold U3;by_cases q:(s.out.length:Int)>400
  .grind [Xf,Zp]
  .have e:Cn R6 s.out.length (fun k=>(Zz s.out) k)=s.out:=Zq s.out;have w:Kn s.out l=true:=Al (by omega);have f:Df (Zz s.out)=true:=Xn _;rcases Zs (E6 s.out l) with q2 | q2 <;>
   simp (disch:=omega) only [Xf,Zd,e,w,f,q2,Yh,Wu,Yd,Yc,Af,Ay,AB,Ah,Ab,Aa,Zp]
 | k +1,i,s,h,hi,ho,hla,hf=>by
  have hc:=D6.cuts_length l;have hi1:i+1<(D6.cuts l).length :=by omega
  have hpl:(Wk (Xm (D6.ends l))).length =2*l.length:=by rw [Ui,Uz,D6.ends_length]
  have r0:rd (Wk (Xm (D6.ends l))) i=rd (D6.cuts l) i:=GC _ _ (by show i<(D6.cuts l).length;omega);have r1:rd (Wk (Xm (D6.ends l))) (i+1)=rd (D6.cuts l) (i+1):=GC _ _ (by show i+1<(D6.cuts l).length;omega);have hbig:i*1000<=1000*1000:=AC _ (by omega);have hsl:=j6v l (rd (D6.cuts l) i);have hsd:D6.sec l (rd (D6.cuts l) i)=Za (D6.inn l (rd (D6.cuts l) i)):=rfl;obtain ⟨n3,h3⟩:=j2u l hl (i+1) s.out s.last (s.first:Int) s.fin (rd (D6.cuts l) i) (rd (D6.cuts l) (i+1)) l.length 0 [] (Af _) (Aq _);simp only [AS,Bc,Du] at h3;have w1:Us (D6.inn l (rd (D6.cuts l) i))=true:=rfl;have w2:Wg s.last (Za (D6.inn l (rd (D6.cuts l) i)))=true:=Al (by omega);have ol:=D6.one_length l (rd (D6.cuts l) i) (rd (D6.cuts l) (i+1)) s;have st0: ∀N,Zo (Xf l) (N+n3+1) (.to (.h2 ((i+1:Nat):Int) s.out s.last (s.first:Int) s.fin ((D6.cuts l).length) (Wk (Xm (D6.ends l)))))=Zo (Xf l) N (.to (.h3 ((i+1:Nat):Int) (l.length:Int) s.out s.last (s.first:Int) s.fin ((D6.cuts l).length) (Wk (Xm (D6.ends l))) (rd (D6.cuts l) i) (rd (D6.cuts l) (i+1)) (D6.inn l (rd (D6.cuts l) i)))):=fun N=>by
   rw [<-h3 N,Zx];have e1:wrap .i64 (((i+1:Nat):Int) - 1)=(i:Int):=by rw [Yx];exact Zj (by omega)
   simp (disch:=omega) only [Xf,e1,r0,r1,Zd,Zq,Yy,Yz,Yd,Yu,Yk,Zh,Zj,Zw,Yc,Zk,Af,Ao,Ah,Ai,Ab,Aa]
  rcases Zs (Gi l (rd (D6.cuts l) i)) with q0 | q0
  .refine ⟨1+n3+1,?_⟩;rw [st0 1,Zx];simp only [Ct,q0,Ab,Aa];have q0':(Xk (D6.inn l (rd (D6.cuts l) i)) != 0)=true:=q0;simp (disch:=omega) only [Xf,Zd,Zq,Yh,q0',w1,Ab,Aa,Zp];rfl
  have q0':(Xk (D6.inn l (rd (D6.cuts l) i)) != 0)=false:=q0;rcases Zs (decide (0<(D6.sec l (rd (D6.cuts l) i)).length)&&((s.fin == rd (D6.cuts l) i)&&D6.same s.last (D6.sec l (rd (D6.cuts l) i)))) with q | q
  .obtain ⟨n5,h5⟩:=j2s l hl (i+1) (by omega) (rd (D6.cuts l) i) (rd (D6.cuts l) (i+1)) s.fin (D6.sec l (rd (D6.cuts l) i)) s.last (s.first:Int) (D6.inn l (rd (D6.cuts l) i)) (s.out.length - s.first) s.first s.out (by omega) (by omega)
   have e:D6.one l (rd (D6.cuts l) i) (rd (D6.cuts l) (i+1)) s=⟨D6.grow s.out s.first (rd (D6.cuts l) (i+1)),s.last,s.first,rd (D6.cuts l) (i+1)⟩:=by unfold CJ.one;rw [q];rfl
   obtain ⟨n0,h0⟩:=v7j k (i+1) (D6.one l (rd (D6.cuts l) i) (rd (D6.cuts l) (i+1)) s) (by omega) (by omega) (by omega) (by grind) (by grind [CJ.grow_length]);refine ⟨n0+n5+1+n3+1,?_⟩;rw [st0 (n0+n5+1),Zx];simp only [Ae,Ar] at q;obtain ⟨q1,q2,q3⟩:=q;have q3':Uw s.last (Za (D6.inn l (rd (D6.cuts l) i)))=true:=q3
   grind [Xf,Zd,Ct,CJ.go]
  .obtain ⟨n4,h4⟩:=j2t l hl (i+1) (by omega) (rd (D6.cuts l) i) (rd (D6.cuts l) (i+1)) (D6.sec l (rd (D6.cuts l) i)) (D6.sec l (rd (D6.cuts l) i)) (s.out.length:Int) (D6.inn l (rd (D6.cuts l) i)) hsl (D6.sec l (rd (D6.cuts l) i)).length 0 s.out (Af _) (by omega);simp only [AS,Du] at h4;have e:D6.one l (rd (D6.cuts l) i) (rd (D6.cuts l) (i+1)) s=⟨s.out++(D6.sec l (rd (D6.cuts l) i)).map (D6.put (rd (D6.cuts l) i) (rd (D6.cuts l) (i+1))),D6.sec l (rd (D6.cuts l) i),s.out.length,rd (D6.cuts l) (i+1)⟩:=by unfold CJ.one;rw [q];rfl
   obtain ⟨n0,h0⟩:=v7j k (i+1) (D6.one l (rd (D6.cuts l) i) (rd (D6.cuts l) (i+1)) s) (by omega) (by omega) (by omega) (by grind) (by rw [e];simp);have hg:Zo (Xf l) 1 (.to (.h3 ((i+1:Nat):Int) (l.length:Int) s.out s.last (s.first:Int) s.fin ((D6.cuts l).length) (Wk (Xm (D6.ends l))) (rd (D6.cuts l) i) (rd (D6.cuts l) (i+1)) (D6.inn l (rd (D6.cuts l) i))))=.to (.h4 (rd (D6.cuts l) i) (rd (D6.cuts l) (i+1)) (D6.sec l (rd (D6.cuts l) i)) ((D6.sec l (rd (D6.cuts l) i)).length :Int) 0 (D6.sec l (rd (D6.cuts l) i)) ((i+1:Nat):Int) s.out (D6.sec l (rd (D6.cuts l) i)) (s.out.length:Int) ((D6.cuts l).length) (Wk (Xm (D6.ends l))) (D6.inn l (rd (D6.cuts l) i))):=by
    rw [show (1:Nat)=0+1 from rfl,Zx];rw [hsd] at q ⊢;have e3:D6.same s.last (Za (D6.inn l (rd (D6.cuts l) i)))=Uw s.last (Za (D6.inn l (rd (D6.cuts l) i))):=rfl;rw [e3] at q;by_cases q1:0<(Za (D6.inn l (rd (D6.cuts l) i))).length
    .rw [Al q1,Ai] at q;rcases Zs (s.fin == rd (D6.cuts l) i) with q2 | q2
     .rw [q2,Ai] at q;simp (disch:=omega) only [Xf,Zd,Zq,Yh,Yt,q0',q2,q,w1,w2,Ab,Aa];rfl
     .simp (disch:=omega) only [Xf,Zd,Zq,Yh,Yt,q0',q2,w1,w2,Ab,Aa];rfl
    .simp (disch:=omega) only [Xf,Zd,Zq,Yh,Wu,q0',w1,w2,Ab,Aa];rfl
   refine ⟨n0+n4+1+n3+1,?_⟩;simp_all [Tg,Ct,CJ.go]
theorem j2v : ∀(k i:Nat) (acc:List Int),i+k=l.length->acc=D6.ends (l.take i)-> ∃n,Zo (Xf l) n (.to (.h1 (i:Int) acc))=.ret ((bif Ct l ((D6.cuts l).length - 1) 0 then U3 l (D6.go l ((D6.cuts l).length - 1) 0 ⟨[],[],0,0⟩).out else DQ))
 | 0,i,acc,h,ha=>by
  have e:acc=D6.ends l:=by grind
  subst e;have hle:=D6.ends_length l;obtain ⟨n,hn⟩:=v7j l hl ((D6.cuts l).length - 1) 0 ⟨[],[],0,0⟩ (by omega) (AA _) (AA _) (AA _) (AA _);refine ⟨n+1,?_⟩;rw [Zx];simp (disch:=omega) only [Xf,Jo,N8,NH,Yh,Yu,Yk,Ao,Ab,Aa];exact hn
 | k+1,i,acc,h,ha=>by
  have hle:=D6.ends_length (l.take i);have gD:acc.length<=2*i:=by grind
  obtain ⟨n,hn⟩:=j2v k (i+1) (acc++D6.ends [rd l i]) (by omega) (by
   rw [ha,AW];have:l[i]? =some (rd l i):=by grind [Yo]
   rw [this,D6.ends_append];rfl)
  refine ⟨n+1,?_⟩;rw [Zx];simp (disch:=omega) only [Xf,Zd,Zq,Yy,Yz,Yd,Yu,Yk,Zh,Zj,Zw,Yc,Zk,Af,Ao,Ah,Ai,Ab,Aa];exact hn
theorem j2w : ∀(k i:Nat),i+k=l.length->(∀s∈l.take i,Qv s=true)-> ∃n,Zo (Xf l) n (.to (.h0 (i:Int)))=.ret (bif l.all Qv then (bif Ct l ((D6.cuts l).length - 1) 0 then U3 l (D6.go l ((D6.cuts l).length - 1) 0 ⟨[],[],0,0⟩).out else DQ) else DQ)
 | 0,i,h,ht=>by
  have hv:l.all Qv=true:=At.2 fun s hs=>ht s (by grind);obtain ⟨n,hn⟩:=j2v l hl l.length 0 [] (Af _) rfl;refine ⟨n+1,?_⟩
  grind [Zx,Xf]
 | k+1,i,h,ht=>by
  have hi:i<l.length:=by omega
  have hs:Xf l (.h0 (i:Int))=bif Qv (rd l i) then .to (.h0 ((i+1:Nat):Int)) else .ret DQ:=by have e:Pk (rd l i).a (rd l i).b (rd l i).c (rd l i).d (rd l i).e (rd l i).f =Qv (rd l i):=rfl;simp (disch:=omega) only [Xf,e,S7,UR,w9m,Yz,Zj,Zw,Zk,Ah,Ab,Aa];rfl
  rcases Zs (Qv (rd l i)) with q | q
  .obtain ⟨n,hn⟩:=j2w k (i+1) (by omega) (fun s hs=>by
    rw [AW] at hs
    grind [Yo])
   refine ⟨n+1,?_⟩
   grind [Zx]
  .have hv:l.all Qv=false:=A3.2 fun e=>by
    grind [Yo]
   refine ⟨1,?_⟩
   grind [Zx,Zp]
end
def Zf (l:List R6):Int:=bif decide (400<l.length) then 4 else bif l.all Qv then (bif Ct l ((D6.cuts l).length - 1) 0 then (bif decide (((D6.out l).length :Int)>400) then 8 else bif E6 (D6.out l) l then 0 else 8) else 8) else 8
def v7l (l:List R6):Bool:=true
theorem j9b (l:List R6): ∃n,Zo (Xf l) n (ZG l)=.ret [.int .i64 (Zf l)]:=by
 unfold ZG Zf;by_cases h:400<l.length
 .refine ⟨0,?_⟩;rw [Al h,Yt (show (l.length:Int)>400 by omega)];rfl
 .obtain ⟨n,hn⟩:=j2w l (by omega) l.length 0 (Af _) (fun s hs=>by simp at hs);refine ⟨n,?_⟩;rw [Av h,Wu (show ¬(l.length:Int)>400 by omega),Aa,Aa];rw [Du] at hn;rw [hn];unfold DQ U3;cases l.all Qv <;> simp only [Ab,Aa];cases Ct l ((D6.cuts l).length - 1) 0 <;> simp only [Ab,Aa];show Xz.ret (bif decide (((D6.out l).length :Int)>400) then _ else bif E6 (D6.out l) l then _ else _)=_
  grind
def QN :List B2->Option (B2×Bool)
 | [a1]=>match CS R6 a1 with
  | some (L1,g1,n1)=>some (.int .i64 (Zf L1),CO R6 n1 g1&&v7l L1)
  | _=>none
 | _=>none
theorem t3c {S:B4} (hS:Zv prog S):Zv prog (S.with x7v QN):=by
 refine Qn hS (by kernel_rfl) fun args v h=> ?_;unfold QN at h;split at h
 .rename_i a1;split at h
  .rename_i L1 g1 n1 e1;simp only [Ad,Ac,Ae] at h;obtain ⟨rfl,ho1,hw⟩:=h;obtain ⟨N,hN⟩:=j9b L1;exact ⟨_,_,(.cons (Yn e1 ho1) .nil),rfl,u5m L1 N _ hN,3,rfl⟩
  .cases h
 .cases h
def T8 :B4:=T7v.with x7v QN
theorem Dk :Zv prog T8:=t3c Ug
def We (l:List R6):Bool:=true
def y8a (l:List R6):Bool:=true
inductive FM where
 | h0 (v3:Int)
def t0r (l0:List R6):FM->CB
 | .h0 v3=>⟨⟨34,0,true⟩,none,(Zg prog 59 [1,1,0,1,0,0] 0),none,(Zy prog 9),⟨Yj [(0,(.dat l0.length (Zz l0))),(3,(ii v3))],Vk [] 0,0,[],true⟩,[],.leaf⟩
def j4q :List (Option (List Nat)):=[some [0,3]]
def j4r :List (Option (List Nat)):=[]
def J4 (l0:List R6):FM->Xz FM
 | .h0 v3=>(bif (decide (v3<(l0.length:Int))) then (bif ((decide (0<=v3/\v3<(l0.length:Int)))&&true) then (bif (decide ((rd l0 v3.toNat).a >=(-1000000))) then (bif (decide ((rd l0 v3.toNat).b >=(-1000000))) then (bif (decide ((rd l0 v3.toNat).c >=(-1000000))) then (bif (decide ((rd l0 v3.toNat).a <=1000000)) then (bif (decide ((rd l0 v3.toNat).b <=1000000)) then (bif (decide ((rd l0 v3.toNat).c <=1000000)) then (bif (decide ((rd l0 v3.toNat).d >=(-1000000))) then (bif (decide ((rd l0 v3.toNat).e >=(-1000000))) then (bif (decide ((rd l0 v3.toNat).f >=(-1000000))) then (bif (decide ((rd l0 v3.toNat).d <=1000000)) then (bif (decide ((rd l0 v3.toNat).e <=1000000)) then (bif (decide ((rd l0 v3.toNat).f <=1000000)) then (bif (decide ((rd l0 v3.toNat).a <(rd l0 v3.toNat).d)) then (bif (decide ((rd l0 v3.toNat).b <(rd l0 v3.toNat).e)) then (bif (!(decide ((rd l0 v3.toNat).c <(rd l0 v3.toNat).f))) then (.ret [(.int .i64 8)]) else (.to (.h0 (wrap .i64 (v3+1))))) else (.ret [(.int .i64 8)])) else (.ret [(.int .i64 8)])) else (.ret [(.int .i64 8)])) else (.ret [(.int .i64 8)])) else (.ret [(.int .i64 8)])) else (.ret [(.int .i64 8)])) else (.ret [(.int .i64 8)])) else (.ret [(.int .i64 8)])) else (.ret [(.int .i64 8)])) else (.ret [(.int .i64 8)])) else (.ret [(.int .i64 8)])) else (.ret [(.int .i64 8)])) else (.ret [(.int .i64 8)])) else (.ret [(.int .i64 8)])) else .stuck) else (bif (UK 2 (B3 l0) ([]:List R6)) then (bif (!(HL 2 (B3 l0) ([]:List R6))) then (.ret [(.int .i64 8)]) else (bif (Kn (B3 (ER 2 (B3 l0) ([]:List R6))) (B3 l0)) then (bif (!(E6 (B3 (ER 2 (B3 l0) ([]:List R6))) (B3 l0))) then (.ret [(.int .i64 8)]) else (.ret [(.int .i64 0)])) else .stuck)) else .stuck))
def Zl (l0:List R6):Xz FM:=(bif (decide ((l0.length:Int)>400)) then (.ret [(.int .i64 4)]) else (.to (.h0 0)))
theorem w2o (l0:List R6): ∀s,Xw prog (Zy prog 59) (t0r l0) (t0r l0 s) (J4 l0 s)
 | .h0 v3=>(lb (fun k0=>(lo fun aE=>let f:=ww aE (tt k0 nn);(lb (fun k1=>(lb (fun k2=>let c:=tt k2 (tt k1 f);(lb (fun k3=>let i:=bl 31 1073741824;(lb (fun k4=>let g:=tt k4 (tt k3 c);let l:=bl 28 134217728;(lb (fun k5=>let m:=bl 25 16777216;(lb (fun k6=>let a:=tt k6 (tt k5 g);(lb (fun k7=>(lb (fun k8=>let j:=tt k8 (tt k7 a);(lb (fun k9=>let d:=tt k9 j;(lb (fun k10=>(lb (fun k11=>let b:=tt k11 (tt k10 d);(lb (fun k12=>(lb (fun k13=>let e:=tt k13 (tt k12 b);(lb (fun k14=>(lb (fun k15=>(lr 34 59 [1,1,0,1,0,0,1,0,0,1,0,0] 1 9 [(2,(ii 8))] (sl Dk 158 [] (a8 [2]) a6 (CA 60 []) (tt k15 (tt k14 e))))) (fun k15=>(sl Dk 162 [] ⟨[],[],j4q,j4r⟩ a6 (CA 59 [false]) (tt k15 (tt k14 e)))))) (fun k14=>(lr 34 59 [1,1,0,1,0,0,1,0,0,1,0,0] 1 9 [(2,(ii 8))] (sl Dk 158 [] (a8 [2]) a6 (CA 52 (bl 8 128)) (tt k14 e)))))) (fun k13=>(lr 34 59 [1,1,0,1,0,0,1,0,0,1,0,0] 1 9 [(2,(ii 8))] (sl Dk 158 [] (a8 [2]) a6 (CA 45 (bl 15 16384)) (tt k13 (tt k12 b))))))) (fun k12=>(lr 34 59 [1,1,0,1,0,0,1,0,0,1,0,0] 1 9 [(2,(ii 8))] (sl Dk 158 [] (a8 [2]) a6 (CA 38 (bl 22 2097152)) (tt k12 b)))))) (fun k11=>(lr 34 59 [1,1,0,1,0,0,1,0,0,1,0,0] 1 9 [(2,(ii 8))] (sl Dk 158 [] (a8 [2]) a6 (CA 35 m) (tt k11 (tt k10 d))))))) (fun k10=>(lr 34 59 [1,1,0,1,0,0,1,0,0,1,0,0] 1 9 [(2,(ii 8))] (sl Dk 158 [] (a8 [2]) a6 (CA 32 l) (tt k10 d)))))) (fun k9=>(lr 34 59 [1,1,0,1,0,0,1,0,0,1,0,0] 1 9 [(2,(ii 8))] (sl Dk 158 [] (a8 [2]) a6 (CA 29 i) (tt k9 j)))))) (fun k8=>(lr 34 59 [1,1,0,1,0,0,1,0,0,1,0,0] 1 9 [(2,(ii 8))] (sl Dk 158 [] (a8 [2]) a6 (CA 25 (bl 35 17179869184)) (tt k8 (tt k7 a))))))) (fun k7=>(lr 34 59 [1,1,0,1,0,0,1,0,0,1,0,0] 1 9 [(2,(ii 8))] (sl Dk 158 [] (a8 [2]) a6 (CA 21 (bl 39 274877906944)) (tt k7 a)))))) (fun k6=>(lr 34 59 [1,1,0,1,0,0,1,0,0,1,0,0] 1 9 [(2,(ii 8))] (sl Dk 117 [] (a8 [2]) a6 (CA 18 m) (tt k6 (tt k5 g))))))) (fun k5=>(lr 34 59 [1,1,0,1,0,0,1,0,0,1,0,0] 1 9 [(2,(ii 8))] (sl Dk 117 [] (a8 [2]) a6 (CA 15 l) (tt k5 g)))))) (fun k4=>(lr 34 59 [1,1,0,1,0,0,1,0,0,1,0,0] 1 9 [(2,(ii 8))] (sl Dk 117 [] (a8 [2]) a6 (CA 12 i) (tt k4 (tt k3 c))))))) (fun k3=>(lr 34 59 [1,1,0,1,0,0,1,0,0,1,0,0] 1 9 [(2,(ii 8))] (sl Dk 117 [] (a8 [2]) a6 (CA 9 (bl 34 8589934592)) (tt k3 c)))))) (fun k2=>(lr 34 59 [1,1,0,1,0,0,1,0,0,1,0,0] 1 9 [(2,(ii 8))] (sl Dk 117 [] (a8 [2]) a6 (CA 5 (bl 38 137438953472)) (tt k2 (tt k1 f))))))) (fun k1=>(lr 34 59 [1,1,0,1,0,0,1,0,0,1,0,0] 1 9 [(2,(ii 8))] (sl Dk 117 [] (a8 [2]) a6 (bl 43 4398046511105) (tt k1 f))))))) (fun k0=>(lo fun aE=>(lb (fun k1=>(lr 34 59 [1,1,1,1,0,1,0,0] 1 9 [(2,(ii 8))] (sl Dk 37 [] (a8 [2]) a6 (bl 6 62) (tt k1 (pp (pp (xr l0) (pp (xI R6 0 (fun _=>[])) (xw aE))) (tt k0 nn)))))) (fun k1=>(lo fun bU=>let h:=pp (xr l0) (xw bU);(lb (fun k2=>(lr 34 59 [1,1,1,1,0,1,0,0] 1 9 [(2,(ii 8))] (sl Dk 37 [] (a8 [2]) a6 (bl 6 32) (tt k2 (pp (pp (xI R6 (ER 2 (B3 l0) ([]:List R6)).length (Zz (ER 2 (B3 l0) ([]:List R6)))) h) (tt k1 (pp (pp (xr l0) (pp (xI R6 0 (fun _=>[])) (xw aE))) (tt k0 nn)))))))) (fun k2=>(lr 34 3 [1,1,1,1,0] 1 9 [(2,(ii 0))] (sl Dk 38 [] (a8 [2]) a6 (bl 6 0) (tt k2 (pp (pp (xI R6 (ER 2 (B3 l0) ([]:List R6)).length (Zz (ER 2 (B3 l0) ([]:List R6)))) h) (tt k1 (pp (pp (xr l0) (pp (xI R6 0 (fun _=>[])) (xw aE))) (tt k0 nn)))))))))))))))
theorem x7i (l0:List R6):Xw prog (Zy prog 59) (t0r l0) (Zm prog 59 [(.dat l0.length (Zz l0))] true []) (Zl l0):=(lb (fun k0=>(lr 34 59 [1,0,1,0,0] 1 9 [(2,(ii 4))] (sl Dk 16 [] (a8 [2]) a6 [true] (tt k0 nn)))) (fun k0=>(sl Dk 20 [] ⟨[],[],j4q,j4r⟩ a6 [false] (tt k0 nn))))
theorem v9b (l0:List R6) (n:Nat) (vs:List B2) (h:Zo (J4 l0) n (Zl l0)=.ret vs):Uj prog (Zy prog 59) (Zm prog 59 [(.dat l0.length (Zz l0))] true []) vs:=by have:=Zb (w2o l0) n _ (x7i l0);rwa [h] at this
def Ej (r:R6):Bool:=decide (r.a>= -1000000)&&(decide (r.b>= -1000000)&&(decide (r.c>= -1000000)&&(decide (r.a<=1000000)&&(decide (r.b<=1000000)&&(decide (r.c<=1000000)&&(decide (r.d>= -1000000)&&(decide (r.e>= -1000000)&&(decide (r.f>= -1000000)&&(decide (r.d<=1000000)&&(decide (r.e<=1000000)&&(decide (r.f<=1000000)&&(decide (r.a<r.d)&&(decide (r.b<r.e)&&decide (r.c<r.f))))))))))))))
def Gs (l:List R6):Int:=bif HL 2 l [] then (bif E6 (ER 2 l []) l then 0 else 8) else 8
def Eu (l:List R6):Int:=bif decide (400<l.length) then 4 else bif l.all Ej then Gs l else 8
def v8z (l:List R6):Bool:=true
theorem v3j (k:Int) (l m:List R6):(ER k l m).length <=400\/HL k l m=false:=by grind [ER,HL]
section
variable (l:List R6) (hl:l.length<=400)
include hl
theorem v9a : ∀(k i:Nat),i+k=l.length->(∀s∈l.take i,Ej s=true)-> ∃n,Zo (J4 l) n (.to (.h0 (i:Int)))=.ret [.int .i64 (bif l.all Ej then Gs l else 8)]
 | 0,i,h,ht=>by
  have hv:l.all Ej=true:=At.2 fun s hs=>ht s (by grind);have w1:UK 2 l []=true:=Pc (by omega) (by simp);refine ⟨1,?_⟩;rw [Zx,hv,Ab];unfold Gs;rcases Zs (HL 2 l []) with q | q
  .have w2:Kn (ER 2 l []) l=true:=Al (by
    grind [v3j])
   rcases Zs (E6 (ER 2 l []) l) with q2 | q2 <;>
   simp (disch:=omega) only [J4,Zd,Yh,q,q2,w1,w2,Ay,AB,Ab,Aa,Zp]
  grind [J4,Zd,Zp]
 | k+1,i,h,ht=>by
  have hi:i<l.length:=by omega
  have hs:J4 l (.h0 (i:Int))=bif Ej (rd l i) then .to (.h0 ((i+1:Nat):Int)) else .ret [.int .i64 8]:=by simp (disch:=omega) only [J4,Ej,S6,S7,UR,Yz,Zj,Zw,Zk,Ah,Ab,Aa]
  rcases Zs (Ej (rd l i)) with q | q
  .obtain ⟨n,hn⟩:=v9a k (i+1) (by omega) (fun s hs=>by
    rw [AW] at hs
    grind [Yo])
   refine ⟨n+1,?_⟩
   grind [Zx]
  .have hv:l.all Ej=false:=A3.2 fun e=>by
    grind [Yo]
   refine ⟨1,?_⟩
   grind [Zx,Zp]
end
theorem u7d (l:List R6): ∃n,Zo (J4 l) n (Zl l)=.ret [.int .i64 (Eu l)]:=by
 unfold Zl Eu;by_cases h:400<l.length
 .refine ⟨0,?_⟩;rw [Al h,Yt (show (l.length:Int)>400 by omega)];rfl
 .obtain ⟨n,hn⟩:=v9a l (by omega) l.length 0 (Af _) (fun s hs=>by simp at hs)
  grind
def QW :List B2->Option (B2×Bool)
 | [a1]=>match CS R6 a1 with
  | some (L1,g1,n1)=>some (.int .i64 (Eu L1),CO R6 n1 g1&&v8z L1)
  | _=>none
 | _=>none
theorem t3l {S:B4} (hS:Zv prog S):Zv prog (S.with u0d QW):=by
 refine Qn hS (by kernel_rfl) fun args v h=> ?_;unfold QW at h;split at h
 .rename_i a1;split at h
  .rename_i L1 g1 n1 e1;simp only [Ad,Ac,Ae] at h;obtain ⟨rfl,ho1,hw⟩:=h;obtain ⟨N,hN⟩:=u7d L1;exact ⟨_,_,(.cons (Yn e1 ho1) .nil),rfl,v9b L1 N _ hN,3,rfl⟩
  .cases h
 .cases h
def T9 :B4:=T8.with u0d QW
theorem E1 :Zv prog T9:=t3l Dk
def pt (L:List R2) (y:Int):Prop:= ∃s∈L,s.a<=y/\y<s.b
structure Co (L:List R2):Prop where
 pos: ∀s∈L,s.a<s.b
 sep:L.Pairwise fun s t=>s.b<t.a
theorem Co.nil :Co []:=⟨by simp,.nil⟩
theorem Co.tail {s:R2} {L:List R2} (h:Co (s::L)):Co L:=⟨fun t ht=>h.pos t (List.mem_cons_of_mem _ ht),(AQ.1 h.sep).2⟩
theorem Co.head {s:R2} {L:List R2} (h:Co (s::L)): ∀t∈L,s.b<t.a:=(AQ.1 h.sep).1
theorem j6m {s:R2} {L:List R2} (h:Co (s::L)) {y:Int} (hy:pt (s::L) y):s.a<=y:=by
 obtain ⟨t,ht,h1,h2⟩:=hy;rcases AH.1 ht with rfl | ht
 .exact h1
 .have:=h.head t ht;have:=h.pos s (by simp);omega
theorem w9r : ∀(L M:List R2),Co L->Co M->(∀y,pt L y↔pt M y)->L=M
 | [],[],_,_,_=>rfl
 | [],t::M,_,hM,h=>by have:=(h t.a).2 ⟨t,by simp,A5 _,hM.pos t (by simp)⟩;obtain ⟨s,hs,_⟩:=this;cases hs
 | s::L,[],hL,_,h=>by have:=(h s.a).1 ⟨s,by simp,A5 _,hL.pos s (by simp)⟩;obtain ⟨s,hs,_⟩:=this;cases hs
 | s::L,t::M,hL,hM,h=>by
  have p1:=hL.pos s (by simp);have p2:=hM.pos t (by simp);have a1:t.a<=s.a:=j6m hM ((h s.a).1 ⟨s,by simp,A5 _,p1⟩);have a2:s.a<=t.a:=j6m hL ((h t.a).2 ⟨t,by simp,A5 _,p2⟩);have b1: ¬s.b<t.b:=fun hb=>by
   obtain ⟨u,hu,h1,h2⟩:=(h s.b).2 ⟨t,by simp,by omega,hb⟩;rcases AH.1 hu with rfl | hu
   .omega
   .have:=hL.head u hu;omega
  have b2: ¬t.b<s.b:=fun hb=>by
   obtain ⟨u,hu,h1,h2⟩:=(h t.b).1 ⟨s,by simp,by omega,hb⟩;rcases AH.1 hu with rfl | hu
   .omega
   .have:=hM.head u hu;omega
  have e:s=t:=by
   obtain ⟨sa,sb⟩:=s;obtain ⟨ta,tb⟩:=t;simp only at a1 a2 b1 b2;have:sa=ta:=by omega
   have:sb=tb:=by omega
   subst_vars;rfl
  subst e
  congr 1
  refine w9r L M hL.tail hM.tail fun y=>⟨fun hy=> ?_,fun hy=> ?_⟩
  .obtain ⟨u,hu,h1,h2⟩:=hy;have g:=hL.head u hu;obtain ⟨v,hv,h3,h4⟩:=(h y).1 ⟨u,by simp [hu],h1,h2⟩;rcases AH.1 hv with rfl | hv
   .omega
   .exact ⟨v,hv,h3,h4⟩
  .obtain ⟨u,hu,h1,h2⟩:=hy;have g:=hM.head u hu;obtain ⟨v,hv,h3,h4⟩:=(h y).2 ⟨u,by simp [hu],h1,h2⟩;rcases AH.1 hv with rfl | hv
   .omega
   .exact ⟨v,hv,h3,h4⟩
def push (out:List R2) (x x':Int):List R2:=
 bif decide (0<out.length)&&((rd out (out.length - 1)).b == x) then out.set (out.length - 1) ⟨(rd out (out.length - 1)).a,x'⟩ else out++[⟨x,x'⟩]
theorem v9e (out:List R2) (s:R2) (x x':Int):push (out++[s]) x x'=bif s.b == x then out++[⟨s.a,x'⟩] else out++[s]++[⟨x,x'⟩]:=by grind [rd,push]
theorem w7y {out:List R2} {x x':Int} (hc:Co out) (hb: ∀s∈out,s.b<=x) (hx:x<x'):
  Co (push out x x')/\(∀s∈push out x x',s.b<=x')/\ ∀y,pt (push out x x') y↔pt out y\/(x<=y/\y<x'):=by
 rcases List.eq_nil_or_concat out with rfl | ⟨L,s,rfl⟩
 .refine ⟨⟨?_,?_⟩,?_,fun y=> ?_⟩;all_goals simp_all [push,pt]
 .rw [List.concat_eq_append] at*;rw [v9e];have hs:=hb s (by simp);have hp:=hc.pos s (by simp);have sep:=BE.1 hc.sep;rcases Zs (s.b == x) with q | q
  .rw [q,Ab];have q:s.b=x:=by simpa using q
   refine ⟨⟨?_,?_⟩,?_,fun y=> ?_⟩
   .intro t ht;rcases AI.1 ht with ht | ht
    .exact hc.pos t (by simp [ht])
    grind
   .grind
   .grind
   .constructor
    .rintro ⟨t,ht,h1,h2⟩;rcases AI.1 ht with ht | ht
     .exact .inl ⟨t,by simp [ht],h1,h2⟩
     .rw [BU.1 ht] at h1 h2;by_cases hy:y<s.b
      .exact .inl ⟨s,by simp,h1,hy⟩
      grind
    .rintro (⟨t,ht,h1,h2⟩ | ⟨h1,h2⟩)
     .rcases AI.1 ht with ht | ht
      .exact ⟨t,by simp [ht],h1,h2⟩
      .rw [BU.1 ht] at h1 h2;exact ⟨⟨s.a,x'⟩,by simp,h1,by grind⟩
     .exact ⟨⟨s.a,x'⟩,by simp,by grind,h2⟩
  .rw [q,Aa];have q:s.b≠x:=by simpa using q
   refine ⟨⟨?_,?_⟩,?_,fun y=> ?_⟩
   .intro t ht;rcases AI.1 ht with ht | ht
    .exact hc.pos t ht
    grind
   .grind
   .grind
   .constructor
    .rintro ⟨t,ht,h1,h2⟩;rcases AI.1 ht with ht | ht
     .exact .inl ⟨t,ht,h1,h2⟩
     grind
    .rintro (⟨t,ht,h1,h2⟩ | ⟨h1,h2⟩)
     .exact ⟨t,AI.2 (.inl ht),h1,h2⟩
     .exact ⟨⟨x,x'⟩,by simp,h1,h2⟩
theorem Hh {l:List Int} (h:l.Pairwise (· < ·)) {i j:Nat} (hij:i<j) (hj:j<l.length):rd l i<rd l j:=by rw [Yo (by omega),Yo hj];exact AY.1 h i j (by omega) hj hij
theorem x5u (cuts:List Int) (ins:List Bool) (hc:cuts.Pairwise (· < ·)): ∀(k i:Nat) (out:List R2),i+k<cuts.length\/k=0->Co out->(∀s∈out,s.b<=rd cuts i)->
  Co (GM cuts ins k i out)/\ ∀y,pt (GM cuts ins k i out) y↔pt out y\/ ∃j,i<=j/\j<i+k/\rd ins j=true/\rd cuts j<=y/\y<rd cuts (j+1)
 | 0,i,out,h,ho,hb=>⟨ho,fun y=>⟨.inl,fun hy=>hy.elim id fun ⟨j,h1,h2,_⟩=>by omega⟩⟩
 | k +1,i,out,h,ho,hb=>by
  have hlt:rd cuts i<rd cuts (i+1):=Hh hc (BW _) (by omega);obtain ⟨p1,p2,p3⟩:=w7y ho hb hlt;have e:GM cuts ins (k+1) i out=GM cuts ins k (i+1) (bif rd ins i then push out (rd cuts i) (rd cuts (i+1)) else out):=rfl;rw [e];rcases Zs (rd ins i) with q | q
  .rw [q,Ab];obtain ⟨r1,r2⟩:=x5u cuts ins hc k (i+1) (push out (rd cuts i) (rd cuts (i+1))) (by omega) p1 p2;refine ⟨r1,fun y=> ?_⟩;rw [r2,p3];constructor
   .rintro ((h | h) | ⟨j,h1,h2,h3⟩)
    .exact .inl h
    .exact .inr ⟨i,Aq _,by omega,q,h⟩
    .exact .inr ⟨j,by omega,by omega,h3⟩
   .rintro (h | ⟨j,h1,h2,h3⟩)
    .exact .inl (.inl h)
    .rcases A1 h1 with rfl | h1
     .exact .inl (.inr h3.2)
     .exact .inr ⟨j,h1,by omega,h3⟩
  .rw [q,Aa];obtain ⟨r1,r2⟩:=x5u cuts ins hc k (i+1) out (by omega) ho (fun s hs=>by have:=hb s hs;omega);refine ⟨r1,fun y=> ?_⟩;rw [r2];constructor
   .rintro (h | ⟨j,h1,h2,h3⟩)
    .exact .inl h
    .exact .inr ⟨j,by omega,by omega,h3⟩
   .rintro (h | ⟨j,h1,h2,h3⟩)
    .exact .inl h
    .rcases A1 h1 with rfl | h1
     .rw [q] at h3;cases h3.1
     .exact .inr ⟨j,h1,by omega,h3⟩
theorem w5s {cuts:List Int}: ∀(k:Nat),k<cuts.length-> ∀y,rd cuts 0<=y->y<rd cuts k-> ∃j,j<k/\rd cuts j<=y/\y<rd cuts (j+1)
 | 0,_,y,h1,h2=>by omega
 | k+1,hk,y,h1,h2=>by
  by_cases h:rd cuts k<=y
  .exact ⟨k,BW _,h,h2⟩
  .obtain ⟨j,h3,h4⟩:=w5s k (by omega) y h1 (by omega);exact ⟨j,by omega,h4⟩
theorem w9s (cuts:List Int) (hc:cuts.Pairwise (· < ·)) (P:Int->Bool) (S:List R2) (hS: ∀s∈S,s.a∈cuts/\s.b∈cuts) (hP: ∀y,P y=true↔pt S y):
  Co (DV cuts (cuts.map P))/\ ∀y,pt (DV cuts (cuts.map P)) y↔pt S y:=by
 obtain ⟨r1,r2⟩:=x5u cuts (cuts.map P) hc (cuts.length - 1) 0 [] (by omega) .nil (by simp);refine ⟨r1,fun y=> ?_⟩;unfold DV;rw [r2];have hin: ∀x,x∈cuts-> ∃i,i<cuts.length/\rd cuts i=x:=fun x hx=>by obtain ⟨i,hi,h⟩:=AJ hx;exact ⟨i,hi,by rw [Yo hi];exact h⟩
 have hmap: ∀j,j<cuts.length->rd (cuts.map P) j=P (rd cuts j):=fun j hj=>by
  grind [Yo]
 have le_of: ∀i j,i<cuts.length->j<cuts.length->i<=j->rd cuts i<=rd cuts j:=fun i j hi hj hij=>by
  rcases A1 hij with rfl | h
  .grind
  .exact Int.le_of_lt (Hh hc h hj)
 constructor
 .rintro (⟨s,hs,_⟩ | ⟨j,h1,h2,h3,h4,h5⟩)
  .cases hs
  .have hj:j+1<cuts.length:=by omega
   rw [hmap j (by omega)] at h3;obtain ⟨s,hs,a1,a2⟩:=(hP _).1 h3;obtain ⟨ca,cb⟩:=hS s hs;obtain ⟨m,hm,em⟩:=hin s.b cb;refine ⟨s,hs,by omega,?_⟩
   grind
 .rintro ⟨s,hs,a1,a2⟩;right;obtain ⟨ca,cb⟩:=hS s hs;obtain ⟨n,hn,en⟩:=hin s.a ca;obtain ⟨m,hm,em⟩:=hin s.b cb;have h0:=le_of 0 n (by omega) hn (AA _);obtain ⟨j,h1,h2,h3⟩:=w5s m hm y (by omega) (by omega);refine ⟨j,AA _,by omega,?_,h2,h3⟩;rw [hmap j (by omega),hP];refine ⟨s,hs,?_,?_⟩;all_goals grind
def FT (E:List R3) (y:Int):Int:=(E.map fun e=>if e.a<=y then e.c else 0).sum
theorem J3 (e:R3) (E:List R3) (y:Int):FT (e::E) y=(if e.a<=y then e.c else 0)+FT E y:=by simp [FT]
theorem u7t {E F:List R3} (h:E.Perm F) (y:Int):FT E y=FT F y:=by
 induction h with
 | nil=>rfl
 | cons e _ ih=>rw [J3,J3,ih]
 | swap a b l=>simp only [J3];omega
 | trans _ _ i1 i2=>rw [i1,i2]
theorem w8f (E:List R3) (y:Int) (h: ∀e∈E,y<e.a):FT E y=0:=by
 induction E with
 | nil=>rfl
 | cons e E ih=>
  grind [J3]
theorem u2q (out:List R2) (last:Int) (inn:Bool) (x:Int):Jx out last inn x=bif inn&& !(last == x) then push out last x else out:=by grind [Jx,push]
theorem x3h {out:List R2} {last x:Int} (inn:Bool) (hc:Co out) (hb: ∀s∈out,s.b<=last) (hx:last<=x):
  Co (Jx out last inn x)/\(∀s∈Jx out last inn x,s.b<=x)/\ ∀y,pt (Jx out last inn x) y↔pt out y\/(inn=true/\last<=y/\y<x):=by
 rw [u2q];rcases Zs (inn&& !(last == x)) with q | q;all_goals grind [w7y]
def Asc (E:List R3):Prop:=E.Pairwise fun e f=>e.a<=f.a
theorem v5v : ∀(E:List R3) (o last:Int) (out:List R2),Asc E->(∀e∈E,last<=e.a)->Co out->(∀s∈out,s.b<=last)->
  Co (HR E o last (decide (o>0)) out)/\ ∀y,pt (HR E o last (decide (o>0)) out) y↔pt out y\/(last<=y/\0<o+FT E y/\ ∃e∈E,y<e.a)
 | [],o,last,out,_,_,hc,_=>⟨hc,fun y=>⟨.inl,fun h=>h.elim id fun ⟨_,_,e,he,_⟩=>by cases he⟩⟩
 | e ::r,o,last,out,hE,hl,hc,hb=>by
  have he:=hl e (by simp);have hr:=AQ.1 hE;obtain ⟨p1,p2,p3⟩:=x3h (decide (o>0)) hc hb he;obtain ⟨q1,q2⟩:=v5v r (o+e.c) e.a (Jx out last (decide (o>0)) e.a) hr.2 hr.1 p1 p2;rw [ZR];refine ⟨q1,fun y=> ?_⟩;rw [q2,p3,J3];constructor
  .rintro ((h | ⟨h1,h2,h3⟩) | ⟨h1,h2,f,hf,h3⟩)
   .exact .inl h
   .right;have h1:=Az h1;refine ⟨h2,?_,e,by simp,h3⟩;rw [Aw (by omega),w8f r y fun f hf=>by have:=hr.1 f hf;omega];omega
   .right;refine ⟨by omega,?_,f,by simp [hf],h3⟩;rw [AG h1];omega
  .rintro (h | ⟨h1,h2,f,hf,h3⟩)
   .exact .inl (.inl h)
   .by_cases hy:e.a<=y
    .right;rw [AG hy] at h2;refine ⟨hy,by omega,f,?_,h3⟩;rcases AH.1 hf with rfl | hf
     .omega
     .exact hf
    .left;right;rw [Aw hy,w8f r y fun f hf=>by have:=hr.1 f hf;omega] at h2;exact ⟨Al (by omega),h1,by omega⟩
theorem u7u (l:List R2) (hv: ∀s∈l,s.a<s.b) (y:Int):0<=FT (DR l) y/\(0<FT (DR l) y↔pt l y):=by
 induction l with
 | nil=>grind [FT,DR,pt]
 | cons s l ih=>
  obtain ⟨i1,i2⟩:=ih fun t ht=>hv t (by simp [ht]);have hs:=hv s (by simp);have e:FT (DR (s::l)) y=(if s.a<=y/\y<s.b then 1 else 0)+FT (DR l) y:=by
   grind [DR,J3]
  rw [e];by_cases h:s.a<=y/\y<s.b
  .rw [AG h];exact ⟨by omega,⟨fun _=>⟨s,by simp,h⟩,fun _=>by omega⟩⟩
  .rw [Aw h];refine ⟨by omega,?_⟩;rw [BL,i2];constructor
   .rintro ⟨t,ht,h2⟩;exact ⟨t,by simp [ht],h2⟩
   .rintro ⟨t,ht,h2⟩;rcases AH.1 ht with rfl | ht
    .grind
    .exact ⟨t,ht,h2⟩
theorem y9k {l:List R2} {s:R2} (h:s∈l):(⟨s.b,0,-1⟩:R3)∈DR l/\(⟨s.a,0,1⟩:R3)∈DR l:=
 ⟨AK.2 ⟨s,h,by simp⟩,AK.2 ⟨s,h,by simp⟩⟩
theorem w6y (l:List R3) (h:DZ l=true):Asc (Cj l):=by
 refine AY.2 fun i j hi hj hij=> ?_
 grind [J8,Yo]
theorem Sk (l:List R2) (hv:l.all C7=true):Co (EH l)/\ ∀y,pt (EH l) y↔pt l y:=by
 have hb:DZ (DR l)=true:=At.2 fun e he=>by obtain ⟨s,hs,h1⟩:=AK.1 he;have hv:=At.1 hv s hs;simp only [C7,Ae,Ar] at hv;simp only [AH,Bo,B1] at h1;rcases h1 with rfl | rfl <;> exact Al (by grind)
 have hpos: ∀s∈l,s.a<s.b:=fun s hs=>by
  grind [C7]
 obtain ⟨hp,_⟩:=J8 (DR l) hb;have ha:=w6y (DR l) hb;have hn: ∀y,FT (Cj (DR l)) y=FT (DR l) y:=fun y=>u7t hp y;unfold EH;generalize Cj (DR l)=E at hp ha hn;cases E with
 | nil=>refine ⟨.nil,fun y=>⟨fun ⟨s,hs,_⟩=>(by cases hs),fun ⟨s,hs,_⟩=> ?_⟩⟩;have:=hp.mem_iff.2 (y9k hs).1;cases this
 | cons e r=>
  have hr:=AQ.1 ha;rw [ZR,BL];have e0:Jx [] 0 false e.a=[]:=rfl;rw [e0];obtain ⟨q1,q2⟩:=v5v r e.c e.a [] hr.2 hr.1 .nil (by simp);refine ⟨q1,fun y=> ?_⟩;rw [q2];obtain ⟨n1,n2⟩:=u7u l hpos y;rw [<-n2,<-hn,J3];constructor
  .rintro (⟨s,hs,_⟩ | ⟨h1,h2,_⟩);all_goals grind
  .intro h;have hpt:=n2.1 (by rw [<-hn,J3];exact h);obtain ⟨s,hs,s1,s2⟩:=hpt;have m1:=hp.mem_iff.2 (y9k hs).1
   grind [y9k]
theorem x7n (out:List Int) (hs:out.Pairwise (· < ·)) (x:Int): ∀k,k<=out.length->Eo out x k<=k/\(∀i,Eo out x k<=i->i<k->x<rd out i)/\(0<Eo out x k->rd out (Eo out x k - 1)<=x)
 | 0,_=>⟨Aq _,fun i h1 h2=>by omega,fun h=>by simp [Eo] at h⟩
 | k+1,hk=>by
  unfold Eo;rcases Zs (decide (rd out k>x)) with q | q
  .rw [q,Ab];obtain ⟨h1,h2,h3⟩:=x7n out hs x k (by omega);refine ⟨by omega,fun i a b=> ?_,h3⟩;rcases A1 (Nat.le_of_lt_succ b) with rfl | b
   .exact Az q
   .exact h2 i a b
  .rw [q,Aa];exact ⟨Aq _,fun i a b=>by omega,fun _=>by have:=Bf q;simp only [Nat.add_sub_cancel];omega⟩
theorem u0v (out:List Int) (hs:out.Pairwise (· < ·)) (x:Int):(Dy out x).Pairwise (· < ·)/\ ∀y,y∈Dy out x↔y∈out\/y=x:=by
 obtain ⟨h1,h2,h3⟩:=x7n out hs x out.length (Aq _);unfold Dy;split
 .rename_i h0;rw [h0] at h2;refine ⟨AQ.2 ⟨fun y hy=> ?_,hs⟩,fun y=>by grind⟩;obtain ⟨i,hi,rfl⟩:=AJ hy
  grind [Yo]
 .rename_i k hk;rw [hk] at h1 h2 h3;have h3:rd out k<=x:=h3 (Nat.succ_pos _);have hkl:k<out.length:=by omega
  rcases Zs (rd out k == x) with q | q
  .grind [Yo]
  .rw [q,Aa];have q:rd out k≠x:=by simpa using q
   refine ⟨?_,fun y=> ?_⟩
   .have st:(out.take (k+1)).Pairwise (· < ·):=hs.sublist (List.take_sublist _ _);have sd:(out.drop (k+1)).Pairwise (· < ·):=hs.sublist (List.drop_sublist _ _);have ht: ∀y∈out.take (k+1),y<x:=fun y hy=>by
     obtain ⟨i,hi,rfl⟩:=AJ hy;have hi':i<k+1:=(by grind);rw [Br];have:rd out i<=rd out k:=by
      rcases A1 (Nat.le_of_lt_succ hi') with rfl | h
      .grind
      .exact Int.le_of_lt (Hh hs h hkl)
     grind [Yo]
    have hd: ∀y∈out.drop (k+1),x<y:=fun y hy=>by obtain ⟨i,hi,rfl⟩:=AJ hy;simp_all [Yo]
    refine BE.2 ⟨st,AQ.2 ⟨hd,sd⟩,fun a ha b hb=> ?_⟩
    grind
   .rw [AI,AH];constructor
    .grind
    .rintro (h | h)
     .rw [<-List.take_append_drop (k+1) out,AI] at h
      grind
     grind
theorem Wp (l:List Int):(Cd l).Pairwise (· < ·)/\ ∀y,y∈Cd l↔y∈l:=by
 have: ∀(l out:List Int),out.Pairwise (· < ·)->(l.foldl Dy out).Pairwise (· < ·)/\ ∀y,y∈l.foldl Dy out↔y∈out\/y∈l:=by
  intro l
  induction l with
  | nil=>grind
  | cons x l ih=>
   grind [u0v]
 simp_all [Cd]
theorem y3u : ∀(l m:List Int),l.Pairwise (· < ·)->m.Pairwise (· < ·)->(∀x,x∈l↔x∈m)->l=m
 | [],[],_,_,_=>rfl
 | [],b::m,_,_,h=>by have:=(h b).2 (by simp);cases this
 | a::l,[],_,_,h=>by have:=(h a).1 (by simp);cases this
 | a::l,b::m,hl,hm,h=>by
  obtain ⟨a1,a2⟩:=AQ.1 hl;obtain ⟨b1,b2⟩:=AQ.1 hm;have e:a=b:=by
   have x1:=(h a).1 (by simp);have x2:=(h b).2 (by simp);rcases AH.1 x1 with x1 | x1
   .exact x1
   rcases AH.1 x2 with x2 | x2
   .exact x2.symm
   have:=b1 a x1;have:=a1 b x2;omega
  subst e
  congr 1
  refine y3u l m a2 b2 fun x=>⟨fun hx=> ?_,fun hx=> ?_⟩
  .rcases AH.1 ((h x).1 (by simp [hx])) with e | e
   .have:=a1 x hx;omega
   .exact e
  .rcases AH.1 ((h x).2 (by simp [hx])) with e | e
   .have:=b1 x hx;omega
   .exact e
theorem y3x (zs:List Int) (hs:zs.Pairwise (· <= ·)): ∀m,m<=zs.length->(compactUpTo zs.toArray m).Pairwise (· < ·)/\ ∀x,x∈compactUpTo zs.toArray m↔x∈zs.take m
 | 0,_=>by simp [compactUpTo]
 | m +1,h=>by
  obtain ⟨h1,h2⟩:=y3x zs hs m (by omega);have hg: ∀j (hj:j<zs.length),zs.toArray[j]! =zs[j]:=fun j hj=>by simp [hj]
  have hle: ∀i j (hi:i<zs.length) (hj:j<zs.length),i<j->zs[i]<=zs[j]:=fun i j hi hj hij=>AY.1 hs i j hi hj hij;have hm:m<zs.length:=by omega
  rw [compactUpTo_succ,hg m hm,List.take_succ_eq_append_getElem hm];by_cases hk:keeps zs.toArray m=true
  .rw [AG hk];refine ⟨BE.2 ⟨h1,List.pairwise_singleton _ _,fun x hx y hy=> ?_⟩,fun x=>by rw [AI,AI,h2 x]⟩;rw [BU.1 hy];obtain ⟨i,hi,rfl⟩:=AJ ((h2 x).1 hx);have hi':i<m:=by simp at hi;omega
   rw [Br];simp only [keeps,Ar] at hk;rcases hk with hk | hk
   .omega
   .rw [hg m hm,hg (m - 1) (by omega)] at hk;have k1:zs[i]<=zs[m - 1]:=by
     rcases A7 i (m - 1) with q | q
     .exact hle i (m - 1) _ _ q
     .have e:i=m - 1:=(by omega);subst e;exact A5 _
    have k2:=hle (m - 1) m (by omega) hm (by omega);omega
  .rw [Aw hk,AE];refine ⟨h1,fun x=> ?_⟩;rw [h2 x,AI,BU];refine ⟨.inl,fun hx=>hx.elim id fun e=> ?_⟩;simp only [keeps,Ar,not_or,Decidable.not_not] at hk;rw [hg m hm,hg (m - 1) (by omega)] at hk;rw [e,hk.2];have:m - 1<(zs.take m).length :=by simp;omega
   have e2:(zs.take m)[m - 1]=zs[m - 1]:=Br;rw [<-e2];exact AV this
theorem O7 (zs:List Int):(Xm zs).Pairwise (· <= ·):=by have:=List.pairwise_mergeSort (le:=fun x y:Int=>decide (x<=y)) (fun a b c h1 h2=>by grind) (fun a b=>by simp;omega) zs;exact this.imp fun h=>by simpa using h
theorem j7r (zs:List Int) (x:Int):x∈Xm zs↔x∈zs:=List.mem_mergeSort
theorem Kp (zs:List Int):Kz zs=Cd zs:=by obtain ⟨h1,h2⟩:=y3x (Xm zs) (O7 zs) (Xm zs).length (Aq _);obtain ⟨s1,s2⟩:=Wp zs;refine y3u _ _ h1 s1 fun x=> ?_;rw [show Kz zs=compactUpTo (Xm zs).toArray (Xm zs).length from rfl,h2 x,List.take_length,j7r,s2]
namespace CJ
variable {α β:Type} (D:CJ α β)
def ref (sec:Int->List β) (cs:List Int):Nat->Nat->List α->List β->Nat->List α
 | 0,_,out,_,_=>out
 | k+1,i,out,last,first=>
  bif decide (0<i)&&D.same (sec (rd cs i)) last then ref sec cs k (i+1) (D.grow out first (rd cs (i+1))) last first
  else ref sec cs k (i+1) (out++(sec (rd cs i)).map (D.put (rd cs i) (rd cs (i+1)))) (sec (rd cs i)) out.length
theorem ref_eq (hs: ∀a b,D.same a b=true↔a=b) (l:List α): ∀(k i:Nat) (s:Sw α β) (out:List α) (last:List β) (first:Nat),
  s.out=out->s.last=last->(last≠ []->s.first=first)->(last=[]->out.length<=first)->(0<i->s.fin=rd (D.cuts l) i)->(i=0->last=[])->
  (D.go l k i s).out =D.ref (D.sec l) (D.cuts l) k i out last first
 | 0,i,s,out,last,first,h1,h2,h3,h4,h5,h6=>h1
 | k +1,i,s,out,last,first,h1,h2,h3,h4,h5,h6=>by
  subst h1 h2;have e1:D.go l (k+1) i s=D.go l k (i+1) (D.one l (rd (D.cuts l) i) (rd (D.cuts l) (i+1)) s):=rfl;rw [e1];unfold ref;rcases Zs (decide (0<(D.sec l (rd (D.cuts l) i)).length)&&((s.fin == rd (D.cuts l) i)&&D.same s.last (D.sec l (rd (D.cuts l) i)))) with q | q
  .have e:D.one l (rd (D.cuts l) i) (rd (D.cuts l) (i+1)) s=⟨D.grow s.out s.first (rd (D.cuts l) (i+1)),s.last,s.first,rd (D.cuts l) (i+1)⟩:=by unfold one;rw [q];rfl
   simp only [Ae,Ar] at q;obtain ⟨q1,q2,q3⟩:=q;have q3:=(hs _ _).1 q3;have hne:s.last≠ []:=fun h=>by rw [h] at q3;rw [<-q3] at q1;exact BY _ q1
   have hi:0<i:=Nat.pos_of_ne_zero fun h=>hne (h6 h);have e2:(decide (0<i)&&D.same (D.sec l (rd (D.cuts l) i)) s.last)=true:=by rw [Al hi,Ai,hs,q3]
   rw [e2,Ab,e];refine ref_eq hs l k (i+1) _ _ _ _ ?_ rfl h3 (fun h=>absurd h hne) (fun _=>rfl) (fun h=>by omega);rw [h3 hne]
  .have e:D.one l (rd (D.cuts l) i) (rd (D.cuts l) (i+1)) s=⟨s.out++(D.sec l (rd (D.cuts l) i)).map (D.put (rd (D.cuts l) i) (rd (D.cuts l) (i+1))),D.sec l (rd (D.cuts l) i),s.out.length,rd (D.cuts l) (i+1)⟩:=by unfold one;rw [q];rfl
   rcases Zs (decide (0<i)&&D.same (D.sec l (rd (D.cuts l) i)) s.last) with q2 | q2
   .rw [q2,Ab,e];simp only [Ae,Ar] at q2;obtain ⟨hi,q3⟩:=q2;have q3:=(hs _ _).1 q3;rw [(hs s.last (D.sec l (rd (D.cuts l) i))).2 q3.symm,Ah,h5 hi] at q;have hz:D.sec l (rd (D.cuts l) i)=[]:=by
     cases h:D.sec l (rd (D.cuts l) i) with
     | nil=>rfl
     | cons a b=>rw [h] at q;simp at q
    have hl:s.last=[]:=(by rw [<-q3,hz]);have hf:=h4 hl;rw [hz,Bi,AE];refine ref_eq hs l k (i+1) _ _ _ _ ?_ hl.symm (fun h=>absurd hl h) (fun _=> ?_) (fun _=>rfl) (fun h=>by omega)
    .exact (D.grow_nil _ _ _ hf).symm
    .rw [D.grow_length];exact hf
   .rw [q2,Aa,e];exact ref_eq hs l k (i+1) _ _ _ _ rfl rfl (fun _=>rfl) (fun h=>by rw [h];simp) (fun _=>rfl) (fun h=>by omega)
theorem out_eq (hs: ∀a b,D.same a b=true↔a=b) (l:List α):D.out l=D.ref (D.sec l) (D.cuts l) ((D.cuts l).length - 1) 0 [] [] 0:=
 D.ref_eq hs l _ 0 _ [] [] 0 rfl rfl (fun _=>rfl) (fun _=>Aq _) (fun h=>absurd h (BY _)) (fun _=>rfl)
end CJ
theorem u3q (l:List R4):D4.cuts l=CN l []:=by unfold CJ.cuts CN;rw [Kp,show EE ([]:List R4)=[] from rfl,AE];rfl
theorem u2n (l:List R4) (x y:Int):HN 2 l [] x y=EL l x y:=by grind [HN,KD,EL]
theorem NM {l:List R4} {x:Int} {s:R2} (h:s∈D4.inn l x): ∃r∈l,r.a<=x/\x<r.c/\s=⟨r.b,r.d⟩:=by obtain ⟨r,hr,e⟩:=AO.1 h;obtain ⟨h1,h2⟩:=AX.1 hr;simp only [Ae,Ar] at h2;exact ⟨r,h1,h2.1,h2.2,e.symm⟩
theorem u0k {l:List R4} {x:Int} {r:R4} (h:r∈l) (h1:r.a<=x) (h2:x<r.c):(⟨r.b,r.d⟩:R2)∈D4.inn l x:=by refine AO.2 ⟨r,AX.2 ⟨h,?_⟩,rfl⟩;simp only [Ae,Ar];exact ⟨h1,h2⟩
theorem Ol (l:List R4) (hv:l.all Vo=true) (hl:l.length<=400) (x:Int):D4.sec l x=Dz 2 l [] x:=by
 have hin:=D4.inn_length l x;have hvi:(D4.inn l x).all C7=true:=At.2 fun s hs=>by
  grind [NM,Vo,C7]
 have e1:D4.sec l x=EH (D4.inn l x):=by
  show Ww (D4.inn l x)=_
  grind [Ww]
 obtain ⟨c1,c2⟩:=Sk _ hvi;obtain ⟨y1,y2⟩:=Wp (Dl l++Dl []);have e2:Dz 2 l [] x=DV (CW l []) ((CW l []).map fun y=>EL l x y):=by
  unfold Dz
  congr 1
  simp_all [u2n]
 obtain ⟨d1,d2⟩:=w9s (CW l []) y1 (fun y=>EL l x y) (D4.inn l x) (fun s hs=>by
  obtain ⟨r,hr,_,_,rfl⟩:=NM hs;unfold CW;exact ⟨(y2 _).2 (AI.2 (.inl (AK.2 ⟨r,hr,by simp⟩))),(y2 _).2 (AI.2 (.inl (AK.2 ⟨r,hr,by simp⟩)))⟩) (fun y=>by
  unfold EL;rw [List.any_eq_true];constructor
  .rintro ⟨r,hr,h⟩;simp only [Po,Ae,Ar] at h;exact ⟨_,u0k hr h.1 h.2.1,h.2.2.1,h.2.2.2⟩
  .rintro ⟨s,hs,h1,h2⟩
   grind [NM,Po])
 grind [w9r]
theorem w8x (l:List R4): ∀(k i:Nat) (out:List R4) (last:List R2) (first:Nat),jF 2 l [] k i out last first=D4.ref (Dz 2 l []) (CN l []) k i out last first
 | 0,_,_,_,_=>rfl
 | k+1,i,out,last,first=>by unfold jF CJ.ref;rw [w8x l k,w8x l k];rfl
theorem Ph (l:List R4) (hv:l.all Vo=true) (hl:l.length<=400):D4.out l=Ca 2 l []:=by
 rw [D4.out_eq (fun a b=>Bb) l,Ca,w8x,<-u3q]
 congr 1
 funext x
 exact Ol l hv hl x
theorem w6s (l:List R6):D6.cuts l=Vn l []:=by unfold CJ.cuts Vn;rw [Kp,show EF ([]:List R6)=[] from rfl,AE];rfl
theorem j6w (l:List R6) (z:Int):D6.inn l z=CQ l z:=rfl
theorem U7 (r:R6):Qv r=Ej r:=by
 unfold Qv Ej;simp only [Sa,NL];rw [Bool.eq_iff_iff];simp only [Ae,Ar];have m1: ∀x y z:Int,x<=min y z↔x<=y/\x<=z:=fun x y z=>by omega
 have m2: ∀x y z:Int,max y z<=x↔y<=x/\z<=x:=fun x y z=>by omega
 simp only [ge_iff_le,m1,m2]
 grind
theorem u3c (l:List R6) (hv:l.all Qv=true) (z:Int):(CQ l z).all Vo=true:=At.2 fun s hs=>by
 obtain ⟨r,hr,rfl⟩:=AO.1 hs;have:=At.1 hv r (AX.1 hr).1;rw [U7] at this;simp only [Ej,Ae,Ar] at this;show Vo ⟨r.a,r.b,r.d,r.e⟩=true
 grind [Vo]
section
variable (l:List R6) (hv:l.all Qv=true) (hl:l.length<=400)
include hv hl
theorem j6q (z:Int):D4.out (CQ l z)=Ca 2 (CQ l z) []:=Ph _ (u3c l hv z) (AF (XN l z) hl)
theorem j6p (z:Int):Gi l z=FD 2 l [] z:=by
 have h1:=j6q l hv hl z;have h2:=XN l z;have e:Ca 2 (CQ [] z) []=[]:=rfl
 grind [Gi,FD,D0,CQ,j6w,Xk,u3c]
theorem j8y (z:Int) (h:Gi l z=false):D6.sec l z=D0 2 l [] z:=by
 have h1:=j6q l hv hl z;have h2:=XN l z;rw [j6p l hv hl] at h;show Za (D6.inn l z)=Ca 2 (CQ l z) (CQ [] z)
 grind [j6w,Za,CQ,FD,u3c]
theorem w3w : ∀(k i:Nat) (out:List R6) (last:List R4) (first:Nat),HV 2 l [] k i out last first=bif Ct l k i then some (D6.ref (D6.sec l) (D6.cuts l) k i out last first) else none
 | 0,_,_,_,_=>rfl
 | k+1,i,out,last,first=>by
  unfold HV Ct CJ.ref;rw [<-w6s,<-j6p l hv hl];rcases Zs (Gi l (rd (D6.cuts l) i)) with q | q
  .rw [q];rfl
  .have:=j8y l hv hl _ q;rw [q,Aa,Aa,this,w3w k,w3w k];have e:D6.same (D0 2 l [] (rd (D6.cuts l) i)) last=Uw (D0 2 l [] (rd (D6.cuts l) i)) last:=rfl;rw [e];cases (decide (0<i)&&Uw (D0 2 l [] (rd (D6.cuts l) i)) last) <;> rfl
theorem Pd :HU 2 l []=bif Ct l ((D6.cuts l).length - 1) 0 then some (D6.out l) else none:=by unfold HU;rw [w3w l hv hl,<-w6s,D6.out_eq (fun a b=>Bb) l]
end
theorem w9q (l:List R6):Zf l=Eu l:=by
 unfold Zf Eu;by_cases h:400<l.length
 .grind
 .rw [Av h,Aa,Aa,show l.all Ej=l.all Qv from by grind [U7]];rcases Zs (l.all Qv) with hv | hv
  .rw [hv,Ab,Ab];unfold Gs HL ER;rw [Pd l hv (by omega)]
   grind
  grind
def Cg (x y:Int):Prop:=(18446744073709551616:Int)∣x - y
theorem Cg.refl (x:Int):Cg x x:=by grind [Cg]
theorem Cg.symm {x y:Int} (h:Cg x y):Cg y x:=by unfold Cg at*;omega
theorem Cg.trans {x y z:Int} (h:Cg x y) (k:Cg y z):Cg x z:=by unfold Cg at*;omega
theorem Cg.add {x y u v:Int} (h:Cg x y) (k:Cg u v):Cg (x+u) (y+v):=by unfold Cg at*;omega
theorem Cg.sub {x y u v:Int} (h:Cg x y) (k:Cg u v):Cg (x - u) (y - v):=by unfold Cg at*;omega
theorem Cg.mul {x y u v:Int} (h:Cg x y) (k:Cg u v):Cg (x*u) (y*v):=by
 unfold Cg at*;have:x*u - y*v=(x - y)*u+y*(u - v):=by grind
 rw [this];exact Int.dvd_add (Int.dvd_mul_of_dvd_left h) (Int.dvd_mul_of_dvd_right k)
theorem Cg.wrap (x:Int):Cg (IntKind.wrap .i64 x) x:=by rw [w64];unfold Cg;omega
theorem Cg.eq {x y:Int} (h:Cg x y):IntKind.wrap .i64 x=IntKind.wrap .i64 y:=by rw [w64,w64];unfold Cg at h;omega
theorem Cg.w {x y:Int} (h:Cg x y):Cg (IntKind.wrap .i64 x) y:=(Cg.wrap x).trans h
def DW (r:R6):Int:=(r.d - r.a)*(r.e - r.b)*(r.f - r.c)
def CK (a b c d:Int):Int:=max 0 (min b d - max a c)
def ov (r s:R6):Int:=CK r.a r.d s.a s.d*CK r.b r.e s.b s.e*CK r.c r.f s.c s.f
theorem Kf (a b c d:Int):CK a b c d=CK c d a b:=by unfold CK;omega
def nx (d:Int) (r:R6):R6:=
 let t:=1 - 2*Int.tmod d 2
 bif Int.tdiv d 2 == 0 then ⟨r.a+t,r.b,r.c,r.d+t,r.e,r.f⟩ else bif Int.tdiv d 2 == 1 then ⟨r.a,r.b+t,r.c,r.d,r.e+t,r.f⟩ else ⟨r.a,r.b,r.c+t,r.d,r.e,r.f+t⟩
def rv (d:Int):Int:=d+1 - 2*Int.tmod d 2
theorem OG (d:Int) (h:0<=d/\d<=5) (r s:R6):ov (nx d r) s=ov (nx (rv d) s) r:=by
 have:d=0\/d=1\/d=2\/d=3\/d=4\/d=5:=by omega
 have e: ∀(t a b c d:Int),CK (a+t) (b+t) c d=CK (c+ -t) (d+ -t) a b:=fun t a b c d=>by unfold CK;omega
 rcases this with rfl | rfl | rfl | rfl | rfl | rfl
 .show CK (r.a+1) (r.d+1) s.a s.d*CK r.b r.e s.b s.e*CK r.c r.f s.c s.f=CK (s.a+ -1) (s.d+ -1) r.a r.d*CK s.b s.e r.b r.e*CK s.c s.f r.c r.f;rw [e,Kf r.b,Kf r.c]
 .show CK (r.a+ -1) (r.d+ -1) s.a s.d*CK r.b r.e s.b s.e*CK r.c r.f s.c s.f=CK (s.a+1) (s.d+1) r.a r.d*CK s.b s.e r.b r.e*CK s.c s.f r.c r.f;rw [e,Kf r.b,Kf r.c];rfl
 .show CK r.a r.d s.a s.d*CK (r.b+1) (r.e+1) s.b s.e*CK r.c r.f s.c s.f=CK s.a s.d r.a r.d*CK (s.b+ -1) (s.e+ -1) r.b r.e*CK s.c s.f r.c r.f;rw [e,Kf r.a,Kf r.c]
 .show CK r.a r.d s.a s.d*CK (r.b+ -1) (r.e+ -1) s.b s.e*CK r.c r.f s.c s.f=CK s.a s.d r.a r.d*CK (s.b+1) (s.e+1) r.b r.e*CK s.c s.f r.c r.f;rw [e,Kf r.a,Kf r.c];rfl
 .show CK r.a r.d s.a s.d*CK r.b r.e s.b s.e*CK (r.c+1) (r.f+1) s.c s.f=CK s.a s.d r.a r.d*CK s.b s.e r.b r.e*CK (s.c+ -1) (s.f+ -1) r.c r.f;rw [e,Kf r.a,Kf r.b]
 .show CK r.a r.d s.a s.d*CK r.b r.e s.b s.e*CK (r.c+ -1) (r.f+ -1) s.c s.f=CK s.a s.d r.a r.d*CK s.b s.e r.b r.e*CK (s.c+1) (s.f+1) r.c r.f;rw [e,Kf r.a,Kf r.b];rfl
def sm {α:Type} (l:List α) (f:α->Int):Int:=(l.map f).sum
theorem GF {α:Type} (f:α->Int):sm ([]:List α) f=0:=rfl
theorem Wr {α:Type} (x:α) (l:List α) (f:α->Int):sm (x::l) f=f x+sm l f:=by simp [sm]
theorem Ji {α:Type} (l m:List α) (f:α->Int):sm (l++m) f=sm l f+sm m f:=by simp [sm]
theorem Yp {α:Type} {l:List α} {f g:α->Int} (h: ∀x∈l,f x=g x):sm l f=sm l g:=by unfold sm;rw [BR h]
theorem Eh {α:Type} (l:List α) (f g:α->Int):sm l (fun x=>f x+g x)=sm l f+sm l g:=by
 induction l with
 | nil=>rfl
 | cons x l ih=>simp only [Wr,ih];omega
theorem KG {α:Type} (l:List α) (f g:α->Int):sm l (fun x=>f x - g x)=sm l f - sm l g:=by
 induction l with
 | nil=>rfl
 | cons x l ih=>simp only [Wr,ih];omega
theorem w6z {α:Type} (l:List α) (f:α->Int) (c:Int):sm l (fun x=>f x*c)=sm l f*c:=by
 induction l with
 | nil=>simp [sm]
 | cons x l ih=>simp only [Wr,ih,Int.add_mul]
theorem UD {α:Type} (l:List α) (f:α->Int) (c:Int):sm l (fun x=>c*f x)=c*sm l f:=by
 induction l with
 | nil=>simp [sm]
 | cons x l ih=>simp only [Wr,ih,Int.mul_add]
theorem GI {α:Type} (l:List α):sm l (fun _=>0)=0:=by
 induction l with
 | nil=>rfl
 | cons x l ih=>rw [Wr,ih];rfl
theorem G7 {α β:Type} (l:List α) (m:List β) (f:α->β->Int):sm l (fun x=>sm m (f x))=sm m (fun y=>sm l fun x=>f x y):=by
 induction l with
 | nil=>simp only [GF,GI]
 | cons x l ih=>simp only [Wr,ih,Eh]
theorem j7z {α:Type} {l:List α} {f g:α->Int} (h: ∀x∈l,f x<=g x):sm l f<=sm l g:=by
 induction l with
 | nil=>exact A5 _
 | cons x l ih=>grind [Wr]
theorem x6t {α:Type} {l:List α} {f:α->Int} (h: ∀x∈l,0<=f x):0<=sm l f:=by have:=j7z h;rwa [GI] at this
theorem v0v {α:Type} {l:List α} {f:α->Int} (h: ∀x∈l,0<=f x) (h0:sm l f=0): ∀x∈l,f x=0:=by
 induction l with
 | nil=>grind
 | cons y l ih=>
  rw [Wr] at h0;have h1:=h y (by simp);have h2:=x6t fun x hx=>h x (List.mem_cons_of_mem y hx)
  grind
theorem v0u {α β:Type} (l:List α) (g:α->List β) (f:β->Int):sm (l.flatMap g) f=sm l fun x=>sm (g x) f:=by
 induction l with
 | nil=>rfl
 | cons x l ih=>grind [Ji,Wr]
theorem v6r {α β:Type} (l:List α) (g:α->β) (f:β->Int):sm (l.map g) f=sm l fun x=>f (g x):=by simp [sm,Function.comp_def]
def S2 (X Y:List R6):Int:=sm X fun x=>sm Y fun y=>ov x y
def E2 (d:Int) (X Y:List R6):Int:=sm X fun x=>sm Y fun y=>ov (nx d x) y
theorem Rx (d:Int) (X Y:List R6):S2 (X.map (nx d)) Y=E2 d X Y:=by unfold S2 E2;rw [v6r]
theorem w6r (d:Int) (h:0<=d/\d<=5) (X Y:List R6):E2 d X Y=E2 (rv d) Y X:=by
 unfold E2;rw [G7]
 grind [Yp,OG]
def c1 (d:Int) (X Y B:List R6):Int:=(E2 d X Y - E2 d B Y) - (E2 d X B - E2 d B B)
open Go.Proofs Go.Sort Go.Shelf Go.RowKit Go.Lib
namespace CJ
variable {α β:Type} (D:CJ α β)
structure Fair :Prop where
 lo_put: ∀x x' b,D.lo (D.put x x' b)=x
 hi_put: ∀x x' b,D.hi (D.put x x' b)=x'
 pr_put: ∀x x' b,D.pr (D.put x x' b)=b
 ext_put: ∀x x' x'' b,D.ext x'' (D.put x x' b)=D.put x x'' b
def Ap (R:β->β->Prop) (a b:α):Prop:=D.hi a<=D.lo b\/D.hi b<=D.lo a\/R (D.pr a) (D.pr b)
theorem v8t {D:CJ α β} (hD:D.Fair) (R:β->β->Prop) (sec:Int->List β) (cs:List Int) (hc:cs.Pairwise (· < ·)) (fE: ∀x,(sec x).Pairwise R):
  ∀(k i:Nat) (pre:List α) (last:List β) (x0:Int),(i+k<cs.length\/k=0)->pre.Pairwise (D.Ap R)->(∀a∈pre,D.hi a<=x0)->(last≠ []->x0<=rd cs i)->(last=[]->x0<=rd cs i)->last.Pairwise R->
  (D.ref sec cs k i (pre++last.map (D.put x0 (rd cs i))) last pre.length).Pairwise (D.Ap R):=by
 have fin: ∀(pre:List α) (last:List β) (x0 x':Int),pre.Pairwise (D.Ap R)->(∀a∈pre,D.hi a<=x0)->last.Pairwise R->(pre++last.map (D.put x0 x')).Pairwise (D.Ap R):=fun pre last x0 x' h1 h2 h3=>by
  refine BE.2 ⟨h1,?_,fun a ha b hb=> ?_⟩
  .refine List.pairwise_map.2 (h3.imp fun {a b} h=>.inr (.inr ?_));rw [hD.pr_put,hD.pr_put];exact h
  .obtain ⟨c,_,rfl⟩:=AO.1 hb;exact .inl (by rw [hD.lo_put];exact h2 a ha)
 intro k
 induction k with
 | zero=>intro i pre last x0 _ h1 h2 _ _ h3;exact fin pre last x0 _ h1 h2 h3
 | succ k ih=>
  intro i pre last x0 hk h1 h2 h4 h5 h3;have hlt:rd cs i<rd cs (i+1):=Hh hc (BW _) (by omega);unfold ref;cases hq:(decide (0<i)&&D.same (sec (rd cs i)) last) with
  | true=>
   rw [Ab];have e:D.grow (pre++last.map (D.put x0 (rd cs i))) pre.length (rd cs (i+1))=pre++last.map (D.put x0 (rd cs (i+1))):=by
    unfold grow;rw [List.take_left,List.drop_left,List.map_map]
    congr 1
    exact BR fun b _=>hD.ext_put _ _ _ _
   rw [e];exact ih (i+1) pre last x0 (by omega) h1 h2 (fun h=>by grind) (fun h=>by grind) h3
  | false=>
   rw [Aa];refine ih (i+1) (pre++last.map (D.put x0 (rd cs i))) (sec (rd cs i)) (rd cs i) (by omega) (fin pre last x0 _ h1 h2 h3) (fun a ha=> ?_) (fun _=>by omega) (fun _=>by omega) (fE _);rcases AI.1 ha with ha | ha
   .grind
   .obtain ⟨c,_,rfl⟩:=AO.1 ha;rw [hD.hi_put];grind
theorem out_apart {D:CJ α β} (hD:D.Fair) (R:β->β->Prop) (hs: ∀a b,D.same a b=true↔a=b) (l:List α) (fE: ∀x,(D.sec l x).Pairwise R):(D.out l).Pairwise (D.Ap R):=by
 rw [D.out_eq hs l];have hc:(D.cuts l).Pairwise (· < ·):=by show (Kz (D.ends l)).Pairwise (· < ·);rw [Kp];exact (Wp _).1
 have:=v8t hD R (D.sec l) (D.cuts l) hc fE ((D.cuts l).length - 1) 0 [] [] (rd (D.cuts l) 0) (by omega) .nil (by simp) (fun _=>A5 _) (fun _=>A5 _) .nil;exact this
end CJ
theorem GZ :D4.Fair:=⟨fun _ _ _=>rfl,fun _ _ _=>rfl,fun _ _ _=>rfl,fun _ _ _ _=>rfl⟩
theorem HE :D6.Fair:=⟨fun _ _ _=>rfl,fun _ _ _=>rfl,fun _ _ _=>rfl,fun _ _ _ _=>rfl⟩
def Ap2 (s t:R2):Prop:=s.b<=t.a\/t.b<=s.a
def Rz (s t:R4):Prop:=s.c<=t.a\/t.c<=s.a\/s.d<=t.b\/t.d<=s.b
def EQ (s t:R6):Prop:=s.d<=t.a\/t.d<=s.a\/s.e<=t.b\/t.e<=s.b\/s.f<=t.c\/t.f<=s.c
theorem v6j (l:List R2):(Ww l).Pairwise Ap2:=by
 unfold Ww;by_cases h:400<l.length
 .simp_all
 .rw [Av h,Aa];cases hv:l.all C7 with
  | false=>exact .nil
  | true=>rw [Ab];exact (Sk l hv).1.sep.imp fun {s t} h=>.inl (by omega)
theorem x7c (l:List R4):(Za l).Pairwise Rz:=by
 have key:(D4.out l).Pairwise Rz:=(CJ.out_apart GZ Ap2 (fun a b=>Bb) l fun x=>v6j _).imp fun {s t} h=>by
  rcases h with h | h | h | h
  .exact .inl h
  .exact .inr (.inl h)
  .exact .inr (.inr (.inl h))
  .exact .inr (.inr (.inr h))
 unfold Za;by_cases h:400<l.length
 .simp_all
 .rw [Av h,Aa];cases l.all Vo with
  | false=>exact .nil
  | true=>
   rw [Ab];cases decide (((D4.out l).length :Int)>400) with
   | true=>exact .nil
   | false=>exact key
theorem Xs {l:List R6} (h:Zf l=0):l.length<=400/\(∀r∈l,Qv r=true)/\l=D6.out l/\l.Pairwise EQ:=by
 unfold Zf at h;by_cases h1:400<l.length
 .grind
 .rw [Av h1,Aa] at h;cases hv:l.all Qv with
  | false=>grind
  | true=>
   rw [hv,Ab] at h;cases ho:Ct l ((D6.cuts l).length - 1) 0 with
   | false=>grind
   | true=>
    rw [ho,Ab] at h;cases h2:decide (((D6.out l).length :Int)>400) with
    | true=>grind
    | false=>
     rw [h2,Aa] at h;cases h3:E6 (D6.out l) l with
     | false=>grind
     | true=>
      have e:D6.out l=l:=Az h3;refine ⟨by omega,fun r hr=>At.1 hv r hr,e.symm,?_⟩;have:=(CJ.out_apart HE Rz (fun a b=>Bb) l fun x=>x7c _).imp (S:=EQ) fun {s t} h=>by
       rcases h with h | h | h | h | h | h
       .exact .inr (.inr (.inr (.inr (.inl h))))
       .exact .inr (.inr (.inr (.inr (.inr h))))
       .exact .inl h
       .exact .inr (.inl h)
       .exact .inr (.inr (.inl h))
       .exact .inr (.inr (.inr (.inl h)))
      grind
theorem Wq {r:R6} (h:Qv r=true):r.a<r.d/\r.b<r.e/\r.c<r.f/\ -1000000<=r.a/\ -1000000<=r.b/\ -1000000<=r.c/\r.d<=1000000/\r.e<=1000000/\r.f<=1000000:=by grind [U7,Ej]
open Go.Proofs Go.Sort Go.Shelf Go.RowKit Go.Lib
structure CU (β:Type) where
 a:Int
 b:Int
 s:List β
def CI {β γ:Type} (inB:β->γ->Prop) (s:List β) (q:γ):Prop:= ∃r∈s,inB r q
theorem JT {β γ:Type} (inB:β->γ->Prop) (q:γ): ¬CI inB [] q:=fun ⟨_,h,_⟩=>by cases h
structure Sem (β γ:Type) where
 can:List β->Prop
 inB:β->γ->Prop
 uniq: ∀s t,can s->can t->(∀q,CI inB s q↔CI inB t q)->s=t
 some: ∀s,can s->s≠ []-> ∃q,CI inB s q
 nil:can []
section
variable {β γ:Type} (M:Sem β γ)
def T0 (g:CU β):Prop:=g.a<g.b/\M.can g.s/\g.s≠ []
def Nxt (g h:CU β):Prop:=g.b<=h.a/\(g.b=h.a->g.s≠h.s)
inductive C6 :List (CU β)->Prop
 | nil:C6 []
 | one (g:CU β) (h:T0 M g):C6 [g]
 | cons (g h:CU β) (r:List (CU β)) (ok:T0 M g) (nx:Nxt g h) (k:C6 (h::r)):C6 (g::h::r)
def Dc (G:List (CU β)) (x:Int) (q:γ):Prop:= ∃g∈G,g.a<=x/\x<g.b/\CI M.inB g.s q
variable {M}
theorem C6.head {g:CU β} {r:List (CU β)} (h:C6 M (g::r)):T0 M g:=by cases h <;> assumption
theorem C6.tail {g:CU β} {r:List (CU β)} (h:C6 M (g::r)):C6 M r:=by
 cases h with
 | one=>exact .nil
 | cons _ _ _ _ _ k=>exact k
theorem C6.later {g:CU β} {r:List (CU β)} (h:C6 M (g::r)): ∀k∈r,g.b<=k.a:=by
 induction r generalizing g with
 | nil=>grind
 | cons k r ih=>
  cases h with
  | cons _ _ _ ok nx kk=>
   intro m hm;rcases AH.1 hm with rfl | hm
   .exact nx.1
   .have h1:=ih kk m hm;have h2:=kk.head.1;have h3:=nx.1;omega
theorem C6.all {G:List (CU β)} (h:C6 M G): ∀g∈G,T0 M g:=by
 induction G with
 | nil=>grind
 | cons k r ih=>
  intro g hg;rcases AH.1 hg with rfl | hg
  .exact h.head
  .exact ih h.tail g hg
theorem C6.before {G:List (CU β)} {g:CU β} (k:C6 M (G++[g])): ∀m∈G,m.b<=g.a:=by
 induction G with
 | nil=>grind
 | cons m r ih=>
  intro n hn;rcases AH.1 hn with rfl | hn
  .exact k.later g (by simp)
  .exact ih k.tail n hn
theorem C6.snoc {G:List (CU β)} {g h:CU β} (k:C6 M (G++[g])) (ok:T0 M h) (nx:Nxt g h):C6 M (G++[g]++[h]):=by
 induction G with
 | nil=>exact .cons g h [] k.head nx (.one h ok)
 | cons m r ih=>
  have i:=ih k.tail;cases r with
  | nil=>
   cases k with
   | cons _ _ _ ok1 nx1 k1=>exact .cons m g [h] ok1 nx1 i
  | cons m2 r=>
   cases k with
   | cons _ _ _ ok1 nx1 k1=>exact .cons m m2 _ ok1 nx1 i
theorem C6.stretch {G:List (CU β)} {g:CU β} {x:Int} (k:C6 M (G++[g])) (hx:g.b<=x):C6 M (G++[⟨g.a,x,g.s⟩]):=by
 induction G with
 | nil=>have:=k.head;exact .one _ ⟨by have:=this.1;grind,this.2⟩
 | cons m r ih=>
  have i:=ih k.tail;cases r with
  | nil=>
   cases k with
   | cons _ _ _ ok1 nx1 k1=>exact .cons m _ [] ok1 nx1 i
  | cons m2 r=>
   cases k with
   | cons _ _ _ ok1 nx1 k1=>exact .cons m m2 _ ok1 nx1 i
theorem UM (g:CU β) (G:List (CU β)) (x:Int) (q:γ):Dc M (g::G) x q↔(g.a<=x/\x<g.b/\CI M.inB g.s q)\/Dc M G x q:=by
 constructor
 .rintro ⟨k,hk,h⟩;rcases AH.1 hk with rfl | hk
  .exact .inl h
  .exact .inr ⟨k,hk,h⟩
 .rintro (h | ⟨k,hk,h⟩)
  .exact ⟨g,by simp,h⟩
  .exact ⟨k,by simp [hk],h⟩
theorem x2h (G H:List (CU β)) (x:Int) (q:γ):Dc M (G++H) x q↔Dc M G x q\/Dc M H x q:=by
 constructor
 .rintro ⟨k,hk,h⟩;rcases AI.1 hk with hk | hk
  .exact .inl ⟨k,hk,h⟩
  .exact .inr ⟨k,hk,h⟩
 .rintro (⟨k,hk,h⟩ | ⟨k,hk,h⟩)
  .exact ⟨k,AI.2 (.inl hk),h⟩
  .exact ⟨k,AI.2 (.inr hk),h⟩
theorem C6.low {g:CU β} {r:List (CU β)} (h:C6 M (g::r)) {x:Int} {q:γ} (hp:Dc M (g::r) x q):g.a<=x:=by
 rcases (UM g r x q).1 hp with hp | ⟨k,hk,h1,_⟩
 .exact hp.1
 .have:=h.later k hk;have:=h.head.1;omega
theorem C6.rest {g:CU β} {r:List (CU β)} (h:C6 M (g::r)) (x:Int) (q:γ):Dc M r x q↔g.b<=x/\Dc M (g::r) x q:=by
 constructor
 .rintro ⟨k,hk,h1,h2⟩;have:=h.later k hk;exact ⟨by omega,k,by simp [hk],h1,h2⟩
 grind [UM]
theorem C6.sec0 {g:CU β} {r:List (CU β)} (h:C6 M (g::r)) {x:Int} (hx:g.a<=x/\x<g.b) (q:γ):Dc M (g::r) x q↔CI M.inB g.s q:=by
 rw [UM];constructor
 .rintro (h1 | ⟨k,hk,h1,_⟩)
  .exact h1.2.2
  .have:=h.later k hk;omega
 grind
theorem x8s : ∀(G H:List (CU β)),C6 M G->C6 M H->(∀x q,Dc M G x q↔Dc M H x q)->G=H
 | [],[],_,_,_=>rfl
 | [],h::H,_,hH,e=>by obtain ⟨q,hq⟩:=M.some _ hH.head.2.1 hH.head.2.2;have:=(e h.a q).2 ((hH.sec0 ⟨A5 _,hH.head.1⟩ q).2 hq);obtain ⟨k,hk,_⟩:=this;cases hk
 | g::G,[],hG,_,e=>by obtain ⟨q,hq⟩:=M.some _ hG.head.2.1 hG.head.2.2;have:=(e g.a q).1 ((hG.sec0 ⟨A5 _,hG.head.1⟩ q).2 hq);obtain ⟨k,hk,_⟩:=this;cases hk
 | g::G,h::H,hG,hH,e=>by
  have og:=hG.head;have oh:=hH.head;obtain ⟨q,hq⟩:=M.some _ og.2.1 og.2.2;obtain ⟨p,hp⟩:=M.some _ oh.2.1 oh.2.2;have a1:h.a<=g.a:=hH.low ((e g.a q).1 ((hG.sec0 ⟨A5 _,og.1⟩ q).2 hq));have a2:g.a<=h.a:=hG.low ((e h.a p).2 ((hH.sec0 ⟨A5 _,oh.1⟩ p).2 hp));have a3:g.a=h.a:=by omega
  have s1:g.s=h.s:=M.uniq _ _ og.2.1 oh.2.1 fun q=>by rw [<-hG.sec0 (x:=g.a) ⟨A5 _,og.1⟩,e,hH.sec0 (x:=g.a) ⟨by omega,by have:=oh.1;omega⟩]
  have key: ∀(g h:CU β) (G H:List (CU β)),C6 M (g::G)->C6 M (h::H)->(∀x q,Dc M (g::G) x q↔Dc M (h::H) x q)->g.a=h.a->g.s=h.s-> ¬g.b<h.b:=fun g h G H hG hH e ea es hlt=>by
   have og:=hG.head;have oh:=hH.head;have B9: ∀q,Dc M (g::G) g.b q↔CI M.inB h.s q:=fun q=>by rw [e,hH.sec0 ⟨by have:=og.1;omega,hlt⟩]
   obtain ⟨q,hq⟩:=M.some _ oh.2.1 oh.2.2;have:=(hG.rest g.b q).2 ⟨A5 _,(B9 q).2 hq⟩;cases hG with
   | one=>obtain ⟨k,hk,_⟩:=this;cases hk
   | cons _ k r ok nx kk=>
    have hk:k.a<=g.b:=kk.low this;have hk2:g.b=k.a:=by have:=nx.1;omega
    refine nx.2 hk2 ?_;rw [es];refine M.uniq _ _ oh.2.1 kk.head.2.1 fun p=> ?_;rw [<-B9,<-kk.sec0 (x:=g.b) ⟨by omega,by have:=kk.head.1;omega⟩];constructor
    .exact fun hp=>((C6.cons g k r ok nx kk).rest g.b p).2 ⟨A5 _,hp⟩
    .exact fun hp=>(((C6.cons g k r ok nx kk).rest g.b p).1 hp).2
  have b1:=key g h G H hG hH e a3 s1;have b2:=key h g H G hH hG (fun x q=>(e x q).symm) a3.symm s1.symm;have b3:g.b=h.b:=by omega
  have eg:g=h:=by
   obtain ⟨ga,gb,gs⟩:=g;obtain ⟨ha,hb,hs⟩:=h;simp only at a3 b3 s1
   subst_vars;rfl
  subst eg
  congr 1
  exact x8s G H hG.tail hH.tail fun x q=>by rw [hG.rest,hH.rest,e]
end
namespace CJ
variable {α β:Type} (D:CJ α β)
def flat (G:List (CU β)):List α:=G.flatMap fun g=>g.s.map (D.put g.a g.b)
theorem flat_append (G H:List (CU β)):D.flat (G++H)=D.flat G++D.flat H:=by simp [flat]
theorem flat_one (g:CU β):D.flat [g]=g.s.map (D.put g.a g.b):=by simp [flat]
def inA {γ:Type} (inB:β->γ->Prop) (r:α) (p:Int×γ):Prop:=D.lo r<=p.1/\p.1<D.hi r/\inB (D.pr r) p.2
variable {D}
theorem flat_pt (hD:D.Fair) {γ:Type} (M:Sem β γ) (G:List (CU β)) (x:Int) (q:γ):CI (D.inA M.inB) (D.flat G) (x,q)↔Dc M G x q:=by
 constructor
 .rintro ⟨r,hr,h⟩;obtain ⟨g,hg,hr⟩:=AK.1 hr;obtain ⟨b,hb,rfl⟩:=AO.1 hr;unfold inA at h;rw [hD.lo_put,hD.hi_put,hD.pr_put] at h;exact ⟨g,hg,h.1,h.2.1,b,hb,h.2.2⟩
 .rintro ⟨g,hg,h1,h2,b,hb,h3⟩;refine ⟨D.put g.a g.b b,AK.2 ⟨g,hg,AO.2 ⟨b,hb,rfl⟩⟩,?_⟩;unfold inA;rw [hD.lo_put,hD.hi_put,hD.pr_put]
  grind
def can {γ:Type} (M:Sem β γ) (l:List α):Prop:= ∃G,C6 M G/\l=D.flat G
def sem (hD:D.Fair) {γ:Type} (M:Sem β γ):Sem α (Int×γ) where
 can:=D.can M
 inB:=D.inA M.inB
 uniq:=fun s t ⟨G,hG,e1⟩ ⟨H,hH,e2⟩ h=>by subst e1 e2;rw [x8s G H hG hH fun x q=>by simp_all [flat_pt]]
 some:=fun s ⟨G,hG,e1⟩ hs=>by
  subst e1;cases G with
  | nil=>exact absurd rfl hs
  | cons g G=>obtain ⟨q,hq⟩:=M.some _ hG.head.2.1 hG.head.2.2;exact ⟨(g.a,q),(flat_pt hD M _ _ _).2 ((hG.sec0 ⟨A5 _,hG.head.1⟩ q).2 hq)⟩
 nil:=⟨[],.nil,rfl⟩
variable (D)
def oneS (sec:List β) (x x':Int) (s:Sw α β):Sw α β:=
 bif decide (0<sec.length)&&((s.fin == x)&&D.same s.last sec) then ⟨D.grow s.out s.first x',s.last,s.first,x'⟩
 else ⟨s.out++sec.map (D.put x x'),sec,s.out.length,x'⟩
def goS (sec:Int->List β) (cs:List Int):Nat->Nat->Sw α β->Sw α β
 | 0,_,s=>s
 | k+1,i,s=>goS sec cs k (i+1) (D.oneS (sec (rd cs i)) (rd cs i) (rd cs (i+1)) s)
theorem go_goS (l:List α): ∀(k i:Nat) (s:Sw α β),D.go l k i s=D.goS (D.sec l) (D.cuts l) k i s
 | 0,_,_=>rfl
 | k+1,i,s=>go_goS l k (i+1) _
variable {D}
structure Inv {γ:Type} (M:Sem β γ) (sec:Int->List β) (cs:List Int) (i:Nat) (s:Sw α β) (G:List (CU β)):Prop where
 can:C6 M G
 out:s.out=D.flat G
 gap:s.last=[]-> ∀g∈G,g.b<rd cs i
 end_ : s.last ≠ [] -> ∃ Gp g, G = Gp ++ [g] /\ g.s = s.last /\ g.b = rd cs i /\ s.fin = rd cs i /\ s.first = (D.flat Gp).length
 pts: ∀x q,Dc M G x q↔ ∃j,j<i/\rd cs j<=x/\x<rd cs (j+1)/\CI M.inB (sec (rd cs j)) q
theorem u8u (hD:D.Fair) (hs: ∀a b,D.same a b=true↔a=b) {γ:Type} (M:Sem β γ) {sec:Int->List β} {cs:List Int} (hc:cs.Pairwise (· < ·)) (fE: ∀x,M.can (sec x)) {i:Nat} (hi:i+1<cs.length) {s:Sw α β} {G:List (CU β)} (h:Inv (D:=D) M sec cs i s G):
  ∃G',Inv (D:=D) M sec cs (i+1) (D.oneS (sec (rd cs i)) (rd cs i) (rd cs (i+1)) s) G':=by
 have hlt:rd cs i<rd cs (i+1):=Hh hc (BW _) hi;unfold oneS;rcases Zs (decide (0<(sec (rd cs i)).length)&&((s.fin == rd cs i)&&D.same s.last (sec (rd cs i)))) with q | q
 .rw [q,Ab];simp only [Ae,Ar] at q;obtain ⟨q1,q2,q3⟩:=q;have q3:=(hs _ _).1 q3;have hne:s.last≠ []:=fun e=>by grind
  obtain ⟨Gp,g,e1,e2,e3,e4,e5⟩:=h.end_ hne;subst e1;refine ⟨Gp++[⟨g.a,rd cs (i+1),g.s⟩],h.can.stretch (by omega),?_,fun e=>absurd e hne,fun _=>⟨Gp,_,rfl,e2,rfl,rfl,e5⟩,fun x p=> ?_⟩
  .show D.grow s.out s.first (rd cs (i+1))=_
   rw [h.out,e5];unfold grow;rw [D.flat_append,D.flat_append,D.flat_one,D.flat_one,List.take_left,List.drop_left,List.map_map]
   congr 1
   exact BR fun b _=>hD.ext_put _ _ _ _
  .have hp:=h.pts x p;rw [x2h,UM] at hp ⊢;have z: ¬Dc M ([]:List (CU β)) x p:=fun ⟨_,hk,_⟩=>by cases hk
   constructor
   .grind
   .rintro ⟨j,j1,j2,j3,j4⟩;rcases A1 (Nat.le_of_lt_succ j1) with rfl | j1
    .refine .inr (.inl ⟨?_,j3,?_⟩)
     .have:=(h.can.all g (by simp)).1;grind
     grind
    grind
 .rw [q,Aa];by_cases he:sec (rd cs i)=[]
  .rw [he];refine ⟨G,h.can,?_,fun _ g hg=> ?_,fun e=>absurd rfl e,fun x p=> ?_⟩
   .show s.out++[].map _=_;rw [Bi,AE,h.out]
   .by_cases hl:s.last=[]
    .have:=h.gap hl g hg;omega
    .obtain ⟨Gp,g',e1,e2,e3,_⟩:=h.end_ hl;subst e1;rcases AI.1 hg with hg | hg
     .have:=h.can.before g hg;have:=(h.can.all g' (by simp)).1;omega
     grind
   .rw [h.pts]
    grind [JT]
  .have ok:T0 M (⟨rd cs i,rd cs (i+1),sec (rd cs i)⟩:CU β):=⟨hlt,fE _,he⟩
   have hcan:C6 M (G++[⟨rd cs i,rd cs (i+1),sec (rd cs i)⟩]):=by
    rcases List.eq_nil_or_concat G with rfl | ⟨Gp,g,rfl⟩
    .exact .one _ ok
    .rw [List.concat_eq_append] at*;refine h.can.snoc ok ?_;by_cases hl:s.last=[]
     .have:=h.gap hl g (by simp);exact ⟨by grind,fun e=>by grind⟩
     .obtain ⟨Gp',g',e1,e2,e3,e4,_⟩:=h.end_ hl;obtain ⟨rfl,e⟩:=List.append_inj' e1 rfl;obtain rfl:g=g':=by simpa using e
      refine ⟨by grind,fun _ e=> ?_⟩;rw [Al (show 0<(sec (rd cs i)).length from List.length_pos_iff.2 he),e4,(hs _ _).2 (e2.symm.trans e)] at q;simp at q
   refine ⟨_,hcan,?_,fun e=>absurd e he,fun _=>⟨G,_,rfl,rfl,rfl,rfl,by show s.out.length=_;rw [h.out]⟩,fun x p=> ?_⟩
   .show s.out++_=_;rw [D.flat_append,D.flat_one,h.out]
   .rw [x2h,UM,h.pts]
    grind [Dc]
theorem j6b (hD:D.Fair) (hs: ∀a b,D.same a b=true↔a=b) {γ:Type} (M:Sem β γ) {sec:Int->List β} {cs:List Int} (hc:cs.Pairwise (· < ·)) (fE: ∀x,M.can (sec x)): ∀(k i:Nat) (s:Sw α β) (G:List (CU β)),i+k<cs.length\/k=0->Inv (D:=D) M sec cs i s G->
  ∃G',Inv (D:=D) M sec cs (i+k) (D.goS sec cs k i s) G'
 | 0,i,s,G,_,h=>⟨G,h⟩
 | k+1,i,s,G,hk,h=>by obtain ⟨G1,h1⟩:=u8u hD hs M hc fE (show i+1<cs.length by omega) h;obtain ⟨G2,h2⟩:=j6b hD hs M hc fE k (i+1) _ G1 (by omega) h1;exact ⟨G2,by rw [show i+(k+1)=i+1+k by omega];exact h2⟩
theorem goS_can (hD:D.Fair) (hs: ∀a b,D.same a b=true↔a=b) {γ:Type} (M:Sem β γ) {sec:Int->List β} {cs:List Int} (hc:cs.Pairwise (· < ·)) (fE: ∀x,M.can (sec x)):
  (D.sem hD M).can (D.goS sec cs (cs.length - 1) 0 ⟨[],[],0,0⟩).out /\ ∀x q,CI (D.sem hD M).inB (D.goS sec cs (cs.length - 1) 0 ⟨[],[],0,0⟩).out (x,q)↔ ∃j,j+1<cs.length/\rd cs j<=x/\x<rd cs (j+1)/\CI M.inB (sec (rd cs j)) q:=by
 obtain ⟨G,h⟩:=j6b hD hs M hc fE (cs.length - 1) 0 ⟨[],[],0,0⟩ [] (by omega) ⟨.nil,rfl,fun _ g hg=>by (cases hg),fun e=>absurd rfl e,fun x q=>⟨fun ⟨_,hg,_⟩=>(by cases hg),fun ⟨j,hj,_⟩=>absurd hj (AL _)⟩⟩;refine ⟨⟨G,h.can,h.out⟩,fun x q=> ?_⟩;rw [h.out];rw [show CI (D.sem hD M).inB (D.flat G) (x,q)↔Dc M G x q from flat_pt hD M G x q,h.pts]
 grind
end CJ
open Go.Proofs Go.Sort Go.Shelf Go.RowKit Go.Lib
def Ci :Sem R2 Int where
 can:=Co
 inB s y:=s.a<=y/\y<s.b
 uniq:=w9r
 some s hs hn:=by
  cases s with
  | nil=>grind
  | cons r l=>exact ⟨r.a,r,by simp,A5 _,hs.pos r (by simp)⟩
 nil:=.nil
def Xr :Sem R4 (Int×Int):=CJ.sem GZ Ci
def C5 :Sem R6 (Int×Int×Int):=CJ.sem HE Xr
namespace CJ
variable {α β:Type} {D:CJ α β}
theorem inn_slab (l m:List α) (hl: ∀r∈m,r∈l) {j:Nat} (hj:j+1<(D.cuts l).length) {x:Int} (h1:rd (D.cuts l) j<=x) (h2:x<rd (D.cuts l) (j+1)):D.inn m (rd (D.cuts l) j)=D.inn m x:=by
 have hc:(D.cuts l).Pairwise (· < ·):=by show (Kz (D.ends l)).Pairwise (· < ·);rw [Kp];exact (Wp _).1
 have hmem: ∀r∈m,D.lo r∈D.cuts l/\D.hi r∈D.cuts l:=fun r hr=>by show D.lo r∈Kz (D.ends l)/\D.hi r∈Kz (D.ends l);rw [Kp,(Wp _).2,(Wp _).2];exact ⟨AK.2 ⟨r,hl r hr,by simp⟩,AK.2 ⟨r,hl r hr,by simp⟩⟩
 have side: ∀c,c∈D.cuts l->(c<=rd (D.cuts l) j↔c<=x):=fun c hcm=>by
  obtain ⟨i,hi,rfl⟩:=AJ hcm;rw [<-Yo hi];rcases A7 j i with h | h
  .have:rd (D.cuts l) (j+1)<=rd (D.cuts l) i:=by
    rcases A1 (show j+1<=i from h) with e | e
    .grind
    .exact Int.le_of_lt (Hh hc e hi)
   grind
  .have:rd (D.cuts l) i<=rd (D.cuts l) j:=by
    rcases A1 h with e | e
    .grind
    .exact Int.le_of_lt (Hh hc e (by omega))
   grind
 unfold inn
 congr 1
 refine List.filter_congr fun r hr=> ?_
 grind
theorem inn_out (l m:List α) (hl: ∀r∈m,r∈l) {x:Int} (h: ∀j,j+1<(D.cuts l).length -> ¬(rd (D.cuts l) j<=x/\x<rd (D.cuts l) (j+1))):D.inn m x=[]:=by
 unfold inn;rw [List.map_eq_nil_iff,List.filter_eq_nil_iff];intro r hr hb;simp only [Ae,Ar] at hb;have hmem:D.lo r∈D.cuts l/\D.hi r∈D.cuts l:=by show D.lo r∈Kz (D.ends l)/\D.hi r∈Kz (D.ends l);rw [Kp,(Wp _).2,(Wp _).2];exact ⟨AK.2 ⟨r,hl r hr,by simp⟩,AK.2 ⟨r,hl r hr,by simp⟩⟩
 have hc:(D.cuts l).Pairwise (· < ·):=by show (Kz (D.ends l)).Pairwise (· < ·);rw [Kp];exact (Wp _).1
 obtain ⟨i,hi,e1⟩:=AJ hmem.1;obtain ⟨k,hk,e2⟩:=AJ hmem.2;rw [<-Yo hi] at e1;rw [<-Yo hk] at e2;have h0:rd (D.cuts l) 0<=rd (D.cuts l) i:=by
  rcases A1 (AA i) with e | e
  .grind
  .exact Int.le_of_lt (Hh hc e hi)
 obtain ⟨j,j1,j2,j3⟩:=w5s k hk x (by omega) (by omega)
 grind
theorem goJ_can (hD:D.Fair) (hs: ∀a b,D.same a b=true↔a=b) {γ:Type} (M:Sem β γ) (a b:List α) (J:List β->List β->List β) (hJ: ∀x,M.can (J (D.inn a x) (D.inn b x))) (h0:J [] []=[]):
  (D.sem hD M).can (D.goS (fun x=>J (D.inn a x) (D.inn b x)) (D.cuts (a++b)) ((D.cuts (a++b)).length - 1) 0 ⟨[],[],0,0⟩).out /\
  ∀x q,CI (D.sem hD M).inB (D.goS (fun x=>J (D.inn a x) (D.inn b x)) (D.cuts (a++b)) ((D.cuts (a++b)).length - 1) 0 ⟨[],[],0,0⟩).out (x,q)↔CI M.inB (J (D.inn a x) (D.inn b x)) q:=by
 have hc:(D.cuts (a++b)).Pairwise (· < ·):=by show (Kz (D.ends (a++b))).Pairwise (· < ·);rw [Kp];exact (Wp _).1
 obtain ⟨h1,h2⟩:=goS_can hD hs M (cs:=D.cuts (a++b)) hc hJ;refine ⟨h1,fun x q=> ?_⟩;rw [h2];constructor
 .grind [inn_slab]
 .intro hp;by_cases hx: ∃j,j+1<(D.cuts (a++b)).length /\rd (D.cuts (a++b)) j<=x/\x<rd (D.cuts (a++b)) (j+1)
  .grind [inn_slab]
  .have hx': ∀j,j+1<(D.cuts (a++b)).length -> ¬(rd (D.cuts (a++b)) j<=x/\x<rd (D.cuts (a++b)) (j+1)):=fun j j1 j2=>hx ⟨j,j1,j2⟩;rw [inn_out (a++b) a (fun r hr=>AI.2 (.inl hr)) hx',inn_out (a++b) b (fun r hr=>AI.2 (.inr hr)) hx',h0] at hp;exact absurd hp (JT _ _)
theorem pt_inn {γ:Type} (inB:β->γ->Prop) (l:List α) (x:Int) (q:γ):CI inB (D.inn l x) q↔CI (D.inA inB) l (x,q):=by
 constructor
 .rintro ⟨b,hb,h⟩;obtain ⟨r,hr,rfl⟩:=AO.1 hb;obtain ⟨h1,h2⟩:=AX.1 hr;simp only [Ae,Ar] at h2;exact ⟨r,h1,h2.1,h2.2,h⟩
 .rintro ⟨r,hr,h1,h2,h3⟩;refine ⟨D.pr r,AO.2 ⟨r,AX.2 ⟨hr,?_⟩,rfl⟩,h3⟩
  grind
theorem out_goJ (l:List α):D.out l=(D.goS (fun x=>D.mak (D.inn l x)) (D.cuts (l++[])) ((D.cuts (l++[])).length - 1) 0 ⟨[],[],0,0⟩).out :=by rw [AE];unfold out;rw [go_goS];rfl
end CJ
theorem SS (a b:List R4):D6.same a b=true↔a=b:=Bb
theorem XH (a b:List R2):D4.same a b=true↔a=b:=Bb
theorem Ku {l:List R4} (h: ∀r∈l,Vo r=true) (x:Int):(D4.inn l x).all C7=true:=At.2 fun s hs=>by
 grind [NM,Vo,C7]
theorem v6i {l:List R2} (hv:l.all C7=true) (hl:l.length<=400):Ci.can (Ww l)/\ ∀y,CI Ci.inB (Ww l) y↔CI Ci.inB l y:=by
 obtain ⟨c1,c2⟩:=Sk l hv;have e:Ww l=EH l:=by grind [Ww]
 rw [e];exact ⟨c1,c2⟩
theorem y2i {β γ:Type} (M:Sem β γ) {l:List β} (h:M.can l) (hp: ∀q,¬CI M.inB l q):l=[]:=Ba fun hn=>by obtain ⟨q,hq⟩:=M.some l h hn;exact hp q hq
theorem j7v :Ww []=[]:=by grind [v6i,y2i,JT]
theorem CJ.out_nil {α β:Type} (D:CJ α β):D.out []=[]:=by
 have h:(D.cuts []).length <=2*0:=D.cuts_length [];have e:(D.cuts []).length - 1=0:=by omega
 unfold CJ.out;rw [e];rfl
theorem t0j :Za []=[]:=by grind [Za,CJ.out_nil]
theorem Ko {l:List R4} (hv: ∀r∈l,Vo r=true) (hl:l.length<=400):Xr.can (D4.out l)/\ ∀p,CI Xr.inB (D4.out l) p↔CI Xr.inB l p:=by rw [CJ.out_goJ];have hs: ∀x,Ci.can (D4.mak (D4.inn l x))/\ ∀y,CI Ci.inB (D4.mak (D4.inn l x)) y↔CI Ci.inB (D4.inn l x) y:=fun x=>v6i (Ku hv x) (AF (D4.inn_length l x) hl);obtain ⟨h1,h2⟩:=CJ.goJ_can GZ XH Ci l [] (fun s _=>D4.mak s) (fun x=>(hs x).1) j7v;refine ⟨h1,fun ⟨x,y⟩=> ?_⟩;rw [show CI Xr.inB _ (x,y)↔_ from h2 x y,(hs x).2,CJ.pt_inn];rfl
theorem NG {l:List R6} (hv: ∀r∈l,Qv r=true) (z:Int): ∀r∈D6.inn l z,Vo r=true:=fun r hr=>by
 obtain ⟨s,hs,rfl⟩:=AO.1 hr;have:=Wq (hv s (AX.1 hs).1);show Vo ⟨s.a,s.b,s.d,s.e⟩=true
 grind [Vo]
def W4 (l:List R6):Prop:= ∀z,(D4.out (D6.inn l z)).length <=400
theorem Qk {l:List R4} (hv: ∀r∈l,Vo r=true) (hl:l.length<=400) (h:(D4.out l).length <=400):Za l=D4.out l/\Xk l=0:=by grind [Za,Xk]
theorem j7y {l:List R6} (hv: ∀r∈l,Qv r=true) (hl:l.length<=400) (hs:W4 l):C5.can (D6.out l)/\ ∀p,CI C5.inB (D6.out l) p↔CI C5.inB l p:=by
 rw [CJ.out_goJ];have hq: ∀z,Xr.can (D6.mak (D6.inn l z))/\ ∀p,CI Xr.inB (D6.mak (D6.inn l z)) p↔CI Xr.inB (D6.inn l z) p:=fun z=>by show Xr.can (Za (D6.inn l z))/\ ∀p,CI Xr.inB (Za (D6.inn l z)) p↔_;rw [(Qk (NG hv z) (AF (D6.inn_length l z) hl) (hs z)).1];exact Ko (NG hv z) (AF (D6.inn_length l z) hl)
 obtain ⟨h1,h2⟩:=CJ.goJ_can HE SS Xr l [] (fun s _=>D6.mak s) (fun x=>(hq x).1) t0j;refine ⟨h1,fun ⟨z,p⟩=> ?_⟩;rw [show CI C5.inB _ (z,p)↔_ from h2 z p,(hq z).2,CJ.pt_inn];rfl
open Go.Proofs Go.Sort Go.Shelf Go.RowKit Go.Lib
def Cp (k:Nat) (a b:Bool):Bool:=match k with
 | 0=>a||b
 | 1=>a&&b
 | _=>a&& !b
theorem v9k (k:Nat):Cp k false false=false:=by
 match k with
 | 0=>rfl
 | 1=>rfl
 | _+2=>rfl
def Vu (i:Int) (l:List R2):List R3:=l.flatMap fun s=>[⟨s.a,i,1⟩,⟨s.b,i,-1⟩]
def Cq (i:Int) (E:List R3) (y:Int):Int:=(E.map fun e=>if e.b=i/\e.a<=y then e.c else 0).sum
theorem J6 (i:Int) (e:R3) (E:List R3) (y:Int):Cq i (e::E) y=(if e.b=i/\e.a<=y then e.c else 0)+Cq i E y:=by simp [Cq]
theorem y8n (i:Int) (E F:List R3) (y:Int):Cq i (E++F) y=Cq i E y+Cq i F y:=by simp [Cq]
theorem x7r (i:Int) {E F:List R3} (h:E.Perm F) (y:Int):Cq i E y=Cq i F y:=by
 induction h with
 | nil=>rfl
 | cons e _ ih=>rw [J6,J6,ih]
 | swap a b l=>simp only [J6];omega
 | trans _ _ i1 i2=>rw [i1,i2]
theorem v9r (i:Int) (E:List R3) (y:Int) (h: ∀e∈E,y<e.a):Cq i E y=0:=by
 induction E with
 | nil=>rfl
 | cons e E ih=>
  grind [J6]
theorem v9s (i:Int) (l:List R2) (hv: ∀s∈l,s.a<s.b) (y:Int):0<=Cq i (Vu i l) y/\(0<Cq i (Vu i l) y↔pt l y):=by
 induction l with
 | nil=>grind [Cq,Vu,pt]
 | cons s l ih=>
  obtain ⟨i1,i2⟩:=ih fun t ht=>hv t (by simp [ht]);have hs:=hv s (by simp);have e:Cq i (Vu i (s::l)) y=(if s.a<=y/\y<s.b then 1 else 0)+Cq i (Vu i l) y:=by
   grind [Vu,J6]
  rw [e];by_cases h:s.a<=y/\y<s.b
  .rw [AG h];exact ⟨by omega,⟨fun _=>⟨s,by simp,h⟩,fun _=>by omega⟩⟩
  .rw [Aw h];refine ⟨by omega,?_⟩;rw [BL,i2];constructor
   .rintro ⟨t,ht,h2⟩;exact ⟨t,by simp [ht],h2⟩
   .rintro ⟨t,ht,h2⟩;rcases AH.1 ht with rfl | ht
    .grind
    .exact ⟨t,ht,h2⟩
theorem x2k (i j:Int) (hij:i≠j) (l:List R2) (y:Int):Cq i (Vu j l) y=0:=by
 induction l with
 | nil=>rfl
 | cons s l ih=>
  show Cq i (⟨s.a,j,1⟩::⟨s.b,j,-1⟩::Vu j l) y=0
  grind [J6]
def EI (f:Bool->Bool->Bool):List R3->Int->Int->Int->Bool->List R2->List R2
 | [],_,_,_,_,out=>out
 | e::r,o,p,last,inn,out=>
  EI f r (bif e.b == 0 then o+e.c else o) (bif e.b == 0 then p else p+e.c) e.a (f (decide ((bif e.b == 0 then o+e.c else o)>0)) (decide ((bif e.b == 0 then p else p+e.c)>0))) (Jx out last inn e.a)
def Two (E:List R3):Prop:= ∀e∈E,e.b=0\/e.b=1
theorem v5w (f:Bool->Bool->Bool): ∀(E:List R3) (o p last:Int) (out:List R2),Asc E->Two E->(∀e∈E,last<=e.a)->Co out->(∀s∈out,s.b<=last)->
  Co (EI f E o p last (f (decide (o>0)) (decide (p>0))) out)/\ ∀y,pt (EI f E o p last (f (decide (o>0)) (decide (p>0))) out) y↔pt out y\/(last<=y/\f (decide (o+Cq 0 E y>0)) (decide (p+Cq 1 E y>0))=true/\ ∃e∈E,y<e.a)
 | [],o,p,last,out,_,_,_,hc,_=>⟨hc,fun y=>⟨.inl,fun h=>h.elim id fun ⟨_,_,e,he,_⟩=>by cases he⟩⟩
 | e ::r,o,p,last,out,hE,ht,hl,hc,hb=>by
  have he:=hl e (by simp);have hr:=AQ.1 hE;obtain ⟨p1,p2,p3⟩:=x3h (f (decide (o>0)) (decide (p>0))) hc hb he;have hz: ∀y,y<e.a-> ∀i,Cq i (e::r) y=0:=fun y hy i=>v9r i _ _ fun g hg=>by
   grind
  have main: ∀(o' p':Int),(∀y,e.a<=y->o'+Cq 0 r y=o+Cq 0 (e::r) y/\p'+Cq 1 r y=p+Cq 1 (e::r) y)->
    Co (EI f r o' p' e.a (f (decide (o'>0)) (decide (p'>0))) (Jx out last (f (decide (o>0)) (decide (p>0))) e.a))/\
    ∀y,pt (EI f r o' p' e.a (f (decide (o'>0)) (decide (p'>0))) (Jx out last (f (decide (o>0)) (decide (p>0))) e.a)) y↔pt out y\/(last<=y/\f (decide (o+Cq 0 (e::r) y>0)) (decide (p+Cq 1 (e::r) y>0))=true/\ ∃g∈e::r,y<g.a):=fun o' p' hop=>by
   obtain ⟨q1,q2⟩:=v5w f r o' p' e.a (Jx out last (f (decide (o>0)) (decide (p>0))) e.a) hr.2 (fun g hg=>ht g (by simp [hg])) hr.1 p1 p2;refine ⟨q1,fun y=> ?_⟩;rw [q2,p3];constructor
   .rintro ((h | ⟨h1,h2,h3⟩) | ⟨h1,h2,g,hg,h3⟩)
    .exact .inl h
    .simp_all
    .refine .inr ⟨by omega,?_,g,by simp [hg],h3⟩;simp_all
   .rintro (h | ⟨h1,h2,g,hg,h3⟩)
    .grind
    .by_cases hy:e.a<=y
     .right;obtain ⟨e1,e2⟩:=hop y hy;refine ⟨hy,by simp_all,g,?_,h3⟩
      grind
     simp_all
  show Co (EI f r _ _ _ _ _)/\ ∀y,pt (EI f r _ _ _ _ _) y↔_;rcases ht e (by simp) with h0 | h0
  .have hb0:(e.b == 0)=true:=by rw [h0];rfl
   rw [hb0,Ab,Ab];refine main _ _ fun y hy=>⟨?_,?_⟩
   all_goals grind [J6]
  .have hb0:(e.b == 0)=false:=by rw [h0];rfl
   rw [hb0,Aa,Aa];refine main _ _ fun y hy=>⟨?_,?_⟩
   all_goals grind [J6]
instance ptDec (l:List R2) (y:Int):Decidable (pt l y):=Classical.propDecidable _
theorem j7m (f:Bool->Bool->Bool) (hf:f false false=false) (a b:List R2) (ha: ∀s∈a,s.a<s.b) (hb: ∀s∈b,s.a<s.b) (E:List R3) (hp:E.Perm (Vu 0 a++Vu 1 b)) (hE:Asc E):
  Co (EI f E 0 0 0 false [])/\ ∀y,pt (EI f E 0 0 0 false []) y↔f (decide (pt a y)) (decide (pt b y))=true:=by
 have hn: ∀y,Cq 0 E y=Cq 0 (Vu 0 a) y/\Cq 1 E y=Cq 1 (Vu 1 b) y:=fun y=>by rw [x7r 0 hp,x7r 1 hp,y8n,y8n,x2k 0 1 (by decide),x2k 1 0 (by decide)];omega
 have hd: ∀y,decide (Cq 0 E y>0)=decide (pt a y)/\decide (Cq 1 E y>0)=decide (pt b y):=fun y=>by simp_all [v9s]
 have ht:Two E:=fun e he=>by
  rcases AI.1 (hp.mem_iff.1 he) with h | h
  .obtain ⟨s,_,h⟩:=AK.1 h
   grind
  .obtain ⟨s,_,h⟩:=AK.1 h
   grind
 have cover: ∀y,f (decide (pt a y)) (decide (pt b y))=true-> ∃e∈E,y<e.a/\ ∃g∈E,g.a<=y:=fun y hy=>by
  by_cases h1:pt a y
  .obtain ⟨s,hs,s1,s2⟩:=h1;exact ⟨⟨s.b,0,-1⟩,hp.mem_iff.2 (AI.2 (.inl (AK.2 ⟨s,hs,by simp⟩))),s2,⟨s.a,0,1⟩,hp.mem_iff.2 (AI.2 (.inl (AK.2 ⟨s,hs,by simp⟩))),s1⟩
  .by_cases h2:pt b y
   .obtain ⟨s,hs,s1,s2⟩:=h2;exact ⟨⟨s.b,1,-1⟩,hp.mem_iff.2 (AI.2 (.inr (AK.2 ⟨s,hs,by simp⟩))),s2,⟨s.a,1,1⟩,hp.mem_iff.2 (AI.2 (.inr (AK.2 ⟨s,hs,by simp⟩))),s1⟩
   grind
 cases E with
 | nil=>
  refine ⟨.nil,fun y=>⟨fun ⟨s,hs,_⟩=>(by cases hs),fun hy=> ?_⟩⟩
  grind
 | cons e r=>
  have hr:=AQ.1 hE;have hz0:f (decide ((0:Int)>0)) (decide ((0:Int)>0))=false:=hf;have e0:EI f (e::r) 0 0 0 false []=EI f (e::r) 0 0 e.a (f (decide ((0:Int)>0)) (decide ((0:Int)>0))) []:=by
   grind [EI,Jx]
  rw [e0];obtain ⟨q1,q2⟩:=v5w f (e::r) 0 0 e.a [] hE ht (fun g hg=>by
   grind) .nil (by simp)
  refine ⟨q1,fun y=> ?_⟩;rw [q2,BL,BL,(hd y).1,(hd y).2];constructor
  .rintro (⟨s,hs,_⟩ | ⟨_,h2,_⟩);all_goals grind
  grind
def Gl :Nat->Nat
 | 0=>0
 | k+1=>Gl k+k
theorem v5s : ∀n,Gl (n+1)+Gl n=n*n
 | 0=>rfl
 | n+1=>by have:=v5s n;show Gl (n+1)+(n+1)+(Gl n+n)=(n+1)*(n+1);rw [AU,Nat.mul_add];omega
def E0 (n:Nat):Nat->Nat
 | 0=>0
 | v+1=>E0 n v+min v (2*n - v)
theorem u1a (n:Nat): ∀v,v<=n+1->E0 n v=Gl v
 | 0,_=>rfl
 | v+1,h=>by show E0 n v+min v (2*n - v)=Gl v+v;rw [u1a n v (by omega)];omega
theorem YM (n:Nat): ∀j,j<=n->E0 n (n+1+j)+Gl (n - j)=n*n
 | 0,_=>by grind [u1a,v5s]
 | j+1,h=>by
  have:=YM n j (by omega);show E0 n (n+1+j)+min (n+1+j) (2*n - (n+1+j))+Gl (n - (j+1))=_;have e:Gl (n - j)=Gl (n - (j+1))+(n - (j+1)):=by rw [show n - j=(n - (j+1))+1 by omega];rfl
  omega
theorem Pq (n v:Nat):E0 n v<=n*n:=by
 by_cases h1:v<=2*n+1
 .by_cases h2:v<=n+1
  .have h3:=YM n 0 (AA _);have mono: ∀k v,E0 n v<=E0 n (v+k):=fun k v=>by
    induction k with
    | zero=>grind
    | succ k ih=>exact AF ih (Nat.le_add_right _ _)
   have:=mono (n+1 - v) v
   grind
  .have:=YM n (v - (n+1)) (by omega)
   grind
 .have h3:E0 n (2*n+1)<=n*n:=by
   have:=YM n n (Aq _)
   grind
  have: ∀k,E0 n (2*n+1+k)=E0 n (2*n+1):=fun k=>by
   induction k with
   | zero=>rfl
   | succ k ih=>
    grind [E0]
  have h4:=this (v - (2*n+1))
  grind
theorem w9c (n:Nat) (E:Nat->Nat): ∀k,(∀i,i+1<k->E i<E (i+1))->((List.range k).map fun i=>min (E i) (2*n - E i)).sum <=(match k with | 0=>0 | k+1=>E0 n (E k+1))
 | 0,_=>Aq _
 | k+1,h=>by
  rw [Bj,A8,BG];have ih:=w9c n E k fun i hi=>h i (by omega);have mono: ∀k v,E0 n v<=E0 n (v+k):=fun k v=>by
   induction k with
   | zero=>grind
   | succ k ih=>exact AF ih (Nat.le_add_right _ _)
  simp only [AT,Bi,BT,List.sum_nil,Bd];show _<=E0 n (E k)+min (E k) (2*n - E k);cases k with
  | zero=>
   grind
  | succ k=>
   have h1:=h k (by omega);have h2:=mono (E (k+1) - (E k+1)) (E k+1)
   grind
def Ea (p:Int->Bool) (l:List Int):Nat:=(l.filter p).length
theorem Z4 (p:Int->Bool) (x:Int) (l:List Int):Ea p (x::l)=(if p x=true then 1 else 0)+Ea p l:=by grind [Ea]
theorem t5d (p:Int->Bool) (l:List Int):Ea p l<=l.length:=List.length_filter_le _ _
theorem u2p {p q:Int->Bool} (h: ∀x,p x=true->q x=true) (l:List Int):Ea p l<=Ea q l:=by
 induction l with
 | nil=>exact Aq _
 | cons x l ih=>
  grind [Z4]
theorem t5c {p q:Int->Bool} (h: ∀x,p x=true->q x=true) {l:List Int} {y:Int} (hy:y∈l) (hq:q y=true) (hp:p y=false):Ea p l<Ea q l:=by
 induction l with
 | nil=>cases hy
 | cons x l ih=>
  rw [Z4,Z4];rcases AH.1 hy with rfl | hy
  .have:=u2p h l
   grind
  grind
namespace CJ
variable {α β:Type} {D:CJ α β}
theorem inn_min (l:List α) (x:Int) (hv: ∀r∈l,D.lo r<D.hi r):(D.inn l x).length <=min (Ea (fun y=>decide (y<=x)) (D.ends l)) (2*l.length - Ea (fun y=>decide (y<=x)) (D.ends l)):=by
 induction l with
 | nil=>exact AA _
 | cons r l ih=>
  have ih:=ih fun s hs=>hv s (by simp [hs]);have hr:=hv r (by simp);have hc:=t5d (fun y=>decide (y<=x)) (D.ends l);rw [D.ends_length] at hc;have e:Ea (fun y=>decide (y<=x)) (D.ends (r::l))=(if D.lo r<=x then 1 else 0)+((if D.hi r<=x then 1 else 0)+Ea (fun y=>decide (y<=x)) (D.ends l)):=by
   show Ea _ (D.lo r::D.hi r::D.ends l)=_
   grind [Z4]
  grind [inn]
theorem open_sum (l:List α) (hv: ∀r∈l,D.lo r<D.hi r): ∀k,k<=(D.cuts l).length ->((List.range k).map fun i=>(D.inn l (rd (D.cuts l) i)).length).sum <=l.length*l.length:=fun k hk=>by
 have hc:(D.cuts l).Pairwise (· < ·):=by show (Kz (D.ends l)).Pairwise (· < ·);rw [Kp];exact (Wp _).1
 have hm: ∀i,i<(D.cuts l).length ->rd (D.cuts l) i∈D.ends l:=fun i hi=>by
  have:rd (D.cuts l) i∈Kz (D.ends l):=by rw [Yo hi];exact AV hi
  grind [Kp,Wp]
 have h1:((List.range k).map fun i=>(D.inn l (rd (D.cuts l) i)).length).sum <=((List.range k).map fun i=>min (Ea (fun y=>decide (y<=rd (D.cuts l) i)) (D.ends l)) (2*l.length - Ea (fun y=>decide (y<=rd (D.cuts l) i)) (D.ends l))).sum :=by
  induction k with
  | zero=>grind
  | succ k ih=>
   rw [Bj,A8,A8,BG,BG];have:=ih (by omega);have h2:=D.inn_min l (rd (D.cuts l) k) hv
   grind
 refine AF h1 ?_;have h2:=w9c l.length (fun i=>Ea (fun y=>decide (y<=rd (D.cuts l) i)) (D.ends l)) k fun i hi=>by
  have hlt:=Hh hc (show i<i+1 by omega) (show i+1<_ by omega);refine t5c (fun x hx=> ?_) (hm (i+1) (by omega)) (Al (A5 _)) (Av (by omega))
  grind
 grind [Pq]
theorem goS_length (sec:Int->List β) (cs:List Int): ∀(k i:Nat) (s:Sw α β),(D.goS sec cs k i s).out.length <=s.out.length+((List.range k).map fun j=>(sec (rd cs (i+j))).length).sum
 | 0,i,s=>Aq _
 | k+1,i,s=>by
  have h1:=goS_length sec cs k (i+1) (D.oneS (sec (rd cs i)) (rd cs i) (rd cs (i+1)) s);have h2:(D.oneS (sec (rd cs i)) (rd cs i) (rd cs (i+1)) s).out.length <=s.out.length+(sec (rd cs i)).length :=by
   unfold oneS;cases (decide (0<(sec (rd cs i)).length)&&((s.fin == rd cs i)&&D.same s.last (sec (rd cs i)))) with
   | true=>rw [Ab,D.grow_length];omega
   | false=>rw [Aa];simp
  rw [List.range_succ_eq_map,AT,List.map_map,BT,show rd cs (i+0)=rd cs i from rfl];have e:((fun j=>(sec (rd cs (i+j))).length)∘Nat.succ)=fun j=>(sec (rd cs (i+1+j))).length :=by
   funext j;simp only [Function.comp];rw [show i+j.succ=i+1+j by omega]
  rw [e];show (D.goS sec cs k (i+1) _).out.length <=_;omega
theorem goJ_length (a b:List α) (J:List β->List β->List β) (hJ: ∀x,(J (D.inn a x) (D.inn b x)).length <=(D.inn a x).length +(D.inn b x).length) (hv: ∀r∈a++b,D.lo r<D.hi r):
  (D.goS (fun x=>J (D.inn a x) (D.inn b x)) (D.cuts (a++b)) ((D.cuts (a++b)).length - 1) 0 ⟨[],[],0,0⟩).out.length <=(a.length+b.length)*(a.length+b.length):=by
 have h1:=D.goS_length (fun x=>J (D.inn a x) (D.inn b x)) (D.cuts (a++b)) ((D.cuts (a++b)).length - 1) 0 ⟨[],[],0,0⟩;have h2:=D.open_sum (a++b) hv ((D.cuts (a++b)).length - 1) (Nat.sub_le _ _);rw [AP] at h2;refine AF h1 (AF ?_ h2);simp only [List.length_nil,Af];generalize (D.cuts (a++b)).length - 1=k
 induction k with
 | zero=>grind
 | succ k ih=>rw [Bj,A8,A8,BG,BG];have:=hJ (rd (D.cuts (a++b)) k);simp only [AT,Bi,BT,List.sum_nil];rw [D.inn_append,AP];omega
end CJ
open Go.Proofs Go.Sort Go.Shelf Go.RowKit Go.Lib
def Cx (k:Nat) (a b:List R2):List R2:=EI (Cp k) (Cj (Vu 0 a++Vu 1 b)) 0 0 0 false []
theorem x8o (i:Int) (l:List R2) (hv:l.all C7=true):DZ (Vu i l)=true:=At.2 fun e he=>by obtain ⟨s,hs,h1⟩:=AK.1 he;have hv:=At.1 hv s hs;simp only [C7,Ae,Ar] at hv;simp only [AH,Bo,B1] at h1;rcases h1 with rfl | rfl <;> exact Al (by grind)
theorem w6u {l:List R2} (hv:l.all C7=true): ∀s∈l,s.a<s.b:=fun s hs=>by
 grind [C7]
theorem UE (k:Nat) {a b:List R2} (ha:a.all C7=true) (hb:b.all C7=true):Ci.can (Cx k a b)/\ ∀y,CI Ci.inB (Cx k a b) y↔Cp k (decide (pt a y)) (decide (pt b y))=true:=by
 have hbnd:DZ (Vu 0 a++Vu 1 b)=true:=by
  grind [x8o,DZ]
 obtain ⟨hp,_⟩:=J8 _ hbnd;exact j7m (Cp k) (v9k k) a b (w6u ha) (w6u hb) _ hp (w6y _ hbnd)
theorem w8e : ∀(l S:List Int),l.Pairwise (· < ·)->(∀x∈l,x∈S)->l.length<=S.length
 | [],S,_,_=>AA _
 | x::l,S,h,hs=>by
  obtain ⟨h1,h2⟩:=AQ.1 h;have hx:=hs x (by simp);have:=w8e l (S.erase x) h2 fun y hy=>(List.mem_erase_of_ne (by grind)).2 (hs y (by simp [hy]))
  grind
def Ey (L:List R2):List Int:=L.flatMap fun s=>[s.a,s.b]
theorem XY (L:List R2):(Ey L).length =2*L.length:=by
 induction L with
 | nil=>rfl
 | cons r l ih=>grind [Ey]
theorem ZZ {L:List R2} (h:Co L):(Ey L).Pairwise (· < ·):=by
 induction L with
 | nil=>exact .nil
 | cons s L ih=>
  have hp:=h.pos s (by simp);have hn: ∀y∈Ey L,s.b<y:=fun y hy=>by
   obtain ⟨t,ht,h1⟩:=AK.1 hy;have:=h.head t ht;have:=h.pos t (by simp [ht])
   grind
  show (s.a::s.b::Ey L).Pairwise (· < ·);refine AQ.2 ⟨fun y hy=> ?_,AQ.2 ⟨hn,ih h.tail⟩⟩
  grind
theorem v4n {L:List R2} (h:Co L) (S:List Int) (hS: ∀y,y ∉ S->(pt L (y - 1)↔pt L y)):2*L.length<=S.length:=by
 rw [<-XY];refine w8e _ S (ZZ h) fun y hy=>Ba fun hn=> ?_;obtain ⟨s,hs,h1⟩:=AK.1 hy;have hp:=h.pos s hs;have sepL: ∀t∈L,t=s\/t.b<s.a\/s.b<t.a:=fun t ht=>by
  obtain ⟨i,hi,ei⟩:=AJ hs;obtain ⟨j,hj,ej⟩:=AJ ht;have pw:=AY.1 h.sep
  grind
 simp only [AH,Bo,B1] at h1;rcases h1 with rfl | rfl
 .obtain ⟨t,ht,t1,t2⟩:=(hS _ hn).2 ⟨s,hs,A5 _,hp⟩
  grind
 .obtain ⟨t,ht,t1,t2⟩:=(hS _ hn).1 ⟨s,hs,by omega,by omega⟩
  grind
theorem x4v {l:List R2} {y:Int} (h:y ∉ Ey l):pt l (y - 1)↔pt l y:=by
 constructor
 .rintro ⟨s,hs,h1,h2⟩;refine ⟨s,hs,by omega,?_⟩;have:y≠s.b:=fun e=>h (AK.2 ⟨s,hs,by simp [e]⟩);omega
 .rintro ⟨s,hs,h1,h2⟩;refine ⟨s,hs,?_,by omega⟩;have:y≠s.a:=fun e=>h (AK.2 ⟨s,hs,by simp [e]⟩);omega
theorem XS (k:Nat) {a b:List R2} (ha:a.all C7=true) (hb:b.all C7=true):(Cx k a b).length <=a.length+b.length:=by
 obtain ⟨h1,h2⟩:=UE k ha hb;have:=v4n h1 (Ey a++Ey b) fun y hy=>by
  rw [AI,not_or] at hy;have e1:decide (pt a (y - 1))=decide (pt a y):=decide_eq_decide.2 (x4v hy.1);have e2:decide (pt b (y - 1))=decide (pt b y):=decide_eq_decide.2 (x4v hy.2);have q1:pt (Cx k a b) (y - 1)↔_:=h2 (y - 1);have q2:pt (Cx k a b) y↔_:=h2 y
  grind
 grind [XY]
def DI (k:Nat) (a b:List R4):List R4:=(D4.goS (fun x=>Cx k (D4.inn a x) (D4.inn b x)) (D4.cuts (a++b)) ((D4.cuts (a++b)).length - 1) 0 ⟨[],[],0,0⟩).out
theorem j7x (k:Nat):Cx k [] []=[]:=by have:=XS k (a:=[]) (b:=[]) rfl rfl;simp_all
instance ptDec4 (l:List R4) (p:Int×Int):Decidable (CI Xr.inB l p):=Classical.propDecidable _
theorem UA (l:List R4) (x y:Int):pt (D4.inn l x) y↔CI Xr.inB l (x,y):=CJ.pt_inn (D:=D4) Ci.inB l x y
theorem GH (k:Nat) {a b:List R4} (ha: ∀r∈a,Vo r=true) (hb: ∀r∈b,Vo r=true):
  Xr.can (DI k a b)/\(∀p,CI Xr.inB (DI k a b) p↔Cp k (decide (CI Xr.inB a p)) (decide (CI Xr.inB b p))=true)/\(DI k a b).length <=(a.length+b.length)*(a.length+b.length):=by
 have hs: ∀x,Ci.can (Cx k (D4.inn a x) (D4.inn b x))/\ ∀y,CI Ci.inB (Cx k (D4.inn a x) (D4.inn b x)) y↔Cp k (decide (pt (D4.inn a x) y)) (decide (pt (D4.inn b x) y))=true:=fun x=>UE k (Ku ha x) (Ku hb x);obtain ⟨h1,h2⟩:=CJ.goJ_can GZ XH Ci a b (Cx k) (fun x=>(hs x).1) (j7x k);refine ⟨h1,fun ⟨x,y⟩=> ?_,?_⟩
 .rw [show CI Xr.inB (DI k a b) (x,y)↔_ from h2 x y,(hs x).2]
  grind [UA]
 .refine CJ.goJ_length a b (Cx k) (fun x=>XS k (Ku ha x) (Ku hb x)) fun r hr=> ?_;have hv:Vo r=true:=by
   grind
  simp only [Vo,Ae,Ar] at hv;exact hv.1
end Go.Am
end
