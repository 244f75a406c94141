/- A part of a proof: several texts in one. -/
import Derived.Test.YtpddoeiakpbkbaaGreatLi2
import Derived.Sort.AssemblyPlain
import Derived.Lib.BitFns
import Derived.Shelf.GgSortFunc.InsertionK
import Derived.Shelf.Sort.Plain
import Derived.Ground.Names2Prog
import Derived.Shelf.Slices.CompactI
import Derived.Shelf.Slices.SearchI
import Derived.Shelf.Slices.Cells
import Derived.Shelf.Slices.In.SortNone
import Derived.Shelf.SlSortCmp.WholeK
import Derived.Ground.SlsfProg
import Derived.Test.YtpddoeiakpbkbaaGreatProg
import Derived.Shelf.SlSortCmp.NoneTotal
set_option maxRecDepth 1000000
set_option maxHeartbeats 8000000
set_option linter.unusedVariables false
set_option linter.unusedSimpArgs false
noncomputable section
namespace Go.Am
open IntKind (wrap)
open Go.Proofs.Tryz
open Go.Proofs
inductive rsortS where
 | h0 (v3:List Int) (v4:Int)
 | h1 (v3:List Int) (v4:Int) (v5:Int)
abbrev Kz (v3:List Int) (v5:Int) (l0:List Int) (v4:Int):=((v8l (v3++[0]) (0+(tn (wr (v5+1)))) (Nat.min ((v3.length+1) - (tn v5)) ((v3.length+1) - (tn (wr (v5+1))))) (Kd (v3++[0]) (0+(tn v5)) ((v3.length+1) - (tn v5)))).set (0+(tn v5)) (rd l0 (tn v4)))
abbrev Qd (v3:List Int):=(Zr (Zz v3) 0 v3.length 1 [(ii 0)])
abbrev y4n (v3:List Int) (v5:Int):=(Nat.min ((v3.length+1) - (tn v5)) ((v3.length+1) - (tn (wr (v5+1)))))
def v4l (l0:List Int):rsortS→Cfg
 | .h0 v3 v4=>⟨⟨63,0,true⟩,none,(Zc prog 124 [1,1,0,1,0,0] 0),none,(Zy prog 9),⟨Ya [(0,(.dat l0.length (Zz l0))),(3,(.sla 0 1 0 v3.length (.un 1))),(4,(ii v4))],Vd [⟨Yq v3.length (Zz v3),3,some ⟨1,v3.length,(Zz v3)⟩⟩] 0,1,[],true⟩,[],.leaf⟩
 | .h1 v3 v4 v5=>⟨⟨63,0,true⟩,none,(Zc prog 124 [1,1,0,1,0,0,1,0,0,1,0,0,0] 0),none,(Zy prog 9),⟨Ya [(0,(.dat l0.length (Zz l0))),(3,(.sla 0 1 0 v3.length (.un 1))),(4,(ii v4)),(5,(ii v5))],Vd [⟨Yq v3.length (Zz v3),3,some ⟨1,v3.length,(Zz v3)⟩⟩] 0,1,[],true⟩,[],.leaf⟩
def x3k :List (Option (List Nat)):=[some [0,3,4]]
def x3l :List (Option (List Nat)):=[]
def v4j :List (Option (List Nat)):=[some [0,3,4,5]]
def v4k :List (Option (List Nat)):=[]
def Ux (l0:List Int):rsortS→Xu rsortS
 | .h0 v3 v4=>(bif (decide (v4<(l0.length:Int))) then (.to (.h1 v3 v4 (v3.length:Int))) else (.ret [(.dat v3.length (Zz v3))]))
 | .h1 v3 v4 v5=>(bif (decide (v5>0)) then (bif ((decide (0≤(wrap .i64 (v5 - 1))∧(wrap .i64 (v5 - 1))<(v3.length:Int)))&&true) then (bif (decide ((0+(Int.toNat (wrap .i64 (v5 - 1))))<v3.length)) then (bif ((decide (0≤v4∧v4<(l0.length:Int)))&&true) then (bif (decide ((rd v3 (0+(Int.toNat (wrap .i64 (v5 - 1)))))>(rd l0 v4.toNat))) then (.to (.h1 v3 v4 (wrap .i64 (v5 - 1)))) else (bif ((rd v3 (0+(Int.toNat (wrap .i64 (v5 - 1))))) == (rd l0 v4.toNat)) then (.to (.h0 v3 (wrap .i64 (v4+1)))) else (bif (Nat.beq 1 1&&((decide (0+v3.length=v3.length))&&decide ((v3.length+1+1)*(8+1)≤Jh))) then (bif (true&&((decide (0≤(wrap .i64 (v5+1))))&&(decide ((v3.length+1)≤(v3.length+1))&&decide ((Int.toNat (wrap .i64 (v5+1)))≤(v3.length+1))))) then (bif (true&&((decide (0≤v5))&&(decide ((v3.length+1)≤(v3.length+1))&&decide (v5.toNat≤(v3.length+1))))) then (bif (decide ((0+v5.toNat)+((v3.length+1) - v5.toNat)≤(v3.length+1))) then (bif (decide ((0+(Int.toNat (wrap .i64 (v5+1))))+((v3.length+1) - (Int.toNat (wrap .i64 (v5+1))))≤(v3.length+1))) then (bif ((decide (0≤v5∧v5<(((v3.length+1):Nat):Int)))&&true) then (bif (decide ((0+v5.toNat)<(v3.length+1))) then (.to (.h0 ((v8l (v3++[0]) (0+(Int.toNat (wrap .i64 (v5+1)))) (Nat.min ((v3.length+1) - v5.toNat) ((v3.length+1) - (Int.toNat (wrap .i64 (v5+1))))) (Kd (v3++[0]) (0+v5.toNat) ((v3.length+1) - v5.toNat))).set (0+v5.toNat) (rd l0 v4.toNat)) (wrap .i64 (v4+1)))) else .stuck) else .stuck) else .stuck) else .stuck) else .stuck) else .stuck) else .stuck))) else .stuck) else .stuck) else .stuck) else (bif (Nat.beq 1 1&&((decide (0+v3.length=v3.length))&&decide ((v3.length+1+1)*(8+1)≤Jh))) then (bif (true&&((decide (0≤(wrap .i64 (v5+1))))&&(decide ((v3.length+1)≤(v3.length+1))&&decide ((Int.toNat (wrap .i64 (v5+1)))≤(v3.length+1))))) then (bif (true&&((decide (0≤v5))&&(decide ((v3.length+1)≤(v3.length+1))&&decide (v5.toNat≤(v3.length+1))))) then (bif (decide ((0+v5.toNat)+((v3.length+1) - v5.toNat)≤(v3.length+1))) then (bif (decide ((0+(Int.toNat (wrap .i64 (v5+1))))+((v3.length+1) - (Int.toNat (wrap .i64 (v5+1))))≤(v3.length+1))) then (bif ((decide (0≤v4∧v4<(l0.length:Int)))&&true) then (bif ((decide (0≤v5∧v5<(((v3.length+1):Nat):Int)))&&true) then (bif (decide ((0+v5.toNat)<(v3.length+1))) then (.to (.h0 ((v8l (v3++[0]) (0+(Int.toNat (wrap .i64 (v5+1)))) (Nat.min ((v3.length+1) - v5.toNat) ((v3.length+1) - (Int.toNat (wrap .i64 (v5+1))))) (Kd (v3++[0]) (0+v5.toNat) ((v3.length+1) - v5.toNat))).set (0+v5.toNat) (rd l0 v4.toNat)) (wrap .i64 (v4+1)))) else .stuck) else .stuck) else .stuck) else .stuck) else .stuck) else .stuck) else .stuck) else .stuck))
def z5y (l0:List Int):Xu rsortS:=(.to (.h0 ([]:List Int) 0))
theorem x5t (l0:List Int): ∀s,Xq prog (Zy prog 124) (v4l l0) (v4l l0 s) (Ux l0 s)
 | .h0 v3 v4=>(lb (fun k0=>(sl Zm 21 [] ⟨[0],[],v4j,v4k⟩ ⟨[],[],[]⟩ [true] (pp (fl v3 nn) (tt k0 nn)))) (fun k0=>(lr 63 3 [1,1,1,1,0] 1 9 [(2,(.dat v3.length (Zz v3)))] (sl Zm 15 [] ⟨[],[0],[some [2]],[]⟩ ⟨[(2,.frz v3.length v3.length (Zz v3) (Zz v3))],[],[]⟩ [false] (pp (xZ (z5q 1 1 0 v3.length v3.length (Zz v3)) v3.length (Zz v3)) (pp (xL v3.length v3.length) (pp (xS v3.length (Zz v3) (Zz v3)) (pp (fl v3 nn) (tt k0 nn)))))))))
 | .h1 v3 v4 v5=>(lb (fun k0=>(lo fun aH=>(lo fun aY=>(lo fun cP=>(lb (fun k1=>(sl Zm 13 [] ⟨[0],[],v4j,v4k⟩ ⟨[],[],[]⟩ (trs 11 []) (pp (fl v3 nn) (tt k1 (ww cP (ww aY (ww aH (tt k0 nn)))))))) (fun k1=>(lb (fun k2=>(sl Zm 16 [] ⟨[0],[],x3k,x3l⟩ ⟨[],[],[]⟩ (trs 10 (bl 12 4094)) (pp (fl v3 nn) (tt k2 (ww cP (ww aY (ww aH (tt k0 (tt k1 (ww cP (ww aY (ww aH (tt k0 nn))))))))))))) (fun k2=>(lo fun o0=>(lo fun o1=>(lo fun o2=>(lo fun o3=>(lo fun o4=>(lo fun o5=>(lo fun o6=>(sl Zm 36 [] ⟨[2],[],x3k,x3l⟩ ⟨[(3,.len (Kz v3 v5 l0 v4).length)],[.rowed 1 (Kz v3 v5 l0 v4).length (Zz (Kz v3 v5 l0 v4))],[]⟩ (trs 10 (bl 12 2046)) (pp (xL (v3.length+1) (Kz v3 v5 l0 v4).length) (pp (xL (v3.length+1) (Kz v3 v5 l0 v4).length) (pp (xS (v3.length+1) (Xr (Jp (Qd v3) (0+(tn (wr (v5+1)))) (y4n v3 v5) (fun k=>(Qd v3) ((0+(tn v5))+k))) (0+(tn v5)) 0 [(ii (rd l0 (tn v4)))]) (Zz (Kz v3 v5 l0 v4))) (pp (pp (xF (Xr (Jp (Qd v3) (0+(tn (wr (v5+1)))) (y4n v3 v5) (fun k=>(Qd v3) ((0+(tn v5))+k))) (0+(tn v5)) 0 [(ii (rd l0 (tn v4)))])) nn) (ww o6 (ww o5 (ww cP (pp (pp (xG (Nat.beq 1 1)) (pp (xG (Nat.beq 1 1)) (pp (xw o4) (pp (xG (Nat.beq 1 1)) (pp (xG (Nat.beq 1 1)) (pp (xG (decide ((0+(tn v5))+((v3.length+1) - (tn v5))≤(v3.length+1)))) (xG (x4m 1 ((v3.length+1) - (tn v5)) (fun k=>(Qd v3) ((0+(tn v5))+k)))))))))) (ww o2 (ww o1 (ww o0 (tt k2 (ww cP (ww aY (ww aH (tt k0 (tt k1 (ww cP (ww aY (ww aH (tt k0 nn))))))))))))))))))))))))))))))))))))) (fun k0=>(lo fun o0=>(lo fun o1=>(lo fun o2=>(lo fun o3=>(lo fun o4=>(lo fun o5=>(lo fun o6=>(lo fun o7=>(sl Zm 36 [] ⟨[2],[],x3k,x3l⟩ ⟨[(3,.len (Kz v3 v5 l0 v4).length)],[.rowed 1 (Kz v3 v5 l0 v4).length (Zz (Kz v3 v5 l0 v4))],[]⟩ (bl 22 0) (pp (xL (v3.length+1) (Kz v3 v5 l0 v4).length) (pp (xL (v3.length+1) (Kz v3 v5 l0 v4).length) (pp (xS (v3.length+1) (Xr (Jp (Qd v3) (0+(tn (wr (v5+1)))) (y4n v3 v5) (fun k=>(Qd v3) ((0+(tn v5))+k))) (0+(tn v5)) 0 [(ii (rd l0 (tn v4)))]) (Zz (Kz v3 v5 l0 v4))) (pp (pp (xF (Xr (Jp (Qd v3) (0+(tn (wr (v5+1)))) (y4n v3 v5) (fun k=>(Qd v3) ((0+(tn v5))+k))) (0+(tn v5)) 0 [(ii (rd l0 (tn v4)))])) nn) (ww o7 (ww o6 (ww o5 (pp (pp (xG (Nat.beq 1 1)) (pp (xG (Nat.beq 1 1)) (pp (xw o4) (pp (xG (Nat.beq 1 1)) (pp (xG (Nat.beq 1 1)) (pp (xG (decide ((0+(tn v5))+((v3.length+1) - (tn v5))≤(v3.length+1)))) (xG (x4m 1 ((v3.length+1) - (tn v5)) (fun k=>(Qd v3) ((0+(tn v5))+k)))))))))) (ww o2 (ww o1 (ww o0 (tt k0 (tt k0 nn))))))))))))))))))))))))
theorem x3j (l0:List Int):Xq prog (Zy prog 124) (v4l l0) (Zb prog 124 [(.dat l0.length (Zz l0))] true []) (z5y l0):=(sl Zm 15 [(3,1,Zz ([]:List Int))] ⟨[0],[],x3k,x3l⟩ ⟨[(3,.grow 0 1)],[],[]⟩ [] (pp (fl ([]:List Int) nn) nn))
theorem w8z (l0:List Int) (n:Nat) (vs:List AVal) (h:Yy (Ux l0) n (z5y l0)=.ret vs):Jx prog (Zy prog 124) (Zb prog 124 [(.dat l0.length (Zz l0))] true []) vs:=by have:=Zd (x5t l0) n _ (x3j l0);rwa [h] at this
inductive rcanS where
 | h0 (v5:List R2) (v6:Int)
def j4r (l0:List Int) (l1:List Bool):rcanS→Cfg
 | .h0 v5 v6=>⟨⟨61,0,true⟩,none,(Zc prog 131 [1,1,0,1,0,0] 0),none,(Zy prog 6),⟨Ya [(0,(.dat l0.length (Zz l0))),(1,(.dat l1.length (Zz l1))),(5,(.sla 0 2 0 v5.length (.un 2))),(6,(ii v6))],Vd [⟨Yq v5.length (Zz v5),176,some ⟨2,v5.length,(Zz v5)⟩⟩] 0,1,[],true⟩,[],.leaf⟩
def x6k :List (Option (List Nat)):=[some [0,1,5,6]]
def x6l :List (Option (List Nat)):=[]
def z0l (l0:List Int) (l1:List Bool):rcanS→Xu rcanS
 | .h0 v5 v6=>(bif (decide ((wrap .i64 (v6+1))<(l0.length:Int))) then (bif ((decide (0≤v6∧v6<(l1.length:Int)))&&true) then (bif (!(rd l1 v6.toNat)) then (.to (.h0 v5 (wrap .i64 (v6+1)))) else (bif (decide ((v5.length:Int)>0)) then (bif ((decide (0≤(wrap .i64 ((v5.length:Int) - 1))∧(wrap .i64 ((v5.length:Int) - 1))<(v5.length:Int)))&&true) then (bif (decide ((0+(Int.toNat (wrap .i64 ((v5.length:Int) - 1))))<v5.length)) then (bif ((decide (0≤v6∧v6<(l0.length:Int)))&&true) then (bif ((rd v5 (0+(Int.toNat (wrap .i64 ((v5.length:Int) - 1))))).b == (rd l0 v6.toNat)) then (bif ((decide (0≤(wrap .i64 (v6+1))∧(wrap .i64 (v6+1))<(l0.length:Int)))&&true) then (.to (.h0 (v5.set (0+(Int.toNat (wrap .i64 ((v5.length:Int) - 1)))) (R2.mk (rd v5 (0+(Int.toNat (wrap .i64 ((v5.length:Int) - 1))))).a (rd l0 (Int.toNat (wrap .i64 (v6+1)))))) (wrap .i64 (v6+1)))) else .stuck) else (bif ((decide (0≤(wrap .i64 (v6+1))∧(wrap .i64 (v6+1))<(l0.length:Int)))&&true) then (bif (Nat.beq 2 2&&((decide (0+v5.length=v5.length))&&decide ((v5.length+1+1)*(16+1)≤Jh))) then (.to (.h0 (v5++[(R2.mk (rd l0 v6.toNat) (rd l0 (Int.toNat (wrap .i64 (v6+1)))))]) (wrap .i64 (v6+1)))) else .stuck) else .stuck)) else .stuck) else .stuck) else .stuck) else (bif ((decide (0≤v6∧v6<(l0.length:Int)))&&true) then (bif ((decide (0≤(wrap .i64 (v6+1))∧(wrap .i64 (v6+1))<(l0.length:Int)))&&true) then (bif (Nat.beq 2 2&&((decide (0+v5.length=v5.length))&&decide ((v5.length+1+1)*(16+1)≤Jh))) then (.to (.h0 (v5++[(R2.mk (rd l0 v6.toNat) (rd l0 (Int.toNat (wrap .i64 (v6+1)))))]) (wrap .i64 (v6+1)))) else .stuck) else .stuck) else .stuck))) else .stuck) else (.ret [(.dat v5.length (Zz v5))]))
def z9l (l0:List Int) (l1:List Bool):Xu rcanS:=(.to (.h0 ([]:List R2) 0))
theorem w1l (l0:List Int) (l1:List Bool): ∀s,Xq prog (Zy prog 131) (j4r l0 l1) (j4r l0 l1 s) (z0l l0 l1 s)
 | .h0 v5 v6=>(lb (fun k0=>(lo fun aH=>(lb (fun k1=>(sl Zm 30 [] ⟨[0],[],x6k,x6l⟩ ⟨[],[],[]⟩ (bl 2 3) (pp (fl v5 nn) (tt k1 (ww aH (tt k0 nn)))))) (fun k1=>(lb (fun k2=>(lo fun bU=>(lo fun cQ=>(lo fun dF=>(lb (fun k3=>(lo fun o0=>(sl Zm 53 [] ⟨[0],[],x6k,x6l⟩ ⟨[(5,.len (v5.set (0+(tn (wr ((v5.length:Int) - 1)))) (R2.mk (rd v5 (0+(tn (wr ((v5.length:Int) - 1))))).a (rd l0 (tn (wr (v6+1)))))).length)],[.rowed 2 (v5.set (0+(tn (wr ((v5.length:Int) - 1)))) (R2.mk (rd v5 (0+(tn (wr ((v5.length:Int) - 1))))).a (rd l0 (tn (wr (v6+1)))))).length (Zz (v5.set (0+(tn (wr ((v5.length:Int) - 1)))) (R2.mk (rd v5 (0+(tn (wr ((v5.length:Int) - 1))))).a (rd l0 (tn (wr (v6+1)))))))],[]⟩ (bl 14 16381) (pp (xL v5.length (v5.set (0+(tn (wr ((v5.length:Int) - 1)))) (R2.mk (rd v5 (0+(tn (wr ((v5.length:Int) - 1))))).a (rd l0 (tn (wr (v6+1)))))).length) (pp (xL v5.length (v5.set (0+(tn (wr ((v5.length:Int) - 1)))) (R2.mk (rd v5 (0+(tn (wr ((v5.length:Int) - 1))))).a (rd l0 (tn (wr (v6+1)))))).length) (pp (xS v5.length (Xr (Zz v5) (0+(tn (wr ((v5.length:Int) - 1)))) 1 [(ii (rd l0 (tn (wr (v6+1)))))]) (Zz (v5.set (0+(tn (wr ((v5.length:Int) - 1)))) (R2.mk (rd v5 (0+(tn (wr ((v5.length:Int) - 1))))).a (rd l0 (tn (wr (v6+1)))))))) (pp (pp (xF (Xr (Zz v5) (0+(tn (wr ((v5.length:Int) - 1)))) 1 [(ii (rd l0 (tn (wr (v6+1)))))])) nn) (ww cQ (ww bU (ww o0 (tt k3 (ww dF (ww cQ (ww bU (tt k2 (tt k1 (ww aH (tt k0 nn)))))))))))))))))) (fun k3=>(lo fun o0=>(lo fun o1=>(sl Zm 41 [] ⟨[2],[],x6k,x6l⟩ ⟨[(5,.len (v5++[(R2.mk (rd l0 (tn v6)) (rd l0 (tn (wr (v6+1)))))]).length)],[.rowed 2 (v5++[(R2.mk (rd l0 (tn v6)) (rd l0 (tn (wr (v6+1)))))]).length (Zz (v5++[(R2.mk (rd l0 (tn v6)) (rd l0 (tn (wr (v6+1)))))]))],[]⟩ (bl 14 8189) (pp (xL (v5.length+1) (v5++[(R2.mk (rd l0 (tn v6)) (rd l0 (tn (wr (v6+1)))))]).length) (pp (xL (v5.length+1) (v5++[(R2.mk (rd l0 (tn v6)) (rd l0 (tn (wr (v6+1)))))]).length) (pp (xS (v5.length+1) (Zr (Zz v5) 0 v5.length 2 [(ii (rd l0 (tn v6))),(ii (rd l0 (tn (wr (v6+1)))))]) (Zz (v5++[(R2.mk (rd l0 (tn v6)) (rd l0 (tn (wr (v6+1)))))]))) (pp (pp (xF (Zr (Zz v5) 0 v5.length 2 [(ii (rd l0 (tn v6))),(ii (rd l0 (tn (wr (v6+1)))))])) nn) (ww o1 (ww o0 (ww dF (tt k3 (ww dF (ww cQ (ww bU (tt k2 (tt k1 (ww aH (tt k0 nn)))))))))))))))))))))))) (fun k2=>(lo fun o0=>(lo fun o1=>(lo fun o2=>(sl Zm 41 [] ⟨[2],[],x6k,x6l⟩ ⟨[(5,.len (v5++[(R2.mk (rd l0 (tn v6)) (rd l0 (tn (wr (v6+1)))))]).length)],[.rowed 2 (v5++[(R2.mk (rd l0 (tn v6)) (rd l0 (tn (wr (v6+1)))))]).length (Zz (v5++[(R2.mk (rd l0 (tn v6)) (rd l0 (tn (wr (v6+1)))))]))],[]⟩ (bl 14 1) (pp (xL (v5.length+1) (v5++[(R2.mk (rd l0 (tn v6)) (rd l0 (tn (wr (v6+1)))))]).length) (pp (xL (v5.length+1) (v5++[(R2.mk (rd l0 (tn v6)) (rd l0 (tn (wr (v6+1)))))]).length) (pp (xS (v5.length+1) (Zr (Zz v5) 0 v5.length 2 [(ii (rd l0 (tn v6))),(ii (rd l0 (tn (wr (v6+1)))))]) (Zz (v5++[(R2.mk (rd l0 (tn v6)) (rd l0 (tn (wr (v6+1)))))]))) (pp (pp (xF (Zr (Zz v5) 0 v5.length 2 [(ii (rd l0 (tn v6))),(ii (rd l0 (tn (wr (v6+1)))))])) nn) (ww o2 (ww o1 (ww o0 (tt k2 (tt k1 (ww aH (tt k0 nn))))))))))))))))))))) (fun k0=>(lr 61 3 [1,1,1,1,0] 1 6 [(4,(.dat v5.length (Zz v5)))] (sl Zm 16 [] ⟨[],[0],[some [4]],[]⟩ ⟨[(4,.frz v5.length v5.length (Zz v5) (Zz v5))],[],[]⟩ [false] (pp (xZ (z5q 2 2 0 v5.length v5.length (Zz v5)) v5.length (Zz v5)) (pp (xL v5.length v5.length) (pp (xS v5.length (Zz v5) (Zz v5)) (pp (fl v5 nn) (tt k0 nn)))))))))
theorem x6j (l0:List Int) (l1:List Bool):Xq prog (Zy prog 131) (j4r l0 l1) (Zb prog 131 [(.dat l0.length (Zz l0)),(.dat l1.length (Zz l1))] true []) (z9l l0 l1):=(sl Zm 15 [(176,2,Zz ([]:List R2))] ⟨[0],[],x6k,x6l⟩ ⟨[(5,.grow 0 2)],[],[]⟩ [] (pp (fl ([]:List R2) nn) nn))
theorem v5r (l0:List Int) (l1:List Bool) (n:Nat) (vs:List AVal) (h:Yy (z0l l0 l1) n (z9l l0 l1)=.ret vs):Jx prog (Zy prog 131) (Zb prog 131 [(.dat l0.length (Zz l0)),(.dat l1.length (Zz l1))] true []) vs:=by have:=Zd (w1l l0 l1) n _ (x6j l0 l1);rwa [h] at this
inductive rsmS where
 | h0 (v5:Int)
def rsmC (l0:List R2) (l1:List R2):rsmS→Cfg
 | .h0 v5=>⟨⟨26,0,true⟩,none,(Zc prog 132 [1,1,0,1,0,0] 0),none,(Zy prog 6),⟨Ya [(0,(.dat l0.length (Zz l0))),(1,(.dat l1.length (Zz l1))),(5,(ii v5))],Vd [] 0,0,[],true⟩,[],.leaf⟩
def rsmN0 :List (Option (List Nat)):=[some [0,1,5]]
def rsmM0 :List (Option (List Nat)):=[]
def z7o (l0:List R2) (l1:List R2):rsmS→Xu rsmS
 | .h0 v5=>(bif (decide (v5<(l0.length:Int))) then (bif ((decide (0≤v5∧v5<(l0.length:Int)))&&true) then (bif ((decide (0≤v5∧v5<(l1.length:Int)))&&true) then (bif (!(((rd l0 v5.toNat).a == (rd l1 v5.toNat).a)&&(((rd l0 v5.toNat).b == (rd l1 v5.toNat).b)&&true))) then (.ret [(.bool false)]) else (.to (.h0 (wrap .i64 (v5+1))))) else .stuck) else .stuck) else (.ret [(.bool true)]))
def z8w (l0:List R2) (l1:List R2):Xu rsmS:=(bif ((l0.length:Int) != (l1.length:Int)) then (.ret [(.bool false)]) else (.to (.h0 0)))
theorem w9a (l0:List R2) (l1:List R2): ∀s,Xq prog (Zy prog 132) (rsmC l0 l1) (rsmC l0 l1 s) (z7o l0 l1 s)
 | .h0 v5=>(lb (fun k0=>(lo fun aH=>(lo fun aY=>(lb (fun k1=>(lr 26 132 [1,1,0,1,0,0,1,0,0,1,0,0] 1 6 [(4,(.bool false))] (sl Zm 19 [] ⟨[],[],[some [4]],[]⟩ ⟨[],[],[]⟩ (bl 2 3) (tt k1 (ww aY (ww aH (tt k0 nn))))))) (fun k1=>(sl Zm 23 [] ⟨[],[],rsmN0,rsmM0⟩ ⟨[],[],[]⟩ (bl 2 1) (tt k1 (ww aY (ww aH (tt k0 nn)))))))))) (fun k0=>(lr 26 3 [1,1,1,1,0] 1 6 [(4,(.bool true))] (sl Zm 14 [] ⟨[],[],[some [4]],[]⟩ ⟨[],[],[]⟩ [false] (tt k0 nn)))))
theorem w0a (l0:List R2) (l1:List R2):Xq prog (Zy prog 132) (rsmC l0 l1) (Zb prog 132 [(.dat l0.length (Zz l0)),(.dat l1.length (Zz l1))] true []) (z8w l0 l1):=(lb (fun k0=>(lr 26 132 [1,0,1,0,0] 1 6 [(4,(.bool false))] (sl Zm 18 [] ⟨[],[],[some [4]],[]⟩ ⟨[],[],[]⟩ [true] (tt k0 nn)))) (fun k0=>(sl Zm 22 [] ⟨[],[],rsmN0,rsmM0⟩ ⟨[],[],[]⟩ [false] (tt k0 nn))))
theorem u1n (l0:List R2) (l1:List R2) (n:Nat) (vs:List AVal) (h:Yy (z7o l0 l1) n (z8w l0 l1)=.ret vs):Jx prog (Zy prog 132) (Zb prog 132 [(.dat l0.length (Zz l0)),(.dat l1.length (Zz l1))] true []) vs:=by have:=Zd (w9a l0 l1) n _ (w0a l0 l1);rwa [h] at this
inductive rhasS where
 | h0 (v7:Int)
def j4g (l0:List R4) (x1:Int) (x2:Int):rhasS→Cfg
 | .h0 v7=>⟨⟨48,0,true⟩,none,(Zc prog 130 [1,0,1,0,0] 0),none,(Zy prog 3),⟨Ya [(0,(.dat l0.length (Zz l0))),(1,(ii x1)),(2,(ii x2)),(7,(ii v7))],Vd [] 0,0,[],true⟩,[],.leaf⟩
def x6a :List (Option (List Nat)):=[some [0,1,2,7]]
def x6b :List (Option (List Nat)):=[]
def z6a (l0:List R4) (x1:Int) (x2:Int):rhasS→Xu rhasS
 | .h0 v7=>(bif (decide (v7<(l0.length:Int))) then (bif ((decide (0≤v7∧v7<(l0.length:Int)))&&true) then (bif (decide ((rd l0 v7.toNat).a ≤x1)) then (bif (decide (x1<(rd l0 v7.toNat).c)) then (bif (decide ((rd l0 v7.toNat).b ≤x2)) then (bif (decide (x2<(rd l0 v7.toNat).d)) then (.ret [(.bool true)]) else (.to (.h0 (wrap .i64 (v7+1))))) else (.to (.h0 (wrap .i64 (v7+1))))) else (.to (.h0 (wrap .i64 (v7+1))))) else (.to (.h0 (wrap .i64 (v7+1))))) else .stuck) else (.ret [(.bool false)]))
def z9f (l0:List R4) (x1:Int) (x2:Int):Xu rhasS:=(.to (.h0 0))
theorem w0w (l0:List R4) (x1:Int) (x2:Int): ∀s,Xq prog (Zy prog 130) (j4g l0 x1 x2) (j4g l0 x1 x2 s) (z6a l0 x1 x2 s)
 | .h0 v7=>(lb (fun k0=>(lo fun aH=>(lb (fun k1=>(lb (fun k2=>(lb (fun k3=>(lb (fun k4=>(lr 48 130 [1,0,1,0,0,1,0,0,1,0,0] 1 3 [(6,(.bool true))] (sl Zm 54 [] ⟨[],[],[some [6]],[]⟩ ⟨[],[],[]⟩ (trs 23 []) (tt k4 (ww aH (tt k3 (ww aH (tt k2 (ww aH (tt k1 (ww aH (tt k0 nn)))))))))))) (fun k4=>(sl Zm 58 [] ⟨[],[],x6a,x6b⟩ ⟨[],[],[]⟩ (trs 22 [false]) (tt k4 (ww aH (tt k3 (ww aH (tt k2 (ww aH (tt k1 (ww aH (tt k0 nn))))))))))))) (fun k3=>(sl Zm 58 [] ⟨[],[],x6a,x6b⟩ ⟨[],[],[]⟩ (trs 15 (bl 8 0)) (tt k3 (ww aH (tt k2 (ww aH (tt k1 (ww aH (tt k0 nn))))))))))) (fun k2=>(sl Zm 58 [] ⟨[],[],x6a,x6b⟩ ⟨[],[],[]⟩ (trs 8 (bl 15 0)) (tt k2 (ww aH (tt k1 (ww aH (tt k0 nn))))))))) (fun k1=>(sl Zm 58 [] ⟨[],[],x6a,x6b⟩ ⟨[],[],[]⟩ (bl 23 1) (tt k1 (ww aH (tt k0 nn)))))))) (fun k0=>(lr 48 3 [1,1,1,1,0] 1 3 [(6,(.bool false))] (sl Zm 14 [] ⟨[],[],[some [6]],[]⟩ ⟨[],[],[]⟩ [false] (tt k0 nn)))))
theorem x5z (l0:List R4) (x1:Int) (x2:Int):Xq prog (Zy prog 130) (j4g l0 x1 x2) (Zb prog 130 [(.dat l0.length (Zz l0)),(.int .i64 x1),(.int .i64 x2)] true []) (z9f l0 x1 x2):=(sl Zm 11 [] ⟨[],[],x6a,x6b⟩ ⟨[],[],[]⟩ [] nn)
theorem v5a (l0:List R4) (x1:Int) (x2:Int) (n:Nat) (vs:List AVal) (h:Yy (z6a l0 x1 x2) n (z9f l0 x1 x2)=.ret vs):Jx prog (Zy prog 130) (Zb prog 130 [(.dat l0.length (Zz l0)),(.int .i64 x1),(.int .i64 x2)] true []) vs:=by have:=Zd (w0w l0 x1 x2) n _ (x5z l0 x1 x2);rwa [h] at this
inductive rsrS where
 | h0 (v5:Int)
def rsrC (l0:List R4) (l1:List R4):rsrS→Cfg
 | .h0 v5=>⟨⟨26,0,true⟩,none,(Zc prog 109 [1,1,0,1,0,0] 0),none,(Zy prog 6),⟨Ya [(0,(.dat l0.length (Zz l0))),(1,(.dat l1.length (Zz l1))),(5,(ii v5))],Vd [] 0,0,[],true⟩,[],.leaf⟩
def rsrN0 :List (Option (List Nat)):=[some [0,1,5]]
def rsrM0 :List (Option (List Nat)):=[]
def z7m (l0:List R4) (l1:List R4):rsrS→Xu rsrS
 | .h0 v5=>(bif (decide (v5<(l0.length:Int))) then (bif ((decide (0≤v5∧v5<(l0.length:Int)))&&true) then (bif ((decide (0≤v5∧v5<(l1.length:Int)))&&true) then (bif (!(((rd l0 v5.toNat).a == (rd l1 v5.toNat).a)&&(((rd l0 v5.toNat).b == (rd l1 v5.toNat).b)&&(((rd l0 v5.toNat).c == (rd l1 v5.toNat).c)&&(((rd l0 v5.toNat).d == (rd l1 v5.toNat).d)&&true))))) then (.ret [(.bool false)]) else (.to (.h0 (wrap .i64 (v5+1))))) else .stuck) else .stuck) else (.ret [(.bool true)]))
def z8v (l0:List R4) (l1:List R4):Xu rsrS:=(bif ((l0.length:Int) != (l1.length:Int)) then (.ret [(.bool false)]) else (.to (.h0 0)))
theorem w8x (l0:List R4) (l1:List R4): ∀s,Xq prog (Zy prog 109) (rsrC l0 l1) (rsrC l0 l1 s) (z7m l0 l1 s)
 | .h0 v5=>(lb (fun k0=>(lo fun aH=>(lo fun aY=>(lb (fun k1=>(lr 26 109 [1,1,0,1,0,0,1,0,0,1,0,0] 1 6 [(4,(.bool false))] (sl Zm 19 [] ⟨[],[],[some [4]],[]⟩ ⟨[],[],[]⟩ (bl 2 3) (tt k1 (ww aY (ww aH (tt k0 nn))))))) (fun k1=>(sl Zm 23 [] ⟨[],[],rsrN0,rsrM0⟩ ⟨[],[],[]⟩ (bl 2 1) (tt k1 (ww aY (ww aH (tt k0 nn)))))))))) (fun k0=>(lr 26 3 [1,1,1,1,0] 1 6 [(4,(.bool true))] (sl Zm 14 [] ⟨[],[],[some [4]],[]⟩ ⟨[],[],[]⟩ [false] (tt k0 nn)))))
theorem x9y (l0:List R4) (l1:List R4):Xq prog (Zy prog 109) (rsrC l0 l1) (Zb prog 109 [(.dat l0.length (Zz l0)),(.dat l1.length (Zz l1))] true []) (z8v l0 l1):=(lb (fun k0=>(lr 26 109 [1,0,1,0,0] 1 6 [(4,(.bool false))] (sl Zm 18 [] ⟨[],[],[some [4]],[]⟩ ⟨[],[],[]⟩ [true] (tt k0 nn)))) (fun k0=>(sl Zm 22 [] ⟨[],[],rsrN0,rsrM0⟩ ⟨[],[],[]⟩ [false] (tt k0 nn))))
theorem u1l (l0:List R4) (l1:List R4) (n:Nat) (vs:List AVal) (h:Yy (z7m l0 l1) n (z8v l0 l1)=.ret vs):Jx prog (Zy prog 109) (Zb prog 109 [(.dat l0.length (Zz l0)),(.dat l1.length (Zz l1))] true []) vs:=by have:=Zd (w8x l0 l1) n _ (x9y l0 l1);rwa [h] at this
inductive rsbS where
 | h0 (v5:Int)
def rsbC (l0:List R6) (l1:List R6):rsbS→Cfg
 | .h0 v5=>⟨⟨26,0,true⟩,none,(Zc prog 22 [1,1,0,1,0,0] 0),none,(Zy prog 6),⟨Ya [(0,(.dat l0.length (Zz l0))),(1,(.dat l1.length (Zz l1))),(5,(ii v5))],Vd [] 0,0,[],true⟩,[],.leaf⟩
def rsbN0 :List (Option (List Nat)):=[some [0,1,5]]
def rsbM0 :List (Option (List Nat)):=[]
def z7p (l0:List R6) (l1:List R6):rsbS→Xu rsbS
 | .h0 v5=>(bif (decide (v5<(l0.length:Int))) then (bif ((decide (0≤v5∧v5<(l0.length:Int)))&&true) then (bif ((decide (0≤v5∧v5<(l1.length:Int)))&&true) then (bif (!((((rd l0 v5.toNat).a == (rd l1 v5.toNat).a)&&(((rd l0 v5.toNat).b == (rd l1 v5.toNat).b)&&(((rd l0 v5.toNat).c == (rd l1 v5.toNat).c)&&true)))&&((((rd l0 v5.toNat).d == (rd l1 v5.toNat).d)&&(((rd l0 v5.toNat).e == (rd l1 v5.toNat).e)&&(((rd l0 v5.toNat).f == (rd l1 v5.toNat).f)&&true)))&&true))) then (.ret [(.bool false)]) else (.to (.h0 (wrap .i64 (v5+1))))) else .stuck) else .stuck) else (.ret [(.bool true)]))
def z8x (l0:List R6) (l1:List R6):Xu rsbS:=(bif ((l0.length:Int) != (l1.length:Int)) then (.ret [(.bool false)]) else (.to (.h0 0)))
theorem w9b (l0:List R6) (l1:List R6): ∀s,Xq prog (Zy prog 22) (rsbC l0 l1) (rsbC l0 l1 s) (z7p l0 l1 s)
 | .h0 v5=>(lb (fun k0=>(lo fun aH=>(lo fun aY=>(lb (fun k1=>(lr 26 22 [1,1,0,1,0,0,1,0,0,1,0,0] 1 6 [(4,(.bool false))] (sl Zm 19 [] ⟨[],[],[some [4]],[]⟩ ⟨[],[],[]⟩ (bl 2 3) (tt k1 (ww aY (ww aH (tt k0 nn))))))) (fun k1=>(sl Zm 23 [] ⟨[],[],rsbN0,rsbM0⟩ ⟨[],[],[]⟩ (bl 2 1) (tt k1 (ww aY (ww aH (tt k0 nn)))))))))) (fun k0=>(lr 26 3 [1,1,1,1,0] 1 6 [(4,(.bool true))] (sl Zm 14 [] ⟨[],[],[some [4]],[]⟩ ⟨[],[],[]⟩ [false] (tt k0 nn)))))
theorem w0b (l0:List R6) (l1:List R6):Xq prog (Zy prog 22) (rsbC l0 l1) (Zb prog 22 [(.dat l0.length (Zz l0)),(.dat l1.length (Zz l1))] true []) (z8x l0 l1):=(lb (fun k0=>(lr 26 22 [1,0,1,0,0] 1 6 [(4,(.bool false))] (sl Zm 18 [] ⟨[],[],[some [4]],[]⟩ ⟨[],[],[]⟩ [true] (tt k0 nn)))) (fun k0=>(sl Zm 22 [] ⟨[],[],rsbN0,rsbM0⟩ ⟨[],[],[]⟩ [false] (tt k0 nn))))
theorem u1o (l0:List R6) (l1:List R6) (n:Nat) (vs:List AVal) (h:Yy (z7p l0 l1) n (z8x l0 l1)=.ret vs):Jx prog (Zy prog 22) (Zb prog 22 [(.dat l0.length (Zz l0)),(.dat l1.length (Zz l1))] true []) vs:=by have:=Zd (w9b l0 l1) n _ (w0b l0 l1);rwa [h] at this
inductive ratS where
 | h0 (v5:List R4) (v6:Int)
def ratC (l0:List R6) (x1:Int):ratS→Cfg
 | .h0 v5 v6=>⟨⟨60,0,true⟩,none,(Zc prog 108 [1,1,0,1,0,0] 0),none,(Zy prog 6),⟨Ya [(0,(.dat l0.length (Zz l0))),(1,(ii x1)),(5,(.sla 0 4 0 v5.length (.un 4))),(6,(ii v6))],Vd [⟨Yq v5.length (Zz v5),116,some ⟨4,v5.length,(Zz v5)⟩⟩] 0,1,[],true⟩,[],.leaf⟩
def u3b :List (Option (List Nat)):=[some [0,1,5,6]]
def u3c :List (Option (List Nat)):=[]
def z7s (l0:List R6) (x1:Int):ratS→Xu ratS
 | .h0 v5 v6=>(bif (decide (v6<(l0.length:Int))) then (bif ((decide (0≤v6∧v6<(l0.length:Int)))&&true) then (bif (decide ((rd l0 v6.toNat).c ≤x1)) then (bif (decide (x1<(rd l0 v6.toNat).f)) then (bif (Nat.beq 4 4&&((decide (0+v5.length=v5.length))&&decide ((v5.length+1+1)*(32+1)≤Jh))) then (.to (.h0 (v5++[(R4.mk (rd l0 v6.toNat).a (rd l0 v6.toNat).b (rd l0 v6.toNat).d (rd l0 v6.toNat).e)]) (wrap .i64 (v6+1)))) else .stuck) else (.to (.h0 v5 (wrap .i64 (v6+1))))) else (.to (.h0 v5 (wrap .i64 (v6+1))))) else .stuck) else (.ret [(.dat v5.length (Zz v5))]))
def y5g (l0:List R6) (x1:Int):Xu ratS:=(.to (.h0 ([]:List R4) 0))
theorem w9x (l0:List R6) (x1:Int): ∀s,Xq prog (Zy prog 108) (ratC l0 x1) (ratC l0 x1 s) (z7s l0 x1 s)
 | .h0 v5 v6=>(lb (fun k0=>(lo fun aH=>(lb (fun k1=>(lb (fun k2=>(lo fun o0=>(sl Zm 42 [] ⟨[2],[],u3b,u3c⟩ ⟨[(5,.len (v5++[(R4.mk (rd l0 (tn v6)).a (rd l0 (tn v6)).b (rd l0 (tn v6)).d (rd l0 (tn v6)).e)]).length)],[.rowed 4 (v5++[(R4.mk (rd l0 (tn v6)).a (rd l0 (tn v6)).b (rd l0 (tn v6)).d (rd l0 (tn v6)).e)]).length (Zz (v5++[(R4.mk (rd l0 (tn v6)).a (rd l0 (tn v6)).b (rd l0 (tn v6)).d (rd l0 (tn v6)).e)]))],[]⟩ (trs 10 []) (pp (xL (v5.length+1) (v5++[(R4.mk (rd l0 (tn v6)).a (rd l0 (tn v6)).b (rd l0 (tn v6)).d (rd l0 (tn v6)).e)]).length) (pp (xL (v5.length+1) (v5++[(R4.mk (rd l0 (tn v6)).a (rd l0 (tn v6)).b (rd l0 (tn v6)).d (rd l0 (tn v6)).e)]).length) (pp (xS (v5.length+1) (Zr (Zz v5) 0 v5.length 4 [(ii (rd l0 (tn v6)).a),(ii (rd l0 (tn v6)).b),(ii (rd l0 (tn v6)).d),(ii (rd l0 (tn v6)).e)]) (Zz (v5++[(R4.mk (rd l0 (tn v6)).a (rd l0 (tn v6)).b (rd l0 (tn v6)).d (rd l0 (tn v6)).e)]))) (pp (pp (xF (Zr (Zz v5) 0 v5.length 4 [(ii (rd l0 (tn v6)).a),(ii (rd l0 (tn v6)).b),(ii (rd l0 (tn v6)).d),(ii (rd l0 (tn v6)).e)])) nn) (ww o0 (ww aH (ww aH (ww aH (ww aH (tt k2 (ww aH (tt k1 (ww aH (tt k0 nn))))))))))))))))) (fun k2=>(sl Zm 42 [] ⟨[0],[],u3b,u3c⟩ ⟨[],[],[]⟩ (trs 9 [false]) (pp (fl v5 nn) (tt k2 (ww aH (tt k1 (ww aH (tt k0 nn)))))))))) (fun k1=>(sl Zm 42 [] ⟨[0],[],u3b,u3c⟩ ⟨[],[],[]⟩ (bl 10 1) (pp (fl v5 nn) (tt k1 (ww aH (tt k0 nn))))))))) (fun k0=>(lr 60 3 [1,1,1,1,0] 1 6 [(4,(.dat v5.length (Zz v5)))] (sl Zm 15 [] ⟨[],[0],[some [4]],[]⟩ ⟨[(4,.frz v5.length v5.length (Zz v5) (Zz v5))],[],[]⟩ [false] (pp (xZ (z5q 4 4 0 v5.length v5.length (Zz v5)) v5.length (Zz v5)) (pp (xL v5.length v5.length) (pp (xS v5.length (Zz v5) (Zz v5)) (pp (fl v5 nn) (tt k0 nn)))))))))
theorem w1m (l0:List R6) (x1:Int):Xq prog (Zy prog 108) (ratC l0 x1) (Zb prog 108 [(.dat l0.length (Zz l0)),(.int .i64 x1)] true []) (y5g l0 x1):=(sl Zm 15 [(116,4,Zz ([]:List R4))] ⟨[0],[],u3b,u3c⟩ ⟨[(5,.grow 0 4)],[],[]⟩ [] (pp (fl ([]:List R4) nn) nn))
theorem u3a (l0:List R6) (x1:Int) (n:Nat) (vs:List AVal) (h:Yy (z7s l0 x1) n (y5g l0 x1)=.ret vs):Jx prog (Zy prog 108) (Zb prog 108 [(.dat l0.length (Zz l0)),(.int .i64 x1)] true []) vs:=by have:=Zd (w9x l0 x1) n _ (w1m l0 x1);rwa [h] at this
inductive eqaS where
 | h0 (v13:Int)
def eqaC (l0:List R2) (l1:List R2):eqaS→Cfg
 | .h0 v13=>⟨⟨26,0,true⟩,none,(Zc prog 159 [1,1,0,1,0,0] 0),none,(Zy prog 6),⟨Ya [(0,(.dat l0.length (Zz l0))),(1,(.dat l1.length (Zz l1))),(12,(ii (l0.length:Int))),(13,(ii v13))],Vd [] 0,0,[],true⟩,[],.leaf⟩
def eqaN0 :List (Option (List Nat)):=[some [0,1,12,13]]
def eqaM0 :List (Option (List Nat)):=[]
def z8a (l0:List R2) (l1:List R2):eqaS→Xu eqaS
 | .h0 v13=>(bif (decide (v13<(l0.length:Int))) then (bif ((decide (0≤v13∧v13<(l0.length:Int)))&&true) then (bif ((decide (0≤v13∧v13<(l1.length:Int)))&&true) then (bif (!(((rd l0 v13.toNat).a == (rd l1 v13.toNat).a)&&(((rd l0 v13.toNat).b == (rd l1 v13.toNat).b)&&true))) then (.ret [(.bool false)]) else (.to (.h0 (wrap .i64 (v13+1))))) else .stuck) else .stuck) else (.ret [(.bool true)]))
def y0c (l0:List R2) (l1:List R2):Xu eqaS:=(bif ((l0.length:Int) != (l1.length:Int)) then (.ret [(.bool false)]) else (.to (.h0 0)))
theorem v1c (l0:List R2) (l1:List R2): ∀s,Xq prog (Zy prog 159) (eqaC l0 l1) (eqaC l0 l1 s) (z8a l0 l1 s)
 | .h0 v13=>(lb (fun k0=>(lo fun aH=>(lo fun aY=>(lb (fun k1=>(lr 26 159 [1,1,0,1,0,0,1,1,0,0,1,1,0,0] 1 6 [(4,(.bool false))] (sl Zm 21 [] ⟨[],[],[some [4]],[]⟩ ⟨[],[],[]⟩ (bl 2 3) (tt k1 (ww aY (ww aH (tt k0 nn))))))) (fun k1=>(sl Zm 24 [] ⟨[],[],eqaN0,eqaM0⟩ ⟨[],[],[]⟩ (bl 2 1) (tt k1 (ww aY (ww aH (tt k0 nn)))))))))) (fun k0=>(lr 26 3 [1,1,1,1,0] 1 6 [(4,(.bool true))] (sl Zm 11 [] ⟨[],[],[some [4]],[]⟩ ⟨[],[],[]⟩ [false] (tt k0 nn)))))
theorem w3g (l0:List R2) (l1:List R2):Xq prog (Zy prog 159) (eqaC l0 l1) (Zb prog 159 [(.dat l0.length (Zz l0)),(.dat l1.length (Zz l1))] true []) (y0c l0 l1):=(lb (fun k0=>(lr 26 159 [1,0,1,0,0] 1 6 [(4,(.bool false))] (sl Zm 18 [] ⟨[],[],[some [4]],[]⟩ ⟨[],[],[]⟩ [true] (tt k0 nn)))) (fun k0=>(sl Zm 24 [] ⟨[],[],eqaN0,eqaM0⟩ ⟨[],[],[]⟩ [false] (tt k0 nn))))
theorem u4y (l0:List R2) (l1:List R2) (n:Nat) (vs:List AVal) (h:Yy (z8a l0 l1) n (y0c l0 l1)=.ret vs):Jx prog (Zy prog 159) (Zb prog 159 [(.dat l0.length (Zz l0)),(.dat l1.length (Zz l1))] true []) vs:=by have:=Zd (v1c l0 l1) n _ (w3g l0 l1);rwa [h] at this
inductive eqbS where
 | h0 (v13:Int)
def eqbC (l0:List R4) (l1:List R4):eqbS→Cfg
 | .h0 v13=>⟨⟨26,0,true⟩,none,(Zc prog 163 [1,1,0,1,0,0] 0),none,(Zy prog 6),⟨Ya [(0,(.dat l0.length (Zz l0))),(1,(.dat l1.length (Zz l1))),(12,(ii (l0.length:Int))),(13,(ii v13))],Vd [] 0,0,[],true⟩,[],.leaf⟩
def eqbN0 :List (Option (List Nat)):=[some [0,1,12,13]]
def eqbM0 :List (Option (List Nat)):=[]
def z7z (l0:List R4) (l1:List R4):eqbS→Xu eqbS
 | .h0 v13=>(bif (decide (v13<(l0.length:Int))) then (bif ((decide (0≤v13∧v13<(l0.length:Int)))&&true) then (bif ((decide (0≤v13∧v13<(l1.length:Int)))&&true) then (bif (!(((rd l0 v13.toNat).a == (rd l1 v13.toNat).a)&&(((rd l0 v13.toNat).b == (rd l1 v13.toNat).b)&&(((rd l0 v13.toNat).c == (rd l1 v13.toNat).c)&&(((rd l0 v13.toNat).d == (rd l1 v13.toNat).d)&&true))))) then (.ret [(.bool false)]) else (.to (.h0 (wrap .i64 (v13+1))))) else .stuck) else .stuck) else (.ret [(.bool true)]))
def y0b (l0:List R4) (l1:List R4):Xu eqbS:=(bif ((l0.length:Int) != (l1.length:Int)) then (.ret [(.bool false)]) else (.to (.h0 0)))
theorem v1b (l0:List R4) (l1:List R4): ∀s,Xq prog (Zy prog 163) (eqbC l0 l1) (eqbC l0 l1 s) (z7z l0 l1 s)
 | .h0 v13=>(lb (fun k0=>(lo fun aH=>(lo fun aY=>(lb (fun k1=>(lr 26 163 [1,1,0,1,0,0,1,1,0,0,1,1,0,0] 1 6 [(4,(.bool false))] (sl Zm 21 [] ⟨[],[],[some [4]],[]⟩ ⟨[],[],[]⟩ (bl 2 3) (tt k1 (ww aY (ww aH (tt k0 nn))))))) (fun k1=>(sl Zm 24 [] ⟨[],[],eqbN0,eqbM0⟩ ⟨[],[],[]⟩ (bl 2 1) (tt k1 (ww aY (ww aH (tt k0 nn)))))))))) (fun k0=>(lr 26 3 [1,1,1,1,0] 1 6 [(4,(.bool true))] (sl Zm 11 [] ⟨[],[],[some [4]],[]⟩ ⟨[],[],[]⟩ [false] (tt k0 nn)))))
theorem w3f (l0:List R4) (l1:List R4):Xq prog (Zy prog 163) (eqbC l0 l1) (Zb prog 163 [(.dat l0.length (Zz l0)),(.dat l1.length (Zz l1))] true []) (y0b l0 l1):=(lb (fun k0=>(lr 26 163 [1,0,1,0,0] 1 6 [(4,(.bool false))] (sl Zm 18 [] ⟨[],[],[some [4]],[]⟩ ⟨[],[],[]⟩ [true] (tt k0 nn)))) (fun k0=>(sl Zm 24 [] ⟨[],[],eqbN0,eqbM0⟩ ⟨[],[],[]⟩ [false] (tt k0 nn))))
theorem u4x (l0:List R4) (l1:List R4) (n:Nat) (vs:List AVal) (h:Yy (z7z l0 l1) n (y0b l0 l1)=.ret vs):Jx prog (Zy prog 163) (Zb prog 163 [(.dat l0.length (Zz l0)),(.dat l1.length (Zz l1))] true []) vs:=by have:=Zd (v1b l0 l1) n _ (w3f l0 l1);rwa [h] at this
inductive eqcS where
 | h0 (v13:Int)
def eqcC (l0:List R6) (l1:List R6):eqcS→Cfg
 | .h0 v13=>⟨⟨26,0,true⟩,none,(Zc prog 94 [1,1,0,1,0,0] 0),none,(Zy prog 6),⟨Ya [(0,(.dat l0.length (Zz l0))),(1,(.dat l1.length (Zz l1))),(12,(ii (l0.length:Int))),(13,(ii v13))],Vd [] 0,0,[],true⟩,[],.leaf⟩
def eqcN0 :List (Option (List Nat)):=[some [0,1,12,13]]
def eqcM0 :List (Option (List Nat)):=[]
def z7y (l0:List R6) (l1:List R6):eqcS→Xu eqcS
 | .h0 v13=>(bif (decide (v13<(l0.length:Int))) then (bif ((decide (0≤v13∧v13<(l0.length:Int)))&&true) then (bif ((decide (0≤v13∧v13<(l1.length:Int)))&&true) then (bif (!((((rd l0 v13.toNat).a == (rd l1 v13.toNat).a)&&(((rd l0 v13.toNat).b == (rd l1 v13.toNat).b)&&(((rd l0 v13.toNat).c == (rd l1 v13.toNat).c)&&true)))&&((((rd l0 v13.toNat).d == (rd l1 v13.toNat).d)&&(((rd l0 v13.toNat).e == (rd l1 v13.toNat).e)&&(((rd l0 v13.toNat).f == (rd l1 v13.toNat).f)&&true)))&&true))) then (.ret [(.bool false)]) else (.to (.h0 (wrap .i64 (v13+1))))) else .stuck) else .stuck) else (.ret [(.bool true)]))
def y0a (l0:List R6) (l1:List R6):Xu eqcS:=(bif ((l0.length:Int) != (l1.length:Int)) then (.ret [(.bool false)]) else (.to (.h0 0)))
theorem v1a (l0:List R6) (l1:List R6): ∀s,Xq prog (Zy prog 94) (eqcC l0 l1) (eqcC l0 l1 s) (z7y l0 l1 s)
 | .h0 v13=>(lb (fun k0=>(lo fun aH=>(lo fun aY=>(lb (fun k1=>(lr 26 94 [1,1,0,1,0,0,1,1,0,0,1,1,0,0] 1 6 [(4,(.bool false))] (sl Zm 21 [] ⟨[],[],[some [4]],[]⟩ ⟨[],[],[]⟩ (bl 2 3) (tt k1 (ww aY (ww aH (tt k0 nn))))))) (fun k1=>(sl Zm 24 [] ⟨[],[],eqcN0,eqcM0⟩ ⟨[],[],[]⟩ (bl 2 1) (tt k1 (ww aY (ww aH (tt k0 nn)))))))))) (fun k0=>(lr 26 3 [1,1,1,1,0] 1 6 [(4,(.bool true))] (sl Zm 11 [] ⟨[],[],[some [4]],[]⟩ ⟨[],[],[]⟩ [false] (tt k0 nn)))))
theorem w3e (l0:List R6) (l1:List R6):Xq prog (Zy prog 94) (eqcC l0 l1) (Zb prog 94 [(.dat l0.length (Zz l0)),(.dat l1.length (Zz l1))] true []) (y0a l0 l1):=(lb (fun k0=>(lr 26 94 [1,0,1,0,0] 1 6 [(4,(.bool false))] (sl Zm 18 [] ⟨[],[],[some [4]],[]⟩ ⟨[],[],[]⟩ [true] (tt k0 nn)))) (fun k0=>(sl Zm 24 [] ⟨[],[],eqcN0,eqcM0⟩ ⟨[],[],[]⟩ [false] (tt k0 nn))))
theorem u4w (l0:List R6) (l1:List R6) (n:Nat) (vs:List AVal) (h:Yy (z7y l0 l1) n (y0a l0 l1)=.ret vs):Jx prog (Zy prog 94) (Zb prog 94 [(.dat l0.length (Zz l0)),(.dat l1.length (Zz l1))] true []) vs:=by have:=Zd (v1a l0 l1) n _ (w3e l0 l1);rwa [h] at this
inductive holS where
def holC (x0:Int) (x1:Bool) (x2:Bool):holS→Cfg
 :=nofun
def w2t (x0:Int) (x1:Bool) (x2:Bool):holS→Xu holS
 :=nofun
def y5q (x0:Int) (x1:Bool) (x2:Bool):Xu holS:=(bif (x0 == 1) then (bif x1 then (.ret [(.bool x2)]) else (.ret [(.bool false)])) else (bif (x0 == 2) then (bif x1 then (.ret [(.bool true)]) else (.ret [(.bool x2)])) else (bif x1 then (.ret [(.bool (!x2))]) else (.ret [(.bool false)]))))
theorem v0q (x0:Int) (x1:Bool) (x2:Bool): ∀s,Xq prog (Zy prog 129) (holC x0 x1 x2) (holC x0 x1 x2 s) (w2t x0 x1 x2 s)
 :=nofun
theorem w2u (x0:Int) (x1:Bool) (x2:Bool):Xq prog (Zy prog 129) (holC x0 x1 x2) (Zb prog 129 [(.int .i64 x0),(.bool x1),(.bool x2)] true []) (y5q x0 x1 x2):=(lb (fun k0=>(lb (fun k1=>(lr 24 129 [1,0,1,0,0] 1 3 [(6,(.bool x2))] (sl Zm 19 [] ⟨[],[],[some [6]],[]⟩ ⟨[],[],[]⟩ [true,true] (tt k1 (tt k0 nn))))) (fun k1=>(lr 24 129 [1,0,1,0,0] 1 3 [(6,(.bool false))] (sl Zm 19 [] ⟨[],[],[some [6]],[]⟩ ⟨[],[],[]⟩ [true,false] (tt k1 (tt k0 nn))))))) (fun k0=>(lb (fun k1=>(lb (fun k2=>(lr 24 129 [1,1,0,1,0,0] 1 3 [(6,(.bool true))] (sl Zm 27 [] ⟨[],[],[some [6]],[]⟩ ⟨[],[],[]⟩ [false,true,true] (tt k2 (tt k1 (tt k0 nn)))))) (fun k2=>(lr 24 129 [1,1,0,1,0,0] 1 3 [(6,(.bool x2))] (sl Zm 27 [] ⟨[],[],[some [6]],[]⟩ ⟨[],[],[]⟩ [false,true,false] (tt k2 (tt k1 (tt k0 nn)))))))) (fun k1=>(lb (fun k2=>(lr 24 3 [1,1,1,1,0] 1 3 [(6,(.bool (!x2)))] (sl Zm 29 [] ⟨[],[],[some [6]],[]⟩ ⟨[],[],[]⟩ [false,false,true,true] (tt k2 (tt k1 (tt k0 nn)))))) (fun k2=>(lr 24 3 [1,1,1,1,0] 1 3 [(6,(.bool false))] (sl Zm 29 [] ⟨[],[],[some [6]],[]⟩ ⟨[],[],[]⟩ [false,false,false,false] (tt k2 (tt k1 (tt k0 nn)))))))))))
theorem u4i (x0:Int) (x1:Bool) (x2:Bool) (n:Nat) (vs:List AVal) (h:Yy (w2t x0 x1 x2) n (y5q x0 x1 x2)=.ret vs):Jx prog (Zy prog 129) (Zb prog 129 [(.int .i64 x0),(.bool x1),(.bool x2)] true []) vs:=by have:=Zd (v0q x0 x1 x2) n _ (w2u x0 x1 x2);rwa [h] at this
inductive fstS where
def fstC (x0:Bool) (x1:Bool):fstS→Cfg
 :=nofun
def w2w (x0:Bool) (x1:Bool):fstS→Xu fstS
 :=nofun
def x4i (x0:Bool) (x1:Bool):Xu fstS:=(.ret [(.bool x0)])
theorem v0s (x0:Bool) (x1:Bool): ∀s,Xq prog (Zy prog 180) (fstC x0 x1) (fstC x0 x1 s) (w2w x0 x1 s)
 :=nofun
theorem w2x (x0:Bool) (x1:Bool):Xq prog (Zy prog 180) (fstC x0 x1) (Zb prog 180 [(.bool x0),(.bool x1)] true []) (x4i x0 x1):=(lr 6 3 [1,1,1,1,0] 1 6 [(4,(.bool x0))] (sl Zm 9 [] ⟨[],[],[some [4]],[]⟩ ⟨[],[],[]⟩ [] nn))
theorem u4k (x0:Bool) (x1:Bool) (n:Nat) (vs:List AVal) (h:Yy (w2w x0 x1) n (x4i x0 x1)=.ret vs):Jx prog (Zy prog 180) (Zb prog 180 [(.bool x0),(.bool x1)] true []) vs:=by have:=Zd (v0s x0 x1) n _ (w2x x0 x1);rwa [h] at this
theorem Zi {a b:Int} (h:a<b):decide (a<b)=true:=Ai h
theorem Zt {a b:Int} (h: ¬a<b):decide (a<b)=false:=An h
theorem Xo {a b:Int} (h:a≤b):decide (a≤b)=true:=Ai h
theorem w3i {a b:Int} (h: ¬a≤b):decide (a≤b)=false:=An h
theorem Yt {a b:Int} (h:a>b):decide (a>b)=true:=Ai h
theorem Xc {a b:Int} (h: ¬a>b):decide (a>b)=false:=An h
theorem u5d {a b:Int} (h:a≥b):decide (a≥b)=true:=Ai h
theorem Yu {a b:Nat} (h:a<b):decide (a<b)=true:=Ai h
theorem Yb {a b:Nat} (h:a≤b):decide (a≤b)=true:=Ai h
theorem Yp {a b:Nat} (h:a=b):decide (a=b)=true:=Ai h
theorem Zf {a b:Int} (h:0≤a∧a<b):decide (0≤a∧a<b)=true:=Ai h
theorem Zh {a:Nat} (h:a≤1099511627776):decide (a≤Jh)=true:=Ai h
theorem Zk {n:Int} (h: -9223372036854775808≤n∧n≤9223372036854775807):wrap .i64 n=n:=w_in h.1 h.2
theorem z4q :((0:Nat):Int)=0:=rfl
theorem Zx (i:Nat):(i:Int)+1=((i+1:Nat):Int):=rfl
theorem Yz (i:Nat):((i+1:Nat):Int) - 1=(i:Int):=by omega
theorem z1k {a b:Int} (h:a≠b):(a != b)=true:=by simp [h]
theorem z1l {a b:Int} (h:a=b):(a != b)=false:=by simp [h]
theorem Yc (n:Nat):Nat.beq n n=true:=B3 n
theorem Zj (n:Nat):Int.toNat (n:Int)=n:=Int.toNat_natCast n
theorem Yx (b:Bool):b=true∨b=false:=by cases b <;> simp
theorem Yg {α:Type} [Xx α] {L:List α} {i:Nat} (h:i<L.length):L.drop i=rd L i::L.drop (i+1):=by rw [Yi h];exact B8 h
theorem z0v {P:Program} {S:Specs} (hS:Zu P S) {f:FuncId} {F:List AVal→Option (AVal×Bool)} (hf:(P.funcs[f]?).any (fun fn=>fn.body.isSome)=true)
  (hF: ∀args v,F args=some (v,true)→ ∃bs vs,Vj VLe args bs∧z0h vs=v∧Jx P (Zy P f) (Zb P f bs true []) vs∧ ∃d,pf d v=true):Zu P (S.with f F):=w7m hS hf hF
def w1q (out:List Int) (x:Int):Nat→Nat
 | 0=>0
 | k+1=>bif decide (rd out k>x) then w1q out x k else k+1
def y7t (out:List Int) (x:Int):List Int:=
 match w1q out x out.length with
 | 0=>x::out
 | k+1=>bif rd out k == x then out else out.take (k+1)++x::out.drop (k+1)
def z1w (l:List Int):List Int:=l.foldl y7t []
def Je (l:List Int):Bool:=decide (l.length≤1000000)
theorem y7s (out:List Int) (x:Int):(y7t out x).length ≤out.length+1:=by
 unfold y7t;split
 ·simp
 ·rename_i k _;cases (rd out k == x) <;> simp <;> omega
theorem x7e (out:List Int) (x:Int) (k:Nat) (hk:k≤out.length):
  (v8l (out++[0]) (k+1) (Nat.min (out.length+1 - k) (out.length+1 - (k+1))) (Kd (out++[0]) k (out.length+1 - k))).set k x=out.take k++x::out.drop k:=by
 have hm:Nat.min (out.length+1 - k) (out.length+1 - (k+1))=out.length - k:=by show min _ _=_;omega
 rw [hm];apply Cl
 ·simp [Ku];omega
 ·intro i h1 h2;have hi:i<out.length+1:=by simpa [Ku] using h1
  rw [←Yi h1,←Yi h2];rw [u8z (by simpa [Ku] using hi)];by_cases e:i=k
  ·subst e;rw [AC rfl,Jv (by simp only [AZ];omega),Yi (by simp;omega)];simp [Nat.min_eq_left hk]
  ·rw [Ay e,v5k (by simpa using hi)];by_cases h:i<k
   ·rw [u5j (show¬k+1≤i by omega),A5,Aa,Jo (by omega),Jo (by simp;omega)];rw [Yi (by omega),Yi (by simp;omega),Bf]
   ·rw [v8x (show k+1≤i by omega),v8x (show i+1≤k+1+(out.length - k) by omega),Aj,Ab,x3r (by omega),Jo (by omega)];rw [Jv (by simp;omega),Yi (by omega),Yi (by simp;omega)];obtain ⟨j,rfl⟩: ∃j,i=k+1+j:=⟨i - k - 1,by omega⟩
    simp only [AZ,Nat.min_eq_left hk];rw [List.getElem_cons,dif_neg (by omega),List.getElem_drop]
    congr 1
theorem w5c (l:List Int) (out:List Int) (i:Nat) (hi:i<l.length) (hl:l.length≤1000000) (ho:out.length≤i): ∀(k N:Nat),k≤out.length→
  (w1q out (rd l i) out.length=w1q out (rd l i) k)→ ∃m,∀N,Yy (Ux l) (N+m) (.to (.h1 out (i:Int) (k:Int)))=Yy (Ux l) N (.to (.h0 (y7t out (rd l i)) ((i+1:Nat):Int)))
 | 0,N,hk,hp=>by
  refine ⟨1,fun N=> ?_⟩;have hins:y7t out (rd l i)=(v8l (out++[0]) (0+1) (Nat.min (out.length+1 - 0) (out.length+1 - (0+1))) (Kd (out++[0]) 0 (out.length+1 - 0))).set 0 (rd l i):=by rw [x7e out _ 0 (AD _)];unfold y7t;rw [hp];rfl
  rw [hins,Zv];simp (disch:=omega) only [Ux,Zh,Av,Xc,Zi,Xo,Yu,Yb,Yp,Zf,Zk,Zx,Yc,Zj,Ag,Ah,Aj,Ab,Aa]
 | k+1,N,hk,hp=>by
  rcases Yx (decide (rd out k>rd l i)) with h | h
  ·have hp':w1q out (rd l i) out.length=w1q out (rd l i) k:=by rw [hp];conv=>lhs;unfold w1q;rw [h,Ab]
   obtain ⟨m,hm⟩:=w5c l out i hi hl ho k N (by omega) hp';refine ⟨m+1,fun N=> ?_⟩;rw [←hm N,←AB,Zv];simp (disch:=omega) only [Ux,Yz,h,Zh,Av,Yt,Zi,Xo,Yu,Yb,Yp,Zf,Zk,Zx,Yc,Zj,Ag,Ah,Aj,Ab,Aa]
  ·have hpk:w1q out (rd l i) out.length=k+1:=by rw [hp];unfold w1q;rw [h];rfl
   refine ⟨1,fun N=> ?_⟩;rw [Zv];rcases Yx (rd out k == rd l i) with q | q
   ·have hins:y7t out (rd l i)=out:=by unfold y7t;rw [hpk];simp only [q,Ab]
    rw [hins];simp (disch:=omega) only [Ux,Yz,h,q,Zh,Av,Yt,Zi,Xo,Yu,Yb,Yp,Zf,Zk,Zx,Yc,Zj,Ag,Ah,Aj,Ab,Aa]
   ·have hins:y7t out (rd l i)=(v8l (out++[0]) (k+1+1) (Nat.min (out.length+1 - (k+1)) (out.length+1 - (k+1+1))) (Kd (out++[0]) (k+1) (out.length+1 - (k+1)))).set (k+1) (rd l i):=by rw [x7e out _ (k+1) hk];unfold y7t;rw [hpk];simp only [q,Aa]
    rw [hins];simp (disch:=omega) only [Ux,Yz,h,q,Zh,Av,Yt,Zi,Xo,Yu,Yb,Yp,Zf,Zk,Zx,Yc,Zj,Ag,Ah,Aj,Ab,Aa]
theorem w5d (l:List Int) (hl:l.length≤1000000): ∀(k i:Nat) (out:List Int),i+k=l.length→out.length≤i→ ∃m,Yy (Ux l) m (.to (.h0 out (i:Int)))=.ret [.dat ((l.drop i).foldl y7t out).length (Zz ((l.drop i).foldl y7t out))]
 | 0,i,out,h,ho=>by refine ⟨1,?_⟩;rw [Zv];simp (disch:=omega) only [Ux,Zt,Aa];rw [Au (by omega)];rfl
 | k+1,i,out,h,ho=>by obtain ⟨m1,h1⟩:=w5c l out i (by omega) hl ho out.length 0 (Ar _) rfl;obtain ⟨m2,h2⟩:=w5d l hl k (i+1) (y7t out (rd l i)) (by omega) (AK (y7s _ _) (by omega));refine ⟨m2+m1+1,?_⟩;rw [Zv];simp (disch:=omega) only [Ux,Zi,Ab];rw [h1 m2,h2,Yg (show i<l.length by omega)];rfl
theorem v4i (l:List Int) (h:Je l=true): ∃N,Yy (Ux l) N (z5y l)=.ret [.dat (z1w l).length (Zz (z1w l))]:=by
 have:=w5d l (AA h) l.length 0 [] (by omega) (Ar _)
 simpa [z5y,z1w] using this
theorem Zn (n:Nat):Int.toNat ((n:Int) - 1)=n - 1:=by omega
theorem u3f (x y:R2):((x.a == y.a)&&(x.b == y.b))=decide (x=y):=by obtain ⟨a,b⟩:=x;obtain ⟨c,d⟩:=y;rw [Bool.eq_iff_iff];simp
theorem u3e (x y:R4):((x.a == y.a)&&((x.b == y.b)&&((x.c == y.c)&&(x.d == y.d))))=decide (x=y):=by obtain ⟨a,b,c,d⟩:=x;obtain ⟨e,f,g,h⟩:=y;rw [Bool.eq_iff_iff];simp
theorem u3d (x y:R6):(((x.a == y.a)&&((x.b == y.b)&&(x.c == y.c)))&&((x.d == y.d)&&((x.e == y.e)&&(x.f == y.f))))=decide (x=y):=by obtain ⟨a,b,c,d,e,f⟩:=x;obtain ⟨a',b',c',d',e',f'⟩:=y;rw [Bool.eq_iff_iff];simp [and_assoc]
def Qu (l m:List R2):Bool:=decide (l=m)
def Ur (l m:List R4):Bool:=decide (l=m)
def Uo (l m:List R6):Bool:=decide (l=m)
def Vs (l m:List R2):Bool:=decide (l.length≤1000000)
def Wd (l m:List R4):Bool:=decide (l.length≤1000000)
def Ws (l m:List R6):Bool:=decide (l.length≤1000000)
theorem z6i {α:Type} [DecidableEq α] (x y:α) (l m:List α):decide (x::l=y::m)=(decide (x=y)&&decide (l=m)):=by rw [←Bool.decide_and];congr 1;simp
theorem u7r (l m:List R2) (hl:l.length≤1000000) (hm:l.length=m.length): ∀(k i:Nat),i+k=l.length→ ∃N,Yy (z7o l m) N (.to (.h0 (i:Int)))=.ret [.bool (decide (l.drop i=m.drop i))]
 | 0,i,h=>by refine ⟨1,?_⟩;rw [Zv,Au (show l.length≤i by omega),Au (show m.length≤i by omega)];simp (disch:=omega) only [z7o,Xc,Yt,Zi,Zt,Xo,Yu,Yb,Yp,Zf,Zk,Zh,z1k,z1l,Av,Zx,Yz,Zn,Yc,Zj,Ag,Ah,Aj,Ab,Aa,AE,AG,Zp]
 | k+1,i,h=>by
  obtain ⟨N,hN⟩:=u7r l m hl hm k (i+1) (by omega);refine ⟨N+1,?_⟩;rw [Zv,Yg (show i<l.length by omega),Yg (show i<m.length by omega),z6i];rcases Yx (decide (rd l i=rd m i)) with q | q
  ·simp (disch:=omega) only [z7o,u3f,q,Xc,Yt,Zi,Zt,Xo,Yu,Yb,Yp,Zf,Zk,Zh,z1k,z1l,Av,Zx,Yz,Zn,Yc,Zj,Ag,Ah,Aj,Ab,Aa,AE,AG,Zp];exact hN
  ·simp (disch:=omega) only [z7o,u3f,q,Xc,Yt,Zi,Zt,Xo,Yu,Yb,Yp,Zf,Zk,Zh,z1k,z1l,Av,Zx,Yz,Zn,Yc,Zj,Ag,Ah,Aj,Ab,Aa,AE,AG,Zp,A5]
theorem j3f (l m:List R2) (h:Vs l m=true): ∃N,Yy (z7o l m) N (z8w l m)=.ret [.bool (Qu l m)]:=by
 have hl:l.length≤1000000:=AA h;by_cases hm:l.length=m.length
 ·obtain ⟨N,hN⟩:=u7r l m hl hm l.length 0 (Ag _);refine ⟨N,?_⟩;unfold z8w;rw [z1l (show (l.length:Int)=(m.length:Nat) by omega)];exact hN
 ·refine ⟨0,?_⟩;unfold z8w;rw [z1k (show (l.length:Int)≠(m.length:Nat) by omega)];have:Qu l m=false:=An fun e=>hm (by rw [e]);rw [this];rfl
theorem u7p (l m:List R4) (hl:l.length≤1000000) (hm:l.length=m.length): ∀(k i:Nat),i+k=l.length→ ∃N,Yy (z7m l m) N (.to (.h0 (i:Int)))=.ret [.bool (decide (l.drop i=m.drop i))]
 | 0,i,h=>by refine ⟨1,?_⟩;rw [Zv,Au (show l.length≤i by omega),Au (show m.length≤i by omega)];simp (disch:=omega) only [z7m,Xc,Yt,Zi,Zt,Xo,Yu,Yb,Yp,Zf,Zk,Zh,z1k,z1l,Av,Zx,Yz,Zn,Yc,Zj,Ag,Ah,Aj,Ab,Aa,AE,AG,Zp]
 | k+1,i,h=>by
  obtain ⟨N,hN⟩:=u7p l m hl hm k (i+1) (by omega);refine ⟨N+1,?_⟩;rw [Zv,Yg (show i<l.length by omega),Yg (show i<m.length by omega),z6i];rcases Yx (decide (rd l i=rd m i)) with q | q
  ·simp (disch:=omega) only [z7m,u3e,q,Xc,Yt,Zi,Zt,Xo,Yu,Yb,Yp,Zf,Zk,Zh,z1k,z1l,Av,Zx,Yz,Zn,Yc,Zj,Ag,Ah,Aj,Ab,Aa,AE,AG,Zp];exact hN
  ·simp (disch:=omega) only [z7m,u3e,q,Xc,Yt,Zi,Zt,Xo,Yu,Yb,Yp,Zf,Zk,Zh,z1k,z1l,Av,Zx,Yz,Zn,Yc,Zj,Ag,Ah,Aj,Ab,Aa,AE,AG,Zp,A5]
theorem j3d (l m:List R4) (h:Wd l m=true): ∃N,Yy (z7m l m) N (z8v l m)=.ret [.bool (Ur l m)]:=by
 have hl:l.length≤1000000:=AA h;by_cases hm:l.length=m.length
 ·obtain ⟨N,hN⟩:=u7p l m hl hm l.length 0 (Ag _);refine ⟨N,?_⟩;unfold z8v;rw [z1l (show (l.length:Int)=(m.length:Nat) by omega)];exact hN
 ·refine ⟨0,?_⟩;unfold z8v;rw [z1k (show (l.length:Int)≠(m.length:Nat) by omega)];have:Ur l m=false:=An fun e=>hm (by rw [e]);rw [this];rfl
theorem u7s (l m:List R6) (hl:l.length≤1000000) (hm:l.length=m.length): ∀(k i:Nat),i+k=l.length→ ∃N,Yy (z7p l m) N (.to (.h0 (i:Int)))=.ret [.bool (decide (l.drop i=m.drop i))]
 | 0,i,h=>by refine ⟨1,?_⟩;rw [Zv,Au (show l.length≤i by omega),Au (show m.length≤i by omega)];simp (disch:=omega) only [z7p,Xc,Yt,Zi,Zt,Xo,Yu,Yb,Yp,Zf,Zk,Zh,z1k,z1l,Av,Zx,Yz,Zn,Yc,Zj,Ag,Ah,Aj,Ab,Aa,AE,AG,Zp]
 | k+1,i,h=>by
  obtain ⟨N,hN⟩:=u7s l m hl hm k (i+1) (by omega);refine ⟨N+1,?_⟩;rw [Zv,Yg (show i<l.length by omega),Yg (show i<m.length by omega),z6i];rcases Yx (decide (rd l i=rd m i)) with q | q
  ·simp (disch:=omega) only [z7p,u3d,q,Xc,Yt,Zi,Zt,Xo,Yu,Yb,Yp,Zf,Zk,Zh,z1k,z1l,Av,Zx,Yz,Zn,Yc,Zj,Ag,Ah,Aj,Ab,Aa,AE,AG,Zp];exact hN
  ·simp (disch:=omega) only [z7p,u3d,q,Xc,Yt,Zi,Zt,Xo,Yu,Yb,Yp,Zf,Zk,Zh,z1k,z1l,Av,Zx,Yz,Zn,Yc,Zj,Ag,Ah,Aj,Ab,Aa,AE,AG,Zp,A5]
theorem j3g (l m:List R6) (h:Ws l m=true): ∃N,Yy (z7p l m) N (z8x l m)=.ret [.bool (Uo l m)]:=by
 have hl:l.length≤1000000:=AA h;by_cases hm:l.length=m.length
 ·obtain ⟨N,hN⟩:=u7s l m hl hm l.length 0 (Ag _);refine ⟨N,?_⟩;unfold z8x;rw [z1l (show (l.length:Int)=(m.length:Nat) by omega)];exact hN
 ·refine ⟨0,?_⟩;unfold z8x;rw [z1k (show (l.length:Int)≠(m.length:Nat) by omega)];have:Uo l m=false:=An fun e=>hm (by rw [e]);rw [this];rfl
theorem j0k (l m:List R2) (hl:l.length≤1000000) (hm:l.length=m.length): ∀(k i:Nat),i+k=l.length→ ∃N,Yy (z8a l m) N (.to (.h0 (i:Int)))=.ret [.bool (decide (l.drop i=m.drop i))]
 | 0,i,h=>by refine ⟨1,?_⟩;rw [Zv,Au (show l.length≤i by omega),Au (show m.length≤i by omega)];simp (disch:=omega) only [z8a,Xc,Yt,Zi,Zt,Xo,Yu,Yb,Yp,Zf,Zk,Zh,z1k,z1l,Av,Zx,Yz,Zn,Yc,Zj,Ag,Ah,Aj,Ab,Aa,AE,AG,Zp]
 | k+1,i,h=>by
  obtain ⟨N,hN⟩:=j0k l m hl hm k (i+1) (by omega);refine ⟨N+1,?_⟩;rw [Zv,Yg (show i<l.length by omega),Yg (show i<m.length by omega),z6i];rcases Yx (decide (rd l i=rd m i)) with q | q
  ·simp (disch:=omega) only [z8a,u3f,q,Xc,Yt,Zi,Zt,Xo,Yu,Yb,Yp,Zf,Zk,Zh,z1k,z1l,Av,Zx,Yz,Zn,Yc,Zj,Ag,Ah,Aj,Ab,Aa,AE,AG,Zp];exact hN
  ·simp (disch:=omega) only [z8a,u3f,q,Xc,Yt,Zi,Zt,Xo,Yu,Yb,Yp,Zf,Zk,Zh,z1k,z1l,Av,Zx,Yz,Zn,Yc,Zj,Ag,Ah,Aj,Ab,Aa,AE,AG,Zp,A5]
theorem j7r (l m:List R2) (h:Vs l m=true): ∃N,Yy (z8a l m) N (y0c l m)=.ret [.bool (Qu l m)]:=by
 have hl:l.length≤1000000:=AA h;by_cases hm:l.length=m.length
 ·obtain ⟨N,hN⟩:=j0k l m hl hm l.length 0 (Ag _);refine ⟨N,?_⟩;unfold y0c;rw [z1l (show (l.length:Int)=(m.length:Nat) by omega)];exact hN
 ·refine ⟨0,?_⟩;unfold y0c;rw [z1k (show (l.length:Int)≠(m.length:Nat) by omega)];have:Qu l m=false:=An fun e=>hm (by rw [e]);rw [this];rfl
theorem j0j (l m:List R4) (hl:l.length≤1000000) (hm:l.length=m.length): ∀(k i:Nat),i+k=l.length→ ∃N,Yy (z7z l m) N (.to (.h0 (i:Int)))=.ret [.bool (decide (l.drop i=m.drop i))]
 | 0,i,h=>by refine ⟨1,?_⟩;rw [Zv,Au (show l.length≤i by omega),Au (show m.length≤i by omega)];simp (disch:=omega) only [z7z,Xc,Yt,Zi,Zt,Xo,Yu,Yb,Yp,Zf,Zk,Zh,z1k,z1l,Av,Zx,Yz,Zn,Yc,Zj,Ag,Ah,Aj,Ab,Aa,AE,AG,Zp]
 | k+1,i,h=>by
  obtain ⟨N,hN⟩:=j0j l m hl hm k (i+1) (by omega);refine ⟨N+1,?_⟩;rw [Zv,Yg (show i<l.length by omega),Yg (show i<m.length by omega),z6i];rcases Yx (decide (rd l i=rd m i)) with q | q
  ·simp (disch:=omega) only [z7z,u3e,q,Xc,Yt,Zi,Zt,Xo,Yu,Yb,Yp,Zf,Zk,Zh,z1k,z1l,Av,Zx,Yz,Zn,Yc,Zj,Ag,Ah,Aj,Ab,Aa,AE,AG,Zp];exact hN
  ·simp (disch:=omega) only [z7z,u3e,q,Xc,Yt,Zi,Zt,Xo,Yu,Yb,Yp,Zf,Zk,Zh,z1k,z1l,Av,Zx,Yz,Zn,Yc,Zj,Ag,Ah,Aj,Ab,Aa,AE,AG,Zp,A5]
theorem j7q (l m:List R4) (h:Wd l m=true): ∃N,Yy (z7z l m) N (y0b l m)=.ret [.bool (Ur l m)]:=by
 have hl:l.length≤1000000:=AA h;by_cases hm:l.length=m.length
 ·obtain ⟨N,hN⟩:=j0j l m hl hm l.length 0 (Ag _);refine ⟨N,?_⟩;unfold y0b;rw [z1l (show (l.length:Int)=(m.length:Nat) by omega)];exact hN
 ·refine ⟨0,?_⟩;unfold y0b;rw [z1k (show (l.length:Int)≠(m.length:Nat) by omega)];have:Ur l m=false:=An fun e=>hm (by rw [e]);rw [this];rfl
theorem j0i (l m:List R6) (hl:l.length≤1000000) (hm:l.length=m.length): ∀(k i:Nat),i+k=l.length→ ∃N,Yy (z7y l m) N (.to (.h0 (i:Int)))=.ret [.bool (decide (l.drop i=m.drop i))]
 | 0,i,h=>by refine ⟨1,?_⟩;rw [Zv,Au (show l.length≤i by omega),Au (show m.length≤i by omega)];simp (disch:=omega) only [z7y,Xc,Yt,Zi,Zt,Xo,Yu,Yb,Yp,Zf,Zk,Zh,z1k,z1l,Av,Zx,Yz,Zn,Yc,Zj,Ag,Ah,Aj,Ab,Aa,AE,AG,Zp]
 | k+1,i,h=>by
  obtain ⟨N,hN⟩:=j0i l m hl hm k (i+1) (by omega);refine ⟨N+1,?_⟩;rw [Zv,Yg (show i<l.length by omega),Yg (show i<m.length by omega),z6i];rcases Yx (decide (rd l i=rd m i)) with q | q
  ·simp (disch:=omega) only [z7y,u3d,q,Xc,Yt,Zi,Zt,Xo,Yu,Yb,Yp,Zf,Zk,Zh,z1k,z1l,Av,Zx,Yz,Zn,Yc,Zj,Ag,Ah,Aj,Ab,Aa,AE,AG,Zp];exact hN
  ·simp (disch:=omega) only [z7y,u3d,q,Xc,Yt,Zi,Zt,Xo,Yu,Yb,Yp,Zf,Zk,Zh,z1k,z1l,Av,Zx,Yz,Zn,Yc,Zj,Ag,Ah,Aj,Ab,Aa,AE,AG,Zp,A5]
theorem j7p (l m:List R6) (h:Ws l m=true): ∃N,Yy (z7y l m) N (y0a l m)=.ret [.bool (Uo l m)]:=by
 have hl:l.length≤1000000:=AA h;by_cases hm:l.length=m.length
 ·obtain ⟨N,hN⟩:=j0i l m hl hm l.length 0 (Ag _);refine ⟨N,?_⟩;unfold y0a;rw [z1l (show (l.length:Int)=(m.length:Nat) by omega)];exact hN
 ·refine ⟨0,?_⟩;unfold y0a;rw [z1k (show (l.length:Int)≠(m.length:Nat) by omega)];have:Uo l m=false:=An fun e=>hm (by rw [e]);rw [this];rfl
def in4 (x y:Int) (r:R4):Bool:=decide (r.a≤x)&&(decide (x<r.c)&&(decide (r.b≤y)&&decide (y<r.d)))
def has4V (l:List R4) (x y:Int):Bool:=l.any (in4 x y)
def z0u (l:List R4) (x y:Int):Bool:=decide (l.length≤1000000)
theorem v4z (l:List R4) (x y:Int) (hl:l.length≤1000000): ∀(k i:Nat),i+k=l.length→ ∃N,Yy (z6a l x y) N (.to (.h0 (i:Int)))=.ret [.bool ((l.drop i).any (in4 x y))]
 | 0,i,h=>by refine ⟨1,?_⟩;rw [Zv,Au (show l.length≤i by omega)];simp (disch:=omega) only [z6a,Xc,Yt,Zi,Zt,Xo,Yu,Yb,Yp,Zf,Zk,Zh,z1k,z1l,Av,Zx,Yz,Zn,Yc,Zj,Ag,Ah,Aj,Ab,Aa,AE,AG,Zp];rfl
 | k+1,i,h=>by
  obtain ⟨N,hN⟩:=v4z l x y hl k (i+1) (by omega);refine ⟨N+1,?_⟩;rw [Zv,Yg (show i<l.length by omega),Ca];unfold in4 at hN ⊢;rcases Yx (decide ((rd l i).a ≤x)) with q1 | q1 <;> rcases Yx (decide (x<(rd l i).c)) with q2 | q2 <;> rcases Yx (decide ((rd l i).b ≤y)) with q3 | q3 <;> rcases Yx (decide (y<(rd l i).d)) with q4 | q4 <;>
   simp (disch:=omega) only [z6a,q1,q2,q3,q4,Xc,Yt,Zi,Zt,Xo,Yu,Yb,Yp,Zf,Zk,Zh,z1k,z1l,Av,Zx,Yz,Zn,Yc,Zj,Ag,Ah,Aj,Ab,Aa,AE,AG,Zp,A5,Ck,Bl,BB] <;> exact hN
theorem u2h (l:List R4) (x y:Int) (h:z0u l x y=true): ∃N,Yy (z6a l x y) N (z9f l x y)=.ret [.bool (has4V l x y)]:=by
 have:=v4z l x y (AA h) l.length 0 (Ag _)
 simpa [z9f,has4V] using this
def on6 (z:Int) (b:R6):Bool:=decide (b.c≤z)&&decide (z<b.f)
def j5x (b:R6):R4:=⟨b.a,b.b,b.d,b.e⟩
def atV (l:List R6) (z:Int):List R4:=(l.filter (on6 z)).map j5x
def z6m (l:List R6) (z:Int):Bool:=decide (l.length≤1000000)
theorem v5s (l:List R6) (z:Int) (hl:l.length≤1000000): ∀(k i:Nat) (out:List R4),i+k=l.length→out.length≤i→ ∃N,Yy (z7s l z) N (.to (.h0 out (i:Int)))=.ret [.dat (out++atV (l.drop i) z).length (Zz (out++atV (l.drop i) z))]
 | 0,i,out,h,ho=>by refine ⟨1,?_⟩;rw [Zv,Au (show l.length≤i by omega)];simp (disch:=omega) only [z7s,Xc,Yt,Zi,Zt,Xo,Yu,Yb,Yp,Zf,Zk,Zh,z1k,z1l,Av,Zx,Yz,Zn,Yc,Zj,Ag,Ah,Aj,Ab,Aa,AE,AG,Zp,atV,List.filter_nil,Bd,Az]
 | k+1,i,out,h,ho=>by
  rw [Yg (show i<l.length by omega)];have e:atV (rd l i::l.drop (i+1)) z=(bif on6 z (rd l i) then [j5x (rd l i)] else [])++atV (l.drop (i+1)) z:=by unfold atV;rw [BW];cases on6 z (rd l i) <;> rfl
  rw [e,←AL];rcases Yx (decide ((rd l i).c ≤z)) with q1 | q1 <;> rcases Yx (decide (z<(rd l i).f)) with q2 | q2
  ·obtain ⟨N,hN⟩:=v5s l z hl k (i+1) (out++[j5x (rd l i)]) (by omega) (by simp;omega);refine ⟨N+1,?_⟩;rw [Zv];simp (disch:=omega) only [z7s,q1,q2,on6,Xc,Yt,Zi,Zt,Xo,Yu,Yb,Yp,Zf,Zk,Zh,z1k,z1l,Av,Zx,Yz,Zn,Yc,Zj,Ag,Ah,Aj,Ab,Aa,AE,AG,Zp];exact hN
  all_goals
   obtain ⟨N,hN⟩:=v5s l z hl k (i+1) out (by omega) (by omega);refine ⟨N+1,?_⟩;rw [Zv];simp (disch:=omega) only [z7s,q1,q2,on6,Xc,Yt,Zi,Zt,Xo,Yu,Yb,Yp,Zf,Zk,Zh,z1k,z1l,Av,Zx,Yz,Zn,Yc,Zj,Ag,Ah,Aj,Ab,Aa,AE,AG,Zp,A5,Ck,Az];exact hN
theorem j4t (l:List R6) (z:Int) (h:z6m l z=true): ∃N,Yy (z7s l z) N (y5g l z)=.ret [.dat (atV l z).length (Zz (atV l z))]:=by
 have:=v5s l z (AA h) l.length 0 [] (Ag _) (Ar _)
 simpa [y5g] using this
def v2e (cuts:List Int) (ins:List Bool):Nat→Nat→List R2→List R2
 | 0,_,out=>out
 | k+1,i,out=>v2e cuts ins k (i+1) (bif rd ins i then (bif decide (0<out.length)&&((rd out (out.length - 1)).b == rd cuts i) then out.set (out.length - 1) ⟨(rd out (out.length - 1)).a,rd cuts (i+1)⟩ else out++[⟨rd cuts i,rd cuts (i+1)⟩]) else out)
def y3g (cuts:List Int) (ins:List Bool):List R2:=v2e cuts ins (cuts.length - 1) 0 []
def y0m (cuts:List Int) (ins:List Bool):Bool:=decide (cuts.length≤1000000∧cuts.length≤ins.length+1)
theorem x3s (cuts:List Int) (ins:List Bool) (hl:cuts.length≤1000000) (hi:cuts.length≤ins.length+1): ∀(k i:Nat) (out:List R2),k=cuts.length - 1 - i→i≤cuts.length→out.length≤i→ ∃N,Yy (z0l cuts ins) N (.to (.h0 out (i:Int)))=.ret [.dat (v2e cuts ins k i out).length (Zz (v2e cuts ins k i out))]
 | 0,i,out,h,hi2,ho=>by refine ⟨1,?_⟩;rw [Zv];simp (disch:=omega) only [z0l,Xc,Yt,Zi,Zt,Xo,Yu,Yb,Yp,Zf,Zk,Zh,z1k,z1l,Av,Zx,Yz,Zn,Yc,Zj,Ag,Ah,Aj,Ab,Aa,AE,AG,Zp,v2e]
 | k+1,i,out,h,hi2,ho=>by
  unfold v2e;rcases Yx (rd ins i) with q | q
  ·rcases Yx (decide (0<out.length)&&((rd out (out.length - 1)).b == rd cuts i)) with q2 | q2
   ·obtain ⟨N,hN⟩:=x3s cuts ins hl hi k (i+1) (out.set (out.length - 1) ⟨(rd out (out.length - 1)).a,rd cuts (i+1)⟩) (by omega) (by omega) (by simp;omega);refine ⟨N+1,?_⟩;rw [Zv,q,q2];simp only [Ac,As] at q2;simp (disch:=omega) only [z0l,q,q2.2,Xc,Yt,Zi,Zt,Xo,Yu,Yb,Yp,Zf,Zk,Zh,z1k,z1l,Av,Zx,Yz,Zn,Yc,Zj,Ag,Ah,Aj,Ab,Aa,AE,AG,Zp];exact hN
   ·obtain ⟨N,hN⟩:=x3s cuts ins hl hi k (i+1) (out++[⟨rd cuts i,rd cuts (i+1)⟩]) (by omega) (by omega) (by simp;omega);refine ⟨N+1,?_⟩;rw [Zv,q,q2];by_cases h0:0<out.length
    ·rw [Ai h0,Aj] at q2;simp (disch:=omega) only [z0l,q,q2,Xc,Yt,Zi,Zt,Xo,Yu,Yb,Yp,Zf,Zk,Zh,z1k,z1l,Av,Zx,Yz,Zn,Yc,Zj,Ag,Ah,Aj,Ab,Aa,AE,AG,Zp];exact hN
    ·simp (disch:=omega) only [z0l,q,Xc,Yt,Zi,Zt,Xo,Yu,Yb,Yp,Zf,Zk,Zh,z1k,z1l,Av,Zx,Yz,Zn,Yc,Zj,Ag,Ah,Aj,Ab,Aa,AE,AG,Zp];exact hN
  ·obtain ⟨N,hN⟩:=x3s cuts ins hl hi k (i+1) out (by omega) (by omega) (by omega);refine ⟨N+1,?_⟩;rw [Zv,q];simp (disch:=omega) only [z0l,q,Xc,Yt,Zi,Zt,Xo,Yu,Yb,Yp,Zf,Zk,Zh,z1k,z1l,Av,Zx,Yz,Zn,Yc,Zj,Ag,Ah,Aj,Ab,Aa,AE,AG,Zp];exact hN
theorem u2z (cuts:List Int) (ins:List Bool) (h:y0m cuts ins=true): ∃N,Yy (z0l cuts ins) N (z9l cuts ins)=.ret [.dat (y3g cuts ins).length (Zz (y3g cuts ins))]:=by
 obtain ⟨h1,h2⟩:=AA h;have:=x3s cuts ins h1 h2 (cuts.length - 1) 0 [] (by omega) (AD _) (Ar _)
 simpa [z9l,y3g] using this
abbrev v6g :Nat:=124
abbrev u9x :Nat:=131
abbrev u9p :Nat:=132
abbrev u9v :Nat:=129
abbrev nHas4 :Nat:=130
abbrev u9o :Nat:=109
abbrev nXs :Nat:=127
abbrev nYs :Nat:=128
abbrev u9u :Nat:=89
abbrev u9n :Nat:=22
abbrev nAt :Nat:=108
abbrev nCuts :Nat:=107
abbrev u9t :Nat:=77
abbrev v6l :Nat:=59
abbrev nEq2 :Nat:=159
abbrev nEq4 :Nat:=163
abbrev nEq6 :Nat:=94
abbrev u9m :Nat:=193
abbrev w6b :Nat:=194
abbrev nSort :Nat:=111
abbrev w6d :Nat:=113
abbrev nFst :Nat:=180
abbrev x6t :Nat:=156
abbrev w5z :Nat:=83
abbrev v6k :Nat:=117
abbrev w5x :Nat:=116
abbrev w5v :Nat:=92
abbrev x6u :Nat:=52
-- not there: gambrel/gambrellaw28.valid
abbrev w5u :Nat:=160
abbrev nSpU1 :Nat:=164
abbrev nSpE1 :Nat:=133
abbrev nSpD1 :Nat:=123
abbrev nSpU :Nat:=149
abbrev nSpE :Nat:=90
abbrev nSpD :Nat:=85
abbrev w5y :Nat:=157
abbrev nRgU :Nat:=110
abbrev nRgE :Nat:=51
abbrev nRgD :Nat:=48
abbrev nSlU :Nat:=78
abbrev nSlE :Nat:=39
abbrev nSlD :Nat:=33
def y3c (k:Int) (a b:Bool):Bool:=bif k == 1 then a&&b else bif k == 2 then a||b else a&& !b
def w6q (a b:Bool):Bool:=a
theorem j5s (k:Int) (a b:Bool): ∃N,Yy (w2t k a b) N (y5q k a b)=.ret [.bool (y3c k a b)]:=by
 refine ⟨0,?_⟩;unfold y5q y3c;cases a <;> cases b <;> rcases Yx (k == 1) with q | q <;> rcases Yx (k == 2) with q2 | q2 <;> rw [q] <;> (try rw [q2]) <;> rfl
theorem j5u (a b:Bool): ∃N,Yy (w2w a b) N (x4i a b)=.ret [.bool (w6q a b)]:=⟨0,rfl⟩
def fSrt :List AVal→Option (AVal×Bool)
 | [a0]=>match asL Int a0 with
  | some (L0,g0,n0)=>some (.dat (z1w L0).length (Zz (z1w L0)),isT Int n0 g0&&(Je L0))
  | _=>none
 | _=>none
theorem j6f {S:Specs} (hS:Zu prog S):Zu prog (S.with v6g fSrt):=by
 refine z0v hS (by kernel_rfl) fun args v h=> ?_;unfold fSrt at h;split at h
 ·rename_i a0;split at h
  ·rename_i L0 g0 n0 e0;simp only [Ae,Ad,Ac] at h;obtain ⟨rfl,ho0,hw⟩:=h;obtain ⟨N,hN⟩:=v4i L0 hw;exact ⟨_,_,(.cons (Yh e0 ho0) .nil),rfl,w8z L0 N _ hN,3,rfl⟩
  ·cases h
 ·cases h
def fCan :List AVal→Option (AVal×Bool)
 | [a0,a1]=>match asL Int a0,asL Bool a1 with
  | some (L0,g0,n0),some (L1,g1,n1)=>some (.dat (y3g L0 L1).length (Zz (y3g L0 L1)),isT Int n0 g0&&(isT Bool n1 g1&&(y0m L0 L1)))
  | _,_=>none
 | _=>none
theorem j7m {S:Specs} (hS:Zu prog S):Zu prog (S.with u9x fCan):=by
 refine z0v hS (by kernel_rfl) fun args v h=> ?_;unfold fCan at h;split at h
 ·rename_i a0 a1;split at h
  ·rename_i L0 g0 n0 L1 g1 n1 e0 e1;simp only [Ae,Ad,Ac] at h;obtain ⟨rfl,ho0,ho1,hw⟩:=h;obtain ⟨N,hN⟩:=u2z L0 L1 hw;exact ⟨_,_,(.cons (Yh e0 ho0) (.cons (Yh e1 ho1) .nil)),rfl,v5r L0 L1 N _ hN,3,rfl⟩
  ·cases h
 ·cases h
def x2c :List AVal→Option (AVal×Bool)
 | [a0,a1]=>match asL R2 a0,asL R2 a1 with
  | some (L0,g0,n0),some (L1,g1,n1)=>some (.bool (Qu L0 L1),isT R2 n0 g0&&(isT R2 n1 g1&&(Vs L0 L1)))
  | _,_=>none
 | _=>none
theorem v7r {S:Specs} (hS:Zu prog S):Zu prog (S.with u9p x2c):=by
 refine z0v hS (by kernel_rfl) fun args v h=> ?_;unfold x2c at h;split at h
 ·rename_i a0 a1;split at h
  ·rename_i L0 g0 n0 L1 g1 n1 e0 e1;simp only [Ae,Ad,Ac] at h;obtain ⟨rfl,ho0,ho1,hw⟩:=h;obtain ⟨N,hN⟩:=j3f L0 L1 hw;exact ⟨_,_,(.cons (Yh e0 ho0) (.cons (Yh e1 ho1) .nil)),rfl,u1n L0 L1 N _ hN,3,rfl⟩
  ·cases h
 ·cases h
def x2b :List AVal→Option (AVal×Bool)
 | [a0,a1]=>match asL R4 a0,asL R4 a1 with
  | some (L0,g0,n0),some (L1,g1,n1)=>some (.bool (Ur L0 L1),isT R4 n0 g0&&(isT R4 n1 g1&&(Wd L0 L1)))
  | _,_=>none
 | _=>none
theorem v7q {S:Specs} (hS:Zu prog S):Zu prog (S.with u9o x2b):=by
 refine z0v hS (by kernel_rfl) fun args v h=> ?_;unfold x2b at h;split at h
 ·rename_i a0 a1;split at h
  ·rename_i L0 g0 n0 L1 g1 n1 e0 e1;simp only [Ae,Ad,Ac] at h;obtain ⟨rfl,ho0,ho1,hw⟩:=h;obtain ⟨N,hN⟩:=j3d L0 L1 hw;exact ⟨_,_,(.cons (Yh e0 ho0) (.cons (Yh e1 ho1) .nil)),rfl,u1l L0 L1 N _ hN,3,rfl⟩
  ·cases h
 ·cases h
def x2a :List AVal→Option (AVal×Bool)
 | [a0,a1]=>match asL R6 a0,asL R6 a1 with
  | some (L0,g0,n0),some (L1,g1,n1)=>some (.bool (Uo L0 L1),isT R6 n0 g0&&(isT R6 n1 g1&&(Ws L0 L1)))
  | _,_=>none
 | _=>none
theorem v7p {S:Specs} (hS:Zu prog S):Zu prog (S.with u9n x2a):=by
 refine z0v hS (by kernel_rfl) fun args v h=> ?_;unfold x2a at h;split at h
 ·rename_i a0 a1;split at h
  ·rename_i L0 g0 n0 L1 g1 n1 e0 e1;simp only [Ae,Ad,Ac] at h;obtain ⟨rfl,ho0,ho1,hw⟩:=h;obtain ⟨N,hN⟩:=j3g L0 L1 hw;exact ⟨_,_,(.cons (Yh e0 ho0) (.cons (Yh e1 ho1) .nil)),rfl,u1o L0 L1 N _ hN,3,rfl⟩
  ·cases h
 ·cases h
def j7g :List AVal→Option (AVal×Bool)
 | [a0,.int .i64 x1,.int .i64 x2]=>match asL R4 a0 with
  | some (L0,g0,n0)=>some (.bool (has4V L0 x1 x2),isT R4 n0 g0&&(z0u L0 x1 x2))
  | _=>none
 | _=>none
theorem u4s {S:Specs} (hS:Zu prog S):Zu prog (S.with nHas4 j7g):=by
 refine z0v hS (by kernel_rfl) fun args v h=> ?_;unfold j7g at h;split at h
 ·rename_i a0 x1 x2;split at h
  ·rename_i L0 g0 n0 e0;simp only [Ae,Ad,Ac] at h;obtain ⟨rfl,ho0,hw⟩:=h;obtain ⟨N,hN⟩:=u2h L0 x1 x2 hw;exact ⟨_,_,(.cons (Yh e0 ho0) (.cons (.refl _) (.cons (.refl _) .nil))),rfl,v5a L0 x1 x2 N _ hN,3,rfl⟩
  ·cases h
 ·cases h
def fAt :List AVal→Option (AVal×Bool)
 | [a0,.int .i64 x1]=>match asL R6 a0 with
  | some (L0,g0,n0)=>some (.dat (atV L0 x1).length (Zz (atV L0 x1)),isT R6 n0 g0&&(z6m L0 x1))
  | _=>none
 | _=>none
theorem fAt_ok {S:Specs} (hS:Zu prog S):Zu prog (S.with nAt fAt):=by
 refine z0v hS (by kernel_rfl) fun args v h=> ?_;unfold fAt at h;split at h
 ·rename_i a0 x1;split at h
  ·rename_i L0 g0 n0 e0;simp only [Ae,Ad,Ac] at h;obtain ⟨rfl,ho0,hw⟩:=h;obtain ⟨N,hN⟩:=j4t L0 x1 hw;exact ⟨_,_,(.cons (Yh e0 ho0) (.cons (.refl _) .nil)),rfl,u3a L0 x1 N _ hN,3,rfl⟩
  ·cases h
 ·cases h
def v7x :List AVal→Option (AVal×Bool)
 | [.int .i64 x0,.bool b1,.bool b2]=>some (.bool (y3c x0 b1 b2),true)
 | _=>none
theorem v7w {S:Specs} (hS:Zu prog S):Zu prog (S.with u9v v7x):=by
 refine z0v hS (by kernel_rfl) fun args v h=> ?_;unfold v7x at h;split at h
 ·rename_i x0 b1 b2;simp only [Ae,Ad,BZ] at h;subst h;obtain ⟨N,hN⟩:=j5s x0 b1 b2;exact ⟨_,_,(.cons (.refl _) (.cons (.refl _) (.cons (.refl _) .nil))),rfl,u4i x0 b1 b2 N _ hN,3,rfl⟩
 ·cases h
def fFst :List AVal→Option (AVal×Bool)
 | [.bool b0,.bool b1]=>some (.bool (w6q b0 b1),true)
 | _=>none
theorem j7h {S:Specs} (hS:Zu prog S):Zu prog (S.with nFst fFst):=by
 refine z0v hS (by kernel_rfl) fun args v h=> ?_;unfold fFst at h;split at h
 ·rename_i b0 b1;simp only [Ae,Ad,BZ] at h;subst h;obtain ⟨N,hN⟩:=j5u b0 b1;exact ⟨_,_,(.cons (.refl _) (.cons (.refl _) .nil)),rfl,u4k b0 b1 N _ hN,3,rfl⟩
 ·cases h
theorem v0z {S:Specs} (hS:Zu prog S):Zu prog (S.with nEq2 x2c):=by
 refine z0v hS (by kernel_rfl) fun args v h=> ?_;unfold x2c at h;split at h
 ·rename_i a0 a1;split at h
  ·rename_i L0 g0 n0 L1 g1 n1 e0 e1;simp only [Ae,Ad,Ac] at h;obtain ⟨rfl,ho0,ho1,hw⟩:=h;obtain ⟨N,hN⟩:=j7r L0 L1 hw;exact ⟨_,_,(.cons (Yh e0 ho0) (.cons (Yh e1 ho1) .nil)),rfl,u4y L0 L1 N _ hN,3,rfl⟩
  ·cases h
 ·cases h
theorem v0y {S:Specs} (hS:Zu prog S):Zu prog (S.with nEq4 x2b):=by
 refine z0v hS (by kernel_rfl) fun args v h=> ?_;unfold x2b at h;split at h
 ·rename_i a0 a1;split at h
  ·rename_i L0 g0 n0 L1 g1 n1 e0 e1;simp only [Ae,Ad,Ac] at h;obtain ⟨rfl,ho0,ho1,hw⟩:=h;obtain ⟨N,hN⟩:=j7q L0 L1 hw;exact ⟨_,_,(.cons (Yh e0 ho0) (.cons (Yh e1 ho1) .nil)),rfl,u4x L0 L1 N _ hN,3,rfl⟩
  ·cases h
 ·cases h
theorem v0x {S:Specs} (hS:Zu prog S):Zu prog (S.with nEq6 x2a):=by
 refine z0v hS (by kernel_rfl) fun args v h=> ?_;unfold x2a at h;split at h
 ·rename_i a0 a1;split at h
  ·rename_i L0 g0 n0 L1 g1 n1 e0 e1;simp only [Ae,Ad,Ac] at h;obtain ⟨rfl,ho0,ho1,hw⟩:=h;obtain ⟨N,hN⟩:=j7p L0 L1 hw;exact ⟨_,_,(.cons (Yh e0 ho0) (.cons (Yh e1 ho1) .nil)),rfl,u4w L0 L1 N _ hN,3,rfl⟩
  ·cases h
 ·cases h
def T1 :Specs:=((((((((((((noSpecs.with v6g fSrt).with u9x fCan).with u9p x2c).with u9o x2b).with u9n x2a).with nHas4 j7g).with nAt fAt).with u9v v7x).with nFst fFst).with nEq2 x2c).with nEq4 x2b).with nEq6 x2a)
theorem z4i :Zu prog T1:=v0x (v0y (v0z (j7h (v7w (fAt_ok (u4s (v7p (v7q (v7r (j7m (j6f Zm)))))))))))
inductive rxsS where
 | h0 (v5:List Int) (v6:Int)
 | h1 (v5:List Int) (v7:Int)
def rxsC (l0:List R4) (l1:List R4):rxsS→Cfg
 | .h0 v5 v6=>⟨⟨48,0,true⟩,none,(Zc prog 127 [1,1,0,1,0,0] 0),none,(Zy prog 6),⟨Ya [(0,(.dat l0.length (Zz l0))),(1,(.dat l1.length (Zz l1))),(5,(.sla 0 1 0 v5.length (.un 1))),(6,(ii v6))],Vd [⟨Yq v5.length (Zz v5),3,some ⟨1,v5.length,(Zz v5)⟩⟩] 0,1,[],true⟩,[],.leaf⟩
 | .h1 v5 v7=>⟨⟨48,0,true⟩,none,(Zc prog 127 [1,1,1,0,1,0,0] 0),none,(Zy prog 6),⟨Ya [(1,(.dat l1.length (Zz l1))),(5,(.sla 0 1 0 v5.length (.un 1))),(7,(ii v7))],Vd [⟨Yq v5.length (Zz v5),3,some ⟨1,v5.length,(Zz v5)⟩⟩] 0,1,[],true⟩,[],.leaf⟩
def rxsN0 :List (Option (List Nat)):=[some [0,1,5,6]]
def rxsM0 :List (Option (List Nat)):=[]
def rxsN1 :List (Option (List Nat)):=[some [1,5,7]]
def rxsM1 :List (Option (List Nat)):=[]
def z3o (l0:List R4) (l1:List R4):rxsS→Xu rxsS
 | .h0 v5 v6=>(bif (decide (v6<(l0.length:Int))) then (bif ((decide (0≤v6∧v6<(l0.length:Int)))&&true) then (bif (Nat.beq 1 1&&((decide (0+v5.length=v5.length))&&decide ((v5.length+2+1)*(8+1)≤Jh))) then (.to (.h0 (v5++[(rd l0 v6.toNat).a,(rd l0 v6.toNat).c]) (wrap .i64 (v6+1)))) else .stuck) else .stuck) else (.to (.h1 v5 0)))
 | .h1 v5 v7=>(bif (decide (v7<(l1.length:Int))) then (bif ((decide (0≤v7∧v7<(l1.length:Int)))&&true) then (bif (Nat.beq 1 1&&((decide (0+v5.length=v5.length))&&decide ((v5.length+2+1)*(8+1)≤Jh))) then (.to (.h1 (v5++[(rd l1 v7.toNat).a,(rd l1 v7.toNat).c]) (wrap .i64 (v7+1)))) else .stuck) else .stuck) else (bif (Je (cvT v5)) then (.ret [(.dat (z1w (cvT v5)).length (Zz (z1w (cvT v5))))]) else .stuck))
def y4k (l0:List R4) (l1:List R4):Xu rxsS:=(.to (.h0 ([]:List Int) 0))
theorem w8u (l0:List R4) (l1:List R4): ∀s,Xq prog (Zy prog 127) (rxsC l0 l1) (rxsC l0 l1 s) (z3o l0 l1 s)
 | .h0 v5 v6=>(lb (fun k0=>(lo fun o0=>(lo fun o1=>(sl z4i 20 [] ⟨[2],[],rxsN0,rxsM0⟩ ⟨[(5,.len (v5++[(rd l0 (tn v6)).a,(rd l0 (tn v6)).c]).length)],[.rowed 1 (v5++[(rd l0 (tn v6)).a,(rd l0 (tn v6)).c]).length (Zz (v5++[(rd l0 (tn v6)).a,(rd l0 (tn v6)).c]))],[]⟩ [true] (pp (xL (v5.length+2) (v5++[(rd l0 (tn v6)).a,(rd l0 (tn v6)).c]).length) (pp (xL (v5.length+2) (v5++[(rd l0 (tn v6)).a,(rd l0 (tn v6)).c]).length) (pp (xS (v5.length+2) (Zr (Zz v5) 0 v5.length 1 [(ii (rd l0 (tn v6)).a),(ii (rd l0 (tn v6)).c)]) (Zz (v5++[(rd l0 (tn v6)).a,(rd l0 (tn v6)).c]))) (pp (pp (xF (Zr (Zz v5) 0 v5.length 1 [(ii (rd l0 (tn v6)).a),(ii (rd l0 (tn v6)).c)])) nn) (ww o1 (ww o0 (ww o0 (tt k0 nn)))))))))))) (fun k0=>(sl z4i 17 [] ⟨[0],[],rxsN1,rxsM1⟩ ⟨[],[],[]⟩ [false] (pp (fl v5 nn) (tt k0 nn)))))
 | .h1 v5 v7=>(lb (fun k0=>(lo fun o0=>(lo fun o1=>(sl z4i 20 [] ⟨[2],[],rxsN1,rxsM1⟩ ⟨[(5,.len (v5++[(rd l1 (tn v7)).a,(rd l1 (tn v7)).c]).length)],[.rowed 1 (v5++[(rd l1 (tn v7)).a,(rd l1 (tn v7)).c]).length (Zz (v5++[(rd l1 (tn v7)).a,(rd l1 (tn v7)).c]))],[]⟩ [true] (pp (xL (v5.length+2) (v5++[(rd l1 (tn v7)).a,(rd l1 (tn v7)).c]).length) (pp (xL (v5.length+2) (v5++[(rd l1 (tn v7)).a,(rd l1 (tn v7)).c]).length) (pp (xS (v5.length+2) (Zr (Zz v5) 0 v5.length 1 [(ii (rd l1 (tn v7)).a),(ii (rd l1 (tn v7)).c)]) (Zz (v5++[(rd l1 (tn v7)).a,(rd l1 (tn v7)).c]))) (pp (pp (xF (Zr (Zz v5) 0 v5.length 1 [(ii (rd l1 (tn v7)).a),(ii (rd l1 (tn v7)).c)])) nn) (ww o1 (ww o0 (ww o0 (tt k0 nn)))))))))))) (fun k0=>(Ve (sl z4i (C':=⟨⟨48,0,true⟩,(Up prog 127 [1,1,1,1,0] 1),(Zc prog 127 [1,1,1,1,0] 1),none,(Zy prog 6),⟨Ya [(46,(.dat v5.length (Zz v5)))],Vd [] 0,0,[],true⟩,[],.leaf⟩) 13 [] ⟨[],[0],[some [46]],[]⟩ ⟨[(46,.frz v5.length v5.length (Zz v5) (Zz v5))],[],[]⟩ [false] (pp (xZ (z5q 1 1 0 v5.length v5.length (Zz v5)) v5.length (Zz v5)) (pp (xL v5.length v5.length) (pp (xS v5.length (Zz v5) (Zz v5)) (pp (fl v5 nn) (tt k0 nn)))))) (lo fun o0=>(lr 48 3 [1,1,1,1,0] 1 6 [(4,(.dat (z1w (cvT v5)).length (Zz (z1w (cvT v5)))))] (sl z4i 3 [] ⟨[],[],[some [4]],[]⟩ ⟨[],[],[]⟩ [] (pp (pp (xr v5) (xw o0)) nn)))))))
theorem x9u (l0:List R4) (l1:List R4):Xq prog (Zy prog 127) (rxsC l0 l1) (Zb prog 127 [(.dat l0.length (Zz l0)),(.dat l1.length (Zz l1))] true []) (y4k l0 l1):=(sl z4i 15 [(3,1,Zz ([]:List Int))] ⟨[0],[],rxsN0,rxsM0⟩ ⟨[(5,.grow 0 1)],[],[]⟩ [] (pp (fl ([]:List Int) nn) nn))
theorem u1i (l0:List R4) (l1:List R4) (n:Nat) (vs:List AVal) (h:Yy (z3o l0 l1) n (y4k l0 l1)=.ret vs):Jx prog (Zy prog 127) (Zb prog 127 [(.dat l0.length (Zz l0)),(.dat l1.length (Zz l1))] true []) vs:=by have:=Zd (w8u l0 l1) n _ (x9u l0 l1);rwa [h] at this
inductive rysS where
 | h0 (v5:List Int) (v6:Int)
 | h1 (v5:List Int) (v7:Int)
def rysC (l0:List R4) (l1:List R4):rysS→Cfg
 | .h0 v5 v6=>⟨⟨48,0,true⟩,none,(Zc prog 128 [1,1,0,1,0,0] 0),none,(Zy prog 6),⟨Ya [(0,(.dat l0.length (Zz l0))),(1,(.dat l1.length (Zz l1))),(5,(.sla 0 1 0 v5.length (.un 1))),(6,(ii v6))],Vd [⟨Yq v5.length (Zz v5),3,some ⟨1,v5.length,(Zz v5)⟩⟩] 0,1,[],true⟩,[],.leaf⟩
 | .h1 v5 v7=>⟨⟨48,0,true⟩,none,(Zc prog 128 [1,1,1,0,1,0,0] 0),none,(Zy prog 6),⟨Ya [(1,(.dat l1.length (Zz l1))),(5,(.sla 0 1 0 v5.length (.un 1))),(7,(ii v7))],Vd [⟨Yq v5.length (Zz v5),3,some ⟨1,v5.length,(Zz v5)⟩⟩] 0,1,[],true⟩,[],.leaf⟩
def rysN0 :List (Option (List Nat)):=[some [0,1,5,6]]
def rysM0 :List (Option (List Nat)):=[]
def rysN1 :List (Option (List Nat)):=[some [1,5,7]]
def rysM1 :List (Option (List Nat)):=[]
def z3n (l0:List R4) (l1:List R4):rysS→Xu rysS
 | .h0 v5 v6=>(bif (decide (v6<(l0.length:Int))) then (bif ((decide (0≤v6∧v6<(l0.length:Int)))&&true) then (bif (Nat.beq 1 1&&((decide (0+v5.length=v5.length))&&decide ((v5.length+2+1)*(8+1)≤Jh))) then (.to (.h0 (v5++[(rd l0 v6.toNat).b,(rd l0 v6.toNat).d]) (wrap .i64 (v6+1)))) else .stuck) else .stuck) else (.to (.h1 v5 0)))
 | .h1 v5 v7=>(bif (decide (v7<(l1.length:Int))) then (bif ((decide (0≤v7∧v7<(l1.length:Int)))&&true) then (bif (Nat.beq 1 1&&((decide (0+v5.length=v5.length))&&decide ((v5.length+2+1)*(8+1)≤Jh))) then (.to (.h1 (v5++[(rd l1 v7.toNat).b,(rd l1 v7.toNat).d]) (wrap .i64 (v7+1)))) else .stuck) else .stuck) else (bif (Je (cvT v5)) then (.ret [(.dat (z1w (cvT v5)).length (Zz (z1w (cvT v5))))]) else .stuck))
def y4j (l0:List R4) (l1:List R4):Xu rysS:=(.to (.h0 ([]:List Int) 0))
theorem w8t (l0:List R4) (l1:List R4): ∀s,Xq prog (Zy prog 128) (rysC l0 l1) (rysC l0 l1 s) (z3n l0 l1 s)
 | .h0 v5 v6=>(lb (fun k0=>(lo fun o0=>(lo fun o1=>(sl z4i 20 [] ⟨[2],[],rysN0,rysM0⟩ ⟨[(5,.len (v5++[(rd l0 (tn v6)).b,(rd l0 (tn v6)).d]).length)],[.rowed 1 (v5++[(rd l0 (tn v6)).b,(rd l0 (tn v6)).d]).length (Zz (v5++[(rd l0 (tn v6)).b,(rd l0 (tn v6)).d]))],[]⟩ [true] (pp (xL (v5.length+2) (v5++[(rd l0 (tn v6)).b,(rd l0 (tn v6)).d]).length) (pp (xL (v5.length+2) (v5++[(rd l0 (tn v6)).b,(rd l0 (tn v6)).d]).length) (pp (xS (v5.length+2) (Zr (Zz v5) 0 v5.length 1 [(ii (rd l0 (tn v6)).b),(ii (rd l0 (tn v6)).d)]) (Zz (v5++[(rd l0 (tn v6)).b,(rd l0 (tn v6)).d]))) (pp (pp (xF (Zr (Zz v5) 0 v5.length 1 [(ii (rd l0 (tn v6)).b),(ii (rd l0 (tn v6)).d)])) nn) (ww o1 (ww o0 (ww o0 (tt k0 nn)))))))))))) (fun k0=>(sl z4i 17 [] ⟨[0],[],rysN1,rysM1⟩ ⟨[],[],[]⟩ [false] (pp (fl v5 nn) (tt k0 nn)))))
 | .h1 v5 v7=>(lb (fun k0=>(lo fun o0=>(lo fun o1=>(sl z4i 20 [] ⟨[2],[],rysN1,rysM1⟩ ⟨[(5,.len (v5++[(rd l1 (tn v7)).b,(rd l1 (tn v7)).d]).length)],[.rowed 1 (v5++[(rd l1 (tn v7)).b,(rd l1 (tn v7)).d]).length (Zz (v5++[(rd l1 (tn v7)).b,(rd l1 (tn v7)).d]))],[]⟩ [true] (pp (xL (v5.length+2) (v5++[(rd l1 (tn v7)).b,(rd l1 (tn v7)).d]).length) (pp (xL (v5.length+2) (v5++[(rd l1 (tn v7)).b,(rd l1 (tn v7)).d]).length) (pp (xS (v5.length+2) (Zr (Zz v5) 0 v5.length 1 [(ii (rd l1 (tn v7)).b),(ii (rd l1 (tn v7)).d)]) (Zz (v5++[(rd l1 (tn v7)).b,(rd l1 (tn v7)).d]))) (pp (pp (xF (Zr (Zz v5) 0 v5.length 1 [(ii (rd l1 (tn v7)).b),(ii (rd l1 (tn v7)).d)])) nn) (ww o1 (ww o0 (ww o0 (tt k0 nn)))))))))))) (fun k0=>(Ve (sl z4i (C':=⟨⟨48,0,true⟩,(Up prog 128 [1,1,1,1,0] 1),(Zc prog 128 [1,1,1,1,0] 1),none,(Zy prog 6),⟨Ya [(46,(.dat v5.length (Zz v5)))],Vd [] 0,0,[],true⟩,[],.leaf⟩) 13 [] ⟨[],[0],[some [46]],[]⟩ ⟨[(46,.frz v5.length v5.length (Zz v5) (Zz v5))],[],[]⟩ [false] (pp (xZ (z5q 1 1 0 v5.length v5.length (Zz v5)) v5.length (Zz v5)) (pp (xL v5.length v5.length) (pp (xS v5.length (Zz v5) (Zz v5)) (pp (fl v5 nn) (tt k0 nn)))))) (lo fun o0=>(lr 48 3 [1,1,1,1,0] 1 6 [(4,(.dat (z1w (cvT v5)).length (Zz (z1w (cvT v5)))))] (sl z4i 3 [] ⟨[],[],[some [4]],[]⟩ ⟨[],[],[]⟩ [] (pp (pp (xr v5) (xw o0)) nn)))))))
theorem x9t (l0:List R4) (l1:List R4):Xq prog (Zy prog 128) (rysC l0 l1) (Zb prog 128 [(.dat l0.length (Zz l0)),(.dat l1.length (Zz l1))] true []) (y4j l0 l1):=(sl z4i 15 [(3,1,Zz ([]:List Int))] ⟨[0],[],rysN0,rysM0⟩ ⟨[(5,.grow 0 1)],[],[]⟩ [] (pp (fl ([]:List Int) nn) nn))
theorem u1h (l0:List R4) (l1:List R4) (n:Nat) (vs:List AVal) (h:Yy (z3n l0 l1) n (y4j l0 l1)=.ret vs):Jx prog (Zy prog 128) (Zb prog 128 [(.dat l0.length (Zz l0)),(.dat l1.length (Zz l1))] true []) vs:=by have:=Zd (w8t l0 l1) n _ (x9t l0 l1);rwa [h] at this
inductive rcutS where
 | h0 (v5:List Int) (v6:Int)
 | h1 (v5:List Int) (v7:Int)
def j4o (l0:List R6) (l1:List R6):rcutS→Cfg
 | .h0 v5 v6=>⟨⟨52,0,true⟩,none,(Zc prog 107 [1,1,0,1,0,0] 0),none,(Zy prog 6),⟨Ya [(0,(.dat l0.length (Zz l0))),(1,(.dat l1.length (Zz l1))),(5,(.sla 0 1 0 v5.length (.un 1))),(6,(ii v6))],Vd [⟨Yq v5.length (Zz v5),3,some ⟨1,v5.length,(Zz v5)⟩⟩] 0,1,[],true⟩,[],.leaf⟩
 | .h1 v5 v7=>⟨⟨52,0,true⟩,none,(Zc prog 107 [1,1,1,0,1,0,0] 0),none,(Zy prog 6),⟨Ya [(1,(.dat l1.length (Zz l1))),(5,(.sla 0 1 0 v5.length (.un 1))),(7,(ii v7))],Vd [⟨Yq v5.length (Zz v5),3,some ⟨1,v5.length,(Zz v5)⟩⟩] 0,1,[],true⟩,[],.leaf⟩
def u9b :List (Option (List Nat)):=[some [0,1,5,6]]
def u9d :List (Option (List Nat)):=[]
def u9a :List (Option (List Nat)):=[some [1,5,7]]
def u9c :List (Option (List Nat)):=[]
def z0k (l0:List R6) (l1:List R6):rcutS→Xu rcutS
 | .h0 v5 v6=>(bif (decide (v6<(l0.length:Int))) then (bif ((decide (0≤v6∧v6<(l0.length:Int)))&&true) then (bif (Nat.beq 1 1&&((decide (0+v5.length=v5.length))&&decide ((v5.length+2+1)*(8+1)≤Jh))) then (.to (.h0 (v5++[(rd l0 v6.toNat).c,(rd l0 v6.toNat).f]) (wrap .i64 (v6+1)))) else .stuck) else .stuck) else (.to (.h1 v5 0)))
 | .h1 v5 v7=>(bif (decide (v7<(l1.length:Int))) then (bif ((decide (0≤v7∧v7<(l1.length:Int)))&&true) then (bif (Nat.beq 1 1&&((decide (0+v5.length=v5.length))&&decide ((v5.length+2+1)*(8+1)≤Jh))) then (.to (.h1 (v5++[(rd l1 v7.toNat).c,(rd l1 v7.toNat).f]) (wrap .i64 (v7+1)))) else .stuck) else .stuck) else (bif (Je (cvT v5)) then (.ret [(.dat (z1w (cvT v5)).length (Zz (z1w (cvT v5))))]) else .stuck))
def z9j (l0:List R6) (l1:List R6):Xu rcutS:=(.to (.h0 ([]:List Int) 0))
theorem w1h (l0:List R6) (l1:List R6): ∀s,Xq prog (Zy prog 107) (j4o l0 l1) (j4o l0 l1 s) (z0k l0 l1 s)
 | .h0 v5 v6=>(lb (fun k0=>(lo fun o0=>(lo fun o1=>(sl z4i 20 [] ⟨[2],[],u9b,u9d⟩ ⟨[(5,.len (v5++[(rd l0 (tn v6)).c,(rd l0 (tn v6)).f]).length)],[.rowed 1 (v5++[(rd l0 (tn v6)).c,(rd l0 (tn v6)).f]).length (Zz (v5++[(rd l0 (tn v6)).c,(rd l0 (tn v6)).f]))],[]⟩ [true] (pp (xL (v5.length+2) (v5++[(rd l0 (tn v6)).c,(rd l0 (tn v6)).f]).length) (pp (xL (v5.length+2) (v5++[(rd l0 (tn v6)).c,(rd l0 (tn v6)).f]).length) (pp (xS (v5.length+2) (Zr (Zz v5) 0 v5.length 1 [(ii (rd l0 (tn v6)).c),(ii (rd l0 (tn v6)).f)]) (Zz (v5++[(rd l0 (tn v6)).c,(rd l0 (tn v6)).f]))) (pp (pp (xF (Zr (Zz v5) 0 v5.length 1 [(ii (rd l0 (tn v6)).c),(ii (rd l0 (tn v6)).f)])) nn) (ww o1 (ww o0 (ww o0 (tt k0 nn)))))))))))) (fun k0=>(sl z4i 17 [] ⟨[0],[],u9a,u9c⟩ ⟨[],[],[]⟩ [false] (pp (fl v5 nn) (tt k0 nn)))))
 | .h1 v5 v7=>(lb (fun k0=>(lo fun o0=>(lo fun o1=>(sl z4i 20 [] ⟨[2],[],u9a,u9c⟩ ⟨[(5,.len (v5++[(rd l1 (tn v7)).c,(rd l1 (tn v7)).f]).length)],[.rowed 1 (v5++[(rd l1 (tn v7)).c,(rd l1 (tn v7)).f]).length (Zz (v5++[(rd l1 (tn v7)).c,(rd l1 (tn v7)).f]))],[]⟩ [true] (pp (xL (v5.length+2) (v5++[(rd l1 (tn v7)).c,(rd l1 (tn v7)).f]).length) (pp (xL (v5.length+2) (v5++[(rd l1 (tn v7)).c,(rd l1 (tn v7)).f]).length) (pp (xS (v5.length+2) (Zr (Zz v5) 0 v5.length 1 [(ii (rd l1 (tn v7)).c),(ii (rd l1 (tn v7)).f)]) (Zz (v5++[(rd l1 (tn v7)).c,(rd l1 (tn v7)).f]))) (pp (pp (xF (Zr (Zz v5) 0 v5.length 1 [(ii (rd l1 (tn v7)).c),(ii (rd l1 (tn v7)).f)])) nn) (ww o1 (ww o0 (ww o0 (tt k0 nn)))))))))))) (fun k0=>(Ve (sl z4i (C':=⟨⟨52,0,true⟩,(Up prog 107 [1,1,1,1,0] 1),(Zc prog 107 [1,1,1,1,0] 1),none,(Zy prog 6),⟨Ya [(50,(.dat v5.length (Zz v5)))],Vd [] 0,0,[],true⟩,[],.leaf⟩) 13 [] ⟨[],[0],[some [50]],[]⟩ ⟨[(50,.frz v5.length v5.length (Zz v5) (Zz v5))],[],[]⟩ [false] (pp (xZ (z5q 1 1 0 v5.length v5.length (Zz v5)) v5.length (Zz v5)) (pp (xL v5.length v5.length) (pp (xS v5.length (Zz v5) (Zz v5)) (pp (fl v5 nn) (tt k0 nn)))))) (lo fun o0=>(lr 52 3 [1,1,1,1,0] 1 6 [(4,(.dat (z1w (cvT v5)).length (Zz (z1w (cvT v5)))))] (sl z4i 3 [] ⟨[],[],[some [4]],[]⟩ ⟨[],[],[]⟩ [] (pp (pp (xr v5) (xw o0)) nn)))))))
theorem x6g (l0:List R6) (l1:List R6):Xq prog (Zy prog 107) (j4o l0 l1) (Zb prog 107 [(.dat l0.length (Zz l0)),(.dat l1.length (Zz l1))] true []) (z9j l0 l1):=(sl z4i 15 [(3,1,Zz ([]:List Int))] ⟨[0],[],u9b,u9d⟩ ⟨[(5,.grow 0 1)],[],[]⟩ [] (pp (fl ([]:List Int) nn) nn))
theorem v5n (l0:List R6) (l1:List R6) (n:Nat) (vs:List AVal) (h:Yy (z0k l0 l1) n (z9j l0 l1)=.ret vs):Jx prog (Zy prog 107) (Zb prog 107 [(.dat l0.length (Zz l0)),(.dat l1.length (Zz l1))] true []) vs:=by have:=Zd (w1h l0 l1) n _ (x6g l0 l1);rwa [h] at this
def z3j (l:List R4):List Int:=l.flatMap fun r=>[r.a,r.c]
def z1o (l:List R4):List Int:=l.flatMap fun r=>[r.b,r.d]
def z3i (l:List R6):List Int:=l.flatMap fun r=>[r.c,r.f]
def xsV (l m:List R4):List Int:=z1w (z3j l++z3j m)
def y3s (l m:List R4):Bool:=decide (l.length≤10000∧m.length≤10000)
theorem z1u (l:List R4):(z3j l).length =2*l.length:=by
 induction l with
 | nil=>rfl
 | cons r l ih=>show (_::_::z3j l).length =_;simp only [AU,ih];omega
theorem y9r (l:List R4) (i:Nat) (h:i<l.length):z3j (l.drop i)=z3j [rd l i]++z3j (l.drop (i+1)):=by rw [Yg h];rfl
theorem u7m (l m:List R4) (hl:l.length≤10000) (hm:m.length≤10000): ∀(k i:Nat) (out:List Int),i+k=m.length→out.length=2*l.length+2*i→ ∃N,Yy (z3o l m) N (.to (.h1 out (i:Int)))=.ret [.dat (z1w (out++z3j (m.drop i))).length (Zz (z1w (out++z3j (m.drop i))))]
 | 0,i,out,h,ho=>by refine ⟨1,?_⟩;have hw:Je out=true:=Ai (by omega);rw [Zv,Au (show m.length≤i by omega),show z3j []=[] from rfl,Az];simp (disch:=omega) only [z3o,Xc,Yt,Zi,Zt,Xo,Yu,Yb,Yp,Zf,Zk,Zh,z1k,z1l,Av,Zx,Yz,Zn,Yc,Zj,Ag,Ah,Aj,Ab,Aa,AE,AG,Zp,Zg,Zq,Uu,Xa,hw]
 | k+1,i,out,h,ho=>by obtain ⟨N,hN⟩:=u7m l m hl hm k (i+1) (out++z3j [rd m i]) (by omega) (by rw [Aw,z1u];simp;omega);refine ⟨N+1,?_⟩;rw [y9r m i (by omega),←AL,Zv];simp (disch:=omega) only [z3o,Xc,Yt,Zi,Zt,Xo,Yu,Yb,Yp,Zf,Zk,Zh,z1k,z1l,Av,Zx,Yz,Zn,Yc,Zj,Ag,Ah,Aj,Ab,Aa,AE,AG,Zp,Zg,Zq,Uu,Xa];exact hN
theorem u7n (l m:List R4) (hl:l.length≤10000) (hm:m.length≤10000): ∀(k i:Nat) (out:List Int),i+k=l.length→out.length=2*i→ ∃N,Yy (z3o l m) N (.to (.h0 out (i:Int)))=.ret [.dat (z1w (out++z3j (l.drop i)++z3j m)).length (Zz (z1w (out++z3j (l.drop i)++z3j m)))]
 | 0,i,out,h,ho=>by obtain ⟨N,hN⟩:=u7m l m hl hm m.length 0 out (Ag _) (by omega);refine ⟨N+1,?_⟩;rw [Zv,Au (show l.length≤i by omega),show z3j []=[] from rfl,Az];simp (disch:=omega) only [z3o,Xc,Yt,Zi,Zt,Xo,Yu,Yb,Yp,Zf,Zk,Zh,z1k,z1l,Av,Zx,Yz,Zn,Yc,Zj,Ag,Ah,Aj,Ab,Aa,AE,AG,Zp,Zg,Zq,Uu,Xa];exact hN
 | k+1,i,out,h,ho=>by obtain ⟨N,hN⟩:=u7n l m hl hm k (i+1) (out++z3j [rd l i]) (by omega) (by rw [Aw,z1u];simp;omega);refine ⟨N+1,?_⟩;rw [y9r l i (by omega),←AL,Zv];simp (disch:=omega) only [z3o,Xc,Yt,Zi,Zt,Xo,Yu,Yb,Yp,Zf,Zk,Zh,z1k,z1l,Av,Zx,Yz,Zn,Yc,Zj,Ag,Ah,Aj,Ab,Aa,AE,AG,Zp,Zg,Zq,Uu,Xa];exact hN
theorem j2z (l m:List R4) (h:y3s l m=true): ∃N,Yy (z3o l m) N (y4k l m)=.ret [.dat (xsV l m).length (Zz (xsV l m))]:=by
 obtain ⟨h1,h2⟩:=AA h;have:=u7n l m h1 h2 l.length 0 [] (Ag _) rfl
 simpa [y4k,xsV] using this
def ysV (l m:List R4):List Int:=z1w (z1o l++z1o m)
def y3r (l m:List R4):Bool:=decide (l.length≤10000∧m.length≤10000)
theorem z1t (l:List R4):(z1o l).length =2*l.length:=by
 induction l with
 | nil=>rfl
 | cons r l ih=>show (_::_::z1o l).length =_;simp only [AU,ih];omega
theorem y9q (l:List R4) (i:Nat) (h:i<l.length):z1o (l.drop i)=z1o [rd l i]++z1o (l.drop (i+1)):=by rw [Yg h];rfl
theorem u7k (l m:List R4) (hl:l.length≤10000) (hm:m.length≤10000): ∀(k i:Nat) (out:List Int),i+k=m.length→out.length=2*l.length+2*i→ ∃N,Yy (z3n l m) N (.to (.h1 out (i:Int)))=.ret [.dat (z1w (out++z1o (m.drop i))).length (Zz (z1w (out++z1o (m.drop i))))]
 | 0,i,out,h,ho=>by refine ⟨1,?_⟩;have hw:Je out=true:=Ai (by omega);rw [Zv,Au (show m.length≤i by omega),show z1o []=[] from rfl,Az];simp (disch:=omega) only [z3n,Xc,Yt,Zi,Zt,Xo,Yu,Yb,Yp,Zf,Zk,Zh,z1k,z1l,Av,Zx,Yz,Zn,Yc,Zj,Ag,Ah,Aj,Ab,Aa,AE,AG,Zp,Zg,Zq,Uu,Xa,hw]
 | k+1,i,out,h,ho=>by obtain ⟨N,hN⟩:=u7k l m hl hm k (i+1) (out++z1o [rd m i]) (by omega) (by rw [Aw,z1t];simp;omega);refine ⟨N+1,?_⟩;rw [y9q m i (by omega),←AL,Zv];simp (disch:=omega) only [z3n,Xc,Yt,Zi,Zt,Xo,Yu,Yb,Yp,Zf,Zk,Zh,z1k,z1l,Av,Zx,Yz,Zn,Yc,Zj,Ag,Ah,Aj,Ab,Aa,AE,AG,Zp,Zg,Zq,Uu,Xa];exact hN
theorem u7l (l m:List R4) (hl:l.length≤10000) (hm:m.length≤10000): ∀(k i:Nat) (out:List Int),i+k=l.length→out.length=2*i→ ∃N,Yy (z3n l m) N (.to (.h0 out (i:Int)))=.ret [.dat (z1w (out++z1o (l.drop i)++z1o m)).length (Zz (z1w (out++z1o (l.drop i)++z1o m)))]
 | 0,i,out,h,ho=>by obtain ⟨N,hN⟩:=u7k l m hl hm m.length 0 out (Ag _) (by omega);refine ⟨N+1,?_⟩;rw [Zv,Au (show l.length≤i by omega),show z1o []=[] from rfl,Az];simp (disch:=omega) only [z3n,Xc,Yt,Zi,Zt,Xo,Yu,Yb,Yp,Zf,Zk,Zh,z1k,z1l,Av,Zx,Yz,Zn,Yc,Zj,Ag,Ah,Aj,Ab,Aa,AE,AG,Zp,Zg,Zq,Uu,Xa];exact hN
 | k+1,i,out,h,ho=>by obtain ⟨N,hN⟩:=u7l l m hl hm k (i+1) (out++z1o [rd l i]) (by omega) (by rw [Aw,z1t];simp;omega);refine ⟨N+1,?_⟩;rw [y9q l i (by omega),←AL,Zv];simp (disch:=omega) only [z3n,Xc,Yt,Zi,Zt,Xo,Yu,Yb,Yp,Zf,Zk,Zh,z1k,z1l,Av,Zx,Yz,Zn,Yc,Zj,Ag,Ah,Aj,Ab,Aa,AE,AG,Zp,Zg,Zq,Uu,Xa];exact hN
theorem j2y (l m:List R4) (h:y3r l m=true): ∃N,Yy (z3n l m) N (y4j l m)=.ret [.dat (ysV l m).length (Zz (ysV l m))]:=by
 obtain ⟨h1,h2⟩:=AA h;have:=u7l l m h1 h2 l.length 0 [] (Ag _) rfl
 simpa [y4j,ysV] using this
def Vu (l m:List R6):List Int:=z1w (z3i l++z3i m)
def y0i (l m:List R6):Bool:=decide (l.length≤40000∧m.length≤40000)
theorem z1s (l:List R6):(z3i l).length =2*l.length:=by
 induction l with
 | nil=>rfl
 | cons r l ih=>show (_::_::z3i l).length =_;simp only [AU,ih];omega
theorem y9o (l:List R6) (i:Nat) (h:i<l.length):z3i (l.drop i)=z3i [rd l i]++z3i (l.drop (i+1)):=by rw [Yg h];rfl
theorem v5l (l m:List R6) (hl:l.length≤40000) (hm:m.length≤40000): ∀(k i:Nat) (out:List Int),i+k=m.length→out.length=2*l.length+2*i→ ∃N,Yy (z0k l m) N (.to (.h1 out (i:Int)))=.ret [.dat (z1w (out++z3i (m.drop i))).length (Zz (z1w (out++z3i (m.drop i))))]
 | 0,i,out,h,ho=>by refine ⟨1,?_⟩;have hw:Je out=true:=Ai (by omega);rw [Zv,Au (show m.length≤i by omega),show z3i []=[] from rfl,Az];simp (disch:=omega) only [z0k,Xc,Yt,Zi,Zt,Xo,Yu,Yb,Yp,Zf,Zk,Zh,z1k,z1l,Av,Zx,Yz,Zn,Yc,Zj,Ag,Ah,Aj,Ab,Aa,AE,AG,Zp,Zg,Zq,Uu,Xa,hw]
 | k+1,i,out,h,ho=>by obtain ⟨N,hN⟩:=v5l l m hl hm k (i+1) (out++z3i [rd m i]) (by omega) (by rw [Aw,z1s];simp;omega);refine ⟨N+1,?_⟩;rw [y9o m i (by omega),←AL,Zv];simp (disch:=omega) only [z0k,Xc,Yt,Zi,Zt,Xo,Yu,Yb,Yp,Zf,Zk,Zh,z1k,z1l,Av,Zx,Yz,Zn,Yc,Zj,Ag,Ah,Aj,Ab,Aa,AE,AG,Zp,Zg,Zq,Uu,Xa];exact hN
theorem v5m (l m:List R6) (hl:l.length≤40000) (hm:m.length≤40000): ∀(k i:Nat) (out:List Int),i+k=l.length→out.length=2*i→ ∃N,Yy (z0k l m) N (.to (.h0 out (i:Int)))=.ret [.dat (z1w (out++z3i (l.drop i)++z3i m)).length (Zz (z1w (out++z3i (l.drop i)++z3i m)))]
 | 0,i,out,h,ho=>by obtain ⟨N,hN⟩:=v5l l m hl hm m.length 0 out (Ag _) (by omega);refine ⟨N+1,?_⟩;rw [Zv,Au (show l.length≤i by omega),show z3i []=[] from rfl,Az];simp (disch:=omega) only [z0k,Xc,Yt,Zi,Zt,Xo,Yu,Yb,Yp,Zf,Zk,Zh,z1k,z1l,Av,Zx,Yz,Zn,Yc,Zj,Ag,Ah,Aj,Ab,Aa,AE,AG,Zp,Zg,Zq,Uu,Xa];exact hN
 | k+1,i,out,h,ho=>by obtain ⟨N,hN⟩:=v5m l m hl hm k (i+1) (out++z3i [rd l i]) (by omega) (by rw [Aw,z1s];simp;omega);refine ⟨N+1,?_⟩;rw [y9o l i (by omega),←AL,Zv];simp (disch:=omega) only [z0k,Xc,Yt,Zi,Zt,Xo,Yu,Yb,Yp,Zf,Zk,Zh,z1k,z1l,Av,Zx,Yz,Zn,Yc,Zj,Ag,Ah,Aj,Ab,Aa,AE,AG,Zp,Zg,Zq,Uu,Xa];exact hN
theorem u2w (l m:List R6) (h:y0i l m=true): ∃N,Yy (z0k l m) N (z9j l m)=.ret [.dat (Vu l m).length (Zz (Vu l m))]:=by
 obtain ⟨h1,h2⟩:=AA h;have:=v5m l m h1 h2 l.length 0 [] (Ag _) rfl
 simpa [z9j,Vu] using this
def fXs :List AVal→Option (AVal×Bool)
 | [a0,a1]=>match asL R4 a0,asL R4 a1 with
  | some (L0,g0,n0),some (L1,g1,n1)=>some (.dat (xsV L0 L1).length (Zz (xsV L0 L1)),isT R4 n0 g0&&(isT R4 n1 g1&&(y3s L0 L1)))
  | _,_=>none
 | _=>none
theorem fXs_ok {S:Specs} (hS:Zu prog S):Zu prog (S.with nXs fXs):=by
 refine z0v hS (by kernel_rfl) fun args v h=> ?_;unfold fXs at h;split at h
 ·rename_i a0 a1;split at h
  ·rename_i L0 g0 n0 L1 g1 n1 e0 e1;simp only [Ae,Ad,Ac] at h;obtain ⟨rfl,ho0,ho1,hw⟩:=h;obtain ⟨N,hN⟩:=j2z L0 L1 hw;exact ⟨_,_,(.cons (Yh e0 ho0) (.cons (Yh e1 ho1) .nil)),rfl,u1i L0 L1 N _ hN,3,rfl⟩
  ·cases h
 ·cases h
def fYs :List AVal→Option (AVal×Bool)
 | [a0,a1]=>match asL R4 a0,asL R4 a1 with
  | some (L0,g0,n0),some (L1,g1,n1)=>some (.dat (ysV L0 L1).length (Zz (ysV L0 L1)),isT R4 n0 g0&&(isT R4 n1 g1&&(y3r L0 L1)))
  | _,_=>none
 | _=>none
theorem fYs_ok {S:Specs} (hS:Zu prog S):Zu prog (S.with nYs fYs):=by
 refine z0v hS (by kernel_rfl) fun args v h=> ?_;unfold fYs at h;split at h
 ·rename_i a0 a1;split at h
  ·rename_i L0 g0 n0 L1 g1 n1 e0 e1;simp only [Ae,Ad,Ac] at h;obtain ⟨rfl,ho0,ho1,hw⟩:=h;obtain ⟨N,hN⟩:=j2y L0 L1 hw;exact ⟨_,_,(.cons (Yh e0 ho0) (.cons (Yh e1 ho1) .nil)),rfl,u1h L0 L1 N _ hN,3,rfl⟩
  ·cases h
 ·cases h
def j7j :List AVal→Option (AVal×Bool)
 | [a0,a1]=>match asL R6 a0,asL R6 a1 with
  | some (L0,g0,n0),some (L1,g1,n1)=>some (.dat (Vu L0 L1).length (Zz (Vu L0 L1)),isT R6 n0 g0&&(isT R6 n1 g1&&(y0i L0 L1)))
  | _,_=>none
 | _=>none
theorem u4t {S:Specs} (hS:Zu prog S):Zu prog (S.with nCuts j7j):=by
 refine z0v hS (by kernel_rfl) fun args v h=> ?_;unfold j7j at h;split at h
 ·rename_i a0 a1;split at h
  ·rename_i L0 g0 n0 L1 g1 n1 e0 e1;simp only [Ae,Ad,Ac] at h;obtain ⟨rfl,ho0,ho1,hw⟩:=h;obtain ⟨N,hN⟩:=u2w L0 L1 hw;exact ⟨_,_,(.cons (Yh e0 ho0) (.cons (Yh e1 ho1) .nil)),rfl,v5n L0 L1 N _ hN,3,rfl⟩
  ·cases h
 ·cases h
def T2 :Specs:=((T1.with nXs fXs).with nYs fYs).with nCuts j7j
theorem y2q :Zu prog T2:=u4t (fYs_ok (fXs_ok z4i))
inductive rjoS where
 | h0 (v9:List R4) (v10:List R2) (v11:Int) (v12:Int)
 | h1 (v9:List R4) (v10:List R2) (v11:Int) (v12:Int) (v13:List Bool) (v14:Int)
 | h2 (v9:List R4) (v10:List R2) (v11:Int) (v12:Int) (v15:List R2) (v17:Int)
 | h3 (v9:List R4) (v10:List R2) (v11:Int) (v12:Int) (v16:Int)
abbrev y2x (x0:Int) (l1:List R4) (l2:List R4) (v12:Int) (v14:Int):=(y3c x0 (has4V (cvT l1) (rd (xsV (cvT l1) (cvT l2)) (tn v12)) (rd (ysV (cvT l1) (cvT l2)) (tn v14))) (has4V (cvT l2) (rd (xsV (cvT l1) (cvT l2)) (tn v12)) (rd (ysV (cvT l1) (cvT l2)) (tn v14))))
abbrev x1a (v9:List R4) (v16:Int) (l1:List R4) (l2:List R4) (v12:Int):=(v9.set (0+(tn v16)) (R4.mk (rd v9 (0+(tn v16))).a (rd v9 (0+(tn v16))).b (rd (xsV (cvT l1) (cvT l2)) (tn (wr (v12+1)))) (rd v9 (0+(tn v16))).d))
abbrev x0z (v9:List R4) (l1:List R4) (l2:List R4) (v12:Int) (v15:List R2) (v17:Int):=(v9++[(R4.mk (rd (xsV (cvT l1) (cvT l2)) (tn v12)) (rd v15 (tn v17)).a (rd (xsV (cvT l1) (cvT l2)) (tn (wr (v12+1)))) (rd v15 (tn v17)).b)])
abbrev z0g (l1:List R4) (l2:List R4):=(ysV (cvT l1) (cvT l2))
def w5k (l1:List R4) (l2:List R4):AVal:=(.dat (xsV (cvT l1) (cvT l2)).length (Zz (xsV (cvT l1) (cvT l2))))
def w5j (l1:List R4) (l2:List R4):AVal:=(.dat (z0g l1 l2).length (Zz (z0g l1 l2)))
def rjoC (x0:Int) (l1:List R4) (l2:List R4):rjoS→Cfg
 | .h0 v9 v10 v11 v12=>⟨⟨121,0,true⟩,none,(Zc prog 89 [1,1,1,1,1,0,1,0,0] 0),none,(Zy prog 3),⟨Ya [(0,(ii x0)),(1,(.dat l1.length (Zz l1))),(2,(.dat l2.length (Zz l2))),(7,(w5k l1 l2)),(8,(w5j l1 l2)),(9,(.sla 0 4 0 v9.length (.un 4))),(10,(.dat v10.length (Zz v10))),(11,(ii v11)),(12,(ii v12))],Vd [⟨Yq v9.length (Zz v9),116,some ⟨4,v9.length,(Zz v9)⟩⟩] 0,1,[],true⟩,[],.leaf⟩
 | .h1 v9 v10 v11 v12 v13 v14=>⟨⟨121,0,true⟩,none,(Zc prog 89 [1,1,1,1,1,0,1,0,0,1,0,0,1,0,1,0,0] 0),none,(Zy prog 3),⟨Ya [(0,(ii x0)),(1,(.dat l1.length (Zz l1))),(2,(.dat l2.length (Zz l2))),(7,(w5k l1 l2)),(8,(w5j l1 l2)),(9,(.sla 1 4 0 v9.length (.un 4))),(10,(.dat v10.length (Zz v10))),(11,(ii v11)),(12,(ii v12)),(13,(.sla 0 1 0 v13.length (.un 1))),(14,(ii v14))],Vd [⟨Yq v13.length (Zz v13),4,some ⟨1,v13.length,(Zz v13)⟩⟩,⟨Yq v9.length (Zz v9),116,some ⟨4,v9.length,(Zz v9)⟩⟩] 0,2,[],true⟩,[],.leaf⟩
 | .h2 v9 v10 v11 v12 v15 v17=>⟨⟨121,0,true⟩,none,(Zc prog 89 [1,1,1,1,1,0,1,0,0,1,0,0,1,1,1,1,1,1,0,0] 0),none,(Zy prog 3),⟨Ya [(0,(ii x0)),(1,(.dat l1.length (Zz l1))),(2,(.dat l2.length (Zz l2))),(7,(w5k l1 l2)),(8,(w5j l1 l2)),(9,(.sla 0 4 0 v9.length (.un 4))),(10,(.dat v10.length (Zz v10))),(11,(ii v11)),(12,(ii v12)),(15,(.dat v15.length (Zz v15))),(17,(ii v17))],Vd [⟨Yq v9.length (Zz v9),116,some ⟨4,v9.length,(Zz v9)⟩⟩] 0,1,[],true⟩,[],.leaf⟩
 | .h3 v9 v10 v11 v12 v16=>⟨⟨121,0,true⟩,none,(Zc prog 89 [1,1,1,1,1,0,1,0,0,1,0,0,1,1,1,0,1,0,0,1,0,0] 0),none,(Zy prog 3),⟨Ya [(0,(ii x0)),(1,(.dat l1.length (Zz l1))),(2,(.dat l2.length (Zz l2))),(7,(w5k l1 l2)),(8,(w5j l1 l2)),(9,(.sla 0 4 0 v9.length (.un 4))),(10,(.dat v10.length (Zz v10))),(11,(ii v11)),(12,(ii v12)),(16,(ii v16))],Vd [⟨Yq v9.length (Zz v9),116,some ⟨4,v9.length,(Zz v9)⟩⟩] 0,1,[],true⟩,[],.leaf⟩
def j3z :List (Option (List Nat)):=[some [0,1,2,7,8,9,10,11,12]]
def j4b :List (Option (List Nat)):=[]
def rjoN1 :List (Option (List Nat)):=[some [0,1,2,7,8,9,10,11,12,13,14]]
def rjoM1 :List (Option (List Nat)):=[]
def j3y :List (Option (List Nat)):=[some [0,1,2,7,8,9,10,11,12,15,17]]
def j4a :List (Option (List Nat)):=[]
def rjoN3 :List (Option (List Nat)):=[some [0,1,2,7,8,9,10,11,12,16]]
def rjoM3 :List (Option (List Nat)):=[]
def Vg (x0:Int) (l1:List R4) (l2:List R4):rjoS→Xu rjoS
 | .h0 v9 v10 v11 v12=>(bif (decide ((wrap .i64 (v12+1))<(((xsV (cvT l1) (cvT l2)).length :Nat):Int))) then (.to (.h1 v9 v10 v11 v12 ([]:List Bool) 0)) else (.ret [(.dat v9.length (Zz v9))]))
 | .h1 v9 v10 v11 v12 v13 v14=>(bif (decide (v14<(((ysV (cvT l1) (cvT l2)).length :Nat):Int))) then (bif (z0u (cvT l1) (rd (xsV (cvT l1) (cvT l2)) v12.toNat) (rd (ysV (cvT l1) (cvT l2)) v14.toNat)) then (bif ((decide (0≤v12∧v12<(((xsV (cvT l1) (cvT l2)).length :Nat):Int)))&&true) then (bif ((decide (0≤v14∧v14<(((ysV (cvT l1) (cvT l2)).length :Nat):Int)))&&true) then (bif (z0u (cvT l2) (rd (xsV (cvT l1) (cvT l2)) v12.toNat) (rd (ysV (cvT l1) (cvT l2)) v14.toNat)) then (bif (Nat.beq 1 1&&((decide (0+v13.length=v13.length))&&decide ((v13.length+1+1)*(1+1)≤Jh))) then (.to (.h1 v9 v10 v11 v12 (v13++[(y3c x0 (has4V (cvT l1) (rd (xsV (cvT l1) (cvT l2)) v12.toNat) (rd (ysV (cvT l1) (cvT l2)) v14.toNat)) (has4V (cvT l2) (rd (xsV (cvT l1) (cvT l2)) v12.toNat) (rd (ysV (cvT l1) (cvT l2)) v14.toNat)))]) (wrap .i64 (v14+1)))) else .stuck) else .stuck) else .stuck) else .stuck) else .stuck) else (bif (y0m (cvT (ysV (cvT l1) (cvT l2))) (cvT v13)) then (bif (decide (v12>0)) then (bif (Vs (cvT (y3g (cvT (ysV (cvT l1) (cvT l2))) (cvT v13))) (cvT v10)) then (bif (Qu (cvT (y3g (cvT (ysV (cvT l1) (cvT l2))) (cvT v13))) (cvT v10)) then (.to (.h3 v9 v10 v11 v12 v11)) else (.to (.h2 v9 (y3g (cvT (ysV (cvT l1) (cvT l2))) (cvT v13)) (v9.length:Int) v12 (y3g (cvT (ysV (cvT l1) (cvT l2))) (cvT v13)) 0))) else .stuck) else (.to (.h2 v9 (y3g (cvT (ysV (cvT l1) (cvT l2))) (cvT v13)) (v9.length:Int) v12 (y3g (cvT (ysV (cvT l1) (cvT l2))) (cvT v13)) 0))) else .stuck))
 | .h2 v9 v10 v11 v12 v15 v17=>(bif (decide (v17<(v15.length:Int))) then (bif ((decide (0≤v12∧v12<(((xsV (cvT l1) (cvT l2)).length :Nat):Int)))&&true) then (bif ((decide (0≤(wrap .i64 (v12+1))∧(wrap .i64 (v12+1))<(((xsV (cvT l1) (cvT l2)).length :Nat):Int)))&&true) then (bif ((decide (0≤v17∧v17<(v15.length:Int)))&&true) then (bif (Nat.beq 4 4&&((decide (0+v9.length=v9.length))&&decide ((v9.length+1+1)*(32+1)≤Jh))) then (.to (.h2 (v9++[(R4.mk (rd (xsV (cvT l1) (cvT l2)) v12.toNat) (rd v15 v17.toNat).a (rd (xsV (cvT l1) (cvT l2)) (Int.toNat (wrap .i64 (v12+1)))) (rd v15 v17.toNat).b)]) v10 v11 v12 v15 (wrap .i64 (v17+1)))) else .stuck) else .stuck) else .stuck) else .stuck) else (.to (.h0 v9 v10 v11 (wrap .i64 (v12+1)))))
 | .h3 v9 v10 v11 v12 v16=>(bif (decide (v16<(v9.length:Int))) then (bif ((decide (0≤(wrap .i64 (v12+1))∧(wrap .i64 (v12+1))<(((xsV (cvT l1) (cvT l2)).length :Nat):Int)))&&true) then (bif ((decide (0≤v16∧v16<(v9.length:Int)))&&true) then (bif (decide ((0+v16.toNat)<v9.length)) then (.to (.h3 (v9.set (0+v16.toNat) (R4.mk (rd v9 (0+v16.toNat)).a (rd v9 (0+v16.toNat)).b (rd (xsV (cvT l1) (cvT l2)) (Int.toNat (wrap .i64 (v12+1)))) (rd v9 (0+v16.toNat)).d)) v10 v11 v12 (wrap .i64 (v16+1)))) else .stuck) else .stuck) else .stuck) else (.to (.h0 v9 v10 v11 (wrap .i64 (v12+1)))))
def y5a (x0:Int) (l1:List R4) (l2:List R4):Xu rjoS:=(bif (y3s (cvT l1) (cvT l2)) then (bif (y3r (cvT l1) (cvT l2)) then (.to (.h0 ([]:List R4) ([]:List R2) 0 0)) else .stuck) else .stuck)
theorem w9l (x0:Int) (l1:List R4) (l2:List R4): ∀s,Xq prog (Zy prog 89) (rjoC x0 l1 l2) (rjoC x0 l1 l2 s) (Vg x0 l1 l2 s)
 | .h0 v9 v10 v11 v12=>(lb (fun k0=>(sl y2q 24 [(4,1,Zz ([]:List Bool))] ⟨[1,0],[],rjoN1,rjoM1⟩ ⟨[(13,.grow 0 1)],[],[]⟩ [true] (pp (fl ([]:List Bool) (fl v9 nn)) (tt k0 nn)))) (fun k0=>(lr 121 3 [1,1,1,1,0] 1 3 [(6,(.dat v9.length (Zz v9)))] (sl y2q 16 [] ⟨[],[0],[some [6]],[]⟩ ⟨[(6,.frz v9.length v9.length (Zz v9) (Zz v9))],[],[]⟩ [false] (pp (xZ (z5q 4 4 0 v9.length v9.length (Zz v9)) v9.length (Zz v9)) (pp (xL v9.length v9.length) (pp (xS v9.length (Zz v9) (Zz v9)) (pp (fl v9 nn) (tt k0 nn)))))))))
 | .h1 v9 v10 v11 v12 v13 v14=>(lb (fun k0=>(lo fun o0=>(lo fun o1=>(lo fun o2=>(lo fun o3=>(lo fun o4=>(sl y2q 20 [] ⟨[3,1],[],rjoN1,rjoM1⟩ ⟨[(13,.len (v13++[(y2x x0 l1 l2 v12 v14)]).length)],[.rowed 1 (v13++[(y2x x0 l1 l2 v12 v14)]).length (Zz (v13++[(y2x x0 l1 l2 v12 v14)])),.keep],[]⟩ [true] (pp (xL (v13.length+1) (v13++[(y2x x0 l1 l2 v12 v14)]).length) (pp (xL (v13.length+1) (v13++[(y2x x0 l1 l2 v12 v14)]).length) (pp (xS (v13.length+1) (Zr (Zz v13) 0 v13.length 1 [(.bool (y2x x0 l1 l2 v12 v14))]) (Zz (v13++[(y2x x0 l1 l2 v12 v14)]))) (pp (pp (xF (Zr (Zz v13) 0 v13.length 1 [(.bool (y2x x0 l1 l2 v12 v14))])) (fl v9 nn)) (ww o4 (pp (pp (xr l2) (xw o3)) (ww o2 (ww o1 (pp (pp (xr l1) (xw o0)) (ww o2 (ww o1 (tt k0 nn))))))))))))))))))) (fun k0=>(Ve (sl y2q (C':=⟨⟨121,0,true⟩,(Up prog 89 [1,1,1,1,1,0,1,0,0,1,0,0,1,1,0] 2),(Zc prog 89 [1,1,1,1,1,0,1,0,0,1,0,0,1,1,0] 1),none,(Zy prog 3),⟨Ya [(0,(ii x0)),(1,(.dat l1.length (Zz l1))),(2,(.dat l2.length (Zz l2))),(7,(.dat (xsV (cvT l1) (cvT l2)).length (Zz (xsV (cvT l1) (cvT l2))))),(8,(.dat (z0g l1 l2).length (Zz (z0g l1 l2)))),(9,(.sla 0 4 0 v9.length (.un 4))),(10,(.dat v10.length (Zz v10))),(11,(ii v11)),(12,(ii v12)),(62,(.dat (z0g l1 l2).length (Zz (z0g l1 l2)))),(63,(.dat v13.length (Zz v13)))],Vd [⟨Yq v9.length (Zz v9),116,some ⟨4,v9.length,(Zz v9)⟩⟩] 0,1,[],true⟩,[],.leaf⟩) 14 [] ⟨[1],[0],[some [0,1,2,7,8,9,10,11,12,62,63]],[]⟩ ⟨[(63,.frz v13.length v13.length (Zz v13) (Zz v13))],[],[]⟩ [false] (pp (xZ (z5q 1 1 0 v13.length v13.length (Zz v13)) v13.length (Zz v13)) (pp (xL v13.length v13.length) (pp (xS v13.length (Zz v13) (Zz v13)) (pp (fl v9 nn) (pp (fl v13 nn) (tt k0 nn))))))) (lo fun aH=>(lb (fun k1=>(lo fun bL=>(lb (fun k2=>(sl y2q 23 [] ⟨[0],[],rjoN3,rjoM3⟩ ⟨[],[],[]⟩ (trs 4 []) (pp (fl v9 nn) (tt k2 (pp (pp (xI R2 (y3g (cvT (z0g l1 l2)) (cvT v13)).length (Zz (y3g (cvT (z0g l1 l2)) (cvT v13)))) (pp (xr v10) (xw bL))) (tt k1 (pp (pp (xI Int (z0g l1 l2).length (Zz (z0g l1 l2))) (pp (xr v13) (xw aH))) nn))))))) (fun k2=>(sl y2q 30 [] ⟨[0],[],j3y,j4a⟩ ⟨[],[],[]⟩ (trs 3 [false]) (pp (fl v9 nn) (tt k2 (pp (pp (xI R2 (y3g (cvT (z0g l1 l2)) (cvT v13)).length (Zz (y3g (cvT (z0g l1 l2)) (cvT v13)))) (pp (xr v10) (xw bL))) (tt k1 (pp (pp (xI Int (z0g l1 l2).length (Zz (z0g l1 l2))) (pp (xr v13) (xw aH))) nn)))))))))) (fun k1=>(sl y2q 30 [] ⟨[0],[],j3y,j4a⟩ ⟨[],[],[]⟩ (bl 4 0) (pp (fl v9 nn) (tt k1 (pp (pp (xI Int (z0g l1 l2).length (Zz (z0g l1 l2))) (pp (xr v13) (xw aH))) nn))))))))))
 | .h2 v9 v10 v11 v12 v15 v17=>(lb (fun k0=>(lo fun o0=>(lo fun o1=>(lo fun o2=>(lo fun o3=>(sl y2q 20 [] ⟨[2],[],j3y,j4a⟩ ⟨[(9,.len (x0z v9 l1 l2 v12 v15 v17).length)],[.rowed 4 (x0z v9 l1 l2 v12 v15 v17).length (Zz (x0z v9 l1 l2 v12 v15 v17))],[]⟩ [true] (pp (xL (v9.length+1) (x0z v9 l1 l2 v12 v15 v17).length) (pp (xL (v9.length+1) (x0z v9 l1 l2 v12 v15 v17).length) (pp (xS (v9.length+1) (Zr (Zz v9) 0 v9.length 4 [(ii (rd (xsV (cvT l1) (cvT l2)) (tn v12))),(ii (rd v15 (tn v17)).a),(ii (rd (xsV (cvT l1) (cvT l2)) (tn (wr (v12+1))))),(ii (rd v15 (tn v17)).b)]) (Zz (x0z v9 l1 l2 v12 v15 v17))) (pp (pp (xF (Zr (Zz v9) 0 v9.length 4 [(ii (rd (xsV (cvT l1) (cvT l2)) (tn v12))),(ii (rd v15 (tn v17)).a),(ii (rd (xsV (cvT l1) (cvT l2)) (tn (wr (v12+1))))),(ii (rd v15 (tn v17)).b)])) nn) (ww o3 (ww o2 (ww o1 (ww o2 (ww o0 (tt k0 nn)))))))))))))))) (fun k0=>(sl y2q 17 [] ⟨[0],[],j3z,j4b⟩ ⟨[],[],[]⟩ [false] (pp (fl v9 nn) (tt k0 nn)))))
 | .h3 v9 v10 v11 v12 v16=>(lb (fun k0=>(lo fun o0=>(lo fun o1=>(lo fun o2=>(sl y2q 31 [] ⟨[0],[],rjoN3,rjoM3⟩ ⟨[(9,.len (x1a v9 v16 l1 l2 v12).length)],[.rowed 4 (x1a v9 v16 l1 l2 v12).length (Zz (x1a v9 v16 l1 l2 v12))],[]⟩ [true] (pp (xL v9.length (x1a v9 v16 l1 l2 v12).length) (pp (xL v9.length (x1a v9 v16 l1 l2 v12).length) (pp (xS v9.length (Xr (Zz v9) (0+(tn v16)) 2 [(ii (rd (xsV (cvT l1) (cvT l2)) (tn (wr (v12+1)))))]) (Zz (x1a v9 v16 l1 l2 v12))) (pp (pp (xF (Xr (Zz v9) (0+(tn v16)) 2 [(ii (rd (xsV (cvT l1) (cvT l2)) (tn (wr (v12+1)))))])) nn) (ww o2 (ww o1 (ww o0 (tt k0 nn))))))))))))) (fun k0=>(sl y2q 17 [] ⟨[0],[],j3z,j4b⟩ ⟨[],[],[]⟩ [false] (pp (fl v9 nn) (tt k0 nn)))))
theorem w0o (x0:Int) (l1:List R4) (l2:List R4):Xq prog (Zy prog 89) (rjoC x0 l1 l2) (Zb prog 89 [(.int .i64 x0),(.dat l1.length (Zz l1)),(.dat l2.length (Zz l2))] true []) (y5a x0 l1 l2):=(lo fun o0=>(lo fun o1=>(sl y2q 34 [(116,4,Zz ([]:List R4))] ⟨[0],[],j3z,j4b⟩ ⟨[(9,.grow 0 4),(10,.list 0 (Zz ([]:List R2)))],[],[]⟩ [] (pp (fl ([]:List R4) nn) (pp (pp (xr l1) (pp (xr l2) (xw o1))) (pp (pp (xr l1) (pp (xr l2) (xw o0))) nn))))))
theorem u2c (x0:Int) (l1:List R4) (l2:List R4) (n:Nat) (vs:List AVal) (h:Yy (Vg x0 l1 l2) n (y5a x0 l1 l2)=.ret vs):Jx prog (Zy prog 89) (Zb prog 89 [(.int .i64 x0),(.dat l1.length (Zz l1)),(.dat l2.length (Zz l2))] true []) vs:=by have:=Zd (w9l x0 l1 l2) n _ (w0o x0 l1 l2);rwa [h] at this
theorem z3a : ∀(l out:List Int),(l.foldl y7t out).length ≤out.length+l.length
 | [],out=>Ar _
 | x::l,out=>AK (z3a l (y7t out x)) (by have:=y7s out x;simp;omega)
theorem z7j (l:List Int):(z1w l).length ≤l.length:=by
 have:=z3a l []
 simpa [z1w] using this
theorem y8j (cuts:List Int) (ins:List Bool): ∀(k i:Nat) (out:List R2),(v2e cuts ins k i out).length ≤out.length+k
 | 0,_,out=>Ar _
 | k+1,i,out=>by
  unfold v2e;refine AK (y8j cuts ins k (i+1) _) ?_;cases rd ins i
  ·simp only [Aa];omega
  ·simp only [Ab];cases (decide (0<out.length)&&((rd out (out.length - 1)).b == rd cuts i)) <;> simp <;> omega
theorem y8i (cuts:List Int) (ins:List Bool):(y3g cuts ins).length ≤cuts.length:=by have:=y8j cuts ins (cuts.length - 1) 0 [];unfold y3g;simp only [Bs] at this;omega
section
variable (kind:Int) (l m:List R4)
def v8n (x:Int) (y:Int):Bool:=y3c kind (has4V l x y) (has4V m x y)
def y9a (x:Int):List R2:=y3g (ysV l m) ((ysV l m).map (v8n kind l m x))
def v7y (out:List R4) (first:Nat) (x:Int):List R4:=out.take first++(out.drop first).map fun r=>⟨r.a,r.b,x,r.d⟩
def u9g (x x':Int) (s:List R2):List R4:=s.map fun p=>⟨x,p.a,x',p.b⟩
def jF :Nat→Nat→List R4→List R2→Nat→List R4
 | 0,_,out,_,_=>out
 | k+1,i,out,last,first=>
  bif decide (0<i)&&Qu (y9a kind l m (rd (xsV l m) i)) last then jF k (i+1) (v7y out first (rd (xsV l m) (i+1))) last first
  else jF k (i+1) (out++u9g (rd (xsV l m) i) (rd (xsV l m) (i+1)) (y9a kind l m (rd (xsV l m) i))) (y9a kind l m (rd (xsV l m) i)) out.length
def joV :List R4:=jF kind l m ((xsV l m).length - 1) 0 [] [] 0
end
def Qe (_:Int) (l m:List R4):Bool:=decide (l.length≤10000∧m.length≤10000)
theorem Kp (l m:List R4):(xsV l m).length ≤2*l.length+2*m.length:=by refine AK (z7j _) ?_;rw [Aw,z1u,z1u];omega
theorem y0w (l m:List R4):(ysV l m).length ≤2*l.length+2*m.length:=by refine AK (z7j _) ?_;rw [Aw,z1t,z1t];omega
section
variable (kind:Int) (l m:List R4) (hl:l.length≤10000) (hm:m.length≤10000)
include hl hm
theorem u8m (out:List R4) (last:List R2) (first:Int) (i:Nat) (hi:i+1<(xsV l m).length): ∀(k j:Nat) (acc:List Bool),j+k=(ysV l m).length →acc.length=j→
  ∃n,∀N,Yy (Vg kind l m) (N+n) (.to (.h1 out last first (i:Int) acc (j:Int)))=Yy (Vg kind l m) N (.to (.h1 out last first (i:Int) (acc++((ysV l m).drop j).map (v8n kind l m (rd (xsV l m) i))) ((ysV l m).length :Int)))
 | 0,j,acc,h,ha=>by refine ⟨0,fun N=> ?_⟩;rw [Au (by omega),Bd,Az,A3];rw [show j=(ysV l m).length by omega]
 | k+1,j,acc,h,ha=>by
  have hx:=Kp l m;have hy:=y0w l m;obtain ⟨n,hn⟩:=u8m out last first i hi k (j+1) (acc++[v8n kind l m (rd (xsV l m) i) (rd (ysV l m) j)]) (by omega) (by simp [ha])
  refine ⟨n+1,fun N=> ?_⟩;have w1: ∀x y,z0u l x y=true:=fun x y=>Ai (by omega);have w2: ∀x y,z0u m x y=true:=fun x y=>Ai (by omega);rw [Yg (show j<(ysV l m).length by omega),AY,←AB,Zv];simp (disch:=omega) only [Vg,Zg,Zq,w1,w2,Zi,Zf,Yb,Yp,Zh,Zk,Zx,Yc,Zj,Ag,Av,Ah,Aj,Ab];have:=hn N;rw [AL] at this;exact this
theorem u8l (last:List R2) (first:Int) (i:Nat) (hi:i+1<(xsV l m).length) (s:List R2) (hs:s.length≤1000000): ∀(k j:Nat) (out:List R4),j+k=s.length→out.length≤10000000000+j→
  ∃n,∀N,Yy (Vg kind l m) (N+n) (.to (.h2 out last first (i:Int) s (j:Int)))=Yy (Vg kind l m) N (.to (.h0 (out++u9g (rd (xsV l m) i) (rd (xsV l m) (i+1)) (s.drop j)) last first ((i+1:Nat):Int)))
 | 0,j,out,h,ho=>by have hx:=Kp l m;refine ⟨1,fun N=> ?_⟩;rw [Au (by omega),Zv];simp (disch:=omega) only [Vg,Zg,Zq,Zt,Zk,Zx,Aa,u9g,Bd,Az]
 | k+1,j,out,h,ho=>by
  have hx:=Kp l m;obtain ⟨n,hn⟩:=u8l last first i hi s hs k (j+1) (out++u9g (rd (xsV l m) i) (rd (xsV l m) (i+1)) [rd s j]) (by omega) (by simp [u9g];omega)
  refine ⟨n+1,fun N=> ?_⟩;have:=hn N;rw [Yg (show j<s.length by omega),←AB,Zv];simp (disch:=omega) only [Vg,Zg,Zq,Zi,Zf,Yb,Yp,Zh,Zk,Zx,Yc,Zj,Ag,Av,Ah,Aj,Ab];rw [AL] at this;exact this
theorem u4v (out:List R4) (j:Nat) (x:Int) (h:j<out.length):v7y (out.set j ⟨(rd out j).a,(rd out j).b,x,(rd out j).d⟩) (j+1) x=v7y out j x:=by
 have _uhl:=hl;have _uhm:=hm;unfold v7y;rw [Yg h,AY];have e1:(out.set j ⟨(rd out j).a,(rd out j).b,x,(rd out j).d⟩).take (j+1)=out.take j++[⟨(rd out j).a,(rd out j).b,x,(rd out j).d⟩]:=by
  apply Cl
  ·simp;omega
  ·intro n h1 h2;simp only [Bf,List.getElem_set];by_cases e:j=n
   ·subst e;rw [AC rfl,BK (by simp only [AZ];omega)];simp
   ·rw [Ay e,BA (by simp at h1 ⊢;omega),Bf]
 have e2:(out.set j ⟨(rd out j).a,(rd out j).b,x,(rd out j).d⟩).drop (j+1)=out.drop (j+1):=by rw [List.drop_set];rw [AC (by omega)]
 rw [e1,e2,AL];rfl
theorem u8k (last:List R2) (first:Int) (i:Nat) (hi:i+1<(xsV l m).length): ∀(k j:Nat) (out:List R4),j+k=out.length→out.length≤10000000000→
  ∃n,∀N,Yy (Vg kind l m) (N+n) (.to (.h3 out last first (i:Int) (j:Int)))=Yy (Vg kind l m) N (.to (.h0 (v7y out j (rd (xsV l m) (i+1))) last first ((i+1:Nat):Int)))
 | 0,j,out,h,ho=>by
  have hx:=Kp l m;refine ⟨1,fun N=> ?_⟩;have e:v7y out j (rd (xsV l m) (i+1))=out:=by unfold v7y;rw [Au (by omega),Bd,Az,AP (by omega)]
  rw [e,Zv];simp (disch:=omega) only [Vg,Zg,Zq,Zt,Zk,Zx,Aa]
 | k+1,j,out,h,ho=>by
  have hx:=Kp l m;obtain ⟨n,hn⟩:=u8k last first i hi k (j+1) (out.set j ⟨(rd out j).a,(rd out j).b,rd (xsV l m) (i+1),(rd out j).d⟩) (by simp;omega) (by simpa using ho)
  refine ⟨n+1,fun N=> ?_⟩;have:=hn N;rw [u4v l m hl hm out j _ (by omega)] at this;rw [←AB,Zv];simp (disch:=omega) only [Vg,Zg,Zq,Zi,Zf,Yu,Yb,Yp,Zh,Zk,Zx,Yc,Zj,Ag,Av,Ah,Aj,Ab];exact this
theorem v4x : ∀(k i:Nat) (out:List R4) (last:List R2) (first:Nat),k=(xsV l m).length - 1 - i→i≤(xsV l m).length →out.length≤i*40000→last.length≤40000→first≤out.length→
  ∃n,Yy (Vg kind l m) n (.to (.h0 out last (first:Int) (i:Int)))=.ret [.dat (jF kind l m k i out last first).length (Zz (jF kind l m k i out last first))]
 | 0,i,out,last,first,h,hi,ho,hla,hf=>by have hx:=Kp l m;refine ⟨1,?_⟩;rw [Zv];simp (disch:=omega) only [Vg,Zg,Zq,Zt,Zk,Zx,Aa,Zp,jF]
 | k+1,i,out,last,first,h,hi,ho,hla,hf=>by
  have hx:=Kp l m;have hy:=y0w l m;have hi1:i+1<(xsV l m).length :=by omega
  have hsl:(y9a kind l m (rd (xsV l m) i)).length ≤40000:=AK (y8i _ _) (by omega);have hbig:i*40000≤40000*40000:=AH _ (by omega);obtain ⟨n1,h1⟩:=u8m kind l m hl hm out last first i hi1 (ysV l m).length 0 [] (Ag _) rfl
  simp only [AX,Bc,z4q] at h1;have w3:y0m (ysV l m) ((ysV l m).map (v8n kind l m (rd (xsV l m) i)))=true:=Ai ⟨by omega,by rw [A6];omega⟩;have w4:Vs (y3g (ysV l m) ((ysV l m).map (v8n kind l m (rd (xsV l m) i)))) last=true:=Ai (AK hsl (by omega));have hy2:((ysV l m).length :Int)=(((ysV l m).length :Nat):Int):=rfl;unfold jF;rcases Yx (decide (0<i)&&Qu (y9a kind l m (rd (xsV l m) i)) last) with q | q
  ·obtain ⟨n3,h3⟩:=u8k kind l m hl hm last first i hi1 (out.length - first) first out (by omega) (by omega)
   obtain ⟨n0,h0⟩:=v4x k (i+1) (v7y out first (rd (xsV l m) (i+1))) last first (by omega) (by omega) (by simp [v7y];omega) hla (by simp [v7y];omega)
   refine ⟨n0+n3+1+n1+1,?_⟩;rw [q,Ab,Zv];simp only [Ac,As] at q;have q2:Qu (y3g (ysV l m) ((ysV l m).map (v8n kind l m (rd (xsV l m) i)))) last=true:=q.2;simp (disch:=omega) only [Vg,Zg,Zq,Zi,Zk,Zx,Ab];have h1':=h1 (n0+n3+1);rw [h1',Zv];simp (disch:=omega) only [Vg,Zg,Zq,Zt,Yt,q2,w3,w4,Ab,Aa];rw [h3 n0,h0]
  ·obtain ⟨n2,h2⟩:=u8l kind l m hl hm (y9a kind l m (rd (xsV l m) i)) (out.length:Int) i hi1 (y9a kind l m (rd (xsV l m) i)) (by omega) (y9a kind l m (rd (xsV l m) i)).length 0 out (Ag _) (by omega);obtain ⟨n0,h0⟩:=v4x k (i+1) (out++u9g (rd (xsV l m) i) (rd (xsV l m) (i+1)) (y9a kind l m (rd (xsV l m) i))) (y9a kind l m (rd (xsV l m) i)) out.length (by omega) (by omega) (by simp [u9g];omega) hsl (by simp);refine ⟨n0+n2+1+n1+1,?_⟩;rw [q,Aa,Zv];simp (disch:=omega) only [Vg,Zg,Zq,Zi,Zk,Zx,Ab];have h1':=h1 (n0+n2+1);rw [h1',Zv];have h2':=h2 n0;simp only [AX,z4q] at h2';by_cases hi0:0<i
   ·rw [Ai hi0,Aj] at q;have q2:Qu (y3g (ysV l m) ((ysV l m).map (v8n kind l m (rd (xsV l m) i)))) last=false:=q;simp (disch:=omega) only [Vg,Zg,Zq,Zt,Yt,q2,w3,w4,Ab,Aa];rw [←h0];exact h2'
   ·simp (disch:=omega) only [Vg,Zg,Zq,Zt,Xc,w3,w4,Ab,Aa];rw [←h0];exact h2'
end
theorem j3x (kind:Int) (l m:List R4) (h:Qe kind l m=true): ∃N,Yy (Vg kind l m) N (y5a kind l m)=.ret [.dat (joV kind l m).length (Zz (joV kind l m))]:=by obtain ⟨hl,hm⟩:=AA h;obtain ⟨N,hN⟩:=v4x kind l m hl hm ((xsV l m).length - 1) 0 [] [] 0 rfl (AD _) (AD _) (AD _) (Ar _);refine ⟨N,?_⟩;have w1:y3s l m=true:=Ai ⟨hl,hm⟩;have w2:y3r l m=true:=Ai ⟨hl,hm⟩;simp only [y5a,Zg,Zq,w1,w2,Ab];exact hN
theorem w3d {P:Program} {S:Specs} (hS:Zu P S) {f:FuncId} {F:List AVal→Option (AVal×Bool)} (hf:(P.funcs[f]?).any (fun fn=>fn.body.isSome)=true)
  (hF: ∀args v,F args=some (v,true)→ ∃bs vs,Vj VLe args bs∧(∀(ρ:Rho) (u:Value),Yw ρ (z0h vs) u→Yw ρ v u)∧Jx P (Zy P f) (Zb P f bs true []) vs∧ ∃d,pf d (z0h vs)=true):Zu P (S.with f F):=
 w7n hS hf fun args v h=>by obtain ⟨bs,vs,h1,h2,h3,d,h4⟩:=hF args v h;exact ⟨vs,h2,x7p h1 h3,d,h4⟩
theorem y6b {cs cs':List AVal} (h:RLe cs cs') (ρ:Rho) (u:Value) (hv:Yw ρ (.tup cs) u):Yw ρ (.tup cs') u:=by
 cases hv with
 | tup _ vs hl hh=>exact .tup cs' vs (by rw [←h.len];exact hl) fun i h1 h2=>h.sound i (by rw [h.len];exact h1) h1 (hh i (by rw [h.len];exact h1) h2)
theorem z7u (α:Type) [Xx α]:VLe .nils (.dat ([]:List α).length (Zz ([]:List α))):=.nild _
def fJo :List AVal→Option (AVal×Bool)
 | [.int .i64 x0,a1,a2]=>match asL R4 a1,asL R4 a2 with
  | some (L1,g1,n1),some (L2,g2,n2)=>some (.dat (joV x0 L1 L2).length (Zz (joV x0 L1 L2)),isT R4 n1 g1&&(isT R4 n2 g2&&(Qe x0 L1 L2)))
  | _,_=>none
 | _=>none
theorem fJo_ok {S:Specs} (hS:Zu prog S):Zu prog (S.with u9u fJo):=by
 refine z0v hS (by kernel_rfl) fun args v h=> ?_;unfold fJo at h;split at h
 ·rename_i x0 a1 a2;split at h
  ·rename_i L1 g1 n1 L2 g2 n2 e1 e2;simp only [Ae,Ad,Ac] at h;obtain ⟨rfl,ho1,ho2,hw⟩:=h;obtain ⟨N,hN⟩:=j3x x0 L1 L2 hw;exact ⟨_,_,(.cons (.refl _) (.cons (Yh e1 ho1) (.cons (Yh e2 ho2) .nil))),rfl,u2c x0 L1 L2 N _ hN,3,rfl⟩
  ·cases h
 ·cases h
def T3 :Specs:=T2.with u9u fJo
theorem y2p :Zu prog T3:=fJo_ok y2q
open Go.Sort
def bnd3 (r:R3):Bool:=decide (-1000000000≤r.a∧r.a≤1000000000)
def y3l (l:List R3):Bool:=l.all bnd3
abbrev E3 :={r:R3 // bnd3 r=true}
instance : Inhabited E3:=⟨⟨⟨0,0,0⟩,rfl⟩⟩
def cf3 (x y:E3):Int:=x.1.a - y.1.a
def lt3 (x y:E3):Bool:=decide (cf3 x y<0)
theorem swo3 :SWO lt3 where
 irrefl x:=by unfold lt3 cf3;simp
 trans x y z h1 h2:=by unfold lt3 cf3 at*;simp at*;omega
 ntrans x y z h1 h2:=by unfold lt3 cf3 at*;simp at*;omega
def x5j :(l:List R3)→y3l l=true→List E3
 | [],_=>[]
 | r::l,h=>⟨r,by simp [y3l] at h;exact h.1⟩::x5j l (by simp [y3l] at h ⊢;exact h.2)
theorem y5x : ∀(l:List R3) (h:y3l l=true),(x5j l h).map Subtype.val=l
 | [],_=>rfl
 | r::l,h=>by rw [x5j,AY,y5x l]
theorem Qg (l:List R3) (h:y3l l=true):(x5j l h).length =l.length:=by
 have:=AW List.length (y5x l h)
 simpa using this
def z1x (l:List R3):List R3:=if h:y3l l=true then (pdq lt3 (x5j l h).toArray 0 l.length (Lib.bitLen l.length) true true).toList.map Subtype.val else l
theorem Qh (l:List R3) (h:y3l l=true):(z1x l).Perm l∧ ∀i j,i<j→j<(z1x l).length →(rd (z1x l) i).a ≤(rd (z1x l) j).a :=by
 have hp:=pdq_sorts lt3 swo3 (x5j l h).toArray 0 l.length (Lib.bitLen l.length) true true (AD _) (by simp [Qg]) (Or.inl rfl);obtain ⟨⟨h1,h2,h3⟩,h4⟩:=hp;have e:z1x l=(pdq lt3 (x5j l h).toArray 0 l.length (Lib.bitLen l.length) true true).toList.map Subtype.val:=by unfold z1x;rw [dif_pos h]
 generalize pdq lt3 (x5j l h).toArray 0 l.length (Lib.bitLen l.length) true true=d at*;have hs:d.size=l.length:=by rw [h1];simp [Qg]
 constructor
 ·rw [e];have x1:(d.extract 0 l.length).toList =d.toList:=by rw [←hs];simp
  have x2:((x5j l h).toArray.extract 0 l.length).toList =x5j l h:=by rw [show l.length=(x5j l h).toArray.size by simp [Qg]];simp
  rw [x1,x2] at h3;have:=h3.map Subtype.val;rw [y5x] at this;exact this
 ·intro i j hij hj;rw [e] at hj ⊢;have hj':j<d.size:=by simpa using hj
  have:=h4 i j (AD _) hij (by omega);rw [BV d i (by omega),BV d j hj'] at this;rw [Yi (by simp;omega),Yi hj];simp only [B5,Array.getElem_toList];unfold lt3 cf3 at this;have:=of_decide_eq_false this;omega
open Go.RowKit Go.Shelf
variable {P:Program} {ρ:Rho}
def valOf :AVal→Value
 | .int k n=>.int k n
 | .bool b=>.bool b
 | _=>.tuple #[]
def w2o :AVal→Bool
 | .int _ _=>true
 | .bool _=>true
 | _=>false
theorem v2k {a:AVal} (h:w2o a=true):Yw ρ a (valOf a):=by
 cases a <;> first
  | exact .int _ _
  | exact .bool _
  | (simp [w2o] at h;done)
theorem v5h {a:AVal} {v:Value} (h:w2o a=true) (hv:Yw ρ a v):v=valOf a:=by
 cases hv <;> first
  | rfl
  | (simp [w2o] at h;done)
class j0v (α:Type) extends Xx α where
 num: ∀a:α,(cells a).all w2o=true
instance : j0v R2 where num _:=rfl
instance : j0v R3 where num _:=rfl
instance : j0v R4 where num _:=rfl
instance : j0v R6 where num _:=rfl
instance {α :Type} [Xx α]:Inhabited α:=⟨Xx.d⟩
section
variable {α:Type} [j0v α]
def x2g (a:α):List Value:=(Xx.cells a).map valOf
theorem y8e (a:α):(x2g a).length =Xx.w α:=by rw [x2g,A6,Xx.len]
theorem w6u (L:List α) (t:Nat) (h:t<L.length*Xx.w α):(flatK x2g (Xx.w α) L.toArray)[t]? =(Xx.cells (rd L (t / Xx.w α)))[t %Xx.w α]?.map valOf:=by
 have hw:=Xx.pos (α:=α);have hq:t / Xx.w α<L.length:=By (by rw [Bq];exact h);have hj:t %Xx.w α<Xx.w α:=BY _ hw;have hs:t<(flatK x2g (Xx.w α) L.toArray).size :=by rw [size_flatK];exact h
 rw [Bj hs,←BV (flatK x2g (Xx.w α) L.toArray) t hs,get_flatK x2g (Xx.w α) L.toArray t (by simpa using h)];have e1:L.toArray[t / Xx.w α]! =rd L (t / Xx.w α):=by rw [Yi hq,BV L.toArray _ (by simpa using hq)];simp
 rw [e1];have hl:t %Xx.w α<(x2g (rd L (t / Xx.w α))).length :=by rw [y8e];exact hj
 have hl2:t %Xx.w α<(Xx.cells (rd L (t / Xx.w α))).length :=by rw [Xx.len];exact hj
 rw [BV (x2g (rd L (t / Xx.w α))) _ hl,Ao hl2];simp [x2g]
theorem v4o (L:List α) (N t:Nat) (h:t<N*Xx.w α):(Yq N (Zz L))[t]? =(Xx.cells (rd L (t / Xx.w α)))[t %Xx.w α]? :=by have hw:=Xx.pos (α:=α);have:=Vw (get:=Zz L) (sz:=Xx.w α) N (fun _ _=>Xx.len _) (t / Xx.w α) (t %Xx.w α) (By (by rw [Bq];exact h)) (BY _ hw);rw [show t / Xx.w α*Xx.w α+t %Xx.w α=t by rw [Bq];exact B1 t _] at this;exact this
theorem z2t (L:List α) (N:Nat):(Yq N (Zz L)).length =N*Xx.w α:=Ym N fun _ _=>Xx.len _
theorem y7v (w:World) (n blk off:Nat) (d:Array Value) (os:Array Obj) (k:Nat) (hk:k<w.heap.size):
  (grow (putRow id (Go.Sort.ahead w n) blk off d) os).heap[k]? =if k=blk then (w.heap[k]?).map (onCells (putCells id off d)) else w.heap[k]? :=by
 show (((Go.Sort.ahead w n).heap.modify blk (onCells (putCells id off d)))++os)[k]? =_;rw [Array.getElem?_append_left (by simp;exact hk),Array.getElem?_modify];show (if blk=k then _ else _)=_;by_cases h:k=blk
 ·rw [AC h.symm,AC h];rfl
 ·rw [Ay (fun e=>h e.symm),Ay h];rfl
def w6v (α:Type) [Xx α] (srt:List α→List α) (bnd:List α→Bool) (g:FuncId) (args:List AVal) (mem:Mem):Option (AVal×Nat×ABlk×Bool):=match args with
 | [.sla b sz off n cap,.fn f []]=>bif Nat.beq f g then match Yn mem b with
  | some ⟨_,ty,some A⟩=>some (.tup [],b,⟨Yq A.n (Zz (srt (lst α n A.get))),ty,some ⟨Xx.w α,A.n,Zz (srt (lst α n A.get))⟩⟩,
    Nat.beq sz (Xx.w α)&&(Nat.beq A.sz (Xx.w α)&&(Nat.beq off 0&&((decide (n=A.n)&&(isT α n A.get&&decide (n<4611686018427387904)))&&bnd (lst α n A.get)))))
  | _=>none
  else none
 | _=>none
theorem v8b {f g:FuncId} {srt:List α→List α} {bnd:List α→Bool} (hsl: ∀L,(srt L).length =L.length)
  (hC: ∀(blk off cap:Nat) (L:List α) (w:World),bnd L=true→HoldsK x2g (Xx.w α) w blk off L.toArray→blk<w.heap.size→L.length<4611686018427387904→
   Calls P f #[.slice (some ⟨blk,off,none⟩) L.length cap,.func (.func g) #[] #[]] w fun e w'=>e=.returned (.tuple #[])∧ ∃n os,w'=sortWorldK x2g (Xx.w α) w blk off n (srt L).toArray os)
  (hN: ∀(p:Option Addr) (cap:Nat) (fv:Value) (w:World),Calls P f #[.slice p 0 cap,fv] w fun e w'=>e=.returned (.tuple #[])∧w'=w):x8i P f (w6v α srt bnd g):=by
 intro args mem v b blk h fY ρ next floor vals w hfl dT dQ
 have hw0:=Xx.pos (α:=α);unfold w6v at h;split at h
 ·rename_i b0 sz off n cap f0;obtain ⟨hfg,h'⟩:=z0n h;clear h;obtain rfl:=Ak hfg;have h:=h';clear h';split at h
  ·rename_i cells ty A hm;obtain ⟨asz,an,get⟩:=A;simp only [Ae,Ad,Ac] at h;obtain ⟨rfl,rfl,rfl,h1,h2,h3,⟨h4,h5,h6⟩,h7⟩:=h;have g1:=Ak h1;have g2:=Ak h2;have g3:=Ak h3;have g4:n=an:=AA h4;have h6:n<4611686018427387904:=AA h6;have g2:asz=Xx.w α:=g2;subst g1;subst g2;subst g3;subst g4;have h7:bnd (lst α n get.get)=true:=h7;have dY:=w6m h5;have dY: ∀i,i<n→get.get i=Zz (lst α n get.get) i:=dY;have hrows:Yq n get.get=Yq n (Zz (lst α n get.get)):=y1h n dY;obtain ⟨u,hu,hvals⟩: ∃u,Yw ρ (.sla b0 (Xx.w α) 0 n cap) u∧vals= #[u,.func (.func f0) #[] #[]]:=by
    obtain ⟨vl⟩:=vals;cases dT with
    | cons q1 q2=>cases q2 with
     | cons q3 q4=>
      cases q4;cases q3 with
      | fn _ _ cvs hl _=>have:cvs= #[]:=BU (by simpa using hl.symm);subst this;exact ⟨_,q1,rfl⟩
   subst hvals;have hlt:b0<next:=by
    rcases Bm b0 next with q | q
    ·exact q
    ·have:=dQ.bd b0 q;rw [hm] at this;cases this
   show Calls P f _ w _;have hAget:(Arr.get ⟨Xx.w α,n,get⟩)=get.get:=rfl;rw [hAget] at*;generalize hI:lst α n get.get=I at*;have hIl:I.length=n:=by rw [←hI];exact y1r _ _
   generalize hL:srt I=L;have hLl:L.length=n:=by rw [←hL,hsl,hIl]
   have hnn:ρ b0=none→ ∀cs ty',Yn mem b0≠some ⟨cs,ty',none⟩:=fun _ cs ty' e=>by rw [hm] at e;cases e
   cases hu with
   | sla _ _ _ _ _ l cc e hc dR=>
    have hbk:=dQ.blk b0 l _ e hm;obtain ⟨har,_,_⟩:=hbk.arr _ rfl;have har:cells=Yq n get.get:=har;rw [hrows] at har;subst har;obtain ⟨cur,el,hh,hsz,dV⟩:=hbk.cells;simp only [z2t] at dV;have htot:=hbk.tot;have hln:=hbk.n;simp only [z2t] at hln;have eL: ∀t,t<n*Xx.w α→cur[l.base+t]? =(Xx.cells (rd I (t / Xx.w α)))[t %Xx.w α]?.map valOf:=fun t ht=>by
     obtain ⟨v,e1,e2⟩:=dV t ht;have hj:t %Xx.w α<Xx.w α:=BY _ hw0;have hl2:t %Xx.w α<(Xx.cells (rd I (t / Xx.w α))).length :=by rw [Xx.len];exact hj
     have e3:=v4o I n t ht;rw [Ao (by rw [z2t];exact ht),Ao hl2] at e3;rw [Af e3] at e2;rw [e1,Ao hl2,BL,v5h (At.1 (j0v.num _) _ (AM hl2)) e2]
    have fI:=dQ.real b0 l e;have hH:HoldsK x2g (Xx.w α) w l.blk (l.base+0*Xx.w α) I.toArray:=fun j hj=>by
     have hj:j<n*Xx.w α:=(by simpa [hIl] using hj);have hs:j<(flatK x2g (Xx.w α) I.toArray).size :=(by simpa [hIl] using hj);have e1:=w6u I j (by rw [hIl];exact hj);rw [Bj hs] at e1;refine ⟨?_,?_⟩
     ·simp only [World.cell?,hh,Bi,A3,id];rw [eL j hj,←e1,BV (flatK x2g (Xx.w α) I.toArray) j hs];simp
     ·simp [World.frozen?,hh]
    have eH:=hC l.blk (l.base+0*Xx.w α) cc I w h7 hH fI (by omega);rw [hIl,hL] at eH;refine eH.mono fun e' w' ⟨he,q,os,hw'⟩=>⟨_,he,?_,?_,?_⟩
    ·exact .tup [] #[] rfl fun i h1 h2=>absurd h1 (AO _)
    ·subst hw';refine Rel.setArr ?_ ⟨Xx.w α,n,.flat (Zz L)⟩ rfl hw0 fun _ _=>Xx.len _;refine Rel.rewritten dQ e hm (by simp only [z2t]) (fun k hk hne=> ?_) ?_ ?_
     ·exact (y7v _ _ _ _ _ _ _ hk).trans (Ay hne)
     ·show _≤(((Go.Sort.ahead w q).heap.modify _ _)++os).size;simp only [BR,Ci];exact BJ _ _
     ·refine ⟨putCells id (l.base+0*Xx.w α) (flatK x2g (Xx.w α) L.toArray) cur,el,?_,?_,fun i hi=> ?_⟩
      ·refine (y7v _ _ _ _ _ _ _ fI).trans ?_;rw [AC rfl,hh];rfl
      ·simp only [putCells,Array.size_mapIdx];exact hsz
      ·rw [z2t] at hi;have hj:i %Xx.w α<Xx.w α:=BY _ hw0;have hl2:i %Xx.w α<(Xx.cells (rd L (i / Xx.w α))).length :=by rw [Xx.len];exact hj
       have hl3:i %Xx.w α<(Xx.cells (rd I (i / Xx.w α))).length :=by rw [Xx.len];exact hj
       have e1:=w6u L i (by rw [hLl];exact hi);rw [Ao hl2,BL] at e1;have hs:i<(flatK x2g (Xx.w α) L.toArray).size :=(by simpa [hLl] using hi);rw [Bj hs] at e1;have e3:=v4o L n i hi;rw [Ao (by rw [z2t];exact hi),Ao hl2] at e3;refine ⟨valOf (Xx.cells (rd L (i / Xx.w α)))[i %Xx.w α],?_,?_⟩
       ·have hc0:=eL i hi;rw [Ao hl3,BL] at hc0;simp only [putCells,Array.getElem?_mapIdx,hc0,BL,Bi,A3];rw [AC ⟨by omega,by omega⟩]
        congr 1
        rw [show l.base+i - l.base=i by omega,id,BV (flatK x2g (Xx.w α) L.toArray) i hs];exact Af e1
       ·rw [Af e3];exact v2k (At.1 (j0v.num _) _ (AM hl2))
    ·subst hw';refine Ev.rewritten dQ _ (fun l' _=>hfl) hnn (fun k hk hne=> ?_) ?_ rfl rfl rfl
     ·exact (y7v _ _ _ _ _ _ _ hk).trans (Ay (hne l e))
     ·show _≤(((Go.Sort.ahead w q).heap.modify _ _)++os).size;simp only [BR,Ci];exact BJ _ _
   | slan=>
    have hI0:I=[]:=Cb hIl;have hL0:L=[]:=Cb hLl;refine (hN none 0 _ w).mono fun e' w' ⟨he,hw'⟩=>⟨_,he,?_,?_,?_⟩
    ·exact .tup [] #[] rfl fun i h1 h2=>absurd h1 (AO _)
    ·subst hw';refine dQ.reblk hm fun l hρ hbk=> ?_;obtain ⟨har,fW,_⟩:=hbk.arr _ rfl;have har:cells=Yq 0 get.get:=har;subst har;exact ⟨hbk.n,hbk.tot,fun B hB=>by obtain rfl:=Af hB;exact ⟨rfl,hw0,fun i hi=>absurd hi (AO _)⟩,hbk.cells⟩
    ·subst hw';exact Ev.rewritten dQ _ (fun l' _=>hfl) hnn (fun _ _ _=>rfl) (Ar _) rfl rfl rfl
  ·cases h
 ·cases h
end
def Specs.withE (S:Specs) (f:FuncId) (F:List AVal→Mem→Option (AVal×Nat×ABlk×Bool)):Specs:=fun g=>bif Nat.beq g f then some (.eff F) else S g
theorem x2s {P:Program} {S:Specs} (hS:Zu P S) {f:FuncId} {F:List AVal→Mem→Option (AVal×Nat×ABlk×Bool)} (hf:(P.funcs[f]?).any (fun fn=>fn.body.isSome)=true) (hF:x8i P f F):Zu P (S.withE f F):=by
 intro g G hg;unfold Specs.withE at hg;cases hgf:Nat.beq g f with
 | false=>rw [hgf] at hg;exact hS g G hg
 | true=>
  rw [hgf] at hg;obtain rfl:Spec.eff F=G:=Af hg;obtain rfl:g=f:=Ak hgf;refine ⟨?_,hF⟩;cases hfn:P.funcs[g]? with
  | none=>rw [hfn] at hf;cases hf
  | some fn=>rw [hfn] at hf;exact ⟨fn,rfl,hf⟩
end Go.Am
namespace Go.Proofs
open Go.Proofs.Tryz
open Go.Shelf
def Tryz.lays189_ren :Go.Shelf.Ren:=⟨fun | 189=>111 | 125=>151 | 257=>150 | 128=>174 | 129=>175 | 294=>165 | 295=>166 | 296=>167 | 297=>168 | 298=>169 | 299=>170 | 216=>171 | 300=>172 | 301=>173 | 328=>185 | 329=>186 | 330=>187 | 331=>188 | 332=>189 | 215=>190 | 343=>196 | n=>n,fun | 28=>125 | 3=>3 | 46=>191 | 0=>0 | 51=>216 | 53=>218 | 4=>4 | 183=>208 | 182=>207 | 131=>213 | 5=>5 | 9=>9 | 218=>228 | 222=>232 | 228=>241 | 229=>119 | n=>n,fun | n=>n⟩
theorem Tryz.lays189 :Go.Proofs.Lays.n189 prog Tryz.lays189_ren:={
 mixed:=by kernel_rfl
 f125:=Tryz.func151.trans (congrArg some (by kernel_rfl))
 f128:=Tryz.func174.trans (congrArg some (by kernel_rfl))
 f129:=Tryz.func175.trans (congrArg some (by kernel_rfl))
 f189:=Tryz.func111.trans (congrArg some (by kernel_rfl))
 f215:=Tryz.func190.trans (congrArg some (by kernel_rfl))
 f216:=Tryz.func171.trans (congrArg some (by kernel_rfl))
 f257:=Tryz.func150.trans (congrArg some (by kernel_rfl))
 f294:=Tryz.func165.trans (congrArg some (by kernel_rfl))
 f295:=Tryz.func166.trans (congrArg some (by kernel_rfl))
 f296:=Tryz.func167.trans (congrArg some (by kernel_rfl))
 f297:=Tryz.func168.trans (congrArg some (by kernel_rfl))
 f298:=Tryz.func169.trans (congrArg some (by kernel_rfl))
 f299:=Tryz.func170.trans (congrArg some (by kernel_rfl))
 f300:=Tryz.func172.trans (congrArg some (by kernel_rfl))
 f301:=Tryz.func173.trans (congrArg some (by kernel_rfl))
 f328:=Tryz.func185.trans (congrArg some (by kernel_rfl))
 f329:=Tryz.func186.trans (congrArg some (by kernel_rfl))
 f330:=Tryz.func187.trans (congrArg some (by kernel_rfl))
 f331:=Tryz.func188.trans (congrArg some (by kernel_rfl))
 f332:=Tryz.func189.trans (congrArg some (by kernel_rfl))
 f343:=Tryz.func196.trans (congrArg some (by kernel_rfl))
 t0:=Tryz.underlying0
 a0:=Tryz.isAgg0
 z0:=Tryz.sizeOf0
 v0:=Tryz.zeroValue0
 t3:=Tryz.underlying3
 a3:=Tryz.isAgg3
 z3:=Tryz.sizeOf3
 v3:=Tryz.zeroValue3
 t4:=Tryz.underlying4
 a4:=Tryz.isAgg4
 z4:=Tryz.sizeOf4
 v4:=Tryz.zeroValue4
 t5:=Tryz.underlying5
 a5:=Tryz.isAgg5
 z5:=Tryz.sizeOf5
 v5:=Tryz.zeroValue5
 t9:=Tryz.underlying9
 a9:=Tryz.isAgg9
 z9:=Tryz.sizeOf9
 v9:=Tryz.zeroValue9
 t28:=Tryz.underlying125
 a28:=Tryz.isAgg125
 z28:=Tryz.sizeOf125
 v28:=Tryz.zeroValue125
 t46:=Tryz.underlying191
 a46:=Tryz.isAgg191
 z46:=Tryz.sizeOf191
 v46:=Tryz.zeroValue191
 t51:=Tryz.underlying216
 a51:=Tryz.isAgg216
 z51:=Tryz.sizeOf216
 v51:=Tryz.zeroValue216
 t53:=Tryz.underlying218
 a53:=Tryz.isAgg218
 z53:=Tryz.sizeOf218
 v53:=Tryz.zeroValue218
 t131:=Tryz.underlying213
 a131:=Tryz.isAgg213
 z131:=Tryz.sizeOf213
 v131:=Tryz.zeroValue213
 t182:=Tryz.underlying207
 a182:=Tryz.isAgg207
 z182:=Tryz.sizeOf207
 v182:=Tryz.zeroValue207
 t183:=Tryz.underlying208
 a183:=Tryz.isAgg208
 z183:=Tryz.sizeOf208
 v183:=Tryz.zeroValue208
 t218:=Tryz.underlying228
 a218:=Tryz.isAgg228
 z218:=Tryz.sizeOf228
 v218:=Tryz.zeroValue228
 t222:=Tryz.underlying232
 a222:=Tryz.isAgg232
 z222:=Tryz.sizeOf232
 v222:=Tryz.zeroValue232
 t228:=Tryz.underlying241
 a228:=Tryz.isAgg241
 z228:=Tryz.sizeOf241
 v228:=Tryz.zeroValue241
 t229:=Tryz.underlying119
 a229:=Tryz.isAgg119
 z229:=Tryz.sizeOf119
 v229:=Tryz.zeroValue119}
open Go.Sort Go.RowKit in
theorem Tryz.slices_Sort_int (blk off cap:Nat) (zs:List Int) (w:World) (hH:Holds (Value.int .i64) w blk off zs.toArray) (fI:blk<w.heap.size) (hsz:zs.length<4611686018427387904):
  Calls prog 111 #[.slice (some ⟨blk,off,none⟩) zs.length cap] w fun e w'=>
   e=.returned (.tuple #[])∧ ∃n os,w'=grow (putRow (Value.int .i64) (Sort.ahead w n) blk off (zs.mergeSort fun x y=>decide (x≤y)).toArray) os:=Any.slices_Sort_int Tryz.lays189 blk off cap zs w hH fI hsz
def Tryz.laysNm220_ren :Go.Shelf.Ren:=⟨fun | 20=>113 | n=>n,fun | 22=>125 | 3=>3 | 4=>4 | 0=>0 | n=>n,fun | n=>n⟩
theorem Tryz.laysNm220 :Go.Proofs.Lays2.n20 prog Tryz.laysNm220_ren:={
 mixed:=by kernel_rfl
 f20:=Tryz.func113.trans (congrArg some (by kernel_rfl))
 t0:=Tryz.underlying0
 a0:=Tryz.isAgg0
 z0:=Tryz.sizeOf0
 v0:=Tryz.zeroValue0
 t3:=Tryz.underlying3
 a3:=Tryz.isAgg3
 z3:=Tryz.sizeOf3
 v3:=Tryz.zeroValue3
 t4:=Tryz.underlying4
 a4:=Tryz.isAgg4
 z4:=Tryz.sizeOf4
 v4:=Tryz.zeroValue4
 t22:=Tryz.underlying125
 a22:=Tryz.isAgg125
 z22:=Tryz.sizeOf125
 v22:=Tryz.zeroValue125
 i3:=by kernel_rfl}
open Go.RowKit Go.Lib Go.Sort in
theorem Tryz.slices_Compact_int (blk off cap:Nat) (zs:List Int) (w:World) (hH:Holds (Value.int .i64) w blk off zs.toArray) (hsz:zs.length≤9223372036854775807) (dW:zs.length≤cap):
  Calls prog 113 #[.slice (some ⟨blk,off,none⟩) zs.length cap] w fun e w'=>e=.returned (.slice (some ⟨blk,off,none⟩) (Lib.compact zs).length cap)∧ ∃q,w'=putRow (Value.int .i64) (Sort.ahead w q) blk off (Lib.compact zs++List.replicate (zs.length - (Lib.compact zs).length) 0).toArray :=Any.slices_Compact_int Tryz.laysNm220 blk off cap zs w hH hsz dW
open Go.RowKit Go.Lib Go.Sort in
theorem Tryz.slices_Compact_int_empty (a:Option Addr) (cap:Nat) (w:World):
  Calls prog 113 #[.slice a 0 cap] w fun e w'=>e=.returned (.slice a 0 cap)∧w'=w:=Any.slices_Compact_int_empty Tryz.laysNm220 a cap w
open Go.RowKit Go.Sort in
theorem Tryz.slices_Sort_int_none (p:Option Addr) (cap:Nat) (w:World):
  Calls prog 111 #[.slice p 0 cap] w fun e w'=>e=.returned (.tuple #[])∧w'=w:=Any.slices_Sort_int_none Tryz.lays189 p cap w
def Tryz.sortEnd_ren :Go.Shelf.Ren:=⟨fun | 6=>193 | 15=>151 | 14=>197 | 28=>174 | 29=>175 | 20=>199 | 21=>200 | 22=>201 | 23=>202 | 24=>203 | 25=>204 | 26=>205 | 27=>206 | 46=>207 | 47=>186 | 48=>187 | 49=>208 | 50=>209 | 57=>210 | n=>n,fun | 22=>236 | 24=>227 | 25=>238 | 3=>3 | 39=>191 | 0=>0 | 53=>216 | 55=>218 | 4=>4 | 46=>208 | 45=>207 | 50=>213 | 5=>5 | 9=>9 | 66=>228 | 70=>232 | 76=>241 | 77=>119 | n=>n,fun | n=>n⟩
theorem Tryz.sortEnd :Go.Proofs.SlLaysF0.n6 prog Tryz.sortEnd_ren:={
 mixed:=by kernel_rfl
 f6:=⟨Tryz.f193.name,by decide,Tryz.func193.trans (congrArg some (by kernel_rfl))⟩
 f14:=⟨Tryz.f197.name,by decide,Tryz.func197.trans (congrArg some (by kernel_rfl))⟩
 f15:=Tryz.func151.trans (congrArg some (by kernel_rfl))
 f20:=⟨Tryz.f199.name,by decide,Tryz.func199.trans (congrArg some (by kernel_rfl))⟩
 f21:=⟨Tryz.f200.name,by decide,Tryz.func200.trans (congrArg some (by kernel_rfl))⟩
 f22:=⟨Tryz.f201.name,by decide,Tryz.func201.trans (congrArg some (by kernel_rfl))⟩
 f23:=⟨Tryz.f202.name,by decide,Tryz.func202.trans (congrArg some (by kernel_rfl))⟩
 f24:=⟨Tryz.f203.name,by decide,Tryz.func203.trans (congrArg some (by kernel_rfl))⟩
 f25:=⟨Tryz.f204.name,by decide,Tryz.func204.trans (congrArg some (by kernel_rfl))⟩
 f26:=⟨Tryz.f205.name,by decide,Tryz.func205.trans (congrArg some (by kernel_rfl))⟩
 f27:=⟨Tryz.f206.name,by decide,Tryz.func206.trans (congrArg some (by kernel_rfl))⟩
 f28:=Tryz.func174.trans (congrArg some (by kernel_rfl))
 f29:=Tryz.func175.trans (congrArg some (by kernel_rfl))
 f46:=⟨Tryz.f207.name,by decide,Tryz.func207.trans (congrArg some (by kernel_rfl))⟩
 f47:=Tryz.func186.trans (congrArg some (by kernel_rfl))
 f48:=Tryz.func187.trans (congrArg some (by kernel_rfl))
 f49:=⟨Tryz.f208.name,by decide,Tryz.func208.trans (congrArg some (by kernel_rfl))⟩
 f50:=⟨Tryz.f209.name,by decide,Tryz.func209.trans (congrArg some (by kernel_rfl))⟩
 f57:=⟨Tryz.f210.name,by decide,Tryz.func210.trans (congrArg some (by kernel_rfl))⟩
 t0:=Tryz.underlying0
 a0:=Tryz.isAgg0
 z0:=Tryz.sizeOf0
 v0:=Tryz.zeroValue0
 t3:=Tryz.underlying3
 a3:=Tryz.isAgg3
 z3:=Tryz.sizeOf3
 v3:=Tryz.zeroValue3
 t4:=Tryz.underlying4
 a4:=Tryz.isAgg4
 z4:=Tryz.sizeOf4
 v4:=Tryz.zeroValue4
 t5:=Tryz.underlying5
 a5:=Tryz.isAgg5
 z5:=Tryz.sizeOf5
 v5:=Tryz.zeroValue5
 t9:=Tryz.underlying9
 a9:=Tryz.isAgg9
 z9:=Tryz.sizeOf9
 v9:=Tryz.zeroValue9
 t22:=Tryz.underlying236
 a22:=Tryz.isAgg236
 z22:=Tryz.sizeOf236
 v22:=Tryz.zeroValue236
 t25:=Tryz.underlying238
 a25:=Tryz.isAgg238
 z25:=Tryz.sizeOf238
 v25:=Tryz.zeroValue238
 t39:=Tryz.underlying191
 a39:=Tryz.isAgg191
 z39:=Tryz.sizeOf191
 v39:=Tryz.zeroValue191
 t45:=Tryz.underlying207
 a45:=Tryz.isAgg207
 z45:=Tryz.sizeOf207
 v45:=Tryz.zeroValue207
 t46:=Tryz.underlying208
 a46:=Tryz.isAgg208
 z46:=Tryz.sizeOf208
 v46:=Tryz.zeroValue208
 t50:=Tryz.underlying213
 a50:=Tryz.isAgg213
 z50:=Tryz.sizeOf213
 v50:=Tryz.zeroValue213
 t53:=Tryz.underlying216
 a53:=Tryz.isAgg216
 z53:=Tryz.sizeOf216
 v53:=Tryz.zeroValue216
 t55:=Tryz.underlying218
 a55:=Tryz.isAgg218
 z55:=Tryz.sizeOf218
 v55:=Tryz.zeroValue218
 t66:=Tryz.underlying228
 a66:=Tryz.isAgg228
 z66:=Tryz.sizeOf228
 v66:=Tryz.zeroValue228
 t70:=Tryz.underlying232
 a70:=Tryz.isAgg232
 z70:=Tryz.sizeOf232
 v70:=Tryz.zeroValue232
 t76:=Tryz.underlying241
 a76:=Tryz.isAgg241
 z76:=Tryz.sizeOf241
 v76:=Tryz.zeroValue241
 t77:=Tryz.underlying119
 a77:=Tryz.isAgg119
 z77:=Tryz.sizeOf119
 v77:=Tryz.zeroValue119}
open Go.RowKit Go.Lib Go.Sort
theorem Tryz.cmpEnd (a b c a' b' c':Int) (h: -1000000000≤a∧a≤1000000000) (h': -1000000000≤a'∧a'≤1000000000) (W:World):
  Calls prog 194 #[.agg #[.int .i64 a,.int .i64 b,.int .i64 c],.agg #[.int .i64 a',.int .i64 b',.int .i64 c']] W fun e w'=>e=.returned (.int .i64 (a - a'))∧ ∃q os',w'=grow (W.drewN q) os':=by
 go_enter Tryz.func194,Tryz.ntmps194
 go_wp2
 go_ret
 exact ⟨rfl,0,_,by rw [alloc_eq_grow,alloc_eq_grow,grow_grow];rfl⟩
end Go.Proofs
namespace Go.Am
open IntKind (wrap)
open Go.Proofs.Tryz
open Go.Proofs
inductive rjsS where
 | h0 (v9:List R6) (v10:List R4) (v11:Int) (v12:Int)
 | h1 (v9:List R6) (v10:List R4) (v11:Int) (v12:Int) (v13:List R4) (v15:Int)
 | h2 (v9:List R6) (v10:List R4) (v11:Int) (v12:Int) (v14:Int)
abbrev w5i (l1:List R6) (l2:List R6) (v12:Int):=(rd (Vu (cvT l1) (cvT l2)) (tn v12))
abbrev x0y (v9:List R6) (v14:Int) (l1:List R6) (l2:List R6) (v12:Int):=(v9.set (0+(tn v14)) (R6.mk (rd v9 (0+(tn v14))).a (rd v9 (0+(tn v14))).b (rd v9 (0+(tn v14))).c (rd v9 (0+(tn v14))).d (rd v9 (0+(tn v14))).e (rd (Vu (cvT l1) (cvT l2)) (tn (wr (v12+1))))))
abbrev x0x (v9:List R6) (v13:List R4) (v15:Int) (l1:List R6) (l2:List R6) (v12:Int):=(v9++[(R6.mk (rd v13 (tn v15)).a (rd v13 (tn v15)).b (w5i l1 l2 v12) (rd v13 (tn v15)).c (rd v13 (tn v15)).d (rd (Vu (cvT l1) (cvT l2)) (tn (wr (v12+1)))))])
abbrev Vh (l1:List R6) (l2:List R6) (v12:Int):=(atV (cvT l1) (w5i l1 l2 v12))
abbrev Us (l2:List R6) (l1:List R6) (v12:Int):=(atV (cvT l2) (w5i l1 l2 v12))
abbrev u8j (v9:List R6) (v13:List R4) (v15:Int) (l1:List R6) (l2:List R6) (v12:Int):=(Zr (Zz v9) 0 v9.length 6 [(ii (rd v13 (tn v15)).a),(ii (rd v13 (tn v15)).b),(ii (w5i l1 l2 v12)),(ii (rd v13 (tn v15)).c),(ii (rd v13 (tn v15)).d),(ii (rd (Vu (cvT l1) (cvT l2)) (tn (wr (v12+1)))))])
def v4w (l1:List R6) (l2:List R6):AVal:=(.dat (Vu (cvT l1) (cvT l2)).length (Zz (Vu (cvT l1) (cvT l2))))
def rjsC (x0:Int) (l1:List R6) (l2:List R6):rjsS→Cfg
 | .h0 v9 v10 v11 v12=>⟨⟨137,0,true⟩,none,(Zc prog 77 [1,1,1,1,1,0,1,0,0] 0),none,(Zy prog 10),⟨Ya [(0,(ii x0)),(1,(.dat l1.length (Zz l1))),(2,(.dat l2.length (Zz l2))),(8,(v4w l1 l2)),(9,(.sla 0 6 0 v9.length (.un 6))),(10,(.dat v10.length (Zz v10))),(11,(ii v11)),(12,(ii v12))],Vd [⟨Yq v9.length (Zz v9),57,some ⟨6,v9.length,(Zz v9)⟩⟩] 0,1,[],true⟩,[],.leaf⟩
 | .h1 v9 v10 v11 v12 v13 v15=>⟨⟨137,0,true⟩,none,(Zc prog 77 [1,1,1,1,1,0,1,0,0,1,0,0,1,1,1,1,1,0,0] 0),none,(Zy prog 10),⟨Ya [(0,(ii x0)),(1,(.dat l1.length (Zz l1))),(2,(.dat l2.length (Zz l2))),(8,(v4w l1 l2)),(9,(.sla 0 6 0 v9.length (.un 6))),(10,(.dat v10.length (Zz v10))),(11,(ii v11)),(12,(ii v12)),(13,(.dat v13.length (Zz v13))),(15,(ii v15))],Vd [⟨Yq v9.length (Zz v9),57,some ⟨6,v9.length,(Zz v9)⟩⟩] 0,1,[],true⟩,[],.leaf⟩
 | .h2 v9 v10 v11 v12 v14=>⟨⟨137,0,true⟩,none,(Zc prog 77 [1,1,1,1,1,0,1,0,0,1,0,0,1,1,0,1,0,0,1,0,0] 0),none,(Zy prog 10),⟨Ya [(0,(ii x0)),(1,(.dat l1.length (Zz l1))),(2,(.dat l2.length (Zz l2))),(8,(v4w l1 l2)),(9,(.sla 0 6 0 v9.length (.un 6))),(10,(.dat v10.length (Zz v10))),(11,(ii v11)),(12,(ii v12)),(14,(ii v14))],Vd [⟨Yq v9.length (Zz v9),57,some ⟨6,v9.length,(Zz v9)⟩⟩] 0,1,[],true⟩,[],.leaf⟩
def j3u :List (Option (List Nat)):=[some [0,1,2,8,9,10,11,12]]
def j3w :List (Option (List Nat)):=[]
def j3t :List (Option (List Nat)):=[some [0,1,2,8,9,10,11,12,13,15]]
def j3v :List (Option (List Nat)):=[]
def rjsN2 :List (Option (List Nat)):=[some [0,1,2,8,9,10,11,12,14]]
def rjsM2 :List (Option (List Nat)):=[]
def Vt (x0:Int) (l1:List R6) (l2:List R6):rjsS→Xu rjsS
 | .h0 v9 v10 v11 v12=>(bif (decide ((wrap .i64 (v12+1))<(((Vu (cvT l1) (cvT l2)).length :Nat):Int))) then (bif (z6m (cvT l1) (rd (Vu (cvT l1) (cvT l2)) v12.toNat)) then (bif ((decide (0≤v12∧v12<(((Vu (cvT l1) (cvT l2)).length :Nat):Int)))&&true) then (bif (z6m (cvT l2) (rd (Vu (cvT l1) (cvT l2)) v12.toNat)) then (bif (Qe x0 (cvT (atV (cvT l1) (rd (Vu (cvT l1) (cvT l2)) v12.toNat))) (cvT (atV (cvT l2) (rd (Vu (cvT l1) (cvT l2)) v12.toNat)))) then (bif (decide ((((joV x0 (cvT (atV (cvT l1) (rd (Vu (cvT l1) (cvT l2)) v12.toNat))) (cvT (atV (cvT l2) (rd (Vu (cvT l1) (cvT l2)) v12.toNat)))).length :Nat):Int)>400)) then (.ret [.nils,(.bool false)]) else (bif (Qe 2 (cvT (atV (cvT l1) (rd (Vu (cvT l1) (cvT l2)) v12.toNat))) ([]:List R4)) then (bif (decide ((((joV 2 (cvT (atV (cvT l1) (rd (Vu (cvT l1) (cvT l2)) v12.toNat))) ([]:List R4)).length :Nat):Int)>400)) then (.ret [.nils,(.bool false)]) else (bif (Qe 2 (cvT (atV (cvT l2) (rd (Vu (cvT l1) (cvT l2)) v12.toNat))) ([]:List R4)) then (bif (decide ((((joV 2 (cvT (atV (cvT l2) (rd (Vu (cvT l1) (cvT l2)) v12.toNat))) ([]:List R4)).length :Nat):Int)>400)) then (.ret [.nils,(.bool false)]) else (bif (decide (v12>0)) then (bif (Wd (cvT (joV x0 (cvT (atV (cvT l1) (rd (Vu (cvT l1) (cvT l2)) v12.toNat))) (cvT (atV (cvT l2) (rd (Vu (cvT l1) (cvT l2)) v12.toNat))))) (cvT v10)) then (bif (Ur (cvT (joV x0 (cvT (atV (cvT l1) (rd (Vu (cvT l1) (cvT l2)) v12.toNat))) (cvT (atV (cvT l2) (rd (Vu (cvT l1) (cvT l2)) v12.toNat))))) (cvT v10)) then (.to (.h2 v9 v10 v11 v12 v11)) else (.to (.h1 v9 (joV x0 (cvT (atV (cvT l1) (rd (Vu (cvT l1) (cvT l2)) v12.toNat))) (cvT (atV (cvT l2) (rd (Vu (cvT l1) (cvT l2)) v12.toNat)))) (v9.length:Int) v12 (joV x0 (cvT (atV (cvT l1) (rd (Vu (cvT l1) (cvT l2)) v12.toNat))) (cvT (atV (cvT l2) (rd (Vu (cvT l1) (cvT l2)) v12.toNat)))) 0))) else .stuck) else (.to (.h1 v9 (joV x0 (cvT (atV (cvT l1) (rd (Vu (cvT l1) (cvT l2)) v12.toNat))) (cvT (atV (cvT l2) (rd (Vu (cvT l1) (cvT l2)) v12.toNat)))) (v9.length:Int) v12 (joV x0 (cvT (atV (cvT l1) (rd (Vu (cvT l1) (cvT l2)) v12.toNat))) (cvT (atV (cvT l2) (rd (Vu (cvT l1) (cvT l2)) v12.toNat)))) 0)))) else .stuck)) else .stuck)) else .stuck) else .stuck) else .stuck) else .stuck) else (.ret [(.dat v9.length (Zz v9)),(.bool (decide ((v9.length:Int)≤400)))]))
 | .h1 v9 v10 v11 v12 v13 v15=>(bif (decide (v15<(v13.length:Int))) then (bif ((decide (0≤v12∧v12<(((Vu (cvT l1) (cvT l2)).length :Nat):Int)))&&true) then (bif ((decide (0≤v15∧v15<(v13.length:Int)))&&true) then (bif ((decide (0≤(wrap .i64 (v12+1))∧(wrap .i64 (v12+1))<(((Vu (cvT l1) (cvT l2)).length :Nat):Int)))&&true) then (bif (Nat.beq 6 6&&((decide (0+v9.length=v9.length))&&decide ((v9.length+1+1)*(48+1)≤Jh))) then (.to (.h1 (v9++[(R6.mk (rd v13 v15.toNat).a (rd v13 v15.toNat).b (rd (Vu (cvT l1) (cvT l2)) v12.toNat) (rd v13 v15.toNat).c (rd v13 v15.toNat).d (rd (Vu (cvT l1) (cvT l2)) (Int.toNat (wrap .i64 (v12+1)))))]) v10 v11 v12 v13 (wrap .i64 (v15+1)))) else .stuck) else .stuck) else .stuck) else .stuck) else (.to (.h0 v9 v10 v11 (wrap .i64 (v12+1)))))
 | .h2 v9 v10 v11 v12 v14=>(bif (decide (v14<(v9.length:Int))) then (bif ((decide (0≤(wrap .i64 (v12+1))∧(wrap .i64 (v12+1))<(((Vu (cvT l1) (cvT l2)).length :Nat):Int)))&&true) then (bif ((decide (0≤v14∧v14<(v9.length:Int)))&&true) then (bif (decide ((0+v14.toNat)<v9.length)) then (.to (.h2 (v9.set (0+v14.toNat) (R6.mk (rd v9 (0+v14.toNat)).a (rd v9 (0+v14.toNat)).b (rd v9 (0+v14.toNat)).c (rd v9 (0+v14.toNat)).d (rd v9 (0+v14.toNat)).e (rd (Vu (cvT l1) (cvT l2)) (Int.toNat (wrap .i64 (v12+1)))))) v10 v11 v12 (wrap .i64 (v14+1)))) else .stuck) else .stuck) else .stuck) else (.to (.h0 v9 v10 v11 (wrap .i64 (v12+1)))))
def y4z (x0:Int) (l1:List R6) (l2:List R6):Xu rjsS:=(bif (y0i (cvT l1) (cvT l2)) then (.to (.h0 ([]:List R6) ([]:List R4) 0 0)) else .stuck)
theorem w9k (x0:Int) (l1:List R6) (l2:List R6): ∀s,Xq prog (Zy prog 77) (rjsC x0 l1 l2) (rjsC x0 l1 l2 s) (Vt x0 l1 l2 s)
 | .h0 v9 v10 v11 v12=>(lb (fun k0=>(lo fun aH=>(lo fun aY=>(lo fun cP=>(lo fun dG=>(lb (fun k1=>(lr 137 77 [1,1,1,1,1,0,1,0,0,1,0,0,1,0,1,0,0] 1 10 [(6,.nils),(7,(.bool false))] (sl y2p 50 [] ⟨[],[],[some [6,7]],[]⟩ ⟨[],[],[]⟩ (trs 20 []) (tt k1 (pp (pp (xI R4 (Vh l1 l2 v12).length (Zz (Vh l1 l2 v12))) (pp (xI R4 (Us l2 l1 v12).length (Zz (Us l2 l1 v12))) (xw dG))) (pp (pp (xr l2) (xw cP)) (ww aY (pp (pp (xr l1) (xw aH)) (ww aY (tt k0 nn)))))))))) (fun k1=>(lo fun bL=>(lb (fun k2=>(lr 137 77 [1,1,1,1,1,0,1,0,0,1,0,0,1,0,1,0,0] 1 10 [(6,.nils),(7,(.bool false))] (sl y2p 50 [] ⟨[],[],[some [6,7]],[]⟩ ⟨[],[],[]⟩ (bl 20 1047553) (tt k2 (pp (pp (xI R4 (Vh l1 l2 v12).length (Zz (Vh l1 l2 v12))) (pp (xI R4 0 (fun _=>[])) (xw bL))) (pp (pp (xr l1) (xw aH)) (ww aY (tt k1 (pp (pp (xI R4 (Vh l1 l2 v12).length (Zz (Vh l1 l2 v12))) (pp (xI R4 (Us l2 l1 v12).length (Zz (Us l2 l1 v12))) (xw dG))) (pp (pp (xr l2) (xw cP)) (ww aY (pp (pp (xr l1) (xw aH)) (ww aY (tt k0 nn)))))))))))))) (fun k2=>(lo fun bU=>(lb (fun k3=>(lr 137 77 [1,1,1,1,1,0,1,0,0,1,0,0,1,0,1,0,0] 1 10 [(6,.nils),(7,(.bool false))] (sl y2p 50 [] ⟨[],[],[some [6,7]],[]⟩ ⟨[],[],[]⟩ (bl 20 524289) (tt k3 (pp (pp (xI R4 (Us l2 l1 v12).length (Zz (Us l2 l1 v12))) (pp (xI R4 0 (fun _=>[])) (xw bU))) (pp (pp (xr l2) (xw cP)) (ww aY (tt k2 (pp (pp (xI R4 (Vh l1 l2 v12).length (Zz (Vh l1 l2 v12))) (pp (xI R4 0 (fun _=>[])) (xw bL))) (pp (pp (xr l1) (xw aH)) (ww aY (tt k1 (pp (pp (xI R4 (Vh l1 l2 v12).length (Zz (Vh l1 l2 v12))) (pp (xI R4 (Us l2 l1 v12).length (Zz (Us l2 l1 v12))) (xw dG))) (pp (pp (xr l2) (xw cP)) (ww aY (pp (pp (xr l1) (xw aH)) (ww aY (tt k0 nn)))))))))))))))))) (fun k3=>(lb (fun k4=>(lo fun cZ=>(lb (fun k5=>(sl y2p 66 [] ⟨[0],[],rjsN2,rjsM2⟩ ⟨[],[],[]⟩ (bl 24 15728641) (pp (fl v9 nn) (tt k5 (pp (pp (xI R4 (joV x0 (cvT (Vh l1 l2 v12)) (cvT (Us l2 l1 v12))).length (Zz (joV x0 (cvT (Vh l1 l2 v12)) (cvT (Us l2 l1 v12))))) (pp (xr v10) (xw cZ))) (tt k4 (tt k3 (pp (pp (xI R4 (Us l2 l1 v12).length (Zz (Us l2 l1 v12))) (pp (xI R4 0 (fun _=>[])) (xw bU))) (pp (pp (xr l2) (xw cP)) (ww aY (tt k2 (pp (pp (xI R4 (Vh l1 l2 v12).length (Zz (Vh l1 l2 v12))) (pp (xI R4 0 (fun _=>[])) (xw bL))) (pp (pp (xr l1) (xw aH)) (ww aY (tt k1 (pp (pp (xI R4 (Vh l1 l2 v12).length (Zz (Vh l1 l2 v12))) (pp (xI R4 (Us l2 l1 v12).length (Zz (Us l2 l1 v12))) (xw dG))) (pp (pp (xr l2) (xw cP)) (ww aY (pp (pp (xr l1) (xw aH)) (ww aY (tt k0 nn))))))))))))))))))))) (fun k5=>(sl y2p 73 [] ⟨[0],[],j3t,j3v⟩ ⟨[],[],[]⟩ (bl 24 7340033) (pp (fl v9 nn) (tt k5 (pp (pp (xI R4 (joV x0 (cvT (Vh l1 l2 v12)) (cvT (Us l2 l1 v12))).length (Zz (joV x0 (cvT (Vh l1 l2 v12)) (cvT (Us l2 l1 v12))))) (pp (xr v10) (xw cZ))) (tt k4 (tt k3 (pp (pp (xI R4 (Us l2 l1 v12).length (Zz (Us l2 l1 v12))) (pp (xI R4 0 (fun _=>[])) (xw bU))) (pp (pp (xr l2) (xw cP)) (ww aY (tt k2 (pp (pp (xI R4 (Vh l1 l2 v12).length (Zz (Vh l1 l2 v12))) (pp (xI R4 0 (fun _=>[])) (xw bL))) (pp (pp (xr l1) (xw aH)) (ww aY (tt k1 (pp (pp (xI R4 (Vh l1 l2 v12).length (Zz (Vh l1 l2 v12))) (pp (xI R4 (Us l2 l1 v12).length (Zz (Us l2 l1 v12))) (xw dG))) (pp (pp (xr l2) (xw cP)) (ww aY (pp (pp (xr l1) (xw aH)) (ww aY (tt k0 nn)))))))))))))))))))))))) (fun k4=>(sl y2p 73 [] ⟨[0],[],j3t,j3v⟩ ⟨[],[],[]⟩ (bl 24 1) (pp (fl v9 nn) (tt k4 (tt k3 (pp (pp (xI R4 (Us l2 l1 v12).length (Zz (Us l2 l1 v12))) (pp (xI R4 0 (fun _=>[])) (xw bU))) (pp (pp (xr l2) (xw cP)) (ww aY (tt k2 (pp (pp (xI R4 (Vh l1 l2 v12).length (Zz (Vh l1 l2 v12))) (pp (xI R4 0 (fun _=>[])) (xw bL))) (pp (pp (xr l1) (xw aH)) (ww aY (tt k1 (pp (pp (xI R4 (Vh l1 l2 v12).length (Zz (Vh l1 l2 v12))) (pp (xI R4 (Us l2 l1 v12).length (Zz (Us l2 l1 v12))) (xw dG))) (pp (pp (xr l2) (xw cP)) (ww aY (pp (pp (xr l1) (xw aH)) (ww aY (tt k0 nn))))))))))))))))))))))))))))))))) (fun k0=>(lr 137 3 [1,1,1,1,0] 1 10 [(6,(.dat v9.length (Zz v9))),(7,(.bool (decide ((v9.length:Int)≤400))))] (sl y2p 20 [] ⟨[],[0],[some [6,7]],[]⟩ ⟨[(6,.frz v9.length v9.length (Zz v9) (Zz v9))],[],[]⟩ [false] (pp (xZ (z5q 6 6 0 v9.length v9.length (Zz v9)) v9.length (Zz v9)) (pp (xL v9.length v9.length) (pp (xS v9.length (Zz v9) (Zz v9)) (pp (fl v9 nn) (tt k0 nn)))))))))
 | .h1 v9 v10 v11 v12 v13 v15=>(lb (fun k0=>(lo fun o0=>(lo fun o1=>(lo fun o2=>(lo fun o3=>(sl y2p 20 [] ⟨[2],[],j3t,j3v⟩ ⟨[(9,.len (x0x v9 v13 v15 l1 l2 v12).length)],[.rowed 6 (x0x v9 v13 v15 l1 l2 v12).length (Zz (x0x v9 v13 v15 l1 l2 v12))],[]⟩ [true] (pp (xL (v9.length+1) (x0x v9 v13 v15 l1 l2 v12).length) (pp (xL (v9.length+1) (x0x v9 v13 v15 l1 l2 v12).length) (pp (xS (v9.length+1) (u8j v9 v13 v15 l1 l2 v12) (Zz (x0x v9 v13 v15 l1 l2 v12))) (pp (pp (xF (u8j v9 v13 v15 l1 l2 v12)) nn) (ww o3 (ww o2 (ww o1 (ww o1 (ww o0 (ww o1 (ww o1 (tt k0 nn)))))))))))))))))) (fun k0=>(sl y2p 17 [] ⟨[0],[],j3u,j3w⟩ ⟨[],[],[]⟩ [false] (pp (fl v9 nn) (tt k0 nn)))))
 | .h2 v9 v10 v11 v12 v14=>(lb (fun k0=>(lo fun o0=>(lo fun o1=>(lo fun o2=>(sl y2p 32 [] ⟨[0],[],rjsN2,rjsM2⟩ ⟨[(9,.len (x0y v9 v14 l1 l2 v12).length)],[.rowed 6 (x0y v9 v14 l1 l2 v12).length (Zz (x0y v9 v14 l1 l2 v12))],[]⟩ [true] (pp (xL v9.length (x0y v9 v14 l1 l2 v12).length) (pp (xL v9.length (x0y v9 v14 l1 l2 v12).length) (pp (xS v9.length (Xr (Zz v9) (0+(tn v14)) 5 [(ii (rd (Vu (cvT l1) (cvT l2)) (tn (wr (v12+1)))))]) (Zz (x0y v9 v14 l1 l2 v12))) (pp (pp (xF (Xr (Zz v9) (0+(tn v14)) 5 [(ii (rd (Vu (cvT l1) (cvT l2)) (tn (wr (v12+1)))))])) nn) (ww o2 (ww o1 (ww o0 (tt k0 nn))))))))))))) (fun k0=>(sl y2p 17 [] ⟨[0],[],j3u,j3w⟩ ⟨[],[],[]⟩ [false] (pp (fl v9 nn) (tt k0 nn)))))
theorem w0n (x0:Int) (l1:List R6) (l2:List R6):Xq prog (Zy prog 77) (rjsC x0 l1 l2) (Zb prog 77 [(.int .i64 x0),(.dat l1.length (Zz l1)),(.dat l2.length (Zz l2))] true []) (y4z x0 l1 l2):=(lo fun o0=>(sl y2p 31 [(57,6,Zz ([]:List R6))] ⟨[0],[],j3u,j3w⟩ ⟨[(9,.grow 0 6),(10,.list 0 (Zz ([]:List R4)))],[],[]⟩ [] (pp (fl ([]:List R6) nn) (pp (pp (xr l1) (pp (xr l2) (xw o0))) nn))))
theorem u2b (x0:Int) (l1:List R6) (l2:List R6) (n:Nat) (vs:List AVal) (h:Yy (Vt x0 l1 l2) n (y4z x0 l1 l2)=.ret vs):Jx prog (Zy prog 77) (Zb prog 77 [(.int .i64 x0),(.dat l1.length (Zz l1)),(.dat l2.length (Zz l2))] true []) vs:=by have:=Zd (w9k x0 l1 l2) n _ (w0n x0 l1 l2);rwa [h] at this
theorem Qm (l m:List R6):(Vu l m).length ≤2*l.length+2*m.length:=by refine AK (z7j _) ?_;rw [Aw,z1s,z1s];omega
theorem z6n (l:List R6) (z:Int):(atV l z).length ≤l.length:=by unfold atV;rw [A6];exact Cf _ _
def v9u (out:List R6) (first:Nat) (z:Int):List R6:=out.take first++(out.drop first).map fun r=>⟨r.a,r.b,r.c,r.d,r.e,z⟩
def j4v (z z':Int) (s:List R4):List R6:=s.map fun p=>⟨p.a,p.b,z,p.c,p.d,z'⟩
section
variable (kind:Int) (l m:List R6)
def y1f (z:Int):List R4:=joV kind (atV l z) (atV m z)
def z5n (z:Int):Bool:=decide (400<(y1f kind l m z).length)||(decide (400<(joV 2 (atV l z) []).length)||decide (400<(joV 2 (atV m z) []).length))
def jsF :Nat→Nat→List R6→List R4→Nat→Option (List R6)
 | 0,_,out,_,_=>some out
 | k+1,i,out,last,first=>
  bif z5n kind l m (rd (Vu l m) i) then none
  else bif decide (0<i)&&Ur (y1f kind l m (rd (Vu l m) i)) last then jsF k (i+1) (v9u out first (rd (Vu l m) (i+1))) last first
  else jsF k (i+1) (out++j4v (rd (Vu l m) i) (rd (Vu l m) (i+1)) (y1f kind l m (rd (Vu l m) i))) (y1f kind l m (rd (Vu l m) i)) out.length
def jsO :Option (List R6):=jsF kind l m ((Vu l m).length - 1) 0 [] [] 0
def w2m :Option (List R6)→List AVal
 | none=>[.nils,.bool false]
 | some out=>[.dat out.length (Zz out),.bool (decide ((out.length:Int)≤400))]
def Qq :List R6:=(jsO kind l m).getD []
def z2n :Bool:=match jsO kind l m with
 | none=>false
 | some out=>decide ((out.length:Int)≤400)
end
def jsZ (l:List R6):Prop:=l.length≤40000∧ ∀z,(atV l z).length ≤5000
theorem w6j {l:List R6} (h:l.length≤5000):jsZ l:=⟨by omega,fun z=>AK (z6n l z) h⟩
def z4a (_:Int) (l m:List R6):Bool:=pd (jsZ l∧jsZ m)
theorem jsV_ow {k:Int} {l m:List R6} (hl:l.length≤5000) (hm:m.length≤5000):z4a k l m=true:=Ys ⟨w6j hl,w6j hm⟩
section
variable (kind:Int) (l m:List R6) (hl:jsZ l) (hm:jsZ m)
include hl hm
theorem u8i (last:List R4) (first:Int) (i:Nat) (hi:i+1<(Vu l m).length) (s:List R4) (hs:s.length≤1000000): ∀(k j:Nat) (out:List R6),j+k=s.length→out.length≤10000000000+j→
  ∃n,∀N,Yy (Vt kind l m) (N+n) (.to (.h1 out last first (i:Int) s (j:Int)))=Yy (Vt kind l m) N (.to (.h0 (out++j4v (rd (Vu l m) i) (rd (Vu l m) (i+1)) (s.drop j)) last first ((i+1:Nat):Int)))
 | 0,j,out,h,ho=>by have hx:=Qm l m;have hl1:=hl.1;have hm1:=hm.1;refine ⟨1,fun N=> ?_⟩;rw [Au (by omega),Zv];simp (disch:=omega) only [Vt,Zg,Zq,Zt,Zk,Zx,Aa,j4v,Bd,Az]
 | k+1,j,out,h,ho=>by
  have hx:=Qm l m;have hl1:=hl.1;have hm1:=hm.1;obtain ⟨n,hn⟩:=u8i last first i hi s hs k (j+1) (out++j4v (rd (Vu l m) i) (rd (Vu l m) (i+1)) [rd s j]) (by omega) (by simp [j4v];omega)
  refine ⟨n+1,fun N=> ?_⟩;have:=hn N;rw [Yg (show j<s.length by omega),←AB,Zv];simp (disch:=omega) only [Vt,Zg,Zq,Zi,Zf,Yb,Yp,Zh,Zk,Zx,Yc,Zj,Ag,Av,Ah,Aj,Ab];rw [AL] at this;exact this
omit hl hm in
theorem u4u (out:List R6) (j:Nat) (x:Int) (h:j<out.length):v9u (out.set j ⟨(rd out j).a,(rd out j).b,(rd out j).c,(rd out j).d,(rd out j).e,x⟩) (j+1) x=v9u out j x:=by
 unfold v9u;rw [Yg h,AY];have e1:(out.set j ⟨(rd out j).a,(rd out j).b,(rd out j).c,(rd out j).d,(rd out j).e,x⟩).take (j+1)=out.take j++[⟨(rd out j).a,(rd out j).b,(rd out j).c,(rd out j).d,(rd out j).e,x⟩]:=by
  apply Cl
  ·simp;omega
  ·intro n h1 h2;simp only [Bf,List.getElem_set];by_cases e:j=n
   ·subst e;rw [AC rfl,BK (by simp only [AZ];omega)];simp
   ·rw [Ay e,BA (by simp at h1 ⊢;omega),Bf]
 have e2:(out.set j ⟨(rd out j).a,(rd out j).b,(rd out j).c,(rd out j).d,(rd out j).e,x⟩).drop (j+1)=out.drop (j+1):=by rw [List.drop_set];rw [AC (by omega)]
 rw [e1,e2,AL];rfl
theorem u8h (last:List R4) (first:Int) (i:Nat) (hi:i+1<(Vu l m).length): ∀(k j:Nat) (out:List R6),j+k=out.length→out.length≤10000000000→
  ∃n,∀N,Yy (Vt kind l m) (N+n) (.to (.h2 out last first (i:Int) (j:Int)))=Yy (Vt kind l m) N (.to (.h0 (v9u out j (rd (Vu l m) (i+1))) last first ((i+1:Nat):Int)))
 | 0,j,out,h,ho=>by
  have hx:=Qm l m;have hl1:=hl.1;have hm1:=hm.1;refine ⟨1,fun N=> ?_⟩;have e:v9u out j (rd (Vu l m) (i+1))=out:=by unfold v9u;rw [Au (by omega),Bd,Az,AP (by omega)]
  rw [e,Zv];simp (disch:=omega) only [Vt,Zg,Zq,Zt,Zk,Zx,Aa]
 | k+1,j,out,h,ho=>by
  have hx:=Qm l m;have hl1:=hl.1;have hm1:=hm.1;obtain ⟨n,hn⟩:=u8h last first i hi k (j+1) (out.set j ⟨(rd out j).a,(rd out j).b,(rd out j).c,(rd out j).d,(rd out j).e,rd (Vu l m) (i+1)⟩) (by simp;omega) (by simpa using ho)
  refine ⟨n+1,fun N=> ?_⟩;have:=hn N;rw [u4u out j _ (by omega)] at this;rw [←AB,Zv];simp (disch:=omega) only [Vt,Zg,Zq,Zi,Zf,Yu,Yb,Yp,Zh,Zk,Zx,Yc,Zj,Ag,Av,Ah,Aj,Ab];exact this
theorem v4v : ∀(k i:Nat) (out:List R6) (last:List R4) (first:Nat),k=(Vu l m).length - 1 - i→i≤(Vu l m).length →out.length≤i*400→last.length≤400→first≤out.length→
  ∃n,Yy (Vt kind l m) n (.to (.h0 out last (first:Int) (i:Int)))=.ret (w2m (jsF kind l m k i out last first))
 | 0,i,out,last,first,h,hi,ho,hla,hf=>by have hx:=Qm l m;have hl1:=hl.1;have hm1:=hm.1;refine ⟨1,?_⟩;rw [Zv];simp (disch:=omega) only [Vt,Zg,Zq,Zt,Zk,Zx,Aa,Zp,jsF,w2m]
 | k+1,i,out,last,first,h,hi,ho,hla,hf=>by
  have hx:=Qm l m;have hl1:=hl.1;have hm1:=hm.1;have hi1:i+1<(Vu l m).length :=by omega
  have hbig:i*400≤160000*400:=AH _ (by omega);have a1:=fun z=>hl.2 z;have a2:=fun z=>hm.2 z;have w1: ∀z,z6m l z=true:=fun z=>Ai (by omega);have w2: ∀z,z6m m z=true:=fun z=>Ai (by omega);have w3: ∀k z,Qe k (atV l z) (atV m z)=true:=fun k z=>Ai (by have:=a1 z;have:=a2 z;omega);have w4: ∀k z,Qe k (atV l z) ([]:List R4)=true:=fun k z=>Ai (by have:=a1 z;simp;omega);have w5: ∀k z,Qe k (atV m z) ([]:List R4)=true:=fun k z=>Ai (by have:=a2 z;simp;omega);unfold jsF;have fC:y1f kind l m (rd (Vu l m) i)=joV kind (atV l (rd (Vu l m) i)) (atV m (rd (Vu l m) i)):=rfl;by_cases c1:400<(y1f kind l m (rd (Vu l m) i)).length
  ·refine ⟨1,?_⟩;have hb:z5n kind l m (rd (Vu l m) i)=true:=by unfold z5n;rw [Ai c1];rfl
   rw [hb,Ab,Zv];rw [fC] at c1;simp (disch:=omega) only [Vt,Zg,Zq,Zi,Yt,Zf,Zk,Zx,Zj,w1,w2,w3,w4,w5,Ah,Ab,Zp,w2m]
  by_cases c2:400<(joV 2 (atV l (rd (Vu l m) i)) []).length
  ·refine ⟨1,?_⟩;have hb:z5n kind l m (rd (Vu l m) i)=true:=by unfold z5n;rw [Ai c2,BB,Bool.or_true]
   rw [hb,Ab,Zv];rw [fC] at c1;simp (disch:=omega) only [Vt,Zg,Zq,Zi,Yt,Xc,Zf,Zk,Zx,Zj,w1,w2,w3,w4,w5,Ah,Ab,Aa,Zp,w2m]
  by_cases c3:400<(joV 2 (atV m (rd (Vu l m) i)) []).length
  ·refine ⟨1,?_⟩;have hb:z5n kind l m (rd (Vu l m) i)=true:=by unfold z5n;rw [Ai c3,Bool.or_true,Bool.or_true]
   rw [hb,Ab,Zv];rw [fC] at c1;simp (disch:=omega) only [Vt,Zg,Zq,Zi,Yt,Xc,Zf,Zk,Zx,Zj,w1,w2,w3,w4,w5,Ah,Ab,Aa,Zp,w2m]
  have hb:z5n kind l m (rd (Vu l m) i)=false:=by unfold z5n;rw [An c1,An c2,An c3];rfl
  rw [hb,Aa];have w6:Wd (joV kind (atV l (rd (Vu l m) i)) (atV m (rd (Vu l m) i))) last=true:=Ai (by rw [←fC];omega);rcases Yx (decide (0<i)&&Ur (y1f kind l m (rd (Vu l m) i)) last) with q | q
  ·obtain ⟨n3,h3⟩:=u8h kind l m hl hm last first i hi1 (out.length - first) first out (by omega) (by omega)
   obtain ⟨n0,h0⟩:=v4v k (i+1) (v9u out first (rd (Vu l m) (i+1))) last first (by omega) (by omega) (by simp [v9u];omega) hla (by simp [v9u];omega)
   refine ⟨n0+n3+1,?_⟩;rw [q,Ab,Zv];simp only [Ac,As] at q;obtain ⟨q1,q2⟩:=q;rw [fC] at c1 q2;simp (disch:=omega) only [Vt,Zg,Zq,Zi,Yt,Xc,Zf,Zk,Zx,Zj,w1,w2,w3,w4,w5,w6,q2,Ah,Ab,Aa];rw [h3 n0,h0]
  ·obtain ⟨n2,h2⟩:=u8i kind l m hl hm (y1f kind l m (rd (Vu l m) i)) (out.length:Int) i hi1 (y1f kind l m (rd (Vu l m) i)) (by omega) (y1f kind l m (rd (Vu l m) i)).length 0 out (Ag _) (by omega);obtain ⟨n0,h0⟩:=v4v k (i+1) (out++j4v (rd (Vu l m) i) (rd (Vu l m) (i+1)) (y1f kind l m (rd (Vu l m) i))) (y1f kind l m (rd (Vu l m) i)) out.length (by omega) (by omega) (by simp [j4v];omega) (by omega) (by simp);refine ⟨n0+n2+1,?_⟩;rw [q,Aa,Zv];have h2':=h2 n0;simp only [AX,z4q] at h2';have c1':=c1;rw [fC] at c1';by_cases hi0:0<i
   ·rw [Ai hi0,Aj,fC] at q;simp (disch:=omega) only [Vt,Zg,Zq,Zi,Yt,Xc,Zf,Zk,Zx,Zj,w1,w2,w3,w4,w5,w6,q,Ah,Ab,Aa];rw [←h0];exact h2'
   ·simp (disch:=omega) only [Vt,Zg,Zq,Zi,Yt,Xc,Zf,Zk,Zx,Zj,w1,w2,w3,w4,w5,w6,Ah,Ab,Aa];rw [←h0];exact h2'
end
theorem j3s (kind:Int) (l m:List R6) (h:z4a kind l m=true): ∃N,Yy (Vt kind l m) N (y4z kind l m)=.ret (w2m (jsO kind l m)):=by obtain ⟨hl,hm⟩:=Jy h;have hl1:=hl.1;have hm1:=hm.1;obtain ⟨N,hN⟩:=v4v kind l m hl hm ((Vu l m).length - 1) 0 [] [] 0 rfl (AD _) (AD _) (AD _) (Ar _);refine ⟨N,?_⟩;have w1:y0i l m=true:=Ai ⟨by omega,by omega⟩;simp only [y4z,Zg,Zq,w1,Ab];exact hN
def fJs :List AVal→Option (AVal×Bool)
 | [.int .i64 x0,a1,a2]=>match asL R6 a1,asL R6 a2 with
  | some (L1,g1,n1),some (L2,g2,n2)=>some (.tup [.dat (Qq x0 L1 L2).length (Zz (Qq x0 L1 L2)),.bool (z2n x0 L1 L2)],isT R6 n1 g1&&(isT R6 n2 g2&&(z4a x0 L1 L2)))
  | _,_=>none
 | _=>none
theorem fJs_ok {S:Specs} (hS:Zu prog S):Zu prog (S.with u9t fJs):=by
 refine w3d hS (by kernel_rfl) fun args v h=> ?_;unfold fJs at h;split at h
 ·rename_i x0 a1 a2;split at h
  ·rename_i L1 g1 n1 L2 g2 n2 e1 e2;simp only [Ae,Ad,Ac] at h;obtain ⟨rfl,ho1,ho2,hw⟩:=h;obtain ⟨N,hN⟩:=j3s x0 L1 L2 hw;refine ⟨_,w2m (jsO x0 L1 L2),(.cons (.refl _) (.cons (Yh e1 ho1) (.cons (Yh e2 ho2) .nil))),?_,u2b x0 L1 L2 N _ hN,3,?_⟩
   ·unfold Qq z2n;cases jsO x0 L1 L2 with
    | none=>exact fun ρ u hu=>y6b (.cons (z7u R6) (RLe.refl _)) ρ u hu
    | some out=>exact fun ρ u hu=>hu
   ·cases jsO x0 L1 L2 <;> rfl
  ·cases h
 ·cases h
def T4 :Specs:=T3.with u9t fJs
theorem T4_ok :Zu prog T4:=fJs_ok y2p
open Go.Sort Go.Shelf Go.RowKit Go.Lib
def j7t (x:E3):List Value:=x2g x.1
theorem j7s (l:List R3) (h:y3l l=true):Go.Sort.flatK j7t 3 (x5j l h).toArray =Go.Sort.flatK x2g 3 l.toArray:=by
 have hl:=Qg l h;unfold Go.Sort.flatK;rw [show (x5j l h).toArray.size =l.toArray.size by simpa using hl];apply Array.ext
 ·simp
 ·intro t h1 h2;simp only [Array.getElem_map,Array.getElem_range];have ht:t<l.length*3:=by simpa using h1
  have hq:t / 3<l.length:=by omega
  congr 1
  rw [BV (x5j l h).toArray (t / 3) (by simpa [hl] using hq),BV l.toArray (t / 3) (by simpa using hq)];unfold j7t
  congr 1
  have:=y5x l h;have e:=AW (fun z:List R3=>z[t / 3]?) this;simp only [List.getElem?_map] at e;rw [Ao (by rw [hl];exact hq),Ao hq] at e
  simpa using e
theorem u4n (d:Array E3):Go.Sort.flatK j7t 3 d=Go.Sort.flatK x2g 3 (d.toList.map Subtype.val).toArray :=by
 unfold Go.Sort.flatK;rw [show d.size=(d.toList.map Subtype.val).toArray.size by simp];apply Array.ext
 ·simp
 ·intro t h1 h2;simp only [Array.getElem_map,Array.getElem_range];have ht:t<d.size*3:=by simpa using h1
  have hq:t / 3<d.size:=by omega
  congr 1
  rw [BV d (t / 3) hq,BV (d.toList.map Subtype.val).toArray (t / 3) (by simpa using hq)];simp [j7t]
theorem z9t (l:List R3):x4b l.length (z1x (cvT l)).length =true:=Uz (by
 rw [Zg];by_cases h:y3l l=true
 ·exact (Qh l h).1.length_eq.symm
 ·unfold z1x;rw [dif_neg h])
theorem isAgg3 : ∀w,(isAgg (Tryz.sortEnd_ren.t 24)).run prog w=.ok true w:=fun w=>by rfl
theorem size3 : ∀w,(Go.sizeOf (Tryz.sortEnd_ren.t 24)).run prog w=.ok 3 w:=fun w=>by rfl
theorem v3k :x8i prog u9m (w6v R3 z1x y3l w6b):=by
 refine v8b (fun L=> ?_) (fun blk off cap L w hb hH fI hsz=> ?_) fun p cap fv w=>AnyF.slices_SortFunc_none Tryz.sortEnd p cap fv w
 ·by_cases h:y3l L=true
  ·exact (Qh L h).1.length_eq
  ·unfold z1x;rw [dif_neg h]
 ·have eg: ∀args w,(callFunc 194 args).run prog w=.ok (.enter 194 args) w:=enters_of Tryz.func194 (by kernel_rfl) rfl;have hcmp:CmpLays prog 194 #[] j7t 3 cf3 blk off (x5j L hb).toArray.size w:=fun m os dk _ x y=>by have hx:=AA x.2;have hy:=AA y.2;exact Tryz.cmpEnd x.1.a x.1.b x.1.c y.1.a y.1.b y.1.c hx hy _
  have hH':HoldsK j7t 3 w blk off (x5j L hb).toArray :=by unfold HoldsK;rw [j7s L hb];exact hH
  have hcon:=AnyQ.slices_SortFunc_eq Tryz.sortEnd 3 isAgg3 size3 j7t (fun x=>y8e x.1) (fun x v hv=>by
   obtain ⟨a,ha,rfl⟩:=AQ.1 hv;have:w2o a=true:=At.1 (j0v.num x.1) a ha;cases a <;> first | rfl | (simp [w2o] at this;done)) cf3 swo3 194 #[] blk off cap (x5j L hb).toArray w eg hcmp hH' fI (by simpa [Qg] using hsz)
  have hs:(x5j L hb).toArray.size =L.length:=by simp [Qg]
  rw [hs] at hcon;refine Calls.mono hcon fun e w' ⟨he,n,os,hw⟩=>⟨he,n,os,?_⟩
  rw [hw];unfold sortWorldK putRowK;rw [u4n];unfold z1x;rw [dif_pos hb];rfl
def Xf (zs:List Int):List Int:=zs.mergeSort fun x y=>decide (x≤y)
theorem v3j :x8i prog nSort (fRow Xf):=
 j7u (fun zs=>List.length_mergeSort zs) (fun blk off cap zs w hH hb hz=>Tryz.slices_Sort_int blk off cap zs w hH hb hz) fun p cap w=>Tryz.slices_Sort_int_none p cap w
def Wo (zs:List Int):List Int:=compact zs++List.replicate (zs.length - (compact zs).length) 0
def v8p (zs:List Int):Nat:=(compact zs).length
theorem Ju (zs:List Int):(Wo zs).length =zs.length:=by have:=compact_length_le zs;simp [Wo];omega
theorem z2z (n:Nat) (c:Nat→Int):x4b n (Wo (Ye n c)).length =true:=Uz (by rw [Ju];simp [Ye])
theorem v7b (w:World):grow w #[]=w:=by simp [grow]
theorem w3r :x8i prog w6d (fCut Wo v8p):=
 j7v (fun zs=>by have:=compact_length_le zs;simp [Wo];omega) (fun zs=>compact_length_le zs)
  (fun blk off cap zs w hH hb hz dW=>(Tryz.slices_Compact_int blk off cap zs w hH (by omega) dW).mono fun e w' ⟨he,q,hw⟩=>⟨he,q, #[],by rw [hw,v7b];rfl⟩)
  fun p cap w=>Tryz.slices_Compact_int_empty p cap w
def T5 :Specs:=((T4.withE u9m (w6v R3 z1x y3l w6b)).withE nSort (fRow Xf)).withE w6d (fCut Wo v8p)
theorem z0q :Zu prog T5:=x2s (x2s (x2s T4_ok (by kernel_rfl) v3k) (by kernel_rfl) v3j) (by kernel_rfl) w3r
-- h2: index into an array (choices [true, true, false, false])
-- h2: index into an array (choices [true, false, true, false, false])
-- h2: index into an array (choices [true, false, false, true, true, false, false])
-- h2: index into an array (choices [true, false, false, true, false, false, false])
-- h2: index into an array (choices [true, false, false, false, false, false])
inductive spmS where
 | h0 (v8:Int)
 | h1 (v3:List R3) (v17:Int)
 | h2 (v5:List R3) (v6:Int) (v7:Int) (aC:Int) (bM:Int) (aV:Int) (aI:Bool) (aA:List R2)
abbrev Uh (aA:List R2) (aV:Int) (v5:List R3) (v7:Int):=(aA++[(R2.mk aV (rd v5 (0+(tn v7))).a)])
abbrev y2u (aA:List R2) (aV:Int) (v5:List R3) (v7:Int):=(Zr (Zz aA) 0 aA.length 2 [(ii aV),(ii (rd v5 (0+(tn v7))).a)])
abbrev x0a (v3:List R3) (l0:List R2) (v17:Int):=(v3++[(R3.mk (rd l0 (tn v17)).a 0 1),(R3.mk (rd l0 (tn v17)).b 0 (-1))])
def u6d (l0:List R2):AFr:=⟨⟨11,0,true⟩,(Up prog 156 [1,1,1,0] 1),(Zc prog 156 [1,1,1,0] 1),none,(Zy prog 14),Ya [(9,(.dat l0.length (Zz l0)))]⟩
def spmC (l0:List R2):spmS→Cfg
 | .h0 v8=>⟨⟨19,0,true⟩,none,(Zc prog 191 [1,0,1,0,0] 0),none,(Zy prog 6),⟨Ya [(0,(.dat l0.length (Zz l0))),(1,(.fn 178 [])),(7,(ii (l0.length:Int))),(8,(ii v8))],Vd [] 0,0,[],true⟩,[⟨⟨9,0,true⟩,(Up prog 177 [1,0] 2),(Zc prog 177 [1,0] 1),none,(Zy prog 6),Ya [(5,(.dat l0.length (Zz l0))),(6,(.fn 178 []))]⟩,⟨⟨11,0,true⟩,(Up prog 156 [1,1,0,0] 1),(Zc prog 156 [1,1,0,0] 1),none,(Zy prog 14),Ya [(0,(.dat l0.length (Zz l0))),(7,(.dat l0.length (Zz l0)))]⟩],.leaf⟩
 | .h1 v3 v17=>⟨⟨38,0,true⟩,none,(Zc prog 184 [1,1,0,1,0,0,1,1,0,0,1,1,0,0] 0),none,(Zy prog 9),⟨Ya [(3,(.sla 7 3 0 v3.length (.un 3))),(4,(ii 0)),(8,(.sl 0 0 2 (.un 1))),(9,(ii 2)),(10,(ii 0)),(15,(.dat l0.length (Zz l0))),(16,(ii (l0.length:Int))),(17,(ii v17))],Vd [⟨[(.dat l0.length (Zz l0)),.nils],155,none⟩,⟨[(.fn 180 [])],167,none⟩,⟨[(ii 0),(ii 0)],222,none⟩,⟨[.nils],155,none⟩,⟨[(ii 0)],3,none⟩,⟨[(.bool false)],4,none⟩,⟨[(.fn 183 [(.ptr 5 0),(.ptr 4 0),(.ptr 3 0)])],223,none⟩,⟨Yq v3.length (Zz v3),227,some ⟨3,v3.length,(Zz v3)⟩⟩] 0,8,[],true⟩,[⟨⟨42,0,true⟩,(Up prog 161 [1,1,1,1,1,0,0] 3),(Zc prog 161 [1,1,1,1,1,0,0] 1),none,(Zy prog 3),Ya [(5,(.ptr 1 0)),(6,.nils),(7,(.ptr 2 0)),(8,(.ptr 3 0)),(9,(.ptr 4 0)),(10,(.ptr 5 0)),(11,(.ptr 6 0)),(16,(.sl 0 0 2 (.un 1)))]⟩,(u6d l0)],.leaf⟩
 | .h2 v5 v6 v7 aC bM aV aI aA=>⟨⟨16,0,true⟩,none,(Zc prog 198 [1,0,0] 0),none,[],⟨Ya [(0,(.yld 0)),(5,(.sla 7 3 0 v5.length (.un 3))),(6,(ii v6)),(7,(ii v7))],z8j [(1,⟨[(.fn 180 [])],167,none⟩),(2,⟨[(ii aC),(ii bM)],222,none⟩),(3,⟨[(ii aV)],3,none⟩),(4,⟨[(.bool aI)],4,none⟩),(5,⟨[(.fn 183 [(.ptr 4 0),(.ptr 3 0),(.ptr 6 0)])],223,none⟩),(6,⟨[(.sla 8 2 0 aA.length (.un 2))],155,none⟩),(7,⟨Yq v5.length (Zz v5),227,some ⟨3,v5.length,(Zz v5)⟩⟩),(8,⟨Yq aA.length (Zz aA),176,some ⟨2,aA.length,(Zz aA)⟩⟩)],9,[],true⟩,[⟨⟨42,0,true⟩,none,(.inRangeFunc 0::(Zc prog 161 [1,1,1,1,1,0,1,0] 1)),none,(Zy prog 3),Ya [(6,.nils),(8,(.ptr 6 0))]⟩,(u6d l0)],(y5l [(0,⟨.ready,none,42,Ya [(5,(.ptr 1 0)),(7,(.ptr 2 0)),(9,(.ptr 3 0)),(10,(.ptr 4 0)),(11,(.ptr 5 0))],[18],(Vy prog 161 [1,1,1,1,1,0,1,0,0]),(Vy prog 161 [1,1,1,1,1,0,1,0,1])⟩)])⟩
def spmN0 :List (Option (List Nat)):=[some [0,1,7,8],some [5,6],some [0,7]]
def spmM0 :List (Option (List Nat)):=[]
def v3f :List (Option (List Nat)):=[some [3,4,8,9,10,15,16,17],some [5,6,7,8,9,10,11,16],some [9]]
def v3g :List (Option (List Nat)):=[]
def y6j :List (Option (List Nat)):=[some [0,5,6,7],some [6,8],some [9]]
def y6k :List (Option (List Nat)):=[some [5,7,9,10,11],none,none,none,none,none,none,none,none]
def Jw (l0:List R2):spmS→Xu spmS
 | .h0 v8=>(bif (decide (v8<(l0.length:Int))) then (bif ((decide (0≤v8∧v8<(l0.length:Int)))&&true) then (bif (decide ((rd l0 v8.toNat).a <(rd l0 v8.toNat).b)) then (bif (decide ((rd l0 v8.toNat).a ≥(-1000000))) then (bif (!(decide ((rd l0 v8.toNat).b ≤1000000))) then (bif (decide (v8≥0)) then (.ret [.nils,(.int .i64 8)]) else (.to (.h1 ([]:List R3) 0))) else (.to (.h0 (wrap .i64 (v8+1))))) else (bif (decide (v8≥0)) then (.ret [.nils,(.int .i64 8)]) else (.to (.h1 ([]:List R3) 0)))) else (bif (decide (v8≥0)) then (.ret [.nils,(.int .i64 8)]) else (.to (.h1 ([]:List R3) 0)))) else .stuck) else (.to (.h1 ([]:List R3) 0)))
 | .h1 v3 v17=>(bif (decide (v17<(l0.length:Int))) then (bif ((decide (0≤v17∧v17<(l0.length:Int)))&&true) then (bif (Nat.beq 3 3&&((decide (0+v3.length=v3.length))&&decide ((v3.length+2+1)*(24+1)≤Jh))) then (.to (.h1 (v3++[(R3.mk (rd l0 v17.toNat).a 0 1),(R3.mk (rd l0 v17.toNat).b 0 (-1))]) (wrap .i64 (v17+1)))) else .stuck) else .stuck) else (bif (y3l (cvT v3)) then (bif (decide (v3.length<4611686018427387904)) then (bif (decide (v3.length=v3.length)) then (.to (.h2 (z1x (cvT v3)) (v3.length:Int) 0 0 0 0 false ([]:List R2))) else .stuck) else .stuck) else .stuck))
 | .h2 v5 v6 v7 aC bM aV aI aA=>(bif (decide (v7<v6)) then (bif ((decide (0≤v7∧v7<(v5.length:Int)))&&true) then (bif (decide ((0+v7.toNat)<v5.length)) then (bif (!aI) then (bif (decide ((rd v5 (0+v7.toNat)).b =Int.ofNat 0)) then (.to (.h2 v5 v6 (wrap .i64 (v7+1)) (wrap .i64 (aC+(rd v5 (0+v7.toNat)).c)) bM (rd v5 (0+v7.toNat)).a (w6q (decide ((wrap .i64 (aC+(rd v5 (0+v7.toNat)).c))>0)) (decide (bM>0))) aA)) else (bif (decide ((rd v5 (0+v7.toNat)).b =Int.ofNat 1)) then (.to (.h2 v5 v6 (wrap .i64 (v7+1)) aC (wrap .i64 (bM+(rd v5 (0+v7.toNat)).c)) (rd v5 (0+v7.toNat)).a (w6q (decide (aC>0)) (decide ((wrap .i64 (bM+(rd v5 (0+v7.toNat)).c))>0))) aA)) else .stuck)) else (bif (aV == (rd v5 (0+v7.toNat)).a) then (bif (decide ((rd v5 (0+v7.toNat)).b =Int.ofNat 0)) then (.to (.h2 v5 v6 (wrap .i64 (v7+1)) (wrap .i64 (aC+(rd v5 (0+v7.toNat)).c)) bM (rd v5 (0+v7.toNat)).a (w6q (decide ((wrap .i64 (aC+(rd v5 (0+v7.toNat)).c))>0)) (decide (bM>0))) aA)) else (bif (decide ((rd v5 (0+v7.toNat)).b =Int.ofNat 1)) then (.to (.h2 v5 v6 (wrap .i64 (v7+1)) aC (wrap .i64 (bM+(rd v5 (0+v7.toNat)).c)) (rd v5 (0+v7.toNat)).a (w6q (decide (aC>0)) (decide ((wrap .i64 (bM+(rd v5 (0+v7.toNat)).c))>0))) aA)) else .stuck)) else (bif (decide ((aA.length:Int)>0)) then (bif ((decide (0≤(wrap .i64 ((aA.length:Int) - 1))∧(wrap .i64 ((aA.length:Int) - 1))<(aA.length:Int)))&&true) then (bif (decide ((0+(Int.toNat (wrap .i64 ((aA.length:Int) - 1))))<aA.length)) then (bif ((rd aA (0+(Int.toNat (wrap .i64 ((aA.length:Int) - 1))))).b == aV) then (bif (decide ((rd v5 (0+v7.toNat)).b =Int.ofNat 0)) then (.to (.h2 v5 v6 (wrap .i64 (v7+1)) (wrap .i64 (aC+(rd v5 (0+v7.toNat)).c)) bM (rd v5 (0+v7.toNat)).a (w6q (decide ((wrap .i64 (aC+(rd v5 (0+v7.toNat)).c))>0)) (decide (bM>0))) (aA.set (0+(Int.toNat (wrap .i64 ((aA.length:Int) - 1)))) (R2.mk (rd aA (0+(Int.toNat (wrap .i64 ((aA.length:Int) - 1))))).a (rd v5 (0+v7.toNat)).a)))) else (bif (decide ((rd v5 (0+v7.toNat)).b =Int.ofNat 1)) then (.to (.h2 v5 v6 (wrap .i64 (v7+1)) aC (wrap .i64 (bM+(rd v5 (0+v7.toNat)).c)) (rd v5 (0+v7.toNat)).a (w6q (decide (aC>0)) (decide ((wrap .i64 (bM+(rd v5 (0+v7.toNat)).c))>0))) (aA.set (0+(Int.toNat (wrap .i64 ((aA.length:Int) - 1)))) (R2.mk (rd aA (0+(Int.toNat (wrap .i64 ((aA.length:Int) - 1))))).a (rd v5 (0+v7.toNat)).a)))) else .stuck)) else (bif (Nat.beq 2 2&&((decide (0+aA.length=aA.length))&&decide ((aA.length+1+1)*(16+1)≤Jh))) then (bif (decide ((rd v5 (0+v7.toNat)).b =Int.ofNat 0)) then (.to (.h2 v5 v6 (wrap .i64 (v7+1)) (wrap .i64 (aC+(rd v5 (0+v7.toNat)).c)) bM (rd v5 (0+v7.toNat)).a (w6q (decide ((wrap .i64 (aC+(rd v5 (0+v7.toNat)).c))>0)) (decide (bM>0))) (aA++[(R2.mk aV (rd v5 (0+v7.toNat)).a)]))) else (bif (decide ((rd v5 (0+v7.toNat)).b =Int.ofNat 1)) then (.to (.h2 v5 v6 (wrap .i64 (v7+1)) aC (wrap .i64 (bM+(rd v5 (0+v7.toNat)).c)) (rd v5 (0+v7.toNat)).a (w6q (decide (aC>0)) (decide ((wrap .i64 (bM+(rd v5 (0+v7.toNat)).c))>0))) (aA++[(R2.mk aV (rd v5 (0+v7.toNat)).a)]))) else .stuck)) else .stuck)) else .stuck) else .stuck) else (bif (Nat.beq 2 2&&((decide (0+aA.length=aA.length))&&decide ((aA.length+1+1)*(16+1)≤Jh))) then (bif (decide ((rd v5 (0+v7.toNat)).b =Int.ofNat 0)) then (.to (.h2 v5 v6 (wrap .i64 (v7+1)) (wrap .i64 (aC+(rd v5 (0+v7.toNat)).c)) bM (rd v5 (0+v7.toNat)).a (w6q (decide ((wrap .i64 (aC+(rd v5 (0+v7.toNat)).c))>0)) (decide (bM>0))) (aA++[(R2.mk aV (rd v5 (0+v7.toNat)).a)]))) else (bif (decide ((rd v5 (0+v7.toNat)).b =Int.ofNat 1)) then (.to (.h2 v5 v6 (wrap .i64 (v7+1)) aC (wrap .i64 (bM+(rd v5 (0+v7.toNat)).c)) (rd v5 (0+v7.toNat)).a (w6q (decide (aC>0)) (decide ((wrap .i64 (bM+(rd v5 (0+v7.toNat)).c))>0))) (aA++[(R2.mk aV (rd v5 (0+v7.toNat)).a)]))) else .stuck)) else .stuck)))) else .stuck) else .stuck) else (.ret [(.dat aA.length (Zz aA)),(.int .i64 0)]))
def y4a (l0:List R2):Xu spmS:=(bif (decide ((l0.length:Int)>400)) then (.ret [.nils,(.int .i64 4)]) else (.to (.h0 0)))
theorem w8d (l0:List R2): ∀s,Xq prog (Zy prog 156) (spmC l0) (spmC l0 s) (Jw l0 s)
 | .h0 v8=>(lb (fun k0=>(lo fun aH=>(lb (fun k1=>(lb (fun k2=>(lb (fun k3=>(lb (fun k4=>(lr 11 156 [1,1,0,1,0,0] 1 14 [(2,.nils),(3,(ii 8))] (sl z0q 79 [] ⟨[],[],[some [2,3]],[]⟩ ⟨[],[],[]⟩ (trs 9 []) (tt k4 (tt k3 (tt k2 (tt k1 (ww aH (tt k0 nn))))))))) (fun k4=>(sl z0q 154 [(227,3,Zz ([]:List R3))] ⟨[8,2,3,4,5,6,7,9],[],v3f,v3g⟩ ⟨[(3,.grow 7 3)],[],[]⟩ (trs 8 (bl 2 2)) (pp (fl ([]:List R3) nn) (tt k4 (tt k3 (tt k2 (tt k1 (ww aH (tt k0 nn))))))))))) (fun k3=>(sl z0q 69 [] ⟨[],[],spmN0,spmM0⟩ ⟨[],[],[]⟩ (trs 7 [false]) (tt k3 (tt k2 (tt k1 (ww aH (tt k0 nn))))))))) (fun k2=>(lb (fun k3=>(lr 11 156 [1,1,0,1,0,0] 1 14 [(2,.nils),(3,(ii 8))] (sl z0q 79 [] ⟨[],[],[some [2,3]],[]⟩ ⟨[],[],[]⟩ (trs 4 (bl 5 24)) (tt k3 (tt k2 (tt k1 (ww aH (tt k0 nn)))))))) (fun k3=>(sl z0q 154 [(227,3,Zz ([]:List R3))] ⟨[8,2,3,4,5,6,7,9],[],v3f,v3g⟩ ⟨[(3,.grow 7 3)],[],[]⟩ (trs 4 (bl 6 40)) (pp (fl ([]:List R3) nn) (tt k3 (tt k2 (tt k1 (ww aH (tt k0 nn)))))))))))) (fun k1=>(lb (fun k2=>(lr 11 156 [1,1,0,1,0,0] 1 14 [(2,.nils),(3,(ii 8))] (sl z0q 79 [] ⟨[],[],[some [2,3]],[]⟩ ⟨[],[],[]⟩ (bl 9 385) (tt k2 (tt k1 (ww aH (tt k0 nn))))))) (fun k2=>(sl z0q 154 [(227,3,Zz ([]:List R3))] ⟨[8,2,3,4,5,6,7,9],[],v3f,v3g⟩ ⟨[(3,.grow 7 3)],[],[]⟩ (bl 10 641) (pp (fl ([]:List R3) nn) (tt k2 (tt k1 (ww aH (tt k0 nn)))))))))))) (fun k0=>(sl z0q 98 [(227,3,Zz ([]:List R3))] ⟨[6,0,1,2,3,4,5,7],[],v3f,v3g⟩ ⟨[(3,.grow 7 3)],[],[]⟩ (bl 3 4) (pp (fl ([]:List R3) nn) (tt k0 nn)))))
 | .h1 v3 v17=>(lb (fun k0=>(lo fun o0=>(lo fun o1=>(sl z0q 36 [] ⟨[0,1,2,3,4,5,6,10],[],v3f,v3g⟩ ⟨[(3,.len (x0a v3 l0 v17).length)],(kpB 7 [.rowed 3 (x0a v3 l0 v17).length (Zz (x0a v3 l0 v17))]),[]⟩ [true] (pp (xL (v3.length+2) (x0a v3 l0 v17).length) (pp (xL (v3.length+2) (x0a v3 l0 v17).length) (pp (xS (v3.length+2) (Zr (Zz v3) 0 v3.length 3 [(ii (rd l0 (tn v17)).a),(ii 0),(ii 1),(ii (rd l0 (tn v17)).b),(ii 0),(ii (-1))]) (Zz (x0a v3 l0 v17))) (pp (pp (xF (Zr (Zz v3) 0 v3.length 3 [(ii (rd l0 (tn v17)).a),(ii 0),(ii 1),(ii (rd l0 (tn v17)).b),(ii 0),(ii (-1))])) nn) (ww o1 (ww o0 (tt k0 nn))))))))))) (fun k0=>(lo fun o0=>(lo fun o1=>(lo fun o2=>(sl z0q 92 [(176,2,Zz ([]:List R2))] ⟨[9,1,2,4,5,6,3,7,10],[],y6j,y6k⟩ ⟨[(5,.len (z1x (cvT v3)).length)],(kpB 6 [.cells [.grow 8 2],.rowed 3 (z1x (cvT v3)).length (Zz (z1x (cvT v3))),.keep]),[]⟩ (bl 4 2) (pp (xL v3.length (z1x (cvT v3)).length (by first | exact z9t _ | exact Uz rfl)) (pp (xL v3.length (z1x (cvT v3)).length (by first | exact z9t _ | exact Uz rfl)) (pp (xS v3.length (Zz (z1x (cvT v3))) (Zz (z1x (cvT v3)))) (pp (fl (z1x (cvT v3)) (fl ([]:List R2) nn)) (pp (pp (xG (Nat.beq 3 3)) (pp (xG (Nat.beq 3 3)) (pp (xG (Nat.beq 0 0)) (pp (pp (xG (decide (v3.length=v3.length))) (pp (xr v3) (xG (decide (v3.length<4611686018427387904))))) (xG (y3l (cvT v3))))))) (tt k0 nn))))))))))))
 | .h2 v5 v6 v7 aC bM aV aI aA=>(lb (fun k0=>(lo fun aH=>(lo fun aY=>(lb (fun k1=>(lb (fun k2=>(sl z0q 62 [] ⟨(List.range 9),[],y6j,y6k⟩ ⟨[],[],[]⟩ (trs 5 (bl 3 0)) (pp (fl v5 (fl aA nn)) (ww k2 (tt k1 (ww aY (ww aH (tt k0 nn)))))))) (fun k2=>(lb (fun k3=>(sl z0q 62 [] ⟨(List.range 9),[],y6j,y6k⟩ ⟨[],[],[]⟩ (trs 6 (bl 4 2)) (pp (fl v5 (fl aA nn)) (ww k3 (tt k1 (ww aY (ww aH (tt k0 nn)))))))) (fun k3=>trivial))))) (fun k1=>(lb (fun k2=>(lb (fun k3=>(sl z0q 62 [] ⟨(List.range 9),[],y6j,y6k⟩ ⟨[],[],[]⟩ (bl 8 17) (pp (fl v5 (fl aA nn)) (ww k3 (tt k2 (tt k1 (ww aY (ww aH (tt k0 nn))))))))) (fun k3=>(lb (fun k4=>(sl z0q 62 [] ⟨(List.range 9),[],y6j,y6k⟩ ⟨[],[],[]⟩ (bl 10 177) (pp (fl v5 (fl aA nn)) (ww k4 (tt k2 (tt k1 (ww aY (ww aH (tt k0 nn))))))))) (fun k4=>trivial))))) (fun k2=>(lb (fun k3=>(lo fun bZ=>(lo fun dH=>(lb (fun k4=>(lb (fun k5=>(sl z0q 81 [] ⟨(List.range 9),[],y6j,y6k⟩ ⟨[],(kpB 6 [.cells [.len (aA.set (0+(tn (wr ((aA.length:Int) - 1)))) (R2.mk (rd aA (0+(tn (wr ((aA.length:Int) - 1))))).a (rd v5 (0+(tn v7))).a)).length],.keep,.rowed 2 (aA.set (0+(tn (wr ((aA.length:Int) - 1)))) (R2.mk (rd aA (0+(tn (wr ((aA.length:Int) - 1))))).a (rd v5 (0+(tn v7))).a)).length (Zz (aA.set (0+(tn (wr ((aA.length:Int) - 1)))) (R2.mk (rd aA (0+(tn (wr ((aA.length:Int) - 1))))).a (rd v5 (0+(tn v7))).a)))]),[]⟩ (bl 17 16353) (pp (xL aA.length (aA.set (0+(tn (wr ((aA.length:Int) - 1)))) (R2.mk (rd aA (0+(tn (wr ((aA.length:Int) - 1))))).a (rd v5 (0+(tn v7))).a)).length) (pp (xL aA.length (aA.set (0+(tn (wr ((aA.length:Int) - 1)))) (R2.mk (rd aA (0+(tn (wr ((aA.length:Int) - 1))))).a (rd v5 (0+(tn v7))).a)).length) (pp (xS aA.length (Xr (Zz aA) (0+(tn (wr ((aA.length:Int) - 1)))) 1 [(ii (rd v5 (0+(tn v7))).a)]) (Zz (aA.set (0+(tn (wr ((aA.length:Int) - 1)))) (R2.mk (rd aA (0+(tn (wr ((aA.length:Int) - 1))))).a (rd v5 (0+(tn v7))).a)))) (pp (fl v5 (pp (xF (Xr (Zz aA) (0+(tn (wr ((aA.length:Int) - 1)))) 1 [(ii (rd v5 (0+(tn v7))).a)])) nn)) (ww k5 (ww dH (ww bZ (tt k4 (ww dH (ww bZ (tt k3 (tt k2 (tt k1 (ww aY (ww aH (tt k0 nn)))))))))))))))))) (fun k5=>(lb (fun k6=>(sl z0q 81 [] ⟨(List.range 9),[],y6j,y6k⟩ ⟨[],(kpB 6 [.cells [.len (aA.set (0+(tn (wr ((aA.length:Int) - 1)))) (R2.mk (rd aA (0+(tn (wr ((aA.length:Int) - 1))))).a (rd v5 (0+(tn v7))).a)).length],.keep,.rowed 2 (aA.set (0+(tn (wr ((aA.length:Int) - 1)))) (R2.mk (rd aA (0+(tn (wr ((aA.length:Int) - 1))))).a (rd v5 (0+(tn v7))).a)).length (Zz (aA.set (0+(tn (wr ((aA.length:Int) - 1)))) (R2.mk (rd aA (0+(tn (wr ((aA.length:Int) - 1))))).a (rd v5 (0+(tn v7))).a)))]),[]⟩ (bl 19 98273) (pp (xL aA.length (aA.set (0+(tn (wr ((aA.length:Int) - 1)))) (R2.mk (rd aA (0+(tn (wr ((aA.length:Int) - 1))))).a (rd v5 (0+(tn v7))).a)).length) (pp (xL aA.length (aA.set (0+(tn (wr ((aA.length:Int) - 1)))) (R2.mk (rd aA (0+(tn (wr ((aA.length:Int) - 1))))).a (rd v5 (0+(tn v7))).a)).length) (pp (xS aA.length (Xr (Zz aA) (0+(tn (wr ((aA.length:Int) - 1)))) 1 [(ii (rd v5 (0+(tn v7))).a)]) (Zz (aA.set (0+(tn (wr ((aA.length:Int) - 1)))) (R2.mk (rd aA (0+(tn (wr ((aA.length:Int) - 1))))).a (rd v5 (0+(tn v7))).a)))) (pp (fl v5 (pp (xF (Xr (Zz aA) (0+(tn (wr ((aA.length:Int) - 1)))) 1 [(ii (rd v5 (0+(tn v7))).a)])) nn)) (ww k6 (ww dH (ww bZ (tt k4 (ww dH (ww bZ (tt k3 (tt k2 (tt k1 (ww aY (ww aH (tt k0 nn)))))))))))))))))) (fun k6=>trivial))))) (fun k4=>(lo fun cZ=>(lb (fun k5=>(sl z0q 81 [] ⟨[0,1,2,3,4,5,6,7,12],[],y6j,y6k⟩ ⟨[],(kpB 6 [.cells [.len (Uh aA aV v5 v7).length],.keep,.rowed 2 (Uh aA aV v5 v7).length (Zz (Uh aA aV v5 v7))]),[]⟩ (bl 17 8161) (pp (xL (aA.length+1) (Uh aA aV v5 v7).length) (pp (xL (aA.length+1) (Uh aA aV v5 v7).length) (pp (xS (aA.length+1) (y2u aA aV v5 v7) (Zz (Uh aA aV v5 v7))) (pp (fl v5 (pp (xF (y2u aA aV v5 v7)) nn)) (ww k5 (ww cZ (tt k4 (ww dH (ww bZ (tt k3 (tt k2 (tt k1 (ww aY (ww aH (tt k0 nn))))))))))))))))) (fun k5=>(lb (fun k6=>(sl z0q 81 [] ⟨[0,1,2,3,4,5,6,7,12],[],y6j,y6k⟩ ⟨[],(kpB 6 [.cells [.len (Uh aA aV v5 v7).length],.keep,.rowed 2 (Uh aA aV v5 v7).length (Zz (Uh aA aV v5 v7))]),[]⟩ (bl 19 90081) (pp (xL (aA.length+1) (Uh aA aV v5 v7).length) (pp (xL (aA.length+1) (Uh aA aV v5 v7).length) (pp (xS (aA.length+1) (y2u aA aV v5 v7) (Zz (Uh aA aV v5 v7))) (pp (fl v5 (pp (xF (y2u aA aV v5 v7)) nn)) (ww k6 (ww cZ (tt k4 (ww dH (ww bZ (tt k3 (tt k2 (tt k1 (ww aY (ww aH (tt k0 nn))))))))))))))))) (fun k6=>trivial)))))))))) (fun k3=>(lo fun bZ=>(lb (fun k4=>(sl z0q 81 [] ⟨[0,1,2,3,4,5,6,7,12],[],y6j,y6k⟩ ⟨[],(kpB 6 [.cells [.len (Uh aA aV v5 v7).length],.keep,.rowed 2 (Uh aA aV v5 v7).length (Zz (Uh aA aV v5 v7))]),[]⟩ (bl 17 1) (pp (xL (aA.length+1) (Uh aA aV v5 v7).length) (pp (xL (aA.length+1) (Uh aA aV v5 v7).length) (pp (xS (aA.length+1) (y2u aA aV v5 v7) (Zz (Uh aA aV v5 v7))) (pp (fl v5 (pp (xF (y2u aA aV v5 v7)) nn)) (ww k4 (ww bZ (tt k3 (tt k2 (tt k1 (ww aY (ww aH (tt k0 nn)))))))))))))) (fun k4=>(lb (fun k5=>(sl z0q 81 [] ⟨[0,1,2,3,4,5,6,7,12],[],y6j,y6k⟩ ⟨[],(kpB 6 [.cells [.len (Uh aA aV v5 v7).length],.keep,.rowed 2 (Uh aA aV v5 v7).length (Zz (Uh aA aV v5 v7))]),[]⟩ (bl 19 81921) (pp (xL (aA.length+1) (Uh aA aV v5 v7).length) (pp (xL (aA.length+1) (Uh aA aV v5 v7).length) (pp (xS (aA.length+1) (y2u aA aV v5 v7) (Zz (Uh aA aV v5 v7))) (pp (fl v5 (pp (xF (y2u aA aV v5 v7)) nn)) (ww k5 (ww bZ (tt k3 (tt k2 (tt k1 (ww aY (ww aH (tt k0 nn)))))))))))))) (fun k5=>trivial)))))))))))))) (fun k0=>(lr 11 3 [1,1,1,1,0] 1 14 [(2,(.dat aA.length (Zz aA))),(3,(ii 0))] (sl z0q 19 [] ⟨[],[8],[some [2,3]],[]⟩ ⟨[(2,.frz aA.length aA.length (Zz aA) (Zz aA))],[],[]⟩ [false] (pp (xZ (z5q 2 2 0 aA.length aA.length (Zz aA)) aA.length (Zz aA)) (pp (xL aA.length aA.length) (pp (xS aA.length (Zz aA) (Zz aA)) (pp (fl aA nn) (tt k0 nn)))))))))
theorem x9g (l0:List R2):Xq prog (Zy prog 156) (spmC l0) (Zb prog 156 [(.dat l0.length (Zz l0))] true []) (y4a l0):=(lb (fun k0=>(lr 11 156 [1,0,1,0,0] 1 14 [(2,.nils),(3,(ii 4))] (sl z0q 18 [] ⟨[],[],[some [2,3]],[]⟩ ⟨[],[],[]⟩ [true] (tt k0 nn)))) (fun k0=>(sl z0q 41 [] ⟨[],[],spmN0,spmM0⟩ ⟨[],[],[]⟩ [false] (tt k0 nn))))
theorem u0g (l0:List R2) (n:Nat) (vs:List AVal) (h:Yy (Jw l0) n (y4a l0)=.ret vs):Jx prog (Zy prog 156) (Zb prog 156 [(.dat l0.length (Zz l0))] true []) vs:=by have:=Zd (w8d l0) n _ (x9g l0);rwa [h] at this
def z1j (s:R2):Bool:=decide (s.a<s.b)&&(decide (s.a≥ -1000000)&&decide (s.b≤1000000))
def Qx (l:List R2):List R3:=l.flatMap fun s=>[⟨s.a,0,1⟩,⟨s.b,0,-1⟩]
def Vi (out:List R2) (last:Int) (inn:Bool) (at':Int):List R2:=
 bif !inn then out else bif last == at' then out else
 bif decide (0<out.length)&&((rd out (out.length - 1)).b == last) then out.set (out.length - 1) ⟨(rd out (out.length - 1)).a,at'⟩ else out++[⟨last,at'⟩]
def swF :List R3→Int→Int→Bool→List R2→List R2
 | [],_,_,_,out=>out
 | e::r,o,last,inn,out=>swF r (o+e.c) e.a (decide (o+e.c>0)) (Vi out last inn e.a)
def swV (l:List R2):List R2:=swF (z1x (Qx l)) 0 0 false []
def Xh (l:List R2):List R2:=bif decide (400<l.length) then [] else bif l.all z1j then swV l else []
def u6e (l:List R2):Int:=bif decide (400<l.length) then 4 else bif l.all z1j then 0 else 8
def y6i (l:List R2):Bool:=true
def x5q (l:List R2):List AVal:=bif decide (400<l.length) then [.nils,.int .i64 4] else bif l.all z1j then [.dat (swV l).length (Zz (swV l)),.int .i64 0] else [.nils,.int .i64 8]
theorem z5s (l:List R2):(Qx l).length =2*l.length:=by
 induction l with
 | nil=>rfl
 | cons r l ih=>show (_::_::Qx l).length =_;simp only [AU,ih];omega
theorem z4d (out:List R2) (last:Int) (inn:Bool) (a:Int):(Vi out last inn a).length ≤out.length+1:=by
 unfold Vi;cases inn <;> simp only [AE,AG,Ab,Aa]
 ·omega
 ·cases (last == a) <;> simp only [Ab,Aa]
  ·cases (decide (0<out.length)&&((rd out (out.length - 1)).b == last)) <;> simp
  ·omega
theorem y3x (e:R3) (r:List R3) (o last:Int) (inn:Bool) (out:List R2):swF (e::r) o last inn out=swF r (o+e.c) e.a (decide (o+e.c>0)) (Vi out last inn e.a):=rfl
theorem j5b {a:Int} (k:Nat) (h:a=(k:Int)):decide (a=Int.ofNat k)=true:=Ai h
section
variable (l:List R2) (hl:l.length≤400)
include hl
theorem u6a (L:List R3) (hL:L.length≤800) (hE: ∀i,i<L.length→(rd L i).b =0∧((rd L i).c =1∨(rd L i).c = -1)): ∀(k i:Nat) (o last:Int) (inn:Bool) (out:List R2),i+k=L.length→ -(i:Int)≤o→o≤i→out.length≤i→
  ∃n,Yy (Jw l) n (.to (.h2 L (L.length:Int) (i:Int) o 0 last inn out))=.ret [.dat (swF (L.drop i) o last inn out).length (Zz (swF (L.drop i) o last inn out)),.int .i64 0]
 | 0,i,o,last,inn,out,h,ho1,ho2,hout=>by have _uhl:=hl;refine ⟨1,?_⟩;rw [Zv,Au (by omega)];simp (disch:=omega) only [Jw,Zt,Aa,Zp,swF]
 | k +1,i,o,last,inn,out,h,ho1,ho2,hout=>by
  obtain ⟨hb,hc⟩:=hE i (by omega);have hcl:=z4d out last inn (rd L i).a;obtain ⟨n,hn⟩:=u6a L hL hE k (i+1) (o+(rd L i).c) (rd L i).a (decide (o+(rd L i).c >0)) (Vi out last inn (rd L i).a) (by omega) (by rcases hc with hc | hc <;> omega) (by rcases hc with hc | hc <;> omega) (by omega);refine ⟨n+1,?_⟩;rw [Yg (show i<L.length by omega),Zv];have hf: ∀b,w6q b (decide ((0:Int)>0))=b:=fun b=>rfl;have hw:wrap .i64 (o+(rd L i).c)=o+(rd L i).c :=Zk (by rcases hc with hc | hc <;> omega);rw [y3x];have hf': ∀b,w6q b false=b:=fun b=>rfl;have hz:=j5b 0 hb;unfold Vi at hn ⊢;cases inn with
  | false=>simp only [AG,Ab] at hn ⊢;simp (disch:=omega) only [Jw,AG,hz,hw,hf,hf',Zi,Zf,Yu,Zk,Zx,Zj,Ag,Ah,Ab];exact hn
  | true=>
   simp only [AE,Aa] at hn ⊢;rcases Yx (last == (rd L i).a) with q | q
   ·rw [q] at hn ⊢;simp only [Ab] at hn ⊢;simp (disch:=omega) only [Jw,AE,q,hz,hw,hf,hf',Zi,Zf,Yu,Zk,Zx,Zj,Ag,Ah,Ab,Aa];exact hn
   ·rw [q] at hn ⊢;simp only [Aa] at hn ⊢;by_cases h0:0<out.length
    ·rw [Ai h0,Aj] at hn ⊢;rcases Yx ((rd out (out.length - 1)).b == last) with q2 | q2
     ·rw [q2] at hn ⊢;simp only [Ab] at hn ⊢;simp (disch:=omega) only [Jw,AE,q,q2,hz,hw,hf,hf',Zi,Yt,Zf,Yu,Zk,Zx,Zj,Zn,Ag,Ah,Ab,Aa];exact hn
     ·rw [q2] at hn ⊢;simp only [Aa] at hn ⊢;simp (disch:=omega) only [Jw,AE,q,q2,hz,hw,hf,hf',Zi,Yt,Zf,Yu,Yp,Zh,Yc,Av,Zk,Zx,Zj,Zn,Ag,Ah,Aj,Ab,Aa];exact hn
    ·rw [An h0,A5] at hn ⊢;simp only [Aa] at hn ⊢;simp (disch:=omega) only [Jw,AE,q,hz,hw,hf,hf',Zi,Xc,Zf,Yu,Yp,Zh,Yc,Av,Zk,Zx,Zj,Ag,Ah,Aj,Ab,Aa];exact hn
theorem v8a (h:l.all z1j=true): ∀e∈Qx l,bnd3 e=true∧e.b=0∧(e.c=1∨e.c= -1):=by
 have _uhl:=hl;intro e he;obtain ⟨s,hs,h1⟩:=AN.1 he;have hv:=At.1 h s hs;simp only [z1j,Ac,As] at hv;simp only [AI,BC,Cm] at h1;rcases h1 with rfl | rfl
 ·exact ⟨Ai (by simp only;omega),rfl,.inl rfl⟩
 ·exact ⟨Ai (by simp only;omega),rfl,.inr rfl⟩
theorem u6b (hv:l.all z1j=true): ∀(k i:Nat) (acc:List R3),i+k=l.length→acc=Qx (l.take i)→ ∃n,Yy (Jw l) n (.to (.h1 acc (i:Int)))=.ret [.dat (swV l).length (Zz (swV l)),.int .i64 0]
 | 0,i,acc,h,ha=>by
  have e:acc=Qx l:=by rw [ha,AP (by omega)]
  subst e;have hle:=z5s l;have eZ:=v8a l hl hv;have hb:y3l (Qx l)=true:=At.2 fun e he=>(eZ e he).1;obtain ⟨hp,_⟩:=Qh (Qx l) hb;have hpl:=hp.length_eq;obtain ⟨n,hn⟩:=u6a l hl (z1x (Qx l)) (by omega) (fun i hi=>by
   rw [Yi hi];exact (eZ _ (hp.mem_iff.1 (AM hi))).2) (z1x (Qx l)).length 0 0 0 false [] (Ag _) (by omega) (by omega) (AD _)
  refine ⟨n+1,?_⟩;rw [Zv];simp (disch:=omega) only [Jw,Zg,Zq,hb,Zt,Yu,Yp,Av,Ab,Aa];rw [←hpl];simp only [z4q,AX] at hn;exact hn
 | k+1,i,acc,h,ha=>by
  have hle:=z5s (l.take i);have gG:acc.length≤2*i:=by rw [ha,hle];simp;omega
  obtain ⟨n,hn⟩:=u6b hv k (i+1) (acc++Qx [rd l i]) (by omega) (by
   rw [ha,Bg];have:l[i]? =some (rd l i):=by rw [Yi (show i<l.length by omega)];exact Ao _
   rw [this];simp [Qx])
  refine ⟨n+1,?_⟩;rw [Zv];simp (disch:=omega) only [Jw,Zi,Zf,Yb,Yp,Zh,Yc,Av,Zk,Zx,Zj,Ag,Ah,Aj,Ab];exact hn
theorem u6c : ∀(k i:Nat),i+k=l.length→(∀s∈l.take i,z1j s=true)→ ∃n,Yy (Jw l) n (.to (.h0 (i:Int)))=.ret (bif l.all z1j then [.dat (swV l).length (Zz (swV l)),.int .i64 0] else [.nils,.int .i64 8])
 | 0,i,h,ht=>by have hv:l.all z1j=true:=At.2 fun s hs=>ht s (by rw [AP (by omega)];exact hs);obtain ⟨n,hn⟩:=u6b l hl hv l.length 0 [] (Ag _) rfl;refine ⟨n+1,?_⟩;rw [Zv,hv,Ab];simp (disch:=omega) only [Jw,Zt,Aa];exact hn
 | k+1,i,h,ht=>by
  have hi:i<l.length:=by omega
  rcases Yx (z1j (rd l i)) with q | q
  ·obtain ⟨n,hn⟩:=u6c k (i+1) (by omega) (fun s hs=>by
    rw [Bg] at hs;have e:l[i]? =some (rd l i):=by rw [Yi hi];exact Ao _
    rw [e] at hs;simp only [Cq,AF,AT] at hs;rcases hs with hs | rfl
    ·exact ht s hs
    ·exact q)
   refine ⟨n+1,?_⟩;rw [Zv];simp only [z1j,Ac,As] at q;simp (disch:=omega) only [Jw,Zi,Xo,u5d,Zf,Zk,Zx,Zj,AE,Ah,Ab,Aa];exact hn
  ·have hv:l.all z1j=false:=A4.2 fun e=>by have:=At.1 e (rd l i) (by rw [Yi hi];exact AM hi);rw [this] at q;cases q
   refine ⟨1,?_⟩;rw [Zv,hv,Aa];unfold z1j at q;rcases Yx (decide ((rd l i).a <(rd l i).b)) with q1 | q1 <;> rcases Yx (decide ((rd l i).a ≥ -1000000)) with q2 | q2 <;> rcases Yx (decide ((rd l i).b ≤1000000)) with q3 | q3 <;>
    rw [q1,q2,q3] at q <;> first
    | (exfalso;revert q;decide)
    | simp (disch:=omega) only [Jw,q1,q2,q3,Zi,u5d,Zf,Zk,Zx,Zj,AE,AG,Ah,Ab,Aa,Zp]
end
theorem j1u (l:List R2): ∃n,Yy (Jw l) n (y4a l)=.ret (x5q l):=by
 unfold y4a x5q;by_cases h:400<l.length
 ·refine ⟨0,?_⟩;rw [Ai h,Yt (show (l.length:Int)>400 by omega)];rfl
 ·obtain ⟨n,hn⟩:=u6c l (by omega) l.length 0 (Ag _) (fun s hs=>by simp at hs);refine ⟨n,?_⟩;rw [An h,Xc (show¬(l.length:Int)>400 by omega),Aa,Aa];exact hn
def fSpm :List AVal→Option (AVal×Bool)
 | [a1]=>match asL R2 a1 with
  | some (L1,g1,n1)=>some (.tup [.dat (Xh L1).length (Zz (Xh L1)),.int .i64 (u6e L1)],isT R2 n1 g1&&y6i L1)
  | _=>none
 | _=>none
theorem j6g {S:Specs} (hS:Zu prog S):Zu prog (S.with x6t fSpm):=by
 refine w3d hS (by kernel_rfl) fun args v h=> ?_;unfold fSpm at h;split at h
 ·rename_i a1;split at h
  ·rename_i L1 g1 n1 e1;simp only [Ae,Ad,Ac] at h;obtain ⟨rfl,ho1,hw⟩:=h;obtain ⟨N,hN⟩:=j1u L1;refine ⟨_,x5q L1,(.cons (Yh e1 ho1) .nil),?_,u0g L1 N _ hN,3,?_⟩
   ·unfold Xh u6e x5q;cases decide (400<L1.length) <;> simp only [Ab,Aa]
    ·cases L1.all z1j <;> simp only [Ab,Aa]
     ·exact fun ρ u hu=>y6b (.cons (z7u R2) (RLe.refl _)) ρ u hu
     ·exact fun ρ u hu=>hu
    ·exact fun ρ u hu=>y6b (.cons (z7u R2) (RLe.refl _)) ρ u hu
   ·unfold x5q;cases decide (400<L1.length) <;> simp only [Ab,Aa]
    ·cases L1.all z1j <;> rfl
    ·rfl
  ·cases h
 ·cases h
def T6 :Specs:=T5.with x6t fSpm
theorem Qy :Zu prog T6:=j6g z0q
theorem y2i {γ:Type} (a b:Bool) (x y:γ):(bif a&&b then x else y)=bif a then (bif b then x else y) else y:=by cases a <;> rfl
theorem y2h {γ:Type} (a:Bool) (x y:γ):(bif !a then x else y)=bif a then y else x:=by cases a <;> rfl
structure Dim (α β:Type) where
 lo:α→Int
 hi:α→Int
 pr:α→β
 put:Int→Int→β→α
 ext:Int→α→α
 mak:List β→List β
 same:List β→List β→Bool
structure Sw (α β:Type) where
 out:List α
 last:List β
 first:Nat
 fin:Int
def Js (zs:List Int):List Int:=compact (Xf zs)
theorem y2f (zs:List Int):v8p (Xf zs)=(Js zs).length :=rfl
theorem Vr (zs:List Int):(Xf zs).length =zs.length:=List.length_mergeSort zs
theorem x4n (zs:List Int):(Js zs).length ≤zs.length:=by have:=compact_length_le (Xf zs);rw [Vr] at this;exact this
theorem z6y (zs:List Int) (i:Nat) (h:i<(Js zs).length):rd (Wo (Xf zs)) i=rd (Js zs) i:=by change i<(compact (Xf zs)).length at h;show rd (compact (Xf zs)++_) i=rd (compact (Xf zs)) i;rw [Yi (by rw [Aw];exact Nat.lt_add_right _ h),Yi h,BA h]
theorem z0t (zs:List Int):Ye zs.length (cOf (Zz (Xf zs)))=Xf zs:=by have:=Kv (Xf zs);rw [Vr] at this;exact this
namespace Dim
variable {α β:Type} (D:Dim α β) (l:List α)
def ends :List Int:=l.flatMap fun r=>[D.lo r,D.hi r]
def cuts :List Int:=Js (D.ends l)
def inn (x:Int):List β:=(l.filter fun r=>decide (D.lo r≤x)&&decide (x<D.hi r)).map D.pr
def sec (x:Int):List β:=D.mak (D.inn l x)
def grow (out:List α) (k:Nat) (x:Int):List α:=out.take k++(out.drop k).map (D.ext x)
def one (x x':Int) (s:Sw α β):Sw α β:=
 bif decide (0<(D.sec l x).length)&&((s.fin == x)&&D.same s.last (D.sec l x)) then ⟨D.grow s.out s.first x',s.last,s.first,x'⟩
 else ⟨s.out++(D.sec l x).map (D.put x x'),D.sec l x,s.out.length,x'⟩
def go :Nat→Nat→Sw α β→Sw α β
 | 0,_,s=>s
 | k+1,i,s=>go k (i+1) (D.one l (rd (D.cuts l) i) (rd (D.cuts l) (i+1)) s)
def out :List α:=(D.go l ((D.cuts l).length - 1) 0 ⟨[],[],0,0⟩).out
theorem ends_length :(D.ends l).length =2*l.length:=by
 induction l with
 | nil=>rfl
 | cons r l ih=>show (_::_::D.ends l).length =_;simp only [AU,ih];omega
theorem cuts_length :(D.cuts l).length ≤2*l.length:=by have:=x4n (D.ends l);rw [D.ends_length] at this;exact this
theorem ends_append (m:List α):D.ends (l++m)=D.ends l++D.ends m:=by simp [ends]
theorem inn_append (m:List α) (x:Int):D.inn (l++m) x=D.inn l x++D.inn m x:=by simp [inn]
theorem inn_length (x:Int):(D.inn l x).length ≤l.length:=by simpa [inn] using Cf _ l
theorem inn_t (r:α) (x:Int) (h1:D.lo r≤x) (h2:x<D.hi r):D.inn [r] x=[D.pr r]:=by simp [inn,h1,h2]
theorem inn_f1 (r:α) (x:Int) (h1: ¬D.lo r≤x):D.inn [r] x=[]:=by simp [inn,h1]
theorem inn_f2 (r:α) (x:Int) (h1: ¬x<D.hi r):D.inn [r] x=[]:=by simp [inn,h1]
theorem grow_nil (out:List α) (k:Nat) (x:Int) (h:out.length≤k):D.grow out k x=out:=by unfold grow;rw [Au h,Bd,Az,AP h]
theorem grow_length (out:List α) (k:Nat) (x:Int):(D.grow out k x).length =out.length:=by unfold grow;simp;omega
theorem grow_set [Xx α] (out:List α) (j:Nat) (x:Int) (h:j<out.length):D.grow (out.set j (D.ext x (rd out j))) (j+1) x=D.grow out j x:=by
 unfold grow;rw [Yg h,AY];have e1:(out.set j (D.ext x (rd out j))).take (j+1)=out.take j++[D.ext x (rd out j)]:=by
  apply Cl
  ·simp;omega
  ·intro n h1 h2;simp only [Bf,List.getElem_set];by_cases e:j=n
   ·subst e;rw [AC rfl,BK (by simp only [AZ];omega)];simp
   ·rw [Ay e,BA (by simp at h1 ⊢;omega),Bf]
 have e2:(out.set j (D.ext x (rd out j))).drop (j+1)=out.drop (j+1):=by rw [List.drop_set];rw [AC (by omega)]
 rw [e1,e2,AL];rfl
theorem one_length (x x':Int) (s:Sw α β):(D.one l x x' s).out.length ≤s.out.length+(D.sec l x).length :=by unfold one;cases (decide (0<(D.sec l x).length)&&((s.fin == x)&&D.same s.last (D.sec l x))) <;> simp [grow_length]
end Dim
open Go.Proofs.Tryz
open Go.Proofs
inductive vl4S where
def vl4C (aJ:Int) (aP:Int) (aO:Int) (aT:Int):vl4S→Cfg
 :=nofun
def x8q (aJ:Int) (aP:Int) (aO:Int) (aT:Int):vl4S→Xu vl4S
 :=nofun
def y3u (aJ:Int) (aP:Int) (aO:Int) (aT:Int):Xu vl4S:=(bif (decide (aJ<aO)) then (bif (decide (aP<aT)) then (bif (decide (aJ≥(-1000000))) then (bif (decide (aJ≤1000000)) then (bif (decide (aO≥(-1000000))) then (bif (decide (aO≤1000000)) then (bif (decide (aP≥(-1000000))) then (bif (decide (aP≤1000000)) then (bif (decide (aT≥(-1000000))) then (.ret [(.bool (decide (aT≤1000000)))]) else (.ret [(.bool false)])) else (.ret [(.bool false)])) else (.ret [(.bool false)])) else (.ret [(.bool false)])) else (.ret [(.bool false)])) else (.ret [(.bool false)])) else (.ret [(.bool false)])) else (.ret [(.bool false)])) else (.ret [(.bool false)]))
theorem w7q (aJ:Int) (aP:Int) (aO:Int) (aT:Int): ∀s,Xq prog (Zy prog 116) (vl4C aJ aP aO aT) (vl4C aJ aP aO aT s) (x8q aJ aP aO aT s)
 :=nofun
theorem x8r (aJ:Int) (aP:Int) (aO:Int) (aT:Int):Xq prog (Zy prog 116) (vl4C aJ aP aO aT) (Zb prog 116 [(.agg [(.int .i64 aJ),(.int .i64 aP),(.int .i64 aO),(.int .i64 aT)])] true []) (y3u aJ aP aO aT):=(lb (fun k0=>(lb (fun k1=>(lb (fun k2=>(lb (fun k3=>(lb (fun k4=>(lb (fun k5=>(lb (fun k6=>(lb (fun k7=>(lb (fun k8=>(lr 35 3 [1,1,1,1,0] 1 9 [(2,(.bool (decide (aT≤1000000))))] (sl Qy 101 [] ⟨[],[],[some [2]],[]⟩ ⟨[],[],[]⟩ (trs 25 []) (tt k8 (tt k7 (tt k6 (tt k5 (tt k4 (tt k3 (tt k2 (tt k1 (tt k0 nn)))))))))))) (fun k8=>(lr 35 3 [1,1,1,1,0] 1 9 [(2,(.bool false))] (sl Qy 101 [] ⟨[],[],[some [2]],[]⟩ ⟨[],[],[]⟩ (trs 23 [false,false]) (tt k8 (tt k7 (tt k6 (tt k5 (tt k4 (tt k3 (tt k2 (tt k1 (tt k0 nn)))))))))))))) (fun k7=>(lr 35 3 [1,1,1,1,0] 1 9 [(2,(.bool false))] (sl Qy 86 [] ⟨[],[],[some [2]],[]⟩ ⟨[],[],[]⟩ (trs 20 [false,false,false]) (tt k7 (tt k6 (tt k5 (tt k4 (tt k3 (tt k2 (tt k1 (tt k0 nn))))))))))))) (fun k6=>(lr 35 3 [1,1,1,1,0] 1 9 [(2,(.bool false))] (sl Qy 86 [] ⟨[],[],[some [2]],[]⟩ ⟨[],[],[]⟩ (trs 18 [false,false,false,false,false]) (tt k6 (tt k5 (tt k4 (tt k3 (tt k2 (tt k1 (tt k0 nn)))))))))))) (fun k5=>(lr 35 3 [1,1,1,1,0] 1 9 [(2,(.bool false))] (sl Qy 71 [] ⟨[],[],[some [2]],[]⟩ ⟨[],[],[]⟩ (trs 15 [false,false,false,false,false,false]) (tt k5 (tt k4 (tt k3 (tt k2 (tt k1 (tt k0 nn))))))))))) (fun k4=>(lr 35 3 [1,1,1,1,0] 1 9 [(2,(.bool false))] (sl Qy 71 [] ⟨[],[],[some [2]],[]⟩ ⟨[],[],[]⟩ (trs 13 [false,false,false,false,false,false,false,false]) (tt k4 (tt k3 (tt k2 (tt k1 (tt k0 nn)))))))))) (fun k3=>(lr 35 3 [1,1,1,1,0] 1 9 [(2,(.bool false))] (sl Qy 56 [] ⟨[],[],[some [2]],[]⟩ ⟨[],[],[]⟩ (trs 10 [false,false,false,false,false,false,false,false,false]) (tt k3 (tt k2 (tt k1 (tt k0 nn))))))))) (fun k2=>(lr 35 3 [1,1,1,1,0] 1 9 [(2,(.bool false))] (sl Qy 56 [] ⟨[],[],[some [2]],[]⟩ ⟨[],[],[]⟩ (trs 8 [false,false,false,false,false,false,false,false,false,false,false]) (tt k2 (tt k1 (tt k0 nn)))))))) (fun k1=>(lr 35 3 [1,1,1,1,0] 1 9 [(2,(.bool false))] (sl Qy 41 [] ⟨[],[],[some [2]],[]⟩ ⟨[],[],[]⟩ (trs 5 [false,false,false,false,false,false,false,false,false,false,false,false]) (tt k1 (tt k0 nn))))))) (fun k0=>(lr 35 3 [1,1,1,1,0] 1 9 [(2,(.bool false))] (sl Qy 41 [] ⟨[],[],[some [2]],[]⟩ ⟨[],[],[]⟩ [false,false,false,false,false,false,false,false,false,false,false,false,false,false,false,false,false] (tt k0 nn)))))
theorem v9x (aJ:Int) (aP:Int) (aO:Int) (aT:Int) (n:Nat) (vs:List AVal) (h:Yy (x8q aJ aP aO aT) n (y3u aJ aP aO aT)=.ret vs):Jx prog (Zy prog 116) (Zb prog 116 [(.agg [(.int .i64 aJ),(.int .i64 aP),(.int .i64 aO),(.int .i64 aT)])] true []) vs:=by have:=Zd (w7q aJ aP aO aT) n _ (x8r aJ aP aO aT);rwa [h] at this
inductive madS where
 | h0 (v16:Int) (aC:List Int)
 | h1 (v4:Int) (bI:List R4) (cF:List R2) (cR:Int) (cS:Int) (bG:Nat) (bK:List Int)
 | h2 (v4:Int) (v38:Int) (bI:List R4) (cF:List R2) (cR:Int) (cS:Int) (bG:Nat) (bK:List Int) (aA:Int) (cY:Int) (aM:List R2)
 | h3 (v1:Int) (v2:Int) (v71:List R2) (v72:Int) (v73:Int) (cC:List R2) (bC:Int) (aD:List R4) (bH:List R2) (bD:Int) (bG:Nat) (bK:List Int) (aA:List R2)
 | h4 (v2:Int) (v8:Int) (dB:Int) (cC:List R2) (bC:Int) (aD:List R4) (bH:List R2) (bD:Int) (bS:Int) (cT:Nat) (dA:List Int) (aM:List R2)
abbrev x1r (aD:List R4) (v8:Int) (v2:Int):=(aD.set (0+(tn v8)) (R4.mk (rd aD (0+(tn v8))).a (rd aD (0+(tn v8))).b v2 (rd aD (0+(tn v8))).d))
abbrev x1q (aC:List Int):=(Wo (Ye aC.length (cOf (Zz (Xf (Ye aC.length (cOf (Zz aC))))))))
def j0e :AFr:=⟨⟨29,0,true⟩,none,(.inRangeFunc 0::(Zc prog 117 [1,1,0,1,0] 1)),none,(Zy prog 14),Ya [(2,.nils),(3,(ii 0)),(4,(.ptr 1 0))]⟩
def j0d :=(y5l [(0,⟨.ready,none,29,Ya [(4,(.ptr 1 0))],[11],(Vy prog 117 [1,1,0,1,0,0]),(Vy prog 117 [1,1,0,1,0,1])⟩)])
abbrev x1p (aM:List R2) (l0:List R4) (v38:Int):=(aM++[(R2.mk (rd l0 (tn v38)).b (rd l0 (tn v38)).d)])
abbrev x1o (aD:List R4) (v1:Int) (v71:List R2) (v73:Int) (v2:Int):=(aD++[(R4.mk v1 (rd v71 (tn v73)).a v2 (rd v71 (tn v73)).b)])
def x6v (l0:List R4):ABlk:=⟨[(.dat l0.length (Zz l0))],80,none⟩
abbrev x1n (aC:List Int) (l0:List R4) (v16:Int):=(aC++[(rd l0 (tn v16)).a,(rd l0 (tn v16)).c])
def madC (l0:List R4):madS→Cfg
 | .h0 v16 aC=>⟨⟨34,0,true⟩,none,(Zc prog 155 [1,1,0,1,0,0,1,1,0,0,1,1,0,0] 0),none,(Zy prog 9),⟨Ya [(1,(.ptr 0 0)),(3,(.ptr 2 0)),(8,(.sl 1 0 1 (.un 1))),(9,(ii 1)),(10,(ii 0)),(14,(.dat l0.length (Zz l0))),(15,(ii (l0.length:Int))),(16,(ii v16))],Vd [⟨[(.sl 1 0 1 (.un 1))],182,none⟩,(x6v l0),⟨[(.sla 4 1 0 aC.length (.un 1))],125,none⟩,⟨[.nils,.nils,(ii 0),(ii 0)],157,none⟩,⟨Yq aC.length (Zz aC),3,some ⟨1,aC.length,(Zz aC)⟩⟩] 0,5,[],true⟩,[⟨⟨29,0,true⟩,(Up prog 117 [1,1,0,0] 2),(Zc prog 117 [1,1,0,0] 1),none,(Zy prog 14),Ya [(2,.nils),(3,(ii 0)),(4,(.ptr 3 0)),(9,(.sl 1 0 1 (.un 1)))]⟩],.leaf⟩
 | .h1 v4 bI cF cR cS bG bK=>⟨⟨76,0,true⟩,none,(Zc prog 176 [1,0,0] 0),none,[],⟨Ya [(0,(.yld 0)),(1,(.ptr 2 0)),(2,(.ptr 4 0)),(4,(ii v4))],z8j [(1,⟨[(.sla 6 4 0 bI.length (.un 4)),(.dat cF.length (Zz cF)),(ii cR),(ii cS)],157,none⟩),(2,⟨[(.sla 3 1 0 bG (.un 1))],125,none⟩),(3,⟨Yq bK.length (Zz bK),3,some ⟨1,bK.length,(Zz bK)⟩⟩),(4,⟨[(.sl 5 0 1 (.un 1))],182,none⟩),(5,(x6v l0)),(6,⟨Yq bI.length (Zz bI),116,some ⟨4,bI.length,(Zz bI)⟩⟩)],7,[],true⟩,[j0e],j0d⟩
 | .h2 v4 v38 bI cF cR cS bG bK aA cY aM=>⟨⟨76,0,true⟩,none,(Zc prog 176 [1,0,0,1,0,0,1,0,1,0,0,1,1,0,0,1,1,0,0] 0),none,[],⟨Ya [(0,(.yld 0)),(1,(.ptr 2 0)),(2,(.ptr 4 0)),(4,(ii v4)),(5,(.ptr 6 0)),(6,(ii 0)),(29,(.sl 5 0 1 (.un 1))),(30,(ii 1)),(31,(ii 0)),(36,(.dat l0.length (Zz l0))),(37,(ii (l0.length:Int))),(38,(ii v38))],z8j [(1,⟨[(.sla 9 4 0 bI.length (.un 4)),(.dat cF.length (Zz cF)),(ii cR),(ii cS)],157,none⟩),(2,⟨[(.sla 3 1 0 bG (.un 1))],125,none⟩),(3,⟨Yq bK.length (Zz bK),3,some ⟨1,bK.length,(Zz bK)⟩⟩),(4,⟨[(.sl 5 0 1 (.un 1))],182,none⟩),(5,(x6v l0)),(6,⟨[(ii aA),(ii cY),(.sl 7 0 1 (.ex 1))],162,none⟩),(7,⟨[(.sla 8 2 0 aM.length (.un 2))],155,none⟩),(8,⟨Yq aM.length (Zz aM),176,some ⟨2,aM.length,(Zz aM)⟩⟩),(9,⟨Yq bI.length (Zz bI),116,some ⟨4,bI.length,(Zz bI)⟩⟩)],10,[],true⟩,[j0e],j0d⟩
 | .h3 v1 v2 v71 v72 v73 cC bC aD bH bD bG bK aA=>⟨⟨94,0,true⟩,none,(Zc prog 120 [1,1,1,0,0] 0),none,[],⟨Ya [(0,(.ptr 0 0)),(1,(ii v1)),(2,(ii v2)),(71,(.dat v71.length (Zz v71))),(72,(ii v72)),(73,(ii v73))],z8j [(0,⟨[(.sla 7 4 0 aD.length (.un 4)),(.dat bH.length (Zz bH)),(ii bD),(ii v2)],157,none⟩),(2,⟨[(.sla 3 1 0 bG (.un 1))],125,none⟩),(3,⟨Yq bK.length (Zz bK),3,some ⟨1,bK.length,(Zz bK)⟩⟩),(4,⟨[(.sl 5 0 1 (.un 1))],182,none⟩),(5,(x6v l0)),(6,⟨[(.dat aA.length (Zz aA))],155,none⟩),(7,⟨Yq aD.length (Zz aD),116,some ⟨4,aD.length,(Zz aD)⟩⟩)],8,[],true⟩,[⟨⟨29,0,true⟩,(Up prog 117 [1,1,0,1,0,1,0,1] 5),(Zc prog 117 [1,1,0,1,0,1,0,1] 1),(some 1),[],Ya [(4,(.ptr 0 0)),(21,(ii v1)),(23,(ii v2)),(24,(.dat cC.length (Zz cC)))]⟩,⟨⟨76,0,true⟩,(Up prog 176 [1,0,0,1,0,0,1,1,0] 2),(Zc prog 176 [1,0,0,1,0,0,1,1,0] 1),none,[],Ya [(0,(.yld 1)),(1,(.ptr 2 0)),(2,(.ptr 4 0)),(4,(ii bC)),(72,(.yld 1)),(73,(.agg [(ii v1),(ii v2),(.sl 6 0 1 (.ex 1))]))]⟩,⟨⟨29,0,true⟩,none,(.inRangeFunc 1::(Zc prog 117 [1,1,0,1,0] 1)),none,(Zy prog 14),Ya [(2,.nils),(3,(ii 0)),(4,(.ptr 0 0))]⟩],(y5l [(1,⟨.busy,none,29,Ya [(4,(.ptr 0 0))],[11],(Vy prog 117 [1,1,0,1,0,0]),(Vy prog 117 [1,1,0,1,0,1])⟩)])⟩
 | .h4 v2 v8 dB cC bC aD bH bD bS cT dA aM=>⟨⟨94,0,true⟩,none,(Zc prog 120 [0,1,0,0,1,0,0] 0),none,[],⟨Ya [(0,(.ptr 0 0)),(2,(ii v2)),(8,(ii v8))],z8j [(0,⟨[(.sla 1 4 0 aD.length (.un 4)),(.dat bH.length (Zz bH)),(ii bD),(ii bS)],157,none⟩),(1,⟨Yq aD.length (Zz aD),116,some ⟨4,aD.length,(Zz aD)⟩⟩),(3,⟨[(.sla 4 1 0 cT (.un 1))],125,none⟩),(4,⟨Yq dA.length (Zz dA),3,some ⟨1,dA.length,(Zz dA)⟩⟩),(5,⟨[(.sl 6 0 1 (.un 1))],182,none⟩),(6,(x6v l0)),(7,⟨[(.dat aM.length (Zz aM))],155,none⟩)],8,[],true⟩,[⟨⟨29,0,true⟩,(Up prog 117 [1,1,0,1,0,1,0,1] 5),(Zc prog 117 [1,1,0,1,0,1,0,1] 1),(some 2),[],Ya [(4,(.ptr 0 0)),(21,(ii dB)),(23,(ii v2)),(24,(.dat cC.length (Zz cC)))]⟩,⟨⟨76,0,true⟩,(Up prog 176 [1,0,0,1,0,0,1,1,0] 2),(Zc prog 176 [1,0,0,1,0,0,1,1,0] 1),none,[],Ya [(0,(.yld 2)),(1,(.ptr 3 0)),(2,(.ptr 5 0)),(4,(ii bC)),(72,(.yld 2)),(73,(.agg [(ii dB),(ii v2),(.sl 7 0 1 (.ex 1))]))]⟩,⟨⟨29,0,true⟩,none,(.inRangeFunc 2::(Zc prog 117 [1,1,0,1,0] 1)),none,(Zy prog 14),Ya [(2,.nils),(3,(ii 0)),(4,(.ptr 0 0))]⟩],(y5l [(2,⟨.busy,none,29,Ya [(4,(.ptr 0 0))],[11],(Vy prog 117 [1,1,0,1,0,0]),(Vy prog 117 [1,1,0,1,0,1])⟩)])⟩
def madN0 :List (Option (List Nat)):=[some [1,3,8,9,10,14,15,16],some [2,3,4,9]]
def madM0 :List (Option (List Nat)):=[]
def j5h :List (Option (List Nat)):=[some [0,1,2,4],some [2,3,4]]
def j5i :List (Option (List Nat)):=[some [4],none,none,none,none,none,none]
def u3t :List (Option (List Nat)):=[some [0,1,2,4,5,6,29,30,31,36,37,38],some [2,3,4]]
def u3v :List (Option (List Nat)):=[some [4],none,none,none,none,none,none,none,none,none]
def u3s :List (Option (List Nat)):=[some [0,1,2,71,72,73],some [4,21,23,24],some [0,1,2,4,72,73],some [2,3,4]]
def u3u :List (Option (List Nat)):=[none,some [4],none,none,none,none,none,none]
def madN4 :List (Option (List Nat)):=[some [0,2,8],some [4,21,23,24],some [0,1,2,4,72,73],some [2,3,4]]
def madM4 :List (Option (List Nat)):=[none,none,some [4],none,none,none,none,none]
def Xn (l0:List R4):madS→Xu madS
 | .h0 v16 aC=>(bif (decide (v16<(l0.length:Int))) then (bif ((decide (0≤v16∧v16<(l0.length:Int)))&&true) then (bif (Nat.beq 1 1&&((decide (0+aC.length=aC.length))&&decide ((aC.length+2+1)*(8+1)≤Jh))) then (.to (.h0 (wrap .i64 (v16+1)) (aC++[(rd l0 v16.toNat).a,(rd l0 v16.toNat).c]))) else .stuck) else .stuck) else (bif (decide (aC.length<4611686018427387904)) then (bif (decide (aC.length=aC.length)) then (.to (.h1 1 ([]:List R4) ([]:List R2) 0 0 (v8p (Ye aC.length (cOf (Zz (Xf (Ye aC.length (cOf (Zz aC)))))))) (Wo (Ye aC.length (cOf (Zz (Xf (Ye aC.length (cOf (Zz aC)))))))))) else .stuck) else .stuck))
 | .h1 v4 bI cF cR cS bG bK=>(bif (decide (v4<((bG:Nat):Int))) then (bif ((decide (0≤(wrap .i64 (v4 - 1))∧(wrap .i64 (v4 - 1))<((bG:Nat):Int)))&&true) then (bif (decide ((0+(Int.toNat (wrap .i64 (v4 - 1))))<bK.length)) then (bif ((decide (0≤v4∧v4<((bG:Nat):Int)))&&true) then (bif (decide ((0+v4.toNat)<bK.length)) then (.to (.h2 v4 0 bI cF cR cS bG bK (rd bK (0+(Int.toNat (wrap .i64 (v4 - 1))))) (rd bK (0+v4.toNat)) ([]:List R2))) else .stuck) else .stuck) else .stuck) else .stuck) else (bif (decide ((bI.length:Int)>400)) then (.ret [.nils,(.int .i64 4)]) else (.ret [(.dat bI.length (Zz bI)),(.int .i64 0)])))
 | .h2 v4 v38 bI cF cR cS bG bK aA cY aM=>(bif (decide (v38<(l0.length:Int))) then (bif ((decide (0≤v38∧v38<(l0.length:Int)))&&true) then (bif (decide ((rd l0 v38.toNat).a ≤aA)) then (bif (decide (aA<(rd l0 v38.toNat).c)) then (bif (Nat.beq 2 2&&((decide (0+aM.length=aM.length))&&decide ((aM.length+1+1)*(16+1)≤Jh))) then (.to (.h2 v4 (wrap .i64 (v38+1)) bI cF cR cS bG bK aA cY (aM++[(R2.mk (rd l0 v38.toNat).b (rd l0 v38.toNat).d)]))) else .stuck) else (.to (.h2 v4 (wrap .i64 (v38+1)) bI cF cR cS bG bK aA cY aM))) else (.to (.h2 v4 (wrap .i64 (v38+1)) bI cF cR cS bG bK aA cY aM))) else .stuck) else (bif (y6i (cvT aM)) then (bif (decide ((((Xh (cvT aM)).length :Nat):Int)>0)) then (bif (cS == aA) then (bif (Vs (cvT cF) (cvT (Xh (cvT aM)))) then (bif (Qu (cvT cF) (cvT (Xh (cvT aM)))) then (.to (.h4 cY cR aA (Xh (cvT aM)) v4 bI cF cR cS bG bK aM)) else (.to (.h3 aA cY (Xh (cvT aM)) (((Xh (cvT aM)).length :Nat):Int) 0 (Xh (cvT aM)) v4 bI (Xh (cvT aM)) (bI.length:Int) bG bK aM))) else .stuck) else (.to (.h3 aA cY (Xh (cvT aM)) (((Xh (cvT aM)).length :Nat):Int) 0 (Xh (cvT aM)) v4 bI (Xh (cvT aM)) (bI.length:Int) bG bK aM))) else (.to (.h3 aA cY (Xh (cvT aM)) (((Xh (cvT aM)).length :Nat):Int) 0 (Xh (cvT aM)) v4 bI (Xh (cvT aM)) (bI.length:Int) bG bK aM))) else .stuck))
 | .h3 v1 v2 v71 v72 v73 cC bC aD bH bD bG bK aA=>(bif (decide (v73<v72)) then (bif ((decide (0≤v73∧v73<(v71.length:Int)))&&true) then (bif (Nat.beq 4 4&&((decide (0+aD.length=aD.length))&&decide ((aD.length+1+1)*(32+1)≤Jh))) then (.to (.h3 v1 v2 v71 v72 (wrap .i64 (v73+1)) cC bC (aD++[(R4.mk v1 (rd v71 v73.toNat).a v2 (rd v71 v73.toNat).b)]) bH bD bG bK aA)) else .stuck) else .stuck) else (.to (.h1 (wrap .i64 (bC+1)) aD bH bD v2 bG bK)))
 | .h4 v2 v8 dB cC bC aD bH bD bS cT dA aM=>(bif (decide (v8<(aD.length:Int))) then (bif ((decide (0≤v8∧v8<(aD.length:Int)))&&true) then (bif (decide ((0+v8.toNat)<aD.length)) then (.to (.h4 v2 (wrap .i64 (v8+1)) dB cC bC (aD.set (0+v8.toNat) (R4.mk (rd aD (0+v8.toNat)).a (rd aD (0+v8.toNat)).b v2 (rd aD (0+v8.toNat)).d)) bH bD bS cT dA aM)) else .stuck) else .stuck) else (.to (.h1 (wrap .i64 (bC+1)) aD bH bD v2 cT dA)))
def x3x (l0:List R4):Xu madS:=(.to (.h0 0 ([]:List Int)))
theorem v0d (l0:List R4): ∀s,Xq prog (Zy prog 117) (madC l0) (madC l0 s) (Xn l0 s)
 | .h0 v16 aC=>(lb (fun k0=>(lo fun o0=>(lo fun o1=>(sl Qy 32 [] ⟨[0,1,2,3,7],[],madN0,madM0⟩ ⟨[],[.keep,.keep,.cells [.len (x1n aC l0 v16).length],.keep,.rowed 1 (x1n aC l0 v16).length (Zz (x1n aC l0 v16))],[]⟩ [true] (pp (xL (aC.length+2) (x1n aC l0 v16).length) (pp (xL (aC.length+2) (x1n aC l0 v16).length) (pp (xS (aC.length+2) (Zr (Zz aC) 0 aC.length 1 [(ii (rd l0 (tn v16)).a),(ii (rd l0 (tn v16)).c)]) (Zz (x1n aC l0 v16))) (pp (pp (xF (Zr (Zz aC) 0 aC.length 1 [(ii (rd l0 (tn v16)).a),(ii (rd l0 (tn v16)).c)])) nn) (ww o1 (ww o0 (tt k0 nn))))))))))) (fun k0=>(lo fun o0=>(lo fun o1=>(sl Qy 46 [(116,4,Zz ([]:List R4))] ⟨[5,3,2,4,0,1,6],[],j5h,j5i⟩ ⟨[],[.keep,.cells [.grow 6 4,.list 0 (Zz ([]:List R2)),.keep,.keep],.keep,.rowed 1 (x1q aC).length (Zz (x1q aC)),.keep,.keep,.keep],[]⟩ (bl 2 0) (pp (xL aC.length (x1q aC).length (by first | exact z2z _ _ | exact Uz rfl)) (pp (xS aC.length (Zz (x1q aC)) (Zz (x1q aC))) (pp (fl (x1q aC) (fl ([]:List R4) nn)) (pp (pp (xG (Nat.beq 1 1)) (pp (xG (Nat.beq 1 1)) (pp (xG (Nat.beq 0 0)) (pp (xG (decide (aC.length=aC.length))) (pp (xG (isI (Zz (Xf (Ye aC.length (cOf (Zz aC))))))) (xG (decide (aC.length<4611686018427387904)))))))) (pp (pp (xG (Nat.beq 1 1)) (pp (xG (Nat.beq 1 1)) (pp (xG (Nat.beq 0 0)) (pp (xG (decide (aC.length=aC.length))) (pp (xG (isI (Zz aC))) (xG (decide (aC.length<4611686018427387904)))))))) (tt k0 nn)))))))))))
 | .h1 v4 bI cF cR cS bG bK=>(lb (fun k0=>(lo fun o0=>(lo fun o1=>(lo fun o2=>(lo fun o3=>(sl Qy 48 [(176,2,Zz ([]:List R2))] ⟨[0,1,2,3,4,5,7,8,9,6],[],u3t,u3v⟩ ⟨[],(kpB 7 [.cells [.grow 8 2],.keep,.keep]),[]⟩ (trs 3 []) (pp (fl bK (fl ([]:List R2) (fl bI nn))) (ww o3 (ww o2 (ww o1 (ww o0 (tt k0 nn)))))))))))) (fun k0=>(lb (fun k1=>(lr 29 3 [1,1,1,1,0] 1 14 [(2,.nils),(3,(ii 4))] (sl Qy 43 [] ⟨[],[],[some [2,3]],[]⟩ ⟨[],[],[]⟩ (bl 2 2) (tt k1 (tt k0 nn))))) (fun k1=>(lr 29 3 [1,1,1,1,0] 1 14 [(2,(.dat bI.length (Zz bI))),(3,(ii 0))] (sl Qy 48 [] ⟨[],[6],[some [2,3]],[]⟩ ⟨[(2,.frz bI.length bI.length (Zz bI) (Zz bI))],[],[]⟩ (bl 2 0) (pp (xZ (z5q 4 4 0 bI.length bI.length (Zz bI)) bI.length (Zz bI)) (pp (xL bI.length bI.length) (pp (xS bI.length (Zz bI) (Zz bI)) (pp (fl bI nn) (tt k1 (tt k0 nn))))))))))))
 | .h2 v4 v38 bI cF cR cS bG bK aA cY aM=>(lb (fun k0=>(lo fun aH=>(lb (fun k1=>(lb (fun k2=>(lo fun o0=>(sl Qy 39 [] ⟨[0,1,2,3,4,5,6,7,12,9],[],u3t,u3v⟩ ⟨[],(kpB 7 [.cells [.len (x1p aM l0 v38).length],.rowed 2 (x1p aM l0 v38).length (Zz (x1p aM l0 v38)),.keep]),[]⟩ (trs 7 []) (pp (xL (aM.length+1) (x1p aM l0 v38).length) (pp (xL (aM.length+1) (x1p aM l0 v38).length) (pp (xS (aM.length+1) (Zr (Zz aM) 0 aM.length 2 [(ii (rd l0 (tn v38)).b),(ii (rd l0 (tn v38)).d)]) (Zz (x1p aM l0 v38))) (pp (fl bK (pp (xF (Zr (Zz aM) 0 aM.length 2 [(ii (rd l0 (tn v38)).b),(ii (rd l0 (tn v38)).d)])) (fl bI nn))) (ww o0 (tt k2 (tt k1 (ww aH (tt k0 nn)))))))))))) (fun k2=>(sl Qy 39 [] ⟨(List.range 10),[],u3t,u3v⟩ ⟨[],[],[]⟩ (trs 6 [false]) (pp (fl bK (fl aM (fl bI nn))) (tt k2 (tt k1 (ww aH (tt k0 nn))))))))) (fun k1=>(sl Qy 39 [] ⟨(List.range 10),[],u3t,u3v⟩ ⟨[],[],[]⟩ (bl 7 1) (pp (fl bK (fl aM (fl bI nn))) (tt k1 (ww aH (tt k0 nn))))))))) (fun k0=>(Ve (sl Qy (C':=⟨⟨29,0,true⟩,(Up prog 117 [1,1,0,1,0,1,0,0] 4),(Zc prog 117 [1,1,0,1,0,1,0,0] 1),(some 0),[],⟨Ya [(4,(.ptr 1 0)),(5,(.ptr 3 0)),(16,(.dat aM.length (Zz aM)))],z8j [(1,⟨[(.sla 2 4 0 bI.length (.un 4)),(.dat cF.length (Zz cF)),(ii cR),(ii cS)],157,none⟩),(2,⟨Yq bI.length (Zz bI),116,some ⟨4,bI.length,(Zz bI)⟩⟩),(3,⟨[(ii aA),(ii cY),(.sl 4 0 1 (.ex 1))],162,none⟩),(4,⟨[(.dat aM.length (Zz aM))],155,none⟩),(5,⟨[(.sla 6 1 0 bG (.un 1))],125,none⟩),(6,⟨Yq bK.length (Zz bK),3,some ⟨1,bK.length,(Zz bK)⟩⟩),(7,⟨[(.sl 8 0 1 (.un 1))],182,none⟩),(8,⟨[(.dat l0.length (Zz l0))],80,none⟩)],9,[],true⟩,[⟨⟨76,0,true⟩,(Up prog 176 [1,0,0,1,0,0,1,1,0] 2),(Zc prog 176 [1,0,0,1,0,0,1,1,0] 1),none,[],Ya [(0,(.yld 0)),(1,(.ptr 5 0)),(2,(.ptr 7 0)),(4,(ii v4)),(72,(.yld 0)),(73,(.agg [(ii aA),(ii cY),(.sl 4 0 1 (.ex 1))]))]⟩,⟨⟨29,0,true⟩,none,(.inRangeFunc 0::(Zc prog 117 [1,1,0,1,0] 1)),none,(Zy prog 14),Ya [(2,.nils),(3,(ii 0)),(4,(.ptr 1 0))]⟩],(y5l [(0,⟨.busy,none,29,Ya [(4,(.ptr 1 0))],[11],(Vy prog 117 [1,1,0,1,0,0]),(Vy prog 117 [1,1,0,1,0,1])⟩)])⟩) 37 [] ⟨[0,1,9,10,7,2,3,4,5],[8],[some [4,5,16],some [0,1,2,4,72,73],some [2,3,4]],[some [4],none,none,none,none,none,none,none,none]⟩ ⟨[(16,.frz aM.length aM.length (Zz aM) (Zz aM))],[.keep,.keep,.keep,.keep,.cells [.frz aM.length aM.length (Zz aM) (Zz aM)],.keep,.keep,.keep,.keep],[]⟩ (bl 2 0) (pp (xZ (z5q 2 2 0 aM.length aM.length (Zz aM)) aM.length (Zz aM)) (pp (xL aM.length aM.length) (pp (xS aM.length (Zz aM) (Zz aM)) (pp (xZ (z5q 2 2 0 aM.length aM.length (Zz aM)) aM.length (Zz aM)) (pp (xL aM.length aM.length) (pp (xS aM.length (Zz aM) (Zz aM)) (pp (fl bI (fl bK nn)) (pp (fl aM nn) (tt k0 nn)))))))))) (lo fun aH=>(lb (fun k1=>(lb (fun k2=>(lo fun bU=>(lb (fun k3=>(sl Qy 49 [] ⟨[1,2,0,5,6,7,8,4],[],madN4,madM4⟩ ⟨[],[],[]⟩ (trs 13 []) (pp (fl bI (fl bK nn)) (tt k3 (pp (pp (xr cF) (pp (xI R2 (Xh (cvT aM)).length (Zz (Xh (cvT aM)))) (xw bU))) (tt k2 (tt k1 (pp (pp (xr aM) (xw aH)) nn)))))))) (fun k3=>(sl Qy 69 [] ⟨[1,0,5,6,7,8,4,2],[],u3s,u3u⟩ ⟨[],[],[]⟩ (trs 12 [false]) (pp (fl bK (fl bI nn)) (tt k3 (pp (pp (xr cF) (pp (xI R2 (Xh (cvT aM)).length (Zz (Xh (cvT aM)))) (xw bU))) (tt k2 (tt k1 (pp (pp (xr aM) (xw aH)) nn))))))))))) (fun k2=>(sl Qy 69 [] ⟨[1,0,5,6,7,8,4,2],[],u3s,u3u⟩ ⟨[],[],[]⟩ (trs 6 (bl 7 0)) (pp (fl bK (fl bI nn)) (tt k2 (tt k1 (pp (pp (xr aM) (xw aH)) nn)))))))) (fun k1=>(sl Qy 69 [] ⟨[1,0,5,6,7,8,4,2],[],u3s,u3u⟩ ⟨[],[],[]⟩ (bl 13 0) (pp (fl bK (fl bI nn)) (tt k1 (pp (pp (xr aM) (xw aH)) nn))))))))))
 | .h3 v1 v2 v71 v72 v73 cC bC aD bH bD bG bK aA=>(lb (fun k0=>(lo fun o0=>(lo fun o1=>(sl Qy 23 [] ⟨[0,1,2,3,4,5,6,10],[],u3s,u3u⟩ ⟨[],[.cells [.len (x1o aD v1 v71 v73 v2).length,.keep,.keep,.keep],.keep,.keep,.keep,.keep,.keep,.keep,.rowed 4 (x1o aD v1 v71 v73 v2).length (Zz (x1o aD v1 v71 v73 v2))],[]⟩ [true] (pp (xL (aD.length+1) (x1o aD v1 v71 v73 v2).length) (pp (xL (aD.length+1) (x1o aD v1 v71 v73 v2).length) (pp (xS (aD.length+1) (Zr (Zz aD) 0 aD.length 4 [(ii v1),(ii (rd v71 (tn v73)).a),(ii v2),(ii (rd v71 (tn v73)).b)]) (Zz (x1o aD v1 v71 v73 v2))) (pp (fl bK (pp (xF (Zr (Zz aD) 0 aD.length 4 [(ii v1),(ii (rd v71 (tn v73)).a),(ii v2),(ii (rd v71 (tn v73)).b)])) nn)) (ww o1 (ww o0 (tt k0 nn))))))))))) (fun k0=>(sl Qy 22 [] ⟨[1,0,2,3,4,5,7],[],j5h,j5i⟩ ⟨[],[],[]⟩ (bl 2 0) (pp (fl bK (fl aD nn)) (tt k0 nn)))))
 | .h4 v2 v8 dB cC bC aD bH bD bS cT dA aM=>(lb (fun k0=>(lo fun o0=>(lo fun o1=>(sl Qy 33 [] ⟨(List.range 8),[],madN4,madM4⟩ ⟨[],[.cells [.len (x1r aD v8 v2).length,.keep,.keep,.keep],.rowed 4 (x1r aD v8 v2).length (Zz (x1r aD v8 v2)),.keep,.keep,.keep,.keep,.keep,.keep],[]⟩ [true] (pp (xL aD.length (x1r aD v8 v2).length) (pp (xL aD.length (x1r aD v8 v2).length) (pp (xS aD.length (Xr (Zz aD) (0+(tn v8)) 2 [(ii v2)]) (Zz (x1r aD v8 v2))) (pp (pp (xF (Xr (Zz aD) (0+(tn v8)) 2 [(ii v2)])) (fl dA nn)) (ww o1 (ww o0 (tt k0 nn))))))))))) (fun k0=>(sl Qy 36 [] ⟨[2,0,3,4,5,6,1],[],j5h,j5i⟩ ⟨[],[],[]⟩ (bl 2 0) (pp (fl dA (fl aD nn)) (tt k0 nn)))))
theorem w1z (l0:List R4):Xq prog (Zy prog 117) (madC l0) (Zb prog 117 [(.dat l0.length (Zz l0))] true []) (x3x l0):=(sl Qy 56 [(3,1,Zz ([]:List Int))] ⟨[2,1,3,0,4],[],madN0,madM0⟩ ⟨[],[.keep,.keep,.cells [.grow 4 1],.keep,.keep],[]⟩ [true] (pp (fl ([]:List Int) nn) nn))
theorem u3r (l0:List R4) (n:Nat) (vs:List AVal) (h:Yy (Xn l0) n (x3x l0)=.ret vs):Jx prog (Zy prog 117) (Zb prog 117 [(.dat l0.length (Zz l0))] true []) vs:=by have:=Zd (v0d l0) n _ (w1z l0);rwa [h] at this
end Go.Am
end
