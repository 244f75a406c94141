/- A part of a proof: several texts in one. -/
import Derived.Test.YtmanggcjimaehaaGreatLf2
import Derived.Sort.AssemblyPlain
import Derived.Lib.BitFns
import Derived.Shelf.GgSortFunc.InsertionK
import Derived.Shelf.Sort.Plain
import Derived.Ground.Names2Prog
import Derived.Shelf.Slices.CompactI
import Derived.Shelf.Slices.SearchI
import Derived.Shelf.Slices.Cells
import Derived.Shelf.Slices.In.SortNone
import Derived.Shelf.SlSortCmp.WholeK
import Derived.Ground.SlsfProg
import Derived.Test.YtmanggcjimaehaaGreatProg
import Derived.Shelf.SlSortCmp.NoneTotal
set_option maxRecDepth 1000000
set_option maxHeartbeats 8000000
set_option linter.unusedVariables false
set_option linter.unusedSimpArgs false
noncomputable section
namespace Go.Am
open IntKind (wrap)
open Go.Proofs.Tryz
open Go.Proofs
inductive rsortS where
 | h0 (v3:List Int) (v4:Int)
 | h1 (v3:List Int) (v4:Int) (v5:Int)
abbrev Jm (v3:List Int) (v5:Int) (l0:List Int) (v4:Int):=((v4u (v3++[0]) (0+(tn (wr (v5+1)))) (Nat.min ((v3.length+1) - (tn v5)) ((v3.length+1) - (tn (wr (v5+1))))) (Jx (v3++[0]) (0+(tn v5)) ((v3.length+1) - (tn v5)))).set (0+(tn v5)) (rd l0 (tn v4)))
abbrev Ko (v3:List Int):=(Ze (Zz v3) 0 v3.length 1 [(ii 0)])
abbrev y2d (v3:List Int) (v5:Int):=(Nat.min ((v3.length+1) - (tn v5)) ((v3.length+1) - (tn (wr (v5+1)))))
def v0k (l0:List Int):rsortS→Cfg
 | .h0 v3 v4=>⟨⟨63,0,true⟩,none,(Zb prog 70 [1,1,0,1,0,0] 0),none,(Zy prog 3),⟨Ya [(0,(.dat l0.length (Zz l0))),(3,(.sla 0 1 0 v3.length (.un 1))),(4,(ii v4))],Wr [⟨rows v3.length (Zz v3),3,some ⟨1,v3.length,(Zz v3)⟩⟩] 0,1,[],true⟩,[],.leaf⟩
 | .h1 v3 v4 v5=>⟨⟨63,0,true⟩,none,(Zb prog 70 [1,1,0,1,0,0,1,0,0,1,0,0,0] 0),none,(Zy prog 3),⟨Ya [(0,(.dat l0.length (Zz l0))),(3,(.sla 0 1 0 v3.length (.un 1))),(4,(ii v4)),(5,(ii v5))],Wr [⟨rows v3.length (Zz v3),3,some ⟨1,v3.length,(Zz v3)⟩⟩] 0,1,[],true⟩,[],.leaf⟩
def x0j :List (Option (List Nat)):=[some [0,3,4]]
def x0k :List (Option (List Nat)):=[]
def v0i :List (Option (List Nat)):=[some [0,3,4,5]]
def v0j :List (Option (List Nat)):=[]
def Vf (l0:List Int):rsortS→Xv rsortS
 | .h0 v3 v4=>(bif (decide (v4<(l0.length:Int))) then (.to (.h1 v3 v4 (v3.length:Int))) else (.ret [(.dat v3.length (Zz v3))]))
 | .h1 v3 v4 v5=>(bif (decide (v5>0)) then (bif ((decide (0≤(wrap .i64 (v5 - 1))∧(wrap .i64 (v5 - 1))<(v3.length:Int)))&&true) then (bif (decide ((0+(Int.toNat (wrap .i64 (v5 - 1))))<v3.length)) then (bif ((decide (0≤v4∧v4<(l0.length:Int)))&&true) then (bif (decide ((rd v3 (0+(Int.toNat (wrap .i64 (v5 - 1)))))>(rd l0 v4.toNat))) then (.to (.h1 v3 v4 (wrap .i64 (v5 - 1)))) else (bif ((rd v3 (0+(Int.toNat (wrap .i64 (v5 - 1))))) == (rd l0 v4.toNat)) then (.to (.h0 v3 (wrap .i64 (v4+1)))) else (bif (Nat.beq 1 1&&((decide (0+v3.length=v3.length))&&decide ((v3.length+1+1)*(8+1)≤Uj))) then (bif (true&&((decide (0≤(wrap .i64 (v5+1))))&&(decide ((v3.length+1)≤(v3.length+1))&&decide ((Int.toNat (wrap .i64 (v5+1)))≤(v3.length+1))))) then (bif (true&&((decide (0≤v5))&&(decide ((v3.length+1)≤(v3.length+1))&&decide (v5.toNat≤(v3.length+1))))) then (bif (decide ((0+v5.toNat)+((v3.length+1) - v5.toNat)≤(v3.length+1))) then (bif (decide ((0+(Int.toNat (wrap .i64 (v5+1))))+((v3.length+1) - (Int.toNat (wrap .i64 (v5+1))))≤(v3.length+1))) then (bif ((decide (0≤v5∧v5<(((v3.length+1):Nat):Int)))&&true) then (bif (decide ((0+v5.toNat)<(v3.length+1))) then (.to (.h0 ((v4u (v3++[0]) (0+(Int.toNat (wrap .i64 (v5+1)))) (Nat.min ((v3.length+1) - v5.toNat) ((v3.length+1) - (Int.toNat (wrap .i64 (v5+1))))) (Jx (v3++[0]) (0+v5.toNat) ((v3.length+1) - v5.toNat))).set (0+v5.toNat) (rd l0 v4.toNat)) (wrap .i64 (v4+1)))) else .stuck) else .stuck) else .stuck) else .stuck) else .stuck) else .stuck) else .stuck))) else .stuck) else .stuck) else .stuck) else (bif (Nat.beq 1 1&&((decide (0+v3.length=v3.length))&&decide ((v3.length+1+1)*(8+1)≤Uj))) then (bif (true&&((decide (0≤(wrap .i64 (v5+1))))&&(decide ((v3.length+1)≤(v3.length+1))&&decide ((Int.toNat (wrap .i64 (v5+1)))≤(v3.length+1))))) then (bif (true&&((decide (0≤v5))&&(decide ((v3.length+1)≤(v3.length+1))&&decide (v5.toNat≤(v3.length+1))))) then (bif (decide ((0+v5.toNat)+((v3.length+1) - v5.toNat)≤(v3.length+1))) then (bif (decide ((0+(Int.toNat (wrap .i64 (v5+1))))+((v3.length+1) - (Int.toNat (wrap .i64 (v5+1))))≤(v3.length+1))) then (bif ((decide (0≤v4∧v4<(l0.length:Int)))&&true) then (bif ((decide (0≤v5∧v5<(((v3.length+1):Nat):Int)))&&true) then (bif (decide ((0+v5.toNat)<(v3.length+1))) then (.to (.h0 ((v4u (v3++[0]) (0+(Int.toNat (wrap .i64 (v5+1)))) (Nat.min ((v3.length+1) - v5.toNat) ((v3.length+1) - (Int.toNat (wrap .i64 (v5+1))))) (Jx (v3++[0]) (0+v5.toNat) ((v3.length+1) - v5.toNat))).set (0+v5.toNat) (rd l0 v4.toNat)) (wrap .i64 (v4+1)))) else .stuck) else .stuck) else .stuck) else .stuck) else .stuck) else .stuck) else .stuck) else .stuck))
def z4p (l0:List Int):Xv rsortS:=(.to (.h0 ([]:List Int) 0))
theorem x3d (l0:List Int): ∀s,Ys prog (Zy prog 70) (v0k l0) (v0k l0 s) (Vf l0 s)
 | .h0 v3 v4=>(lb (fun k0=>(sl Zg 21 [] ⟨[0],[],v0i,v0j⟩ ⟨[],[],[]⟩ [true] (pp (fl v3 nn) (tt k0 nn)))) (fun k0=>(lr 63 3 [1,1,1,1,1,1,1,0] 1 3 [(2,(.dat v3.length (Zz v3)))] (sl Zg 15 [] ⟨[],[0],[some [2]],[]⟩ ⟨[(2,.frz v3.length v3.length (Zz v3) (Zz v3))],[],[]⟩ [false] (pp (xZ (z3k 1 1 0 v3.length v3.length (Zz v3)) v3.length (Zz v3)) (pp (xL v3.length v3.length) (pp (xS v3.length (Zz v3) (Zz v3)) (pp (fl v3 nn) (tt k0 nn)))))))))
 | .h1 v3 v4 v5=>(lb (fun k0=>(lo fun aF=>(lo fun aR=>(lo fun bV=>(lb (fun k1=>(sl Zg 13 [] ⟨[0],[],v0i,v0j⟩ ⟨[],[],[]⟩ (trs 11 []) (pp (fl v3 nn) (tt k1 (ww bV (ww aR (ww aF (tt k0 nn)))))))) (fun k1=>(lb (fun k2=>(sl Zg 16 [] ⟨[0],[],x0j,x0k⟩ ⟨[],[],[]⟩ (trs 10 (bl 12 4094)) (pp (fl v3 nn) (tt k2 (ww bV (ww aR (ww aF (tt k0 (tt k1 (ww bV (ww aR (ww aF (tt k0 nn))))))))))))) (fun k2=>(lo fun o0=>(lo fun o1=>(lo fun o2=>(lo fun o3=>(lo fun o4=>(lo fun o5=>(lo fun o6=>(sl Zg 36 [] ⟨[2],[],x0j,x0k⟩ ⟨[(3,.len (Jm v3 v5 l0 v4).length)],[.rowed 1 (Jm v3 v5 l0 v4).length (Zz (Jm v3 v5 l0 v4))],[]⟩ (trs 10 (bl 12 2046)) (pp (xL (v3.length+1) (Jm v3 v5 l0 v4).length) (pp (xL (v3.length+1) (Jm v3 v5 l0 v4).length) (pp (xS (v3.length+1) (Xe (Uh (Ko v3) (0+(tn (wr (v5+1)))) (y2d v3 v5) (fun k=>(Ko v3) ((0+(tn v5))+k))) (0+(tn v5)) 0 [(ii (rd l0 (tn v4)))]) (Zz (Jm v3 v5 l0 v4))) (pp (pp (xF (Xe (Uh (Ko v3) (0+(tn (wr (v5+1)))) (y2d v3 v5) (fun k=>(Ko v3) ((0+(tn v5))+k))) (0+(tn v5)) 0 [(ii (rd l0 (tn v4)))])) nn) (ww o6 (ww o5 (ww bV (pp (pp (xG (Nat.beq 1 1)) (pp (xG (Nat.beq 1 1)) (pp (xw o4) (pp (xG (Nat.beq 1 1)) (pp (xG (Nat.beq 1 1)) (pp (xG (decide ((0+(tn v5))+((v3.length+1) - (tn v5))≤(v3.length+1)))) (xG (x1u 1 ((v3.length+1) - (tn v5)) (fun k=>(Ko v3) ((0+(tn v5))+k)))))))))) (ww o2 (ww o1 (ww o0 (tt k2 (ww bV (ww aR (ww aF (tt k0 (tt k1 (ww bV (ww aR (ww aF (tt k0 nn))))))))))))))))))))))))))))))))))))) (fun k0=>(lo fun o0=>(lo fun o1=>(lo fun o2=>(lo fun o3=>(lo fun o4=>(lo fun o5=>(lo fun o6=>(lo fun o7=>(sl Zg 36 [] ⟨[2],[],x0j,x0k⟩ ⟨[(3,.len (Jm v3 v5 l0 v4).length)],[.rowed 1 (Jm v3 v5 l0 v4).length (Zz (Jm v3 v5 l0 v4))],[]⟩ (bl 22 0) (pp (xL (v3.length+1) (Jm v3 v5 l0 v4).length) (pp (xL (v3.length+1) (Jm v3 v5 l0 v4).length) (pp (xS (v3.length+1) (Xe (Uh (Ko v3) (0+(tn (wr (v5+1)))) (y2d v3 v5) (fun k=>(Ko v3) ((0+(tn v5))+k))) (0+(tn v5)) 0 [(ii (rd l0 (tn v4)))]) (Zz (Jm v3 v5 l0 v4))) (pp (pp (xF (Xe (Uh (Ko v3) (0+(tn (wr (v5+1)))) (y2d v3 v5) (fun k=>(Ko v3) ((0+(tn v5))+k))) (0+(tn v5)) 0 [(ii (rd l0 (tn v4)))])) nn) (ww o7 (ww o6 (ww o5 (pp (pp (xG (Nat.beq 1 1)) (pp (xG (Nat.beq 1 1)) (pp (xw o4) (pp (xG (Nat.beq 1 1)) (pp (xG (Nat.beq 1 1)) (pp (xG (decide ((0+(tn v5))+((v3.length+1) - (tn v5))≤(v3.length+1)))) (xG (x1u 1 ((v3.length+1) - (tn v5)) (fun k=>(Ko v3) ((0+(tn v5))+k)))))))))) (ww o2 (ww o1 (ww o0 (tt k0 (tt k0 nn))))))))))))))))))))))))
theorem x0i (l0:List Int):Ys prog (Zy prog 70) (v0k l0) (Za prog 70 [(.dat l0.length (Zz l0))] true []) (z4p l0):=(sl Zg 15 [(3,1,Zz ([]:List Int))] ⟨[0],[],x0j,x0k⟩ ⟨[(3,.grow 0 1)],[],[]⟩ [] (pp (fl ([]:List Int) nn) nn))
theorem w5k (l0:List Int) (n:Nat) (vs:List AVal) (h:Zs (Vf l0) n (z4p l0)=.ret vs):Jw prog (Zy prog 70) (Za prog 70 [(.dat l0.length (Zz l0))] true []) vs:=by have:=Zc (x3d l0) n _ (x0i l0);rwa [h] at this
inductive rcanS where
 | h0 (v5:List R2) (v6:Int)
def u9x (l0:List Int) (l1:List Bool):rcanS→Cfg
 | .h0 v5 v6=>⟨⟨61,0,true⟩,none,(Zb prog 142 [1,1,0,1,0,0] 0),none,(Zy prog 5),⟨Ya [(0,(.dat l0.length (Zz l0))),(1,(.dat l1.length (Zz l1))),(5,(.sla 0 2 0 v5.length (.un 2))),(6,(ii v6))],Wr [⟨rows v5.length (Zz v5),183,some ⟨2,v5.length,(Zz v5)⟩⟩] 0,1,[],true⟩,[],.leaf⟩
def x3q :List (Option (List Nat)):=[some [0,1,5,6]]
def x3r :List (Option (List Nat)):=[]
def Qi (l0:List Int) (l1:List Bool):rcanS→Xv rcanS
 | .h0 v5 v6=>(bif (decide ((wrap .i64 (v6+1))<(l0.length:Int))) then (bif ((decide (0≤v6∧v6<(l1.length:Int)))&&true) then (bif (!(rd l1 v6.toNat)) then (.to (.h0 v5 (wrap .i64 (v6+1)))) else (bif (decide ((v5.length:Int)>0)) then (bif ((decide (0≤(wrap .i64 ((v5.length:Int) - 1))∧(wrap .i64 ((v5.length:Int) - 1))<(v5.length:Int)))&&true) then (bif (decide ((0+(Int.toNat (wrap .i64 ((v5.length:Int) - 1))))<v5.length)) then (bif ((decide (0≤v6∧v6<(l0.length:Int)))&&true) then (bif ((rd v5 (0+(Int.toNat (wrap .i64 ((v5.length:Int) - 1))))).b == (rd l0 v6.toNat)) then (bif ((decide (0≤(wrap .i64 (v6+1))∧(wrap .i64 (v6+1))<(l0.length:Int)))&&true) then (.to (.h0 (v5.set (0+(Int.toNat (wrap .i64 ((v5.length:Int) - 1)))) (R2.mk (rd v5 (0+(Int.toNat (wrap .i64 ((v5.length:Int) - 1))))).a (rd l0 (Int.toNat (wrap .i64 (v6+1)))))) (wrap .i64 (v6+1)))) else .stuck) else (bif ((decide (0≤(wrap .i64 (v6+1))∧(wrap .i64 (v6+1))<(l0.length:Int)))&&true) then (bif (Nat.beq 2 2&&((decide (0+v5.length=v5.length))&&decide ((v5.length+1+1)*(16+1)≤Uj))) then (.to (.h0 (v5++[(R2.mk (rd l0 v6.toNat) (rd l0 (Int.toNat (wrap .i64 (v6+1)))))]) (wrap .i64 (v6+1)))) else .stuck) else .stuck)) else .stuck) else .stuck) else .stuck) else (bif ((decide (0≤v6∧v6<(l0.length:Int)))&&true) then (bif ((decide (0≤(wrap .i64 (v6+1))∧(wrap .i64 (v6+1))<(l0.length:Int)))&&true) then (bif (Nat.beq 2 2&&((decide (0+v5.length=v5.length))&&decide ((v5.length+1+1)*(16+1)≤Uj))) then (.to (.h0 (v5++[(R2.mk (rd l0 v6.toNat) (rd l0 (Int.toNat (wrap .i64 (v6+1)))))]) (wrap .i64 (v6+1)))) else .stuck) else .stuck) else .stuck))) else .stuck) else (.ret [(.dat v5.length (Zz v5))]))
def z7u (l0:List Int) (l1:List Bool):Xv rcanS:=(.to (.h0 ([]:List R2) 0))
theorem x8d (l0:List Int) (l1:List Bool): ∀s,Ys prog (Zy prog 142) (u9x l0 l1) (u9x l0 l1 s) (Qi l0 l1 s)
 | .h0 v5 v6=>(lb (fun k0=>(lo fun aF=>(lb (fun k1=>(sl Zg 30 [] ⟨[0],[],x3q,x3r⟩ ⟨[],[],[]⟩ (bl 2 3) (pp (fl v5 nn) (tt k1 (ww aF (tt k0 nn)))))) (fun k1=>(lb (fun k2=>(lo fun cC=>(lo fun cU=>(lo fun cW=>(lb (fun k3=>(lo fun o0=>(sl Zg 53 [] ⟨[0],[],x3q,x3r⟩ ⟨[(5,.len (v5.set (0+(tn (wr ((v5.length:Int) - 1)))) (R2.mk (rd v5 (0+(tn (wr ((v5.length:Int) - 1))))).a (rd l0 (tn (wr (v6+1)))))).length)],[.rowed 2 (v5.set (0+(tn (wr ((v5.length:Int) - 1)))) (R2.mk (rd v5 (0+(tn (wr ((v5.length:Int) - 1))))).a (rd l0 (tn (wr (v6+1)))))).length (Zz (v5.set (0+(tn (wr ((v5.length:Int) - 1)))) (R2.mk (rd v5 (0+(tn (wr ((v5.length:Int) - 1))))).a (rd l0 (tn (wr (v6+1)))))))],[]⟩ (bl 14 16381) (pp (xL v5.length (v5.set (0+(tn (wr ((v5.length:Int) - 1)))) (R2.mk (rd v5 (0+(tn (wr ((v5.length:Int) - 1))))).a (rd l0 (tn (wr (v6+1)))))).length) (pp (xL v5.length (v5.set (0+(tn (wr ((v5.length:Int) - 1)))) (R2.mk (rd v5 (0+(tn (wr ((v5.length:Int) - 1))))).a (rd l0 (tn (wr (v6+1)))))).length) (pp (xS v5.length (Xe (Zz v5) (0+(tn (wr ((v5.length:Int) - 1)))) 1 [(ii (rd l0 (tn (wr (v6+1)))))]) (Zz (v5.set (0+(tn (wr ((v5.length:Int) - 1)))) (R2.mk (rd v5 (0+(tn (wr ((v5.length:Int) - 1))))).a (rd l0 (tn (wr (v6+1)))))))) (pp (pp (xF (Xe (Zz v5) (0+(tn (wr ((v5.length:Int) - 1)))) 1 [(ii (rd l0 (tn (wr (v6+1)))))])) nn) (ww cU (ww cC (ww o0 (tt k3 (ww cW (ww cU (ww cC (tt k2 (tt k1 (ww aF (tt k0 nn)))))))))))))))))) (fun k3=>(lo fun o0=>(lo fun o1=>(sl Zg 41 [] ⟨[2],[],x3q,x3r⟩ ⟨[(5,.len (v5++[(R2.mk (rd l0 (tn v6)) (rd l0 (tn (wr (v6+1)))))]).length)],[.rowed 2 (v5++[(R2.mk (rd l0 (tn v6)) (rd l0 (tn (wr (v6+1)))))]).length (Zz (v5++[(R2.mk (rd l0 (tn v6)) (rd l0 (tn (wr (v6+1)))))]))],[]⟩ (bl 14 8189) (pp (xL (v5.length+1) (v5++[(R2.mk (rd l0 (tn v6)) (rd l0 (tn (wr (v6+1)))))]).length) (pp (xL (v5.length+1) (v5++[(R2.mk (rd l0 (tn v6)) (rd l0 (tn (wr (v6+1)))))]).length) (pp (xS (v5.length+1) (Ze (Zz v5) 0 v5.length 2 [(ii (rd l0 (tn v6))),(ii (rd l0 (tn (wr (v6+1)))))]) (Zz (v5++[(R2.mk (rd l0 (tn v6)) (rd l0 (tn (wr (v6+1)))))]))) (pp (pp (xF (Ze (Zz v5) 0 v5.length 2 [(ii (rd l0 (tn v6))),(ii (rd l0 (tn (wr (v6+1)))))])) nn) (ww o1 (ww o0 (ww cW (tt k3 (ww cW (ww cU (ww cC (tt k2 (tt k1 (ww aF (tt k0 nn)))))))))))))))))))))))) (fun k2=>(lo fun o0=>(lo fun o1=>(lo fun o2=>(sl Zg 41 [] ⟨[2],[],x3q,x3r⟩ ⟨[(5,.len (v5++[(R2.mk (rd l0 (tn v6)) (rd l0 (tn (wr (v6+1)))))]).length)],[.rowed 2 (v5++[(R2.mk (rd l0 (tn v6)) (rd l0 (tn (wr (v6+1)))))]).length (Zz (v5++[(R2.mk (rd l0 (tn v6)) (rd l0 (tn (wr (v6+1)))))]))],[]⟩ (bl 14 1) (pp (xL (v5.length+1) (v5++[(R2.mk (rd l0 (tn v6)) (rd l0 (tn (wr (v6+1)))))]).length) (pp (xL (v5.length+1) (v5++[(R2.mk (rd l0 (tn v6)) (rd l0 (tn (wr (v6+1)))))]).length) (pp (xS (v5.length+1) (Ze (Zz v5) 0 v5.length 2 [(ii (rd l0 (tn v6))),(ii (rd l0 (tn (wr (v6+1)))))]) (Zz (v5++[(R2.mk (rd l0 (tn v6)) (rd l0 (tn (wr (v6+1)))))]))) (pp (pp (xF (Ze (Zz v5) 0 v5.length 2 [(ii (rd l0 (tn v6))),(ii (rd l0 (tn (wr (v6+1)))))])) nn) (ww o2 (ww o1 (ww o0 (tt k2 (tt k1 (ww aF (tt k0 nn))))))))))))))))))))) (fun k0=>(lr 61 3 [1,1,1,1,1,1,1,0] 1 5 [(4,(.dat v5.length (Zz v5)))] (sl Zg 16 [] ⟨[],[0],[some [4]],[]⟩ ⟨[(4,.frz v5.length v5.length (Zz v5) (Zz v5))],[],[]⟩ [false] (pp (xZ (z3k 2 2 0 v5.length v5.length (Zz v5)) v5.length (Zz v5)) (pp (xL v5.length v5.length) (pp (xS v5.length (Zz v5) (Zz v5)) (pp (fl v5 nn) (tt k0 nn)))))))))
theorem x3p (l0:List Int) (l1:List Bool):Ys prog (Zy prog 142) (u9x l0 l1) (Za prog 142 [(.dat l0.length (Zz l0)),(.dat l1.length (Zz l1))] true []) (z7u l0 l1):=(sl Zg 15 [(183,2,Zz ([]:List R2))] ⟨[0],[],x3q,x3r⟩ ⟨[(5,.grow 0 2)],[],[]⟩ [] (pp (fl ([]:List R2) nn) nn))
theorem v1r (l0:List Int) (l1:List Bool) (n:Nat) (vs:List AVal) (h:Zs (Qi l0 l1) n (z7u l0 l1)=.ret vs):Jw prog (Zy prog 142) (Za prog 142 [(.dat l0.length (Zz l0)),(.dat l1.length (Zz l1))] true []) vs:=by have:=Zc (x8d l0 l1) n _ (x3p l0 l1);rwa [h] at this
inductive rsmS where
 | h0 (v5:Int)
def rsmC (l0:List R2) (l1:List R2):rsmS→Cfg
 | .h0 v5=>⟨⟨26,0,true⟩,none,(Zb prog 169 [1,1,0,1,0,0] 0),none,(Zy prog 5),⟨Ya [(0,(.dat l0.length (Zz l0))),(1,(.dat l1.length (Zz l1))),(5,(ii v5))],Wr [] 0,0,[],true⟩,[],.leaf⟩
def rsmN0 :List (Option (List Nat)):=[some [0,1,5]]
def rsmM0 :List (Option (List Nat)):=[]
def z6e (l0:List R2) (l1:List R2):rsmS→Xv rsmS
 | .h0 v5=>(bif (decide (v5<(l0.length:Int))) then (bif ((decide (0≤v5∧v5<(l0.length:Int)))&&true) then (bif ((decide (0≤v5∧v5<(l1.length:Int)))&&true) then (bif (!(((rd l0 v5.toNat).a == (rd l1 v5.toNat).a)&&(((rd l0 v5.toNat).b == (rd l1 v5.toNat).b)&&true))) then (.ret [(.bool false)]) else (.to (.h0 (wrap .i64 (v5+1))))) else .stuck) else .stuck) else (.ret [(.bool true)]))
def z7d (l0:List R2) (l1:List R2):Xv rsmS:=(bif ((l0.length:Int) != (l1.length:Int)) then (.ret [(.bool false)]) else (.to (.h0 0)))
theorem w5l (l0:List R2) (l1:List R2): ∀s,Ys prog (Zy prog 169) (rsmC l0 l1) (rsmC l0 l1 s) (z6e l0 l1 s)
 | .h0 v5=>(lb (fun k0=>(lo fun aF=>(lo fun aR=>(lb (fun k1=>(lr 26 169 [1,1,0,1,0,0,1,0,0,1,0,0] 1 5 [(4,(.bool false))] (sl Zg 19 [] ⟨[],[],[some [4]],[]⟩ ⟨[],[],[]⟩ (bl 2 3) (tt k1 (ww aR (ww aF (tt k0 nn))))))) (fun k1=>(sl Zg 23 [] ⟨[],[],rsmN0,rsmM0⟩ ⟨[],[],[]⟩ (bl 2 1) (tt k1 (ww aR (ww aF (tt k0 nn)))))))))) (fun k0=>(lr 26 3 [1,1,1,1,1,1,1,0] 1 5 [(4,(.bool true))] (sl Zg 14 [] ⟨[],[],[some [4]],[]⟩ ⟨[],[],[]⟩ [false] (tt k0 nn)))))
theorem x7c (l0:List R2) (l1:List R2):Ys prog (Zy prog 169) (rsmC l0 l1) (Za prog 169 [(.dat l0.length (Zz l0)),(.dat l1.length (Zz l1))] true []) (z7d l0 l1):=(lb (fun k0=>(lr 26 169 [1,0,1,0,0] 1 5 [(4,(.bool false))] (sl Zg 18 [] ⟨[],[],[some [4]],[]⟩ ⟨[],[],[]⟩ [true] (tt k0 nn)))) (fun k0=>(sl Zg 22 [] ⟨[],[],rsmN0,rsmM0⟩ ⟨[],[],[]⟩ [false] (tt k0 nn))))
theorem v7e (l0:List R2) (l1:List R2) (n:Nat) (vs:List AVal) (h:Zs (z6e l0 l1) n (z7d l0 l1)=.ret vs):Jw prog (Zy prog 169) (Za prog 169 [(.dat l0.length (Zz l0)),(.dat l1.length (Zz l1))] true []) vs:=by have:=Zc (w5l l0 l1) n _ (x7c l0 l1);rwa [h] at this
inductive rhasS where
 | h0 (v7:Int)
def u9l (l0:List R4) (x1:Int) (x2:Int):rhasS→Cfg
 | .h0 v7=>⟨⟨48,0,true⟩,none,(Zb prog 168 [1,0,1,0,0] 0),none,(Zy prog 8),⟨Ya [(0,(.dat l0.length (Zz l0))),(1,(ii x1)),(2,(ii x2)),(7,(ii v7))],Wr [] 0,0,[],true⟩,[],.leaf⟩
def x3g :List (Option (List Nat)):=[some [0,1,2,7]]
def x3h :List (Option (List Nat)):=[]
def z4s (l0:List R4) (x1:Int) (x2:Int):rhasS→Xv rhasS
 | .h0 v7=>(bif (decide (v7<(l0.length:Int))) then (bif ((decide (0≤v7∧v7<(l0.length:Int)))&&true) then (bif (decide ((rd l0 v7.toNat).a ≤x1)) then (bif (decide (x1<(rd l0 v7.toNat).c)) then (bif (decide ((rd l0 v7.toNat).b ≤x2)) then (bif (decide (x2<(rd l0 v7.toNat).d)) then (.ret [(.bool true)]) else (.to (.h0 (wrap .i64 (v7+1))))) else (.to (.h0 (wrap .i64 (v7+1))))) else (.to (.h0 (wrap .i64 (v7+1))))) else (.to (.h0 (wrap .i64 (v7+1))))) else .stuck) else (.ret [(.bool false)]))
def z7o (l0:List R4) (x1:Int) (x2:Int):Xv rhasS:=(.to (.h0 0))
theorem x7q (l0:List R4) (x1:Int) (x2:Int): ∀s,Ys prog (Zy prog 168) (u9l l0 x1 x2) (u9l l0 x1 x2 s) (z4s l0 x1 x2 s)
 | .h0 v7=>(lb (fun k0=>(lo fun aF=>(lb (fun k1=>(lb (fun k2=>(lb (fun k3=>(lb (fun k4=>(lr 48 168 [1,0,1,0,0,1,0,0,1,0,0] 1 8 [(6,(.bool true))] (sl Zg 54 [] ⟨[],[],[some [6]],[]⟩ ⟨[],[],[]⟩ (trs 23 []) (tt k4 (ww aF (tt k3 (ww aF (tt k2 (ww aF (tt k1 (ww aF (tt k0 nn)))))))))))) (fun k4=>(sl Zg 58 [] ⟨[],[],x3g,x3h⟩ ⟨[],[],[]⟩ (trs 22 [false]) (tt k4 (ww aF (tt k3 (ww aF (tt k2 (ww aF (tt k1 (ww aF (tt k0 nn))))))))))))) (fun k3=>(sl Zg 58 [] ⟨[],[],x3g,x3h⟩ ⟨[],[],[]⟩ (trs 15 (bl 8 0)) (tt k3 (ww aF (tt k2 (ww aF (tt k1 (ww aF (tt k0 nn))))))))))) (fun k2=>(sl Zg 58 [] ⟨[],[],x3g,x3h⟩ ⟨[],[],[]⟩ (trs 8 (bl 15 0)) (tt k2 (ww aF (tt k1 (ww aF (tt k0 nn))))))))) (fun k1=>(sl Zg 58 [] ⟨[],[],x3g,x3h⟩ ⟨[],[],[]⟩ (bl 23 1) (tt k1 (ww aF (tt k0 nn)))))))) (fun k0=>(lr 48 3 [1,1,1,1,1,1,1,0] 1 8 [(6,(.bool false))] (sl Zg 14 [] ⟨[],[],[some [6]],[]⟩ ⟨[],[],[]⟩ [false] (tt k0 nn)))))
theorem x3f (l0:List R4) (x1:Int) (x2:Int):Ys prog (Zy prog 168) (u9l l0 x1 x2) (Za prog 168 [(.dat l0.length (Zz l0)),(.int .i64 x1),(.int .i64 x2)] true []) (z7o l0 x1 x2):=(sl Zg 11 [] ⟨[],[],x3g,x3h⟩ ⟨[],[],[]⟩ [] nn)
theorem v0x (l0:List R4) (x1:Int) (x2:Int) (n:Nat) (vs:List AVal) (h:Zs (z4s l0 x1 x2) n (z7o l0 x1 x2)=.ret vs):Jw prog (Zy prog 168) (Za prog 168 [(.dat l0.length (Zz l0)),(.int .i64 x1),(.int .i64 x2)] true []) vs:=by have:=Zc (x7q l0 x1 x2) n _ (x3f l0 x1 x2);rwa [h] at this
inductive rsrS where
 | h0 (v5:Int)
def rsrC (l0:List R4) (l1:List R4):rsrS→Cfg
 | .h0 v5=>⟨⟨26,0,true⟩,none,(Zb prog 128 [1,1,0,1,0,0] 0),none,(Zy prog 5),⟨Ya [(0,(.dat l0.length (Zz l0))),(1,(.dat l1.length (Zz l1))),(5,(ii v5))],Wr [] 0,0,[],true⟩,[],.leaf⟩
def rsrN0 :List (Option (List Nat)):=[some [0,1,5]]
def rsrM0 :List (Option (List Nat)):=[]
def z6c (l0:List R4) (l1:List R4):rsrS→Xv rsrS
 | .h0 v5=>(bif (decide (v5<(l0.length:Int))) then (bif ((decide (0≤v5∧v5<(l0.length:Int)))&&true) then (bif ((decide (0≤v5∧v5<(l1.length:Int)))&&true) then (bif (!(((rd l0 v5.toNat).a == (rd l1 v5.toNat).a)&&(((rd l0 v5.toNat).b == (rd l1 v5.toNat).b)&&(((rd l0 v5.toNat).c == (rd l1 v5.toNat).c)&&(((rd l0 v5.toNat).d == (rd l1 v5.toNat).d)&&true))))) then (.ret [(.bool false)]) else (.to (.h0 (wrap .i64 (v5+1))))) else .stuck) else .stuck) else (.ret [(.bool true)]))
def z7b (l0:List R4) (l1:List R4):Xv rsrS:=(bif ((l0.length:Int) != (l1.length:Int)) then (.ret [(.bool false)]) else (.to (.h0 0)))
theorem w5i (l0:List R4) (l1:List R4): ∀s,Ys prog (Zy prog 128) (rsrC l0 l1) (rsrC l0 l1 s) (z6c l0 l1 s)
 | .h0 v5=>(lb (fun k0=>(lo fun aF=>(lo fun aR=>(lb (fun k1=>(lr 26 128 [1,1,0,1,0,0,1,0,0,1,0,0] 1 5 [(4,(.bool false))] (sl Zg 19 [] ⟨[],[],[some [4]],[]⟩ ⟨[],[],[]⟩ (bl 2 3) (tt k1 (ww aR (ww aF (tt k0 nn))))))) (fun k1=>(sl Zg 23 [] ⟨[],[],rsrN0,rsrM0⟩ ⟨[],[],[]⟩ (bl 2 1) (tt k1 (ww aR (ww aF (tt k0 nn)))))))))) (fun k0=>(lr 26 3 [1,1,1,1,1,1,1,0] 1 5 [(4,(.bool true))] (sl Zg 14 [] ⟨[],[],[some [4]],[]⟩ ⟨[],[],[]⟩ [false] (tt k0 nn)))))
theorem x7a (l0:List R4) (l1:List R4):Ys prog (Zy prog 128) (rsrC l0 l1) (Za prog 128 [(.dat l0.length (Zz l0)),(.dat l1.length (Zz l1))] true []) (z7b l0 l1):=(lb (fun k0=>(lr 26 128 [1,0,1,0,0] 1 5 [(4,(.bool false))] (sl Zg 18 [] ⟨[],[],[some [4]],[]⟩ ⟨[],[],[]⟩ [true] (tt k0 nn)))) (fun k0=>(sl Zg 22 [] ⟨[],[],rsrN0,rsrM0⟩ ⟨[],[],[]⟩ [false] (tt k0 nn))))
theorem v7c (l0:List R4) (l1:List R4) (n:Nat) (vs:List AVal) (h:Zs (z6c l0 l1) n (z7b l0 l1)=.ret vs):Jw prog (Zy prog 128) (Za prog 128 [(.dat l0.length (Zz l0)),(.dat l1.length (Zz l1))] true []) vs:=by have:=Zc (w5i l0 l1) n _ (x7a l0 l1);rwa [h] at this
inductive rsbS where
 | h0 (v5:Int)
def rsbC (l0:List R6) (l1:List R6):rsbS→Cfg
 | .h0 v5=>⟨⟨26,0,true⟩,none,(Zb prog 20 [1,1,0,1,0,0] 0),none,(Zy prog 5),⟨Ya [(0,(.dat l0.length (Zz l0))),(1,(.dat l1.length (Zz l1))),(5,(ii v5))],Wr [] 0,0,[],true⟩,[],.leaf⟩
def rsbN0 :List (Option (List Nat)):=[some [0,1,5]]
def rsbM0 :List (Option (List Nat)):=[]
def z6f (l0:List R6) (l1:List R6):rsbS→Xv rsbS
 | .h0 v5=>(bif (decide (v5<(l0.length:Int))) then (bif ((decide (0≤v5∧v5<(l0.length:Int)))&&true) then (bif ((decide (0≤v5∧v5<(l1.length:Int)))&&true) then (bif (!((((rd l0 v5.toNat).a == (rd l1 v5.toNat).a)&&(((rd l0 v5.toNat).b == (rd l1 v5.toNat).b)&&(((rd l0 v5.toNat).c == (rd l1 v5.toNat).c)&&true)))&&((((rd l0 v5.toNat).d == (rd l1 v5.toNat).d)&&(((rd l0 v5.toNat).e == (rd l1 v5.toNat).e)&&(((rd l0 v5.toNat).f == (rd l1 v5.toNat).f)&&true)))&&true))) then (.ret [(.bool false)]) else (.to (.h0 (wrap .i64 (v5+1))))) else .stuck) else .stuck) else (.ret [(.bool true)]))
def z7f (l0:List R6) (l1:List R6):Xv rsbS:=(bif ((l0.length:Int) != (l1.length:Int)) then (.ret [(.bool false)]) else (.to (.h0 0)))
theorem w5n (l0:List R6) (l1:List R6): ∀s,Ys prog (Zy prog 20) (rsbC l0 l1) (rsbC l0 l1 s) (z6f l0 l1 s)
 | .h0 v5=>(lb (fun k0=>(lo fun aF=>(lo fun aR=>(lb (fun k1=>(lr 26 20 [1,1,0,1,0,0,1,0,0,1,0,0] 1 5 [(4,(.bool false))] (sl Zg 19 [] ⟨[],[],[some [4]],[]⟩ ⟨[],[],[]⟩ (bl 2 3) (tt k1 (ww aR (ww aF (tt k0 nn))))))) (fun k1=>(sl Zg 23 [] ⟨[],[],rsbN0,rsbM0⟩ ⟨[],[],[]⟩ (bl 2 1) (tt k1 (ww aR (ww aF (tt k0 nn)))))))))) (fun k0=>(lr 26 3 [1,1,1,1,1,1,1,0] 1 5 [(4,(.bool true))] (sl Zg 14 [] ⟨[],[],[some [4]],[]⟩ ⟨[],[],[]⟩ [false] (tt k0 nn)))))
theorem x7e (l0:List R6) (l1:List R6):Ys prog (Zy prog 20) (rsbC l0 l1) (Za prog 20 [(.dat l0.length (Zz l0)),(.dat l1.length (Zz l1))] true []) (z7f l0 l1):=(lb (fun k0=>(lr 26 20 [1,0,1,0,0] 1 5 [(4,(.bool false))] (sl Zg 18 [] ⟨[],[],[some [4]],[]⟩ ⟨[],[],[]⟩ [true] (tt k0 nn)))) (fun k0=>(sl Zg 22 [] ⟨[],[],rsbN0,rsbM0⟩ ⟨[],[],[]⟩ [false] (tt k0 nn))))
theorem v7j (l0:List R6) (l1:List R6) (n:Nat) (vs:List AVal) (h:Zs (z6f l0 l1) n (z7f l0 l1)=.ret vs):Jw prog (Zy prog 20) (Za prog 20 [(.dat l0.length (Zz l0)),(.dat l1.length (Zz l1))] true []) vs:=by have:=Zc (w5n l0 l1) n _ (x7e l0 l1);rwa [h] at this
inductive ratS where
 | h0 (v5:List R4) (v6:Int)
def ratC (l0:List R6) (x1:Int):ratS→Cfg
 | .h0 v5 v6=>⟨⟨60,0,true⟩,none,(Zb prog 127 [1,1,0,1,0,0] 0),none,(Zy prog 5),⟨Ya [(0,(.dat l0.length (Zz l0))),(1,(ii x1)),(5,(.sla 0 4 0 v5.length (.un 4))),(6,(ii v6))],Wr [⟨rows v5.length (Zz v5),88,some ⟨4,v5.length,(Zz v5)⟩⟩] 0,1,[],true⟩,[],.leaf⟩
def v8t :List (Option (List Nat)):=[some [0,1,5,6]]
def v8u :List (Option (List Nat)):=[]
def z6i (l0:List R6) (x1:Int):ratS→Xv ratS
 | .h0 v5 v6=>(bif (decide (v6<(l0.length:Int))) then (bif ((decide (0≤v6∧v6<(l0.length:Int)))&&true) then (bif (decide ((rd l0 v6.toNat).c ≤x1)) then (bif (decide (x1<(rd l0 v6.toNat).f)) then (bif (Nat.beq 4 4&&((decide (0+v5.length=v5.length))&&decide ((v5.length+1+1)*(32+1)≤Uj))) then (.to (.h0 (v5++[(R4.mk (rd l0 v6.toNat).a (rd l0 v6.toNat).b (rd l0 v6.toNat).d (rd l0 v6.toNat).e)]) (wrap .i64 (v6+1)))) else .stuck) else (.to (.h0 v5 (wrap .i64 (v6+1))))) else (.to (.h0 v5 (wrap .i64 (v6+1))))) else .stuck) else (.ret [(.dat v5.length (Zz v5))]))
def y2p (l0:List R6) (x1:Int):Xv ratS:=(.to (.h0 ([]:List R4) 0))
theorem w6c (l0:List R6) (x1:Int): ∀s,Ys prog (Zy prog 127) (ratC l0 x1) (ratC l0 x1 s) (z6i l0 x1 s)
 | .h0 v5 v6=>(lb (fun k0=>(lo fun aF=>(lb (fun k1=>(lb (fun k2=>(lo fun o0=>(sl Zg 42 [] ⟨[2],[],v8t,v8u⟩ ⟨[(5,.len (v5++[(R4.mk (rd l0 (tn v6)).a (rd l0 (tn v6)).b (rd l0 (tn v6)).d (rd l0 (tn v6)).e)]).length)],[.rowed 4 (v5++[(R4.mk (rd l0 (tn v6)).a (rd l0 (tn v6)).b (rd l0 (tn v6)).d (rd l0 (tn v6)).e)]).length (Zz (v5++[(R4.mk (rd l0 (tn v6)).a (rd l0 (tn v6)).b (rd l0 (tn v6)).d (rd l0 (tn v6)).e)]))],[]⟩ (trs 10 []) (pp (xL (v5.length+1) (v5++[(R4.mk (rd l0 (tn v6)).a (rd l0 (tn v6)).b (rd l0 (tn v6)).d (rd l0 (tn v6)).e)]).length) (pp (xL (v5.length+1) (v5++[(R4.mk (rd l0 (tn v6)).a (rd l0 (tn v6)).b (rd l0 (tn v6)).d (rd l0 (tn v6)).e)]).length) (pp (xS (v5.length+1) (Ze (Zz v5) 0 v5.length 4 [(ii (rd l0 (tn v6)).a),(ii (rd l0 (tn v6)).b),(ii (rd l0 (tn v6)).d),(ii (rd l0 (tn v6)).e)]) (Zz (v5++[(R4.mk (rd l0 (tn v6)).a (rd l0 (tn v6)).b (rd l0 (tn v6)).d (rd l0 (tn v6)).e)]))) (pp (pp (xF (Ze (Zz v5) 0 v5.length 4 [(ii (rd l0 (tn v6)).a),(ii (rd l0 (tn v6)).b),(ii (rd l0 (tn v6)).d),(ii (rd l0 (tn v6)).e)])) nn) (ww o0 (ww aF (ww aF (ww aF (ww aF (tt k2 (ww aF (tt k1 (ww aF (tt k0 nn))))))))))))))))) (fun k2=>(sl Zg 42 [] ⟨[0],[],v8t,v8u⟩ ⟨[],[],[]⟩ (trs 9 [false]) (pp (fl v5 nn) (tt k2 (ww aF (tt k1 (ww aF (tt k0 nn)))))))))) (fun k1=>(sl Zg 42 [] ⟨[0],[],v8t,v8u⟩ ⟨[],[],[]⟩ (bl 10 1) (pp (fl v5 nn) (tt k1 (ww aF (tt k0 nn))))))))) (fun k0=>(lr 60 3 [1,1,1,1,1,1,1,0] 1 5 [(4,(.dat v5.length (Zz v5)))] (sl Zg 15 [] ⟨[],[0],[some [4]],[]⟩ ⟨[(4,.frz v5.length v5.length (Zz v5) (Zz v5))],[],[]⟩ [false] (pp (xZ (z3k 4 4 0 v5.length v5.length (Zz v5)) v5.length (Zz v5)) (pp (xL v5.length v5.length) (pp (xS v5.length (Zz v5) (Zz v5)) (pp (fl v5 nn) (tt k0 nn)))))))))
theorem x8e (l0:List R6) (x1:Int):Ys prog (Zy prog 127) (ratC l0 x1) (Za prog 127 [(.dat l0.length (Zz l0)),(.int .i64 x1)] true []) (y2p l0 x1):=(sl Zg 15 [(88,4,Zz ([]:List R4))] ⟨[0],[],v8t,v8u⟩ ⟨[(5,.grow 0 4)],[],[]⟩ [] (pp (fl ([]:List R4) nn) nn))
theorem v8s (l0:List R6) (x1:Int) (n:Nat) (vs:List AVal) (h:Zs (z6i l0 x1) n (y2p l0 x1)=.ret vs):Jw prog (Zy prog 127) (Za prog 127 [(.dat l0.length (Zz l0)),(.int .i64 x1)] true []) vs:=by have:=Zc (w6c l0 x1) n _ (x8e l0 x1);rwa [h] at this
inductive eqaS where
 | h0 (v13:Int)
def eqaC (l0:List R2) (l1:List R2):eqaS→Cfg
 | .h0 v13=>⟨⟨26,0,true⟩,none,(Zb prog 188 [1,1,0,1,0,0] 0),none,(Zy prog 5),⟨Ya [(0,(.dat l0.length (Zz l0))),(1,(.dat l1.length (Zz l1))),(12,(ii (l0.length:Int))),(13,(ii v13))],Wr [] 0,0,[],true⟩,[],.leaf⟩
def eqaN0 :List (Option (List Nat)):=[some [0,1,12,13]]
def eqaM0 :List (Option (List Nat)):=[]
def z6r (l0:List R2) (l1:List R2):eqaS→Xv eqaS
 | .h0 v13=>(bif (decide (v13<(l0.length:Int))) then (bif ((decide (0≤v13∧v13<(l0.length:Int)))&&true) then (bif ((decide (0≤v13∧v13<(l1.length:Int)))&&true) then (bif (!(((rd l0 v13.toNat).a == (rd l1 v13.toNat).a)&&(((rd l0 v13.toNat).b == (rd l1 v13.toNat).b)&&true))) then (.ret [(.bool false)]) else (.to (.h0 (wrap .i64 (v13+1))))) else .stuck) else .stuck) else (.ret [(.bool true)]))
def z8k (l0:List R2) (l1:List R2):Xv eqaS:=(bif ((l0.length:Int) != (l1.length:Int)) then (.ret [(.bool false)]) else (.to (.h0 0)))
theorem w7q (l0:List R2) (l1:List R2): ∀s,Ys prog (Zy prog 188) (eqaC l0 l1) (eqaC l0 l1 s) (z6r l0 l1 s)
 | .h0 v13=>(lb (fun k0=>(lo fun aF=>(lo fun aR=>(lb (fun k1=>(lr 26 188 [1,1,0,1,0,0,1,1,0,0,1,1,0,0] 1 5 [(4,(.bool false))] (sl Zg 21 [] ⟨[],[],[some [4]],[]⟩ ⟨[],[],[]⟩ (bl 2 3) (tt k1 (ww aR (ww aF (tt k0 nn))))))) (fun k1=>(sl Zg 24 [] ⟨[],[],eqaN0,eqaM0⟩ ⟨[],[],[]⟩ (bl 2 1) (tt k1 (ww aR (ww aF (tt k0 nn)))))))))) (fun k0=>(lr 26 3 [1,1,1,1,1,1,1,0] 1 5 [(4,(.bool true))] (sl Zg 11 [] ⟨[],[],[some [4]],[]⟩ ⟨[],[],[]⟩ [false] (tt k0 nn)))))
theorem w0d (l0:List R2) (l1:List R2):Ys prog (Zy prog 188) (eqaC l0 l1) (Za prog 188 [(.dat l0.length (Zz l0)),(.dat l1.length (Zz l1))] true []) (z8k l0 l1):=(lb (fun k0=>(lr 26 188 [1,0,1,0,0] 1 5 [(4,(.bool false))] (sl Zg 18 [] ⟨[],[],[some [4]],[]⟩ ⟨[],[],[]⟩ [true] (tt k0 nn)))) (fun k0=>(sl Zg 24 [] ⟨[],[],eqaN0,eqaM0⟩ ⟨[],[],[]⟩ [false] (tt k0 nn))))
theorem u1d (l0:List R2) (l1:List R2) (n:Nat) (vs:List AVal) (h:Zs (z6r l0 l1) n (z8k l0 l1)=.ret vs):Jw prog (Zy prog 188) (Za prog 188 [(.dat l0.length (Zz l0)),(.dat l1.length (Zz l1))] true []) vs:=by have:=Zc (w7q l0 l1) n _ (w0d l0 l1);rwa [h] at this
inductive eqbS where
 | h0 (v13:Int)
def eqbC (l0:List R4) (l1:List R4):eqbS→Cfg
 | .h0 v13=>⟨⟨26,0,true⟩,none,(Zb prog 172 [1,1,0,1,0,0] 0),none,(Zy prog 5),⟨Ya [(0,(.dat l0.length (Zz l0))),(1,(.dat l1.length (Zz l1))),(12,(ii (l0.length:Int))),(13,(ii v13))],Wr [] 0,0,[],true⟩,[],.leaf⟩
def eqbN0 :List (Option (List Nat)):=[some [0,1,12,13]]
def eqbM0 :List (Option (List Nat)):=[]
def z6q (l0:List R4) (l1:List R4):eqbS→Xv eqbS
 | .h0 v13=>(bif (decide (v13<(l0.length:Int))) then (bif ((decide (0≤v13∧v13<(l0.length:Int)))&&true) then (bif ((decide (0≤v13∧v13<(l1.length:Int)))&&true) then (bif (!(((rd l0 v13.toNat).a == (rd l1 v13.toNat).a)&&(((rd l0 v13.toNat).b == (rd l1 v13.toNat).b)&&(((rd l0 v13.toNat).c == (rd l1 v13.toNat).c)&&(((rd l0 v13.toNat).d == (rd l1 v13.toNat).d)&&true))))) then (.ret [(.bool false)]) else (.to (.h0 (wrap .i64 (v13+1))))) else .stuck) else .stuck) else (.ret [(.bool true)]))
def z8j (l0:List R4) (l1:List R4):Xv eqbS:=(bif ((l0.length:Int) != (l1.length:Int)) then (.ret [(.bool false)]) else (.to (.h0 0)))
theorem w7p (l0:List R4) (l1:List R4): ∀s,Ys prog (Zy prog 172) (eqbC l0 l1) (eqbC l0 l1 s) (z6q l0 l1 s)
 | .h0 v13=>(lb (fun k0=>(lo fun aF=>(lo fun aR=>(lb (fun k1=>(lr 26 172 [1,1,0,1,0,0,1,1,0,0,1,1,0,0] 1 5 [(4,(.bool false))] (sl Zg 21 [] ⟨[],[],[some [4]],[]⟩ ⟨[],[],[]⟩ (bl 2 3) (tt k1 (ww aR (ww aF (tt k0 nn))))))) (fun k1=>(sl Zg 24 [] ⟨[],[],eqbN0,eqbM0⟩ ⟨[],[],[]⟩ (bl 2 1) (tt k1 (ww aR (ww aF (tt k0 nn)))))))))) (fun k0=>(lr 26 3 [1,1,1,1,1,1,1,0] 1 5 [(4,(.bool true))] (sl Zg 11 [] ⟨[],[],[some [4]],[]⟩ ⟨[],[],[]⟩ [false] (tt k0 nn)))))
theorem w0c (l0:List R4) (l1:List R4):Ys prog (Zy prog 172) (eqbC l0 l1) (Za prog 172 [(.dat l0.length (Zz l0)),(.dat l1.length (Zz l1))] true []) (z8j l0 l1):=(lb (fun k0=>(lr 26 172 [1,0,1,0,0] 1 5 [(4,(.bool false))] (sl Zg 18 [] ⟨[],[],[some [4]],[]⟩ ⟨[],[],[]⟩ [true] (tt k0 nn)))) (fun k0=>(sl Zg 24 [] ⟨[],[],eqbN0,eqbM0⟩ ⟨[],[],[]⟩ [false] (tt k0 nn))))
theorem u1c (l0:List R4) (l1:List R4) (n:Nat) (vs:List AVal) (h:Zs (z6q l0 l1) n (z8j l0 l1)=.ret vs):Jw prog (Zy prog 172) (Za prog 172 [(.dat l0.length (Zz l0)),(.dat l1.length (Zz l1))] true []) vs:=by have:=Zc (w7p l0 l1) n _ (w0c l0 l1);rwa [h] at this
inductive eqcS where
 | h0 (v13:Int)
def eqcC (l0:List R6) (l1:List R6):eqcS→Cfg
 | .h0 v13=>⟨⟨26,0,true⟩,none,(Zb prog 99 [1,1,0,1,0,0] 0),none,(Zy prog 5),⟨Ya [(0,(.dat l0.length (Zz l0))),(1,(.dat l1.length (Zz l1))),(12,(ii (l0.length:Int))),(13,(ii v13))],Wr [] 0,0,[],true⟩,[],.leaf⟩
def eqcN0 :List (Option (List Nat)):=[some [0,1,12,13]]
def eqcM0 :List (Option (List Nat)):=[]
def z6p (l0:List R6) (l1:List R6):eqcS→Xv eqcS
 | .h0 v13=>(bif (decide (v13<(l0.length:Int))) then (bif ((decide (0≤v13∧v13<(l0.length:Int)))&&true) then (bif ((decide (0≤v13∧v13<(l1.length:Int)))&&true) then (bif (!((((rd l0 v13.toNat).a == (rd l1 v13.toNat).a)&&(((rd l0 v13.toNat).b == (rd l1 v13.toNat).b)&&(((rd l0 v13.toNat).c == (rd l1 v13.toNat).c)&&true)))&&((((rd l0 v13.toNat).d == (rd l1 v13.toNat).d)&&(((rd l0 v13.toNat).e == (rd l1 v13.toNat).e)&&(((rd l0 v13.toNat).f == (rd l1 v13.toNat).f)&&true)))&&true))) then (.ret [(.bool false)]) else (.to (.h0 (wrap .i64 (v13+1))))) else .stuck) else .stuck) else (.ret [(.bool true)]))
def z8i (l0:List R6) (l1:List R6):Xv eqcS:=(bif ((l0.length:Int) != (l1.length:Int)) then (.ret [(.bool false)]) else (.to (.h0 0)))
theorem w7o (l0:List R6) (l1:List R6): ∀s,Ys prog (Zy prog 99) (eqcC l0 l1) (eqcC l0 l1 s) (z6p l0 l1 s)
 | .h0 v13=>(lb (fun k0=>(lo fun aF=>(lo fun aR=>(lb (fun k1=>(lr 26 99 [1,1,0,1,0,0,1,1,0,0,1,1,0,0] 1 5 [(4,(.bool false))] (sl Zg 21 [] ⟨[],[],[some [4]],[]⟩ ⟨[],[],[]⟩ (bl 2 3) (tt k1 (ww aR (ww aF (tt k0 nn))))))) (fun k1=>(sl Zg 24 [] ⟨[],[],eqcN0,eqcM0⟩ ⟨[],[],[]⟩ (bl 2 1) (tt k1 (ww aR (ww aF (tt k0 nn)))))))))) (fun k0=>(lr 26 3 [1,1,1,1,1,1,1,0] 1 5 [(4,(.bool true))] (sl Zg 11 [] ⟨[],[],[some [4]],[]⟩ ⟨[],[],[]⟩ [false] (tt k0 nn)))))
theorem w0b (l0:List R6) (l1:List R6):Ys prog (Zy prog 99) (eqcC l0 l1) (Za prog 99 [(.dat l0.length (Zz l0)),(.dat l1.length (Zz l1))] true []) (z8i l0 l1):=(lb (fun k0=>(lr 26 99 [1,0,1,0,0] 1 5 [(4,(.bool false))] (sl Zg 18 [] ⟨[],[],[some [4]],[]⟩ ⟨[],[],[]⟩ [true] (tt k0 nn)))) (fun k0=>(sl Zg 24 [] ⟨[],[],eqcN0,eqcM0⟩ ⟨[],[],[]⟩ [false] (tt k0 nn))))
theorem u1b (l0:List R6) (l1:List R6) (n:Nat) (vs:List AVal) (h:Zs (z6p l0 l1) n (z8i l0 l1)=.ret vs):Jw prog (Zy prog 99) (Za prog 99 [(.dat l0.length (Zz l0)),(.dat l1.length (Zz l1))] true []) vs:=by have:=Zc (w7o l0 l1) n _ (w0b l0 l1);rwa [h] at this
inductive holS where
def holC (x0:Int) (x1:Bool) (x2:Bool):holS→Cfg
 :=nofun
def x9n (x0:Int) (x1:Bool) (x2:Bool):holS→Xv holS
 :=nofun
def y3b (x0:Int) (x1:Bool) (x2:Bool):Xv holS:=(bif (x0 == 1) then (bif x1 then (.ret [(.bool x2)]) else (.ret [(.bool false)])) else (bif (x0 == 2) then (bif x1 then (.ret [(.bool true)]) else (.ret [(.bool x2)])) else (bif x1 then (.ret [(.bool (!x2))]) else (.ret [(.bool false)]))))
theorem w7b (x0:Int) (x1:Bool) (x2:Bool): ∀s,Ys prog (Zy prog 167) (holC x0 x1 x2) (holC x0 x1 x2 s) (x9n x0 x1 x2 s)
 :=nofun
theorem x9o (x0:Int) (x1:Bool) (x2:Bool):Ys prog (Zy prog 167) (holC x0 x1 x2) (Za prog 167 [(.int .i64 x0),(.bool x1),(.bool x2)] true []) (y3b x0 x1 x2):=(lb (fun k0=>(lb (fun k1=>(lr 24 167 [1,0,1,0,0] 1 8 [(6,(.bool x2))] (sl Zg 19 [] ⟨[],[],[some [6]],[]⟩ ⟨[],[],[]⟩ [true,true] (tt k1 (tt k0 nn))))) (fun k1=>(lr 24 167 [1,0,1,0,0] 1 8 [(6,(.bool false))] (sl Zg 19 [] ⟨[],[],[some [6]],[]⟩ ⟨[],[],[]⟩ [true,false] (tt k1 (tt k0 nn))))))) (fun k0=>(lb (fun k1=>(lb (fun k2=>(lr 24 167 [1,1,0,1,0,0] 1 8 [(6,(.bool true))] (sl Zg 27 [] ⟨[],[],[some [6]],[]⟩ ⟨[],[],[]⟩ [false,true,true] (tt k2 (tt k1 (tt k0 nn)))))) (fun k2=>(lr 24 167 [1,1,0,1,0,0] 1 8 [(6,(.bool x2))] (sl Zg 27 [] ⟨[],[],[some [6]],[]⟩ ⟨[],[],[]⟩ [false,true,false] (tt k2 (tt k1 (tt k0 nn)))))))) (fun k1=>(lb (fun k2=>(lr 24 3 [1,1,1,1,1,1,1,0] 1 8 [(6,(.bool (!x2)))] (sl Zg 29 [] ⟨[],[],[some [6]],[]⟩ ⟨[],[],[]⟩ [false,false,true,true] (tt k2 (tt k1 (tt k0 nn)))))) (fun k2=>(lr 24 3 [1,1,1,1,1,1,1,0] 1 8 [(6,(.bool false))] (sl Zg 29 [] ⟨[],[],[some [6]],[]⟩ ⟨[],[],[]⟩ [false,false,false,false] (tt k2 (tt k1 (tt k0 nn)))))))))))
theorem u0k (x0:Int) (x1:Bool) (x2:Bool) (n:Nat) (vs:List AVal) (h:Zs (x9n x0 x1 x2) n (y3b x0 x1 x2)=.ret vs):Jw prog (Zy prog 167) (Za prog 167 [(.int .i64 x0),(.bool x1),(.bool x2)] true []) vs:=by have:=Zc (w7b x0 x1 x2) n _ (x9o x0 x1 x2);rwa [h] at this
inductive fstS where
def fstC (x0:Bool) (x1:Bool):fstS→Cfg
 :=nofun
def x9s (x0:Bool) (x1:Bool):fstS→Xv fstS
 :=nofun
def x1p (x0:Bool) (x1:Bool):Xv fstS:=(.ret [(.bool x0)])
theorem w7e (x0:Bool) (x1:Bool): ∀s,Ys prog (Zy prog 187) (fstC x0 x1) (fstC x0 x1 s) (x9s x0 x1 s)
 :=nofun
theorem x9t (x0:Bool) (x1:Bool):Ys prog (Zy prog 187) (fstC x0 x1) (Za prog 187 [(.bool x0),(.bool x1)] true []) (x1p x0 x1):=(lr 6 3 [1,1,1,1,1,1,1,0] 1 5 [(4,(.bool x0))] (sl Zg 9 [] ⟨[],[],[some [4]],[]⟩ ⟨[],[],[]⟩ [] nn))
theorem u0n (x0:Bool) (x1:Bool) (n:Nat) (vs:List AVal) (h:Zs (x9s x0 x1) n (x1p x0 x1)=.ret vs):Jw prog (Zy prog 187) (Za prog 187 [(.bool x0),(.bool x1)] true []) vs:=by have:=Zc (w7e x0 x1) n _ (x9t x0 x1);rwa [h] at this
theorem Zo {a b:Int} (h:a<b):decide (a<b)=true:=Ag h
theorem Yz {a b:Int} (h: ¬a<b):decide (a<b)=false:=Au h
theorem Xn {a b:Int} (h:a≤b):decide (a≤b)=true:=Ag h
theorem w0f {a b:Int} (h: ¬a≤b):decide (a≤b)=false:=Au h
theorem Yn {a b:Int} (h:a>b):decide (a>b)=true:=Ag h
theorem Xm {a b:Int} (h: ¬a>b):decide (a>b)=false:=Au h
theorem dge_t {a b:Int} (h:a≥b):decide (a≥b)=true:=Ag h
theorem Yk {a b:Nat} (h:a<b):decide (a<b)=true:=Ag h
theorem Yc {a b:Nat} (h:a≤b):decide (a≤b)=true:=Ag h
theorem Yp {a b:Nat} (h:a=b):decide (a=b)=true:=Ag h
theorem Zr {a b:Int} (h:0≤a∧a<b):decide (0≤a∧a<b)=true:=Ag h
theorem Zf {a:Nat} (h:a≤1099511627776):decide (a≤Uj)=true:=Ag h
theorem Zk {n:Int} (h: -9223372036854775808≤n∧n≤9223372036854775807):wrap .i64 n=n:=w_in h.1 h.2
theorem Kb :((0:Nat):Int)=0:=rfl
theorem Zx (i:Nat):(i:Int)+1=((i+1:Nat):Int):=rfl
theorem Zt (i:Nat):((i+1:Nat):Int) - 1=(i:Int):=by omega
theorem z0m {a b:Int} (h:a≠b):(a != b)=true:=by simp [h]
theorem z0n {a b:Int} (h:a=b):(a != b)=false:=by simp [h]
theorem Yg (n:Nat):Nat.beq n n=true:=B3 n
theorem Zj (n:Nat):Int.toNat (n:Int)=n:=Int.toNat_natCast n
theorem Ym (b:Bool):b=true∨b=false:=by cases b <;> simp
theorem Yx {α:Type} [Xz α] {L:List α} {i:Nat} (h:i<L.length):L.drop i=rd L i::L.drop (i+1):=by rw [Yo h];exact Cj h
theorem z0o {P:Program} {S:Specs} (hS:Zu P S) {f:FuncId} {F:List AVal→Option (AVal×Bool)} (hf:(P.funcs[f]?).any (fun fn=>fn.body.isSome)=true)
  (hF: ∀args v,F args=some (v,true)→ ∃bs vs,Ws VLe args bs∧Jz vs=v∧Jw P (Zy P f) (Za P f bs true []) vs∧ ∃d,pf d v=true):Zu P (S.with f F):=w4d hS hf hF
def x8j (out:List Int) (x:Int):Nat→Nat
 | 0=>0
 | k+1=>bif decide (rd out k>x) then x8j out x k else k+1
def y5e (out:List Int) (x:Int):List Int:=
 match x8j out x out.length with
 | 0=>x::out
 | k+1=>bif rd out k == x then out else out.take (k+1)++x::out.drop (k+1)
def z1g (l:List Int):List Int:=l.foldl y5e []
def Jv (l:List Int):Bool:=decide (l.length≤100000)
theorem y5d (out:List Int) (x:Int):(y5e out x).length ≤out.length+1:=by
 unfold y5e;split
 ·simp
 ·rename_i k _;cases (rd out k == x) <;> simp <;> omega
theorem x4q (out:List Int) (x:Int) (k:Nat) (hk:k≤out.length):
  (v4u (out++[0]) (k+1) (Nat.min (out.length+1 - k) (out.length+1 - (k+1))) (Jx (out++[0]) k (out.length+1 - k))).set k x=out.take k++x::out.drop k:=by
 have hm:Nat.min (out.length+1 - k) (out.length+1 - (k+1))=out.length - k:=by show min _ _=_;omega
 rw [hm];apply Cc
 ·simp [Je];omega
 ·intro i h1 h2;have hi:i<out.length+1:=by simpa [Je] using h1
  rw [←Yo h1,←Yo h2];rw [u4s (by simpa [Je] using hi)];by_cases e:i=k
  ·subst e;rw [Az rfl,Up (by simp only [Bc];omega),Yo (by simp;omega)];simp [Nat.min_eq_left hk]
  ·rw [As e,v1k (by simpa using hi)];by_cases h:i<k
   ·rw [u1p (show¬k+1≤i by omega),Bq,Aa,Ju (by omega),Ju (by simp;omega)];rw [Yo (by omega),Yo (by simp;omega),Bl]
   ·rw [v5e (show k+1≤i by omega),v5e (show i+1≤k+1+(out.length - k) by omega),Al,Ab,x0p (by omega),Ju (by omega)];rw [Up (by simp;omega),Yo (by omega),Yo (by simp;omega)];obtain ⟨j,rfl⟩: ∃j,i=k+1+j:=⟨i - k - 1,by omega⟩
    simp only [Bc,Nat.min_eq_left hk];rw [List.getElem_cons,dif_neg (by omega),Cr]
    congr 1
theorem w1t (l:List Int) (out:List Int) (i:Nat) (hi:i<l.length) (hl:l.length≤100000) (ho:out.length≤i): ∀(k N:Nat),k≤out.length→
  (x8j out (rd l i) out.length=x8j out (rd l i) k)→ ∃m,∀N,Zs (Vf l) (N+m) (.to (.h1 out (i:Int) (k:Int)))=Zs (Vf l) N (.to (.h0 (y5e out (rd l i)) ((i+1:Nat):Int)))
 | 0,N,hk,hp=>by
  refine ⟨1,fun N=> ?_⟩;have hins:y5e out (rd l i)=(v4u (out++[0]) (0+1) (Nat.min (out.length+1 - 0) (out.length+1 - (0+1))) (Jx (out++[0]) 0 (out.length+1 - 0))).set 0 (rd l i):=by rw [x4q out _ 0 (AD _)];unfold y5e;rw [hp];rfl
  rw [hins,Zv];simp (disch:=omega) only [Vf,Zf,Av,Xm,Zo,Xn,Yk,Yc,Yp,Zr,Zk,Zx,Yg,Zj,Ah,Ai,Al,Ab,Aa]
 | k+1,N,hk,hp=>by
  rcases Ym (decide (rd out k>rd l i)) with h | h
  ·have hp':x8j out (rd l i) out.length=x8j out (rd l i) k:=by rw [hp];conv=>lhs;unfold x8j;rw [h,Ab]
   obtain ⟨m,hm⟩:=w1t l out i hi hl ho k N (by omega) hp';refine ⟨m+1,fun N=> ?_⟩;rw [←hm N,←AC,Zv];simp (disch:=omega) only [Vf,Zt,h,Zf,Av,Yn,Zo,Xn,Yk,Yc,Yp,Zr,Zk,Zx,Yg,Zj,Ah,Ai,Al,Ab,Aa]
  ·have hpk:x8j out (rd l i) out.length=k+1:=by rw [hp];unfold x8j;rw [h];rfl
   refine ⟨1,fun N=> ?_⟩;rw [Zv];rcases Ym (rd out k == rd l i) with q | q
   ·have hins:y5e out (rd l i)=out:=by unfold y5e;rw [hpk];simp only [q,Ab]
    rw [hins];simp (disch:=omega) only [Vf,Zt,h,q,Zf,Av,Yn,Zo,Xn,Yk,Yc,Yp,Zr,Zk,Zx,Yg,Zj,Ah,Ai,Al,Ab,Aa]
   ·have hins:y5e out (rd l i)=(v4u (out++[0]) (k+1+1) (Nat.min (out.length+1 - (k+1)) (out.length+1 - (k+1+1))) (Jx (out++[0]) (k+1) (out.length+1 - (k+1)))).set (k+1) (rd l i):=by rw [x4q out _ (k+1) hk];unfold y5e;rw [hpk];simp only [q,Aa]
    rw [hins];simp (disch:=omega) only [Vf,Zt,h,q,Zf,Av,Yn,Zo,Xn,Yk,Yc,Yp,Zr,Zk,Zx,Yg,Zj,Ah,Ai,Al,Ab,Aa]
theorem w1u (l:List Int) (hl:l.length≤100000): ∀(k i:Nat) (out:List Int),i+k=l.length→out.length≤i→ ∃m,Zs (Vf l) m (.to (.h0 out (i:Int)))=.ret [.dat ((l.drop i).foldl y5e out).length (Zz ((l.drop i).foldl y5e out))]
 | 0,i,out,h,ho=>by refine ⟨1,?_⟩;rw [Zv];simp (disch:=omega) only [Vf,Yz,Aa];rw [Ar (by omega)];rfl
 | k+1,i,out,h,ho=>by obtain ⟨m1,h1⟩:=w1t l out i (by omega) hl ho out.length 0 (An _) rfl;obtain ⟨m2,h2⟩:=w1u l hl k (i+1) (y5e out (rd l i)) (by omega) (AL (y5d _ _) (by omega));refine ⟨m2+m1+1,?_⟩;rw [Zv];simp (disch:=omega) only [Vf,Zo,Ab];rw [h1 m2,h2,Yx (show i<l.length by omega)];rfl
theorem v0h (l:List Int) (h:Jv l=true): ∃N,Zs (Vf l) N (z4p l)=.ret [.dat (z1g l).length (Zz (z1g l))]:=by
 have:=w1u l (AA h) l.length 0 [] (by omega) (An _)
 simpa [z4p,z1g] using this
theorem Zh (n:Nat):Int.toNat ((n:Int) - 1)=n - 1:=by omega
theorem v8x (x y:R2):((x.a == y.a)&&(x.b == y.b))=decide (x=y):=by obtain ⟨a,b⟩:=x;obtain ⟨c,d⟩:=y;rw [Bool.eq_iff_iff];simp
theorem v8w (x y:R4):((x.a == y.a)&&((x.b == y.b)&&((x.c == y.c)&&(x.d == y.d))))=decide (x=y):=by obtain ⟨a,b,c,d⟩:=x;obtain ⟨e,f,g,h⟩:=y;rw [Bool.eq_iff_iff];simp
theorem v8v (x y:R6):(((x.a == y.a)&&((x.b == y.b)&&(x.c == y.c)))&&((x.d == y.d)&&((x.e == y.e)&&(x.f == y.f))))=decide (x=y):=by obtain ⟨a,b,c,d,e,f⟩:=x;obtain ⟨a',b',c',d',e',f'⟩:=y;rw [Bool.eq_iff_iff];simp [and_assoc]
def Kd (l m:List R2):Bool:=decide (l=m)
def Us (l m:List R4):Bool:=decide (l=m)
def Kw (l m:List R6):Bool:=decide (l=m)
def Va (l m:List R2):Bool:=decide (l.length≤1000000)
def Wp (l m:List R4):Bool:=decide (l.length≤1000000)
def Vg (l m:List R6):Bool:=decide (l.length≤1000000)
theorem z5d {α:Type} [DecidableEq α] (x y:α) (l m:List α):decide (x::l=y::m)=(decide (x=y)&&decide (l=m)):=by rw [←Bool.decide_and];congr 1;simp
theorem u3i (l m:List R2) (hl:l.length≤1000000) (hm:l.length=m.length): ∀(k i:Nat),i+k=l.length→ ∃N,Zs (z6e l m) N (.to (.h0 (i:Int)))=.ret [.bool (decide (l.drop i=m.drop i))]
 | 0,i,h=>by refine ⟨1,?_⟩;rw [Zv,Ar (show l.length≤i by omega),Ar (show m.length≤i by omega)];simp (disch:=omega) only [z6e,Xm,Yn,Zo,Yz,Xn,Yk,Yc,Yp,Zr,Zk,Zf,z0m,z0n,Av,Zx,Zt,Zh,Yg,Zj,Ah,Ai,Al,Ab,Aa,AE,AI,Zp]
 | k+1,i,h=>by
  obtain ⟨N,hN⟩:=u3i l m hl hm k (i+1) (by omega);refine ⟨N+1,?_⟩;rw [Zv,Yx (show i<l.length by omega),Yx (show i<m.length by omega),z5d];rcases Ym (decide (rd l i=rd m i)) with q | q
  ·simp (disch:=omega) only [z6e,v8x,q,Xm,Yn,Zo,Yz,Xn,Yk,Yc,Yp,Zr,Zk,Zf,z0m,z0n,Av,Zx,Zt,Zh,Yg,Zj,Ah,Ai,Al,Ab,Aa,AE,AI,Zp];exact hN
  ·simp (disch:=omega) only [z6e,v8x,q,Xm,Yn,Zo,Yz,Xn,Yk,Yc,Yp,Zr,Zk,Zf,z0m,z0n,Av,Zx,Zt,Zh,Yg,Zj,Ah,Ai,Al,Ab,Aa,AE,AI,Zp,Bq]
theorem u8u (l m:List R2) (h:Va l m=true): ∃N,Zs (z6e l m) N (z7d l m)=.ret [.bool (Kd l m)]:=by
 have hl:l.length≤1000000:=AA h;by_cases hm:l.length=m.length
 ·obtain ⟨N,hN⟩:=u3i l m hl hm l.length 0 (Ah _);refine ⟨N,?_⟩;unfold z7d;rw [z0n (show (l.length:Int)=(m.length:Nat) by omega)];exact hN
 ·refine ⟨0,?_⟩;unfold z7d;rw [z0m (show (l.length:Int)≠(m.length:Nat) by omega)];have:Kd l m=false:=Au fun e=>hm (by rw [e]);rw [this];rfl
theorem u3g (l m:List R4) (hl:l.length≤1000000) (hm:l.length=m.length): ∀(k i:Nat),i+k=l.length→ ∃N,Zs (z6c l m) N (.to (.h0 (i:Int)))=.ret [.bool (decide (l.drop i=m.drop i))]
 | 0,i,h=>by refine ⟨1,?_⟩;rw [Zv,Ar (show l.length≤i by omega),Ar (show m.length≤i by omega)];simp (disch:=omega) only [z6c,Xm,Yn,Zo,Yz,Xn,Yk,Yc,Yp,Zr,Zk,Zf,z0m,z0n,Av,Zx,Zt,Zh,Yg,Zj,Ah,Ai,Al,Ab,Aa,AE,AI,Zp]
 | k+1,i,h=>by
  obtain ⟨N,hN⟩:=u3g l m hl hm k (i+1) (by omega);refine ⟨N+1,?_⟩;rw [Zv,Yx (show i<l.length by omega),Yx (show i<m.length by omega),z5d];rcases Ym (decide (rd l i=rd m i)) with q | q
  ·simp (disch:=omega) only [z6c,v8w,q,Xm,Yn,Zo,Yz,Xn,Yk,Yc,Yp,Zr,Zk,Zf,z0m,z0n,Av,Zx,Zt,Zh,Yg,Zj,Ah,Ai,Al,Ab,Aa,AE,AI,Zp];exact hN
  ·simp (disch:=omega) only [z6c,v8w,q,Xm,Yn,Zo,Yz,Xn,Yk,Yc,Yp,Zr,Zk,Zf,z0m,z0n,Av,Zx,Zt,Zh,Yg,Zj,Ah,Ai,Al,Ab,Aa,AE,AI,Zp,Bq]
theorem u8s (l m:List R4) (h:Wp l m=true): ∃N,Zs (z6c l m) N (z7b l m)=.ret [.bool (Us l m)]:=by
 have hl:l.length≤1000000:=AA h;by_cases hm:l.length=m.length
 ·obtain ⟨N,hN⟩:=u3g l m hl hm l.length 0 (Ah _);refine ⟨N,?_⟩;unfold z7b;rw [z0n (show (l.length:Int)=(m.length:Nat) by omega)];exact hN
 ·refine ⟨0,?_⟩;unfold z7b;rw [z0m (show (l.length:Int)≠(m.length:Nat) by omega)];have:Us l m=false:=Au fun e=>hm (by rw [e]);rw [this];rfl
theorem u3m (l m:List R6) (hl:l.length≤1000000) (hm:l.length=m.length): ∀(k i:Nat),i+k=l.length→ ∃N,Zs (z6f l m) N (.to (.h0 (i:Int)))=.ret [.bool (decide (l.drop i=m.drop i))]
 | 0,i,h=>by refine ⟨1,?_⟩;rw [Zv,Ar (show l.length≤i by omega),Ar (show m.length≤i by omega)];simp (disch:=omega) only [z6f,Xm,Yn,Zo,Yz,Xn,Yk,Yc,Yp,Zr,Zk,Zf,z0m,z0n,Av,Zx,Zt,Zh,Yg,Zj,Ah,Ai,Al,Ab,Aa,AE,AI,Zp]
 | k+1,i,h=>by
  obtain ⟨N,hN⟩:=u3m l m hl hm k (i+1) (by omega);refine ⟨N+1,?_⟩;rw [Zv,Yx (show i<l.length by omega),Yx (show i<m.length by omega),z5d];rcases Ym (decide (rd l i=rd m i)) with q | q
  ·simp (disch:=omega) only [z6f,v8v,q,Xm,Yn,Zo,Yz,Xn,Yk,Yc,Yp,Zr,Zk,Zf,z0m,z0n,Av,Zx,Zt,Zh,Yg,Zj,Ah,Ai,Al,Ab,Aa,AE,AI,Zp];exact hN
  ·simp (disch:=omega) only [z6f,v8v,q,Xm,Yn,Zo,Yz,Xn,Yk,Yc,Yp,Zr,Zk,Zf,z0m,z0n,Av,Zx,Zt,Zh,Yg,Zj,Ah,Ai,Al,Ab,Aa,AE,AI,Zp,Bq]
theorem u8w (l m:List R6) (h:Vg l m=true): ∃N,Zs (z6f l m) N (z7f l m)=.ret [.bool (Kw l m)]:=by
 have hl:l.length≤1000000:=AA h;by_cases hm:l.length=m.length
 ·obtain ⟨N,hN⟩:=u3m l m hl hm l.length 0 (Ah _);refine ⟨N,?_⟩;unfold z7f;rw [z0n (show (l.length:Int)=(m.length:Nat) by omega)];exact hN
 ·refine ⟨0,?_⟩;unfold z7f;rw [z0m (show (l.length:Int)≠(m.length:Nat) by omega)];have:Kw l m=false:=Au fun e=>hm (by rw [e]);rw [this];rfl
theorem u6w (l m:List R2) (hl:l.length≤1000000) (hm:l.length=m.length): ∀(k i:Nat),i+k=l.length→ ∃N,Zs (z6r l m) N (.to (.h0 (i:Int)))=.ret [.bool (decide (l.drop i=m.drop i))]
 | 0,i,h=>by refine ⟨1,?_⟩;rw [Zv,Ar (show l.length≤i by omega),Ar (show m.length≤i by omega)];simp (disch:=omega) only [z6r,Xm,Yn,Zo,Yz,Xn,Yk,Yc,Yp,Zr,Zk,Zf,z0m,z0n,Av,Zx,Zt,Zh,Yg,Zj,Ah,Ai,Al,Ab,Aa,AE,AI,Zp]
 | k+1,i,h=>by
  obtain ⟨N,hN⟩:=u6w l m hl hm k (i+1) (by omega);refine ⟨N+1,?_⟩;rw [Zv,Yx (show i<l.length by omega),Yx (show i<m.length by omega),z5d];rcases Ym (decide (rd l i=rd m i)) with q | q
  ·simp (disch:=omega) only [z6r,v8x,q,Xm,Yn,Zo,Yz,Xn,Yk,Yc,Yp,Zr,Zk,Zf,z0m,z0n,Av,Zx,Zt,Zh,Yg,Zj,Ah,Ai,Al,Ab,Aa,AE,AI,Zp];exact hN
  ·simp (disch:=omega) only [z6r,v8x,q,Xm,Yn,Zo,Yz,Xn,Yk,Yc,Yp,Zr,Zk,Zf,z0m,z0n,Av,Zx,Zt,Zh,Yg,Zj,Ah,Ai,Al,Ab,Aa,AE,AI,Zp,Bq]
theorem j3k (l m:List R2) (h:Va l m=true): ∃N,Zs (z6r l m) N (z8k l m)=.ret [.bool (Kd l m)]:=by
 have hl:l.length≤1000000:=AA h;by_cases hm:l.length=m.length
 ·obtain ⟨N,hN⟩:=u6w l m hl hm l.length 0 (Ah _);refine ⟨N,?_⟩;unfold z8k;rw [z0n (show (l.length:Int)=(m.length:Nat) by omega)];exact hN
 ·refine ⟨0,?_⟩;unfold z8k;rw [z0m (show (l.length:Int)≠(m.length:Nat) by omega)];have:Kd l m=false:=Au fun e=>hm (by rw [e]);rw [this];rfl
theorem u6v (l m:List R4) (hl:l.length≤1000000) (hm:l.length=m.length): ∀(k i:Nat),i+k=l.length→ ∃N,Zs (z6q l m) N (.to (.h0 (i:Int)))=.ret [.bool (decide (l.drop i=m.drop i))]
 | 0,i,h=>by refine ⟨1,?_⟩;rw [Zv,Ar (show l.length≤i by omega),Ar (show m.length≤i by omega)];simp (disch:=omega) only [z6q,Xm,Yn,Zo,Yz,Xn,Yk,Yc,Yp,Zr,Zk,Zf,z0m,z0n,Av,Zx,Zt,Zh,Yg,Zj,Ah,Ai,Al,Ab,Aa,AE,AI,Zp]
 | k+1,i,h=>by
  obtain ⟨N,hN⟩:=u6v l m hl hm k (i+1) (by omega);refine ⟨N+1,?_⟩;rw [Zv,Yx (show i<l.length by omega),Yx (show i<m.length by omega),z5d];rcases Ym (decide (rd l i=rd m i)) with q | q
  ·simp (disch:=omega) only [z6q,v8w,q,Xm,Yn,Zo,Yz,Xn,Yk,Yc,Yp,Zr,Zk,Zf,z0m,z0n,Av,Zx,Zt,Zh,Yg,Zj,Ah,Ai,Al,Ab,Aa,AE,AI,Zp];exact hN
  ·simp (disch:=omega) only [z6q,v8w,q,Xm,Yn,Zo,Yz,Xn,Yk,Yc,Yp,Zr,Zk,Zf,z0m,z0n,Av,Zx,Zt,Zh,Yg,Zj,Ah,Ai,Al,Ab,Aa,AE,AI,Zp,Bq]
theorem j3j (l m:List R4) (h:Wp l m=true): ∃N,Zs (z6q l m) N (z8j l m)=.ret [.bool (Us l m)]:=by
 have hl:l.length≤1000000:=AA h;by_cases hm:l.length=m.length
 ·obtain ⟨N,hN⟩:=u6v l m hl hm l.length 0 (Ah _);refine ⟨N,?_⟩;unfold z8j;rw [z0n (show (l.length:Int)=(m.length:Nat) by omega)];exact hN
 ·refine ⟨0,?_⟩;unfold z8j;rw [z0m (show (l.length:Int)≠(m.length:Nat) by omega)];have:Us l m=false:=Au fun e=>hm (by rw [e]);rw [this];rfl
theorem u6u (l m:List R6) (hl:l.length≤1000000) (hm:l.length=m.length): ∀(k i:Nat),i+k=l.length→ ∃N,Zs (z6p l m) N (.to (.h0 (i:Int)))=.ret [.bool (decide (l.drop i=m.drop i))]
 | 0,i,h=>by refine ⟨1,?_⟩;rw [Zv,Ar (show l.length≤i by omega),Ar (show m.length≤i by omega)];simp (disch:=omega) only [z6p,Xm,Yn,Zo,Yz,Xn,Yk,Yc,Yp,Zr,Zk,Zf,z0m,z0n,Av,Zx,Zt,Zh,Yg,Zj,Ah,Ai,Al,Ab,Aa,AE,AI,Zp]
 | k+1,i,h=>by
  obtain ⟨N,hN⟩:=u6u l m hl hm k (i+1) (by omega);refine ⟨N+1,?_⟩;rw [Zv,Yx (show i<l.length by omega),Yx (show i<m.length by omega),z5d];rcases Ym (decide (rd l i=rd m i)) with q | q
  ·simp (disch:=omega) only [z6p,v8v,q,Xm,Yn,Zo,Yz,Xn,Yk,Yc,Yp,Zr,Zk,Zf,z0m,z0n,Av,Zx,Zt,Zh,Yg,Zj,Ah,Ai,Al,Ab,Aa,AE,AI,Zp];exact hN
  ·simp (disch:=omega) only [z6p,v8v,q,Xm,Yn,Zo,Yz,Xn,Yk,Yc,Yp,Zr,Zk,Zf,z0m,z0n,Av,Zx,Zt,Zh,Yg,Zj,Ah,Ai,Al,Ab,Aa,AE,AI,Zp,Bq]
theorem j3i (l m:List R6) (h:Vg l m=true): ∃N,Zs (z6p l m) N (z8i l m)=.ret [.bool (Kw l m)]:=by
 have hl:l.length≤1000000:=AA h;by_cases hm:l.length=m.length
 ·obtain ⟨N,hN⟩:=u6u l m hl hm l.length 0 (Ah _);refine ⟨N,?_⟩;unfold z8i;rw [z0n (show (l.length:Int)=(m.length:Nat) by omega)];exact hN
 ·refine ⟨0,?_⟩;unfold z8i;rw [z0m (show (l.length:Int)≠(m.length:Nat) by omega)];have:Kw l m=false:=Au fun e=>hm (by rw [e]);rw [this];rfl
def in4 (x y:Int) (r:R4):Bool:=decide (r.a≤x)&&(decide (x<r.c)&&(decide (r.b≤y)&&decide (y<r.d)))
def has4V (l:List R4) (x y:Int):Bool:=l.any (in4 x y)
def z0d (l:List R4) (x y:Int):Bool:=decide (l.length≤1000000)
theorem v0w (l:List R4) (x y:Int) (hl:l.length≤1000000): ∀(k i:Nat),i+k=l.length→ ∃N,Zs (z4s l x y) N (.to (.h0 (i:Int)))=.ret [.bool ((l.drop i).any (in4 x y))]
 | 0,i,h=>by refine ⟨1,?_⟩;rw [Zv,Ar (show l.length≤i by omega)];simp (disch:=omega) only [z4s,Xm,Yn,Zo,Yz,Xn,Yk,Yc,Yp,Zr,Zk,Zf,z0m,z0n,Av,Zx,Zt,Zh,Yg,Zj,Ah,Ai,Al,Ab,Aa,AE,AI,Zp];rfl
 | k+1,i,h=>by
  obtain ⟨N,hN⟩:=v0w l x y hl k (i+1) (by omega);refine ⟨N+1,?_⟩;rw [Zv,Yx (show i<l.length by omega),List.any_cons];unfold in4 at hN ⊢;rcases Ym (decide ((rd l i).a ≤x)) with q1 | q1 <;> rcases Ym (decide (x<(rd l i).c)) with q2 | q2 <;> rcases Ym (decide ((rd l i).b ≤y)) with q3 | q3 <;> rcases Ym (decide (y<(rd l i).d)) with q4 | q4 <;>
   simp (disch:=omega) only [z4s,q1,q2,q3,q4,Xm,Yn,Zo,Yz,Xn,Yk,Yc,Yp,Zr,Zk,Zf,z0m,z0n,Av,Zx,Zt,Zh,Yg,Zj,Ah,Ai,Al,Ab,Aa,AE,AI,Zp,Bq,Bool.and_false,Cb,Ce] <;> exact hN
theorem v7w (l:List R4) (x y:Int) (h:z0d l x y=true): ∃N,Zs (z4s l x y) N (z7o l x y)=.ret [.bool (has4V l x y)]:=by
 have:=v0w l x y (AA h) l.length 0 (Ah _)
 simpa [z7o,has4V] using this
def on6 (z:Int) (b:R6):Bool:=decide (b.c≤z)&&decide (z<b.f)
def j1o (b:R6):R4:=⟨b.a,b.b,b.d,b.e⟩
def atV (l:List R6) (z:Int):List R4:=(l.filter (on6 z)).map j1o
def z5h (l:List R6) (z:Int):Bool:=decide (l.length≤1000000)
theorem v1s (l:List R6) (z:Int) (hl:l.length≤1000000): ∀(k i:Nat) (out:List R4),i+k=l.length→out.length≤i→ ∃N,Zs (z6i l z) N (.to (.h0 out (i:Int)))=.ret [.dat (out++atV (l.drop i) z).length (Zz (out++atV (l.drop i) z))]
 | 0,i,out,h,ho=>by refine ⟨1,?_⟩;rw [Zv,Ar (show l.length≤i by omega)];simp (disch:=omega) only [z6i,Xm,Yn,Zo,Yz,Xn,Yk,Yc,Yp,Zr,Zk,Zf,z0m,z0n,Av,Zx,Zt,Zh,Yg,Zj,Ah,Ai,Al,Ab,Aa,AE,AI,Zp,atV,List.filter_nil,A5,AB]
 | k+1,i,out,h,ho=>by
  rw [Yx (show i<l.length by omega)];have e:atV (rd l i::l.drop (i+1)) z=(bif on6 z (rd l i) then [j1o (rd l i)] else [])++atV (l.drop (i+1)) z:=by unfold atV;rw [Bs];cases on6 z (rd l i) <;> rfl
  rw [e,←AH];rcases Ym (decide ((rd l i).c ≤z)) with q1 | q1 <;> rcases Ym (decide (z<(rd l i).f)) with q2 | q2
  ·obtain ⟨N,hN⟩:=v1s l z hl k (i+1) (out++[j1o (rd l i)]) (by omega) (by simp;omega);refine ⟨N+1,?_⟩;rw [Zv];simp (disch:=omega) only [z6i,q1,q2,on6,Xm,Yn,Zo,Yz,Xn,Yk,Yc,Yp,Zr,Zk,Zf,z0m,z0n,Av,Zx,Zt,Zh,Yg,Zj,Ah,Ai,Al,Ab,Aa,AE,AI,Zp];exact hN
  all_goals
   obtain ⟨N,hN⟩:=v1s l z hl k (i+1) out (by omega) (by omega);refine ⟨N+1,?_⟩;rw [Zv];simp (disch:=omega) only [z6i,q1,q2,on6,Xm,Yn,Zo,Yz,Xn,Yk,Yc,Yp,Zr,Zk,Zf,z0m,z0n,Av,Zx,Zt,Zh,Yg,Zj,Ah,Ai,Al,Ab,Aa,AE,AI,Zp,Bq,Bool.and_false,AB];exact hN
theorem u9y (l:List R6) (z:Int) (h:z5h l z=true): ∃N,Zs (z6i l z) N (y2p l z)=.ret [.dat (atV l z).length (Zz (atV l z))]:=by
 have:=v1s l z (AA h) l.length 0 [] (Ah _) (An _)
 simpa [y2p] using this
def w8u (cuts:List Int) (ins:List Bool):Nat→Nat→List R2→List R2
 | 0,_,out=>out
 | k+1,i,out=>w8u cuts ins k (i+1) (bif rd ins i then (bif decide (0<out.length)&&((rd out (out.length - 1)).b == rd cuts i) then out.set (out.length - 1) ⟨(rd out (out.length - 1)).a,rd cuts (i+1)⟩ else out++[⟨rd cuts i,rd cuts (i+1)⟩]) else out)
def z1m (cuts:List Int) (ins:List Bool):List R2:=w8u cuts ins (cuts.length - 1) 0 []
def Qv (cuts:List Int) (ins:List Bool):Bool:=decide (cuts.length≤1000000∧cuts.length≤ins.length+1)
theorem x0q (cuts:List Int) (ins:List Bool) (hl:cuts.length≤1000000) (hi:cuts.length≤ins.length+1): ∀(k i:Nat) (out:List R2),k=cuts.length - 1 - i→i≤cuts.length→out.length≤i→ ∃N,Zs (Qi cuts ins) N (.to (.h0 out (i:Int)))=.ret [.dat (w8u cuts ins k i out).length (Zz (w8u cuts ins k i out))]
 | 0,i,out,h,hi2,ho=>by refine ⟨1,?_⟩;rw [Zv];simp (disch:=omega) only [Qi,Xm,Yn,Zo,Yz,Xn,Yk,Yc,Yp,Zr,Zk,Zf,z0m,z0n,Av,Zx,Zt,Zh,Yg,Zj,Ah,Ai,Al,Ab,Aa,AE,AI,Zp,w8u]
 | k+1,i,out,h,hi2,ho=>by
  unfold w8u;rcases Ym (rd ins i) with q | q
  ·rcases Ym (decide (0<out.length)&&((rd out (out.length - 1)).b == rd cuts i)) with q2 | q2
   ·obtain ⟨N,hN⟩:=x0q cuts ins hl hi k (i+1) (out.set (out.length - 1) ⟨(rd out (out.length - 1)).a,rd cuts (i+1)⟩) (by omega) (by omega) (by simp;omega);refine ⟨N+1,?_⟩;rw [Zv,q,q2];simp only [Ac,At] at q2;simp (disch:=omega) only [Qi,q,q2.2,Xm,Yn,Zo,Yz,Xn,Yk,Yc,Yp,Zr,Zk,Zf,z0m,z0n,Av,Zx,Zt,Zh,Yg,Zj,Ah,Ai,Al,Ab,Aa,AE,AI,Zp];exact hN
   ·obtain ⟨N,hN⟩:=x0q cuts ins hl hi k (i+1) (out++[⟨rd cuts i,rd cuts (i+1)⟩]) (by omega) (by omega) (by simp;omega);refine ⟨N+1,?_⟩;rw [Zv,q,q2];by_cases h0:0<out.length
    ·rw [Ag h0,Al] at q2;simp (disch:=omega) only [Qi,q,q2,Xm,Yn,Zo,Yz,Xn,Yk,Yc,Yp,Zr,Zk,Zf,z0m,z0n,Av,Zx,Zt,Zh,Yg,Zj,Ah,Ai,Al,Ab,Aa,AE,AI,Zp];exact hN
    ·simp (disch:=omega) only [Qi,q,Xm,Yn,Zo,Yz,Xn,Yk,Yc,Yp,Zr,Zk,Zf,z0m,z0n,Av,Zx,Zt,Zh,Yg,Zj,Ah,Ai,Al,Ab,Aa,AE,AI,Zp];exact hN
  ·obtain ⟨N,hN⟩:=x0q cuts ins hl hi k (i+1) out (by omega) (by omega) (by omega);refine ⟨N+1,?_⟩;rw [Zv,q];simp (disch:=omega) only [Qi,q,Xm,Yn,Zo,Yz,Xn,Yk,Yc,Yp,Zr,Zk,Zf,z0m,z0n,Av,Zx,Zt,Zh,Yg,Zj,Ah,Ai,Al,Ab,Aa,AE,AI,Zp];exact hN
theorem v8r (cuts:List Int) (ins:List Bool) (h:Qv cuts ins=true): ∃N,Zs (Qi cuts ins) N (z7u cuts ins)=.ret [.dat (z1m cuts ins).length (Zz (z1m cuts ins))]:=by
 obtain ⟨h1,h2⟩:=AA h;have:=x0q cuts ins h1 h2 (cuts.length - 1) 0 [] (by omega) (AD _) (An _)
 simpa [z7u,z1m] using this
abbrev v2f :Nat:=70
abbrev u5s :Nat:=142
abbrev u5j :Nat:=169
abbrev u5p :Nat:=167
abbrev nHas4 :Nat:=168
abbrev u5i :Nat:=128
abbrev nXs :Nat:=165
abbrev nYs :Nat:=166
abbrev u5o :Nat:=126
abbrev u5h :Nat:=20
abbrev nAt :Nat:=127
abbrev nCuts :Nat:=125
abbrev u5n :Nat:=72
abbrev v2i :Nat:=53
abbrev nEq2 :Nat:=188
abbrev nEq4 :Nat:=172
abbrev nEq6 :Nat:=99
abbrev u5g :Nat:=200
abbrev w2s :Nat:=201
abbrev nSort :Nat:=63
abbrev w2t :Nat:=64
abbrev nFst :Nat:=187
abbrev x4c :Nat:=157
abbrev w2r :Nat:=65
abbrev v2h :Nat:=121
abbrev w2p :Nat:=120
abbrev w2o :Nat:=94
abbrev x4d :Nat:=51
abbrev w2n :Nat:=191
abbrev nSpU1 :Nat:=164
abbrev nSpE1 :Nat:=170
abbrev nSpD1 :Nat:=163
abbrev nSpU :Nat:=124
abbrev nSpE :Nat:=129
abbrev nSpD :Nat:=123
abbrev w2q :Nat:=189
abbrev nRgU :Nat:=67
abbrev nRgE :Nat:=79
abbrev nRgD :Nat:=66
abbrev v2g :Nat:=47
abbrev nSHas :Nat:=43
-- not there: gambrel/gambrelref39.Floor
abbrev nMCut :Nat:=141
abbrev v2l :Nat:=101
abbrev u5l :Nat:=52
abbrev nMOf :Nat:=15
abbrev v2k :Nat:=17
abbrev u5k :Nat:=58
abbrev v2j :Nat:=22
abbrev v2m :Nat:=24
abbrev u5m :Nat:=73
abbrev u5r :Nat:=42
abbrev u5q :Nat:=37
abbrev nMv1 :Nat:=105
abbrev nMv2 :Nat:=106
abbrev nMv3 :Nat:=107
abbrev nMv4 :Nat:=108
abbrev nMv5 :Nat:=109
abbrev nMv6 :Nat:=110
abbrev nMv7 :Nat:=111
abbrev nMv8 :Nat:=112
abbrev nMv9 :Nat:=113
def y5i (k:Int) (a b:Bool):Bool:=bif k == 1 then a&&b else bif k == 2 then a||b else a&& !b
def w3o (a b:Bool):Bool:=a
theorem j1i (k:Int) (a b:Bool): ∃N,Zs (x9n k a b) N (y3b k a b)=.ret [.bool (y5i k a b)]:=by
 refine ⟨0,?_⟩;unfold y3b y5i;cases a <;> cases b <;> rcases Ym (k == 1) with q | q <;> rcases Ym (k == 2) with q2 | q2 <;> rw [q] <;> (try rw [q2]) <;> rfl
theorem j1m (a b:Bool): ∃N,Zs (x9s a b) N (x1p a b)=.ret [.bool (w3o a b)]:=⟨0,rfl⟩
def fSrt :List AVal→Option (AVal×Bool)
 | [a0]=>match asL Int a0 with
  | some (L0,g0,n0)=>some (.dat (z1g L0).length (Zz (z1g L0)),isT Int n0 g0&&(Jv L0))
  | _=>none
 | _=>none
theorem j1w {S:Specs} (hS:Zu prog S):Zu prog (S.with v2f fSrt):=by
 refine z0o hS (by kernel_rfl) fun args v h=> ?_;unfold fSrt at h;split at h
 ·rename_i a0;split at h
  ·rename_i L0 g0 n0 e0;simp only [Ae,Ad,Ac] at h;obtain ⟨rfl,ho0,hw⟩:=h;obtain ⟨N,hN⟩:=v0h L0 hw;exact ⟨_,_,(.cons (asL_le e0 ho0) .nil),rfl,w5k L0 N _ hN,3,rfl⟩
  ·cases h
 ·cases h
def fCan :List AVal→Option (AVal×Bool)
 | [a0,a1]=>match asL Int a0,asL Bool a1 with
  | some (L0,g0,n0),some (L1,g1,n1)=>some (.dat (z1m L0 L1).length (Zz (z1m L0 L1)),isT Int n0 g0&&(isT Bool n1 g1&&(Qv L0 L1)))
  | _,_=>none
 | _=>none
theorem j3g {S:Specs} (hS:Zu prog S):Zu prog (S.with u5s fCan):=by
 refine z0o hS (by kernel_rfl) fun args v h=> ?_;unfold fCan at h;split at h
 ·rename_i a0 a1;split at h
  ·rename_i L0 g0 n0 L1 g1 n1 e0 e1;simp only [Ae,Ad,Ac] at h;obtain ⟨rfl,ho0,ho1,hw⟩:=h;obtain ⟨N,hN⟩:=v8r L0 L1 hw;exact ⟨_,_,(.cons (asL_le e0 ho0) (.cons (asL_le e1 ho1) .nil)),rfl,v1r L0 L1 N _ hN,3,rfl⟩
  ·cases h
 ·cases h
def y9j :List AVal→Option (AVal×Bool)
 | [a0,a1]=>match asL R2 a0,asL R2 a1 with
  | some (L0,g0,n0),some (L1,g1,n1)=>some (.bool (Kd L0 L1),isT R2 n0 g0&&(isT R2 n1 g1&&(Va L0 L1)))
  | _,_=>none
 | _=>none
theorem v4e {S:Specs} (hS:Zu prog S):Zu prog (S.with u5j y9j):=by
 refine z0o hS (by kernel_rfl) fun args v h=> ?_;unfold y9j at h;split at h
 ·rename_i a0 a1;split at h
  ·rename_i L0 g0 n0 L1 g1 n1 e0 e1;simp only [Ae,Ad,Ac] at h;obtain ⟨rfl,ho0,ho1,hw⟩:=h;obtain ⟨N,hN⟩:=u8u L0 L1 hw;exact ⟨_,_,(.cons (asL_le e0 ho0) (.cons (asL_le e1 ho1) .nil)),rfl,v7e L0 L1 N _ hN,3,rfl⟩
  ·cases h
 ·cases h
def y9i :List AVal→Option (AVal×Bool)
 | [a0,a1]=>match asL R4 a0,asL R4 a1 with
  | some (L0,g0,n0),some (L1,g1,n1)=>some (.bool (Us L0 L1),isT R4 n0 g0&&(isT R4 n1 g1&&(Wp L0 L1)))
  | _,_=>none
 | _=>none
theorem v4d {S:Specs} (hS:Zu prog S):Zu prog (S.with u5i y9i):=by
 refine z0o hS (by kernel_rfl) fun args v h=> ?_;unfold y9i at h;split at h
 ·rename_i a0 a1;split at h
  ·rename_i L0 g0 n0 L1 g1 n1 e0 e1;simp only [Ae,Ad,Ac] at h;obtain ⟨rfl,ho0,ho1,hw⟩:=h;obtain ⟨N,hN⟩:=u8s L0 L1 hw;exact ⟨_,_,(.cons (asL_le e0 ho0) (.cons (asL_le e1 ho1) .nil)),rfl,v7c L0 L1 N _ hN,3,rfl⟩
  ·cases h
 ·cases h
def y9h :List AVal→Option (AVal×Bool)
 | [a0,a1]=>match asL R6 a0,asL R6 a1 with
  | some (L0,g0,n0),some (L1,g1,n1)=>some (.bool (Kw L0 L1),isT R6 n0 g0&&(isT R6 n1 g1&&(Vg L0 L1)))
  | _,_=>none
 | _=>none
theorem v4c {S:Specs} (hS:Zu prog S):Zu prog (S.with u5h y9h):=by
 refine z0o hS (by kernel_rfl) fun args v h=> ?_;unfold y9h at h;split at h
 ·rename_i a0 a1;split at h
  ·rename_i L0 g0 n0 L1 g1 n1 e0 e1;simp only [Ae,Ad,Ac] at h;obtain ⟨rfl,ho0,ho1,hw⟩:=h;obtain ⟨N,hN⟩:=u8w L0 L1 hw;exact ⟨_,_,(.cons (asL_le e0 ho0) (.cons (asL_le e1 ho1) .nil)),rfl,v7j L0 L1 N _ hN,3,rfl⟩
  ·cases h
 ·cases h
def j2x :List AVal→Option (AVal×Bool)
 | [a0,.int .i64 x1,.int .i64 x2]=>match asL R4 a0 with
  | some (L0,g0,n0)=>some (.bool (has4V L0 x1 x2),isT R4 n0 g0&&(z0d L0 x1 x2))
  | _=>none
 | _=>none
theorem u0v {S:Specs} (hS:Zu prog S):Zu prog (S.with nHas4 j2x):=by
 refine z0o hS (by kernel_rfl) fun args v h=> ?_;unfold j2x at h;split at h
 ·rename_i a0 x1 x2;split at h
  ·rename_i L0 g0 n0 e0;simp only [Ae,Ad,Ac] at h;obtain ⟨rfl,ho0,hw⟩:=h;obtain ⟨N,hN⟩:=v7w L0 x1 x2 hw;exact ⟨_,_,(.cons (asL_le e0 ho0) (.cons (.refl _) (.cons (.refl _) .nil))),rfl,v0x L0 x1 x2 N _ hN,3,rfl⟩
  ·cases h
 ·cases h
def fAt :List AVal→Option (AVal×Bool)
 | [a0,.int .i64 x1]=>match asL R6 a0 with
  | some (L0,g0,n0)=>some (.dat (atV L0 x1).length (Zz (atV L0 x1)),isT R6 n0 g0&&(z5h L0 x1))
  | _=>none
 | _=>none
theorem fAt_ok {S:Specs} (hS:Zu prog S):Zu prog (S.with nAt fAt):=by
 refine z0o hS (by kernel_rfl) fun args v h=> ?_;unfold fAt at h;split at h
 ·rename_i a0 x1;split at h
  ·rename_i L0 g0 n0 e0;simp only [Ae,Ad,Ac] at h;obtain ⟨rfl,ho0,hw⟩:=h;obtain ⟨N,hN⟩:=u9y L0 x1 hw;exact ⟨_,_,(.cons (asL_le e0 ho0) (.cons (.refl _) .nil)),rfl,v8s L0 x1 N _ hN,3,rfl⟩
  ·cases h
 ·cases h
def v4h :List AVal→Option (AVal×Bool)
 | [.int .i64 x0,.bool b1,.bool b2]=>some (.bool (y5i x0 b1 b2),true)
 | _=>none
theorem v4g {S:Specs} (hS:Zu prog S):Zu prog (S.with u5p v4h):=by
 refine z0o hS (by kernel_rfl) fun args v h=> ?_;unfold v4h at h;split at h
 ·rename_i x0 b1 b2;simp only [Ae,Ad,Cp] at h;subst h;obtain ⟨N,hN⟩:=j1i x0 b1 b2;exact ⟨_,_,(.cons (.refl _) (.cons (.refl _) (.cons (.refl _) .nil))),rfl,u0k x0 b1 b2 N _ hN,3,rfl⟩
 ·cases h
def fFst :List AVal→Option (AVal×Bool)
 | [.bool b0,.bool b1]=>some (.bool (w3o b0 b1),true)
 | _=>none
theorem j2z {S:Specs} (hS:Zu prog S):Zu prog (S.with nFst fFst):=by
 refine z0o hS (by kernel_rfl) fun args v h=> ?_;unfold fFst at h;split at h
 ·rename_i b0 b1;simp only [Ae,Ad,Cp] at h;subst h;obtain ⟨N,hN⟩:=j1m b0 b1;exact ⟨_,_,(.cons (.refl _) (.cons (.refl _) .nil)),rfl,u0n b0 b1 N _ hN,3,rfl⟩
 ·cases h
theorem w7m {S:Specs} (hS:Zu prog S):Zu prog (S.with nEq2 y9j):=by
 refine z0o hS (by kernel_rfl) fun args v h=> ?_;unfold y9j at h;split at h
 ·rename_i a0 a1;split at h
  ·rename_i L0 g0 n0 L1 g1 n1 e0 e1;simp only [Ae,Ad,Ac] at h;obtain ⟨rfl,ho0,ho1,hw⟩:=h;obtain ⟨N,hN⟩:=j3k L0 L1 hw;exact ⟨_,_,(.cons (asL_le e0 ho0) (.cons (asL_le e1 ho1) .nil)),rfl,u1d L0 L1 N _ hN,3,rfl⟩
  ·cases h
 ·cases h
theorem w7l {S:Specs} (hS:Zu prog S):Zu prog (S.with nEq4 y9i):=by
 refine z0o hS (by kernel_rfl) fun args v h=> ?_;unfold y9i at h;split at h
 ·rename_i a0 a1;split at h
  ·rename_i L0 g0 n0 L1 g1 n1 e0 e1;simp only [Ae,Ad,Ac] at h;obtain ⟨rfl,ho0,ho1,hw⟩:=h;obtain ⟨N,hN⟩:=j3j L0 L1 hw;exact ⟨_,_,(.cons (asL_le e0 ho0) (.cons (asL_le e1 ho1) .nil)),rfl,u1c L0 L1 N _ hN,3,rfl⟩
  ·cases h
 ·cases h
theorem w7k {S:Specs} (hS:Zu prog S):Zu prog (S.with nEq6 y9h):=by
 refine z0o hS (by kernel_rfl) fun args v h=> ?_;unfold y9h at h;split at h
 ·rename_i a0 a1;split at h
  ·rename_i L0 g0 n0 L1 g1 n1 e0 e1;simp only [Ae,Ad,Ac] at h;obtain ⟨rfl,ho0,ho1,hw⟩:=h;obtain ⟨N,hN⟩:=j3i L0 L1 hw;exact ⟨_,_,(.cons (asL_le e0 ho0) (.cons (asL_le e1 ho1) .nil)),rfl,u1b L0 L1 N _ hN,3,rfl⟩
  ·cases h
 ·cases h
def T1 :Specs:=((((((((((((noSpecs.with v2f fSrt).with u5s fCan).with u5j y9j).with u5i y9i).with u5h y9h).with nHas4 j2x).with nAt fAt).with u5p v4h).with nFst fFst).with nEq2 y9j).with nEq4 y9i).with nEq6 y9h)
theorem z3f :Zu prog T1:=w7k (w7l (w7m (j2z (v4g (fAt_ok (u0v (v4c (v4d (v4e (j3g (j1w Zg)))))))))))
inductive rxsS where
 | h0 (v5:List Int) (v6:Int)
 | h1 (v5:List Int) (v7:Int)
def rxsC (l0:List R4) (l1:List R4):rxsS→Cfg
 | .h0 v5 v6=>⟨⟨48,0,true⟩,none,(Zb prog 165 [1,1,0,1,0,0] 0),none,(Zy prog 5),⟨Ya [(0,(.dat l0.length (Zz l0))),(1,(.dat l1.length (Zz l1))),(5,(.sla 0 1 0 v5.length (.un 1))),(6,(ii v6))],Wr [⟨rows v5.length (Zz v5),3,some ⟨1,v5.length,(Zz v5)⟩⟩] 0,1,[],true⟩,[],.leaf⟩
 | .h1 v5 v7=>⟨⟨48,0,true⟩,none,(Zb prog 165 [1,1,1,0,1,0,0] 0),none,(Zy prog 5),⟨Ya [(1,(.dat l1.length (Zz l1))),(5,(.sla 0 1 0 v5.length (.un 1))),(7,(ii v7))],Wr [⟨rows v5.length (Zz v5),3,some ⟨1,v5.length,(Zz v5)⟩⟩] 0,1,[],true⟩,[],.leaf⟩
def rxsN0 :List (Option (List Nat)):=[some [0,1,5,6]]
def rxsM0 :List (Option (List Nat)):=[]
def rxsN1 :List (Option (List Nat)):=[some [1,5,7]]
def rxsM1 :List (Option (List Nat)):=[]
def z2i (l0:List R4) (l1:List R4):rxsS→Xv rxsS
 | .h0 v5 v6=>(bif (decide (v6<(l0.length:Int))) then (bif ((decide (0≤v6∧v6<(l0.length:Int)))&&true) then (bif (Nat.beq 1 1&&((decide (0+v5.length=v5.length))&&decide ((v5.length+2+1)*(8+1)≤Uj))) then (.to (.h0 (v5++[(rd l0 v6.toNat).a,(rd l0 v6.toNat).c]) (wrap .i64 (v6+1)))) else .stuck) else .stuck) else (.to (.h1 v5 0)))
 | .h1 v5 v7=>(bif (decide (v7<(l1.length:Int))) then (bif ((decide (0≤v7∧v7<(l1.length:Int)))&&true) then (bif (Nat.beq 1 1&&((decide (0+v5.length=v5.length))&&decide ((v5.length+2+1)*(8+1)≤Uj))) then (.to (.h1 (v5++[(rd l1 v7.toNat).a,(rd l1 v7.toNat).c]) (wrap .i64 (v7+1)))) else .stuck) else .stuck) else (bif (Jv (cvT v5)) then (.ret [(.dat (z1g (cvT v5)).length (Zz (z1g (cvT v5))))]) else .stuck))
def y2b (l0:List R4) (l1:List R4):Xv rxsS:=(.to (.h0 ([]:List Int) 0))
theorem w5h (l0:List R4) (l1:List R4): ∀s,Ys prog (Zy prog 165) (rxsC l0 l1) (rxsC l0 l1 s) (z2i l0 l1 s)
 | .h0 v5 v6=>(lb (fun k0=>(lo fun o0=>(lo fun o1=>(sl z3f 20 [] ⟨[2],[],rxsN0,rxsM0⟩ ⟨[(5,.len (v5++[(rd l0 (tn v6)).a,(rd l0 (tn v6)).c]).length)],[.rowed 1 (v5++[(rd l0 (tn v6)).a,(rd l0 (tn v6)).c]).length (Zz (v5++[(rd l0 (tn v6)).a,(rd l0 (tn v6)).c]))],[]⟩ [true] (pp (xL (v5.length+2) (v5++[(rd l0 (tn v6)).a,(rd l0 (tn v6)).c]).length) (pp (xL (v5.length+2) (v5++[(rd l0 (tn v6)).a,(rd l0 (tn v6)).c]).length) (pp (xS (v5.length+2) (Ze (Zz v5) 0 v5.length 1 [(ii (rd l0 (tn v6)).a),(ii (rd l0 (tn v6)).c)]) (Zz (v5++[(rd l0 (tn v6)).a,(rd l0 (tn v6)).c]))) (pp (pp (xF (Ze (Zz v5) 0 v5.length 1 [(ii (rd l0 (tn v6)).a),(ii (rd l0 (tn v6)).c)])) nn) (ww o1 (ww o0 (ww o0 (tt k0 nn)))))))))))) (fun k0=>(sl z3f 17 [] ⟨[0],[],rxsN1,rxsM1⟩ ⟨[],[],[]⟩ [false] (pp (fl v5 nn) (tt k0 nn)))))
 | .h1 v5 v7=>(lb (fun k0=>(lo fun o0=>(lo fun o1=>(sl z3f 20 [] ⟨[2],[],rxsN1,rxsM1⟩ ⟨[(5,.len (v5++[(rd l1 (tn v7)).a,(rd l1 (tn v7)).c]).length)],[.rowed 1 (v5++[(rd l1 (tn v7)).a,(rd l1 (tn v7)).c]).length (Zz (v5++[(rd l1 (tn v7)).a,(rd l1 (tn v7)).c]))],[]⟩ [true] (pp (xL (v5.length+2) (v5++[(rd l1 (tn v7)).a,(rd l1 (tn v7)).c]).length) (pp (xL (v5.length+2) (v5++[(rd l1 (tn v7)).a,(rd l1 (tn v7)).c]).length) (pp (xS (v5.length+2) (Ze (Zz v5) 0 v5.length 1 [(ii (rd l1 (tn v7)).a),(ii (rd l1 (tn v7)).c)]) (Zz (v5++[(rd l1 (tn v7)).a,(rd l1 (tn v7)).c]))) (pp (pp (xF (Ze (Zz v5) 0 v5.length 1 [(ii (rd l1 (tn v7)).a),(ii (rd l1 (tn v7)).c)])) nn) (ww o1 (ww o0 (ww o0 (tt k0 nn)))))))))))) (fun k0=>(Wu (sl z3f (C':=⟨⟨48,0,true⟩,(Ur prog 165 [1,1,1,1,0] 1),(Zb prog 165 [1,1,1,1,0] 1),none,(Zy prog 5),⟨Ya [(46,(.dat v5.length (Zz v5)))],Wr [] 0,0,[],true⟩,[],.leaf⟩) 13 [] ⟨[],[0],[some [46]],[]⟩ ⟨[(46,.frz v5.length v5.length (Zz v5) (Zz v5))],[],[]⟩ [false] (pp (xZ (z3k 1 1 0 v5.length v5.length (Zz v5)) v5.length (Zz v5)) (pp (xL v5.length v5.length) (pp (xS v5.length (Zz v5) (Zz v5)) (pp (fl v5 nn) (tt k0 nn)))))) (lo fun o0=>(lr 48 3 [1,1,1,1,1,1,1,0] 1 5 [(4,(.dat (z1g (cvT v5)).length (Zz (z1g (cvT v5)))))] (sl z3f 3 [] ⟨[],[],[some [4]],[]⟩ ⟨[],[],[]⟩ [] (pp (pp (xr v5) (xw o0)) nn)))))))
theorem x6z (l0:List R4) (l1:List R4):Ys prog (Zy prog 165) (rxsC l0 l1) (Za prog 165 [(.dat l0.length (Zz l0)),(.dat l1.length (Zz l1))] true []) (y2b l0 l1):=(sl z3f 15 [(3,1,Zz ([]:List Int))] ⟨[0],[],rxsN0,rxsM0⟩ ⟨[(5,.grow 0 1)],[],[]⟩ [] (pp (fl ([]:List Int) nn) nn))
theorem v7b (l0:List R4) (l1:List R4) (n:Nat) (vs:List AVal) (h:Zs (z2i l0 l1) n (y2b l0 l1)=.ret vs):Jw prog (Zy prog 165) (Za prog 165 [(.dat l0.length (Zz l0)),(.dat l1.length (Zz l1))] true []) vs:=by have:=Zc (w5h l0 l1) n _ (x6z l0 l1);rwa [h] at this
inductive rysS where
 | h0 (v5:List Int) (v6:Int)
 | h1 (v5:List Int) (v7:Int)
def rysC (l0:List R4) (l1:List R4):rysS→Cfg
 | .h0 v5 v6=>⟨⟨48,0,true⟩,none,(Zb prog 166 [1,1,0,1,0,0] 0),none,(Zy prog 5),⟨Ya [(0,(.dat l0.length (Zz l0))),(1,(.dat l1.length (Zz l1))),(5,(.sla 0 1 0 v5.length (.un 1))),(6,(ii v6))],Wr [⟨rows v5.length (Zz v5),3,some ⟨1,v5.length,(Zz v5)⟩⟩] 0,1,[],true⟩,[],.leaf⟩
 | .h1 v5 v7=>⟨⟨48,0,true⟩,none,(Zb prog 166 [1,1,1,0,1,0,0] 0),none,(Zy prog 5),⟨Ya [(1,(.dat l1.length (Zz l1))),(5,(.sla 0 1 0 v5.length (.un 1))),(7,(ii v7))],Wr [⟨rows v5.length (Zz v5),3,some ⟨1,v5.length,(Zz v5)⟩⟩] 0,1,[],true⟩,[],.leaf⟩
def rysN0 :List (Option (List Nat)):=[some [0,1,5,6]]
def rysM0 :List (Option (List Nat)):=[]
def rysN1 :List (Option (List Nat)):=[some [1,5,7]]
def rysM1 :List (Option (List Nat)):=[]
def z2h (l0:List R4) (l1:List R4):rysS→Xv rysS
 | .h0 v5 v6=>(bif (decide (v6<(l0.length:Int))) then (bif ((decide (0≤v6∧v6<(l0.length:Int)))&&true) then (bif (Nat.beq 1 1&&((decide (0+v5.length=v5.length))&&decide ((v5.length+2+1)*(8+1)≤Uj))) then (.to (.h0 (v5++[(rd l0 v6.toNat).b,(rd l0 v6.toNat).d]) (wrap .i64 (v6+1)))) else .stuck) else .stuck) else (.to (.h1 v5 0)))
 | .h1 v5 v7=>(bif (decide (v7<(l1.length:Int))) then (bif ((decide (0≤v7∧v7<(l1.length:Int)))&&true) then (bif (Nat.beq 1 1&&((decide (0+v5.length=v5.length))&&decide ((v5.length+2+1)*(8+1)≤Uj))) then (.to (.h1 (v5++[(rd l1 v7.toNat).b,(rd l1 v7.toNat).d]) (wrap .i64 (v7+1)))) else .stuck) else .stuck) else (bif (Jv (cvT v5)) then (.ret [(.dat (z1g (cvT v5)).length (Zz (z1g (cvT v5))))]) else .stuck))
def y2a (l0:List R4) (l1:List R4):Xv rysS:=(.to (.h0 ([]:List Int) 0))
theorem w5g (l0:List R4) (l1:List R4): ∀s,Ys prog (Zy prog 166) (rysC l0 l1) (rysC l0 l1 s) (z2h l0 l1 s)
 | .h0 v5 v6=>(lb (fun k0=>(lo fun o0=>(lo fun o1=>(sl z3f 20 [] ⟨[2],[],rysN0,rysM0⟩ ⟨[(5,.len (v5++[(rd l0 (tn v6)).b,(rd l0 (tn v6)).d]).length)],[.rowed 1 (v5++[(rd l0 (tn v6)).b,(rd l0 (tn v6)).d]).length (Zz (v5++[(rd l0 (tn v6)).b,(rd l0 (tn v6)).d]))],[]⟩ [true] (pp (xL (v5.length+2) (v5++[(rd l0 (tn v6)).b,(rd l0 (tn v6)).d]).length) (pp (xL (v5.length+2) (v5++[(rd l0 (tn v6)).b,(rd l0 (tn v6)).d]).length) (pp (xS (v5.length+2) (Ze (Zz v5) 0 v5.length 1 [(ii (rd l0 (tn v6)).b),(ii (rd l0 (tn v6)).d)]) (Zz (v5++[(rd l0 (tn v6)).b,(rd l0 (tn v6)).d]))) (pp (pp (xF (Ze (Zz v5) 0 v5.length 1 [(ii (rd l0 (tn v6)).b),(ii (rd l0 (tn v6)).d)])) nn) (ww o1 (ww o0 (ww o0 (tt k0 nn)))))))))))) (fun k0=>(sl z3f 17 [] ⟨[0],[],rysN1,rysM1⟩ ⟨[],[],[]⟩ [false] (pp (fl v5 nn) (tt k0 nn)))))
 | .h1 v5 v7=>(lb (fun k0=>(lo fun o0=>(lo fun o1=>(sl z3f 20 [] ⟨[2],[],rysN1,rysM1⟩ ⟨[(5,.len (v5++[(rd l1 (tn v7)).b,(rd l1 (tn v7)).d]).length)],[.rowed 1 (v5++[(rd l1 (tn v7)).b,(rd l1 (tn v7)).d]).length (Zz (v5++[(rd l1 (tn v7)).b,(rd l1 (tn v7)).d]))],[]⟩ [true] (pp (xL (v5.length+2) (v5++[(rd l1 (tn v7)).b,(rd l1 (tn v7)).d]).length) (pp (xL (v5.length+2) (v5++[(rd l1 (tn v7)).b,(rd l1 (tn v7)).d]).length) (pp (xS (v5.length+2) (Ze (Zz v5) 0 v5.length 1 [(ii (rd l1 (tn v7)).b),(ii (rd l1 (tn v7)).d)]) (Zz (v5++[(rd l1 (tn v7)).b,(rd l1 (tn v7)).d]))) (pp (pp (xF (Ze (Zz v5) 0 v5.length 1 [(ii (rd l1 (tn v7)).b),(ii (rd l1 (tn v7)).d)])) nn) (ww o1 (ww o0 (ww o0 (tt k0 nn)))))))))))) (fun k0=>(Wu (sl z3f (C':=⟨⟨48,0,true⟩,(Ur prog 166 [1,1,1,1,0] 1),(Zb prog 166 [1,1,1,1,0] 1),none,(Zy prog 5),⟨Ya [(46,(.dat v5.length (Zz v5)))],Wr [] 0,0,[],true⟩,[],.leaf⟩) 13 [] ⟨[],[0],[some [46]],[]⟩ ⟨[(46,.frz v5.length v5.length (Zz v5) (Zz v5))],[],[]⟩ [false] (pp (xZ (z3k 1 1 0 v5.length v5.length (Zz v5)) v5.length (Zz v5)) (pp (xL v5.length v5.length) (pp (xS v5.length (Zz v5) (Zz v5)) (pp (fl v5 nn) (tt k0 nn)))))) (lo fun o0=>(lr 48 3 [1,1,1,1,1,1,1,0] 1 5 [(4,(.dat (z1g (cvT v5)).length (Zz (z1g (cvT v5)))))] (sl z3f 3 [] ⟨[],[],[some [4]],[]⟩ ⟨[],[],[]⟩ [] (pp (pp (xr v5) (xw o0)) nn)))))))
theorem x6y (l0:List R4) (l1:List R4):Ys prog (Zy prog 166) (rysC l0 l1) (Za prog 166 [(.dat l0.length (Zz l0)),(.dat l1.length (Zz l1))] true []) (y2a l0 l1):=(sl z3f 15 [(3,1,Zz ([]:List Int))] ⟨[0],[],rysN0,rysM0⟩ ⟨[(5,.grow 0 1)],[],[]⟩ [] (pp (fl ([]:List Int) nn) nn))
theorem v7a (l0:List R4) (l1:List R4) (n:Nat) (vs:List AVal) (h:Zs (z2h l0 l1) n (y2a l0 l1)=.ret vs):Jw prog (Zy prog 166) (Za prog 166 [(.dat l0.length (Zz l0)),(.dat l1.length (Zz l1))] true []) vs:=by have:=Zc (w5g l0 l1) n _ (x6y l0 l1);rwa [h] at this
inductive rcutS where
 | h0 (v5:List Int) (v6:Int)
 | h1 (v5:List Int) (v7:Int)
def u9v (l0:List R6) (l1:List R6):rcutS→Cfg
 | .h0 v5 v6=>⟨⟨52,0,true⟩,none,(Zb prog 125 [1,1,0,1,0,0] 0),none,(Zy prog 5),⟨Ya [(0,(.dat l0.length (Zz l0))),(1,(.dat l1.length (Zz l1))),(5,(.sla 0 1 0 v5.length (.un 1))),(6,(ii v6))],Wr [⟨rows v5.length (Zz v5),3,some ⟨1,v5.length,(Zz v5)⟩⟩] 0,1,[],true⟩,[],.leaf⟩
 | .h1 v5 v7=>⟨⟨52,0,true⟩,none,(Zb prog 125 [1,1,1,0,1,0,0] 0),none,(Zy prog 5),⟨Ya [(1,(.dat l1.length (Zz l1))),(5,(.sla 0 1 0 v5.length (.un 1))),(7,(ii v7))],Wr [⟨rows v5.length (Zz v5),3,some ⟨1,v5.length,(Zz v5)⟩⟩] 0,1,[],true⟩,[],.leaf⟩
def u4u :List (Option (List Nat)):=[some [0,1,5,6]]
def u4w :List (Option (List Nat)):=[]
def u4t :List (Option (List Nat)):=[some [1,5,7]]
def u4v :List (Option (List Nat)):=[]
def Qh (l0:List R6) (l1:List R6):rcutS→Xv rcutS
 | .h0 v5 v6=>(bif (decide (v6<(l0.length:Int))) then (bif ((decide (0≤v6∧v6<(l0.length:Int)))&&true) then (bif (Nat.beq 1 1&&((decide (0+v5.length=v5.length))&&decide ((v5.length+2+1)*(8+1)≤Uj))) then (.to (.h0 (v5++[(rd l0 v6.toNat).c,(rd l0 v6.toNat).f]) (wrap .i64 (v6+1)))) else .stuck) else .stuck) else (.to (.h1 v5 0)))
 | .h1 v5 v7=>(bif (decide (v7<(l1.length:Int))) then (bif ((decide (0≤v7∧v7<(l1.length:Int)))&&true) then (bif (Nat.beq 1 1&&((decide (0+v5.length=v5.length))&&decide ((v5.length+2+1)*(8+1)≤Uj))) then (.to (.h1 (v5++[(rd l1 v7.toNat).c,(rd l1 v7.toNat).f]) (wrap .i64 (v7+1)))) else .stuck) else .stuck) else (bif (Jv (cvT v5)) then (.ret [(.dat (z1g (cvT v5)).length (Zz (z1g (cvT v5))))]) else .stuck))
def z7s (l0:List R6) (l1:List R6):Xv rcutS:=(.to (.h0 ([]:List Int) 0))
theorem x8b (l0:List R6) (l1:List R6): ∀s,Ys prog (Zy prog 125) (u9v l0 l1) (u9v l0 l1 s) (Qh l0 l1 s)
 | .h0 v5 v6=>(lb (fun k0=>(lo fun o0=>(lo fun o1=>(sl z3f 20 [] ⟨[2],[],u4u,u4w⟩ ⟨[(5,.len (v5++[(rd l0 (tn v6)).c,(rd l0 (tn v6)).f]).length)],[.rowed 1 (v5++[(rd l0 (tn v6)).c,(rd l0 (tn v6)).f]).length (Zz (v5++[(rd l0 (tn v6)).c,(rd l0 (tn v6)).f]))],[]⟩ [true] (pp (xL (v5.length+2) (v5++[(rd l0 (tn v6)).c,(rd l0 (tn v6)).f]).length) (pp (xL (v5.length+2) (v5++[(rd l0 (tn v6)).c,(rd l0 (tn v6)).f]).length) (pp (xS (v5.length+2) (Ze (Zz v5) 0 v5.length 1 [(ii (rd l0 (tn v6)).c),(ii (rd l0 (tn v6)).f)]) (Zz (v5++[(rd l0 (tn v6)).c,(rd l0 (tn v6)).f]))) (pp (pp (xF (Ze (Zz v5) 0 v5.length 1 [(ii (rd l0 (tn v6)).c),(ii (rd l0 (tn v6)).f)])) nn) (ww o1 (ww o0 (ww o0 (tt k0 nn)))))))))))) (fun k0=>(sl z3f 17 [] ⟨[0],[],u4t,u4v⟩ ⟨[],[],[]⟩ [false] (pp (fl v5 nn) (tt k0 nn)))))
 | .h1 v5 v7=>(lb (fun k0=>(lo fun o0=>(lo fun o1=>(sl z3f 20 [] ⟨[2],[],u4t,u4v⟩ ⟨[(5,.len (v5++[(rd l1 (tn v7)).c,(rd l1 (tn v7)).f]).length)],[.rowed 1 (v5++[(rd l1 (tn v7)).c,(rd l1 (tn v7)).f]).length (Zz (v5++[(rd l1 (tn v7)).c,(rd l1 (tn v7)).f]))],[]⟩ [true] (pp (xL (v5.length+2) (v5++[(rd l1 (tn v7)).c,(rd l1 (tn v7)).f]).length) (pp (xL (v5.length+2) (v5++[(rd l1 (tn v7)).c,(rd l1 (tn v7)).f]).length) (pp (xS (v5.length+2) (Ze (Zz v5) 0 v5.length 1 [(ii (rd l1 (tn v7)).c),(ii (rd l1 (tn v7)).f)]) (Zz (v5++[(rd l1 (tn v7)).c,(rd l1 (tn v7)).f]))) (pp (pp (xF (Ze (Zz v5) 0 v5.length 1 [(ii (rd l1 (tn v7)).c),(ii (rd l1 (tn v7)).f)])) nn) (ww o1 (ww o0 (ww o0 (tt k0 nn)))))))))))) (fun k0=>(Wu (sl z3f (C':=⟨⟨52,0,true⟩,(Ur prog 125 [1,1,1,1,0] 1),(Zb prog 125 [1,1,1,1,0] 1),none,(Zy prog 5),⟨Ya [(50,(.dat v5.length (Zz v5)))],Wr [] 0,0,[],true⟩,[],.leaf⟩) 13 [] ⟨[],[0],[some [50]],[]⟩ ⟨[(50,.frz v5.length v5.length (Zz v5) (Zz v5))],[],[]⟩ [false] (pp (xZ (z3k 1 1 0 v5.length v5.length (Zz v5)) v5.length (Zz v5)) (pp (xL v5.length v5.length) (pp (xS v5.length (Zz v5) (Zz v5)) (pp (fl v5 nn) (tt k0 nn)))))) (lo fun o0=>(lr 52 3 [1,1,1,1,1,1,1,0] 1 5 [(4,(.dat (z1g (cvT v5)).length (Zz (z1g (cvT v5)))))] (sl z3f 3 [] ⟨[],[],[some [4]],[]⟩ ⟨[],[],[]⟩ [] (pp (pp (xr v5) (xw o0)) nn)))))))
theorem x3n (l0:List R6) (l1:List R6):Ys prog (Zy prog 125) (u9v l0 l1) (Za prog 125 [(.dat l0.length (Zz l0)),(.dat l1.length (Zz l1))] true []) (z7s l0 l1):=(sl z3f 15 [(3,1,Zz ([]:List Int))] ⟨[0],[],u4u,u4w⟩ ⟨[(5,.grow 0 1)],[],[]⟩ [] (pp (fl ([]:List Int) nn) nn))
theorem v1n (l0:List R6) (l1:List R6) (n:Nat) (vs:List AVal) (h:Zs (Qh l0 l1) n (z7s l0 l1)=.ret vs):Jw prog (Zy prog 125) (Za prog 125 [(.dat l0.length (Zz l0)),(.dat l1.length (Zz l1))] true []) vs:=by have:=Zc (x8b l0 l1) n _ (x3n l0 l1);rwa [h] at this
def z3n (l:List R4):List Int:=l.flatMap fun r=>[r.a,r.c]
def z2c (l:List R4):List Int:=l.flatMap fun r=>[r.b,r.d]
def z3m (l:List R6):List Int:=l.flatMap fun r=>[r.c,r.f]
def xsV (l m:List R4):List Int:=z1g (z3n l++z3n m)
def y1q (l m:List R4):Bool:=decide (l.length≤10000∧m.length≤10000)
theorem z0t (l:List R4):(z3n l).length =2*l.length:=by
 induction l with
 | nil=>rfl
 | cons r l ih=>show (_::_::z3n l).length =_;simp only [AV,ih];omega
theorem y7d (l:List R4) (i:Nat) (h:i<l.length):z3n (l.drop i)=z3n [rd l i]++z3n (l.drop (i+1)):=by rw [Yx h];rfl
theorem u3e (l m:List R4) (hl:l.length≤10000) (hm:m.length≤10000): ∀(k i:Nat) (out:List Int),i+k=m.length→out.length=2*l.length+2*i→ ∃N,Zs (z2i l m) N (.to (.h1 out (i:Int)))=.ret [.dat (z1g (out++z3n (m.drop i))).length (Zz (z1g (out++z3n (m.drop i))))]
 | 0,i,out,h,ho=>by refine ⟨1,?_⟩;have hw:Jv out=true:=Ag (by omega);rw [Zv,Ar (show m.length≤i by omega),show z3n []=[] from rfl,AB];simp (disch:=omega) only [z2i,Xm,Yn,Zo,Yz,Xn,Yk,Yc,Yp,Zr,Zk,Zf,z0m,z0n,Av,Zx,Zt,Zh,Yg,Zj,Ah,Ai,Al,Ab,Aa,AE,AI,Zp,Zm,Zq,Vr,Xp,hw]
 | k+1,i,out,h,ho=>by obtain ⟨N,hN⟩:=u3e l m hl hm k (i+1) (out++z3n [rd m i]) (by omega) (by rw [Ay,z0t];simp;omega);refine ⟨N+1,?_⟩;rw [y7d m i (by omega),←AH,Zv];simp (disch:=omega) only [z2i,Xm,Yn,Zo,Yz,Xn,Yk,Yc,Yp,Zr,Zk,Zf,z0m,z0n,Av,Zx,Zt,Zh,Yg,Zj,Ah,Ai,Al,Ab,Aa,AE,AI,Zp,Zm,Zq,Vr,Xp];exact hN
theorem u3f (l m:List R4) (hl:l.length≤10000) (hm:m.length≤10000): ∀(k i:Nat) (out:List Int),i+k=l.length→out.length=2*i→ ∃N,Zs (z2i l m) N (.to (.h0 out (i:Int)))=.ret [.dat (z1g (out++z3n (l.drop i)++z3n m)).length (Zz (z1g (out++z3n (l.drop i)++z3n m)))]
 | 0,i,out,h,ho=>by obtain ⟨N,hN⟩:=u3e l m hl hm m.length 0 out (Ah _) (by omega);refine ⟨N+1,?_⟩;rw [Zv,Ar (show l.length≤i by omega),show z3n []=[] from rfl,AB];simp (disch:=omega) only [z2i,Xm,Yn,Zo,Yz,Xn,Yk,Yc,Yp,Zr,Zk,Zf,z0m,z0n,Av,Zx,Zt,Zh,Yg,Zj,Ah,Ai,Al,Ab,Aa,AE,AI,Zp,Zm,Zq,Vr,Xp];exact hN
 | k+1,i,out,h,ho=>by obtain ⟨N,hN⟩:=u3f l m hl hm k (i+1) (out++z3n [rd l i]) (by omega) (by rw [Ay,z0t];simp;omega);refine ⟨N+1,?_⟩;rw [y7d l i (by omega),←AH,Zv];simp (disch:=omega) only [z2i,Xm,Yn,Zo,Yz,Xn,Yk,Yc,Yp,Zr,Zk,Zf,z0m,z0n,Av,Zx,Zt,Zh,Yg,Zj,Ah,Ai,Al,Ab,Aa,AE,AI,Zp,Zm,Zq,Vr,Xp];exact hN
theorem u8q (l m:List R4) (h:y1q l m=true): ∃N,Zs (z2i l m) N (y2b l m)=.ret [.dat (xsV l m).length (Zz (xsV l m))]:=by
 obtain ⟨h1,h2⟩:=AA h;have:=u3f l m h1 h2 l.length 0 [] (Ah _) rfl
 simpa [y2b,xsV] using this
def ysV (l m:List R4):List Int:=z1g (z2c l++z2c m)
def y1p (l m:List R4):Bool:=decide (l.length≤10000∧m.length≤10000)
theorem z0s (l:List R4):(z2c l).length =2*l.length:=by
 induction l with
 | nil=>rfl
 | cons r l ih=>show (_::_::z2c l).length =_;simp only [AV,ih];omega
theorem y7c (l:List R4) (i:Nat) (h:i<l.length):z2c (l.drop i)=z2c [rd l i]++z2c (l.drop (i+1)):=by rw [Yx h];rfl
theorem u3c (l m:List R4) (hl:l.length≤10000) (hm:m.length≤10000): ∀(k i:Nat) (out:List Int),i+k=m.length→out.length=2*l.length+2*i→ ∃N,Zs (z2h l m) N (.to (.h1 out (i:Int)))=.ret [.dat (z1g (out++z2c (m.drop i))).length (Zz (z1g (out++z2c (m.drop i))))]
 | 0,i,out,h,ho=>by refine ⟨1,?_⟩;have hw:Jv out=true:=Ag (by omega);rw [Zv,Ar (show m.length≤i by omega),show z2c []=[] from rfl,AB];simp (disch:=omega) only [z2h,Xm,Yn,Zo,Yz,Xn,Yk,Yc,Yp,Zr,Zk,Zf,z0m,z0n,Av,Zx,Zt,Zh,Yg,Zj,Ah,Ai,Al,Ab,Aa,AE,AI,Zp,Zm,Zq,Vr,Xp,hw]
 | k+1,i,out,h,ho=>by obtain ⟨N,hN⟩:=u3c l m hl hm k (i+1) (out++z2c [rd m i]) (by omega) (by rw [Ay,z0s];simp;omega);refine ⟨N+1,?_⟩;rw [y7c m i (by omega),←AH,Zv];simp (disch:=omega) only [z2h,Xm,Yn,Zo,Yz,Xn,Yk,Yc,Yp,Zr,Zk,Zf,z0m,z0n,Av,Zx,Zt,Zh,Yg,Zj,Ah,Ai,Al,Ab,Aa,AE,AI,Zp,Zm,Zq,Vr,Xp];exact hN
theorem u3d (l m:List R4) (hl:l.length≤10000) (hm:m.length≤10000): ∀(k i:Nat) (out:List Int),i+k=l.length→out.length=2*i→ ∃N,Zs (z2h l m) N (.to (.h0 out (i:Int)))=.ret [.dat (z1g (out++z2c (l.drop i)++z2c m)).length (Zz (z1g (out++z2c (l.drop i)++z2c m)))]
 | 0,i,out,h,ho=>by obtain ⟨N,hN⟩:=u3c l m hl hm m.length 0 out (Ah _) (by omega);refine ⟨N+1,?_⟩;rw [Zv,Ar (show l.length≤i by omega),show z2c []=[] from rfl,AB];simp (disch:=omega) only [z2h,Xm,Yn,Zo,Yz,Xn,Yk,Yc,Yp,Zr,Zk,Zf,z0m,z0n,Av,Zx,Zt,Zh,Yg,Zj,Ah,Ai,Al,Ab,Aa,AE,AI,Zp,Zm,Zq,Vr,Xp];exact hN
 | k+1,i,out,h,ho=>by obtain ⟨N,hN⟩:=u3d l m hl hm k (i+1) (out++z2c [rd l i]) (by omega) (by rw [Ay,z0s];simp;omega);refine ⟨N+1,?_⟩;rw [y7c l i (by omega),←AH,Zv];simp (disch:=omega) only [z2h,Xm,Yn,Zo,Yz,Xn,Yk,Yc,Yp,Zr,Zk,Zf,z0m,z0n,Av,Zx,Zt,Zh,Yg,Zj,Ah,Ai,Al,Ab,Aa,AE,AI,Zp,Zm,Zq,Vr,Xp];exact hN
theorem u8p (l m:List R4) (h:y1p l m=true): ∃N,Zs (z2h l m) N (y2a l m)=.ret [.dat (ysV l m).length (Zz (ysV l m))]:=by
 obtain ⟨h1,h2⟩:=AA h;have:=u3d l m h1 h2 l.length 0 [] (Ah _) rfl
 simpa [y2a,ysV] using this
def Vy (l m:List R6):List Int:=z1g (z3m l++z3m m)
def z8q (l m:List R6):Bool:=decide (l.length≤10000∧m.length≤10000)
theorem z0r (l:List R6):(z3m l).length =2*l.length:=by
 induction l with
 | nil=>rfl
 | cons r l ih=>show (_::_::z3m l).length =_;simp only [AV,ih];omega
theorem y7a (l:List R6) (i:Nat) (h:i<l.length):z3m (l.drop i)=z3m [rd l i]++z3m (l.drop (i+1)):=by rw [Yx h];rfl
theorem v1l (l m:List R6) (hl:l.length≤10000) (hm:m.length≤10000): ∀(k i:Nat) (out:List Int),i+k=m.length→out.length=2*l.length+2*i→ ∃N,Zs (Qh l m) N (.to (.h1 out (i:Int)))=.ret [.dat (z1g (out++z3m (m.drop i))).length (Zz (z1g (out++z3m (m.drop i))))]
 | 0,i,out,h,ho=>by refine ⟨1,?_⟩;have hw:Jv out=true:=Ag (by omega);rw [Zv,Ar (show m.length≤i by omega),show z3m []=[] from rfl,AB];simp (disch:=omega) only [Qh,Xm,Yn,Zo,Yz,Xn,Yk,Yc,Yp,Zr,Zk,Zf,z0m,z0n,Av,Zx,Zt,Zh,Yg,Zj,Ah,Ai,Al,Ab,Aa,AE,AI,Zp,Zm,Zq,Vr,Xp,hw]
 | k+1,i,out,h,ho=>by obtain ⟨N,hN⟩:=v1l l m hl hm k (i+1) (out++z3m [rd m i]) (by omega) (by rw [Ay,z0r];simp;omega);refine ⟨N+1,?_⟩;rw [y7a m i (by omega),←AH,Zv];simp (disch:=omega) only [Qh,Xm,Yn,Zo,Yz,Xn,Yk,Yc,Yp,Zr,Zk,Zf,z0m,z0n,Av,Zx,Zt,Zh,Yg,Zj,Ah,Ai,Al,Ab,Aa,AE,AI,Zp,Zm,Zq,Vr,Xp];exact hN
theorem v1m (l m:List R6) (hl:l.length≤10000) (hm:m.length≤10000): ∀(k i:Nat) (out:List Int),i+k=l.length→out.length=2*i→ ∃N,Zs (Qh l m) N (.to (.h0 out (i:Int)))=.ret [.dat (z1g (out++z3m (l.drop i)++z3m m)).length (Zz (z1g (out++z3m (l.drop i)++z3m m)))]
 | 0,i,out,h,ho=>by obtain ⟨N,hN⟩:=v1l l m hl hm m.length 0 out (Ah _) (by omega);refine ⟨N+1,?_⟩;rw [Zv,Ar (show l.length≤i by omega),show z3m []=[] from rfl,AB];simp (disch:=omega) only [Qh,Xm,Yn,Zo,Yz,Xn,Yk,Yc,Yp,Zr,Zk,Zf,z0m,z0n,Av,Zx,Zt,Zh,Yg,Zj,Ah,Ai,Al,Ab,Aa,AE,AI,Zp,Zm,Zq,Vr,Xp];exact hN
 | k+1,i,out,h,ho=>by obtain ⟨N,hN⟩:=v1m l m hl hm k (i+1) (out++z3m [rd l i]) (by omega) (by rw [Ay,z0r];simp;omega);refine ⟨N+1,?_⟩;rw [y7a l i (by omega),←AH,Zv];simp (disch:=omega) only [Qh,Xm,Yn,Zo,Yz,Xn,Yk,Yc,Yp,Zr,Zk,Zf,z0m,z0n,Av,Zx,Zt,Zh,Yg,Zj,Ah,Ai,Al,Ab,Aa,AE,AI,Zp,Zm,Zq,Vr,Xp];exact hN
theorem v8p (l m:List R6) (h:z8q l m=true): ∃N,Zs (Qh l m) N (z7s l m)=.ret [.dat (Vy l m).length (Zz (Vy l m))]:=by
 obtain ⟨h1,h2⟩:=AA h;have:=v1m l m h1 h2 l.length 0 [] (Ah _) rfl
 simpa [z7s,Vy] using this
def fXs :List AVal→Option (AVal×Bool)
 | [a0,a1]=>match asL R4 a0,asL R4 a1 with
  | some (L0,g0,n0),some (L1,g1,n1)=>some (.dat (xsV L0 L1).length (Zz (xsV L0 L1)),isT R4 n0 g0&&(isT R4 n1 g1&&(y1q L0 L1)))
  | _,_=>none
 | _=>none
theorem fXs_ok {S:Specs} (hS:Zu prog S):Zu prog (S.with nXs fXs):=by
 refine z0o hS (by kernel_rfl) fun args v h=> ?_;unfold fXs at h;split at h
 ·rename_i a0 a1;split at h
  ·rename_i L0 g0 n0 L1 g1 n1 e0 e1;simp only [Ae,Ad,Ac] at h;obtain ⟨rfl,ho0,ho1,hw⟩:=h;obtain ⟨N,hN⟩:=u8q L0 L1 hw;exact ⟨_,_,(.cons (asL_le e0 ho0) (.cons (asL_le e1 ho1) .nil)),rfl,v7b L0 L1 N _ hN,3,rfl⟩
  ·cases h
 ·cases h
def fYs :List AVal→Option (AVal×Bool)
 | [a0,a1]=>match asL R4 a0,asL R4 a1 with
  | some (L0,g0,n0),some (L1,g1,n1)=>some (.dat (ysV L0 L1).length (Zz (ysV L0 L1)),isT R4 n0 g0&&(isT R4 n1 g1&&(y1p L0 L1)))
  | _,_=>none
 | _=>none
theorem fYs_ok {S:Specs} (hS:Zu prog S):Zu prog (S.with nYs fYs):=by
 refine z0o hS (by kernel_rfl) fun args v h=> ?_;unfold fYs at h;split at h
 ·rename_i a0 a1;split at h
  ·rename_i L0 g0 n0 L1 g1 n1 e0 e1;simp only [Ae,Ad,Ac] at h;obtain ⟨rfl,ho0,ho1,hw⟩:=h;obtain ⟨N,hN⟩:=u8p L0 L1 hw;exact ⟨_,_,(.cons (asL_le e0 ho0) (.cons (asL_le e1 ho1) .nil)),rfl,v7a L0 L1 N _ hN,3,rfl⟩
  ·cases h
 ·cases h
def j3d :List AVal→Option (AVal×Bool)
 | [a0,a1]=>match asL R6 a0,asL R6 a1 with
  | some (L0,g0,n0),some (L1,g1,n1)=>some (.dat (Vy L0 L1).length (Zz (Vy L0 L1)),isT R6 n0 g0&&(isT R6 n1 g1&&(z8q L0 L1)))
  | _,_=>none
 | _=>none
theorem u0w {S:Specs} (hS:Zu prog S):Zu prog (S.with nCuts j3d):=by
 refine z0o hS (by kernel_rfl) fun args v h=> ?_;unfold j3d at h;split at h
 ·rename_i a0 a1;split at h
  ·rename_i L0 g0 n0 L1 g1 n1 e0 e1;simp only [Ae,Ad,Ac] at h;obtain ⟨rfl,ho0,ho1,hw⟩:=h;obtain ⟨N,hN⟩:=v8p L0 L1 hw;exact ⟨_,_,(.cons (asL_le e0 ho0) (.cons (asL_le e1 ho1) .nil)),rfl,v1n L0 L1 N _ hN,3,rfl⟩
  ·cases h
 ·cases h
def T2 :Specs:=((T1.with nXs fXs).with nYs fYs).with nCuts j3d
theorem y0i :Zu prog T2:=u0w (fYs_ok (fXs_ok z3f))
inductive rjoS where
 | h0 (v9:List R4) (v10:List R2) (v11:Int) (v12:Int)
 | h1 (v9:List R4) (v10:List R2) (v11:Int) (v12:Int) (v13:List Bool) (v14:Int)
 | h2 (v9:List R4) (v10:List R2) (v11:Int) (v12:Int) (v15:List R2) (v17:Int)
 | h3 (v9:List R4) (v10:List R2) (v11:Int) (v12:Int) (v16:Int)
abbrev y0q (x0:Int) (l1:List R4) (l2:List R4) (v12:Int) (v14:Int):=(y5i x0 (has4V (cvT l1) (rd (xsV (cvT l1) (cvT l2)) (tn v12)) (rd (ysV (cvT l1) (cvT l2)) (tn v14))) (has4V (cvT l2) (rd (xsV (cvT l1) (cvT l2)) (tn v12)) (rd (ysV (cvT l1) (cvT l2)) (tn v14))))
abbrev y8e (v9:List R4) (v16:Int) (l1:List R4) (l2:List R4) (v12:Int):=(v9.set (0+(tn v16)) (R4.mk (rd v9 (0+(tn v16))).a (rd v9 (0+(tn v16))).b (rd (xsV (cvT l1) (cvT l2)) (tn (wr (v12+1)))) (rd v9 (0+(tn v16))).d))
abbrev y8d (v9:List R4) (l1:List R4) (l2:List R4) (v12:Int) (v15:List R2) (v17:Int):=(v9++[(R4.mk (rd (xsV (cvT l1) (cvT l2)) (tn v12)) (rd v15 (tn v17)).a (rd (xsV (cvT l1) (cvT l2)) (tn (wr (v12+1)))) (rd v15 (tn v17)).b)])
abbrev Qa (l1:List R4) (l2:List R4):=(ysV (cvT l1) (cvT l2))
def w2b (l1:List R4) (l2:List R4):AVal:=(.dat (xsV (cvT l1) (cvT l2)).length (Zz (xsV (cvT l1) (cvT l2))))
def w2a (l1:List R4) (l2:List R4):AVal:=(.dat (Qa l1 l2).length (Zz (Qa l1 l2)))
def rjoC (x0:Int) (l1:List R4) (l2:List R4):rjoS→Cfg
 | .h0 v9 v10 v11 v12=>⟨⟨121,0,true⟩,none,(Zb prog 126 [1,1,1,1,1,0,1,0,0] 0),none,(Zy prog 8),⟨Ya [(0,(ii x0)),(1,(.dat l1.length (Zz l1))),(2,(.dat l2.length (Zz l2))),(7,(w2b l1 l2)),(8,(w2a l1 l2)),(9,(.sla 0 4 0 v9.length (.un 4))),(10,(.dat v10.length (Zz v10))),(11,(ii v11)),(12,(ii v12))],Wr [⟨rows v9.length (Zz v9),88,some ⟨4,v9.length,(Zz v9)⟩⟩] 0,1,[],true⟩,[],.leaf⟩
 | .h1 v9 v10 v11 v12 v13 v14=>⟨⟨121,0,true⟩,none,(Zb prog 126 [1,1,1,1,1,0,1,0,0,1,0,0,1,0,1,0,0] 0),none,(Zy prog 8),⟨Ya [(0,(ii x0)),(1,(.dat l1.length (Zz l1))),(2,(.dat l2.length (Zz l2))),(7,(w2b l1 l2)),(8,(w2a l1 l2)),(9,(.sla 1 4 0 v9.length (.un 4))),(10,(.dat v10.length (Zz v10))),(11,(ii v11)),(12,(ii v12)),(13,(.sla 0 1 0 v13.length (.un 1))),(14,(ii v14))],Wr [⟨rows v13.length (Zz v13),4,some ⟨1,v13.length,(Zz v13)⟩⟩,⟨rows v9.length (Zz v9),88,some ⟨4,v9.length,(Zz v9)⟩⟩] 0,2,[],true⟩,[],.leaf⟩
 | .h2 v9 v10 v11 v12 v15 v17=>⟨⟨121,0,true⟩,none,(Zb prog 126 [1,1,1,1,1,0,1,0,0,1,0,0,1,1,1,1,1,1,0,0] 0),none,(Zy prog 8),⟨Ya [(0,(ii x0)),(1,(.dat l1.length (Zz l1))),(2,(.dat l2.length (Zz l2))),(7,(w2b l1 l2)),(8,(w2a l1 l2)),(9,(.sla 0 4 0 v9.length (.un 4))),(10,(.dat v10.length (Zz v10))),(11,(ii v11)),(12,(ii v12)),(15,(.dat v15.length (Zz v15))),(17,(ii v17))],Wr [⟨rows v9.length (Zz v9),88,some ⟨4,v9.length,(Zz v9)⟩⟩] 0,1,[],true⟩,[],.leaf⟩
 | .h3 v9 v10 v11 v12 v16=>⟨⟨121,0,true⟩,none,(Zb prog 126 [1,1,1,1,1,0,1,0,0,1,0,0,1,1,1,0,1,0,0,1,0,0] 0),none,(Zy prog 8),⟨Ya [(0,(ii x0)),(1,(.dat l1.length (Zz l1))),(2,(.dat l2.length (Zz l2))),(7,(w2b l1 l2)),(8,(w2a l1 l2)),(9,(.sla 0 4 0 v9.length (.un 4))),(10,(.dat v10.length (Zz v10))),(11,(ii v11)),(12,(ii v12)),(16,(ii v16))],Wr [⟨rows v9.length (Zz v9),88,some ⟨4,v9.length,(Zz v9)⟩⟩] 0,1,[],true⟩,[],.leaf⟩
def u9i :List (Option (List Nat)):=[some [0,1,2,7,8,9,10,11,12]]
def u9k :List (Option (List Nat)):=[]
def rjoN1 :List (Option (List Nat)):=[some [0,1,2,7,8,9,10,11,12,13,14]]
def rjoM1 :List (Option (List Nat)):=[]
def u9h :List (Option (List Nat)):=[some [0,1,2,7,8,9,10,11,12,15,17]]
def u9j :List (Option (List Nat)):=[]
def rjoN3 :List (Option (List Nat)):=[some [0,1,2,7,8,9,10,11,12,16]]
def rjoM3 :List (Option (List Nat)):=[]
def Vx (x0:Int) (l1:List R4) (l2:List R4):rjoS→Xv rjoS
 | .h0 v9 v10 v11 v12=>(bif (decide ((wrap .i64 (v12+1))<(((xsV (cvT l1) (cvT l2)).length :Nat):Int))) then (.to (.h1 v9 v10 v11 v12 ([]:List Bool) 0)) else (.ret [(.dat v9.length (Zz v9))]))
 | .h1 v9 v10 v11 v12 v13 v14=>(bif (decide (v14<(((ysV (cvT l1) (cvT l2)).length :Nat):Int))) then (bif (z0d (cvT l1) (rd (xsV (cvT l1) (cvT l2)) v12.toNat) (rd (ysV (cvT l1) (cvT l2)) v14.toNat)) then (bif ((decide (0≤v12∧v12<(((xsV (cvT l1) (cvT l2)).length :Nat):Int)))&&true) then (bif ((decide (0≤v14∧v14<(((ysV (cvT l1) (cvT l2)).length :Nat):Int)))&&true) then (bif (z0d (cvT l2) (rd (xsV (cvT l1) (cvT l2)) v12.toNat) (rd (ysV (cvT l1) (cvT l2)) v14.toNat)) then (bif (Nat.beq 1 1&&((decide (0+v13.length=v13.length))&&decide ((v13.length+1+1)*(1+1)≤Uj))) then (.to (.h1 v9 v10 v11 v12 (v13++[(y5i x0 (has4V (cvT l1) (rd (xsV (cvT l1) (cvT l2)) v12.toNat) (rd (ysV (cvT l1) (cvT l2)) v14.toNat)) (has4V (cvT l2) (rd (xsV (cvT l1) (cvT l2)) v12.toNat) (rd (ysV (cvT l1) (cvT l2)) v14.toNat)))]) (wrap .i64 (v14+1)))) else .stuck) else .stuck) else .stuck) else .stuck) else .stuck) else (bif (Qv (cvT (ysV (cvT l1) (cvT l2))) (cvT v13)) then (bif (decide (v12>0)) then (bif (Va (cvT (z1m (cvT (ysV (cvT l1) (cvT l2))) (cvT v13))) (cvT v10)) then (bif (Kd (cvT (z1m (cvT (ysV (cvT l1) (cvT l2))) (cvT v13))) (cvT v10)) then (.to (.h3 v9 v10 v11 v12 v11)) else (.to (.h2 v9 (z1m (cvT (ysV (cvT l1) (cvT l2))) (cvT v13)) (v9.length:Int) v12 (z1m (cvT (ysV (cvT l1) (cvT l2))) (cvT v13)) 0))) else .stuck) else (.to (.h2 v9 (z1m (cvT (ysV (cvT l1) (cvT l2))) (cvT v13)) (v9.length:Int) v12 (z1m (cvT (ysV (cvT l1) (cvT l2))) (cvT v13)) 0))) else .stuck))
 | .h2 v9 v10 v11 v12 v15 v17=>(bif (decide (v17<(v15.length:Int))) then (bif ((decide (0≤v12∧v12<(((xsV (cvT l1) (cvT l2)).length :Nat):Int)))&&true) then (bif ((decide (0≤(wrap .i64 (v12+1))∧(wrap .i64 (v12+1))<(((xsV (cvT l1) (cvT l2)).length :Nat):Int)))&&true) then (bif ((decide (0≤v17∧v17<(v15.length:Int)))&&true) then (bif (Nat.beq 4 4&&((decide (0+v9.length=v9.length))&&decide ((v9.length+1+1)*(32+1)≤Uj))) then (.to (.h2 (v9++[(R4.mk (rd (xsV (cvT l1) (cvT l2)) v12.toNat) (rd v15 v17.toNat).a (rd (xsV (cvT l1) (cvT l2)) (Int.toNat (wrap .i64 (v12+1)))) (rd v15 v17.toNat).b)]) v10 v11 v12 v15 (wrap .i64 (v17+1)))) else .stuck) else .stuck) else .stuck) else .stuck) else (.to (.h0 v9 v10 v11 (wrap .i64 (v12+1)))))
 | .h3 v9 v10 v11 v12 v16=>(bif (decide (v16<(v9.length:Int))) then (bif ((decide (0≤(wrap .i64 (v12+1))∧(wrap .i64 (v12+1))<(((xsV (cvT l1) (cvT l2)).length :Nat):Int)))&&true) then (bif ((decide (0≤v16∧v16<(v9.length:Int)))&&true) then (bif (decide ((0+v16.toNat)<v9.length)) then (.to (.h3 (v9.set (0+v16.toNat) (R4.mk (rd v9 (0+v16.toNat)).a (rd v9 (0+v16.toNat)).b (rd (xsV (cvT l1) (cvT l2)) (Int.toNat (wrap .i64 (v12+1)))) (rd v9 (0+v16.toNat)).d)) v10 v11 v12 (wrap .i64 (v16+1)))) else .stuck) else .stuck) else .stuck) else (.to (.h0 v9 v10 v11 (wrap .i64 (v12+1)))))
def y2m (x0:Int) (l1:List R4) (l2:List R4):Xv rjoS:=(bif (y1q (cvT l1) (cvT l2)) then (bif (y1p (cvT l1) (cvT l2)) then (.to (.h0 ([]:List R4) ([]:List R2) 0 0)) else .stuck) else .stuck)
theorem w5t (x0:Int) (l1:List R4) (l2:List R4): ∀s,Ys prog (Zy prog 126) (rjoC x0 l1 l2) (rjoC x0 l1 l2 s) (Vx x0 l1 l2 s)
 | .h0 v9 v10 v11 v12=>(lb (fun k0=>(sl y0i 24 [(4,1,Zz ([]:List Bool))] ⟨[1,0],[],rjoN1,rjoM1⟩ ⟨[(13,.grow 0 1)],[],[]⟩ [true] (pp (fl ([]:List Bool) (fl v9 nn)) (tt k0 nn)))) (fun k0=>(lr 121 3 [1,1,1,1,1,1,1,0] 1 8 [(6,(.dat v9.length (Zz v9)))] (sl y0i 16 [] ⟨[],[0],[some [6]],[]⟩ ⟨[(6,.frz v9.length v9.length (Zz v9) (Zz v9))],[],[]⟩ [false] (pp (xZ (z3k 4 4 0 v9.length v9.length (Zz v9)) v9.length (Zz v9)) (pp (xL v9.length v9.length) (pp (xS v9.length (Zz v9) (Zz v9)) (pp (fl v9 nn) (tt k0 nn)))))))))
 | .h1 v9 v10 v11 v12 v13 v14=>(lb (fun k0=>(lo fun o0=>(lo fun o1=>(lo fun o2=>(lo fun o3=>(lo fun o4=>(sl y0i 20 [] ⟨[3,1],[],rjoN1,rjoM1⟩ ⟨[(13,.len (v13++[(y0q x0 l1 l2 v12 v14)]).length)],[.rowed 1 (v13++[(y0q x0 l1 l2 v12 v14)]).length (Zz (v13++[(y0q x0 l1 l2 v12 v14)])),.keep],[]⟩ [true] (pp (xL (v13.length+1) (v13++[(y0q x0 l1 l2 v12 v14)]).length) (pp (xL (v13.length+1) (v13++[(y0q x0 l1 l2 v12 v14)]).length) (pp (xS (v13.length+1) (Ze (Zz v13) 0 v13.length 1 [(.bool (y0q x0 l1 l2 v12 v14))]) (Zz (v13++[(y0q x0 l1 l2 v12 v14)]))) (pp (pp (xF (Ze (Zz v13) 0 v13.length 1 [(.bool (y0q x0 l1 l2 v12 v14))])) (fl v9 nn)) (ww o4 (pp (pp (xr l2) (xw o3)) (ww o2 (ww o1 (pp (pp (xr l1) (xw o0)) (ww o2 (ww o1 (tt k0 nn))))))))))))))))))) (fun k0=>(Wu (sl y0i (C':=⟨⟨121,0,true⟩,(Ur prog 126 [1,1,1,1,1,0,1,0,0,1,0,0,1,1,0] 2),(Zb prog 126 [1,1,1,1,1,0,1,0,0,1,0,0,1,1,0] 1),none,(Zy prog 8),⟨Ya [(0,(ii x0)),(1,(.dat l1.length (Zz l1))),(2,(.dat l2.length (Zz l2))),(7,(.dat (xsV (cvT l1) (cvT l2)).length (Zz (xsV (cvT l1) (cvT l2))))),(8,(.dat (Qa l1 l2).length (Zz (Qa l1 l2)))),(9,(.sla 0 4 0 v9.length (.un 4))),(10,(.dat v10.length (Zz v10))),(11,(ii v11)),(12,(ii v12)),(62,(.dat (Qa l1 l2).length (Zz (Qa l1 l2)))),(63,(.dat v13.length (Zz v13)))],Wr [⟨rows v9.length (Zz v9),88,some ⟨4,v9.length,(Zz v9)⟩⟩] 0,1,[],true⟩,[],.leaf⟩) 14 [] ⟨[1],[0],[some [0,1,2,7,8,9,10,11,12,62,63]],[]⟩ ⟨[(63,.frz v13.length v13.length (Zz v13) (Zz v13))],[],[]⟩ [false] (pp (xZ (z3k 1 1 0 v13.length v13.length (Zz v13)) v13.length (Zz v13)) (pp (xL v13.length v13.length) (pp (xS v13.length (Zz v13) (Zz v13)) (pp (fl v9 nn) (pp (fl v13 nn) (tt k0 nn))))))) (lo fun aF=>(lb (fun k1=>(lo fun cA=>(lb (fun k2=>(sl y0i 23 [] ⟨[0],[],rjoN3,rjoM3⟩ ⟨[],[],[]⟩ (trs 4 []) (pp (fl v9 nn) (tt k2 (pp (pp (xI R2 (z1m (cvT (Qa l1 l2)) (cvT v13)).length (Zz (z1m (cvT (Qa l1 l2)) (cvT v13)))) (pp (xr v10) (xw cA))) (tt k1 (pp (pp (xI Int (Qa l1 l2).length (Zz (Qa l1 l2))) (pp (xr v13) (xw aF))) nn))))))) (fun k2=>(sl y0i 30 [] ⟨[0],[],u9h,u9j⟩ ⟨[],[],[]⟩ (trs 3 [false]) (pp (fl v9 nn) (tt k2 (pp (pp (xI R2 (z1m (cvT (Qa l1 l2)) (cvT v13)).length (Zz (z1m (cvT (Qa l1 l2)) (cvT v13)))) (pp (xr v10) (xw cA))) (tt k1 (pp (pp (xI Int (Qa l1 l2).length (Zz (Qa l1 l2))) (pp (xr v13) (xw aF))) nn)))))))))) (fun k1=>(sl y0i 30 [] ⟨[0],[],u9h,u9j⟩ ⟨[],[],[]⟩ (bl 4 0) (pp (fl v9 nn) (tt k1 (pp (pp (xI Int (Qa l1 l2).length (Zz (Qa l1 l2))) (pp (xr v13) (xw aF))) nn))))))))))
 | .h2 v9 v10 v11 v12 v15 v17=>(lb (fun k0=>(lo fun o0=>(lo fun o1=>(lo fun o2=>(lo fun o3=>(sl y0i 20 [] ⟨[2],[],u9h,u9j⟩ ⟨[(9,.len (y8d v9 l1 l2 v12 v15 v17).length)],[.rowed 4 (y8d v9 l1 l2 v12 v15 v17).length (Zz (y8d v9 l1 l2 v12 v15 v17))],[]⟩ [true] (pp (xL (v9.length+1) (y8d v9 l1 l2 v12 v15 v17).length) (pp (xL (v9.length+1) (y8d v9 l1 l2 v12 v15 v17).length) (pp (xS (v9.length+1) (Ze (Zz v9) 0 v9.length 4 [(ii (rd (xsV (cvT l1) (cvT l2)) (tn v12))),(ii (rd v15 (tn v17)).a),(ii (rd (xsV (cvT l1) (cvT l2)) (tn (wr (v12+1))))),(ii (rd v15 (tn v17)).b)]) (Zz (y8d v9 l1 l2 v12 v15 v17))) (pp (pp (xF (Ze (Zz v9) 0 v9.length 4 [(ii (rd (xsV (cvT l1) (cvT l2)) (tn v12))),(ii (rd v15 (tn v17)).a),(ii (rd (xsV (cvT l1) (cvT l2)) (tn (wr (v12+1))))),(ii (rd v15 (tn v17)).b)])) nn) (ww o3 (ww o2 (ww o1 (ww o2 (ww o0 (tt k0 nn)))))))))))))))) (fun k0=>(sl y0i 17 [] ⟨[0],[],u9i,u9k⟩ ⟨[],[],[]⟩ [false] (pp (fl v9 nn) (tt k0 nn)))))
 | .h3 v9 v10 v11 v12 v16=>(lb (fun k0=>(lo fun o0=>(lo fun o1=>(lo fun o2=>(sl y0i 31 [] ⟨[0],[],rjoN3,rjoM3⟩ ⟨[(9,.len (y8e v9 v16 l1 l2 v12).length)],[.rowed 4 (y8e v9 v16 l1 l2 v12).length (Zz (y8e v9 v16 l1 l2 v12))],[]⟩ [true] (pp (xL v9.length (y8e v9 v16 l1 l2 v12).length) (pp (xL v9.length (y8e v9 v16 l1 l2 v12).length) (pp (xS v9.length (Xe (Zz v9) (0+(tn v16)) 2 [(ii (rd (xsV (cvT l1) (cvT l2)) (tn (wr (v12+1)))))]) (Zz (y8e v9 v16 l1 l2 v12))) (pp (pp (xF (Xe (Zz v9) (0+(tn v16)) 2 [(ii (rd (xsV (cvT l1) (cvT l2)) (tn (wr (v12+1)))))])) nn) (ww o2 (ww o1 (ww o0 (tt k0 nn))))))))))))) (fun k0=>(sl y0i 17 [] ⟨[0],[],u9i,u9k⟩ ⟨[],[],[]⟩ [false] (pp (fl v9 nn) (tt k0 nn)))))
theorem x7o (x0:Int) (l1:List R4) (l2:List R4):Ys prog (Zy prog 126) (rjoC x0 l1 l2) (Za prog 126 [(.int .i64 x0),(.dat l1.length (Zz l1)),(.dat l2.length (Zz l2))] true []) (y2m x0 l1 l2):=(lo fun o0=>(lo fun o1=>(sl y0i 34 [(88,4,Zz ([]:List R4))] ⟨[0],[],u9i,u9k⟩ ⟨[(9,.grow 0 4),(10,.list 0 (Zz ([]:List R2)))],[],[]⟩ [] (pp (fl ([]:List R4) nn) (pp (pp (xr l1) (pp (xr l2) (xw o1))) (pp (pp (xr l1) (pp (xr l2) (xw o0))) nn))))))
theorem v7u (x0:Int) (l1:List R4) (l2:List R4) (n:Nat) (vs:List AVal) (h:Zs (Vx x0 l1 l2) n (y2m x0 l1 l2)=.ret vs):Jw prog (Zy prog 126) (Za prog 126 [(.int .i64 x0),(.dat l1.length (Zz l1)),(.dat l2.length (Zz l2))] true []) vs:=by have:=Zc (w5t x0 l1 l2) n _ (x7o x0 l1 l2);rwa [h] at this
theorem z1x : ∀(l out:List Int),(l.foldl y5e out).length ≤out.length+l.length
 | [],out=>An _
 | x::l,out=>AL (z1x l (y5e out x)) (by have:=y5d out x;simp;omega)
theorem z5y (l:List Int):(z1g l).length ≤l.length:=by
 have:=z1x l []
 simpa [z1g] using this
theorem y5x (cuts:List Int) (ins:List Bool): ∀(k i:Nat) (out:List R2),(w8u cuts ins k i out).length ≤out.length+k
 | 0,_,out=>An _
 | k+1,i,out=>by
  unfold w8u;refine AL (y5x cuts ins k (i+1) _) ?_;cases rd ins i
  ·simp only [Aa];omega
  ·simp only [Ab];cases (decide (0<out.length)&&((rd out (out.length - 1)).b == rd cuts i)) <;> simp <;> omega
theorem z0k (cuts:List Int) (ins:List Bool):(z1m cuts ins).length ≤cuts.length:=by have:=y5x cuts ins (cuts.length - 1) 0 [];unfold z1m;simp only [Bp] at this;omega
section
variable (kind:Int) (l m:List R4)
def v6a (x:Int) (y:Int):Bool:=y5i kind (has4V l x y) (has4V m x y)
def x5w (x:Int):List R2:=z1m (ysV l m) ((ysV l m).map (v6a kind l m x))
def v4i (out:List R4) (first:Nat) (x:Int):List R4:=out.take first++(out.drop first).map fun r=>⟨r.a,r.b,x,r.d⟩
def u5d (x x':Int) (s:List R2):List R4:=s.map fun p=>⟨x,p.a,x',p.b⟩
def jF :Nat→Nat→List R4→List R2→Nat→List R4
 | 0,_,out,_,_=>out
 | k+1,i,out,last,first=>
  bif decide (0<i)&&Kd (x5w kind l m (rd (xsV l m) i)) last then jF k (i+1) (v4i out first (rd (xsV l m) (i+1))) last first
  else jF k (i+1) (out++u5d (rd (xsV l m) i) (rd (xsV l m) (i+1)) (x5w kind l m (rd (xsV l m) i))) (x5w kind l m (rd (xsV l m) i)) out.length
def joV :List R4:=jF kind l m ((xsV l m).length - 1) 0 [] [] 0
end
def Jg (_:Int) (l m:List R4):Bool:=decide (l.length≤10000∧m.length≤10000)
theorem Ji (l m:List R4):(xsV l m).length ≤2*l.length+2*m.length:=by refine AL (z5y _) ?_;rw [Ay,z0t,z0t];omega
theorem z9d (l m:List R4):(ysV l m).length ≤2*l.length+2*m.length:=by refine AL (z5y _) ?_;rw [Ay,z0s,z0s];omega
section
variable (kind:Int) (l m:List R4) (hl:l.length≤10000) (hm:m.length≤10000)
include hl hm
theorem u4b (out:List R4) (last:List R2) (first:Int) (i:Nat) (hi:i+1<(xsV l m).length): ∀(k j:Nat) (acc:List Bool),j+k=(ysV l m).length →acc.length=j→
  ∃n,∀N,Zs (Vx kind l m) (N+n) (.to (.h1 out last first (i:Int) acc (j:Int)))=Zs (Vx kind l m) N (.to (.h1 out last first (i:Int) (acc++((ysV l m).drop j).map (v6a kind l m (rd (xsV l m) i))) ((ysV l m).length :Int)))
 | 0,j,acc,h,ha=>by refine ⟨0,fun N=> ?_⟩;rw [Ar (by omega),A5,AB,A4];rw [show j=(ysV l m).length by omega]
 | k+1,j,acc,h,ha=>by
  have hx:=Ji l m;have hy:=z9d l m;obtain ⟨n,hn⟩:=u4b out last first i hi k (j+1) (acc++[v6a kind l m (rd (xsV l m) i) (rd (ysV l m) j)]) (by omega) (by simp [ha])
  refine ⟨n+1,fun N=> ?_⟩;have w1: ∀x y,z0d l x y=true:=fun x y=>Ag (by omega);have w2: ∀x y,z0d m x y=true:=fun x y=>Ag (by omega);rw [Yx (show j<(ysV l m).length by omega),AW,←AC,Zv];simp (disch:=omega) only [Vx,Zm,Zq,w1,w2,Zo,Zr,Yc,Yp,Zf,Zk,Zx,Yg,Zj,Ah,Av,Ai,Al,Ab];have:=hn N;rw [AH] at this;exact this
theorem u4a (last:List R2) (first:Int) (i:Nat) (hi:i+1<(xsV l m).length) (s:List R2) (hs:s.length≤1000000): ∀(k j:Nat) (out:List R4),j+k=s.length→out.length≤10000000000+j→
  ∃n,∀N,Zs (Vx kind l m) (N+n) (.to (.h2 out last first (i:Int) s (j:Int)))=Zs (Vx kind l m) N (.to (.h0 (out++u5d (rd (xsV l m) i) (rd (xsV l m) (i+1)) (s.drop j)) last first ((i+1:Nat):Int)))
 | 0,j,out,h,ho=>by have hx:=Ji l m;refine ⟨1,fun N=> ?_⟩;rw [Ar (by omega),Zv];simp (disch:=omega) only [Vx,Zm,Zq,Yz,Zk,Zx,Aa,u5d,A5,AB]
 | k+1,j,out,h,ho=>by
  have hx:=Ji l m;obtain ⟨n,hn⟩:=u4a last first i hi s hs k (j+1) (out++u5d (rd (xsV l m) i) (rd (xsV l m) (i+1)) [rd s j]) (by omega) (by simp [u5d];omega)
  refine ⟨n+1,fun N=> ?_⟩;have:=hn N;rw [Yx (show j<s.length by omega),←AC,Zv];simp (disch:=omega) only [Vx,Zm,Zq,Zo,Zr,Yc,Yp,Zf,Zk,Zx,Yg,Zj,Ah,Av,Ai,Al,Ab];rw [AH] at this;exact this
theorem u0y (out:List R4) (j:Nat) (x:Int) (h:j<out.length):v4i (out.set j ⟨(rd out j).a,(rd out j).b,x,(rd out j).d⟩) (j+1) x=v4i out j x:=by
 have _uhl:=hl;have _uhm:=hm;unfold v4i;rw [Yx h,AW];have e1:(out.set j ⟨(rd out j).a,(rd out j).b,x,(rd out j).d⟩).take (j+1)=out.take j++[⟨(rd out j).a,(rd out j).b,x,(rd out j).d⟩]:=by
  apply Cc
  ·simp;omega
  ·intro n h1 h2;simp only [Bl,List.getElem_set];by_cases e:j=n
   ·subst e;rw [Az rfl,BE (by simp only [Bc];omega)];simp
   ·rw [As e,Bw (by simp at h1 ⊢;omega),Bl]
 have e2:(out.set j ⟨(rd out j).a,(rd out j).b,x,(rd out j).d⟩).drop (j+1)=out.drop (j+1):=by rw [List.drop_set];rw [Az (by omega)]
 rw [e1,e2,AH];rfl
theorem u3z (last:List R2) (first:Int) (i:Nat) (hi:i+1<(xsV l m).length): ∀(k j:Nat) (out:List R4),j+k=out.length→out.length≤10000000000→
  ∃n,∀N,Zs (Vx kind l m) (N+n) (.to (.h3 out last first (i:Int) (j:Int)))=Zs (Vx kind l m) N (.to (.h0 (v4i out j (rd (xsV l m) (i+1))) last first ((i+1:Nat):Int)))
 | 0,j,out,h,ho=>by
  have hx:=Ji l m;refine ⟨1,fun N=> ?_⟩;have e:v4i out j (rd (xsV l m) (i+1))=out:=by unfold v4i;rw [Ar (by omega),A5,AB,AQ (by omega)]
  rw [e,Zv];simp (disch:=omega) only [Vx,Zm,Zq,Yz,Zk,Zx,Aa]
 | k+1,j,out,h,ho=>by
  have hx:=Ji l m;obtain ⟨n,hn⟩:=u3z last first i hi k (j+1) (out.set j ⟨(rd out j).a,(rd out j).b,rd (xsV l m) (i+1),(rd out j).d⟩) (by simp;omega) (by simpa using ho)
  refine ⟨n+1,fun N=> ?_⟩;have:=hn N;rw [u0y l m hl hm out j _ (by omega)] at this;rw [←AC,Zv];simp (disch:=omega) only [Vx,Zm,Zq,Zo,Zr,Yk,Yc,Yp,Zf,Zk,Zx,Yg,Zj,Ah,Av,Ai,Al,Ab];exact this
theorem v0v : ∀(k i:Nat) (out:List R4) (last:List R2) (first:Nat),k=(xsV l m).length - 1 - i→i≤(xsV l m).length →out.length≤i*40000→last.length≤40000→first≤out.length→
  ∃n,Zs (Vx kind l m) n (.to (.h0 out last (first:Int) (i:Int)))=.ret [.dat (jF kind l m k i out last first).length (Zz (jF kind l m k i out last first))]
 | 0,i,out,last,first,h,hi,ho,hla,hf=>by have hx:=Ji l m;refine ⟨1,?_⟩;rw [Zv];simp (disch:=omega) only [Vx,Zm,Zq,Yz,Zk,Zx,Aa,Zp,jF]
 | k+1,i,out,last,first,h,hi,ho,hla,hf=>by
  have hx:=Ji l m;have hy:=z9d l m;have hi1:i+1<(xsV l m).length :=by omega
  have hsl:(x5w kind l m (rd (xsV l m) i)).length ≤40000:=AL (z0k _ _) (by omega);have hbig:i*40000≤40000*40000:=AK _ (by omega);obtain ⟨n1,h1⟩:=u4b kind l m hl hm out last first i hi1 (ysV l m).length 0 [] (Ah _) rfl
  simp only [AX,Bg,Kb] at h1;have w3:Qv (ysV l m) ((ysV l m).map (v6a kind l m (rd (xsV l m) i)))=true:=Ag ⟨by omega,by rw [AT];omega⟩;have w4:Va (z1m (ysV l m) ((ysV l m).map (v6a kind l m (rd (xsV l m) i)))) last=true:=Ag (AL hsl (by omega));have hy2:((ysV l m).length :Int)=(((ysV l m).length :Nat):Int):=rfl;unfold jF;rcases Ym (decide (0<i)&&Kd (x5w kind l m (rd (xsV l m) i)) last) with q | q
  ·obtain ⟨n3,h3⟩:=u3z kind l m hl hm last first i hi1 (out.length - first) first out (by omega) (by omega)
   obtain ⟨n0,h0⟩:=v0v k (i+1) (v4i out first (rd (xsV l m) (i+1))) last first (by omega) (by omega) (by simp [v4i];omega) hla (by simp [v4i];omega)
   refine ⟨n0+n3+1+n1+1,?_⟩;rw [q,Ab,Zv];simp only [Ac,At] at q;have q2:Kd (z1m (ysV l m) ((ysV l m).map (v6a kind l m (rd (xsV l m) i)))) last=true:=q.2;simp (disch:=omega) only [Vx,Zm,Zq,Zo,Zk,Zx,Ab];have h1':=h1 (n0+n3+1);rw [h1',Zv];simp (disch:=omega) only [Vx,Zm,Zq,Yz,Yn,q2,w3,w4,Ab,Aa];rw [h3 n0,h0]
  ·obtain ⟨n2,h2⟩:=u4a kind l m hl hm (x5w kind l m (rd (xsV l m) i)) (out.length:Int) i hi1 (x5w kind l m (rd (xsV l m) i)) (by omega) (x5w kind l m (rd (xsV l m) i)).length 0 out (Ah _) (by omega);obtain ⟨n0,h0⟩:=v0v k (i+1) (out++u5d (rd (xsV l m) i) (rd (xsV l m) (i+1)) (x5w kind l m (rd (xsV l m) i))) (x5w kind l m (rd (xsV l m) i)) out.length (by omega) (by omega) (by simp [u5d];omega) hsl (by simp);refine ⟨n0+n2+1+n1+1,?_⟩;rw [q,Aa,Zv];simp (disch:=omega) only [Vx,Zm,Zq,Zo,Zk,Zx,Ab];have h1':=h1 (n0+n2+1);rw [h1',Zv];have h2':=h2 n0;simp only [AX,Kb] at h2';by_cases hi0:0<i
   ·rw [Ag hi0,Al] at q;have q2:Kd (z1m (ysV l m) ((ysV l m).map (v6a kind l m (rd (xsV l m) i)))) last=false:=q;simp (disch:=omega) only [Vx,Zm,Zq,Yz,Yn,q2,w3,w4,Ab,Aa];rw [←h0];exact h2'
   ·simp (disch:=omega) only [Vx,Zm,Zq,Yz,Xm,w3,w4,Ab,Aa];rw [←h0];exact h2'
end
theorem u9g (kind:Int) (l m:List R4) (h:Jg kind l m=true): ∃N,Zs (Vx kind l m) N (y2m kind l m)=.ret [.dat (joV kind l m).length (Zz (joV kind l m))]:=by obtain ⟨hl,hm⟩:=AA h;obtain ⟨N,hN⟩:=v0v kind l m hl hm ((xsV l m).length - 1) 0 [] [] 0 rfl (AD _) (AD _) (AD _) (An _);refine ⟨N,?_⟩;have w1:y1q l m=true:=Ag ⟨hl,hm⟩;have w2:y1p l m=true:=Ag ⟨hl,hm⟩;simp only [y2m,Zm,Zq,w1,w2,Ab];exact hN
theorem w8s {P:Program} {S:Specs} (hS:Zu P S) {f:FuncId} {F:List AVal→Option (AVal×Bool)} (hf:(P.funcs[f]?).any (fun fn=>fn.body.isSome)=true)
  (hF: ∀args v,F args=some (v,true)→ ∃bs vs,Ws VLe args bs∧(∀(ρ:Rho) (u:Value),Yy ρ (Jz vs) u→Yy ρ v u)∧Jw P (Zy P f) (Za P f bs true []) vs∧ ∃d,pf d (Jz vs)=true):Zu P (S.with f F):=
 w4e hS hf fun args v h=>by obtain ⟨bs,vs,h1,h2,h3,d,h4⟩:=hF args v h;exact ⟨vs,h2,x4z h1 h3,d,h4⟩
theorem z3q {cs cs':List AVal} (h:RLe cs cs') (ρ:Rho) (u:Value) (hv:Yy ρ (.tup cs) u):Yy ρ (.tup cs') u:=by
 cases hv with
 | tup _ vs hl hh=>exact .tup cs' vs (by rw [←h.len];exact hl) fun i h1 h2=>h.sound i (by rw [h.len];exact h1) h1 (hh i (by rw [h.len];exact h1) h2)
theorem z6k (α:Type) [Xz α]:VLe .nils (.dat ([]:List α).length (Zz ([]:List α))):=.nild _
def fJo :List AVal→Option (AVal×Bool)
 | [.int .i64 x0,a1,a2]=>match asL R4 a1,asL R4 a2 with
  | some (L1,g1,n1),some (L2,g2,n2)=>some (.dat (joV x0 L1 L2).length (Zz (joV x0 L1 L2)),isT R4 n1 g1&&(isT R4 n2 g2&&(Jg x0 L1 L2)))
  | _,_=>none
 | _=>none
theorem fJo_ok {S:Specs} (hS:Zu prog S):Zu prog (S.with u5o fJo):=by
 refine z0o hS (by kernel_rfl) fun args v h=> ?_;unfold fJo at h;split at h
 ·rename_i x0 a1 a2;split at h
  ·rename_i L1 g1 n1 L2 g2 n2 e1 e2;simp only [Ae,Ad,Ac] at h;obtain ⟨rfl,ho1,ho2,hw⟩:=h;obtain ⟨N,hN⟩:=u9g x0 L1 L2 hw;exact ⟨_,_,(.cons (.refl _) (.cons (asL_le e1 ho1) (.cons (asL_le e2 ho2) .nil))),rfl,v7u x0 L1 L2 N _ hN,3,rfl⟩
  ·cases h
 ·cases h
def T3 :Specs:=T2.with u5o fJo
theorem y0h :Zu prog T3:=fJo_ok y0i
open Go.Sort
def bnd3 (r:R3):Bool:=decide (-1000000000≤r.a∧r.a≤1000000000)
def y1j (l:List R3):Bool:=l.all bnd3
abbrev E3 :={r:R3 // bnd3 r=true}
instance : Inhabited E3:=⟨⟨⟨0,0,0⟩,rfl⟩⟩
def cf3 (x y:E3):Int:=x.1.a - y.1.a
def lt3 (x y:E3):Bool:=decide (cf3 x y<0)
theorem swo3 :SWO lt3 where
 irrefl x:=by unfold lt3 cf3;simp
 trans x y z h1 h2:=by unfold lt3 cf3 at*;simp at*;omega
 ntrans x y z h1 h2:=by unfold lt3 cf3 at*;simp at*;omega
def x2s :(l:List R3)→y1j l=true→List E3
 | [],_=>[]
 | r::l,h=>⟨r,by simp [y1j] at h;exact h.1⟩::x2s l (by simp [y1j] at h ⊢;exact h.2)
theorem y3l : ∀(l:List R3) (h:y1j l=true),(x2s l h).map Subtype.val=l
 | [],_=>rfl
 | r::l,h=>by rw [x2s,AW,y3l l]
theorem Kh (l:List R3) (h:y1j l=true):(x2s l h).length =l.length:=by
 have:=AY List.length (y3l l h)
 simpa using this
def z0v (l:List R3):List R3:=if h:y1j l=true then (pdq lt3 (x2s l h).toArray 0 l.length (Lib.bitLen l.length) true true).toList.map Subtype.val else l
theorem Kr (l:List R3) (h:y1j l=true):(z0v l).Perm l∧ ∀i j,i<j→j<(z0v l).length →(rd (z0v l) i).a ≤(rd (z0v l) j).a :=by
 have hp:=pdq_sorts lt3 swo3 (x2s l h).toArray 0 l.length (Lib.bitLen l.length) true true (AD _) (by simp [Kh]) (Or.inl rfl);obtain ⟨⟨h1,h2,h3⟩,h4⟩:=hp;have e:z0v l=(pdq lt3 (x2s l h).toArray 0 l.length (Lib.bitLen l.length) true true).toList.map Subtype.val:=by unfold z0v;rw [dif_pos h]
 generalize pdq lt3 (x2s l h).toArray 0 l.length (Lib.bitLen l.length) true true=d at*;have hs:d.size=l.length:=by rw [h1];simp [Kh]
 constructor
 ·rw [e];have x1:(d.extract 0 l.length).toList =d.toList:=by rw [←hs];simp
  have x2:((x2s l h).toArray.extract 0 l.length).toList =x2s l h:=by rw [show l.length=(x2s l h).toArray.size by simp [Kh]];simp
  rw [x1,x2] at h3;have:=h3.map Subtype.val;rw [y3l] at this;exact this
 ·intro i j hij hj;rw [e] at hj ⊢;have hj':j<d.size:=by simpa using hj
  have:=h4 i j (AD _) hij (by omega);rw [BT d i (by omega),BT d j hj'] at this;rw [Yo (by simp;omega),Yo hj];simp only [BR,Array.getElem_toList];unfold lt3 cf3 at this;have:=of_decide_eq_false this;omega
open Go.RowKit Go.Shelf
variable {P:Program} {ρ:Rho}
def valOf :AVal→Value
 | .int k n=>.int k n
 | .bool b=>.bool b
 | _=>.tuple #[]
def x9l :AVal→Bool
 | .int _ _=>true
 | .bool _=>true
 | _=>false
theorem w9a {a:AVal} (h:x9l a=true):Yy ρ a (valOf a):=by
 cases a <;> first
  | exact .int _ _
  | exact .bool _
  | (simp [x9l] at h;done)
theorem v1h {a:AVal} {v:Value} (h:x9l a=true) (hv:Yy ρ a v):v=valOf a:=by
 cases hv <;> first
  | rfl
  | (simp [x9l] at h;done)
class u7f (α:Type) extends Xz α where
 num: ∀a:α,(cells a).all x9l=true
instance : u7f R2 where num _:=rfl
instance : u7f R3 where num _:=rfl
instance : u7f R4 where num _:=rfl
instance : u7f R6 where num _:=rfl
instance {α :Type} [Xz α]:Inhabited α:=⟨Xz.d⟩
section
variable {α:Type} [u7f α]
def y9n (a:α):List Value:=(Xz.cells a).map valOf
theorem y5s (a:α):(y9n a).length =Xz.w α:=by rw [y9n,AT,Xz.len]
theorem w3r (L:List α) (t:Nat) (h:t<L.length*Xz.w α):(flatK y9n (Xz.w α) L.toArray)[t]? =(Xz.cells (rd L (t / Xz.w α)))[t %Xz.w α]?.map valOf:=by
 have hw:=Xz.pos (α:=α);have hq:t / Xz.w α<L.length:=Bu (by rw [Bn];exact h);have hj:t %Xz.w α<Xz.w α:=BW _ hw;have hs:t<(flatK y9n (Xz.w α) L.toArray).size :=by rw [size_flatK];exact h
 rw [Bk hs,←BT (flatK y9n (Xz.w α) L.toArray) t hs,get_flatK y9n (Xz.w α) L.toArray t (by simpa using h)];have e1:L.toArray[t / Xz.w α]! =rd L (t / Xz.w α):=by rw [Yo hq,BT L.toArray _ (by simpa using hq)];simp
 rw [e1];have hl:t %Xz.w α<(y9n (rd L (t / Xz.w α))).length :=by rw [y5s];exact hj
 have hl2:t %Xz.w α<(Xz.cells (rd L (t / Xz.w α))).length :=by rw [Xz.len];exact hj
 rw [BT (y9n (rd L (t / Xz.w α))) _ hl,Aq hl2];simp [y9n]
theorem v0q (L:List α) (N t:Nat) (h:t<N*Xz.w α):(rows N (Zz L))[t]? =(Xz.cells (rd L (t / Xz.w α)))[t %Xz.w α]? :=by have hw:=Xz.pos (α:=α);have:=Wn (get:=Zz L) (sz:=Xz.w α) N (fun _ _=>Xz.len _) (t / Xz.w α) (t %Xz.w α) (Bu (by rw [Bn];exact h)) (BW _ hw);rw [show t / Xz.w α*Xz.w α+t %Xz.w α=t by rw [Bn];exact B0 t _] at this;exact this
theorem z1p (L:List α) (N:Nat):(rows N (Zz L)).length =N*Xz.w α:=Yq N fun _ _=>Xz.len _
theorem y5j (w:World) (n blk off:Nat) (d:Array Value) (os:Array Obj) (k:Nat) (hk:k<w.heap.size):
  (grow (putRow id (Go.Sort.ahead w n) blk off d) os).heap[k]? =if k=blk then (w.heap[k]?).map (onCells (putCells id off d)) else w.heap[k]? :=by
 show (((Go.Sort.ahead w n).heap.modify blk (onCells (putCells id off d)))++os)[k]? =_;rw [Array.getElem?_append_left (by simp;exact hk),Array.getElem?_modify];show (if blk=k then _ else _)=_;by_cases h:k=blk
 ·rw [Az h.symm,Az h];rfl
 ·rw [As (fun e=>h e.symm),As h];rfl
def w3s (α:Type) [Xz α] (srt:List α→List α) (bnd:List α→Bool) (g:FuncId) (args:List AVal) (mem:Mem):Option (AVal×Nat×ABlk×Bool):=match args with
 | [.sla b sz off n cap,.fn f []]=>bif Nat.beq f g then match Ye mem b with
  | some ⟨_,ty,some A⟩=>some (.tup [],b,⟨rows A.n (Zz (srt (lst α n A.get))),ty,some ⟨Xz.w α,A.n,Zz (srt (lst α n A.get))⟩⟩,
    Nat.beq sz (Xz.w α)&&(Nat.beq A.sz (Xz.w α)&&(Nat.beq off 0&&((decide (n=A.n)&&(isT α n A.get&&decide (n<4611686018427387904)))&&bnd (lst α n A.get)))))
  | _=>none
  else none
 | _=>none
theorem v4l {f g:FuncId} {srt:List α→List α} {bnd:List α→Bool} (hsl: ∀L,(srt L).length =L.length)
  (hC: ∀(blk off cap:Nat) (L:List α) (w:World),bnd L=true→HoldsK y9n (Xz.w α) w blk off L.toArray→blk<w.heap.size→L.length<4611686018427387904→
   Calls P f #[.slice (some ⟨blk,off,none⟩) L.length cap,.func (.func g) #[] #[]] w fun e w'=>e=.returned (.tuple #[])∧ ∃n os,w'=sortWorldK y9n (Xz.w α) w blk off n (srt L).toArray os)
  (hN: ∀(p:Option Addr) (cap:Nat) (fv:Value) (w:World),Calls P f #[.slice p 0 cap,fv] w fun e w'=>e=.returned (.tuple #[])∧w'=w):x5v P f (w3s α srt bnd g):=by
 intro args mem v b blk h fD ρ next floor vals w hfl dB cY
 have hw0:=Xz.pos (α:=α);unfold w3s at h;split at h
 ·rename_i b0 sz off n cap f0;obtain ⟨hfg,h'⟩:=Qo h;clear h;obtain rfl:=Aj hfg;have h:=h';clear h';split at h
  ·rename_i cells ty A hm;obtain ⟨asz,an,get⟩:=A;simp only [Ae,Ad,Ac] at h;obtain ⟨rfl,rfl,rfl,h1,h2,h3,⟨h4,h5,h6⟩,h7⟩:=h;have g1:=Aj h1;have g2:=Aj h2;have g3:=Aj h3;have g4:n=an:=AA h4;have h6:n<4611686018427387904:=AA h6;have g2:asz=Xz.w α:=g2;subst g1;subst g2;subst g3;subst g4;have h7:bnd (lst α n get.get)=true:=h7;have dG:=w3g h5;have dG: ∀i,i<n→get.get i=Zz (lst α n get.get) i:=dG;have hrows:rows n get.get=rows n (Zz (lst α n get.get)):=z4q n dG;obtain ⟨u,hu,hvals⟩: ∃u,Yy ρ (.sla b0 (Xz.w α) 0 n cap) u∧vals= #[u,.func (.func f0) #[] #[]]:=by
    obtain ⟨vl⟩:=vals;cases dB with
    | cons q1 q2=>cases q2 with
     | cons q3 q4=>
      cases q4;cases q3 with
      | fn _ _ cvs hl _=>have:cvs= #[]:=BN (by simpa using hl.symm);subst this;exact ⟨_,q1,rfl⟩
   subst hvals;have hlt:b0<next:=by
    rcases Bi b0 next with q | q
    ·exact q
    ·have:=cY.bd b0 q;rw [hm] at this;cases this
   show Calls P f _ w _;have hAget:(Arr.get ⟨Xz.w α,n,get⟩)=get.get:=rfl;rw [hAget] at*;generalize hI:lst α n get.get=I at*;have hIl:I.length=n:=by rw [←hI];exact z9q _ _
   generalize hL:srt I=L;have hLl:L.length=n:=by rw [←hL,hsl,hIl]
   have hnn:ρ b0=none→ ∀cs ty',Ye mem b0≠some ⟨cs,ty',none⟩:=fun _ cs ty' e=>by rw [hm] at e;cases e
   cases hu with
   | sla _ _ _ _ _ l cc e hc cZ=>
    have hbk:=cY.blk b0 l _ e hm;obtain ⟨har,_,_⟩:=hbk.arr _ rfl;have har:cells=rows n get.get:=har;rw [hrows] at har;subst har;obtain ⟨cur,el,hh,hsz,dD⟩:=hbk.cells;simp only [z1p] at dD;have htot:=hbk.tot;have hln:=hbk.n;simp only [z1p] at hln;have dY: ∀t,t<n*Xz.w α→cur[l.base+t]? =(Xz.cells (rd I (t / Xz.w α)))[t %Xz.w α]?.map valOf:=fun t ht=>by
     obtain ⟨v,e1,e2⟩:=dD t ht;have hj:t %Xz.w α<Xz.w α:=BW _ hw0;have hl2:t %Xz.w α<(Xz.cells (rd I (t / Xz.w α))).length :=by rw [Xz.len];exact hj
     have e3:=v0q I n t ht;rw [Aq (by rw [z1p];exact ht),Aq hl2] at e3;rw [Af e3] at e2;rw [e1,Aq hl2,BG,v1h (Aw.1 (u7f.num _) _ (AN hl2)) e2]
    have eL:=cY.real b0 l e;have hH:HoldsK y9n (Xz.w α) w l.blk (l.base+0*Xz.w α) I.toArray:=fun j hj=>by
     have hj:j<n*Xz.w α:=(by simpa [hIl] using hj);have hs:j<(flatK y9n (Xz.w α) I.toArray).size :=(by simpa [hIl] using hj);have e1:=w3r I j (by rw [hIl];exact hj);rw [Bk hs] at e1;refine ⟨?_,?_⟩
     ·simp only [World.cell?,hh,Bj,A4,id];rw [dY j hj,←e1,BT (flatK y9n (Xz.w α) I.toArray) j hs];simp
     ·simp [World.frozen?,hh]
    have dO:=hC l.blk (l.base+0*Xz.w α) cc I w h7 hH eL (by omega);rw [hIl,hL] at dO;refine dO.mono fun e' w' ⟨he,q,os,hw'⟩=>⟨_,he,?_,?_,?_⟩
    ·exact .tup [] #[] rfl fun i h1 h2=>absurd h1 (AM _)
    ·subst hw';refine Rel.setArr ?_ ⟨Xz.w α,n,.flat (Zz L)⟩ rfl hw0 fun _ _=>Xz.len _;refine Rel.rewritten cY e hm (by simp only [z1p]) (fun k hk hne=> ?_) ?_ ?_
     ·exact (y5j _ _ _ _ _ _ _ hk).trans (As hne)
     ·show _≤(((Go.Sort.ahead w q).heap.modify _ _)++os).size;simp only [BM,Ci];exact BC _ _
     ·refine ⟨putCells id (l.base+0*Xz.w α) (flatK y9n (Xz.w α) L.toArray) cur,el,?_,?_,fun i hi=> ?_⟩
      ·refine (y5j _ _ _ _ _ _ _ eL).trans ?_;rw [Az rfl,hh];rfl
      ·simp only [putCells,Array.size_mapIdx];exact hsz
      ·rw [z1p] at hi;have hj:i %Xz.w α<Xz.w α:=BW _ hw0;have hl2:i %Xz.w α<(Xz.cells (rd L (i / Xz.w α))).length :=by rw [Xz.len];exact hj
       have hl3:i %Xz.w α<(Xz.cells (rd I (i / Xz.w α))).length :=by rw [Xz.len];exact hj
       have e1:=w3r L i (by rw [hLl];exact hi);rw [Aq hl2,BG] at e1;have hs:i<(flatK y9n (Xz.w α) L.toArray).size :=(by simpa [hLl] using hi);rw [Bk hs] at e1;have e3:=v0q L n i hi;rw [Aq (by rw [z1p];exact hi),Aq hl2] at e3;refine ⟨valOf (Xz.cells (rd L (i / Xz.w α)))[i %Xz.w α],?_,?_⟩
       ·have hc0:=dY i hi;rw [Aq hl3,BG] at hc0;simp only [putCells,Array.getElem?_mapIdx,hc0,BG,Bj,A4];rw [Az ⟨by omega,by omega⟩]
        congr 1
        rw [show l.base+i - l.base=i by omega,id,BT (flatK y9n (Xz.w α) L.toArray) i hs];exact Af e1
       ·rw [Af e3];exact w9a (Aw.1 (u7f.num _) _ (AN hl2))
    ·subst hw';refine Ev.rewritten cY _ (fun l' _=>hfl) hnn (fun k hk hne=> ?_) ?_ rfl rfl rfl
     ·exact (y5j _ _ _ _ _ _ _ hk).trans (As (hne l e))
     ·show _≤(((Go.Sort.ahead w q).heap.modify _ _)++os).size;simp only [BM,Ci];exact BC _ _
   | slan=>
    have hI0:I=[]:=List.eq_nil_of_length_eq_zero hIl;have hL0:L=[]:=List.eq_nil_of_length_eq_zero hLl;refine (hN none 0 _ w).mono fun e' w' ⟨he,hw'⟩=>⟨_,he,?_,?_,?_⟩
    ·exact .tup [] #[] rfl fun i h1 h2=>absurd h1 (AM _)
    ·subst hw';refine cY.reblk hm fun l hρ hbk=> ?_;obtain ⟨har,fB,_⟩:=hbk.arr _ rfl;have har:cells=rows 0 get.get:=har;subst har;exact ⟨hbk.n,hbk.tot,fun B hB=>by obtain rfl:=Af hB;exact ⟨rfl,hw0,fun i hi=>absurd hi (AM _)⟩,hbk.cells⟩
    ·subst hw';exact Ev.rewritten cY _ (fun l' _=>hfl) hnn (fun _ _ _=>rfl) (An _) rfl rfl rfl
  ·cases h
 ·cases h
end
def Specs.withE (S:Specs) (f:FuncId) (F:List AVal→Mem→Option (AVal×Nat×ABlk×Bool)):Specs:=fun g=>bif Nat.beq g f then some (.eff F) else S g
theorem y9w {P:Program} {S:Specs} (hS:Zu P S) {f:FuncId} {F:List AVal→Mem→Option (AVal×Nat×ABlk×Bool)} (hf:(P.funcs[f]?).any (fun fn=>fn.body.isSome)=true) (hF:x5v P f F):Zu P (S.withE f F):=by
 intro g G hg;unfold Specs.withE at hg;cases hgf:Nat.beq g f with
 | false=>rw [hgf] at hg;exact hS g G hg
 | true=>
  rw [hgf] at hg;obtain rfl:Spec.eff F=G:=Af hg;obtain rfl:g=f:=Aj hgf;refine ⟨?_,hF⟩;cases hfn:P.funcs[g]? with
  | none=>rw [hfn] at hf;cases hf
  | some fn=>rw [hfn] at hf;exact ⟨fn,rfl,hf⟩
end Go.Am
namespace Go.Proofs
open Go.Proofs.Tryz
open Go.Shelf
def Tryz.lays189_ren :Go.Shelf.Ren:=⟨fun | 189=>63 | 125=>117 | 257=>116 | 128=>152 | 129=>153 | 294=>143 | 295=>144 | 296=>145 | 297=>146 | 298=>147 | 299=>148 | 216=>149 | 300=>150 | 301=>151 | 328=>176 | 329=>177 | 330=>178 | 331=>179 | 332=>180 | 215=>181 | 343=>194 | n=>n,fun | 28=>93 | 3=>3 | 46=>147 | 0=>0 | 51=>194 | 53=>196 | 4=>4 | 183=>186 | 182=>185 | 131=>191 | 5=>5 | 9=>9 | 218=>224 | 222=>228 | 228=>239 | 229=>91 | n=>n,fun | n=>n⟩
theorem Tryz.lays189 :Go.Proofs.Lays.n189 prog Tryz.lays189_ren:={
 mixed:=by kernel_rfl
 f125:=Tryz.func117.trans (congrArg some (by kernel_rfl))
 f128:=Tryz.func152.trans (congrArg some (by kernel_rfl))
 f129:=Tryz.func153.trans (congrArg some (by kernel_rfl))
 f189:=Tryz.func63.trans (congrArg some (by kernel_rfl))
 f215:=Tryz.func181.trans (congrArg some (by kernel_rfl))
 f216:=Tryz.func149.trans (congrArg some (by kernel_rfl))
 f257:=Tryz.func116.trans (congrArg some (by kernel_rfl))
 f294:=Tryz.func143.trans (congrArg some (by kernel_rfl))
 f295:=Tryz.func144.trans (congrArg some (by kernel_rfl))
 f296:=Tryz.func145.trans (congrArg some (by kernel_rfl))
 f297:=Tryz.func146.trans (congrArg some (by kernel_rfl))
 f298:=Tryz.func147.trans (congrArg some (by kernel_rfl))
 f299:=Tryz.func148.trans (congrArg some (by kernel_rfl))
 f300:=Tryz.func150.trans (congrArg some (by kernel_rfl))
 f301:=Tryz.func151.trans (congrArg some (by kernel_rfl))
 f328:=Tryz.func176.trans (congrArg some (by kernel_rfl))
 f329:=Tryz.func177.trans (congrArg some (by kernel_rfl))
 f330:=Tryz.func178.trans (congrArg some (by kernel_rfl))
 f331:=Tryz.func179.trans (congrArg some (by kernel_rfl))
 f332:=Tryz.func180.trans (congrArg some (by kernel_rfl))
 f343:=Tryz.func194.trans (congrArg some (by kernel_rfl))
 t0:=Tryz.underlying0
 a0:=Tryz.isAgg0
 z0:=Tryz.sizeOf0
 v0:=Tryz.zeroValue0
 t3:=Tryz.underlying3
 a3:=Tryz.isAgg3
 z3:=Tryz.sizeOf3
 v3:=Tryz.zeroValue3
 t4:=Tryz.underlying4
 a4:=Tryz.isAgg4
 z4:=Tryz.sizeOf4
 v4:=Tryz.zeroValue4
 t5:=Tryz.underlying5
 a5:=Tryz.isAgg5
 z5:=Tryz.sizeOf5
 v5:=Tryz.zeroValue5
 t9:=Tryz.underlying9
 a9:=Tryz.isAgg9
 z9:=Tryz.sizeOf9
 v9:=Tryz.zeroValue9
 t28:=Tryz.underlying93
 a28:=Tryz.isAgg93
 z28:=Tryz.sizeOf93
 v28:=Tryz.zeroValue93
 t46:=Tryz.underlying147
 a46:=Tryz.isAgg147
 z46:=Tryz.sizeOf147
 v46:=Tryz.zeroValue147
 t51:=Tryz.underlying194
 a51:=Tryz.isAgg194
 z51:=Tryz.sizeOf194
 v51:=Tryz.zeroValue194
 t53:=Tryz.underlying196
 a53:=Tryz.isAgg196
 z53:=Tryz.sizeOf196
 v53:=Tryz.zeroValue196
 t131:=Tryz.underlying191
 a131:=Tryz.isAgg191
 z131:=Tryz.sizeOf191
 v131:=Tryz.zeroValue191
 t182:=Tryz.underlying185
 a182:=Tryz.isAgg185
 z182:=Tryz.sizeOf185
 v182:=Tryz.zeroValue185
 t183:=Tryz.underlying186
 a183:=Tryz.isAgg186
 z183:=Tryz.sizeOf186
 v183:=Tryz.zeroValue186
 t218:=Tryz.underlying224
 a218:=Tryz.isAgg224
 z218:=Tryz.sizeOf224
 v218:=Tryz.zeroValue224
 t222:=Tryz.underlying228
 a222:=Tryz.isAgg228
 z222:=Tryz.sizeOf228
 v222:=Tryz.zeroValue228
 t228:=Tryz.underlying239
 a228:=Tryz.isAgg239
 z228:=Tryz.sizeOf239
 v228:=Tryz.zeroValue239
 t229:=Tryz.underlying91
 a229:=Tryz.isAgg91
 z229:=Tryz.sizeOf91
 v229:=Tryz.zeroValue91}
open Go.Sort Go.RowKit in
theorem Tryz.slices_Sort_int (blk off cap:Nat) (zs:List Int) (w:World) (hH:Holds (Value.int .i64) w blk off zs.toArray) (eL:blk<w.heap.size) (hsz:zs.length<4611686018427387904):
  Calls prog 63 #[.slice (some ⟨blk,off,none⟩) zs.length cap] w fun e w'=>
   e=.returned (.tuple #[])∧ ∃n os,w'=grow (putRow (Value.int .i64) (Sort.ahead w n) blk off (zs.mergeSort fun x y=>decide (x≤y)).toArray) os:=Any.slices_Sort_int Tryz.lays189 blk off cap zs w hH eL hsz
def Tryz.laysNm220_ren :Go.Shelf.Ren:=⟨fun | 20=>64 | n=>n,fun | 22=>93 | 3=>3 | 4=>4 | 0=>0 | n=>n,fun | n=>n⟩
theorem Tryz.laysNm220 :Go.Proofs.Lays2.n20 prog Tryz.laysNm220_ren:={
 mixed:=by kernel_rfl
 f20:=Tryz.func64.trans (congrArg some (by kernel_rfl))
 t0:=Tryz.underlying0
 a0:=Tryz.isAgg0
 z0:=Tryz.sizeOf0
 v0:=Tryz.zeroValue0
 t3:=Tryz.underlying3
 a3:=Tryz.isAgg3
 z3:=Tryz.sizeOf3
 v3:=Tryz.zeroValue3
 t4:=Tryz.underlying4
 a4:=Tryz.isAgg4
 z4:=Tryz.sizeOf4
 v4:=Tryz.zeroValue4
 t22:=Tryz.underlying93
 a22:=Tryz.isAgg93
 z22:=Tryz.sizeOf93
 v22:=Tryz.zeroValue93
 i3:=by kernel_rfl}
open Go.RowKit Go.Lib Go.Sort in
theorem Tryz.slices_Compact_int (blk off cap:Nat) (zs:List Int) (w:World) (hH:Holds (Value.int .i64) w blk off zs.toArray) (hsz:zs.length≤9223372036854775807) (dE:zs.length≤cap):
  Calls prog 64 #[.slice (some ⟨blk,off,none⟩) zs.length cap] w fun e w'=>e=.returned (.slice (some ⟨blk,off,none⟩) (Lib.compact zs).length cap)∧ ∃q,w'=putRow (Value.int .i64) (Sort.ahead w q) blk off (Lib.compact zs++List.replicate (zs.length - (Lib.compact zs).length) 0).toArray :=Any.slices_Compact_int Tryz.laysNm220 blk off cap zs w hH hsz dE
open Go.RowKit Go.Lib Go.Sort in
theorem Tryz.slices_Compact_int_empty (a:Option Addr) (cap:Nat) (w:World):
  Calls prog 64 #[.slice a 0 cap] w fun e w'=>e=.returned (.slice a 0 cap)∧w'=w:=Any.slices_Compact_int_empty Tryz.laysNm220 a cap w
open Go.RowKit Go.Sort in
theorem Tryz.slices_Sort_int_none (p:Option Addr) (cap:Nat) (w:World):
  Calls prog 63 #[.slice p 0 cap] w fun e w'=>e=.returned (.tuple #[])∧w'=w:=Any.slices_Sort_int_none Tryz.lays189 p cap w
def Tryz.sortEnd_ren :Go.Shelf.Ren:=⟨fun | 6=>200 | 15=>117 | 14=>204 | 28=>152 | 29=>153 | 20=>206 | 21=>207 | 22=>208 | 23=>209 | 24=>210 | 25=>211 | 26=>212 | 27=>213 | 46=>214 | 47=>177 | 48=>178 | 49=>215 | 50=>216 | 57=>217 | n=>n,fun | 22=>248 | 24=>246 | 25=>250 | 3=>3 | 39=>147 | 0=>0 | 53=>194 | 55=>196 | 4=>4 | 46=>186 | 45=>185 | 50=>191 | 5=>5 | 9=>9 | 66=>224 | 70=>228 | 76=>239 | 77=>91 | n=>n,fun | n=>n⟩
theorem Tryz.sortEnd :Go.Proofs.SlLaysF0.n6 prog Tryz.sortEnd_ren:={
 mixed:=by kernel_rfl
 f6:=⟨Tryz.f200.name,by decide,Tryz.func200.trans (congrArg some (by kernel_rfl))⟩
 f14:=⟨Tryz.f204.name,by decide,Tryz.func204.trans (congrArg some (by kernel_rfl))⟩
 f15:=Tryz.func117.trans (congrArg some (by kernel_rfl))
 f20:=⟨Tryz.f206.name,by decide,Tryz.func206.trans (congrArg some (by kernel_rfl))⟩
 f21:=⟨Tryz.f207.name,by decide,Tryz.func207.trans (congrArg some (by kernel_rfl))⟩
 f22:=⟨Tryz.f208.name,by decide,Tryz.func208.trans (congrArg some (by kernel_rfl))⟩
 f23:=⟨Tryz.f209.name,by decide,Tryz.func209.trans (congrArg some (by kernel_rfl))⟩
 f24:=⟨Tryz.f210.name,by decide,Tryz.func210.trans (congrArg some (by kernel_rfl))⟩
 f25:=⟨Tryz.f211.name,by decide,Tryz.func211.trans (congrArg some (by kernel_rfl))⟩
 f26:=⟨Tryz.f212.name,by decide,Tryz.func212.trans (congrArg some (by kernel_rfl))⟩
 f27:=⟨Tryz.f213.name,by decide,Tryz.func213.trans (congrArg some (by kernel_rfl))⟩
 f28:=Tryz.func152.trans (congrArg some (by kernel_rfl))
 f29:=Tryz.func153.trans (congrArg some (by kernel_rfl))
 f46:=⟨Tryz.f214.name,by decide,Tryz.func214.trans (congrArg some (by kernel_rfl))⟩
 f47:=Tryz.func177.trans (congrArg some (by kernel_rfl))
 f48:=Tryz.func178.trans (congrArg some (by kernel_rfl))
 f49:=⟨Tryz.f215.name,by decide,Tryz.func215.trans (congrArg some (by kernel_rfl))⟩
 f50:=⟨Tryz.f216.name,by decide,Tryz.func216.trans (congrArg some (by kernel_rfl))⟩
 f57:=⟨Tryz.f217.name,by decide,Tryz.func217.trans (congrArg some (by kernel_rfl))⟩
 t0:=Tryz.underlying0
 a0:=Tryz.isAgg0
 z0:=Tryz.sizeOf0
 v0:=Tryz.zeroValue0
 t3:=Tryz.underlying3
 a3:=Tryz.isAgg3
 z3:=Tryz.sizeOf3
 v3:=Tryz.zeroValue3
 t4:=Tryz.underlying4
 a4:=Tryz.isAgg4
 z4:=Tryz.sizeOf4
 v4:=Tryz.zeroValue4
 t5:=Tryz.underlying5
 a5:=Tryz.isAgg5
 z5:=Tryz.sizeOf5
 v5:=Tryz.zeroValue5
 t9:=Tryz.underlying9
 a9:=Tryz.isAgg9
 z9:=Tryz.sizeOf9
 v9:=Tryz.zeroValue9
 t22:=Tryz.underlying248
 a22:=Tryz.isAgg248
 z22:=Tryz.sizeOf248
 v22:=Tryz.zeroValue248
 t25:=Tryz.underlying250
 a25:=Tryz.isAgg250
 z25:=Tryz.sizeOf250
 v25:=Tryz.zeroValue250
 t39:=Tryz.underlying147
 a39:=Tryz.isAgg147
 z39:=Tryz.sizeOf147
 v39:=Tryz.zeroValue147
 t45:=Tryz.underlying185
 a45:=Tryz.isAgg185
 z45:=Tryz.sizeOf185
 v45:=Tryz.zeroValue185
 t46:=Tryz.underlying186
 a46:=Tryz.isAgg186
 z46:=Tryz.sizeOf186
 v46:=Tryz.zeroValue186
 t50:=Tryz.underlying191
 a50:=Tryz.isAgg191
 z50:=Tryz.sizeOf191
 v50:=Tryz.zeroValue191
 t53:=Tryz.underlying194
 a53:=Tryz.isAgg194
 z53:=Tryz.sizeOf194
 v53:=Tryz.zeroValue194
 t55:=Tryz.underlying196
 a55:=Tryz.isAgg196
 z55:=Tryz.sizeOf196
 v55:=Tryz.zeroValue196
 t66:=Tryz.underlying224
 a66:=Tryz.isAgg224
 z66:=Tryz.sizeOf224
 v66:=Tryz.zeroValue224
 t70:=Tryz.underlying228
 a70:=Tryz.isAgg228
 z70:=Tryz.sizeOf228
 v70:=Tryz.zeroValue228
 t76:=Tryz.underlying239
 a76:=Tryz.isAgg239
 z76:=Tryz.sizeOf239
 v76:=Tryz.zeroValue239
 t77:=Tryz.underlying91
 a77:=Tryz.isAgg91
 z77:=Tryz.sizeOf91
 v77:=Tryz.zeroValue91}
open Go.RowKit Go.Lib Go.Sort
theorem Tryz.cmpEnd (a b c a' b' c':Int) (h: -1000000000≤a∧a≤1000000000) (h': -1000000000≤a'∧a'≤1000000000) (W:World):
  Calls prog 201 #[.agg #[.int .i64 a,.int .i64 b,.int .i64 c],.agg #[.int .i64 a',.int .i64 b',.int .i64 c']] W fun e w'=>e=.returned (.int .i64 (a - a'))∧ ∃q os',w'=grow (W.drewN q) os':=by
 go_enter Tryz.func201,Tryz.ntmps201
 go_wp2
 go_ret
 exact ⟨rfl,0,_,by rw [alloc_eq_grow,alloc_eq_grow,grow_grow];rfl⟩
end Go.Proofs
namespace Go.Am
open IntKind (wrap)
open Go.Proofs.Tryz
open Go.Proofs
inductive rjsS where
 | h0 (v9:List R6) (v10:List R4) (v11:Int) (v12:Int)
 | h1 (v9:List R6) (v10:List R4) (v11:Int) (v12:Int) (v13:List R4) (v15:Int)
 | h2 (v9:List R6) (v10:List R4) (v11:Int) (v12:Int) (v14:Int)
abbrev w1z (l1:List R6) (l2:List R6) (v12:Int):=(rd (Vy (cvT l1) (cvT l2)) (tn v12))
abbrev y8c (v9:List R6) (v14:Int) (l1:List R6) (l2:List R6) (v12:Int):=(v9.set (0+(tn v14)) (R6.mk (rd v9 (0+(tn v14))).a (rd v9 (0+(tn v14))).b (rd v9 (0+(tn v14))).c (rd v9 (0+(tn v14))).d (rd v9 (0+(tn v14))).e (rd (Vy (cvT l1) (cvT l2)) (tn (wr (v12+1))))))
abbrev y8b (v9:List R6) (v13:List R4) (v15:Int) (l1:List R6) (l2:List R6) (v12:Int):=(v9++[(R6.mk (rd v13 (tn v15)).a (rd v13 (tn v15)).b (w1z l1 l2 v12) (rd v13 (tn v15)).c (rd v13 (tn v15)).d (rd (Vy (cvT l1) (cvT l2)) (tn (wr (v12+1)))))])
abbrev Vk (l1:List R6) (l2:List R6) (v12:Int):=(atV (cvT l1) (w1z l1 l2 v12))
abbrev Uw (l2:List R6) (l1:List R6) (v12:Int):=(atV (cvT l2) (w1z l1 l2 v12))
abbrev u3y (v9:List R6) (v13:List R4) (v15:Int) (l1:List R6) (l2:List R6) (v12:Int):=(Ze (Zz v9) 0 v9.length 6 [(ii (rd v13 (tn v15)).a),(ii (rd v13 (tn v15)).b),(ii (w1z l1 l2 v12)),(ii (rd v13 (tn v15)).c),(ii (rd v13 (tn v15)).d),(ii (rd (Vy (cvT l1) (cvT l2)) (tn (wr (v12+1)))))])
def v0u (l1:List R6) (l2:List R6):AVal:=(.dat (Vy (cvT l1) (cvT l2)).length (Zz (Vy (cvT l1) (cvT l2))))
def rjsC (x0:Int) (l1:List R6) (l2:List R6):rjsS→Cfg
 | .h0 v9 v10 v11 v12=>⟨⟨137,0,true⟩,none,(Zb prog 72 [1,1,1,1,1,0,1,0,0] 0),none,(Zy prog 32),⟨Ya [(0,(ii x0)),(1,(.dat l1.length (Zz l1))),(2,(.dat l2.length (Zz l2))),(8,(v0u l1 l2)),(9,(.sla 0 6 0 v9.length (.un 6))),(10,(.dat v10.length (Zz v10))),(11,(ii v11)),(12,(ii v12))],Wr [⟨rows v9.length (Zz v9),67,some ⟨6,v9.length,(Zz v9)⟩⟩] 0,1,[],true⟩,[],.leaf⟩
 | .h1 v9 v10 v11 v12 v13 v15=>⟨⟨137,0,true⟩,none,(Zb prog 72 [1,1,1,1,1,0,1,0,0,1,0,0,1,1,1,1,1,0,0] 0),none,(Zy prog 32),⟨Ya [(0,(ii x0)),(1,(.dat l1.length (Zz l1))),(2,(.dat l2.length (Zz l2))),(8,(v0u l1 l2)),(9,(.sla 0 6 0 v9.length (.un 6))),(10,(.dat v10.length (Zz v10))),(11,(ii v11)),(12,(ii v12)),(13,(.dat v13.length (Zz v13))),(15,(ii v15))],Wr [⟨rows v9.length (Zz v9),67,some ⟨6,v9.length,(Zz v9)⟩⟩] 0,1,[],true⟩,[],.leaf⟩
 | .h2 v9 v10 v11 v12 v14=>⟨⟨137,0,true⟩,none,(Zb prog 72 [1,1,1,1,1,0,1,0,0,1,0,0,1,1,0,1,0,0,1,0,0] 0),none,(Zy prog 32),⟨Ya [(0,(ii x0)),(1,(.dat l1.length (Zz l1))),(2,(.dat l2.length (Zz l2))),(8,(v0u l1 l2)),(9,(.sla 0 6 0 v9.length (.un 6))),(10,(.dat v10.length (Zz v10))),(11,(ii v11)),(12,(ii v12)),(14,(ii v14))],Wr [⟨rows v9.length (Zz v9),67,some ⟨6,v9.length,(Zz v9)⟩⟩] 0,1,[],true⟩,[],.leaf⟩
def u9d :List (Option (List Nat)):=[some [0,1,2,8,9,10,11,12]]
def u9f :List (Option (List Nat)):=[]
def u9c :List (Option (List Nat)):=[some [0,1,2,8,9,10,11,12,13,15]]
def u9e :List (Option (List Nat)):=[]
def rjsN2 :List (Option (List Nat)):=[some [0,1,2,8,9,10,11,12,14]]
def rjsM2 :List (Option (List Nat)):=[]
def Vb (x0:Int) (l1:List R6) (l2:List R6):rjsS→Xv rjsS
 | .h0 v9 v10 v11 v12=>(bif (decide ((wrap .i64 (v12+1))<(((Vy (cvT l1) (cvT l2)).length :Nat):Int))) then (bif (z5h (cvT l1) (rd (Vy (cvT l1) (cvT l2)) v12.toNat)) then (bif ((decide (0≤v12∧v12<(((Vy (cvT l1) (cvT l2)).length :Nat):Int)))&&true) then (bif (z5h (cvT l2) (rd (Vy (cvT l1) (cvT l2)) v12.toNat)) then (bif (Jg x0 (cvT (atV (cvT l1) (rd (Vy (cvT l1) (cvT l2)) v12.toNat))) (cvT (atV (cvT l2) (rd (Vy (cvT l1) (cvT l2)) v12.toNat)))) then (bif (decide ((((joV x0 (cvT (atV (cvT l1) (rd (Vy (cvT l1) (cvT l2)) v12.toNat))) (cvT (atV (cvT l2) (rd (Vy (cvT l1) (cvT l2)) v12.toNat)))).length :Nat):Int)>400)) then (.ret [.nils,(.bool false)]) else (bif (Jg 2 (cvT (atV (cvT l1) (rd (Vy (cvT l1) (cvT l2)) v12.toNat))) ([]:List R4)) then (bif (decide ((((joV 2 (cvT (atV (cvT l1) (rd (Vy (cvT l1) (cvT l2)) v12.toNat))) ([]:List R4)).length :Nat):Int)>400)) then (.ret [.nils,(.bool false)]) else (bif (Jg 2 (cvT (atV (cvT l2) (rd (Vy (cvT l1) (cvT l2)) v12.toNat))) ([]:List R4)) then (bif (decide ((((joV 2 (cvT (atV (cvT l2) (rd (Vy (cvT l1) (cvT l2)) v12.toNat))) ([]:List R4)).length :Nat):Int)>400)) then (.ret [.nils,(.bool false)]) else (bif (decide (v12>0)) then (bif (Wp (cvT (joV x0 (cvT (atV (cvT l1) (rd (Vy (cvT l1) (cvT l2)) v12.toNat))) (cvT (atV (cvT l2) (rd (Vy (cvT l1) (cvT l2)) v12.toNat))))) (cvT v10)) then (bif (Us (cvT (joV x0 (cvT (atV (cvT l1) (rd (Vy (cvT l1) (cvT l2)) v12.toNat))) (cvT (atV (cvT l2) (rd (Vy (cvT l1) (cvT l2)) v12.toNat))))) (cvT v10)) then (.to (.h2 v9 v10 v11 v12 v11)) else (.to (.h1 v9 (joV x0 (cvT (atV (cvT l1) (rd (Vy (cvT l1) (cvT l2)) v12.toNat))) (cvT (atV (cvT l2) (rd (Vy (cvT l1) (cvT l2)) v12.toNat)))) (v9.length:Int) v12 (joV x0 (cvT (atV (cvT l1) (rd (Vy (cvT l1) (cvT l2)) v12.toNat))) (cvT (atV (cvT l2) (rd (Vy (cvT l1) (cvT l2)) v12.toNat)))) 0))) else .stuck) else (.to (.h1 v9 (joV x0 (cvT (atV (cvT l1) (rd (Vy (cvT l1) (cvT l2)) v12.toNat))) (cvT (atV (cvT l2) (rd (Vy (cvT l1) (cvT l2)) v12.toNat)))) (v9.length:Int) v12 (joV x0 (cvT (atV (cvT l1) (rd (Vy (cvT l1) (cvT l2)) v12.toNat))) (cvT (atV (cvT l2) (rd (Vy (cvT l1) (cvT l2)) v12.toNat)))) 0)))) else .stuck)) else .stuck)) else .stuck) else .stuck) else .stuck) else .stuck) else (.ret [(.dat v9.length (Zz v9)),(.bool (decide ((v9.length:Int)≤400)))]))
 | .h1 v9 v10 v11 v12 v13 v15=>(bif (decide (v15<(v13.length:Int))) then (bif ((decide (0≤v12∧v12<(((Vy (cvT l1) (cvT l2)).length :Nat):Int)))&&true) then (bif ((decide (0≤v15∧v15<(v13.length:Int)))&&true) then (bif ((decide (0≤(wrap .i64 (v12+1))∧(wrap .i64 (v12+1))<(((Vy (cvT l1) (cvT l2)).length :Nat):Int)))&&true) then (bif (Nat.beq 6 6&&((decide (0+v9.length=v9.length))&&decide ((v9.length+1+1)*(48+1)≤Uj))) then (.to (.h1 (v9++[(R6.mk (rd v13 v15.toNat).a (rd v13 v15.toNat).b (rd (Vy (cvT l1) (cvT l2)) v12.toNat) (rd v13 v15.toNat).c (rd v13 v15.toNat).d (rd (Vy (cvT l1) (cvT l2)) (Int.toNat (wrap .i64 (v12+1)))))]) v10 v11 v12 v13 (wrap .i64 (v15+1)))) else .stuck) else .stuck) else .stuck) else .stuck) else (.to (.h0 v9 v10 v11 (wrap .i64 (v12+1)))))
 | .h2 v9 v10 v11 v12 v14=>(bif (decide (v14<(v9.length:Int))) then (bif ((decide (0≤(wrap .i64 (v12+1))∧(wrap .i64 (v12+1))<(((Vy (cvT l1) (cvT l2)).length :Nat):Int)))&&true) then (bif ((decide (0≤v14∧v14<(v9.length:Int)))&&true) then (bif (decide ((0+v14.toNat)<v9.length)) then (.to (.h2 (v9.set (0+v14.toNat) (R6.mk (rd v9 (0+v14.toNat)).a (rd v9 (0+v14.toNat)).b (rd v9 (0+v14.toNat)).c (rd v9 (0+v14.toNat)).d (rd v9 (0+v14.toNat)).e (rd (Vy (cvT l1) (cvT l2)) (Int.toNat (wrap .i64 (v12+1)))))) v10 v11 v12 (wrap .i64 (v14+1)))) else .stuck) else .stuck) else .stuck) else (.to (.h0 v9 v10 v11 (wrap .i64 (v12+1)))))
def y2l (x0:Int) (l1:List R6) (l2:List R6):Xv rjsS:=(bif (z8q (cvT l1) (cvT l2)) then (.to (.h0 ([]:List R6) ([]:List R4) 0 0)) else .stuck)
theorem w5s (x0:Int) (l1:List R6) (l2:List R6): ∀s,Ys prog (Zy prog 72) (rjsC x0 l1 l2) (rjsC x0 l1 l2 s) (Vb x0 l1 l2 s)
 | .h0 v9 v10 v11 v12=>(lb (fun k0=>(lo fun aF=>(lo fun aR=>(lo fun bV=>(lo fun cJ=>(lb (fun k1=>(lr 137 72 [1,1,1,1,1,0,1,0,0,1,0,0,1,0,1,0,0] 1 32 [(6,.nils),(7,(.bool false))] (sl y0h 50 [] ⟨[],[],[some [6,7]],[]⟩ ⟨[],[],[]⟩ (trs 20 []) (tt k1 (pp (pp (xI R4 (Vk l1 l2 v12).length (Zz (Vk l1 l2 v12))) (pp (xI R4 (Uw l2 l1 v12).length (Zz (Uw l2 l1 v12))) (xw cJ))) (pp (pp (xr l2) (xw bV)) (ww aR (pp (pp (xr l1) (xw aF)) (ww aR (tt k0 nn)))))))))) (fun k1=>(lo fun cA=>(lb (fun k2=>(lr 137 72 [1,1,1,1,1,0,1,0,0,1,0,0,1,0,1,0,0] 1 32 [(6,.nils),(7,(.bool false))] (sl y0h 50 [] ⟨[],[],[some [6,7]],[]⟩ ⟨[],[],[]⟩ (bl 20 1047553) (tt k2 (pp (pp (xI R4 (Vk l1 l2 v12).length (Zz (Vk l1 l2 v12))) (pp (xI R4 0 (fun _=>[])) (xw cA))) (pp (pp (xr l1) (xw aF)) (ww aR (tt k1 (pp (pp (xI R4 (Vk l1 l2 v12).length (Zz (Vk l1 l2 v12))) (pp (xI R4 (Uw l2 l1 v12).length (Zz (Uw l2 l1 v12))) (xw cJ))) (pp (pp (xr l2) (xw bV)) (ww aR (pp (pp (xr l1) (xw aF)) (ww aR (tt k0 nn)))))))))))))) (fun k2=>(lo fun cC=>(lb (fun k3=>(lr 137 72 [1,1,1,1,1,0,1,0,0,1,0,0,1,0,1,0,0] 1 32 [(6,.nils),(7,(.bool false))] (sl y0h 50 [] ⟨[],[],[some [6,7]],[]⟩ ⟨[],[],[]⟩ (bl 20 524289) (tt k3 (pp (pp (xI R4 (Uw l2 l1 v12).length (Zz (Uw l2 l1 v12))) (pp (xI R4 0 (fun _=>[])) (xw cC))) (pp (pp (xr l2) (xw bV)) (ww aR (tt k2 (pp (pp (xI R4 (Vk l1 l2 v12).length (Zz (Vk l1 l2 v12))) (pp (xI R4 0 (fun _=>[])) (xw cA))) (pp (pp (xr l1) (xw aF)) (ww aR (tt k1 (pp (pp (xI R4 (Vk l1 l2 v12).length (Zz (Vk l1 l2 v12))) (pp (xI R4 (Uw l2 l1 v12).length (Zz (Uw l2 l1 v12))) (xw cJ))) (pp (pp (xr l2) (xw bV)) (ww aR (pp (pp (xr l1) (xw aF)) (ww aR (tt k0 nn)))))))))))))))))) (fun k3=>(lb (fun k4=>(lo fun cQ=>(lb (fun k5=>(sl y0h 66 [] ⟨[0],[],rjsN2,rjsM2⟩ ⟨[],[],[]⟩ (bl 24 15728641) (pp (fl v9 nn) (tt k5 (pp (pp (xI R4 (joV x0 (cvT (Vk l1 l2 v12)) (cvT (Uw l2 l1 v12))).length (Zz (joV x0 (cvT (Vk l1 l2 v12)) (cvT (Uw l2 l1 v12))))) (pp (xr v10) (xw cQ))) (tt k4 (tt k3 (pp (pp (xI R4 (Uw l2 l1 v12).length (Zz (Uw l2 l1 v12))) (pp (xI R4 0 (fun _=>[])) (xw cC))) (pp (pp (xr l2) (xw bV)) (ww aR (tt k2 (pp (pp (xI R4 (Vk l1 l2 v12).length (Zz (Vk l1 l2 v12))) (pp (xI R4 0 (fun _=>[])) (xw cA))) (pp (pp (xr l1) (xw aF)) (ww aR (tt k1 (pp (pp (xI R4 (Vk l1 l2 v12).length (Zz (Vk l1 l2 v12))) (pp (xI R4 (Uw l2 l1 v12).length (Zz (Uw l2 l1 v12))) (xw cJ))) (pp (pp (xr l2) (xw bV)) (ww aR (pp (pp (xr l1) (xw aF)) (ww aR (tt k0 nn))))))))))))))))))))) (fun k5=>(sl y0h 73 [] ⟨[0],[],u9c,u9e⟩ ⟨[],[],[]⟩ (bl 24 7340033) (pp (fl v9 nn) (tt k5 (pp (pp (xI R4 (joV x0 (cvT (Vk l1 l2 v12)) (cvT (Uw l2 l1 v12))).length (Zz (joV x0 (cvT (Vk l1 l2 v12)) (cvT (Uw l2 l1 v12))))) (pp (xr v10) (xw cQ))) (tt k4 (tt k3 (pp (pp (xI R4 (Uw l2 l1 v12).length (Zz (Uw l2 l1 v12))) (pp (xI R4 0 (fun _=>[])) (xw cC))) (pp (pp (xr l2) (xw bV)) (ww aR (tt k2 (pp (pp (xI R4 (Vk l1 l2 v12).length (Zz (Vk l1 l2 v12))) (pp (xI R4 0 (fun _=>[])) (xw cA))) (pp (pp (xr l1) (xw aF)) (ww aR (tt k1 (pp (pp (xI R4 (Vk l1 l2 v12).length (Zz (Vk l1 l2 v12))) (pp (xI R4 (Uw l2 l1 v12).length (Zz (Uw l2 l1 v12))) (xw cJ))) (pp (pp (xr l2) (xw bV)) (ww aR (pp (pp (xr l1) (xw aF)) (ww aR (tt k0 nn)))))))))))))))))))))))) (fun k4=>(sl y0h 73 [] ⟨[0],[],u9c,u9e⟩ ⟨[],[],[]⟩ (bl 24 1) (pp (fl v9 nn) (tt k4 (tt k3 (pp (pp (xI R4 (Uw l2 l1 v12).length (Zz (Uw l2 l1 v12))) (pp (xI R4 0 (fun _=>[])) (xw cC))) (pp (pp (xr l2) (xw bV)) (ww aR (tt k2 (pp (pp (xI R4 (Vk l1 l2 v12).length (Zz (Vk l1 l2 v12))) (pp (xI R4 0 (fun _=>[])) (xw cA))) (pp (pp (xr l1) (xw aF)) (ww aR (tt k1 (pp (pp (xI R4 (Vk l1 l2 v12).length (Zz (Vk l1 l2 v12))) (pp (xI R4 (Uw l2 l1 v12).length (Zz (Uw l2 l1 v12))) (xw cJ))) (pp (pp (xr l2) (xw bV)) (ww aR (pp (pp (xr l1) (xw aF)) (ww aR (tt k0 nn))))))))))))))))))))))))))))))))) (fun k0=>(lr 137 3 [1,1,1,1,1,1,1,0] 1 32 [(6,(.dat v9.length (Zz v9))),(7,(.bool (decide ((v9.length:Int)≤400))))] (sl y0h 20 [] ⟨[],[0],[some [6,7]],[]⟩ ⟨[(6,.frz v9.length v9.length (Zz v9) (Zz v9))],[],[]⟩ [false] (pp (xZ (z3k 6 6 0 v9.length v9.length (Zz v9)) v9.length (Zz v9)) (pp (xL v9.length v9.length) (pp (xS v9.length (Zz v9) (Zz v9)) (pp (fl v9 nn) (tt k0 nn)))))))))
 | .h1 v9 v10 v11 v12 v13 v15=>(lb (fun k0=>(lo fun o0=>(lo fun o1=>(lo fun o2=>(lo fun o3=>(sl y0h 20 [] ⟨[2],[],u9c,u9e⟩ ⟨[(9,.len (y8b v9 v13 v15 l1 l2 v12).length)],[.rowed 6 (y8b v9 v13 v15 l1 l2 v12).length (Zz (y8b v9 v13 v15 l1 l2 v12))],[]⟩ [true] (pp (xL (v9.length+1) (y8b v9 v13 v15 l1 l2 v12).length) (pp (xL (v9.length+1) (y8b v9 v13 v15 l1 l2 v12).length) (pp (xS (v9.length+1) (u3y v9 v13 v15 l1 l2 v12) (Zz (y8b v9 v13 v15 l1 l2 v12))) (pp (pp (xF (u3y v9 v13 v15 l1 l2 v12)) nn) (ww o3 (ww o2 (ww o1 (ww o1 (ww o0 (ww o1 (ww o1 (tt k0 nn)))))))))))))))))) (fun k0=>(sl y0h 17 [] ⟨[0],[],u9d,u9f⟩ ⟨[],[],[]⟩ [false] (pp (fl v9 nn) (tt k0 nn)))))
 | .h2 v9 v10 v11 v12 v14=>(lb (fun k0=>(lo fun o0=>(lo fun o1=>(lo fun o2=>(sl y0h 32 [] ⟨[0],[],rjsN2,rjsM2⟩ ⟨[(9,.len (y8c v9 v14 l1 l2 v12).length)],[.rowed 6 (y8c v9 v14 l1 l2 v12).length (Zz (y8c v9 v14 l1 l2 v12))],[]⟩ [true] (pp (xL v9.length (y8c v9 v14 l1 l2 v12).length) (pp (xL v9.length (y8c v9 v14 l1 l2 v12).length) (pp (xS v9.length (Xe (Zz v9) (0+(tn v14)) 5 [(ii (rd (Vy (cvT l1) (cvT l2)) (tn (wr (v12+1)))))]) (Zz (y8c v9 v14 l1 l2 v12))) (pp (pp (xF (Xe (Zz v9) (0+(tn v14)) 5 [(ii (rd (Vy (cvT l1) (cvT l2)) (tn (wr (v12+1)))))])) nn) (ww o2 (ww o1 (ww o0 (tt k0 nn))))))))))))) (fun k0=>(sl y0h 17 [] ⟨[0],[],u9d,u9f⟩ ⟨[],[],[]⟩ [false] (pp (fl v9 nn) (tt k0 nn)))))
theorem x7n (x0:Int) (l1:List R6) (l2:List R6):Ys prog (Zy prog 72) (rjsC x0 l1 l2) (Za prog 72 [(.int .i64 x0),(.dat l1.length (Zz l1)),(.dat l2.length (Zz l2))] true []) (y2l x0 l1 l2):=(lo fun o0=>(sl y0h 31 [(67,6,Zz ([]:List R6))] ⟨[0],[],u9d,u9f⟩ ⟨[(9,.grow 0 6),(10,.list 0 (Zz ([]:List R4)))],[],[]⟩ [] (pp (fl ([]:List R6) nn) (pp (pp (xr l1) (pp (xr l2) (xw o0))) nn))))
theorem v7t (x0:Int) (l1:List R6) (l2:List R6) (n:Nat) (vs:List AVal) (h:Zs (Vb x0 l1 l2) n (y2l x0 l1 l2)=.ret vs):Jw prog (Zy prog 72) (Za prog 72 [(.int .i64 x0),(.dat l1.length (Zz l1)),(.dat l2.length (Zz l2))] true []) vs:=by have:=Zc (w5s x0 l1 l2) n _ (x7n x0 l1 l2);rwa [h] at this
theorem Kf (l m:List R6):(Vy l m).length ≤2*l.length+2*m.length:=by refine AL (z5y _) ?_;rw [Ay,z0r,z0r];omega
theorem z2a (l:List R6) (z:Int):(atV l z).length ≤l.length:=by unfold atV;rw [AT];exact BO _ _
def v5x (out:List R6) (first:Nat) (z:Int):List R6:=out.take first++(out.drop first).map fun r=>⟨r.a,r.b,r.c,r.d,r.e,z⟩
def j0a (z z':Int) (s:List R4):List R6:=s.map fun p=>⟨p.a,p.b,z,p.c,p.d,z'⟩
section
variable (kind:Int) (l m:List R6)
def x2p (z:Int):List R4:=joV kind (atV l z) (atV m z)
def y1g (z:Int):Bool:=decide (400<(x2p kind l m z).length)||(decide (400<(joV 2 (atV l z) []).length)||decide (400<(joV 2 (atV m z) []).length))
def jsF :Nat→Nat→List R6→List R4→Nat→Option (List R6)
 | 0,_,out,_,_=>some out
 | k+1,i,out,last,first=>
  bif y1g kind l m (rd (Vy l m) i) then none
  else bif decide (0<i)&&Us (x2p kind l m (rd (Vy l m) i)) last then jsF k (i+1) (v5x out first (rd (Vy l m) (i+1))) last first
  else jsF k (i+1) (out++j0a (rd (Vy l m) i) (rd (Vy l m) (i+1)) (x2p kind l m (rd (Vy l m) i))) (x2p kind l m (rd (Vy l m) i)) out.length
def jsO :Option (List R6):=jsF kind l m ((Vy l m).length - 1) 0 [] [] 0
def x9j :Option (List R6)→List AVal
 | none=>[.nils,.bool false]
 | some out=>[.dat out.length (Zz out),.bool (decide ((out.length:Int)≤400))]
def z6m :List R6:=(jsO kind l m).getD []
def x4n :Bool:=match jsO kind l m with
 | none=>false
 | some out=>decide ((out.length:Int)≤400)
end
def y2y (_:Int) (l m:List R6):Bool:=decide (l.length≤5000∧m.length≤5000)
section
variable (kind:Int) (l m:List R6) (hl:l.length≤5000) (hm:m.length≤5000)
include hl hm
theorem u3x (last:List R4) (first:Int) (i:Nat) (hi:i+1<(Vy l m).length) (s:List R4) (hs:s.length≤1000000): ∀(k j:Nat) (out:List R6),j+k=s.length→out.length≤10000000000+j→
  ∃n,∀N,Zs (Vb kind l m) (N+n) (.to (.h1 out last first (i:Int) s (j:Int)))=Zs (Vb kind l m) N (.to (.h0 (out++j0a (rd (Vy l m) i) (rd (Vy l m) (i+1)) (s.drop j)) last first ((i+1:Nat):Int)))
 | 0,j,out,h,ho=>by have hx:=Kf l m;refine ⟨1,fun N=> ?_⟩;rw [Ar (by omega),Zv];simp (disch:=omega) only [Vb,Zm,Zq,Yz,Zk,Zx,Aa,j0a,A5,AB]
 | k+1,j,out,h,ho=>by
  have hx:=Kf l m;obtain ⟨n,hn⟩:=u3x last first i hi s hs k (j+1) (out++j0a (rd (Vy l m) i) (rd (Vy l m) (i+1)) [rd s j]) (by omega) (by simp [j0a];omega)
  refine ⟨n+1,fun N=> ?_⟩;have:=hn N;rw [Yx (show j<s.length by omega),←AC,Zv];simp (disch:=omega) only [Vb,Zm,Zq,Zo,Zr,Yc,Yp,Zf,Zk,Zx,Yg,Zj,Ah,Av,Ai,Al,Ab];rw [AH] at this;exact this
omit hl hm in
theorem u0x (out:List R6) (j:Nat) (x:Int) (h:j<out.length):v5x (out.set j ⟨(rd out j).a,(rd out j).b,(rd out j).c,(rd out j).d,(rd out j).e,x⟩) (j+1) x=v5x out j x:=by
 unfold v5x;rw [Yx h,AW];have e1:(out.set j ⟨(rd out j).a,(rd out j).b,(rd out j).c,(rd out j).d,(rd out j).e,x⟩).take (j+1)=out.take j++[⟨(rd out j).a,(rd out j).b,(rd out j).c,(rd out j).d,(rd out j).e,x⟩]:=by
  apply Cc
  ·simp;omega
  ·intro n h1 h2;simp only [Bl,List.getElem_set];by_cases e:j=n
   ·subst e;rw [Az rfl,BE (by simp only [Bc];omega)];simp
   ·rw [As e,Bw (by simp at h1 ⊢;omega),Bl]
 have e2:(out.set j ⟨(rd out j).a,(rd out j).b,(rd out j).c,(rd out j).d,(rd out j).e,x⟩).drop (j+1)=out.drop (j+1):=by rw [List.drop_set];rw [Az (by omega)]
 rw [e1,e2,AH];rfl
theorem u3w (last:List R4) (first:Int) (i:Nat) (hi:i+1<(Vy l m).length): ∀(k j:Nat) (out:List R6),j+k=out.length→out.length≤10000000000→
  ∃n,∀N,Zs (Vb kind l m) (N+n) (.to (.h2 out last first (i:Int) (j:Int)))=Zs (Vb kind l m) N (.to (.h0 (v5x out j (rd (Vy l m) (i+1))) last first ((i+1:Nat):Int)))
 | 0,j,out,h,ho=>by
  have hx:=Kf l m;refine ⟨1,fun N=> ?_⟩;have e:v5x out j (rd (Vy l m) (i+1))=out:=by unfold v5x;rw [Ar (by omega),A5,AB,AQ (by omega)]
  rw [e,Zv];simp (disch:=omega) only [Vb,Zm,Zq,Yz,Zk,Zx,Aa]
 | k+1,j,out,h,ho=>by
  have hx:=Kf l m;obtain ⟨n,hn⟩:=u3w last first i hi k (j+1) (out.set j ⟨(rd out j).a,(rd out j).b,(rd out j).c,(rd out j).d,(rd out j).e,rd (Vy l m) (i+1)⟩) (by simp;omega) (by simpa using ho)
  refine ⟨n+1,fun N=> ?_⟩;have:=hn N;rw [u0x out j _ (by omega)] at this;rw [←AC,Zv];simp (disch:=omega) only [Vb,Zm,Zq,Zo,Zr,Yk,Yc,Yp,Zf,Zk,Zx,Yg,Zj,Ah,Av,Ai,Al,Ab];exact this
theorem v0t : ∀(k i:Nat) (out:List R6) (last:List R4) (first:Nat),k=(Vy l m).length - 1 - i→i≤(Vy l m).length →out.length≤i*400→last.length≤400→first≤out.length→
  ∃n,Zs (Vb kind l m) n (.to (.h0 out last (first:Int) (i:Int)))=.ret (x9j (jsF kind l m k i out last first))
 | 0,i,out,last,first,h,hi,ho,hla,hf=>by have hx:=Kf l m;refine ⟨1,?_⟩;rw [Zv];simp (disch:=omega) only [Vb,Zm,Zq,Yz,Zk,Zx,Aa,Zp,jsF,x9j]
 | k+1,i,out,last,first,h,hi,ho,hla,hf=>by
  have hx:=Kf l m;have hi1:i+1<(Vy l m).length :=by omega
  have hbig:i*400≤20000*400:=AK _ (by omega);have a1:=fun z=>z2a l z;have a2:=fun z=>z2a m z;have w1: ∀z,z5h l z=true:=fun z=>Ag (by omega);have w2: ∀z,z5h m z=true:=fun z=>Ag (by omega);have w3: ∀k z,Jg k (atV l z) (atV m z)=true:=fun k z=>Ag (by have:=a1 z;have:=a2 z;omega);have w4: ∀k z,Jg k (atV l z) ([]:List R4)=true:=fun k z=>Ag (by have:=a1 z;simp;omega);have w5: ∀k z,Jg k (atV m z) ([]:List R4)=true:=fun k z=>Ag (by have:=a2 z;simp;omega);unfold jsF;have eC:x2p kind l m (rd (Vy l m) i)=joV kind (atV l (rd (Vy l m) i)) (atV m (rd (Vy l m) i)):=rfl;by_cases c1:400<(x2p kind l m (rd (Vy l m) i)).length
  ·refine ⟨1,?_⟩;have hb:y1g kind l m (rd (Vy l m) i)=true:=by unfold y1g;rw [Ag c1];rfl
   rw [hb,Ab,Zv];rw [eC] at c1;simp (disch:=omega) only [Vb,Zm,Zq,Zo,Yn,Zr,Zk,Zx,Zj,w1,w2,w3,w4,w5,Ai,Ab,Zp,x9j]
  by_cases c2:400<(joV 2 (atV l (rd (Vy l m) i)) []).length
  ·refine ⟨1,?_⟩;have hb:y1g kind l m (rd (Vy l m) i)=true:=by unfold y1g;rw [Ag c2,Ce,Bool.or_true]
   rw [hb,Ab,Zv];rw [eC] at c1;simp (disch:=omega) only [Vb,Zm,Zq,Zo,Yn,Xm,Zr,Zk,Zx,Zj,w1,w2,w3,w4,w5,Ai,Ab,Aa,Zp,x9j]
  by_cases c3:400<(joV 2 (atV m (rd (Vy l m) i)) []).length
  ·refine ⟨1,?_⟩;have hb:y1g kind l m (rd (Vy l m) i)=true:=by unfold y1g;rw [Ag c3,Bool.or_true,Bool.or_true]
   rw [hb,Ab,Zv];rw [eC] at c1;simp (disch:=omega) only [Vb,Zm,Zq,Zo,Yn,Xm,Zr,Zk,Zx,Zj,w1,w2,w3,w4,w5,Ai,Ab,Aa,Zp,x9j]
  have hb:y1g kind l m (rd (Vy l m) i)=false:=by unfold y1g;rw [Au c1,Au c2,Au c3];rfl
  rw [hb,Aa];have w6:Wp (joV kind (atV l (rd (Vy l m) i)) (atV m (rd (Vy l m) i))) last=true:=Ag (by rw [←eC];omega);rcases Ym (decide (0<i)&&Us (x2p kind l m (rd (Vy l m) i)) last) with q | q
  ·obtain ⟨n3,h3⟩:=u3w kind l m hl hm last first i hi1 (out.length - first) first out (by omega) (by omega)
   obtain ⟨n0,h0⟩:=v0t k (i+1) (v5x out first (rd (Vy l m) (i+1))) last first (by omega) (by omega) (by simp [v5x];omega) hla (by simp [v5x];omega)
   refine ⟨n0+n3+1,?_⟩;rw [q,Ab,Zv];simp only [Ac,At] at q;obtain ⟨q1,q2⟩:=q;rw [eC] at c1 q2;simp (disch:=omega) only [Vb,Zm,Zq,Zo,Yn,Xm,Zr,Zk,Zx,Zj,w1,w2,w3,w4,w5,w6,q2,Ai,Ab,Aa];rw [h3 n0,h0]
  ·obtain ⟨n2,h2⟩:=u3x kind l m hl hm (x2p kind l m (rd (Vy l m) i)) (out.length:Int) i hi1 (x2p kind l m (rd (Vy l m) i)) (by omega) (x2p kind l m (rd (Vy l m) i)).length 0 out (Ah _) (by omega);obtain ⟨n0,h0⟩:=v0t k (i+1) (out++j0a (rd (Vy l m) i) (rd (Vy l m) (i+1)) (x2p kind l m (rd (Vy l m) i))) (x2p kind l m (rd (Vy l m) i)) out.length (by omega) (by omega) (by simp [j0a];omega) (by omega) (by simp);refine ⟨n0+n2+1,?_⟩;rw [q,Aa,Zv];have h2':=h2 n0;simp only [AX,Kb] at h2';have c1':=c1;rw [eC] at c1';by_cases hi0:0<i
   ·rw [Ag hi0,Al,eC] at q;simp (disch:=omega) only [Vb,Zm,Zq,Zo,Yn,Xm,Zr,Zk,Zx,Zj,w1,w2,w3,w4,w5,w6,q,Ai,Ab,Aa];rw [←h0];exact h2'
   ·simp (disch:=omega) only [Vb,Zm,Zq,Zo,Yn,Xm,Zr,Zk,Zx,Zj,w1,w2,w3,w4,w5,w6,Ai,Ab,Aa];rw [←h0];exact h2'
end
theorem u9b (kind:Int) (l m:List R6) (h:y2y kind l m=true): ∃N,Zs (Vb kind l m) N (y2l kind l m)=.ret (x9j (jsO kind l m)):=by obtain ⟨hl,hm⟩:=AA h;obtain ⟨N,hN⟩:=v0t kind l m hl hm ((Vy l m).length - 1) 0 [] [] 0 rfl (AD _) (AD _) (AD _) (An _);refine ⟨N,?_⟩;have w1:z8q l m=true:=Ag ⟨by omega,by omega⟩;simp only [y2l,Zm,Zq,w1,Ab];exact hN
def fJs :List AVal→Option (AVal×Bool)
 | [.int .i64 x0,a1,a2]=>match asL R6 a1,asL R6 a2 with
  | some (L1,g1,n1),some (L2,g2,n2)=>some (.tup [.dat (z6m x0 L1 L2).length (Zz (z6m x0 L1 L2)),.bool (x4n x0 L1 L2)],isT R6 n1 g1&&(isT R6 n2 g2&&(y2y x0 L1 L2)))
  | _,_=>none
 | _=>none
theorem fJs_ok {S:Specs} (hS:Zu prog S):Zu prog (S.with u5n fJs):=by
 refine w8s hS (by kernel_rfl) fun args v h=> ?_;unfold fJs at h;split at h
 ·rename_i x0 a1 a2;split at h
  ·rename_i L1 g1 n1 L2 g2 n2 e1 e2;simp only [Ae,Ad,Ac] at h;obtain ⟨rfl,ho1,ho2,hw⟩:=h;obtain ⟨N,hN⟩:=u9b x0 L1 L2 hw;refine ⟨_,x9j (jsO x0 L1 L2),(.cons (.refl _) (.cons (asL_le e1 ho1) (.cons (asL_le e2 ho2) .nil))),?_,v7t x0 L1 L2 N _ hN,3,?_⟩
   ·unfold z6m x4n;cases jsO x0 L1 L2 with
    | none=>exact fun ρ u hu=>z3q (.cons (z6k R6) (RLe.refl _)) ρ u hu
    | some out=>exact fun ρ u hu=>hu
   ·cases jsO x0 L1 L2 <;> rfl
  ·cases h
 ·cases h
def T4 :Specs:=T3.with u5n fJs
theorem T4_ok :Zu prog T4:=fJs_ok y0h
open Go.Sort Go.Shelf Go.RowKit Go.Lib
def j3m (x:E3):List Value:=y9n x.1
theorem j3l (l:List R3) (h:y1j l=true):Go.Sort.flatK j3m 3 (x2s l h).toArray =Go.Sort.flatK y9n 3 l.toArray:=by
 have hl:=Kh l h;unfold Go.Sort.flatK;rw [show (x2s l h).toArray.size =l.toArray.size by simpa using hl];apply Array.ext
 ·simp
 ·intro t h1 h2;simp only [Array.getElem_map,Array.getElem_range];have ht:t<l.length*3:=by simpa using h1
  have hq:t / 3<l.length:=by omega
  congr 1
  rw [BT (x2s l h).toArray (t / 3) (by simpa [hl] using hq),BT l.toArray (t / 3) (by simpa using hq)];unfold j3m
  congr 1
  have:=y3l l h;have e:=AY (fun z:List R3=>z[t / 3]?) this;simp only [List.getElem?_map] at e;rw [Aq (by rw [hl];exact hq),Aq hq] at e
  simpa using e
theorem u0p (d:Array E3):Go.Sort.flatK j3m 3 d=Go.Sort.flatK y9n 3 (d.toList.map Subtype.val).toArray :=by
 unfold Go.Sort.flatK;rw [show d.size=(d.toList.map Subtype.val).toArray.size by simp];apply Array.ext
 ·simp
 ·intro t h1 h2;simp only [Array.getElem_map,Array.getElem_range];have ht:t<d.size*3:=by simpa using h1
  have hq:t / 3<d.size:=by omega
  congr 1
  rw [BT d (t / 3) hq,BT (d.toList.map Subtype.val).toArray (t / 3) (by simpa using hq)];simp [j3m]
theorem z8c (l:List R3):x1i l.length (z0v (cvT l)).length =true:=Wc (by
 rw [Zm];by_cases h:y1j l=true
 ·exact (Kr l h).1.length_eq.symm
 ·unfold z0v;rw [dif_neg h])
theorem isAgg3 : ∀w,(isAgg (Tryz.sortEnd_ren.t 24)).run prog w=.ok true w:=fun w=>by rfl
theorem size3 : ∀w,(Go.sizeOf (Tryz.sortEnd_ren.t 24)).run prog w=.ok 3 w:=fun w=>by rfl
theorem w9r :x5v prog u5g (w3s R3 z0v y1j w2s):=by
 refine v4l (fun L=> ?_) (fun blk off cap L w hb hH eL hsz=> ?_) fun p cap fv w=>AnyF.slices_SortFunc_none Tryz.sortEnd p cap fv w
 ·by_cases h:y1j L=true
  ·exact (Kr L h).1.length_eq
  ·unfold z0v;rw [dif_neg h]
 ·have eg: ∀args w,(callFunc 201 args).run prog w=.ok (.enter 201 args) w:=enters_of Tryz.func201 (by kernel_rfl) rfl;have hcmp:CmpLays prog 201 #[] j3m 3 cf3 blk off (x2s L hb).toArray.size w:=fun m os dk _ x y=>by have hx:=AA x.2;have hy:=AA y.2;exact Tryz.cmpEnd x.1.a x.1.b x.1.c y.1.a y.1.b y.1.c hx hy _
  have hH':HoldsK j3m 3 w blk off (x2s L hb).toArray :=by unfold HoldsK;rw [j3l L hb];exact hH
  have hcon:=AnyQ.slices_SortFunc_eq Tryz.sortEnd 3 isAgg3 size3 j3m (fun x=>y5s x.1) (fun x v hv=>by
   obtain ⟨a,ha,rfl⟩:=AR.1 hv;have:x9l a=true:=Aw.1 (u7f.num x.1) a ha;cases a <;> first | rfl | (simp [x9l] at this;done)) cf3 swo3 201 #[] blk off cap (x2s L hb).toArray w eg hcmp hH' eL (by simpa [Kh] using hsz)
  have hs:(x2s L hb).toArray.size =L.length:=by simp [Kh]
  rw [hs] at hcon;refine Calls.mono hcon fun e w' ⟨he,n,os,hw⟩=>⟨he,n,os,?_⟩
  rw [hw];unfold sortWorldK putRowK;rw [u0p];unfold z0v;rw [dif_pos hb];rfl
def Xu (zs:List Int):List Int:=zs.mergeSort fun x y=>decide (x≤y)
theorem w9q :x5v prog nSort (fRow Xu):=
 j3n (fun zs=>List.length_mergeSort zs) (fun blk off cap zs w hH hb hz=>Tryz.slices_Sort_int blk off cap zs w hH hb hz) fun p cap w=>Tryz.slices_Sort_int_none p cap w
def Wa (zs:List Int):List Int:=compact zs++List.replicate (zs.length - (compact zs).length) 0
def w8t (zs:List Int):Nat:=(compact zs).length
theorem Ug (zs:List Int):(Wa zs).length =zs.length:=by have:=compact_length_le zs;simp [Wa];omega
theorem z1v (n:Nat) (c:Nat→Int):x1i n (Wa (Yw n c)).length =true:=Wc (by rw [Ug];simp [Yw])
theorem v3q (w:World):grow w #[]=w:=by simp [grow]
theorem w0p :x5v prog w2t (fCut Wa w8t):=
 j3o (fun zs=>by have:=compact_length_le zs;simp [Wa];omega) (fun zs=>compact_length_le zs)
  (fun blk off cap zs w hH hb hz dE=>(Tryz.slices_Compact_int blk off cap zs w hH (by omega) dE).mono fun e w' ⟨he,q,hw⟩=>⟨he,q, #[],by rw [hw,v3q];rfl⟩)
  fun p cap w=>Tryz.slices_Compact_int_empty p cap w
def T5 :Specs:=((T4.withE u5g (w3s R3 z0v y1j w2s)).withE nSort (fRow Xu)).withE w2t (fCut Wa w8t)
theorem Qt :Zu prog T5:=y9w (y9w (y9w T4_ok (by kernel_rfl) w9r) (by kernel_rfl) w9q) (by kernel_rfl) w0p
-- h2: index into an array (choices [true, true, false, false])
-- h2: index into an array (choices [true, false, true, false, false])
-- h2: index into an array (choices [true, false, false, true, true, false, false])
-- h2: index into an array (choices [true, false, false, true, false, false, false])
-- h2: index into an array (choices [true, false, false, false, false, false])
inductive spmS where
 | h0 (v8:Int)
 | h1 (v3:List R3) (v17:Int)
 | h2 (v5:List R3) (v6:Int) (v7:Int) (aA:Int) (aI:Int) (aM:Int) (aG:Bool) (aC:List R2)
abbrev Uy (aC:List R2) (aM:Int) (v5:List R3) (v7:Int):=(aC++[(R2.mk aM (rd v5 (0+(tn v7))).a)])
abbrev y0n (aC:List R2) (aM:Int) (v5:List R3) (v7:Int):=(Ze (Zz aC) 0 aC.length 2 [(ii aM),(ii (rd v5 (0+(tn v7))).a)])
abbrev y7i (v3:List R3) (l0:List R2) (v17:Int):=(v3++[(R3.mk (rd l0 (tn v17)).a 0 1),(R3.mk (rd l0 (tn v17)).b 0 (-1))])
def u2c (l0:List R2):AFr:=⟨⟨11,0,true⟩,(Ur prog 157 [1,1,1,0] 1),(Zb prog 157 [1,1,1,0] 1),none,(Zy prog 15),Ya [(9,(.dat l0.length (Zz l0)))]⟩
def spmC (l0:List R2):spmS→Cfg
 | .h0 v8=>⟨⟨19,0,true⟩,none,(Zb prog 195 [1,0,1,0,0] 0),none,(Zy prog 5),⟨Ya [(0,(.dat l0.length (Zz l0))),(1,(.fn 184 [])),(7,(ii (l0.length:Int))),(8,(ii v8))],Wr [] 0,0,[],true⟩,[⟨⟨9,0,true⟩,(Ur prog 183 [1,0] 2),(Zb prog 183 [1,0] 1),none,(Zy prog 5),Ya [(5,(.dat l0.length (Zz l0))),(6,(.fn 184 []))]⟩,⟨⟨11,0,true⟩,(Ur prog 157 [1,1,0,0] 1),(Zb prog 157 [1,1,0,0] 1),none,(Zy prog 15),Ya [(0,(.dat l0.length (Zz l0))),(7,(.dat l0.length (Zz l0)))]⟩],.leaf⟩
 | .h1 v3 v17=>⟨⟨38,0,true⟩,none,(Zb prog 197 [1,1,0,1,0,0,1,1,0,0,1,1,0,0] 0),none,(Zy prog 3),⟨Ya [(3,(.sla 7 3 0 v3.length (.un 3))),(4,(ii 0)),(8,(.sl 0 0 2 (.un 1))),(9,(ii 2)),(10,(ii 0)),(15,(.dat l0.length (Zz l0))),(16,(ii (l0.length:Int))),(17,(ii v17))],Wr [⟨[(.dat l0.length (Zz l0)),.nils],180,none⟩,⟨[(.fn 187 [])],213,none⟩,⟨[(ii 0),(ii 0)],142,none⟩,⟨[.nils],180,none⟩,⟨[(ii 0)],3,none⟩,⟨[(.bool false)],4,none⟩,⟨[(.fn 196 [(.ptr 5 0),(.ptr 4 0),(.ptr 3 0)])],242,none⟩,⟨rows v3.length (Zz v3),246,some ⟨3,v3.length,(Zz v3)⟩⟩] 0,8,[],true⟩,[⟨⟨42,0,true⟩,(Ur prog 186 [1,1,1,1,1,0,0] 3),(Zb prog 186 [1,1,1,1,1,0,0] 1),none,(Zy prog 8),Ya [(5,(.ptr 1 0)),(6,.nils),(7,(.ptr 2 0)),(8,(.ptr 3 0)),(9,(.ptr 4 0)),(10,(.ptr 5 0)),(11,(.ptr 6 0)),(16,(.sl 0 0 2 (.un 1)))]⟩,(u2c l0)],.leaf⟩
 | .h2 v5 v6 v7 aA aI aM aG aC=>⟨⟨16,0,true⟩,none,(Zb prog 205 [1,0,0] 0),none,[],⟨Ya [(0,(.yld 0)),(5,(.sla 7 3 0 v5.length (.un 3))),(6,(ii v6)),(7,(ii v7))],y0t [(1,⟨[(.fn 187 [])],213,none⟩),(2,⟨[(ii aA),(ii aI)],142,none⟩),(3,⟨[(ii aM)],3,none⟩),(4,⟨[(.bool aG)],4,none⟩),(5,⟨[(.fn 196 [(.ptr 4 0),(.ptr 3 0),(.ptr 6 0)])],242,none⟩),(6,⟨[(.sla 8 2 0 aC.length (.un 2))],180,none⟩),(7,⟨rows v5.length (Zz v5),246,some ⟨3,v5.length,(Zz v5)⟩⟩),(8,⟨rows aC.length (Zz aC),183,some ⟨2,aC.length,(Zz aC)⟩⟩)],9,[],true⟩,[⟨⟨42,0,true⟩,none,(.inRangeFunc 0::(Zb prog 186 [1,1,1,1,1,0,1,0] 1)),none,(Zy prog 8),Ya [(6,.nils),(8,(.ptr 6 0))]⟩,(u2c l0)],(y6v [(0,⟨.ready,none,42,Ya [(5,(.ptr 1 0)),(7,(.ptr 2 0)),(9,(.ptr 3 0)),(10,(.ptr 4 0)),(11,(.ptr 5 0))],[18],(Vd prog 186 [1,1,1,1,1,0,1,0,0]),(Vd prog 186 [1,1,1,1,1,0,1,0,1])⟩)])⟩
def spmN0 :List (Option (List Nat)):=[some [0,1,7,8],some [5,6],some [0,7]]
def spmM0 :List (Option (List Nat)):=[]
def w9m :List (Option (List Nat)):=[some [3,4,8,9,10,15,16,17],some [5,6,7,8,9,10,11,16],some [9]]
def w9n :List (Option (List Nat)):=[]
def y3v :List (Option (List Nat)):=[some [0,5,6,7],some [6,8],some [9]]
def y3w :List (Option (List Nat)):=[some [5,7,9,10,11],none,none,none,none,none,none,none,none]
def Uk (l0:List R2):spmS→Xv spmS
 | .h0 v8=>(bif (decide (v8<(l0.length:Int))) then (bif ((decide (0≤v8∧v8<(l0.length:Int)))&&true) then (bif (decide ((rd l0 v8.toNat).a <(rd l0 v8.toNat).b)) then (bif (decide ((rd l0 v8.toNat).a ≥(-1000000))) then (bif (!(decide ((rd l0 v8.toNat).b ≤1000000))) then (bif (decide (v8≥0)) then (.ret [.nils,(.int .i64 8)]) else (.to (.h1 ([]:List R3) 0))) else (.to (.h0 (wrap .i64 (v8+1))))) else (bif (decide (v8≥0)) then (.ret [.nils,(.int .i64 8)]) else (.to (.h1 ([]:List R3) 0)))) else (bif (decide (v8≥0)) then (.ret [.nils,(.int .i64 8)]) else (.to (.h1 ([]:List R3) 0)))) else .stuck) else (.to (.h1 ([]:List R3) 0)))
 | .h1 v3 v17=>(bif (decide (v17<(l0.length:Int))) then (bif ((decide (0≤v17∧v17<(l0.length:Int)))&&true) then (bif (Nat.beq 3 3&&((decide (0+v3.length=v3.length))&&decide ((v3.length+2+1)*(24+1)≤Uj))) then (.to (.h1 (v3++[(R3.mk (rd l0 v17.toNat).a 0 1),(R3.mk (rd l0 v17.toNat).b 0 (-1))]) (wrap .i64 (v17+1)))) else .stuck) else .stuck) else (bif (y1j (cvT v3)) then (bif (decide (v3.length<4611686018427387904)) then (bif (decide (v3.length=v3.length)) then (.to (.h2 (z0v (cvT v3)) (v3.length:Int) 0 0 0 0 false ([]:List R2))) else .stuck) else .stuck) else .stuck))
 | .h2 v5 v6 v7 aA aI aM aG aC=>(bif (decide (v7<v6)) then (bif ((decide (0≤v7∧v7<(v5.length:Int)))&&true) then (bif (decide ((0+v7.toNat)<v5.length)) then (bif (!aG) then (bif (decide ((rd v5 (0+v7.toNat)).b =Int.ofNat 0)) then (.to (.h2 v5 v6 (wrap .i64 (v7+1)) (wrap .i64 (aA+(rd v5 (0+v7.toNat)).c)) aI (rd v5 (0+v7.toNat)).a (w3o (decide ((wrap .i64 (aA+(rd v5 (0+v7.toNat)).c))>0)) (decide (aI>0))) aC)) else (bif (decide ((rd v5 (0+v7.toNat)).b =Int.ofNat 1)) then (.to (.h2 v5 v6 (wrap .i64 (v7+1)) aA (wrap .i64 (aI+(rd v5 (0+v7.toNat)).c)) (rd v5 (0+v7.toNat)).a (w3o (decide (aA>0)) (decide ((wrap .i64 (aI+(rd v5 (0+v7.toNat)).c))>0))) aC)) else .stuck)) else (bif (aM == (rd v5 (0+v7.toNat)).a) then (bif (decide ((rd v5 (0+v7.toNat)).b =Int.ofNat 0)) then (.to (.h2 v5 v6 (wrap .i64 (v7+1)) (wrap .i64 (aA+(rd v5 (0+v7.toNat)).c)) aI (rd v5 (0+v7.toNat)).a (w3o (decide ((wrap .i64 (aA+(rd v5 (0+v7.toNat)).c))>0)) (decide (aI>0))) aC)) else (bif (decide ((rd v5 (0+v7.toNat)).b =Int.ofNat 1)) then (.to (.h2 v5 v6 (wrap .i64 (v7+1)) aA (wrap .i64 (aI+(rd v5 (0+v7.toNat)).c)) (rd v5 (0+v7.toNat)).a (w3o (decide (aA>0)) (decide ((wrap .i64 (aI+(rd v5 (0+v7.toNat)).c))>0))) aC)) else .stuck)) else (bif (decide ((aC.length:Int)>0)) then (bif ((decide (0≤(wrap .i64 ((aC.length:Int) - 1))∧(wrap .i64 ((aC.length:Int) - 1))<(aC.length:Int)))&&true) then (bif (decide ((0+(Int.toNat (wrap .i64 ((aC.length:Int) - 1))))<aC.length)) then (bif ((rd aC (0+(Int.toNat (wrap .i64 ((aC.length:Int) - 1))))).b == aM) then (bif (decide ((rd v5 (0+v7.toNat)).b =Int.ofNat 0)) then (.to (.h2 v5 v6 (wrap .i64 (v7+1)) (wrap .i64 (aA+(rd v5 (0+v7.toNat)).c)) aI (rd v5 (0+v7.toNat)).a (w3o (decide ((wrap .i64 (aA+(rd v5 (0+v7.toNat)).c))>0)) (decide (aI>0))) (aC.set (0+(Int.toNat (wrap .i64 ((aC.length:Int) - 1)))) (R2.mk (rd aC (0+(Int.toNat (wrap .i64 ((aC.length:Int) - 1))))).a (rd v5 (0+v7.toNat)).a)))) else (bif (decide ((rd v5 (0+v7.toNat)).b =Int.ofNat 1)) then (.to (.h2 v5 v6 (wrap .i64 (v7+1)) aA (wrap .i64 (aI+(rd v5 (0+v7.toNat)).c)) (rd v5 (0+v7.toNat)).a (w3o (decide (aA>0)) (decide ((wrap .i64 (aI+(rd v5 (0+v7.toNat)).c))>0))) (aC.set (0+(Int.toNat (wrap .i64 ((aC.length:Int) - 1)))) (R2.mk (rd aC (0+(Int.toNat (wrap .i64 ((aC.length:Int) - 1))))).a (rd v5 (0+v7.toNat)).a)))) else .stuck)) else (bif (Nat.beq 2 2&&((decide (0+aC.length=aC.length))&&decide ((aC.length+1+1)*(16+1)≤Uj))) then (bif (decide ((rd v5 (0+v7.toNat)).b =Int.ofNat 0)) then (.to (.h2 v5 v6 (wrap .i64 (v7+1)) (wrap .i64 (aA+(rd v5 (0+v7.toNat)).c)) aI (rd v5 (0+v7.toNat)).a (w3o (decide ((wrap .i64 (aA+(rd v5 (0+v7.toNat)).c))>0)) (decide (aI>0))) (aC++[(R2.mk aM (rd v5 (0+v7.toNat)).a)]))) else (bif (decide ((rd v5 (0+v7.toNat)).b =Int.ofNat 1)) then (.to (.h2 v5 v6 (wrap .i64 (v7+1)) aA (wrap .i64 (aI+(rd v5 (0+v7.toNat)).c)) (rd v5 (0+v7.toNat)).a (w3o (decide (aA>0)) (decide ((wrap .i64 (aI+(rd v5 (0+v7.toNat)).c))>0))) (aC++[(R2.mk aM (rd v5 (0+v7.toNat)).a)]))) else .stuck)) else .stuck)) else .stuck) else .stuck) else (bif (Nat.beq 2 2&&((decide (0+aC.length=aC.length))&&decide ((aC.length+1+1)*(16+1)≤Uj))) then (bif (decide ((rd v5 (0+v7.toNat)).b =Int.ofNat 0)) then (.to (.h2 v5 v6 (wrap .i64 (v7+1)) (wrap .i64 (aA+(rd v5 (0+v7.toNat)).c)) aI (rd v5 (0+v7.toNat)).a (w3o (decide ((wrap .i64 (aA+(rd v5 (0+v7.toNat)).c))>0)) (decide (aI>0))) (aC++[(R2.mk aM (rd v5 (0+v7.toNat)).a)]))) else (bif (decide ((rd v5 (0+v7.toNat)).b =Int.ofNat 1)) then (.to (.h2 v5 v6 (wrap .i64 (v7+1)) aA (wrap .i64 (aI+(rd v5 (0+v7.toNat)).c)) (rd v5 (0+v7.toNat)).a (w3o (decide (aA>0)) (decide ((wrap .i64 (aI+(rd v5 (0+v7.toNat)).c))>0))) (aC++[(R2.mk aM (rd v5 (0+v7.toNat)).a)]))) else .stuck)) else .stuck)))) else .stuck) else .stuck) else (.ret [(.dat aC.length (Zz aC)),(.int .i64 0)]))
def y1v (l0:List R2):Xv spmS:=(bif (decide ((l0.length:Int)>400)) then (.ret [.nils,(.int .i64 4)]) else (.to (.h0 0)))
theorem w4r (l0:List R2): ∀s,Ys prog (Zy prog 157) (spmC l0) (spmC l0 s) (Uk l0 s)
 | .h0 v8=>(lb (fun k0=>(lo fun aF=>(lb (fun k1=>(lb (fun k2=>(lb (fun k3=>(lb (fun k4=>(lr 11 157 [1,1,0,1,0,0] 1 15 [(2,.nils),(3,(ii 8))] (sl Qt 79 [] ⟨[],[],[some [2,3]],[]⟩ ⟨[],[],[]⟩ (trs 9 []) (tt k4 (tt k3 (tt k2 (tt k1 (ww aF (tt k0 nn))))))))) (fun k4=>(sl Qt 154 [(246,3,Zz ([]:List R3))] ⟨[8,2,3,4,5,6,7,9],[],w9m,w9n⟩ ⟨[(3,.grow 7 3)],[],[]⟩ (trs 8 (bl 2 2)) (pp (fl ([]:List R3) nn) (tt k4 (tt k3 (tt k2 (tt k1 (ww aF (tt k0 nn))))))))))) (fun k3=>(sl Qt 69 [] ⟨[],[],spmN0,spmM0⟩ ⟨[],[],[]⟩ (trs 7 [false]) (tt k3 (tt k2 (tt k1 (ww aF (tt k0 nn))))))))) (fun k2=>(lb (fun k3=>(lr 11 157 [1,1,0,1,0,0] 1 15 [(2,.nils),(3,(ii 8))] (sl Qt 79 [] ⟨[],[],[some [2,3]],[]⟩ ⟨[],[],[]⟩ (trs 4 (bl 5 24)) (tt k3 (tt k2 (tt k1 (ww aF (tt k0 nn)))))))) (fun k3=>(sl Qt 154 [(246,3,Zz ([]:List R3))] ⟨[8,2,3,4,5,6,7,9],[],w9m,w9n⟩ ⟨[(3,.grow 7 3)],[],[]⟩ (trs 4 (bl 6 40)) (pp (fl ([]:List R3) nn) (tt k3 (tt k2 (tt k1 (ww aF (tt k0 nn)))))))))))) (fun k1=>(lb (fun k2=>(lr 11 157 [1,1,0,1,0,0] 1 15 [(2,.nils),(3,(ii 8))] (sl Qt 79 [] ⟨[],[],[some [2,3]],[]⟩ ⟨[],[],[]⟩ (bl 9 385) (tt k2 (tt k1 (ww aF (tt k0 nn))))))) (fun k2=>(sl Qt 154 [(246,3,Zz ([]:List R3))] ⟨[8,2,3,4,5,6,7,9],[],w9m,w9n⟩ ⟨[(3,.grow 7 3)],[],[]⟩ (bl 10 641) (pp (fl ([]:List R3) nn) (tt k2 (tt k1 (ww aF (tt k0 nn)))))))))))) (fun k0=>(sl Qt 98 [(246,3,Zz ([]:List R3))] ⟨[6,0,1,2,3,4,5,7],[],w9m,w9n⟩ ⟨[(3,.grow 7 3)],[],[]⟩ (bl 3 4) (pp (fl ([]:List R3) nn) (tt k0 nn)))))
 | .h1 v3 v17=>(lb (fun k0=>(lo fun o0=>(lo fun o1=>(sl Qt 36 [] ⟨[0,1,2,3,4,5,6,10],[],w9m,w9n⟩ ⟨[(3,.len (y7i v3 l0 v17).length)],(kpB 7 [.rowed 3 (y7i v3 l0 v17).length (Zz (y7i v3 l0 v17))]),[]⟩ [true] (pp (xL (v3.length+2) (y7i v3 l0 v17).length) (pp (xL (v3.length+2) (y7i v3 l0 v17).length) (pp (xS (v3.length+2) (Ze (Zz v3) 0 v3.length 3 [(ii (rd l0 (tn v17)).a),(ii 0),(ii 1),(ii (rd l0 (tn v17)).b),(ii 0),(ii (-1))]) (Zz (y7i v3 l0 v17))) (pp (pp (xF (Ze (Zz v3) 0 v3.length 3 [(ii (rd l0 (tn v17)).a),(ii 0),(ii 1),(ii (rd l0 (tn v17)).b),(ii 0),(ii (-1))])) nn) (ww o1 (ww o0 (tt k0 nn))))))))))) (fun k0=>(lo fun o0=>(lo fun o1=>(lo fun o2=>(sl Qt 92 [(183,2,Zz ([]:List R2))] ⟨[9,1,2,4,5,6,3,7,10],[],y3v,y3w⟩ ⟨[(5,.len (z0v (cvT v3)).length)],(kpB 6 [.cells [.grow 8 2],.rowed 3 (z0v (cvT v3)).length (Zz (z0v (cvT v3))),.keep]),[]⟩ (bl 4 2) (pp (xL v3.length (z0v (cvT v3)).length (by first | exact z8c _ | exact Wc rfl)) (pp (xL v3.length (z0v (cvT v3)).length (by first | exact z8c _ | exact Wc rfl)) (pp (xS v3.length (Zz (z0v (cvT v3))) (Zz (z0v (cvT v3)))) (pp (fl (z0v (cvT v3)) (fl ([]:List R2) nn)) (pp (pp (xG (Nat.beq 3 3)) (pp (xG (Nat.beq 3 3)) (pp (xG (Nat.beq 0 0)) (pp (pp (xG (decide (v3.length=v3.length))) (pp (xr v3) (xG (decide (v3.length<4611686018427387904))))) (xG (y1j (cvT v3))))))) (tt k0 nn))))))))))))
 | .h2 v5 v6 v7 aA aI aM aG aC=>(lb (fun k0=>(lo fun aF=>(lo fun aR=>(lb (fun k1=>(lb (fun k2=>(sl Qt 62 [] ⟨(List.range 9),[],y3v,y3w⟩ ⟨[],[],[]⟩ (trs 5 (bl 3 0)) (pp (fl v5 (fl aC nn)) (ww k2 (tt k1 (ww aR (ww aF (tt k0 nn)))))))) (fun k2=>(lb (fun k3=>(sl Qt 62 [] ⟨(List.range 9),[],y3v,y3w⟩ ⟨[],[],[]⟩ (trs 6 (bl 4 2)) (pp (fl v5 (fl aC nn)) (ww k3 (tt k1 (ww aR (ww aF (tt k0 nn)))))))) (fun k3=>trivial))))) (fun k1=>(lb (fun k2=>(lb (fun k3=>(sl Qt 62 [] ⟨(List.range 9),[],y3v,y3w⟩ ⟨[],[],[]⟩ (bl 8 17) (pp (fl v5 (fl aC nn)) (ww k3 (tt k2 (tt k1 (ww aR (ww aF (tt k0 nn))))))))) (fun k3=>(lb (fun k4=>(sl Qt 62 [] ⟨(List.range 9),[],y3v,y3w⟩ ⟨[],[],[]⟩ (bl 10 177) (pp (fl v5 (fl aC nn)) (ww k4 (tt k2 (tt k1 (ww aR (ww aF (tt k0 nn))))))))) (fun k4=>trivial))))) (fun k2=>(lb (fun k3=>(lo fun cB=>(lo fun cP=>(lb (fun k4=>(lb (fun k5=>(sl Qt 81 [] ⟨(List.range 9),[],y3v,y3w⟩ ⟨[],(kpB 6 [.cells [.len (aC.set (0+(tn (wr ((aC.length:Int) - 1)))) (R2.mk (rd aC (0+(tn (wr ((aC.length:Int) - 1))))).a (rd v5 (0+(tn v7))).a)).length],.keep,.rowed 2 (aC.set (0+(tn (wr ((aC.length:Int) - 1)))) (R2.mk (rd aC (0+(tn (wr ((aC.length:Int) - 1))))).a (rd v5 (0+(tn v7))).a)).length (Zz (aC.set (0+(tn (wr ((aC.length:Int) - 1)))) (R2.mk (rd aC (0+(tn (wr ((aC.length:Int) - 1))))).a (rd v5 (0+(tn v7))).a)))]),[]⟩ (bl 17 16353) (pp (xL aC.length (aC.set (0+(tn (wr ((aC.length:Int) - 1)))) (R2.mk (rd aC (0+(tn (wr ((aC.length:Int) - 1))))).a (rd v5 (0+(tn v7))).a)).length) (pp (xL aC.length (aC.set (0+(tn (wr ((aC.length:Int) - 1)))) (R2.mk (rd aC (0+(tn (wr ((aC.length:Int) - 1))))).a (rd v5 (0+(tn v7))).a)).length) (pp (xS aC.length (Xe (Zz aC) (0+(tn (wr ((aC.length:Int) - 1)))) 1 [(ii (rd v5 (0+(tn v7))).a)]) (Zz (aC.set (0+(tn (wr ((aC.length:Int) - 1)))) (R2.mk (rd aC (0+(tn (wr ((aC.length:Int) - 1))))).a (rd v5 (0+(tn v7))).a)))) (pp (fl v5 (pp (xF (Xe (Zz aC) (0+(tn (wr ((aC.length:Int) - 1)))) 1 [(ii (rd v5 (0+(tn v7))).a)])) nn)) (ww k5 (ww cP (ww cB (tt k4 (ww cP (ww cB (tt k3 (tt k2 (tt k1 (ww aR (ww aF (tt k0 nn)))))))))))))))))) (fun k5=>(lb (fun k6=>(sl Qt 81 [] ⟨(List.range 9),[],y3v,y3w⟩ ⟨[],(kpB 6 [.cells [.len (aC.set (0+(tn (wr ((aC.length:Int) - 1)))) (R2.mk (rd aC (0+(tn (wr ((aC.length:Int) - 1))))).a (rd v5 (0+(tn v7))).a)).length],.keep,.rowed 2 (aC.set (0+(tn (wr ((aC.length:Int) - 1)))) (R2.mk (rd aC (0+(tn (wr ((aC.length:Int) - 1))))).a (rd v5 (0+(tn v7))).a)).length (Zz (aC.set (0+(tn (wr ((aC.length:Int) - 1)))) (R2.mk (rd aC (0+(tn (wr ((aC.length:Int) - 1))))).a (rd v5 (0+(tn v7))).a)))]),[]⟩ (bl 19 98273) (pp (xL aC.length (aC.set (0+(tn (wr ((aC.length:Int) - 1)))) (R2.mk (rd aC (0+(tn (wr ((aC.length:Int) - 1))))).a (rd v5 (0+(tn v7))).a)).length) (pp (xL aC.length (aC.set (0+(tn (wr ((aC.length:Int) - 1)))) (R2.mk (rd aC (0+(tn (wr ((aC.length:Int) - 1))))).a (rd v5 (0+(tn v7))).a)).length) (pp (xS aC.length (Xe (Zz aC) (0+(tn (wr ((aC.length:Int) - 1)))) 1 [(ii (rd v5 (0+(tn v7))).a)]) (Zz (aC.set (0+(tn (wr ((aC.length:Int) - 1)))) (R2.mk (rd aC (0+(tn (wr ((aC.length:Int) - 1))))).a (rd v5 (0+(tn v7))).a)))) (pp (fl v5 (pp (xF (Xe (Zz aC) (0+(tn (wr ((aC.length:Int) - 1)))) 1 [(ii (rd v5 (0+(tn v7))).a)])) nn)) (ww k6 (ww cP (ww cB (tt k4 (ww cP (ww cB (tt k3 (tt k2 (tt k1 (ww aR (ww aF (tt k0 nn)))))))))))))))))) (fun k6=>trivial))))) (fun k4=>(lo fun cQ=>(lb (fun k5=>(sl Qt 81 [] ⟨[0,1,2,3,4,5,6,7,12],[],y3v,y3w⟩ ⟨[],(kpB 6 [.cells [.len (Uy aC aM v5 v7).length],.keep,.rowed 2 (Uy aC aM v5 v7).length (Zz (Uy aC aM v5 v7))]),[]⟩ (bl 17 8161) (pp (xL (aC.length+1) (Uy aC aM v5 v7).length) (pp (xL (aC.length+1) (Uy aC aM v5 v7).length) (pp (xS (aC.length+1) (y0n aC aM v5 v7) (Zz (Uy aC aM v5 v7))) (pp (fl v5 (pp (xF (y0n aC aM v5 v7)) nn)) (ww k5 (ww cQ (tt k4 (ww cP (ww cB (tt k3 (tt k2 (tt k1 (ww aR (ww aF (tt k0 nn))))))))))))))))) (fun k5=>(lb (fun k6=>(sl Qt 81 [] ⟨[0,1,2,3,4,5,6,7,12],[],y3v,y3w⟩ ⟨[],(kpB 6 [.cells [.len (Uy aC aM v5 v7).length],.keep,.rowed 2 (Uy aC aM v5 v7).length (Zz (Uy aC aM v5 v7))]),[]⟩ (bl 19 90081) (pp (xL (aC.length+1) (Uy aC aM v5 v7).length) (pp (xL (aC.length+1) (Uy aC aM v5 v7).length) (pp (xS (aC.length+1) (y0n aC aM v5 v7) (Zz (Uy aC aM v5 v7))) (pp (fl v5 (pp (xF (y0n aC aM v5 v7)) nn)) (ww k6 (ww cQ (tt k4 (ww cP (ww cB (tt k3 (tt k2 (tt k1 (ww aR (ww aF (tt k0 nn))))))))))))))))) (fun k6=>trivial)))))))))) (fun k3=>(lo fun cB=>(lb (fun k4=>(sl Qt 81 [] ⟨[0,1,2,3,4,5,6,7,12],[],y3v,y3w⟩ ⟨[],(kpB 6 [.cells [.len (Uy aC aM v5 v7).length],.keep,.rowed 2 (Uy aC aM v5 v7).length (Zz (Uy aC aM v5 v7))]),[]⟩ (bl 17 1) (pp (xL (aC.length+1) (Uy aC aM v5 v7).length) (pp (xL (aC.length+1) (Uy aC aM v5 v7).length) (pp (xS (aC.length+1) (y0n aC aM v5 v7) (Zz (Uy aC aM v5 v7))) (pp (fl v5 (pp (xF (y0n aC aM v5 v7)) nn)) (ww k4 (ww cB (tt k3 (tt k2 (tt k1 (ww aR (ww aF (tt k0 nn)))))))))))))) (fun k4=>(lb (fun k5=>(sl Qt 81 [] ⟨[0,1,2,3,4,5,6,7,12],[],y3v,y3w⟩ ⟨[],(kpB 6 [.cells [.len (Uy aC aM v5 v7).length],.keep,.rowed 2 (Uy aC aM v5 v7).length (Zz (Uy aC aM v5 v7))]),[]⟩ (bl 19 81921) (pp (xL (aC.length+1) (Uy aC aM v5 v7).length) (pp (xL (aC.length+1) (Uy aC aM v5 v7).length) (pp (xS (aC.length+1) (y0n aC aM v5 v7) (Zz (Uy aC aM v5 v7))) (pp (fl v5 (pp (xF (y0n aC aM v5 v7)) nn)) (ww k5 (ww cB (tt k3 (tt k2 (tt k1 (ww aR (ww aF (tt k0 nn)))))))))))))) (fun k5=>trivial)))))))))))))) (fun k0=>(lr 11 3 [1,1,1,1,1,1,1,0] 1 15 [(2,(.dat aC.length (Zz aC))),(3,(ii 0))] (sl Qt 19 [] ⟨[],[8],[some [2,3]],[]⟩ ⟨[(2,.frz aC.length aC.length (Zz aC) (Zz aC))],[],[]⟩ [false] (pp (xZ (z3k 2 2 0 aC.length aC.length (Zz aC)) aC.length (Zz aC)) (pp (xL aC.length aC.length) (pp (xS aC.length (Zz aC) (Zz aC)) (pp (fl aC nn) (tt k0 nn)))))))))
theorem x6l (l0:List R2):Ys prog (Zy prog 157) (spmC l0) (Za prog 157 [(.dat l0.length (Zz l0))] true []) (y1v l0):=(lb (fun k0=>(lr 11 157 [1,0,1,0,0] 1 15 [(2,.nils),(3,(ii 4))] (sl Qt 18 [] ⟨[],[],[some [2,3]],[]⟩ ⟨[],[],[]⟩ [true] (tt k0 nn)))) (fun k0=>(sl Qt 41 [] ⟨[],[],spmN0,spmM0⟩ ⟨[],[],[]⟩ [false] (tt k0 nn))))
theorem v6i (l0:List R2) (n:Nat) (vs:List AVal) (h:Zs (Uk l0) n (y1v l0)=.ret vs):Jw prog (Zy prog 157) (Za prog 157 [(.dat l0.length (Zz l0))] true []) vs:=by have:=Zc (w4r l0) n _ (x6l l0);rwa [h] at this
def z0u (s:R2):Bool:=decide (s.a<s.b)&&(decide (s.a≥ -1000000)&&decide (s.b≤1000000))
def Ka (l:List R2):List R3:=l.flatMap fun s=>[⟨s.a,0,1⟩,⟨s.b,0,-1⟩]
def Vp (out:List R2) (last:Int) (inn:Bool) (at':Int):List R2:=
 bif !inn then out else bif last == at' then out else
 bif decide (0<out.length)&&((rd out (out.length - 1)).b == last) then out.set (out.length - 1) ⟨(rd out (out.length - 1)).a,at'⟩ else out++[⟨last,at'⟩]
def swF :List R3→Int→Int→Bool→List R2→List R2
 | [],_,_,_,out=>out
 | e::r,o,last,inn,out=>swF r (o+e.c) e.a (decide (o+e.c>0)) (Vp out last inn e.a)
def swV (l:List R2):List R2:=swF (z0v (Ka l)) 0 0 false []
def Xb (l:List R2):List R2:=bif decide (400<l.length) then [] else bif l.all z0u then swV l else []
def u2d (l:List R2):Int:=bif decide (400<l.length) then 4 else bif l.all z0u then 0 else 8
def y3u (l:List R2):Bool:=true
def x3a (l:List R2):List AVal:=bif decide (400<l.length) then [.nils,.int .i64 4] else bif l.all z0u then [.dat (swV l).length (Zz (swV l)),.int .i64 0] else [.nils,.int .i64 8]
theorem z4i (l:List R2):(Ka l).length =2*l.length:=by
 induction l with
 | nil=>rfl
 | cons r l ih=>show (_::_::Ka l).length =_;simp only [AV,ih];omega
theorem z3a (out:List R2) (last:Int) (inn:Bool) (a:Int):(Vp out last inn a).length ≤out.length+1:=by
 unfold Vp;cases inn <;> simp only [AE,AI,Ab,Aa]
 ·omega
 ·cases (last == a) <;> simp only [Ab,Aa]
  ·cases (decide (0<out.length)&&((rd out (out.length - 1)).b == last)) <;> simp
  ·omega
theorem y1u (e:R3) (r:List R3) (o last:Int) (inn:Bool) (out:List R2):swF (e::r) o last inn out=swF r (o+e.c) e.a (decide (o+e.c>0)) (Vp out last inn e.a):=rfl
theorem j0d {a:Int} (k:Nat) (h:a=(k:Int)):decide (a=Int.ofNat k)=true:=Ag h
section
variable (l:List R2) (hl:l.length≤400)
include hl
theorem u1z (L:List R3) (hL:L.length≤800) (hE: ∀i,i<L.length→(rd L i).b =0∧((rd L i).c =1∨(rd L i).c = -1)): ∀(k i:Nat) (o last:Int) (inn:Bool) (out:List R2),i+k=L.length→ -(i:Int)≤o→o≤i→out.length≤i→
  ∃n,Zs (Uk l) n (.to (.h2 L (L.length:Int) (i:Int) o 0 last inn out))=.ret [.dat (swF (L.drop i) o last inn out).length (Zz (swF (L.drop i) o last inn out)),.int .i64 0]
 | 0,i,o,last,inn,out,h,ho1,ho2,hout=>by have _uhl:=hl;refine ⟨1,?_⟩;rw [Zv,Ar (by omega)];simp (disch:=omega) only [Uk,Yz,Aa,Zp,swF]
 | k +1,i,o,last,inn,out,h,ho1,ho2,hout=>by
  obtain ⟨hb,hc⟩:=hE i (by omega);have hcl:=z3a out last inn (rd L i).a;obtain ⟨n,hn⟩:=u1z L hL hE k (i+1) (o+(rd L i).c) (rd L i).a (decide (o+(rd L i).c >0)) (Vp out last inn (rd L i).a) (by omega) (by rcases hc with hc | hc <;> omega) (by rcases hc with hc | hc <;> omega) (by omega);refine ⟨n+1,?_⟩;rw [Yx (show i<L.length by omega),Zv];have hf: ∀b,w3o b (decide ((0:Int)>0))=b:=fun b=>rfl;have hw:wrap .i64 (o+(rd L i).c)=o+(rd L i).c :=Zk (by rcases hc with hc | hc <;> omega);rw [y1u];have hf': ∀b,w3o b false=b:=fun b=>rfl;have hz:=j0d 0 hb;unfold Vp at hn ⊢;cases inn with
  | false=>simp only [AI,Ab] at hn ⊢;simp (disch:=omega) only [Uk,AI,hz,hw,hf,hf',Zo,Zr,Yk,Zk,Zx,Zj,Ah,Ai,Ab];exact hn
  | true=>
   simp only [AE,Aa] at hn ⊢;rcases Ym (last == (rd L i).a) with q | q
   ·rw [q] at hn ⊢;simp only [Ab] at hn ⊢;simp (disch:=omega) only [Uk,AE,q,hz,hw,hf,hf',Zo,Zr,Yk,Zk,Zx,Zj,Ah,Ai,Ab,Aa];exact hn
   ·rw [q] at hn ⊢;simp only [Aa] at hn ⊢;by_cases h0:0<out.length
    ·rw [Ag h0,Al] at hn ⊢;rcases Ym ((rd out (out.length - 1)).b == last) with q2 | q2
     ·rw [q2] at hn ⊢;simp only [Ab] at hn ⊢;simp (disch:=omega) only [Uk,AE,q,q2,hz,hw,hf,hf',Zo,Yn,Zr,Yk,Zk,Zx,Zj,Zh,Ah,Ai,Ab,Aa];exact hn
     ·rw [q2] at hn ⊢;simp only [Aa] at hn ⊢;simp (disch:=omega) only [Uk,AE,q,q2,hz,hw,hf,hf',Zo,Yn,Zr,Yk,Yp,Zf,Yg,Av,Zk,Zx,Zj,Zh,Ah,Ai,Al,Ab,Aa];exact hn
    ·rw [Au h0,Bq] at hn ⊢;simp only [Aa] at hn ⊢;simp (disch:=omega) only [Uk,AE,q,hz,hw,hf,hf',Zo,Xm,Zr,Yk,Yp,Zf,Yg,Av,Zk,Zx,Zj,Ah,Ai,Al,Ab,Aa];exact hn
theorem v4k (h:l.all z0u=true): ∀e∈Ka l,bnd3 e=true∧e.b=0∧(e.c=1∨e.c= -1):=by
 have _uhl:=hl;intro e he;obtain ⟨s,hs,h1⟩:=AP.1 he;have hv:=Aw.1 h s hs;simp only [z0u,Ac,At] at hv;simp only [AG,BD,Cq] at h1;rcases h1 with rfl | rfl
 ·exact ⟨Ag (by simp only;omega),rfl,.inl rfl⟩
 ·exact ⟨Ag (by simp only;omega),rfl,.inr rfl⟩
theorem u2a (hv:l.all z0u=true): ∀(k i:Nat) (acc:List R3),i+k=l.length→acc=Ka (l.take i)→ ∃n,Zs (Uk l) n (.to (.h1 acc (i:Int)))=.ret [.dat (swV l).length (Zz (swV l)),.int .i64 0]
 | 0,i,acc,h,ha=>by
  have e:acc=Ka l:=by rw [ha,AQ (by omega)]
  subst e;have hle:=z4i l;have eA:=v4k l hl hv;have hb:y1j (Ka l)=true:=Aw.2 fun e he=>(eA e he).1;obtain ⟨hp,_⟩:=Kr (Ka l) hb;have hpl:=hp.length_eq;obtain ⟨n,hn⟩:=u1z l hl (z0v (Ka l)) (by omega) (fun i hi=>by
   rw [Yo hi];exact (eA _ (hp.mem_iff.1 (AN hi))).2) (z0v (Ka l)).length 0 0 0 false [] (Ah _) (by omega) (by omega) (AD _)
  refine ⟨n+1,?_⟩;rw [Zv];simp (disch:=omega) only [Uk,Zm,Zq,hb,Yz,Yk,Yp,Av,Ab,Aa];rw [←hpl];simp only [Kb,AX] at hn;exact hn
 | k+1,i,acc,h,ha=>by
  have hle:=z4i (l.take i);have eX:acc.length≤2*i:=by rw [ha,hle];simp;omega
  obtain ⟨n,hn⟩:=u2a hv k (i+1) (acc++Ka [rd l i]) (by omega) (by
   rw [ha,Ba];have:l[i]? =some (rd l i):=by rw [Yo (show i<l.length by omega)];exact Aq _
   rw [this];simp [Ka])
  refine ⟨n+1,?_⟩;rw [Zv];simp (disch:=omega) only [Uk,Zo,Zr,Yc,Yp,Zf,Yg,Av,Zk,Zx,Zj,Ah,Ai,Al,Ab];exact hn
theorem u2b : ∀(k i:Nat),i+k=l.length→(∀s∈l.take i,z0u s=true)→ ∃n,Zs (Uk l) n (.to (.h0 (i:Int)))=.ret (bif l.all z0u then [.dat (swV l).length (Zz (swV l)),.int .i64 0] else [.nils,.int .i64 8])
 | 0,i,h,ht=>by have hv:l.all z0u=true:=Aw.2 fun s hs=>ht s (by rw [AQ (by omega)];exact hs);obtain ⟨n,hn⟩:=u2a l hl hv l.length 0 [] (Ah _) rfl;refine ⟨n+1,?_⟩;rw [Zv,hv,Ab];simp (disch:=omega) only [Uk,Yz,Aa];exact hn
 | k+1,i,h,ht=>by
  have hi:i<l.length:=by omega
  rcases Ym (z0u (rd l i)) with q | q
  ·obtain ⟨n,hn⟩:=u2b k (i+1) (by omega) (fun s hs=>by
    rw [Ba] at hs;have e:l[i]? =some (rd l i):=by rw [Yo hi];exact Aq _
    rw [e] at hs;simp only [Cf,AF,AS] at hs;rcases hs with hs | rfl
    ·exact ht s hs
    ·exact q)
   refine ⟨n+1,?_⟩;rw [Zv];simp only [z0u,Ac,At] at q;simp (disch:=omega) only [Uk,Zo,Xn,dge_t,Zr,Zk,Zx,Zj,AE,Ai,Ab,Aa];exact hn
  ·have hv:l.all z0u=false:=A9.2 fun e=>by have:=Aw.1 e (rd l i) (by rw [Yo hi];exact AN hi);rw [this] at q;cases q
   refine ⟨1,?_⟩;rw [Zv,hv,Aa];unfold z0u at q;rcases Ym (decide ((rd l i).a <(rd l i).b)) with q1 | q1 <;> rcases Ym (decide ((rd l i).a ≥ -1000000)) with q2 | q2 <;> rcases Ym (decide ((rd l i).b ≤1000000)) with q3 | q3 <;>
    rw [q1,q2,q3] at q <;> first
    | (exfalso;revert q;decide)
    | simp (disch:=omega) only [Uk,q1,q2,q3,Zo,dge_t,Zr,Zk,Zx,Zj,AE,AI,Ai,Ab,Aa,Zp]
end
theorem u7v (l:List R2): ∃n,Zs (Uk l) n (y1v l)=.ret (x3a l):=by
 unfold y1v x3a;by_cases h:400<l.length
 ·refine ⟨0,?_⟩;rw [Ag h,Yn (show (l.length:Int)>400 by omega)];rfl
 ·obtain ⟨n,hn⟩:=u2b l (by omega) l.length 0 (Ah _) (fun s hs=>by simp at hs);refine ⟨n,?_⟩;rw [Au h,Xm (show¬(l.length:Int)>400 by omega),Aa,Aa];exact hn
def fSpm :List AVal→Option (AVal×Bool)
 | [a1]=>match asL R2 a1 with
  | some (L1,g1,n1)=>some (.tup [.dat (Xb L1).length (Zz (Xb L1)),.int .i64 (u2d L1)],isT R2 n1 g1&&y3u L1)
  | _=>none
 | _=>none
theorem j1x {S:Specs} (hS:Zu prog S):Zu prog (S.with x4c fSpm):=by
 refine w8s hS (by kernel_rfl) fun args v h=> ?_;unfold fSpm at h;split at h
 ·rename_i a1;split at h
  ·rename_i L1 g1 n1 e1;simp only [Ae,Ad,Ac] at h;obtain ⟨rfl,ho1,hw⟩:=h;obtain ⟨N,hN⟩:=u7v L1;refine ⟨_,x3a L1,(.cons (asL_le e1 ho1) .nil),?_,v6i L1 N _ hN,3,?_⟩
   ·unfold Xb u2d x3a;cases decide (400<L1.length) <;> simp only [Ab,Aa]
    ·cases L1.all z0u <;> simp only [Ab,Aa]
     ·exact fun ρ u hu=>z3q (.cons (z6k R2) (RLe.refl _)) ρ u hu
     ·exact fun ρ u hu=>hu
    ·exact fun ρ u hu=>z3q (.cons (z6k R2) (RLe.refl _)) ρ u hu
   ·unfold x3a;cases decide (400<L1.length) <;> simp only [Ab,Aa]
    ·cases L1.all z0u <;> rfl
    ·rfl
  ·cases h
 ·cases h
def T6 :Specs:=T5.with x4c fSpm
theorem Kg :Zu prog T6:=j1x Qt
theorem y0b {γ:Type} (a b:Bool) (x y:γ):(bif a&&b then x else y)=bif a then (bif b then x else y) else y:=by cases a <;> rfl
theorem z6u {γ:Type} (a:Bool) (x y:γ):(bif !a then x else y)=bif a then y else x:=by cases a <;> rfl
structure Dim (α β:Type) where
 lo:α→Int
 hi:α→Int
 pr:α→β
 put:Int→Int→β→α
 ext:Int→α→α
 mak:List β→List β
 same:List β→List β→Bool
structure Sw (α β:Type) where
 out:List α
 last:List β
 first:Nat
 fin:Int
def Jq (zs:List Int):List Int:=compact (Xu zs)
theorem z9z (zs:List Int):w8t (Xu zs)=(Jq zs).length :=rfl
theorem Xf (zs:List Int):(Xu zs).length =zs.length:=List.length_mergeSort zs
theorem z2y (zs:List Int):(Jq zs).length ≤zs.length:=by have:=compact_length_le (Xu zs);rw [Xf] at this;exact this
theorem z4b (zs:List Int) (i:Nat) (h:i<(Jq zs).length):rd (Wa (Xu zs)) i=rd (Jq zs) i:=by change i<(compact (Xu zs)).length at h;show rd (compact (Xu zs)++_) i=rd (compact (Xu zs)) i;rw [Yo (by rw [Ay];exact Nat.lt_add_right _ h),Yo h,Bw h]
theorem z0c (zs:List Int):Yw zs.length (cOf (Zz (Xu zs)))=Xu zs:=by have:=Xr (Xu zs);rw [Xf] at this;exact this
namespace Dim
variable {α β:Type} (D:Dim α β) (l:List α)
def ends :List Int:=l.flatMap fun r=>[D.lo r,D.hi r]
def cuts :List Int:=Jq (D.ends l)
def inn (x:Int):List β:=(l.filter fun r=>decide (D.lo r≤x)&&decide (x<D.hi r)).map D.pr
def sec (x:Int):List β:=D.mak (D.inn l x)
def grow (out:List α) (k:Nat) (x:Int):List α:=out.take k++(out.drop k).map (D.ext x)
def one (x x':Int) (s:Sw α β):Sw α β:=
 bif decide (0<(D.sec l x).length)&&((s.fin == x)&&D.same s.last (D.sec l x)) then ⟨D.grow s.out s.first x',s.last,s.first,x'⟩
 else ⟨s.out++(D.sec l x).map (D.put x x'),D.sec l x,s.out.length,x'⟩
def go :Nat→Nat→Sw α β→Sw α β
 | 0,_,s=>s
 | k+1,i,s=>go k (i+1) (D.one l (rd (D.cuts l) i) (rd (D.cuts l) (i+1)) s)
def out :List α:=(D.go l ((D.cuts l).length - 1) 0 ⟨[],[],0,0⟩).out
theorem ends_length :(D.ends l).length =2*l.length:=by
 induction l with
 | nil=>rfl
 | cons r l ih=>show (_::_::D.ends l).length =_;simp only [AV,ih];omega
theorem cuts_length :(D.cuts l).length ≤2*l.length:=by have:=z2y (D.ends l);rw [D.ends_length] at this;exact this
theorem ends_append (m:List α):D.ends (l++m)=D.ends l++D.ends m:=by simp [ends]
theorem inn_append (m:List α) (x:Int):D.inn (l++m) x=D.inn l x++D.inn m x:=by simp [inn]
theorem inn_length (x:Int):(D.inn l x).length ≤l.length:=by simpa [inn] using BO _ l
theorem inn_t (r:α) (x:Int) (h1:D.lo r≤x) (h2:x<D.hi r):D.inn [r] x=[D.pr r]:=by simp [inn,h1,h2]
theorem inn_f1 (r:α) (x:Int) (h1: ¬D.lo r≤x):D.inn [r] x=[]:=by simp [inn,h1]
theorem inn_f2 (r:α) (x:Int) (h1: ¬x<D.hi r):D.inn [r] x=[]:=by simp [inn,h1]
theorem grow_nil (out:List α) (k:Nat) (x:Int) (h:out.length≤k):D.grow out k x=out:=by unfold grow;rw [Ar h,A5,AB,AQ h]
theorem grow_length (out:List α) (k:Nat) (x:Int):(D.grow out k x).length =out.length:=by unfold grow;simp;omega
theorem grow_set [Xz α] (out:List α) (j:Nat) (x:Int) (h:j<out.length):D.grow (out.set j (D.ext x (rd out j))) (j+1) x=D.grow out j x:=by
 unfold grow;rw [Yx h,AW];have e1:(out.set j (D.ext x (rd out j))).take (j+1)=out.take j++[D.ext x (rd out j)]:=by
  apply Cc
  ·simp;omega
  ·intro n h1 h2;simp only [Bl,List.getElem_set];by_cases e:j=n
   ·subst e;rw [Az rfl,BE (by simp only [Bc];omega)];simp
   ·rw [As e,Bw (by simp at h1 ⊢;omega),Bl]
 have e2:(out.set j (D.ext x (rd out j))).drop (j+1)=out.drop (j+1):=by rw [List.drop_set];rw [Az (by omega)]
 rw [e1,e2,AH];rfl
theorem one_length (x x':Int) (s:Sw α β):(D.one l x x' s).out.length ≤s.out.length+(D.sec l x).length :=by unfold one;cases (decide (0<(D.sec l x).length)&&((s.fin == x)&&D.same s.last (D.sec l x))) <;> simp [grow_length]
end Dim
open Go.Proofs.Tryz
open Go.Proofs
inductive vl4S where
def vl4C (aU:Int) (aV:Int) (aW:Int) (bQ:Int):vl4S→Cfg
 :=nofun
def x6c (aU:Int) (aV:Int) (aW:Int) (bQ:Int):vl4S→Xv vl4S
 :=nofun
def y1s (aU:Int) (aV:Int) (aW:Int) (bQ:Int):Xv vl4S:=(bif (decide (aU<aW)) then (bif (decide (aV<bQ)) then (bif (decide (aU≥(-1000000))) then (bif (decide (aU≤1000000)) then (bif (decide (aW≥(-1000000))) then (bif (decide (aW≤1000000)) then (bif (decide (aV≥(-1000000))) then (bif (decide (aV≤1000000)) then (bif (decide (bQ≥(-1000000))) then (.ret [(.bool (decide (bQ≤1000000)))]) else (.ret [(.bool false)])) else (.ret [(.bool false)])) else (.ret [(.bool false)])) else (.ret [(.bool false)])) else (.ret [(.bool false)])) else (.ret [(.bool false)])) else (.ret [(.bool false)])) else (.ret [(.bool false)])) else (.ret [(.bool false)]))
theorem w4g (aU:Int) (aV:Int) (aW:Int) (bQ:Int): ∀s,Ys prog (Zy prog 120) (vl4C aU aV aW bQ) (vl4C aU aV aW bQ s) (x6c aU aV aW bQ s)
 :=nofun
theorem x6d (aU:Int) (aV:Int) (aW:Int) (bQ:Int):Ys prog (Zy prog 120) (vl4C aU aV aW bQ) (Za prog 120 [(.agg [(.int .i64 aU),(.int .i64 aV),(.int .i64 aW),(.int .i64 bQ)])] true []) (y1s aU aV aW bQ):=(lb (fun k0=>(lb (fun k1=>(lb (fun k2=>(lb (fun k3=>(lb (fun k4=>(lb (fun k5=>(lb (fun k6=>(lb (fun k7=>(lb (fun k8=>(lr 35 3 [1,1,1,1,1,1,1,0] 1 3 [(2,(.bool (decide (bQ≤1000000))))] (sl Kg 101 [] ⟨[],[],[some [2]],[]⟩ ⟨[],[],[]⟩ (trs 25 []) (tt k8 (tt k7 (tt k6 (tt k5 (tt k4 (tt k3 (tt k2 (tt k1 (tt k0 nn)))))))))))) (fun k8=>(lr 35 3 [1,1,1,1,1,1,1,0] 1 3 [(2,(.bool false))] (sl Kg 101 [] ⟨[],[],[some [2]],[]⟩ ⟨[],[],[]⟩ (trs 23 [false,false]) (tt k8 (tt k7 (tt k6 (tt k5 (tt k4 (tt k3 (tt k2 (tt k1 (tt k0 nn)))))))))))))) (fun k7=>(lr 35 3 [1,1,1,1,1,1,1,0] 1 3 [(2,(.bool false))] (sl Kg 86 [] ⟨[],[],[some [2]],[]⟩ ⟨[],[],[]⟩ (trs 20 [false,false,false]) (tt k7 (tt k6 (tt k5 (tt k4 (tt k3 (tt k2 (tt k1 (tt k0 nn))))))))))))) (fun k6=>(lr 35 3 [1,1,1,1,1,1,1,0] 1 3 [(2,(.bool false))] (sl Kg 86 [] ⟨[],[],[some [2]],[]⟩ ⟨[],[],[]⟩ (trs 18 [false,false,false,false,false]) (tt k6 (tt k5 (tt k4 (tt k3 (tt k2 (tt k1 (tt k0 nn)))))))))))) (fun k5=>(lr 35 3 [1,1,1,1,1,1,1,0] 1 3 [(2,(.bool false))] (sl Kg 71 [] ⟨[],[],[some [2]],[]⟩ ⟨[],[],[]⟩ (trs 15 [false,false,false,false,false,false]) (tt k5 (tt k4 (tt k3 (tt k2 (tt k1 (tt k0 nn))))))))))) (fun k4=>(lr 35 3 [1,1,1,1,1,1,1,0] 1 3 [(2,(.bool false))] (sl Kg 71 [] ⟨[],[],[some [2]],[]⟩ ⟨[],[],[]⟩ (trs 13 [false,false,false,false,false,false,false,false]) (tt k4 (tt k3 (tt k2 (tt k1 (tt k0 nn)))))))))) (fun k3=>(lr 35 3 [1,1,1,1,1,1,1,0] 1 3 [(2,(.bool false))] (sl Kg 56 [] ⟨[],[],[some [2]],[]⟩ ⟨[],[],[]⟩ (trs 10 [false,false,false,false,false,false,false,false,false]) (tt k3 (tt k2 (tt k1 (tt k0 nn))))))))) (fun k2=>(lr 35 3 [1,1,1,1,1,1,1,0] 1 3 [(2,(.bool false))] (sl Kg 56 [] ⟨[],[],[some [2]],[]⟩ ⟨[],[],[]⟩ (trs 8 [false,false,false,false,false,false,false,false,false,false,false]) (tt k2 (tt k1 (tt k0 nn)))))))) (fun k1=>(lr 35 3 [1,1,1,1,1,1,1,0] 1 3 [(2,(.bool false))] (sl Kg 41 [] ⟨[],[],[some [2]],[]⟩ ⟨[],[],[]⟩ (trs 5 [false,false,false,false,false,false,false,false,false,false,false,false]) (tt k1 (tt k0 nn))))))) (fun k0=>(lr 35 3 [1,1,1,1,1,1,1,0] 1 3 [(2,(.bool false))] (sl Kg 41 [] ⟨[],[],[some [2]],[]⟩ ⟨[],[],[]⟩ [false,false,false,false,false,false,false,false,false,false,false,false,false,false,false,false,false] (tt k0 nn)))))
theorem v6c (aU:Int) (aV:Int) (aW:Int) (bQ:Int) (n:Nat) (vs:List AVal) (h:Zs (x6c aU aV aW bQ) n (y1s aU aV aW bQ)=.ret vs):Jw prog (Zy prog 120) (Za prog 120 [(.agg [(.int .i64 aU),(.int .i64 aV),(.int .i64 aW),(.int .i64 bQ)])] true []) vs:=by have:=Zc (w4g aU aV aW bQ) n _ (x6d aU aV aW bQ);rwa [h] at this
inductive madS where
 | h0 (v16:Int) (aA:List Int)
 | h1 (v4:Int) (aN:List R4) (aY:List R2) (bF:Int) (bG:Int) (aT:Nat) (bE:List Int)
 | h2 (v4:Int) (v38:Int) (aN:List R4) (aY:List R2) (bF:Int) (bG:Int) (aT:Nat) (bE:List Int) (aC:Int) (cK:Int) (aL:List R2)
 | h3 (v1:Int) (v2:Int) (v71:List R2) (v72:Int) (v73:Int) (bY:List R2) (aS:Int) (aD:List R4) (bC:List R2) (bD:Int) (aT:Nat) (bE:List Int) (aC:List R2)
 | h4 (v2:Int) (v8:Int) (cM:Int) (bY:List R2) (aS:Int) (aD:List R4) (bC:List R2) (bD:Int) (bX:Int) (cH:Nat) (cL:List Int) (aL:List R2)
abbrev y8z (aD:List R4) (v8:Int) (v2:Int):=(aD.set (0+(tn v8)) (R4.mk (rd aD (0+(tn v8))).a (rd aD (0+(tn v8))).b v2 (rd aD (0+(tn v8))).d))
abbrev y8y (aA:List Int):=(Wa (Yw aA.length (cOf (Zz (Xu (Yw aA.length (cOf (Zz aA))))))))
def u6n :AFr:=⟨⟨29,0,true⟩,none,(.inRangeFunc 0::(Zb prog 121 [1,1,0,1,0] 1)),none,(Zy prog 15),Ya [(2,.nils),(3,(ii 0)),(4,(.ptr 1 0))]⟩
def u6m :=(y6v [(0,⟨.ready,none,29,Ya [(4,(.ptr 1 0))],[11],(Vd prog 121 [1,1,0,1,0,0]),(Vd prog 121 [1,1,0,1,0,1])⟩)])
abbrev y8x (aL:List R2) (l0:List R4) (v38:Int):=(aL++[(R2.mk (rd l0 (tn v38)).b (rd l0 (tn v38)).d)])
abbrev y8w (aD:List R4) (v1:Int) (v71:List R2) (v73:Int) (v2:Int):=(aD++[(R4.mk v1 (rd v71 (tn v73)).a v2 (rd v71 (tn v73)).b)])
def x4f (l0:List R4):ABlk:=⟨[(.dat l0.length (Zz l0))],99,none⟩
abbrev y8v (aA:List Int) (l0:List R4) (v16:Int):=(aA++[(rd l0 (tn v16)).a,(rd l0 (tn v16)).c])
def madC (l0:List R4):madS→Cfg
 | .h0 v16 aA=>⟨⟨34,0,true⟩,none,(Zb prog 156 [1,1,0,1,0,0,1,1,0,0,1,1,0,0] 0),none,(Zy prog 3),⟨Ya [(1,(.ptr 0 0)),(3,(.ptr 2 0)),(8,(.sl 1 0 1 (.un 1))),(9,(ii 1)),(10,(ii 0)),(14,(.dat l0.length (Zz l0))),(15,(ii (l0.length:Int))),(16,(ii v16))],Wr [⟨[(.sl 1 0 1 (.un 1))],171,none⟩,(x4f l0),⟨[(.sla 4 1 0 aA.length (.un 1))],93,none⟩,⟨[.nils,.nils,(ii 0),(ii 0)],200,none⟩,⟨rows aA.length (Zz aA),3,some ⟨1,aA.length,(Zz aA)⟩⟩] 0,5,[],true⟩,[⟨⟨29,0,true⟩,(Ur prog 121 [1,1,0,0] 2),(Zb prog 121 [1,1,0,0] 1),none,(Zy prog 15),Ya [(2,.nils),(3,(ii 0)),(4,(.ptr 3 0)),(9,(.sl 1 0 1 (.un 1)))]⟩],.leaf⟩
 | .h1 v4 aN aY bF bG aT bE=>⟨⟨76,0,true⟩,none,(Zb prog 182 [1,0,0] 0),none,[],⟨Ya [(0,(.yld 0)),(1,(.ptr 2 0)),(2,(.ptr 4 0)),(4,(ii v4))],y0t [(1,⟨[(.sla 6 4 0 aN.length (.un 4)),(.dat aY.length (Zz aY)),(ii bF),(ii bG)],200,none⟩),(2,⟨[(.sla 3 1 0 aT (.un 1))],93,none⟩),(3,⟨rows bE.length (Zz bE),3,some ⟨1,bE.length,(Zz bE)⟩⟩),(4,⟨[(.sl 5 0 1 (.un 1))],171,none⟩),(5,(x4f l0)),(6,⟨rows aN.length (Zz aN),88,some ⟨4,aN.length,(Zz aN)⟩⟩)],7,[],true⟩,[u6n],u6m⟩
 | .h2 v4 v38 aN aY bF bG aT bE aC cK aL=>⟨⟨76,0,true⟩,none,(Zb prog 182 [1,0,0,1,0,0,1,0,1,0,0,1,1,0,0,1,1,0,0] 0),none,[],⟨Ya [(0,(.yld 0)),(1,(.ptr 2 0)),(2,(.ptr 4 0)),(4,(ii v4)),(5,(.ptr 6 0)),(6,(ii 0)),(29,(.sl 5 0 1 (.un 1))),(30,(ii 1)),(31,(ii 0)),(36,(.dat l0.length (Zz l0))),(37,(ii (l0.length:Int))),(38,(ii v38))],y0t [(1,⟨[(.sla 9 4 0 aN.length (.un 4)),(.dat aY.length (Zz aY)),(ii bF),(ii bG)],200,none⟩),(2,⟨[(.sla 3 1 0 aT (.un 1))],93,none⟩),(3,⟨rows bE.length (Zz bE),3,some ⟨1,bE.length,(Zz bE)⟩⟩),(4,⟨[(.sl 5 0 1 (.un 1))],171,none⟩),(5,(x4f l0)),(6,⟨[(ii aC),(ii cK),(.sl 7 0 1 (.ex 1))],205,none⟩),(7,⟨[(.sla 8 2 0 aL.length (.un 2))],180,none⟩),(8,⟨rows aL.length (Zz aL),183,some ⟨2,aL.length,(Zz aL)⟩⟩),(9,⟨rows aN.length (Zz aN),88,some ⟨4,aN.length,(Zz aN)⟩⟩)],10,[],true⟩,[u6n],u6m⟩
 | .h3 v1 v2 v71 v72 v73 bY aS aD bC bD aT bE aC=>⟨⟨94,0,true⟩,none,(Zb prog 158 [1,1,1,0,0] 0),none,[],⟨Ya [(0,(.ptr 0 0)),(1,(ii v1)),(2,(ii v2)),(71,(.dat v71.length (Zz v71))),(72,(ii v72)),(73,(ii v73))],y0t [(0,⟨[(.sla 7 4 0 aD.length (.un 4)),(.dat bC.length (Zz bC)),(ii bD),(ii v2)],200,none⟩),(2,⟨[(.sla 3 1 0 aT (.un 1))],93,none⟩),(3,⟨rows bE.length (Zz bE),3,some ⟨1,bE.length,(Zz bE)⟩⟩),(4,⟨[(.sl 5 0 1 (.un 1))],171,none⟩),(5,(x4f l0)),(6,⟨[(.dat aC.length (Zz aC))],180,none⟩),(7,⟨rows aD.length (Zz aD),88,some ⟨4,aD.length,(Zz aD)⟩⟩)],8,[],true⟩,[⟨⟨29,0,true⟩,(Ur prog 121 [1,1,0,1,0,1,0,1] 5),(Zb prog 121 [1,1,0,1,0,1,0,1] 1),(some 1),[],Ya [(4,(.ptr 0 0)),(21,(ii v1)),(23,(ii v2)),(24,(.dat bY.length (Zz bY)))]⟩,⟨⟨76,0,true⟩,(Ur prog 182 [1,0,0,1,0,0,1,1,0] 2),(Zb prog 182 [1,0,0,1,0,0,1,1,0] 1),none,[],Ya [(0,(.yld 1)),(1,(.ptr 2 0)),(2,(.ptr 4 0)),(4,(ii aS)),(72,(.yld 1)),(73,(.agg [(ii v1),(ii v2),(.sl 6 0 1 (.ex 1))]))]⟩,⟨⟨29,0,true⟩,none,(.inRangeFunc 1::(Zb prog 121 [1,1,0,1,0] 1)),none,(Zy prog 15),Ya [(2,.nils),(3,(ii 0)),(4,(.ptr 0 0))]⟩],(y6v [(1,⟨.busy,none,29,Ya [(4,(.ptr 0 0))],[11],(Vd prog 121 [1,1,0,1,0,0]),(Vd prog 121 [1,1,0,1,0,1])⟩)])⟩
 | .h4 v2 v8 cM bY aS aD bC bD bX cH cL aL=>⟨⟨94,0,true⟩,none,(Zb prog 158 [0,1,0,0,1,0,0] 0),none,[],⟨Ya [(0,(.ptr 0 0)),(2,(ii v2)),(8,(ii v8))],y0t [(0,⟨[(.sla 1 4 0 aD.length (.un 4)),(.dat bC.length (Zz bC)),(ii bD),(ii bX)],200,none⟩),(1,⟨rows aD.length (Zz aD),88,some ⟨4,aD.length,(Zz aD)⟩⟩),(3,⟨[(.sla 4 1 0 cH (.un 1))],93,none⟩),(4,⟨rows cL.length (Zz cL),3,some ⟨1,cL.length,(Zz cL)⟩⟩),(5,⟨[(.sl 6 0 1 (.un 1))],171,none⟩),(6,(x4f l0)),(7,⟨[(.dat aL.length (Zz aL))],180,none⟩)],8,[],true⟩,[⟨⟨29,0,true⟩,(Ur prog 121 [1,1,0,1,0,1,0,1] 5),(Zb prog 121 [1,1,0,1,0,1,0,1] 1),(some 2),[],Ya [(4,(.ptr 0 0)),(21,(ii cM)),(23,(ii v2)),(24,(.dat bY.length (Zz bY)))]⟩,⟨⟨76,0,true⟩,(Ur prog 182 [1,0,0,1,0,0,1,1,0] 2),(Zb prog 182 [1,0,0,1,0,0,1,1,0] 1),none,[],Ya [(0,(.yld 2)),(1,(.ptr 3 0)),(2,(.ptr 5 0)),(4,(ii aS)),(72,(.yld 2)),(73,(.agg [(ii cM),(ii v2),(.sl 7 0 1 (.ex 1))]))]⟩,⟨⟨29,0,true⟩,none,(.inRangeFunc 2::(Zb prog 121 [1,1,0,1,0] 1)),none,(Zy prog 15),Ya [(2,.nils),(3,(ii 0)),(4,(.ptr 0 0))]⟩],(y6v [(2,⟨.busy,none,29,Ya [(4,(.ptr 0 0))],[11],(Vd prog 121 [1,1,0,1,0,0]),(Vd prog 121 [1,1,0,1,0,1])⟩)])⟩
def madN0 :List (Option (List Nat)):=[some [1,3,8,9,10,14,15,16],some [2,3,4,9]]
def madM0 :List (Option (List Nat)):=[]
def j1b :List (Option (List Nat)):=[some [0,1,2,4],some [2,3,4]]
def j1c :List (Option (List Nat)):=[some [4],none,none,none,none,none,none]
def v9x :List (Option (List Nat)):=[some [0,1,2,4,5,6,29,30,31,36,37,38],some [2,3,4]]
def v9z :List (Option (List Nat)):=[some [4],none,none,none,none,none,none,none,none,none]
def v9w :List (Option (List Nat)):=[some [0,1,2,71,72,73],some [4,21,23,24],some [0,1,2,4,72,73],some [2,3,4]]
def v9y :List (Option (List Nat)):=[none,some [4],none,none,none,none,none,none]
def madN4 :List (Option (List Nat)):=[some [0,2,8],some [4,21,23,24],some [0,1,2,4,72,73],some [2,3,4]]
def madM4 :List (Option (List Nat)):=[none,none,some [4],none,none,none,none,none]
def Xd (l0:List R4):madS→Xv madS
 | .h0 v16 aA=>(bif (decide (v16<(l0.length:Int))) then (bif ((decide (0≤v16∧v16<(l0.length:Int)))&&true) then (bif (Nat.beq 1 1&&((decide (0+aA.length=aA.length))&&decide ((aA.length+2+1)*(8+1)≤Uj))) then (.to (.h0 (wrap .i64 (v16+1)) (aA++[(rd l0 v16.toNat).a,(rd l0 v16.toNat).c]))) else .stuck) else .stuck) else (bif (decide (aA.length<4611686018427387904)) then (bif (decide (aA.length=aA.length)) then (.to (.h1 1 ([]:List R4) ([]:List R2) 0 0 (w8t (Yw aA.length (cOf (Zz (Xu (Yw aA.length (cOf (Zz aA)))))))) (Wa (Yw aA.length (cOf (Zz (Xu (Yw aA.length (cOf (Zz aA)))))))))) else .stuck) else .stuck))
 | .h1 v4 aN aY bF bG aT bE=>(bif (decide (v4<((aT:Nat):Int))) then (bif ((decide (0≤(wrap .i64 (v4 - 1))∧(wrap .i64 (v4 - 1))<((aT:Nat):Int)))&&true) then (bif (decide ((0+(Int.toNat (wrap .i64 (v4 - 1))))<bE.length)) then (bif ((decide (0≤v4∧v4<((aT:Nat):Int)))&&true) then (bif (decide ((0+v4.toNat)<bE.length)) then (.to (.h2 v4 0 aN aY bF bG aT bE (rd bE (0+(Int.toNat (wrap .i64 (v4 - 1))))) (rd bE (0+v4.toNat)) ([]:List R2))) else .stuck) else .stuck) else .stuck) else .stuck) else (bif (decide ((aN.length:Int)>400)) then (.ret [.nils,(.int .i64 4)]) else (.ret [(.dat aN.length (Zz aN)),(.int .i64 0)])))
 | .h2 v4 v38 aN aY bF bG aT bE aC cK aL=>(bif (decide (v38<(l0.length:Int))) then (bif ((decide (0≤v38∧v38<(l0.length:Int)))&&true) then (bif (decide ((rd l0 v38.toNat).a ≤aC)) then (bif (decide (aC<(rd l0 v38.toNat).c)) then (bif (Nat.beq 2 2&&((decide (0+aL.length=aL.length))&&decide ((aL.length+1+1)*(16+1)≤Uj))) then (.to (.h2 v4 (wrap .i64 (v38+1)) aN aY bF bG aT bE aC cK (aL++[(R2.mk (rd l0 v38.toNat).b (rd l0 v38.toNat).d)]))) else .stuck) else (.to (.h2 v4 (wrap .i64 (v38+1)) aN aY bF bG aT bE aC cK aL))) else (.to (.h2 v4 (wrap .i64 (v38+1)) aN aY bF bG aT bE aC cK aL))) else .stuck) else (bif (y3u (cvT aL)) then (bif (decide ((((Xb (cvT aL)).length :Nat):Int)>0)) then (bif (bG == aC) then (bif (Va (cvT aY) (cvT (Xb (cvT aL)))) then (bif (Kd (cvT aY) (cvT (Xb (cvT aL)))) then (.to (.h4 cK bF aC (Xb (cvT aL)) v4 aN aY bF bG aT bE aL)) else (.to (.h3 aC cK (Xb (cvT aL)) (((Xb (cvT aL)).length :Nat):Int) 0 (Xb (cvT aL)) v4 aN (Xb (cvT aL)) (aN.length:Int) aT bE aL))) else .stuck) else (.to (.h3 aC cK (Xb (cvT aL)) (((Xb (cvT aL)).length :Nat):Int) 0 (Xb (cvT aL)) v4 aN (Xb (cvT aL)) (aN.length:Int) aT bE aL))) else (.to (.h3 aC cK (Xb (cvT aL)) (((Xb (cvT aL)).length :Nat):Int) 0 (Xb (cvT aL)) v4 aN (Xb (cvT aL)) (aN.length:Int) aT bE aL))) else .stuck))
 | .h3 v1 v2 v71 v72 v73 bY aS aD bC bD aT bE aC=>(bif (decide (v73<v72)) then (bif ((decide (0≤v73∧v73<(v71.length:Int)))&&true) then (bif (Nat.beq 4 4&&((decide (0+aD.length=aD.length))&&decide ((aD.length+1+1)*(32+1)≤Uj))) then (.to (.h3 v1 v2 v71 v72 (wrap .i64 (v73+1)) bY aS (aD++[(R4.mk v1 (rd v71 v73.toNat).a v2 (rd v71 v73.toNat).b)]) bC bD aT bE aC)) else .stuck) else .stuck) else (.to (.h1 (wrap .i64 (aS+1)) aD bC bD v2 aT bE)))
 | .h4 v2 v8 cM bY aS aD bC bD bX cH cL aL=>(bif (decide (v8<(aD.length:Int))) then (bif ((decide (0≤v8∧v8<(aD.length:Int)))&&true) then (bif (decide ((0+v8.toNat)<aD.length)) then (.to (.h4 v2 (wrap .i64 (v8+1)) cM bY aS (aD.set (0+v8.toNat) (R4.mk (rd aD (0+v8.toNat)).a (rd aD (0+v8.toNat)).b v2 (rd aD (0+v8.toNat)).d)) bC bD bX cH cL aL)) else .stuck) else .stuck) else (.to (.h1 (wrap .i64 (aS+1)) aD bC bD v2 cH cL)))
def x1e (l0:List R4):Xv madS:=(.to (.h0 0 ([]:List Int)))
theorem w6p (l0:List R4): ∀s,Ys prog (Zy prog 121) (madC l0) (madC l0 s) (Xd l0 s)
 | .h0 v16 aA=>(lb (fun k0=>(lo fun o0=>(lo fun o1=>(sl Kg 32 [] ⟨[0,1,2,3,7],[],madN0,madM0⟩ ⟨[],[.keep,.keep,.cells [.len (y8v aA l0 v16).length],.keep,.rowed 1 (y8v aA l0 v16).length (Zz (y8v aA l0 v16))],[]⟩ [true] (pp (xL (aA.length+2) (y8v aA l0 v16).length) (pp (xL (aA.length+2) (y8v aA l0 v16).length) (pp (xS (aA.length+2) (Ze (Zz aA) 0 aA.length 1 [(ii (rd l0 (tn v16)).a),(ii (rd l0 (tn v16)).c)]) (Zz (y8v aA l0 v16))) (pp (pp (xF (Ze (Zz aA) 0 aA.length 1 [(ii (rd l0 (tn v16)).a),(ii (rd l0 (tn v16)).c)])) nn) (ww o1 (ww o0 (tt k0 nn))))))))))) (fun k0=>(lo fun o0=>(lo fun o1=>(sl Kg 46 [(88,4,Zz ([]:List R4))] ⟨[5,3,2,4,0,1,6],[],j1b,j1c⟩ ⟨[],[.keep,.cells [.grow 6 4,.list 0 (Zz ([]:List R2)),.keep,.keep],.keep,.rowed 1 (y8y aA).length (Zz (y8y aA)),.keep,.keep,.keep],[]⟩ (bl 2 0) (pp (xL aA.length (y8y aA).length (by first | exact z1v _ _ | exact Wc rfl)) (pp (xS aA.length (Zz (y8y aA)) (Zz (y8y aA))) (pp (fl (y8y aA) (fl ([]:List R4) nn)) (pp (pp (xG (Nat.beq 1 1)) (pp (xG (Nat.beq 1 1)) (pp (xG (Nat.beq 0 0)) (pp (xG (decide (aA.length=aA.length))) (pp (xG (isI (Zz (Xu (Yw aA.length (cOf (Zz aA))))))) (xG (decide (aA.length<4611686018427387904)))))))) (pp (pp (xG (Nat.beq 1 1)) (pp (xG (Nat.beq 1 1)) (pp (xG (Nat.beq 0 0)) (pp (xG (decide (aA.length=aA.length))) (pp (xG (isI (Zz aA))) (xG (decide (aA.length<4611686018427387904)))))))) (tt k0 nn)))))))))))
 | .h1 v4 aN aY bF bG aT bE=>(lb (fun k0=>(lo fun o0=>(lo fun o1=>(lo fun o2=>(lo fun o3=>(sl Kg 48 [(183,2,Zz ([]:List R2))] ⟨[0,1,2,3,4,5,7,8,9,6],[],v9x,v9z⟩ ⟨[],(kpB 7 [.cells [.grow 8 2],.keep,.keep]),[]⟩ (trs 3 []) (pp (fl bE (fl ([]:List R2) (fl aN nn))) (ww o3 (ww o2 (ww o1 (ww o0 (tt k0 nn)))))))))))) (fun k0=>(lb (fun k1=>(lr 29 3 [1,1,1,1,1,1,1,0] 1 15 [(2,.nils),(3,(ii 4))] (sl Kg 43 [] ⟨[],[],[some [2,3]],[]⟩ ⟨[],[],[]⟩ (bl 2 2) (tt k1 (tt k0 nn))))) (fun k1=>(lr 29 3 [1,1,1,1,1,1,1,0] 1 15 [(2,(.dat aN.length (Zz aN))),(3,(ii 0))] (sl Kg 48 [] ⟨[],[6],[some [2,3]],[]⟩ ⟨[(2,.frz aN.length aN.length (Zz aN) (Zz aN))],[],[]⟩ (bl 2 0) (pp (xZ (z3k 4 4 0 aN.length aN.length (Zz aN)) aN.length (Zz aN)) (pp (xL aN.length aN.length) (pp (xS aN.length (Zz aN) (Zz aN)) (pp (fl aN nn) (tt k1 (tt k0 nn))))))))))))
 | .h2 v4 v38 aN aY bF bG aT bE aC cK aL=>(lb (fun k0=>(lo fun aF=>(lb (fun k1=>(lb (fun k2=>(lo fun o0=>(sl Kg 39 [] ⟨[0,1,2,3,4,5,6,7,12,9],[],v9x,v9z⟩ ⟨[],(kpB 7 [.cells [.len (y8x aL l0 v38).length],.rowed 2 (y8x aL l0 v38).length (Zz (y8x aL l0 v38)),.keep]),[]⟩ (trs 7 []) (pp (xL (aL.length+1) (y8x aL l0 v38).length) (pp (xL (aL.length+1) (y8x aL l0 v38).length) (pp (xS (aL.length+1) (Ze (Zz aL) 0 aL.length 2 [(ii (rd l0 (tn v38)).b),(ii (rd l0 (tn v38)).d)]) (Zz (y8x aL l0 v38))) (pp (fl bE (pp (xF (Ze (Zz aL) 0 aL.length 2 [(ii (rd l0 (tn v38)).b),(ii (rd l0 (tn v38)).d)])) (fl aN nn))) (ww o0 (tt k2 (tt k1 (ww aF (tt k0 nn)))))))))))) (fun k2=>(sl Kg 39 [] ⟨(List.range 10),[],v9x,v9z⟩ ⟨[],[],[]⟩ (trs 6 [false]) (pp (fl bE (fl aL (fl aN nn))) (tt k2 (tt k1 (ww aF (tt k0 nn))))))))) (fun k1=>(sl Kg 39 [] ⟨(List.range 10),[],v9x,v9z⟩ ⟨[],[],[]⟩ (bl 7 1) (pp (fl bE (fl aL (fl aN nn))) (tt k1 (ww aF (tt k0 nn))))))))) (fun k0=>(Wu (sl Kg (C':=⟨⟨29,0,true⟩,(Ur prog 121 [1,1,0,1,0,1,0,0] 4),(Zb prog 121 [1,1,0,1,0,1,0,0] 1),(some 0),[],⟨Ya [(4,(.ptr 1 0)),(5,(.ptr 3 0)),(16,(.dat aL.length (Zz aL)))],y0t [(1,⟨[(.sla 2 4 0 aN.length (.un 4)),(.dat aY.length (Zz aY)),(ii bF),(ii bG)],200,none⟩),(2,⟨rows aN.length (Zz aN),88,some ⟨4,aN.length,(Zz aN)⟩⟩),(3,⟨[(ii aC),(ii cK),(.sl 4 0 1 (.ex 1))],205,none⟩),(4,⟨[(.dat aL.length (Zz aL))],180,none⟩),(5,⟨[(.sla 6 1 0 aT (.un 1))],93,none⟩),(6,⟨rows bE.length (Zz bE),3,some ⟨1,bE.length,(Zz bE)⟩⟩),(7,⟨[(.sl 8 0 1 (.un 1))],171,none⟩),(8,⟨[(.dat l0.length (Zz l0))],99,none⟩)],9,[],true⟩,[⟨⟨76,0,true⟩,(Ur prog 182 [1,0,0,1,0,0,1,1,0] 2),(Zb prog 182 [1,0,0,1,0,0,1,1,0] 1),none,[],Ya [(0,(.yld 0)),(1,(.ptr 5 0)),(2,(.ptr 7 0)),(4,(ii v4)),(72,(.yld 0)),(73,(.agg [(ii aC),(ii cK),(.sl 4 0 1 (.ex 1))]))]⟩,⟨⟨29,0,true⟩,none,(.inRangeFunc 0::(Zb prog 121 [1,1,0,1,0] 1)),none,(Zy prog 15),Ya [(2,.nils),(3,(ii 0)),(4,(.ptr 1 0))]⟩],(y6v [(0,⟨.busy,none,29,Ya [(4,(.ptr 1 0))],[11],(Vd prog 121 [1,1,0,1,0,0]),(Vd prog 121 [1,1,0,1,0,1])⟩)])⟩) 37 [] ⟨[0,1,9,10,7,2,3,4,5],[8],[some [4,5,16],some [0,1,2,4,72,73],some [2,3,4]],[some [4],none,none,none,none,none,none,none,none]⟩ ⟨[(16,.frz aL.length aL.length (Zz aL) (Zz aL))],[.keep,.keep,.keep,.keep,.cells [.frz aL.length aL.length (Zz aL) (Zz aL)],.keep,.keep,.keep,.keep],[]⟩ (bl 2 0) (pp (xZ (z3k 2 2 0 aL.length aL.length (Zz aL)) aL.length (Zz aL)) (pp (xL aL.length aL.length) (pp (xS aL.length (Zz aL) (Zz aL)) (pp (xZ (z3k 2 2 0 aL.length aL.length (Zz aL)) aL.length (Zz aL)) (pp (xL aL.length aL.length) (pp (xS aL.length (Zz aL) (Zz aL)) (pp (fl aN (fl bE nn)) (pp (fl aL nn) (tt k0 nn)))))))))) (lo fun aF=>(lb (fun k1=>(lb (fun k2=>(lo fun cC=>(lb (fun k3=>(sl Kg 49 [] ⟨[1,2,0,5,6,7,8,4],[],madN4,madM4⟩ ⟨[],[],[]⟩ (trs 13 []) (pp (fl aN (fl bE nn)) (tt k3 (pp (pp (xr aY) (pp (xI R2 (Xb (cvT aL)).length (Zz (Xb (cvT aL)))) (xw cC))) (tt k2 (tt k1 (pp (pp (xr aL) (xw aF)) nn)))))))) (fun k3=>(sl Kg 69 [] ⟨[1,0,5,6,7,8,4,2],[],v9w,v9y⟩ ⟨[],[],[]⟩ (trs 12 [false]) (pp (fl bE (fl aN nn)) (tt k3 (pp (pp (xr aY) (pp (xI R2 (Xb (cvT aL)).length (Zz (Xb (cvT aL)))) (xw cC))) (tt k2 (tt k1 (pp (pp (xr aL) (xw aF)) nn))))))))))) (fun k2=>(sl Kg 69 [] ⟨[1,0,5,6,7,8,4,2],[],v9w,v9y⟩ ⟨[],[],[]⟩ (trs 6 (bl 7 0)) (pp (fl bE (fl aN nn)) (tt k2 (tt k1 (pp (pp (xr aL) (xw aF)) nn)))))))) (fun k1=>(sl Kg 69 [] ⟨[1,0,5,6,7,8,4,2],[],v9w,v9y⟩ ⟨[],[],[]⟩ (bl 13 0) (pp (fl bE (fl aN nn)) (tt k1 (pp (pp (xr aL) (xw aF)) nn))))))))))
 | .h3 v1 v2 v71 v72 v73 bY aS aD bC bD aT bE aC=>(lb (fun k0=>(lo fun o0=>(lo fun o1=>(sl Kg 23 [] ⟨[0,1,2,3,4,5,6,10],[],v9w,v9y⟩ ⟨[],[.cells [.len (y8w aD v1 v71 v73 v2).length,.keep,.keep,.keep],.keep,.keep,.keep,.keep,.keep,.keep,.rowed 4 (y8w aD v1 v71 v73 v2).length (Zz (y8w aD v1 v71 v73 v2))],[]⟩ [true] (pp (xL (aD.length+1) (y8w aD v1 v71 v73 v2).length) (pp (xL (aD.length+1) (y8w aD v1 v71 v73 v2).length) (pp (xS (aD.length+1) (Ze (Zz aD) 0 aD.length 4 [(ii v1),(ii (rd v71 (tn v73)).a),(ii v2),(ii (rd v71 (tn v73)).b)]) (Zz (y8w aD v1 v71 v73 v2))) (pp (fl bE (pp (xF (Ze (Zz aD) 0 aD.length 4 [(ii v1),(ii (rd v71 (tn v73)).a),(ii v2),(ii (rd v71 (tn v73)).b)])) nn)) (ww o1 (ww o0 (tt k0 nn))))))))))) (fun k0=>(sl Kg 22 [] ⟨[1,0,2,3,4,5,7],[],j1b,j1c⟩ ⟨[],[],[]⟩ (bl 2 0) (pp (fl bE (fl aD nn)) (tt k0 nn)))))
 | .h4 v2 v8 cM bY aS aD bC bD bX cH cL aL=>(lb (fun k0=>(lo fun o0=>(lo fun o1=>(sl Kg 33 [] ⟨(List.range 8),[],madN4,madM4⟩ ⟨[],[.cells [.len (y8z aD v8 v2).length,.keep,.keep,.keep],.rowed 4 (y8z aD v8 v2).length (Zz (y8z aD v8 v2)),.keep,.keep,.keep,.keep,.keep,.keep],[]⟩ [true] (pp (xL aD.length (y8z aD v8 v2).length) (pp (xL aD.length (y8z aD v8 v2).length) (pp (xS aD.length (Xe (Zz aD) (0+(tn v8)) 2 [(ii v2)]) (Zz (y8z aD v8 v2))) (pp (pp (xF (Xe (Zz aD) (0+(tn v8)) 2 [(ii v2)])) (fl cL nn)) (ww o1 (ww o0 (tt k0 nn))))))))))) (fun k0=>(sl Kg 36 [] ⟨[2,0,3,4,5,6,1],[],j1b,j1c⟩ ⟨[],[],[]⟩ (bl 2 0) (pp (fl cL (fl aD nn)) (tt k0 nn)))))
theorem x8z (l0:List R4):Ys prog (Zy prog 121) (madC l0) (Za prog 121 [(.dat l0.length (Zz l0))] true []) (x1e l0):=(sl Kg 56 [(3,1,Zz ([]:List Int))] ⟨[2,1,3,0,4],[],madN0,madM0⟩ ⟨[],[.keep,.keep,.cells [.grow 4 1],.keep,.keep],[]⟩ [true] (pp (fl ([]:List Int) nn) nn))
theorem v9v (l0:List R4) (n:Nat) (vs:List AVal) (h:Zs (Xd l0) n (x1e l0)=.ret vs):Jw prog (Zy prog 121) (Za prog 121 [(.dat l0.length (Zz l0))] true []) vs:=by have:=Zc (w6p l0) n _ (x8z l0);rwa [h] at this
end Go.Am
end
