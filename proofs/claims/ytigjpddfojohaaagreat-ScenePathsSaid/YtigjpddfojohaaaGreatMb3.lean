/- A part of a proof: several texts in one. -/
import Derived.Test.YtigjpddfojohaaaGreatMb2
import Derived.Sort.AssemblyPlain
import Derived.Lib.BitFns
import Derived.Shelf.GgSortFunc.InsertionK
import Derived.Ground.SlsfProg
import Derived.Shelf.SlSortCmp.WholeK
import Derived.Shelf.Strings.Builder1
import Derived.Shelf.Strings.Builder2
import Derived.Shelf.Strings.OnBuilder
import Derived.Shelf.Small.Bits
import Derived.Shelf.Strconv.Itoa0
import Derived.Shelf.Strings.Search1
import Derived.Shelf.Strings.Search2
import Derived.Shelf.Strings.Search3
import Derived.Shelf.Strings.Cut
import Derived.Shelf.Strings.Count
import Derived.Shelf.LaysM
import Derived.Shelf.Strings.Shaped
import Derived.Shelf.Sort.Plain
import Derived.Shelf.Strings.Prefix
import Derived.Shelf.Strings.Split
import Derived.Ground.Names2Prog
import Derived.Shelf.Slices.ReverseS
import Derived.Shelf.Slices.CompactI
import Derived.Shelf.Slices.SearchI
import Derived.Shelf.Slices.Cells
import Derived.Shelf.Slices.In.SortNone
import Derived.Test.YtigjpddfojohaaaGreatProg
import Derived.Shelf.SlSortCmp.NoneTotal
set_option maxRecDepth 1000000
set_option maxHeartbeats 8000000
set_option linter.unusedVariables false
set_option linter.unusedSimpArgs false
noncomputable section
namespace Go.Am
open IntKind (wrap)
open Go.Proofs.Tryz
open Go.Proofs
inductive rsortS where
 | h0 (v3:List Int) (v4:Int)
 | h1 (v3:List Int) (v4:Int) (v5:Int)
def w3l (l0:List Int):rsortS→Cfg
 | .h0 v3 v4=>⟨⟨63,0,true⟩,none,(Zm prog 117 [1,1,0,1,0,0] 0),none,(Zz prog 5),⟨Yx [(0,(.dat l0.length (Zy l0))),(3,(.sla 0 1 0 v3.length (.un 1))),(4,(ii v4))],Xj [⟨rows v3.length (Zy v3),3,some ⟨1,v3.length,(Zy v3)⟩⟩] 0,1,[],true⟩,[],.leaf⟩
 | .h1 v3 v4 v5=>⟨⟨63,0,true⟩,none,(Zm prog 117 [1,1,0,1,0,0,1,0,0,1,0,0,0] 0),none,(Zz prog 5),⟨Yx [(0,(.dat l0.length (Zy l0))),(3,(.sla 0 1 0 v3.length (.un 1))),(4,(ii v4)),(5,(ii v5))],Xj [⟨rows v3.length (Zy v3),3,some ⟨1,v3.length,(Zy v3)⟩⟩] 0,1,[],true⟩,[],.leaf⟩
def y4v :List (Option (List Nat)):=[some [0,3,4]]
def y4w :List (Option (List Nat)):=[]
def w3j :List (Option (List Nat)):=[some [0,3,4,5]]
def w3k :List (Option (List Nat)):=[]
def Wb (l0:List Int):rsortS→Ya rsortS
 | .h0 v3 v4=>(bif (decide (v4<(l0.length:Int))) then (.to (.h1 v3 v4 (v3.length:Int))) else (.ret [(.dat v3.length (Zy v3))]))
 | .h1 v3 v4 v5=>(bif (decide (v5>0)) then (bif ((decide (0≤(wrap .i64 (v5 - 1))∧(wrap .i64 (v5 - 1))<(v3.length:Int)))&&true) then (bif (decide ((0+(Int.toNat (wrap .i64 (v5 - 1))))<v3.length)) then (bif ((decide (0≤v4∧v4<(l0.length:Int)))&&true) then (bif (decide ((rd v3 (0+(Int.toNat (wrap .i64 (v5 - 1)))))>(rd l0 v4.toNat))) then (.to (.h1 v3 v4 (wrap .i64 (v5 - 1)))) else (bif ((rd v3 (0+(Int.toNat (wrap .i64 (v5 - 1))))) == (rd l0 v4.toNat)) then (.to (.h0 v3 (wrap .i64 (v4+1)))) else (bif (Nat.beq 1 1&&((decide (0+v3.length=v3.length))&&decide ((v3.length+1+1)*(8+1)≤Jq))) then (bif (true&&((decide (0≤(wrap .i64 (v5+1))))&&(decide ((v3.length+1)≤(v3.length+1))&&decide ((Int.toNat (wrap .i64 (v5+1)))≤(v3.length+1))))) then (bif (true&&((decide (0≤v5))&&(decide ((v3.length+1)≤(v3.length+1))&&decide (v5.toNat≤(v3.length+1))))) then (bif (decide ((0+v5.toNat)+((v3.length+1) - v5.toNat)≤(v3.length+1))) then (bif (decide ((0+(Int.toNat (wrap .i64 (v5+1))))+((v3.length+1) - (Int.toNat (wrap .i64 (v5+1))))≤(v3.length+1))) then (bif ((decide (0≤v5∧v5<(((v3.length+1):Nat):Int)))&&true) then (bif (decide ((0+v5.toNat)<(v3.length+1))) then (.to (.h0 ((y2a (v3++[0]) (0+(Int.toNat (wrap .i64 (v5+1)))) (Nat.min ((v3.length+1) - v5.toNat) ((v3.length+1) - (Int.toNat (wrap .i64 (v5+1))))) (Ja (v3++[0]) (0+v5.toNat) ((v3.length+1) - v5.toNat))).set (0+v5.toNat) (rd l0 v4.toNat)) (wrap .i64 (v4+1)))) else .stuck) else .stuck) else .stuck) else .stuck) else .stuck) else .stuck) else .stuck))) else .stuck) else .stuck) else .stuck) else (bif (Nat.beq 1 1&&((decide (0+v3.length=v3.length))&&decide ((v3.length+1+1)*(8+1)≤Jq))) then (bif (true&&((decide (0≤(wrap .i64 (v5+1))))&&(decide ((v3.length+1)≤(v3.length+1))&&decide ((Int.toNat (wrap .i64 (v5+1)))≤(v3.length+1))))) then (bif (true&&((decide (0≤v5))&&(decide ((v3.length+1)≤(v3.length+1))&&decide (v5.toNat≤(v3.length+1))))) then (bif (decide ((0+v5.toNat)+((v3.length+1) - v5.toNat)≤(v3.length+1))) then (bif (decide ((0+(Int.toNat (wrap .i64 (v5+1))))+((v3.length+1) - (Int.toNat (wrap .i64 (v5+1))))≤(v3.length+1))) then (bif ((decide (0≤v4∧v4<(l0.length:Int)))&&true) then (bif ((decide (0≤v5∧v5<(((v3.length+1):Nat):Int)))&&true) then (bif (decide ((0+v5.toNat)<(v3.length+1))) then (.to (.h0 ((y2a (v3++[0]) (0+(Int.toNat (wrap .i64 (v5+1)))) (Nat.min ((v3.length+1) - v5.toNat) ((v3.length+1) - (Int.toNat (wrap .i64 (v5+1))))) (Ja (v3++[0]) (0+v5.toNat) ((v3.length+1) - v5.toNat))).set (0+v5.toNat) (rd l0 v4.toNat)) (wrap .i64 (v4+1)))) else .stuck) else .stuck) else .stuck) else .stuck) else .stuck) else .stuck) else .stuck) else .stuck))
def z1n (l0:List Int):Ya rsortS:=(.to (.h0 ([]:List Int) 0))
theorem y7i (l0:List Int): ∀s,Yh prog (Zz prog 117) (w3l l0) (w3l l0 s) (Wb l0 s)
 | .h0 v3 v4=>(lb (fun k0=>(sl Zu 21 [] ⟨[0],[],w3j,w3k⟩ ⟨[],[],[]⟩ [true] (pp (fl v3 nn) (tt k0 nn)))) (fun k0=>(lr 63 3 [1,1,1,1,1,1,1,1,0] 1 5 [(2,(.dat v3.length (Zy v3)))] (sl Zu 15 [] ⟨[],[0],[some [2]],[]⟩ ⟨[(2,.frz v3.length v3.length (Zy v3) (Zy v3))],[],[]⟩ [false] (pp (xZ (y5s 1 1 0 v3.length v3.length (Zy v3)) v3.length (Zy v3)) (pp (xL v3.length v3.length) (pp (xS v3.length (Zy v3) (Zy v3)) (pp (fl v3 nn) (tt k0 nn)))))))))
 | .h1 v3 v4 v5=>(lb (fun k0=>(lo fun aI=>(lo fun aQ=>(lo fun bQ=>(lb (fun k1=>(sl Zu 13 [] ⟨[0],[],w3j,w3k⟩ ⟨[],[],[]⟩ (trs 11 []) (pp (fl v3 nn) (tt k1 (ww bQ (ww aQ (ww aI (tt k0 nn)))))))) (fun k1=>(lb (fun k2=>(sl Zu 16 [] ⟨[0],[],y4v,y4w⟩ ⟨[],[],[]⟩ (trs 10 (bl 12 4094)) (pp (fl v3 nn) (tt k2 (ww bQ (ww aQ (ww aI (tt k0 (tt k1 (ww bQ (ww aQ (ww aI (tt k0 nn))))))))))))) (fun k2=>(lo fun o0=>(lo fun o1=>(lo fun o2=>(lo fun o3=>(lo fun o4=>(lo fun o5=>(lo fun o6=>(sl Zu 36 [] ⟨[2],[],y4v,y4w⟩ ⟨[(3,.len ((y2a (v3++[0]) (0+(tn (wr (v5+1)))) (Nat.min ((v3.length+1) - (tn v5)) ((v3.length+1) - (tn (wr (v5+1))))) (Ja (v3++[0]) (0+(tn v5)) ((v3.length+1) - (tn v5)))).set (0+(tn v5)) (rd l0 (tn v4))).length)],[.rowed 1 ((y2a (v3++[0]) (0+(tn (wr (v5+1)))) (Nat.min ((v3.length+1) - (tn v5)) ((v3.length+1) - (tn (wr (v5+1))))) (Ja (v3++[0]) (0+(tn v5)) ((v3.length+1) - (tn v5)))).set (0+(tn v5)) (rd l0 (tn v4))).length (Zy ((y2a (v3++[0]) (0+(tn (wr (v5+1)))) (Nat.min ((v3.length+1) - (tn v5)) ((v3.length+1) - (tn (wr (v5+1))))) (Ja (v3++[0]) (0+(tn v5)) ((v3.length+1) - (tn v5)))).set (0+(tn v5)) (rd l0 (tn v4))))],[]⟩ (trs 10 (bl 12 2046)) (pp (xL (v3.length+1) ((y2a (v3++[0]) (0+(tn (wr (v5+1)))) (Nat.min ((v3.length+1) - (tn v5)) ((v3.length+1) - (tn (wr (v5+1))))) (Ja (v3++[0]) (0+(tn v5)) ((v3.length+1) - (tn v5)))).set (0+(tn v5)) (rd l0 (tn v4))).length) (pp (xL (v3.length+1) ((y2a (v3++[0]) (0+(tn (wr (v5+1)))) (Nat.min ((v3.length+1) - (tn v5)) ((v3.length+1) - (tn (wr (v5+1))))) (Ja (v3++[0]) (0+(tn v5)) ((v3.length+1) - (tn v5)))).set (0+(tn v5)) (rd l0 (tn v4))).length) (pp (xS (v3.length+1) (Xp (Wd (Ze (Zy v3) 0 v3.length 1 [(ii 0)]) (0+(tn (wr (v5+1)))) (Nat.min ((v3.length+1) - (tn v5)) ((v3.length+1) - (tn (wr (v5+1))))) (fun k=>(Ze (Zy v3) 0 v3.length 1 [(ii 0)]) ((0+(tn v5))+k))) (0+(tn v5)) 0 [(ii (rd l0 (tn v4)))]) (Zy ((y2a (v3++[0]) (0+(tn (wr (v5+1)))) (Nat.min ((v3.length+1) - (tn v5)) ((v3.length+1) - (tn (wr (v5+1))))) (Ja (v3++[0]) (0+(tn v5)) ((v3.length+1) - (tn v5)))).set (0+(tn v5)) (rd l0 (tn v4))))) (pp (pp (xF (Xp (Wd (Ze (Zy v3) 0 v3.length 1 [(ii 0)]) (0+(tn (wr (v5+1)))) (Nat.min ((v3.length+1) - (tn v5)) ((v3.length+1) - (tn (wr (v5+1))))) (fun k=>(Ze (Zy v3) 0 v3.length 1 [(ii 0)]) ((0+(tn v5))+k))) (0+(tn v5)) 0 [(ii (rd l0 (tn v4)))])) nn) (ww o6 (ww o5 (ww bQ (pp (pp (xG (Nat.beq 1 1)) (pp (xG (Nat.beq 1 1)) (pp (xw o4) (pp (xG (Nat.beq 1 1)) (pp (xG (Nat.beq 1 1)) (pp (xG (decide ((0+(tn v5))+((v3.length+1) - (tn v5))≤(v3.length+1)))) (xG (y8y 1 ((v3.length+1) - (tn v5)) (fun k=>(Ze (Zy v3) 0 v3.length 1 [(ii 0)]) ((0+(tn v5))+k)))))))))) (ww o2 (ww o1 (ww o0 (tt k2 (ww bQ (ww aQ (ww aI (tt k0 (tt k1 (ww bQ (ww aQ (ww aI (tt k0 nn))))))))))))))))))))))))))))))))))))) (fun k0=>(lo fun o0=>(lo fun o1=>(lo fun o2=>(lo fun o3=>(lo fun o4=>(lo fun o5=>(lo fun o6=>(lo fun o7=>(sl Zu 36 [] ⟨[2],[],y4v,y4w⟩ ⟨[(3,.len ((y2a (v3++[0]) (0+(tn (wr (v5+1)))) (Nat.min ((v3.length+1) - (tn v5)) ((v3.length+1) - (tn (wr (v5+1))))) (Ja (v3++[0]) (0+(tn v5)) ((v3.length+1) - (tn v5)))).set (0+(tn v5)) (rd l0 (tn v4))).length)],[.rowed 1 ((y2a (v3++[0]) (0+(tn (wr (v5+1)))) (Nat.min ((v3.length+1) - (tn v5)) ((v3.length+1) - (tn (wr (v5+1))))) (Ja (v3++[0]) (0+(tn v5)) ((v3.length+1) - (tn v5)))).set (0+(tn v5)) (rd l0 (tn v4))).length (Zy ((y2a (v3++[0]) (0+(tn (wr (v5+1)))) (Nat.min ((v3.length+1) - (tn v5)) ((v3.length+1) - (tn (wr (v5+1))))) (Ja (v3++[0]) (0+(tn v5)) ((v3.length+1) - (tn v5)))).set (0+(tn v5)) (rd l0 (tn v4))))],[]⟩ (bl 22 0) (pp (xL (v3.length+1) ((y2a (v3++[0]) (0+(tn (wr (v5+1)))) (Nat.min ((v3.length+1) - (tn v5)) ((v3.length+1) - (tn (wr (v5+1))))) (Ja (v3++[0]) (0+(tn v5)) ((v3.length+1) - (tn v5)))).set (0+(tn v5)) (rd l0 (tn v4))).length) (pp (xL (v3.length+1) ((y2a (v3++[0]) (0+(tn (wr (v5+1)))) (Nat.min ((v3.length+1) - (tn v5)) ((v3.length+1) - (tn (wr (v5+1))))) (Ja (v3++[0]) (0+(tn v5)) ((v3.length+1) - (tn v5)))).set (0+(tn v5)) (rd l0 (tn v4))).length) (pp (xS (v3.length+1) (Xp (Wd (Ze (Zy v3) 0 v3.length 1 [(ii 0)]) (0+(tn (wr (v5+1)))) (Nat.min ((v3.length+1) - (tn v5)) ((v3.length+1) - (tn (wr (v5+1))))) (fun k=>(Ze (Zy v3) 0 v3.length 1 [(ii 0)]) ((0+(tn v5))+k))) (0+(tn v5)) 0 [(ii (rd l0 (tn v4)))]) (Zy ((y2a (v3++[0]) (0+(tn (wr (v5+1)))) (Nat.min ((v3.length+1) - (tn v5)) ((v3.length+1) - (tn (wr (v5+1))))) (Ja (v3++[0]) (0+(tn v5)) ((v3.length+1) - (tn v5)))).set (0+(tn v5)) (rd l0 (tn v4))))) (pp (pp (xF (Xp (Wd (Ze (Zy v3) 0 v3.length 1 [(ii 0)]) (0+(tn (wr (v5+1)))) (Nat.min ((v3.length+1) - (tn v5)) ((v3.length+1) - (tn (wr (v5+1))))) (fun k=>(Ze (Zy v3) 0 v3.length 1 [(ii 0)]) ((0+(tn v5))+k))) (0+(tn v5)) 0 [(ii (rd l0 (tn v4)))])) nn) (ww o7 (ww o6 (ww o5 (pp (pp (xG (Nat.beq 1 1)) (pp (xG (Nat.beq 1 1)) (pp (xw o4) (pp (xG (Nat.beq 1 1)) (pp (xG (Nat.beq 1 1)) (pp (xG (decide ((0+(tn v5))+((v3.length+1) - (tn v5))≤(v3.length+1)))) (xG (y8y 1 ((v3.length+1) - (tn v5)) (fun k=>(Ze (Zy v3) 0 v3.length 1 [(ii 0)]) ((0+(tn v5))+k)))))))))) (ww o2 (ww o1 (ww o0 (tt k0 (tt k0 nn))))))))))))))))))))))))
theorem y4u (l0:List Int):Yh prog (Zz prog 117) (w3l l0) (Zj prog 117 [(.dat l0.length (Zy l0))] true []) (z1n l0):=(sl Zu 15 [(3,1,Zy ([]:List Int))] ⟨[0],[],y4v,y4w⟩ ⟨[(3,.grow 0 1)],[],[]⟩ [] (pp (fl ([]:List Int) nn) nn))
theorem x8n (l0:List Int) (n:Nat) (vs:List AVal) (h:Zo (Wb l0) n (z1n l0)=.ret vs):Ws prog (Zz prog 117) (Zj prog 117 [(.dat l0.length (Zy l0))] true []) vs:=by have:=Zk (y7i l0) n _ (y4u l0);rwa [h] at this
inductive rcanS where
 | h0 (v5:List R2) (v6:Int)
def v8k (l0:List Int) (l1:List Bool):rcanS→Cfg
 | .h0 v5 v6=>⟨⟨61,0,true⟩,none,(Zm prog 122 [1,1,0,1,0,0] 0),none,(Zz prog 4),⟨Yx [(0,(.dat l0.length (Zy l0))),(1,(.dat l1.length (Zy l1))),(5,(.sla 0 2 0 v5.length (.un 2))),(6,(ii v6))],Xj [⟨rows v5.length (Zy v5),180,some ⟨2,v5.length,(Zy v5)⟩⟩] 0,1,[],true⟩,[],.leaf⟩
def y7v :List (Option (List Nat)):=[some [0,1,5,6]]
def y7w :List (Option (List Nat)):=[]
def Jw (l0:List Int) (l1:List Bool):rcanS→Ya rcanS
 | .h0 v5 v6=>(bif (decide ((wrap .i64 (v6+1))<(l0.length:Int))) then (bif ((decide (0≤v6∧v6<(l1.length:Int)))&&true) then (bif (!(rd l1 v6.toNat)) then (.to (.h0 v5 (wrap .i64 (v6+1)))) else (bif (decide ((v5.length:Int)>0)) then (bif ((decide (0≤(wrap .i64 ((v5.length:Int) - 1))∧(wrap .i64 ((v5.length:Int) - 1))<(v5.length:Int)))&&true) then (bif (decide ((0+(Int.toNat (wrap .i64 ((v5.length:Int) - 1))))<v5.length)) then (bif ((decide (0≤v6∧v6<(l0.length:Int)))&&true) then (bif ((rd v5 (0+(Int.toNat (wrap .i64 ((v5.length:Int) - 1))))).b == (rd l0 v6.toNat)) then (bif ((decide (0≤(wrap .i64 (v6+1))∧(wrap .i64 (v6+1))<(l0.length:Int)))&&true) then (.to (.h0 (v5.set (0+(Int.toNat (wrap .i64 ((v5.length:Int) - 1)))) (R2.mk (rd v5 (0+(Int.toNat (wrap .i64 ((v5.length:Int) - 1))))).a (rd l0 (Int.toNat (wrap .i64 (v6+1)))))) (wrap .i64 (v6+1)))) else .stuck) else (bif ((decide (0≤(wrap .i64 (v6+1))∧(wrap .i64 (v6+1))<(l0.length:Int)))&&true) then (bif (Nat.beq 2 2&&((decide (0+v5.length=v5.length))&&decide ((v5.length+1+1)*(16+1)≤Jq))) then (.to (.h0 (v5++[(R2.mk (rd l0 v6.toNat) (rd l0 (Int.toNat (wrap .i64 (v6+1)))))]) (wrap .i64 (v6+1)))) else .stuck) else .stuck)) else .stuck) else .stuck) else .stuck) else (bif ((decide (0≤v6∧v6<(l0.length:Int)))&&true) then (bif ((decide (0≤(wrap .i64 (v6+1))∧(wrap .i64 (v6+1))<(l0.length:Int)))&&true) then (bif (Nat.beq 2 2&&((decide (0+v5.length=v5.length))&&decide ((v5.length+1+1)*(16+1)≤Jq))) then (.to (.h0 (v5++[(R2.mk (rd l0 v6.toNat) (rd l0 (Int.toNat (wrap .i64 (v6+1)))))]) (wrap .i64 (v6+1)))) else .stuck) else .stuck) else .stuck))) else .stuck) else (.ret [(.dat v5.length (Zy v5))]))
def z4t (l0:List Int) (l1:List Bool):Ya rcanS:=(.to (.h0 ([]:List R2) 0))
theorem x2e (l0:List Int) (l1:List Bool): ∀s,Yh prog (Zz prog 122) (v8k l0 l1) (v8k l0 l1 s) (Jw l0 l1 s)
 | .h0 v5 v6=>(lb (fun k0=>(lo fun aI=>(lb (fun k1=>(sl Zu 30 [] ⟨[0],[],y7v,y7w⟩ ⟨[],[],[]⟩ (bl 2 3) (pp (fl v5 nn) (tt k1 (ww aI (tt k0 nn)))))) (fun k1=>(lb (fun k2=>(lo fun cC=>(lo fun cR=>(lo fun cS=>(lb (fun k3=>(lo fun o0=>(sl Zu 53 [] ⟨[0],[],y7v,y7w⟩ ⟨[(5,.len (v5.set (0+(tn (wr ((v5.length:Int) - 1)))) (R2.mk (rd v5 (0+(tn (wr ((v5.length:Int) - 1))))).a (rd l0 (tn (wr (v6+1)))))).length)],[.rowed 2 (v5.set (0+(tn (wr ((v5.length:Int) - 1)))) (R2.mk (rd v5 (0+(tn (wr ((v5.length:Int) - 1))))).a (rd l0 (tn (wr (v6+1)))))).length (Zy (v5.set (0+(tn (wr ((v5.length:Int) - 1)))) (R2.mk (rd v5 (0+(tn (wr ((v5.length:Int) - 1))))).a (rd l0 (tn (wr (v6+1)))))))],[]⟩ (bl 14 16381) (pp (xL v5.length (v5.set (0+(tn (wr ((v5.length:Int) - 1)))) (R2.mk (rd v5 (0+(tn (wr ((v5.length:Int) - 1))))).a (rd l0 (tn (wr (v6+1)))))).length) (pp (xL v5.length (v5.set (0+(tn (wr ((v5.length:Int) - 1)))) (R2.mk (rd v5 (0+(tn (wr ((v5.length:Int) - 1))))).a (rd l0 (tn (wr (v6+1)))))).length) (pp (xS v5.length (Xp (Zy v5) (0+(tn (wr ((v5.length:Int) - 1)))) 1 [(ii (rd l0 (tn (wr (v6+1)))))]) (Zy (v5.set (0+(tn (wr ((v5.length:Int) - 1)))) (R2.mk (rd v5 (0+(tn (wr ((v5.length:Int) - 1))))).a (rd l0 (tn (wr (v6+1)))))))) (pp (pp (xF (Xp (Zy v5) (0+(tn (wr ((v5.length:Int) - 1)))) 1 [(ii (rd l0 (tn (wr (v6+1)))))])) nn) (ww cR (ww cC (ww o0 (tt k3 (ww cS (ww cR (ww cC (tt k2 (tt k1 (ww aI (tt k0 nn)))))))))))))))))) (fun k3=>(lo fun o0=>(lo fun o1=>(sl Zu 41 [] ⟨[2],[],y7v,y7w⟩ ⟨[(5,.len (v5++[(R2.mk (rd l0 (tn v6)) (rd l0 (tn (wr (v6+1)))))]).length)],[.rowed 2 (v5++[(R2.mk (rd l0 (tn v6)) (rd l0 (tn (wr (v6+1)))))]).length (Zy (v5++[(R2.mk (rd l0 (tn v6)) (rd l0 (tn (wr (v6+1)))))]))],[]⟩ (bl 14 8189) (pp (xL (v5.length+1) (v5++[(R2.mk (rd l0 (tn v6)) (rd l0 (tn (wr (v6+1)))))]).length) (pp (xL (v5.length+1) (v5++[(R2.mk (rd l0 (tn v6)) (rd l0 (tn (wr (v6+1)))))]).length) (pp (xS (v5.length+1) (Ze (Zy v5) 0 v5.length 2 [(ii (rd l0 (tn v6))),(ii (rd l0 (tn (wr (v6+1)))))]) (Zy (v5++[(R2.mk (rd l0 (tn v6)) (rd l0 (tn (wr (v6+1)))))]))) (pp (pp (xF (Ze (Zy v5) 0 v5.length 2 [(ii (rd l0 (tn v6))),(ii (rd l0 (tn (wr (v6+1)))))])) nn) (ww o1 (ww o0 (ww cS (tt k3 (ww cS (ww cR (ww cC (tt k2 (tt k1 (ww aI (tt k0 nn)))))))))))))))))))))))) (fun k2=>(lo fun o0=>(lo fun o1=>(lo fun o2=>(sl Zu 41 [] ⟨[2],[],y7v,y7w⟩ ⟨[(5,.len (v5++[(R2.mk (rd l0 (tn v6)) (rd l0 (tn (wr (v6+1)))))]).length)],[.rowed 2 (v5++[(R2.mk (rd l0 (tn v6)) (rd l0 (tn (wr (v6+1)))))]).length (Zy (v5++[(R2.mk (rd l0 (tn v6)) (rd l0 (tn (wr (v6+1)))))]))],[]⟩ (bl 14 1) (pp (xL (v5.length+1) (v5++[(R2.mk (rd l0 (tn v6)) (rd l0 (tn (wr (v6+1)))))]).length) (pp (xL (v5.length+1) (v5++[(R2.mk (rd l0 (tn v6)) (rd l0 (tn (wr (v6+1)))))]).length) (pp (xS (v5.length+1) (Ze (Zy v5) 0 v5.length 2 [(ii (rd l0 (tn v6))),(ii (rd l0 (tn (wr (v6+1)))))]) (Zy (v5++[(R2.mk (rd l0 (tn v6)) (rd l0 (tn (wr (v6+1)))))]))) (pp (pp (xF (Ze (Zy v5) 0 v5.length 2 [(ii (rd l0 (tn v6))),(ii (rd l0 (tn (wr (v6+1)))))])) nn) (ww o2 (ww o1 (ww o0 (tt k2 (tt k1 (ww aI (tt k0 nn))))))))))))))))))))) (fun k0=>(lr 61 3 [1,1,1,1,1,1,1,1,0] 1 4 [(4,(.dat v5.length (Zy v5)))] (sl Zu 16 [] ⟨[],[0],[some [4]],[]⟩ ⟨[(4,.frz v5.length v5.length (Zy v5) (Zy v5))],[],[]⟩ [false] (pp (xZ (y5s 2 2 0 v5.length v5.length (Zy v5)) v5.length (Zy v5)) (pp (xL v5.length v5.length) (pp (xS v5.length (Zy v5) (Zy v5)) (pp (fl v5 nn) (tt k0 nn)))))))))
theorem y7u (l0:List Int) (l1:List Bool):Yh prog (Zz prog 122) (v8k l0 l1) (Zj prog 122 [(.dat l0.length (Zy l0)),(.dat l1.length (Zy l1))] true []) (z4t l0 l1):=(sl Zu 15 [(180,2,Zy ([]:List R2))] ⟨[0],[],y7v,y7w⟩ ⟨[(5,.grow 0 2)],[],[]⟩ [] (pp (fl ([]:List R2) nn) nn))
theorem w4h (l0:List Int) (l1:List Bool) (n:Nat) (vs:List AVal) (h:Zo (Jw l0 l1) n (z4t l0 l1)=.ret vs):Ws prog (Zz prog 122) (Zj prog 122 [(.dat l0.length (Zy l0)),(.dat l1.length (Zy l1))] true []) vs:=by have:=Zk (x2e l0 l1) n _ (y7u l0 l1);rwa [h] at this
inductive rsmS where
 | h0 (v5:Int)
def rsmC (l0:List R2) (l1:List R2):rsmS→Cfg
 | .h0 v5=>⟨⟨26,0,true⟩,none,(Zm prog 123 [1,1,0,1,0,0] 0),none,(Zz prog 4),⟨Yx [(0,(.dat l0.length (Zy l0))),(1,(.dat l1.length (Zy l1))),(5,(ii v5))],Xj [] 0,0,[],true⟩,[],.leaf⟩
def rsmN0 :List (Option (List Nat)):=[some [0,1,5]]
def rsmM0 :List (Option (List Nat)):=[]
def z2t (l0:List R2) (l1:List R2):rsmS→Ya rsmS
 | .h0 v5=>(bif (decide (v5<(l0.length:Int))) then (bif ((decide (0≤v5∧v5<(l0.length:Int)))&&true) then (bif ((decide (0≤v5∧v5<(l1.length:Int)))&&true) then (bif (!(((rd l0 v5.toNat).a == (rd l1 v5.toNat).a)&&(((rd l0 v5.toNat).b == (rd l1 v5.toNat).b)&&true))) then (.ret [(.bool false)]) else (.to (.h0 (wrap .i64 (v5+1))))) else .stuck) else .stuck) else (.ret [(.bool true)]))
def z4a (l0:List R2) (l1:List R2):Ya rsmS:=(bif ((l0.length:Int) != (l1.length:Int)) then (.ret [(.bool false)]) else (.to (.h0 0)))
theorem x8o (l0:List R2) (l1:List R2): ∀s,Yh prog (Zz prog 123) (rsmC l0 l1) (rsmC l0 l1 s) (z2t l0 l1 s)
 | .h0 v5=>(lb (fun k0=>(lo fun aI=>(lo fun aQ=>(lb (fun k1=>(lr 26 123 [1,1,0,1,0,0,1,0,0,1,0,0] 1 4 [(4,(.bool false))] (sl Zu 19 [] ⟨[],[],[some [4]],[]⟩ ⟨[],[],[]⟩ (bl 2 3) (tt k1 (ww aQ (ww aI (tt k0 nn))))))) (fun k1=>(sl Zu 23 [] ⟨[],[],rsmN0,rsmM0⟩ ⟨[],[],[]⟩ (bl 2 1) (tt k1 (ww aQ (ww aI (tt k0 nn)))))))))) (fun k0=>(lr 26 3 [1,1,1,1,1,1,1,1,0] 1 4 [(4,(.bool true))] (sl Zu 14 [] ⟨[],[],[some [4]],[]⟩ ⟨[],[],[]⟩ [false] (tt k0 nn)))))
theorem x0w (l0:List R2) (l1:List R2):Yh prog (Zz prog 123) (rsmC l0 l1) (Zj prog 123 [(.dat l0.length (Zy l0)),(.dat l1.length (Zy l1))] true []) (z4a l0 l1):=(lb (fun k0=>(lr 26 123 [1,0,1,0,0] 1 4 [(4,(.bool false))] (sl Zu 18 [] ⟨[],[],[some [4]],[]⟩ ⟨[],[],[]⟩ [true] (tt k0 nn)))) (fun k0=>(sl Zu 22 [] ⟨[],[],rsmN0,rsmM0⟩ ⟨[],[],[]⟩ [false] (tt k0 nn))))
theorem w8d (l0:List R2) (l1:List R2) (n:Nat) (vs:List AVal) (h:Zo (z2t l0 l1) n (z4a l0 l1)=.ret vs):Ws prog (Zz prog 123) (Zj prog 123 [(.dat l0.length (Zy l0)),(.dat l1.length (Zy l1))] true []) vs:=by have:=Zk (x8o l0 l1) n _ (x0w l0 l1);rwa [h] at this
inductive rhasS where
 | h0 (v7:Int)
def v8a (l0:List R4) (x1:Int) (x2:Int):rhasS→Cfg
 | .h0 v7=>⟨⟨48,0,true⟩,none,(Zm prog 121 [1,0,1,0,0] 0),none,(Zz prog 3),⟨Yx [(0,(.dat l0.length (Zy l0))),(1,(ii x1)),(2,(ii x2)),(7,(ii v7))],Xj [] 0,0,[],true⟩,[],.leaf⟩
def y7m :List (Option (List Nat)):=[some [0,1,2,7]]
def y7n :List (Option (List Nat)):=[]
def z1o (l0:List R4) (x1:Int) (x2:Int):rhasS→Ya rhasS
 | .h0 v7=>(bif (decide (v7<(l0.length:Int))) then (bif ((decide (0≤v7∧v7<(l0.length:Int)))&&true) then (bif (decide ((rd l0 v7.toNat).a ≤x1)) then (bif (decide (x1<(rd l0 v7.toNat).c)) then (bif (decide ((rd l0 v7.toNat).b ≤x2)) then (bif (decide (x2<(rd l0 v7.toNat).d)) then (.ret [(.bool true)]) else (.to (.h0 (wrap .i64 (v7+1))))) else (.to (.h0 (wrap .i64 (v7+1))))) else (.to (.h0 (wrap .i64 (v7+1))))) else (.to (.h0 (wrap .i64 (v7+1))))) else .stuck) else (.ret [(.bool false)]))
def z4i (l0:List R4) (x1:Int) (x2:Int):Ya rhasS:=(.to (.h0 0))
theorem x1q (l0:List R4) (x1:Int) (x2:Int): ∀s,Yh prog (Zz prog 121) (v8a l0 x1 x2) (v8a l0 x1 x2 s) (z1o l0 x1 x2 s)
 | .h0 v7=>(lb (fun k0=>(lo fun aI=>(lb (fun k1=>(lb (fun k2=>(lb (fun k3=>(lb (fun k4=>(lr 48 121 [1,0,1,0,0,1,0,0,1,0,0] 1 3 [(6,(.bool true))] (sl Zu 54 [] ⟨[],[],[some [6]],[]⟩ ⟨[],[],[]⟩ (trs 23 []) (tt k4 (ww aI (tt k3 (ww aI (tt k2 (ww aI (tt k1 (ww aI (tt k0 nn)))))))))))) (fun k4=>(sl Zu 58 [] ⟨[],[],y7m,y7n⟩ ⟨[],[],[]⟩ (trs 22 [false]) (tt k4 (ww aI (tt k3 (ww aI (tt k2 (ww aI (tt k1 (ww aI (tt k0 nn))))))))))))) (fun k3=>(sl Zu 58 [] ⟨[],[],y7m,y7n⟩ ⟨[],[],[]⟩ (trs 15 (bl 8 0)) (tt k3 (ww aI (tt k2 (ww aI (tt k1 (ww aI (tt k0 nn))))))))))) (fun k2=>(sl Zu 58 [] ⟨[],[],y7m,y7n⟩ ⟨[],[],[]⟩ (trs 8 (bl 15 0)) (tt k2 (ww aI (tt k1 (ww aI (tt k0 nn))))))))) (fun k1=>(sl Zu 58 [] ⟨[],[],y7m,y7n⟩ ⟨[],[],[]⟩ (bl 23 1) (tt k1 (ww aI (tt k0 nn)))))))) (fun k0=>(lr 48 3 [1,1,1,1,1,1,1,1,0] 1 3 [(6,(.bool false))] (sl Zu 14 [] ⟨[],[],[some [6]],[]⟩ ⟨[],[],[]⟩ [false] (tt k0 nn)))))
theorem y7l (l0:List R4) (x1:Int) (x2:Int):Yh prog (Zz prog 121) (v8a l0 x1 x2) (Zj prog 121 [(.dat l0.length (Zy l0)),(.int .i64 x1),(.int .i64 x2)] true []) (z4i l0 x1 x2):=(sl Zu 11 [] ⟨[],[],y7m,y7n⟩ ⟨[],[],[]⟩ [] nn)
theorem w3v (l0:List R4) (x1:Int) (x2:Int) (n:Nat) (vs:List AVal) (h:Zo (z1o l0 x1 x2) n (z4i l0 x1 x2)=.ret vs):Ws prog (Zz prog 121) (Zj prog 121 [(.dat l0.length (Zy l0)),(.int .i64 x1),(.int .i64 x2)] true []) vs:=by have:=Zk (x1q l0 x1 x2) n _ (y7l l0 x1 x2);rwa [h] at this
inductive rsrS where
 | h0 (v5:Int)
def rsrC (l0:List R4) (l1:List R4):rsrS→Cfg
 | .h0 v5=>⟨⟨26,0,true⟩,none,(Zm prog 91 [1,1,0,1,0,0] 0),none,(Zz prog 4),⟨Yx [(0,(.dat l0.length (Zy l0))),(1,(.dat l1.length (Zy l1))),(5,(ii v5))],Xj [] 0,0,[],true⟩,[],.leaf⟩
def rsrN0 :List (Option (List Nat)):=[some [0,1,5]]
def rsrM0 :List (Option (List Nat)):=[]
def z2s (l0:List R4) (l1:List R4):rsrS→Ya rsrS
 | .h0 v5=>(bif (decide (v5<(l0.length:Int))) then (bif ((decide (0≤v5∧v5<(l0.length:Int)))&&true) then (bif ((decide (0≤v5∧v5<(l1.length:Int)))&&true) then (bif (!(((rd l0 v5.toNat).a == (rd l1 v5.toNat).a)&&(((rd l0 v5.toNat).b == (rd l1 v5.toNat).b)&&(((rd l0 v5.toNat).c == (rd l1 v5.toNat).c)&&(((rd l0 v5.toNat).d == (rd l1 v5.toNat).d)&&true))))) then (.ret [(.bool false)]) else (.to (.h0 (wrap .i64 (v5+1))))) else .stuck) else .stuck) else (.ret [(.bool true)]))
def z3z (l0:List R4) (l1:List R4):Ya rsrS:=(bif ((l0.length:Int) != (l1.length:Int)) then (.ret [(.bool false)]) else (.to (.h0 0)))
theorem x8m (l0:List R4) (l1:List R4): ∀s,Yh prog (Zz prog 91) (rsrC l0 l1) (rsrC l0 l1 s) (z2s l0 l1 s)
 | .h0 v5=>(lb (fun k0=>(lo fun aI=>(lo fun aQ=>(lb (fun k1=>(lr 26 91 [1,1,0,1,0,0,1,0,0,1,0,0] 1 4 [(4,(.bool false))] (sl Zu 19 [] ⟨[],[],[some [4]],[]⟩ ⟨[],[],[]⟩ (bl 2 3) (tt k1 (ww aQ (ww aI (tt k0 nn))))))) (fun k1=>(sl Zu 23 [] ⟨[],[],rsrN0,rsrM0⟩ ⟨[],[],[]⟩ (bl 2 1) (tt k1 (ww aQ (ww aI (tt k0 nn)))))))))) (fun k0=>(lr 26 3 [1,1,1,1,1,1,1,1,0] 1 4 [(4,(.bool true))] (sl Zu 14 [] ⟨[],[],[some [4]],[]⟩ ⟨[],[],[]⟩ [false] (tt k0 nn)))))
theorem x0v (l0:List R4) (l1:List R4):Yh prog (Zz prog 91) (rsrC l0 l1) (Zj prog 91 [(.dat l0.length (Zy l0)),(.dat l1.length (Zy l1))] true []) (z3z l0 l1):=(lb (fun k0=>(lr 26 91 [1,0,1,0,0] 1 4 [(4,(.bool false))] (sl Zu 18 [] ⟨[],[],[some [4]],[]⟩ ⟨[],[],[]⟩ [true] (tt k0 nn)))) (fun k0=>(sl Zu 22 [] ⟨[],[],rsrN0,rsrM0⟩ ⟨[],[],[]⟩ [false] (tt k0 nn))))
theorem w8c (l0:List R4) (l1:List R4) (n:Nat) (vs:List AVal) (h:Zo (z2s l0 l1) n (z3z l0 l1)=.ret vs):Ws prog (Zz prog 91) (Zj prog 91 [(.dat l0.length (Zy l0)),(.dat l1.length (Zy l1))] true []) vs:=by have:=Zk (x8m l0 l1) n _ (x0v l0 l1);rwa [h] at this
inductive rsbS where
 | h0 (v5:Int)
def rsbC (l0:List R6) (l1:List R6):rsbS→Cfg
 | .h0 v5=>⟨⟨26,0,true⟩,none,(Zm prog 19 [1,1,0,1,0,0] 0),none,(Zz prog 4),⟨Yx [(0,(.dat l0.length (Zy l0))),(1,(.dat l1.length (Zy l1))),(5,(ii v5))],Xj [] 0,0,[],true⟩,[],.leaf⟩
def rsbN0 :List (Option (List Nat)):=[some [0,1,5]]
def rsbM0 :List (Option (List Nat)):=[]
def z2u (l0:List R6) (l1:List R6):rsbS→Ya rsbS
 | .h0 v5=>(bif (decide (v5<(l0.length:Int))) then (bif ((decide (0≤v5∧v5<(l0.length:Int)))&&true) then (bif ((decide (0≤v5∧v5<(l1.length:Int)))&&true) then (bif (!((((rd l0 v5.toNat).a == (rd l1 v5.toNat).a)&&(((rd l0 v5.toNat).b == (rd l1 v5.toNat).b)&&(((rd l0 v5.toNat).c == (rd l1 v5.toNat).c)&&true)))&&((((rd l0 v5.toNat).d == (rd l1 v5.toNat).d)&&(((rd l0 v5.toNat).e == (rd l1 v5.toNat).e)&&(((rd l0 v5.toNat).f == (rd l1 v5.toNat).f)&&true)))&&true))) then (.ret [(.bool false)]) else (.to (.h0 (wrap .i64 (v5+1))))) else .stuck) else .stuck) else (.ret [(.bool true)]))
def z4b (l0:List R6) (l1:List R6):Ya rsbS:=(bif ((l0.length:Int) != (l1.length:Int)) then (.ret [(.bool false)]) else (.to (.h0 0)))
theorem x8q (l0:List R6) (l1:List R6): ∀s,Yh prog (Zz prog 19) (rsbC l0 l1) (rsbC l0 l1 s) (z2u l0 l1 s)
 | .h0 v5=>(lb (fun k0=>(lo fun aI=>(lo fun aQ=>(lb (fun k1=>(lr 26 19 [1,1,0,1,0,0,1,0,0,1,0,0] 1 4 [(4,(.bool false))] (sl Zu 19 [] ⟨[],[],[some [4]],[]⟩ ⟨[],[],[]⟩ (bl 2 3) (tt k1 (ww aQ (ww aI (tt k0 nn))))))) (fun k1=>(sl Zu 23 [] ⟨[],[],rsbN0,rsbM0⟩ ⟨[],[],[]⟩ (bl 2 1) (tt k1 (ww aQ (ww aI (tt k0 nn)))))))))) (fun k0=>(lr 26 3 [1,1,1,1,1,1,1,1,0] 1 4 [(4,(.bool true))] (sl Zu 14 [] ⟨[],[],[some [4]],[]⟩ ⟨[],[],[]⟩ [false] (tt k0 nn)))))
theorem x0y (l0:List R6) (l1:List R6):Yh prog (Zz prog 19) (rsbC l0 l1) (Zj prog 19 [(.dat l0.length (Zy l0)),(.dat l1.length (Zy l1))] true []) (z4b l0 l1):=(lb (fun k0=>(lr 26 19 [1,0,1,0,0] 1 4 [(4,(.bool false))] (sl Zu 18 [] ⟨[],[],[some [4]],[]⟩ ⟨[],[],[]⟩ [true] (tt k0 nn)))) (fun k0=>(sl Zu 22 [] ⟨[],[],rsbN0,rsbM0⟩ ⟨[],[],[]⟩ [false] (tt k0 nn))))
theorem w8g (l0:List R6) (l1:List R6) (n:Nat) (vs:List AVal) (h:Zo (z2u l0 l1) n (z4b l0 l1)=.ret vs):Ws prog (Zz prog 19) (Zj prog 19 [(.dat l0.length (Zy l0)),(.dat l1.length (Zy l1))] true []) vs:=by have:=Zk (x8q l0 l1) n _ (x0y l0 l1);rwa [h] at this
inductive ratS where
 | h0 (v5:List R4) (v6:Int)
def ratC (l0:List R6) (x1:Int):ratS→Cfg
 | .h0 v5 v6=>⟨⟨60,0,true⟩,none,(Zm prog 90 [1,1,0,1,0,0] 0),none,(Zz prog 4),⟨Yx [(0,(.dat l0.length (Zy l0))),(1,(ii x1)),(5,(.sla 0 4 0 v5.length (.un 4))),(6,(ii v6))],Xj [⟨rows v5.length (Zy v5),155,some ⟨4,v5.length,(Zy v5)⟩⟩] 0,1,[],true⟩,[],.leaf⟩
def w9j :List (Option (List Nat)):=[some [0,1,5,6]]
def w9k :List (Option (List Nat)):=[]
def z2z (l0:List R6) (x1:Int):ratS→Ya ratS
 | .h0 v5 v6=>(bif (decide (v6<(l0.length:Int))) then (bif ((decide (0≤v6∧v6<(l0.length:Int)))&&true) then (bif (decide ((rd l0 v6.toNat).c ≤x1)) then (bif (decide (x1<(rd l0 v6.toNat).f)) then (bif (Nat.beq 4 4&&((decide (0+v5.length=v5.length))&&decide ((v5.length+1+1)*(32+1)≤Jq))) then (.to (.h0 (v5++[(R4.mk (rd l0 v6.toNat).a (rd l0 v6.toNat).b (rd l0 v6.toNat).d (rd l0 v6.toNat).e)]) (wrap .i64 (v6+1)))) else .stuck) else (.to (.h0 v5 (wrap .i64 (v6+1))))) else (.to (.h0 v5 (wrap .i64 (v6+1))))) else .stuck) else (.ret [(.dat v5.length (Zy v5))]))
def z8y (l0:List R6) (x1:Int):Ya ratS:=(.to (.h0 ([]:List R4) 0))
theorem x9l (l0:List R6) (x1:Int): ∀s,Yh prog (Zz prog 90) (ratC l0 x1) (ratC l0 x1 s) (z2z l0 x1 s)
 | .h0 v5 v6=>(lb (fun k0=>(lo fun aI=>(lb (fun k1=>(lb (fun k2=>(lo fun o0=>(sl Zu 42 [] ⟨[2],[],w9j,w9k⟩ ⟨[(5,.len (v5++[(R4.mk (rd l0 (tn v6)).a (rd l0 (tn v6)).b (rd l0 (tn v6)).d (rd l0 (tn v6)).e)]).length)],[.rowed 4 (v5++[(R4.mk (rd l0 (tn v6)).a (rd l0 (tn v6)).b (rd l0 (tn v6)).d (rd l0 (tn v6)).e)]).length (Zy (v5++[(R4.mk (rd l0 (tn v6)).a (rd l0 (tn v6)).b (rd l0 (tn v6)).d (rd l0 (tn v6)).e)]))],[]⟩ (trs 10 []) (pp (xL (v5.length+1) (v5++[(R4.mk (rd l0 (tn v6)).a (rd l0 (tn v6)).b (rd l0 (tn v6)).d (rd l0 (tn v6)).e)]).length) (pp (xL (v5.length+1) (v5++[(R4.mk (rd l0 (tn v6)).a (rd l0 (tn v6)).b (rd l0 (tn v6)).d (rd l0 (tn v6)).e)]).length) (pp (xS (v5.length+1) (Ze (Zy v5) 0 v5.length 4 [(ii (rd l0 (tn v6)).a),(ii (rd l0 (tn v6)).b),(ii (rd l0 (tn v6)).d),(ii (rd l0 (tn v6)).e)]) (Zy (v5++[(R4.mk (rd l0 (tn v6)).a (rd l0 (tn v6)).b (rd l0 (tn v6)).d (rd l0 (tn v6)).e)]))) (pp (pp (xF (Ze (Zy v5) 0 v5.length 4 [(ii (rd l0 (tn v6)).a),(ii (rd l0 (tn v6)).b),(ii (rd l0 (tn v6)).d),(ii (rd l0 (tn v6)).e)])) nn) (ww o0 (ww aI (ww aI (ww aI (ww aI (tt k2 (ww aI (tt k1 (ww aI (tt k0 nn))))))))))))))))) (fun k2=>(sl Zu 42 [] ⟨[0],[],w9j,w9k⟩ ⟨[],[],[]⟩ (trs 9 [false]) (pp (fl v5 nn) (tt k2 (ww aI (tt k1 (ww aI (tt k0 nn)))))))))) (fun k1=>(sl Zu 42 [] ⟨[0],[],w9j,w9k⟩ ⟨[],[],[]⟩ (bl 10 1) (pp (fl v5 nn) (tt k1 (ww aI (tt k0 nn))))))))) (fun k0=>(lr 60 3 [1,1,1,1,1,1,1,1,0] 1 4 [(4,(.dat v5.length (Zy v5)))] (sl Zu 15 [] ⟨[],[0],[some [4]],[]⟩ ⟨[(4,.frz v5.length v5.length (Zy v5) (Zy v5))],[],[]⟩ [false] (pp (xZ (y5s 4 4 0 v5.length v5.length (Zy v5)) v5.length (Zy v5)) (pp (xL v5.length v5.length) (pp (xS v5.length (Zy v5) (Zy v5)) (pp (fl v5 nn) (tt k0 nn)))))))))
theorem x2f (l0:List R6) (x1:Int):Yh prog (Zz prog 90) (ratC l0 x1) (Zj prog 90 [(.dat l0.length (Zy l0)),(.int .i64 x1)] true []) (z8y l0 x1):=(sl Zu 15 [(155,4,Zy ([]:List R4))] ⟨[0],[],w9j,w9k⟩ ⟨[(5,.grow 0 4)],[],[]⟩ [] (pp (fl ([]:List R4) nn) nn))
theorem w9i (l0:List R6) (x1:Int) (n:Nat) (vs:List AVal) (h:Zo (z2z l0 x1) n (z8y l0 x1)=.ret vs):Ws prog (Zz prog 90) (Zj prog 90 [(.dat l0.length (Zy l0)),(.int .i64 x1)] true []) vs:=by have:=Zk (x9l l0 x1) n _ (x2f l0 x1);rwa [h] at this
inductive eqaS where
 | h0 (v13:Int)
def eqaC (l0:List R2) (l1:List R2):eqaS→Cfg
 | .h0 v13=>⟨⟨26,0,true⟩,none,(Zm prog 148 [1,1,0,1,0,0] 0),none,(Zz prog 4),⟨Yx [(0,(.dat l0.length (Zy l0))),(1,(.dat l1.length (Zy l1))),(12,(ii (l0.length:Int))),(13,(ii v13))],Xj [] 0,0,[],true⟩,[],.leaf⟩
def eqaN0 :List (Option (List Nat)):=[some [0,1,12,13]]
def eqaM0 :List (Option (List Nat)):=[]
def z3o (l0:List R2) (l1:List R2):eqaS→Ya eqaS
 | .h0 v13=>(bif (decide (v13<(l0.length:Int))) then (bif ((decide (0≤v13∧v13<(l0.length:Int)))&&true) then (bif ((decide (0≤v13∧v13<(l1.length:Int)))&&true) then (bif (!(((rd l0 v13.toNat).a == (rd l1 v13.toNat).a)&&(((rd l0 v13.toNat).b == (rd l1 v13.toNat).b)&&true))) then (.ret [(.bool false)]) else (.to (.h0 (wrap .i64 (v13+1))))) else .stuck) else .stuck) else (.ret [(.bool true)]))
def z5v (l0:List R2) (l1:List R2):Ya eqaS:=(bif ((l0.length:Int) != (l1.length:Int)) then (.ret [(.bool false)]) else (.to (.h0 0)))
theorem w1f (l0:List R2) (l1:List R2): ∀s,Yh prog (Zz prog 148) (eqaC l0 l1) (eqaC l0 l1 s) (z3o l0 l1 s)
 | .h0 v13=>(lb (fun k0=>(lo fun aI=>(lo fun aQ=>(lb (fun k1=>(lr 26 148 [1,1,0,1,0,0,1,1,0,0,1,1,0,0] 1 4 [(4,(.bool false))] (sl Zu 21 [] ⟨[],[],[some [4]],[]⟩ ⟨[],[],[]⟩ (bl 2 3) (tt k1 (ww aQ (ww aI (tt k0 nn))))))) (fun k1=>(sl Zu 24 [] ⟨[],[],eqaN0,eqaM0⟩ ⟨[],[],[]⟩ (bl 2 1) (tt k1 (ww aQ (ww aI (tt k0 nn)))))))))) (fun k0=>(lr 26 3 [1,1,1,1,1,1,1,1,0] 1 4 [(4,(.bool true))] (sl Zu 11 [] ⟨[],[],[some [4]],[]⟩ ⟨[],[],[]⟩ [false] (tt k0 nn)))))
theorem x4l (l0:List R2) (l1:List R2):Yh prog (Zz prog 148) (eqaC l0 l1) (Zj prog 148 [(.dat l0.length (Zy l0)),(.dat l1.length (Zy l1))] true []) (z5v l0 l1):=(lb (fun k0=>(lr 26 148 [1,0,1,0,0] 1 4 [(4,(.bool false))] (sl Zu 18 [] ⟨[],[],[some [4]],[]⟩ ⟨[],[],[]⟩ [true] (tt k0 nn)))) (fun k0=>(sl Zu 24 [] ⟨[],[],eqaN0,eqaM0⟩ ⟨[],[],[]⟩ [false] (tt k0 nn))))
theorem v1s (l0:List R2) (l1:List R2) (n:Nat) (vs:List AVal) (h:Zo (z3o l0 l1) n (z5v l0 l1)=.ret vs):Ws prog (Zz prog 148) (Zj prog 148 [(.dat l0.length (Zy l0)),(.dat l1.length (Zy l1))] true []) vs:=by have:=Zk (w1f l0 l1) n _ (x4l l0 l1);rwa [h] at this
inductive eqbS where
 | h0 (v13:Int)
def eqbC (l0:List R4) (l1:List R4):eqbS→Cfg
 | .h0 v13=>⟨⟨26,0,true⟩,none,(Zm prog 116 [1,1,0,1,0,0] 0),none,(Zz prog 4),⟨Yx [(0,(.dat l0.length (Zy l0))),(1,(.dat l1.length (Zy l1))),(12,(ii (l0.length:Int))),(13,(ii v13))],Xj [] 0,0,[],true⟩,[],.leaf⟩
def eqbN0 :List (Option (List Nat)):=[some [0,1,12,13]]
def eqbM0 :List (Option (List Nat)):=[]
def z3n (l0:List R4) (l1:List R4):eqbS→Ya eqbS
 | .h0 v13=>(bif (decide (v13<(l0.length:Int))) then (bif ((decide (0≤v13∧v13<(l0.length:Int)))&&true) then (bif ((decide (0≤v13∧v13<(l1.length:Int)))&&true) then (bif (!(((rd l0 v13.toNat).a == (rd l1 v13.toNat).a)&&(((rd l0 v13.toNat).b == (rd l1 v13.toNat).b)&&(((rd l0 v13.toNat).c == (rd l1 v13.toNat).c)&&(((rd l0 v13.toNat).d == (rd l1 v13.toNat).d)&&true))))) then (.ret [(.bool false)]) else (.to (.h0 (wrap .i64 (v13+1))))) else .stuck) else .stuck) else (.ret [(.bool true)]))
def z5u (l0:List R4) (l1:List R4):Ya eqbS:=(bif ((l0.length:Int) != (l1.length:Int)) then (.ret [(.bool false)]) else (.to (.h0 0)))
theorem w1e (l0:List R4) (l1:List R4): ∀s,Yh prog (Zz prog 116) (eqbC l0 l1) (eqbC l0 l1 s) (z3n l0 l1 s)
 | .h0 v13=>(lb (fun k0=>(lo fun aI=>(lo fun aQ=>(lb (fun k1=>(lr 26 116 [1,1,0,1,0,0,1,1,0,0,1,1,0,0] 1 4 [(4,(.bool false))] (sl Zu 21 [] ⟨[],[],[some [4]],[]⟩ ⟨[],[],[]⟩ (bl 2 3) (tt k1 (ww aQ (ww aI (tt k0 nn))))))) (fun k1=>(sl Zu 24 [] ⟨[],[],eqbN0,eqbM0⟩ ⟨[],[],[]⟩ (bl 2 1) (tt k1 (ww aQ (ww aI (tt k0 nn)))))))))) (fun k0=>(lr 26 3 [1,1,1,1,1,1,1,1,0] 1 4 [(4,(.bool true))] (sl Zu 11 [] ⟨[],[],[some [4]],[]⟩ ⟨[],[],[]⟩ [false] (tt k0 nn)))))
theorem x4k (l0:List R4) (l1:List R4):Yh prog (Zz prog 116) (eqbC l0 l1) (Zj prog 116 [(.dat l0.length (Zy l0)),(.dat l1.length (Zy l1))] true []) (z5u l0 l1):=(lb (fun k0=>(lr 26 116 [1,0,1,0,0] 1 4 [(4,(.bool false))] (sl Zu 18 [] ⟨[],[],[some [4]],[]⟩ ⟨[],[],[]⟩ [true] (tt k0 nn)))) (fun k0=>(sl Zu 24 [] ⟨[],[],eqbN0,eqbM0⟩ ⟨[],[],[]⟩ [false] (tt k0 nn))))
theorem v1r (l0:List R4) (l1:List R4) (n:Nat) (vs:List AVal) (h:Zo (z3n l0 l1) n (z5u l0 l1)=.ret vs):Ws prog (Zz prog 116) (Zj prog 116 [(.dat l0.length (Zy l0)),(.dat l1.length (Zy l1))] true []) vs:=by have:=Zk (w1e l0 l1) n _ (x4k l0 l1);rwa [h] at this
inductive eqcS where
 | h0 (v13:Int)
def eqcC (l0:List R6) (l1:List R6):eqcS→Cfg
 | .h0 v13=>⟨⟨26,0,true⟩,none,(Zm prog 54 [1,1,0,1,0,0] 0),none,(Zz prog 4),⟨Yx [(0,(.dat l0.length (Zy l0))),(1,(.dat l1.length (Zy l1))),(12,(ii (l0.length:Int))),(13,(ii v13))],Xj [] 0,0,[],true⟩,[],.leaf⟩
def eqcN0 :List (Option (List Nat)):=[some [0,1,12,13]]
def eqcM0 :List (Option (List Nat)):=[]
def z3m (l0:List R6) (l1:List R6):eqcS→Ya eqcS
 | .h0 v13=>(bif (decide (v13<(l0.length:Int))) then (bif ((decide (0≤v13∧v13<(l0.length:Int)))&&true) then (bif ((decide (0≤v13∧v13<(l1.length:Int)))&&true) then (bif (!((((rd l0 v13.toNat).a == (rd l1 v13.toNat).a)&&(((rd l0 v13.toNat).b == (rd l1 v13.toNat).b)&&(((rd l0 v13.toNat).c == (rd l1 v13.toNat).c)&&true)))&&((((rd l0 v13.toNat).d == (rd l1 v13.toNat).d)&&(((rd l0 v13.toNat).e == (rd l1 v13.toNat).e)&&(((rd l0 v13.toNat).f == (rd l1 v13.toNat).f)&&true)))&&true))) then (.ret [(.bool false)]) else (.to (.h0 (wrap .i64 (v13+1))))) else .stuck) else .stuck) else (.ret [(.bool true)]))
def z5t (l0:List R6) (l1:List R6):Ya eqcS:=(bif ((l0.length:Int) != (l1.length:Int)) then (.ret [(.bool false)]) else (.to (.h0 0)))
theorem w1d (l0:List R6) (l1:List R6): ∀s,Yh prog (Zz prog 54) (eqcC l0 l1) (eqcC l0 l1 s) (z3m l0 l1 s)
 | .h0 v13=>(lb (fun k0=>(lo fun aI=>(lo fun aQ=>(lb (fun k1=>(lr 26 54 [1,1,0,1,0,0,1,1,0,0,1,1,0,0] 1 4 [(4,(.bool false))] (sl Zu 21 [] ⟨[],[],[some [4]],[]⟩ ⟨[],[],[]⟩ (bl 2 3) (tt k1 (ww aQ (ww aI (tt k0 nn))))))) (fun k1=>(sl Zu 24 [] ⟨[],[],eqcN0,eqcM0⟩ ⟨[],[],[]⟩ (bl 2 1) (tt k1 (ww aQ (ww aI (tt k0 nn)))))))))) (fun k0=>(lr 26 3 [1,1,1,1,1,1,1,1,0] 1 4 [(4,(.bool true))] (sl Zu 11 [] ⟨[],[],[some [4]],[]⟩ ⟨[],[],[]⟩ [false] (tt k0 nn)))))
theorem x4j (l0:List R6) (l1:List R6):Yh prog (Zz prog 54) (eqcC l0 l1) (Zj prog 54 [(.dat l0.length (Zy l0)),(.dat l1.length (Zy l1))] true []) (z5t l0 l1):=(lb (fun k0=>(lr 26 54 [1,0,1,0,0] 1 4 [(4,(.bool false))] (sl Zu 18 [] ⟨[],[],[some [4]],[]⟩ ⟨[],[],[]⟩ [true] (tt k0 nn)))) (fun k0=>(sl Zu 24 [] ⟨[],[],eqcN0,eqcM0⟩ ⟨[],[],[]⟩ [false] (tt k0 nn))))
theorem v1q (l0:List R6) (l1:List R6) (n:Nat) (vs:List AVal) (h:Zo (z3m l0 l1) n (z5t l0 l1)=.ret vs):Ws prog (Zz prog 54) (Zj prog 54 [(.dat l0.length (Zy l0)),(.dat l1.length (Zy l1))] true []) vs:=by have:=Zk (w1d l0 l1) n _ (x4j l0 l1);rwa [h] at this
inductive holS where
def holC (x0:Int) (x1:Bool) (x2:Bool):holS→Cfg
 :=nofun
def x3o (x0:Int) (x1:Bool) (x2:Bool):holS→Ya holS
 :=nofun
def z9f (x0:Int) (x1:Bool) (x2:Bool):Ya holS:=(bif (x0 == 1) then (bif x1 then (.ret [(.bool x2)]) else (.ret [(.bool false)])) else (bif (x0 == 2) then (bif x1 then (.ret [(.bool true)]) else (.ret [(.bool x2)])) else (bif x1 then (.ret [(.bool (!x2))]) else (.ret [(.bool false)]))))
theorem w0k (x0:Int) (x1:Bool) (x2:Bool): ∀s,Yh prog (Zz prog 120) (holC x0 x1 x2) (holC x0 x1 x2 s) (x3o x0 x1 x2 s)
 :=nofun
theorem x3p (x0:Int) (x1:Bool) (x2:Bool):Yh prog (Zz prog 120) (holC x0 x1 x2) (Zj prog 120 [(.int .i64 x0),(.bool x1),(.bool x2)] true []) (z9f x0 x1 x2):=(lb (fun k0=>(lb (fun k1=>(lr 24 120 [1,0,1,0,0] 1 3 [(6,(.bool x2))] (sl Zu 19 [] ⟨[],[],[some [6]],[]⟩ ⟨[],[],[]⟩ [true,true] (tt k1 (tt k0 nn))))) (fun k1=>(lr 24 120 [1,0,1,0,0] 1 3 [(6,(.bool false))] (sl Zu 19 [] ⟨[],[],[some [6]],[]⟩ ⟨[],[],[]⟩ [true,false] (tt k1 (tt k0 nn))))))) (fun k0=>(lb (fun k1=>(lb (fun k2=>(lr 24 120 [1,1,0,1,0,0] 1 3 [(6,(.bool true))] (sl Zu 27 [] ⟨[],[],[some [6]],[]⟩ ⟨[],[],[]⟩ [false,true,true] (tt k2 (tt k1 (tt k0 nn)))))) (fun k2=>(lr 24 120 [1,1,0,1,0,0] 1 3 [(6,(.bool x2))] (sl Zu 27 [] ⟨[],[],[some [6]],[]⟩ ⟨[],[],[]⟩ [false,true,false] (tt k2 (tt k1 (tt k0 nn)))))))) (fun k1=>(lb (fun k2=>(lr 24 3 [1,1,1,1,1,1,1,1,0] 1 3 [(6,(.bool (!x2)))] (sl Zu 29 [] ⟨[],[],[some [6]],[]⟩ ⟨[],[],[]⟩ [false,false,true,true] (tt k2 (tt k1 (tt k0 nn)))))) (fun k2=>(lr 24 3 [1,1,1,1,1,1,1,1,0] 1 3 [(6,(.bool false))] (sl Zu 29 [] ⟨[],[],[some [6]],[]⟩ ⟨[],[],[]⟩ [false,false,false,false] (tt k2 (tt k1 (tt k0 nn)))))))))))
theorem v0w (x0:Int) (x1:Bool) (x2:Bool) (n:Nat) (vs:List AVal) (h:Zo (x3o x0 x1 x2) n (z9f x0 x1 x2)=.ret vs):Ws prog (Zz prog 120) (Zj prog 120 [(.int .i64 x0),(.bool x1),(.bool x2)] true []) vs:=by have:=Zk (w0k x0 x1 x2) n _ (x3p x0 x1 x2);rwa [h] at this
inductive fstS where
def fstC (x0:Bool) (x1:Bool):fstS→Cfg
 :=nofun
def x3w (x0:Bool) (x1:Bool):fstS→Ya fstS
 :=nofun
def y5r (x0:Bool) (x1:Bool):Ya fstS:=(.ret [(.bool x0)])
theorem w0p (x0:Bool) (x1:Bool): ∀s,Yh prog (Zz prog 168) (fstC x0 x1) (fstC x0 x1 s) (x3w x0 x1 s)
 :=nofun
theorem x3x (x0:Bool) (x1:Bool):Yh prog (Zz prog 168) (fstC x0 x1) (Zj prog 168 [(.bool x0),(.bool x1)] true []) (y5r x0 x1):=(lr 6 3 [1,1,1,1,1,1,1,1,0] 1 4 [(4,(.bool x0))] (sl Zu 9 [] ⟨[],[],[some [4]],[]⟩ ⟨[],[],[]⟩ [] nn))
theorem v1b (x0:Bool) (x1:Bool) (n:Nat) (vs:List AVal) (h:Zo (x3w x0 x1) n (y5r x0 x1)=.ret vs):Ws prog (Zz prog 168) (Zj prog 168 [(.bool x0),(.bool x1)] true []) vs:=by have:=Zk (w0p x0 x1) n _ (x3x x0 x1);rwa [h] at this
theorem dlt_t {a b:Int} (h:a<b):decide (a<b)=true:=Ae h
theorem dlt_f {a b:Int} (h: ¬a<b):decide (a<b)=false:=An h
theorem dle_t {a b:Int} (h:a≤b):decide (a≤b)=true:=Ae h
theorem dle_f {a b:Int} (h: ¬a≤b):decide (a≤b)=false:=An h
theorem dgt_t {a b:Int} (h:a>b):decide (a>b)=true:=Ae h
theorem dgt_f {a b:Int} (h: ¬a>b):decide (a>b)=false:=An h
theorem dge_t {a b:Int} (h:a≥b):decide (a≥b)=true:=Ae h
theorem dge_f {a b:Int} (h: ¬a≥b):decide (a≥b)=false:=An h
theorem nlt_t {a b:Nat} (h:a<b):decide (a<b)=true:=Ae h
theorem nle_t {a b:Nat} (h:a≤b):decide (a≤b)=true:=Ae h
theorem neq_t {a b:Nat} (h:a=b):decide (a=b)=true:=Ae h
theorem din_t {a b:Int} (h:0≤a∧a<b):decide (0≤a∧a<b)=true:=Ae h
theorem room_t {a:Nat} (h:a≤1099511627776):decide (a≤Jq)=true:=Ae h
theorem wrap_t {n:Int} (h: -9223372036854775808≤n∧n≤9223372036854775807):wrap .i64 n=n:=w_in h.1 h.2
theorem cast0 :((0:Nat):Int)=0:=rfl
theorem cast_succ (i:Nat):(i:Int)+1=((i+1:Nat):Int):=rfl
theorem cast_pred (i:Nat):((i+1:Nat):Int) - 1=(i:Int):=by omega
theorem ne_t {a b:Int} (h:a≠b):(a != b)=true:=by simp [h]
theorem ne_f {a b:Int} (h:a=b):(a != b)=false:=by simp [h]
theorem beq_t' {a b:Int} (h:a=b):(a == b)=true:=by simp [h]
theorem beq_f' {a b:Int} (h:a≠b):(a == b)=false:=by simp [h]
theorem beq11 (n:Nat):Nat.beq n n=true:=Bv n
theorem toNat_c (n:Nat):Int.toNat (n:Int)=n:=Int.toNat_natCast n
theorem boolc (b:Bool):b=true∨b=false:=by cases b <;> simp
theorem drop_rd {α:Type} [Ym α] {L:List α} {i:Nat} (h:i<L.length):L.drop i=rd L i::L.drop (i+1):=by rw [Xf h];exact AK h
theorem fOne {P:Program} {S:Specs} (hS:Zw P S) {f:FuncId} {F:List AVal→Option (AVal×Bool)} (hf:(P.funcs[f]?).any (fun fn=>fn.body.isSome)=true)
  (hF: ∀args v,F args=some (v,true)→ ∃bs vs,Xo VLe args bs∧Vt vs=v∧Ws P (Zz P f) (Zj P f bs true []) vs∧ ∃d,pf d v=true):Zw P (S.with f F):=y2s hS hf hF
def x2i (out:List Int) (x:Int):Nat→Nat
 | 0=>0
 | k+1=>bif decide (rd out k>x) then x2i out x k else k+1
def y3m (out:List Int) (x:Int):List Int:=
 match x2i out x out.length with
 | 0=>x::out
 | k+1=>bif rd out k == x then out else out.take (k+1)++x::out.drop (k+1)
def z0n (l:List Int):List Int:=l.foldl y3m []
def Ub (l:List Int):Bool:=decide (l.length≤1000000)
theorem y0o (out:List Int) (x:Int):(y3m out x).length ≤out.length+1:=by
 grind [y3m]
theorem y8r (out:List Int) (x:Int) (k:Nat) (hk:k≤out.length):
  (y2a (out++[0]) (k+1) (Nat.min (out.length+1 - k) (out.length+1 - (k+1))) (Ja (out++[0]) k (out.length+1 - k))).set k x=out.take k++x::out.drop k:=by
 have hm:Nat.min (out.length+1 - k) (out.length+1 - (k+1))=out.length - k:=by
  grind
 rw [hm];apply Bz
 ·simp [z0e];omega
 ·intro i h1 h2;have hi:i<out.length+1:=by grind
  rw [←Xf h1,←Xf h2]
  grind [v4g,Xf,w3z,v2f,v2e,y5c]
theorem x5u (l:List Int) (out:List Int) (i:Nat) (hi:i<l.length) (hl:l.length≤1000000) (ho:out.length≤i): ∀(k N:Nat),k≤out.length→
  (x2i out (rd l i) out.length=x2i out (rd l i) k)→ ∃m,∀N,Zo (Wb l) (N+m) (.to (.h1 out (i:Int) (k:Int)))=Zo (Wb l) N (.to (.h0 (y3m out (rd l i)) ((i+1:Nat):Int)))
 | 0,N,hk,hp=>by
  refine ⟨1,fun N=> ?_⟩;have hins:y3m out (rd l i)=(y2a (out++[0]) (0+1) (Nat.min (out.length+1 - 0) (out.length+1 - (0+1))) (Ja (out++[0]) 0 (out.length+1 - 0))).set 0 (rd l i):=by rw [y8r out _ 0 (AE _)];unfold y3m;rw [hp];rfl
  rw [hins,Zv];simp (disch:=omega) only [Wb,room_t,Av,dgt_f,dlt_t,dle_t,nlt_t,nle_t,neq_t,din_t,wrap_t,cast_succ,beq11,toNat_c,Al,Ap,Aq,Ag,Ad]
 | k +1,N,hk,hp=>by
  rcases boolc (decide (rd out k>rd l i)) with h | h
  ·have hp':x2i out (rd l i) out.length=x2i out (rd l i) k:=by grind [x2i]
   obtain ⟨m,hm⟩:=x5u l out i hi hl ho k N (by omega) hp';refine ⟨m+1,fun N=> ?_⟩;rw [←hm N,←AH,Zv];simp (disch:=omega) only [Wb,cast_pred,h,room_t,Av,dgt_t,dlt_t,dle_t,nlt_t,nle_t,neq_t,din_t,wrap_t,cast_succ,beq11,toNat_c,Al,Ap,Aq,Ag,Ad]
  ·have hpk:x2i out (rd l i) out.length=k+1:=by rw [hp];unfold x2i;rw [h];rfl
   refine ⟨1,fun N=> ?_⟩;rw [Zv];rcases boolc (rd out k == rd l i) with q | q
   ·have hins:y3m out (rd l i)=out:=(by grind [y3m]);rw [hins];simp (disch:=omega) only [Wb,cast_pred,h,q,room_t,Av,dgt_t,dlt_t,dle_t,nlt_t,nle_t,neq_t,din_t,wrap_t,cast_succ,beq11,toNat_c,Al,Ap,Aq,Ag,Ad]
   ·have hins:y3m out (rd l i)=(y2a (out++[0]) (k+1+1) (Nat.min (out.length+1 - (k+1)) (out.length+1 - (k+1+1))) (Ja (out++[0]) (k+1) (out.length+1 - (k+1)))).set (k+1) (rd l i):=by
     rw [y8r out _ (k+1) hk]
     grind [y3m]
    rw [hins];simp (disch:=omega) only [Wb,cast_pred,h,q,room_t,Av,dgt_t,dlt_t,dle_t,nlt_t,nle_t,neq_t,din_t,wrap_t,cast_succ,beq11,toNat_c,Al,Ap,Aq,Ag,Ad]
theorem x5v (l:List Int) (hl:l.length≤1000000): ∀(k i:Nat) (out:List Int),i+k=l.length→out.length≤i→ ∃m,Zo (Wb l) m (.to (.h0 out (i:Int)))=.ret [.dat ((l.drop i).foldl y3m out).length (Zy ((l.drop i).foldl y3m out))]
 | 0,i,out,h,ho=>by refine ⟨1,?_⟩;rw [Zv];simp (disch:=omega) only [Wb,dlt_f,Ad];rw [At (by omega)];rfl
 | k+1,i,out,h,ho=>by
  obtain ⟨m1,h1⟩:=x5u l out i (by omega) hl ho out.length 0 (Ao _) rfl;obtain ⟨m2,h2⟩:=x5v l hl k (i+1) (y3m out (rd l i)) (by omega) (AG (y0o _ _) (by omega));refine ⟨m2+m1+1,?_⟩
  grind [Zv,Wb,drop_rd]
theorem w3i (l:List Int) (h:Ub l=true): ∃N,Zo (Wb l) N (z1n l)=.ret [.dat (z0n l).length (Zy (z0n l))]:=by
 have:=x5v l (As h) l.length 0 [] (by omega) (Ao _)
 simpa [z1n,z0n] using this
theorem Zb (n:Nat):Int.toNat ((n:Int) - 1)=n - 1:=by omega
theorem w9n (x y:R2):((x.a == y.a)&&(x.b == y.b))=decide (x=y):=by
 obtain ⟨a,b⟩:=x;obtain ⟨c,d⟩:=y
 grind
theorem w9m (x y:R4):((x.a == y.a)&&((x.b == y.b)&&((x.c == y.c)&&(x.d == y.d))))=decide (x=y):=by
 obtain ⟨a,b,c,d⟩:=x;obtain ⟨e,f,g,h⟩:=y
 grind
theorem w9l (x y:R6):(((x.a == y.a)&&((x.b == y.b)&&(x.c == y.c)))&&((x.d == y.d)&&((x.e == y.e)&&(x.f == y.f))))=decide (x=y):=by
 obtain ⟨a,b,c,d,e,f⟩:=x;obtain ⟨a',b',c',d',e',f'⟩:=y
 grind
def Jt (l m:List R2):Bool:=decide (l=m)
def Js (l m:List R4):Bool:=decide (l=m)
def Ko (l m:List R6):Bool:=decide (l=m)
def Vq (l m:List R2):Bool:=decide (l.length≤1000000)
def Vk (l m:List R4):Bool:=decide (l.length≤1000000)
def Vj (l m:List R6):Bool:=decide (l.length≤1000000)
theorem z1x {α:Type} [DecidableEq α] (x y:α) (l m:List α):decide (x::l=y::m)=(decide (x=y)&&decide (l=m)):=by grind
theorem v3l (l m:List R2) (hl:l.length≤1000000) (hm:l.length=m.length): ∀(k i:Nat),i+k=l.length→ ∃N,Zo (z2t l m) N (.to (.h0 (i:Int)))=.ret [.bool (decide (l.drop i=m.drop i))]
 | 0,i,h=>by refine ⟨1,?_⟩;rw [Zv,At (show l.length≤i by omega),At (show m.length≤i by omega)];simp (disch:=omega) only [z2t,dgt_f,dgt_t,dlt_t,dlt_f,dle_t,nlt_t,nle_t,neq_t,din_t,wrap_t,room_t,ne_t,ne_f,Av,cast_succ,cast_pred,Zb,beq11,toNat_c,Al,Ap,Aq,Ag,Ad,Au,Ay,Zp]
 | k+1,i,h=>by
  obtain ⟨N,hN⟩:=v3l l m hl hm k (i+1) (by omega);refine ⟨N+1,?_⟩;rw [Zv,drop_rd (show i<l.length by omega),drop_rd (show i<m.length by omega),z1x];rcases boolc (decide (rd l i=rd m i)) with q | q
  ·simp (disch:=omega) only [z2t,w9n,q,dgt_f,dgt_t,dlt_t,dlt_f,dle_t,nlt_t,nle_t,neq_t,din_t,wrap_t,room_t,ne_t,ne_f,Av,cast_succ,cast_pred,Zb,beq11,toNat_c,Al,Ap,Aq,Ag,Ad,Au,Ay,Zp];exact hN
  ·simp (disch:=omega) only [z2t,w9n,q,dgt_f,dgt_t,dlt_t,dlt_f,dle_t,nlt_t,nle_t,neq_t,din_t,wrap_t,room_t,ne_t,ne_f,Av,cast_succ,cast_pred,Zb,beq11,toNat_c,Al,Ap,Aq,Ag,Ad,Au,Ay,Zp,AX]
theorem v7b (l m:List R2) (h:Vq l m=true): ∃N,Zo (z2t l m) N (z4a l m)=.ret [.bool (Jt l m)]:=by
 have hl:l.length≤1000000:=As h;by_cases hm:l.length=m.length
 ·obtain ⟨N,hN⟩:=v3l l m hl hm l.length 0 (Al _);refine ⟨N,?_⟩;unfold z4a;rw [ne_f (show (l.length:Int)=(m.length:Nat) by omega)];exact hN
 ·refine ⟨0,?_⟩;unfold z4a;rw [ne_t (show (l.length:Int)≠(m.length:Nat) by omega)];have:Jt l m=false:=An fun e=>hm (by rw [e]);rw [this];rfl
theorem v3k (l m:List R4) (hl:l.length≤1000000) (hm:l.length=m.length): ∀(k i:Nat),i+k=l.length→ ∃N,Zo (z2s l m) N (.to (.h0 (i:Int)))=.ret [.bool (decide (l.drop i=m.drop i))]
 | 0,i,h=>by refine ⟨1,?_⟩;rw [Zv,At (show l.length≤i by omega),At (show m.length≤i by omega)];simp (disch:=omega) only [z2s,dgt_f,dgt_t,dlt_t,dlt_f,dle_t,nlt_t,nle_t,neq_t,din_t,wrap_t,room_t,ne_t,ne_f,Av,cast_succ,cast_pred,Zb,beq11,toNat_c,Al,Ap,Aq,Ag,Ad,Au,Ay,Zp]
 | k+1,i,h=>by
  obtain ⟨N,hN⟩:=v3k l m hl hm k (i+1) (by omega);refine ⟨N+1,?_⟩;rw [Zv,drop_rd (show i<l.length by omega),drop_rd (show i<m.length by omega),z1x];rcases boolc (decide (rd l i=rd m i)) with q | q
  ·simp (disch:=omega) only [z2s,w9m,q,dgt_f,dgt_t,dlt_t,dlt_f,dle_t,nlt_t,nle_t,neq_t,din_t,wrap_t,room_t,ne_t,ne_f,Av,cast_succ,cast_pred,Zb,beq11,toNat_c,Al,Ap,Aq,Ag,Ad,Au,Ay,Zp];exact hN
  ·simp (disch:=omega) only [z2s,w9m,q,dgt_f,dgt_t,dlt_t,dlt_f,dle_t,nlt_t,nle_t,neq_t,din_t,wrap_t,room_t,ne_t,ne_f,Av,cast_succ,cast_pred,Zb,beq11,toNat_c,Al,Ap,Aq,Ag,Ad,Au,Ay,Zp,AX]
theorem v7a (l m:List R4) (h:Vk l m=true): ∃N,Zo (z2s l m) N (z3z l m)=.ret [.bool (Js l m)]:=by
 have hl:l.length≤1000000:=As h;by_cases hm:l.length=m.length
 ·obtain ⟨N,hN⟩:=v3k l m hl hm l.length 0 (Al _);refine ⟨N,?_⟩;unfold z3z;rw [ne_f (show (l.length:Int)=(m.length:Nat) by omega)];exact hN
 ·refine ⟨0,?_⟩;unfold z3z;rw [ne_t (show (l.length:Int)≠(m.length:Nat) by omega)];have:Js l m=false:=An fun e=>hm (by rw [e]);rw [this];rfl
theorem v3p (l m:List R6) (hl:l.length≤1000000) (hm:l.length=m.length): ∀(k i:Nat),i+k=l.length→ ∃N,Zo (z2u l m) N (.to (.h0 (i:Int)))=.ret [.bool (decide (l.drop i=m.drop i))]
 | 0,i,h=>by refine ⟨1,?_⟩;rw [Zv,At (show l.length≤i by omega),At (show m.length≤i by omega)];simp (disch:=omega) only [z2u,dgt_f,dgt_t,dlt_t,dlt_f,dle_t,nlt_t,nle_t,neq_t,din_t,wrap_t,room_t,ne_t,ne_f,Av,cast_succ,cast_pred,Zb,beq11,toNat_c,Al,Ap,Aq,Ag,Ad,Au,Ay,Zp]
 | k+1,i,h=>by
  obtain ⟨N,hN⟩:=v3p l m hl hm k (i+1) (by omega);refine ⟨N+1,?_⟩;rw [Zv,drop_rd (show i<l.length by omega),drop_rd (show i<m.length by omega),z1x];rcases boolc (decide (rd l i=rd m i)) with q | q
  ·simp (disch:=omega) only [z2u,w9l,q,dgt_f,dgt_t,dlt_t,dlt_f,dle_t,nlt_t,nle_t,neq_t,din_t,wrap_t,room_t,ne_t,ne_f,Av,cast_succ,cast_pred,Zb,beq11,toNat_c,Al,Ap,Aq,Ag,Ad,Au,Ay,Zp];exact hN
  ·simp (disch:=omega) only [z2u,w9l,q,dgt_f,dgt_t,dlt_t,dlt_f,dle_t,nlt_t,nle_t,neq_t,din_t,wrap_t,room_t,ne_t,ne_f,Av,cast_succ,cast_pred,Zb,beq11,toNat_c,Al,Ap,Aq,Ag,Ad,Au,Ay,Zp,AX]
theorem v7f (l m:List R6) (h:Vj l m=true): ∃N,Zo (z2u l m) N (z4b l m)=.ret [.bool (Ko l m)]:=by
 have hl:l.length≤1000000:=As h;by_cases hm:l.length=m.length
 ·obtain ⟨N,hN⟩:=v3p l m hl hm l.length 0 (Al _);refine ⟨N,?_⟩;unfold z4b;rw [ne_f (show (l.length:Int)=(m.length:Nat) by omega)];exact hN
 ·refine ⟨0,?_⟩;unfold z4b;rw [ne_t (show (l.length:Int)≠(m.length:Nat) by omega)];have:Ko l m=false:=An fun e=>hm (by rw [e]);rw [this];rfl
theorem v5p (l m:List R2) (hl:l.length≤1000000) (hm:l.length=m.length): ∀(k i:Nat),i+k=l.length→ ∃N,Zo (z3o l m) N (.to (.h0 (i:Int)))=.ret [.bool (decide (l.drop i=m.drop i))]
 | 0,i,h=>by refine ⟨1,?_⟩;rw [Zv,At (show l.length≤i by omega),At (show m.length≤i by omega)];simp (disch:=omega) only [z3o,dgt_f,dgt_t,dlt_t,dlt_f,dle_t,nlt_t,nle_t,neq_t,din_t,wrap_t,room_t,ne_t,ne_f,Av,cast_succ,cast_pred,Zb,beq11,toNat_c,Al,Ap,Aq,Ag,Ad,Au,Ay,Zp]
 | k+1,i,h=>by
  obtain ⟨N,hN⟩:=v5p l m hl hm k (i+1) (by omega);refine ⟨N+1,?_⟩;rw [Zv,drop_rd (show i<l.length by omega),drop_rd (show i<m.length by omega),z1x];rcases boolc (decide (rd l i=rd m i)) with q | q
  ·simp (disch:=omega) only [z3o,w9n,q,dgt_f,dgt_t,dlt_t,dlt_f,dle_t,nlt_t,nle_t,neq_t,din_t,wrap_t,room_t,ne_t,ne_f,Av,cast_succ,cast_pred,Zb,beq11,toNat_c,Al,Ap,Aq,Ag,Ad,Au,Ay,Zp];exact hN
  ·simp (disch:=omega) only [z3o,w9n,q,dgt_f,dgt_t,dlt_t,dlt_f,dle_t,nlt_t,nle_t,neq_t,din_t,wrap_t,room_t,ne_t,ne_f,Av,cast_succ,cast_pred,Zb,beq11,toNat_c,Al,Ap,Aq,Ag,Ad,Au,Ay,Zp,AX]
theorem u2e (l m:List R2) (h:Vq l m=true): ∃N,Zo (z3o l m) N (z5v l m)=.ret [.bool (Jt l m)]:=by
 have hl:l.length≤1000000:=As h;by_cases hm:l.length=m.length
 ·obtain ⟨N,hN⟩:=v5p l m hl hm l.length 0 (Al _);refine ⟨N,?_⟩;unfold z5v;rw [ne_f (show (l.length:Int)=(m.length:Nat) by omega)];exact hN
 ·refine ⟨0,?_⟩;unfold z5v;rw [ne_t (show (l.length:Int)≠(m.length:Nat) by omega)];have:Jt l m=false:=An fun e=>hm (by rw [e]);rw [this];rfl
theorem v5o (l m:List R4) (hl:l.length≤1000000) (hm:l.length=m.length): ∀(k i:Nat),i+k=l.length→ ∃N,Zo (z3n l m) N (.to (.h0 (i:Int)))=.ret [.bool (decide (l.drop i=m.drop i))]
 | 0,i,h=>by refine ⟨1,?_⟩;rw [Zv,At (show l.length≤i by omega),At (show m.length≤i by omega)];simp (disch:=omega) only [z3n,dgt_f,dgt_t,dlt_t,dlt_f,dle_t,nlt_t,nle_t,neq_t,din_t,wrap_t,room_t,ne_t,ne_f,Av,cast_succ,cast_pred,Zb,beq11,toNat_c,Al,Ap,Aq,Ag,Ad,Au,Ay,Zp]
 | k+1,i,h=>by
  obtain ⟨N,hN⟩:=v5o l m hl hm k (i+1) (by omega);refine ⟨N+1,?_⟩;rw [Zv,drop_rd (show i<l.length by omega),drop_rd (show i<m.length by omega),z1x];rcases boolc (decide (rd l i=rd m i)) with q | q
  ·simp (disch:=omega) only [z3n,w9m,q,dgt_f,dgt_t,dlt_t,dlt_f,dle_t,nlt_t,nle_t,neq_t,din_t,wrap_t,room_t,ne_t,ne_f,Av,cast_succ,cast_pred,Zb,beq11,toNat_c,Al,Ap,Aq,Ag,Ad,Au,Ay,Zp];exact hN
  ·simp (disch:=omega) only [z3n,w9m,q,dgt_f,dgt_t,dlt_t,dlt_f,dle_t,nlt_t,nle_t,neq_t,din_t,wrap_t,room_t,ne_t,ne_f,Av,cast_succ,cast_pred,Zb,beq11,toNat_c,Al,Ap,Aq,Ag,Ad,Au,Ay,Zp,AX]
theorem u2d (l m:List R4) (h:Vk l m=true): ∃N,Zo (z3n l m) N (z5u l m)=.ret [.bool (Js l m)]:=by
 have hl:l.length≤1000000:=As h;by_cases hm:l.length=m.length
 ·obtain ⟨N,hN⟩:=v5o l m hl hm l.length 0 (Al _);refine ⟨N,?_⟩;unfold z5u;rw [ne_f (show (l.length:Int)=(m.length:Nat) by omega)];exact hN
 ·refine ⟨0,?_⟩;unfold z5u;rw [ne_t (show (l.length:Int)≠(m.length:Nat) by omega)];have:Js l m=false:=An fun e=>hm (by rw [e]);rw [this];rfl
theorem v5n (l m:List R6) (hl:l.length≤1000000) (hm:l.length=m.length): ∀(k i:Nat),i+k=l.length→ ∃N,Zo (z3m l m) N (.to (.h0 (i:Int)))=.ret [.bool (decide (l.drop i=m.drop i))]
 | 0,i,h=>by refine ⟨1,?_⟩;rw [Zv,At (show l.length≤i by omega),At (show m.length≤i by omega)];simp (disch:=omega) only [z3m,dgt_f,dgt_t,dlt_t,dlt_f,dle_t,nlt_t,nle_t,neq_t,din_t,wrap_t,room_t,ne_t,ne_f,Av,cast_succ,cast_pred,Zb,beq11,toNat_c,Al,Ap,Aq,Ag,Ad,Au,Ay,Zp]
 | k+1,i,h=>by
  obtain ⟨N,hN⟩:=v5n l m hl hm k (i+1) (by omega);refine ⟨N+1,?_⟩;rw [Zv,drop_rd (show i<l.length by omega),drop_rd (show i<m.length by omega),z1x];rcases boolc (decide (rd l i=rd m i)) with q | q
  ·simp (disch:=omega) only [z3m,w9l,q,dgt_f,dgt_t,dlt_t,dlt_f,dle_t,nlt_t,nle_t,neq_t,din_t,wrap_t,room_t,ne_t,ne_f,Av,cast_succ,cast_pred,Zb,beq11,toNat_c,Al,Ap,Aq,Ag,Ad,Au,Ay,Zp];exact hN
  ·simp (disch:=omega) only [z3m,w9l,q,dgt_f,dgt_t,dlt_t,dlt_f,dle_t,nlt_t,nle_t,neq_t,din_t,wrap_t,room_t,ne_t,ne_f,Av,cast_succ,cast_pred,Zb,beq11,toNat_c,Al,Ap,Aq,Ag,Ad,Au,Ay,Zp,AX]
theorem u2c (l m:List R6) (h:Vj l m=true): ∃N,Zo (z3m l m) N (z5t l m)=.ret [.bool (Ko l m)]:=by
 have hl:l.length≤1000000:=As h;by_cases hm:l.length=m.length
 ·obtain ⟨N,hN⟩:=v5n l m hl hm l.length 0 (Al _);refine ⟨N,?_⟩;unfold z5t;rw [ne_f (show (l.length:Int)=(m.length:Nat) by omega)];exact hN
 ·refine ⟨0,?_⟩;unfold z5t;rw [ne_t (show (l.length:Int)≠(m.length:Nat) by omega)];have:Ko l m=false:=An fun e=>hm (by rw [e]);rw [this];rfl
def in4 (x y:Int) (r:R4):Bool:=decide (r.a≤x)&&(decide (x<r.c)&&(decide (r.b≤y)&&decide (y<r.d)))
def Vs (l:List R4) (x y:Int):Bool:=l.any (in4 x y)
def Jp (l:List R4) (x y:Int):Bool:=decide (l.length≤1000000)
theorem w3u (l:List R4) (x y:Int) (hl:l.length≤1000000): ∀(k i:Nat),i+k=l.length→ ∃N,Zo (z1o l x y) N (.to (.h0 (i:Int)))=.ret [.bool ((l.drop i).any (in4 x y))]
 | 0,i,h=>by refine ⟨1,?_⟩;rw [Zv,At (show l.length≤i by omega)];simp (disch:=omega) only [z1o,dgt_f,dgt_t,dlt_t,dlt_f,dle_t,nlt_t,nle_t,neq_t,din_t,wrap_t,room_t,ne_t,ne_f,Av,cast_succ,cast_pred,Zb,beq11,toNat_c,Al,Ap,Aq,Ag,Ad,Au,Ay,Zp];rfl
 | k+1,i,h=>by
  obtain ⟨N,hN⟩:=w3u l x y hl k (i+1) (by omega);refine ⟨N+1,?_⟩;rw [Zv,drop_rd (show i<l.length by omega),List.any_cons];unfold in4 at hN ⊢;rcases boolc (decide ((rd l i).a ≤x)) with q1 | q1 <;> rcases boolc (decide (x<(rd l i).c)) with q2 | q2 <;> rcases boolc (decide ((rd l i).b ≤y)) with q3 | q3 <;> rcases boolc (decide (y<(rd l i).d)) with q4 | q4 <;>
   simp (disch:=omega) only [z1o,q1,q2,q3,q4,dgt_f,dgt_t,dlt_t,dlt_f,dle_t,nlt_t,nle_t,neq_t,din_t,wrap_t,room_t,ne_t,ne_f,Av,cast_succ,cast_pred,Zb,beq11,toNat_c,Al,Ap,Aq,Ag,Ad,Au,Ay,Zp,AX,AS,Ba,Bool.true_or] <;> exact hN
theorem w8v (l:List R4) (x y:Int) (h:Jp l x y=true): ∃N,Zo (z1o l x y) N (z4i l x y)=.ret [.bool (Vs l x y)]:=by
 have:=w3u l x y (As h) l.length 0 (Al _)
 simpa [z4i,Vs] using this
def on6 (z:Int) (b:R6):Bool:=decide (b.c≤z)&&decide (z<b.f)
def v9z (b:R6):R4:=⟨b.a,b.b,b.d,b.e⟩
def atV (l:List R6) (z:Int):List R4:=(l.filter (on6 z)).map v9z
def z1z (l:List R6) (z:Int):Bool:=decide (l.length≤1000000)
theorem w4i (l:List R6) (z:Int) (hl:l.length≤1000000): ∀(k i:Nat) (out:List R4),i+k=l.length→out.length≤i→ ∃N,Zo (z2z l z) N (.to (.h0 out (i:Int)))=.ret [.dat (out++atV (l.drop i) z).length (Zy (out++atV (l.drop i) z))]
 | 0,i,out,h,ho=>by refine ⟨1,?_⟩;rw [Zv,At (show l.length≤i by omega)];simp (disch:=omega) only [z2z,dgt_f,dgt_t,dlt_t,dlt_f,dle_t,nlt_t,nle_t,neq_t,din_t,wrap_t,room_t,ne_t,ne_f,Av,cast_succ,cast_pred,Zb,beq11,toNat_c,Al,Ap,Aq,Ag,Ad,Au,Ay,Zp,atV,List.filter_nil,List.map_nil,AJ]
 | k+1,i,out,h,ho=>by
  rw [drop_rd (show i<l.length by omega)];have e:atV (rd l i::l.drop (i+1)) z=(bif on6 z (rd l i) then [v9z (rd l i)] else [])++atV (l.drop (i+1)) z:=by
   grind [atV]
  rw [e,←AF];rcases boolc (decide ((rd l i).c ≤z)) with q1 | q1 <;> rcases boolc (decide (z<(rd l i).f)) with q2 | q2
  ·obtain ⟨N,hN⟩:=w4i l z hl k (i+1) (out++[v9z (rd l i)]) (by omega) (by simp;omega);refine ⟨N+1,?_⟩;rw [Zv];simp (disch:=omega) only [z2z,q1,q2,on6,dgt_f,dgt_t,dlt_t,dlt_f,dle_t,nlt_t,nle_t,neq_t,din_t,wrap_t,room_t,ne_t,ne_f,Av,cast_succ,cast_pred,Zb,beq11,toNat_c,Al,Ap,Aq,Ag,Ad,Au,Ay,Zp];exact hN
  all_goals
   obtain ⟨N,hN⟩:=w4i l z hl k (i+1) out (by omega) (by omega);refine ⟨N+1,?_⟩;rw [Zv];simp (disch:=omega) only [z2z,q1,q2,on6,dgt_f,dgt_t,dlt_t,dlt_f,dle_t,nlt_t,nle_t,neq_t,din_t,wrap_t,room_t,ne_t,ne_f,Av,cast_succ,cast_pred,Zb,beq11,toNat_c,Al,Ap,Aq,Ag,Ad,Au,Ay,Zp,AX,AS,AJ];exact hN
theorem v8l (l:List R6) (z:Int) (h:z1z l z=true): ∃N,Zo (z2z l z) N (z8y l z)=.ret [.dat (atV l z).length (Zy (atV l z))]:=by
 have:=w4i l z (As h) l.length 0 [] (Al _) (Ao _)
 simpa [z8y] using this
def w2a (cuts:List Int) (ins:List Bool):Nat→Nat→List R2→List R2
 | 0,_,out=>out
 | k+1,i,out=>w2a cuts ins k (i+1) (bif rd ins i then (bif decide (0<out.length)&&((rd out (out.length - 1)).b == rd cuts i) then out.set (out.length - 1) ⟨(rd out (out.length - 1)).a,rd cuts (i+1)⟩ else out++[⟨rd cuts i,rd cuts (i+1)⟩]) else out)
def z7y (cuts:List Int) (ins:List Bool):List R2:=w2a cuts ins (cuts.length - 1) 0 []
def z6c (cuts:List Int) (ins:List Bool):Bool:=decide (cuts.length≤1000000∧cuts.length≤ins.length+1)
theorem y5d (cuts:List Int) (ins:List Bool) (hl:cuts.length≤1000000) (hi:cuts.length≤ins.length+1): ∀(k i:Nat) (out:List R2),k=cuts.length - 1 - i→i≤cuts.length→out.length≤i→ ∃N,Zo (Jw cuts ins) N (.to (.h0 out (i:Int)))=.ret [.dat (w2a cuts ins k i out).length (Zy (w2a cuts ins k i out))]
 | 0,i,out,h,hi2,ho=>by refine ⟨1,?_⟩;rw [Zv];simp (disch:=omega) only [Jw,dgt_f,dgt_t,dlt_t,dlt_f,dle_t,nlt_t,nle_t,neq_t,din_t,wrap_t,room_t,ne_t,ne_f,Av,cast_succ,cast_pred,Zb,beq11,toNat_c,Al,Ap,Aq,Ag,Ad,Au,Ay,Zp,w2a]
 | k+1,i,out,h,hi2,ho=>by
  unfold w2a;rcases boolc (rd ins i) with q | q
  ·rcases boolc (decide (0<out.length)&&((rd out (out.length - 1)).b == rd cuts i)) with q2 | q2
   ·obtain ⟨N,hN⟩:=y5d cuts ins hl hi k (i+1) (out.set (out.length - 1) ⟨(rd out (out.length - 1)).a,rd cuts (i+1)⟩) (by omega) (by omega) (by simp;omega);refine ⟨N+1,?_⟩;rw [Zv,q,q2];simp only [Ac,Ak] at q2;simp (disch:=omega) only [Jw,q,q2.2,dgt_f,dgt_t,dlt_t,dlt_f,dle_t,nlt_t,nle_t,neq_t,din_t,wrap_t,room_t,ne_t,ne_f,Av,cast_succ,cast_pred,Zb,beq11,toNat_c,Al,Ap,Aq,Ag,Ad,Au,Ay,Zp];exact hN
   ·obtain ⟨N,hN⟩:=y5d cuts ins hl hi k (i+1) (out++[⟨rd cuts i,rd cuts (i+1)⟩]) (by omega) (by omega) (by simp;omega);refine ⟨N+1,?_⟩;rw [Zv,q,q2];by_cases h0:0<out.length
    ·rw [Ae h0,Aq] at q2;simp (disch:=omega) only [Jw,q,q2,dgt_f,dgt_t,dlt_t,dlt_f,dle_t,nlt_t,nle_t,neq_t,din_t,wrap_t,room_t,ne_t,ne_f,Av,cast_succ,cast_pred,Zb,beq11,toNat_c,Al,Ap,Aq,Ag,Ad,Au,Ay,Zp];exact hN
    ·simp (disch:=omega) only [Jw,q,dgt_f,dgt_t,dlt_t,dlt_f,dle_t,nlt_t,nle_t,neq_t,din_t,wrap_t,room_t,ne_t,ne_f,Av,cast_succ,cast_pred,Zb,beq11,toNat_c,Al,Ap,Aq,Ag,Ad,Au,Ay,Zp];exact hN
  ·obtain ⟨N,hN⟩:=y5d cuts ins hl hi k (i+1) out (by omega) (by omega) (by omega);refine ⟨N+1,?_⟩;rw [Zv,q];simp (disch:=omega) only [Jw,q,dgt_f,dgt_t,dlt_t,dlt_f,dle_t,nlt_t,nle_t,neq_t,din_t,wrap_t,room_t,ne_t,ne_f,Av,cast_succ,cast_pred,Zb,beq11,toNat_c,Al,Ap,Aq,Ag,Ad,Au,Ay,Zp];exact hN
theorem w9h (cuts:List Int) (ins:List Bool) (h:z6c cuts ins=true): ∃N,Zo (Jw cuts ins) N (z4t cuts ins)=.ret [.dat (z7y cuts ins).length (Zy (z7y cuts ins))]:=by
 obtain ⟨h1,h2⟩:=As h;have:=y5d cuts ins h1 h2 (cuts.length - 1) 0 [] (by omega) (AE _) (Ao _)
 simpa [z4t,z7y] using this
abbrev w4t :Nat:=117
abbrev v4y :Nat:=122
abbrev v4u :Nat:=123
abbrev v4x :Nat:=120
abbrev nHas4 :Nat:=121
abbrev v4t :Nat:=91
abbrev nXs :Nat:=118
abbrev nYs :Nat:=119
abbrev v4w :Nat:=89
abbrev v4s :Nat:=19
abbrev nAt :Nat:=90
abbrev nCuts :Nat:=88
abbrev v4v :Nat:=57
abbrev w4v :Nat:=32
abbrev nEq2 :Nat:=148
abbrev nEq4 :Nat:=116
abbrev nEq6 :Nat:=54
abbrev v4r :Nat:=181
abbrev x6l :Nat:=182
abbrev nSort :Nat:=109
abbrev x6m :Nat:=110
abbrev nFst :Nat:=168
abbrev y8e :Nat:=145
abbrev x6k :Nat:=86
abbrev w4u :Nat:=115
abbrev x6j :Nat:=114
abbrev x6i :Nat:=52
-- not there: gambrel/solid.contact
abbrev y8f :Nat:=29
-- not there: gambrel/gambrelref28.insert
def Kq (k:Int) (a b:Bool):Bool:=bif k == 1 then a&&b else bif k == 2 then a||b else a&& !b
def x7a (a b:Bool):Bool:=a
theorem v9l (k:Int) (a b:Bool): ∃N,Zo (x3o k a b) N (z9f k a b)=.ret [.bool (Kq k a b)]:=by
 refine ⟨0,?_⟩;unfold z9f Kq;cases a <;> cases b <;> rcases boolc (k == 1) with q | q <;> rcases boolc (k == 2) with q2 | q2 <;> rw [q] <;> (try rw [q2]) <;> rfl
theorem v9t (a b:Bool): ∃N,Zo (x3w a b) N (y5r a b)=.ret [.bool (x7a a b)]:=⟨0,rfl⟩
def fSrt :List AVal→Option (AVal×Bool)
 | [a0]=>match asL Int a0 with
  | some (L0,g0,n0)=>some (.dat (z0n L0).length (Zy (z0n L0)),isT Int n0 g0&&(Ub L0))
  | _=>none
 | _=>none
theorem u0g {S:Specs} (hS:Zw prog S):Zw prog (S.with w4t fSrt):=by
 refine fOne hS (by kernel_rfl) fun args v h=> ?_;unfold fSrt at h;split at h
 ·rename_i a0;split at h
  ·rename_i L0 g0 n0 e0;simp only [Ab,Aa,Ac] at h;obtain ⟨rfl,ho0,hw⟩:=h;obtain ⟨N,hN⟩:=w3i L0 hw;exact ⟨_,_,(.cons (Yg e0 ho0) .nil),rfl,x8n L0 N _ hN,3,rfl⟩
  ·cases h
 ·cases h
def fCan :List AVal→Option (AVal×Bool)
 | [a0,a1]=>match asL Int a0,asL Bool a1 with
  | some (L0,g0,n0),some (L1,g1,n1)=>some (.dat (z7y L0 L1).length (Zy (z7y L0 L1)),isT Int n0 g0&&(isT Bool n1 g1&&(z6c L0 L1)))
  | _,_=>none
 | _=>none
theorem u2b {S:Specs} (hS:Zw prog S):Zw prog (S.with v4y fCan):=by
 refine fOne hS (by kernel_rfl) fun args v h=> ?_;unfold fCan at h;split at h
 ·rename_i a0 a1;split at h
  ·rename_i L0 g0 n0 L1 g1 n1 e0 e1;simp only [Ab,Aa,Ac] at h;obtain ⟨rfl,ho0,ho1,hw⟩:=h;obtain ⟨N,hN⟩:=w9h L0 L1 hw;exact ⟨_,_,(.cons (Yg e0 ho0) (.cons (Yg e1 ho1) .nil)),rfl,w4h L0 L1 N _ hN,3,rfl⟩
  ·cases h
 ·cases h
def y3s :List AVal→Option (AVal×Bool)
 | [a0,a1]=>match asL R2 a0,asL R2 a1 with
  | some (L0,g0,n0),some (L1,g1,n1)=>some (.bool (Jt L0 L1),isT R2 n0 g0&&(isT R2 n1 g1&&(Vq L0 L1)))
  | _,_=>none
 | _=>none
theorem w5w {S:Specs} (hS:Zw prog S):Zw prog (S.with v4u y3s):=by
 refine fOne hS (by kernel_rfl) fun args v h=> ?_;unfold y3s at h;split at h
 ·rename_i a0 a1;split at h
  ·rename_i L0 g0 n0 L1 g1 n1 e0 e1;simp only [Ab,Aa,Ac] at h;obtain ⟨rfl,ho0,ho1,hw⟩:=h;obtain ⟨N,hN⟩:=v7b L0 L1 hw;exact ⟨_,_,(.cons (Yg e0 ho0) (.cons (Yg e1 ho1) .nil)),rfl,w8d L0 L1 N _ hN,3,rfl⟩
  ·cases h
 ·cases h
def y3r :List AVal→Option (AVal×Bool)
 | [a0,a1]=>match asL R4 a0,asL R4 a1 with
  | some (L0,g0,n0),some (L1,g1,n1)=>some (.bool (Js L0 L1),isT R4 n0 g0&&(isT R4 n1 g1&&(Vk L0 L1)))
  | _,_=>none
 | _=>none
theorem w5v {S:Specs} (hS:Zw prog S):Zw prog (S.with v4t y3r):=by
 refine fOne hS (by kernel_rfl) fun args v h=> ?_;unfold y3r at h;split at h
 ·rename_i a0 a1;split at h
  ·rename_i L0 g0 n0 L1 g1 n1 e0 e1;simp only [Ab,Aa,Ac] at h;obtain ⟨rfl,ho0,ho1,hw⟩:=h;obtain ⟨N,hN⟩:=v7a L0 L1 hw;exact ⟨_,_,(.cons (Yg e0 ho0) (.cons (Yg e1 ho1) .nil)),rfl,w8c L0 L1 N _ hN,3,rfl⟩
  ·cases h
 ·cases h
def y3q :List AVal→Option (AVal×Bool)
 | [a0,a1]=>match asL R6 a0,asL R6 a1 with
  | some (L0,g0,n0),some (L1,g1,n1)=>some (.bool (Ko L0 L1),isT R6 n0 g0&&(isT R6 n1 g1&&(Vj L0 L1)))
  | _,_=>none
 | _=>none
theorem w5u {S:Specs} (hS:Zw prog S):Zw prog (S.with v4s y3q):=by
 refine fOne hS (by kernel_rfl) fun args v h=> ?_;unfold y3q at h;split at h
 ·rename_i a0 a1;split at h
  ·rename_i L0 g0 n0 L1 g1 n1 e0 e1;simp only [Ab,Aa,Ac] at h;obtain ⟨rfl,ho0,ho1,hw⟩:=h;obtain ⟨N,hN⟩:=v7f L0 L1 hw;exact ⟨_,_,(.cons (Yg e0 ho0) (.cons (Yg e1 ho1) .nil)),rfl,w8g L0 L1 N _ hN,3,rfl⟩
  ·cases h
 ·cases h
def u1n :List AVal→Option (AVal×Bool)
 | [a0,.int .i64 x1,.int .i64 x2]=>match asL R4 a0 with
  | some (L0,g0,n0)=>some (.bool (Vs L0 x1 x2),isT R4 n0 g0&&(Jp L0 x1 x2))
  | _=>none
 | _=>none
theorem v1m {S:Specs} (hS:Zw prog S):Zw prog (S.with nHas4 u1n):=by
 refine fOne hS (by kernel_rfl) fun args v h=> ?_;unfold u1n at h;split at h
 ·rename_i a0 x1 x2;split at h
  ·rename_i L0 g0 n0 e0;simp only [Ab,Aa,Ac] at h;obtain ⟨rfl,ho0,hw⟩:=h;obtain ⟨N,hN⟩:=w8v L0 x1 x2 hw;exact ⟨_,_,(.cons (Yg e0 ho0) (.cons (.refl _) (.cons (.refl _) .nil))),rfl,w3v L0 x1 x2 N _ hN,3,rfl⟩
  ·cases h
 ·cases h
def fAt :List AVal→Option (AVal×Bool)
 | [a0,.int .i64 x1]=>match asL R6 a0 with
  | some (L0,g0,n0)=>some (.dat (atV L0 x1).length (Zy (atV L0 x1)),isT R6 n0 g0&&(z1z L0 x1))
  | _=>none
 | _=>none
theorem fAt_ok {S:Specs} (hS:Zw prog S):Zw prog (S.with nAt fAt):=by
 refine fOne hS (by kernel_rfl) fun args v h=> ?_;unfold fAt at h;split at h
 ·rename_i a0 x1;split at h
  ·rename_i L0 g0 n0 e0;simp only [Ab,Aa,Ac] at h;obtain ⟨rfl,ho0,hw⟩:=h;obtain ⟨N,hN⟩:=v8l L0 x1 hw;exact ⟨_,_,(.cons (Yg e0 ho0) (.cons (.refl _) .nil)),rfl,w9i L0 x1 N _ hN,3,rfl⟩
  ·cases h
 ·cases h
def w5y :List AVal→Option (AVal×Bool)
 | [.int .i64 x0,.bool b1,.bool b2]=>some (.bool (Kq x0 b1 b2),true)
 | _=>none
theorem w5x {S:Specs} (hS:Zw prog S):Zw prog (S.with v4x w5y):=by
 refine fOne hS (by kernel_rfl) fun args v h=> ?_;unfold w5y at h;split at h
 ·rename_i x0 b1 b2;simp only [Ab,Aa,and_true] at h;subst h;obtain ⟨N,hN⟩:=v9l x0 b1 b2;exact ⟨_,_,(.cons (.refl _) (.cons (.refl _) (.cons (.refl _) .nil))),rfl,v0w x0 b1 b2 N _ hN,3,rfl⟩
 ·cases h
def fFst :List AVal→Option (AVal×Bool)
 | [.bool b0,.bool b1]=>some (.bool (x7a b0 b1),true)
 | _=>none
theorem u1r {S:Specs} (hS:Zw prog S):Zw prog (S.with nFst fFst):=by
 refine fOne hS (by kernel_rfl) fun args v h=> ?_;unfold fFst at h;split at h
 ·rename_i b0 b1;simp only [Ab,Aa,and_true] at h;subst h;obtain ⟨N,hN⟩:=v9t b0 b1;exact ⟨_,_,(.cons (.refl _) (.cons (.refl _) .nil)),rfl,v1b b0 b1 N _ hN,3,rfl⟩
 ·cases h
theorem w1c {S:Specs} (hS:Zw prog S):Zw prog (S.with nEq2 y3s):=by
 refine fOne hS (by kernel_rfl) fun args v h=> ?_;unfold y3s at h;split at h
 ·rename_i a0 a1;split at h
  ·rename_i L0 g0 n0 L1 g1 n1 e0 e1;simp only [Ab,Aa,Ac] at h;obtain ⟨rfl,ho0,ho1,hw⟩:=h;obtain ⟨N,hN⟩:=u2e L0 L1 hw;exact ⟨_,_,(.cons (Yg e0 ho0) (.cons (Yg e1 ho1) .nil)),rfl,v1s L0 L1 N _ hN,3,rfl⟩
  ·cases h
 ·cases h
theorem w1b {S:Specs} (hS:Zw prog S):Zw prog (S.with nEq4 y3r):=by
 refine fOne hS (by kernel_rfl) fun args v h=> ?_;unfold y3r at h;split at h
 ·rename_i a0 a1;split at h
  ·rename_i L0 g0 n0 L1 g1 n1 e0 e1;simp only [Ab,Aa,Ac] at h;obtain ⟨rfl,ho0,ho1,hw⟩:=h;obtain ⟨N,hN⟩:=u2d L0 L1 hw;exact ⟨_,_,(.cons (Yg e0 ho0) (.cons (Yg e1 ho1) .nil)),rfl,v1r L0 L1 N _ hN,3,rfl⟩
  ·cases h
 ·cases h
theorem w1a {S:Specs} (hS:Zw prog S):Zw prog (S.with nEq6 y3q):=by
 refine fOne hS (by kernel_rfl) fun args v h=> ?_;unfold y3q at h;split at h
 ·rename_i a0 a1;split at h
  ·rename_i L0 g0 n0 L1 g1 n1 e0 e1;simp only [Ab,Aa,Ac] at h;obtain ⟨rfl,ho0,ho1,hw⟩:=h;obtain ⟨N,hN⟩:=u2c L0 L1 hw;exact ⟨_,_,(.cons (Yg e0 ho0) (.cons (Yg e1 ho1) .nil)),rfl,v1q L0 L1 N _ hN,3,rfl⟩
  ·cases h
 ·cases h
def T1 :Specs:=((((((((((((noSpecs.with w4t fSrt).with v4y fCan).with v4u y3s).with v4t y3r).with v4s y3q).with nHas4 u1n).with nAt fAt).with v4x w5y).with nFst fFst).with nEq2 y3s).with nEq4 y3r).with nEq6 y3q)
theorem z0j :Zw prog T1:=w1a (w1b (w1c (u1r (w5x (fAt_ok (v1m (w5u (w5v (w5w (u2b (u0g Zu)))))))))))
inductive rxsS where
 | h0 (v5:List Int) (v6:Int)
 | h1 (v5:List Int) (v7:Int)
def rxsC (l0:List R4) (l1:List R4):rxsS→Cfg
 | .h0 v5 v6=>⟨⟨48,0,true⟩,none,(Zm prog 118 [1,1,0,1,0,0] 0),none,(Zz prog 4),⟨Yx [(0,(.dat l0.length (Zy l0))),(1,(.dat l1.length (Zy l1))),(5,(.sla 0 1 0 v5.length (.un 1))),(6,(ii v6))],Xj [⟨rows v5.length (Zy v5),3,some ⟨1,v5.length,(Zy v5)⟩⟩] 0,1,[],true⟩,[],.leaf⟩
 | .h1 v5 v7=>⟨⟨48,0,true⟩,none,(Zm prog 118 [1,1,1,0,1,0,0] 0),none,(Zz prog 4),⟨Yx [(1,(.dat l1.length (Zy l1))),(5,(.sla 0 1 0 v5.length (.un 1))),(7,(ii v7))],Xj [⟨rows v5.length (Zy v5),3,some ⟨1,v5.length,(Zy v5)⟩⟩] 0,1,[],true⟩,[],.leaf⟩
def rxsN0 :List (Option (List Nat)):=[some [0,1,5,6]]
def rxsM0 :List (Option (List Nat)):=[]
def rxsN1 :List (Option (List Nat)):=[some [1,5,7]]
def rxsM1 :List (Option (List Nat)):=[]
def Qe (l0:List R4) (l1:List R4):rxsS→Ya rxsS
 | .h0 v5 v6=>(bif (decide (v6<(l0.length:Int))) then (bif ((decide (0≤v6∧v6<(l0.length:Int)))&&true) then (bif (Nat.beq 1 1&&((decide (0+v5.length=v5.length))&&decide ((v5.length+2+1)*(8+1)≤Jq))) then (.to (.h0 (v5++[(rd l0 v6.toNat).a,(rd l0 v6.toNat).c]) (wrap .i64 (v6+1)))) else .stuck) else .stuck) else (.to (.h1 v5 0)))
 | .h1 v5 v7=>(bif (decide (v7<(l1.length:Int))) then (bif ((decide (0≤v7∧v7<(l1.length:Int)))&&true) then (bif (Nat.beq 1 1&&((decide (0+v5.length=v5.length))&&decide ((v5.length+2+1)*(8+1)≤Jq))) then (.to (.h1 (v5++[(rd l1 v7.toNat).a,(rd l1 v7.toNat).c]) (wrap .i64 (v7+1)))) else .stuck) else .stuck) else (bif (Ub (cvT v5)) then (.ret [(.dat (z0n (cvT v5)).length (Zy (z0n (cvT v5))))]) else .stuck))
def z8n (l0:List R4) (l1:List R4):Ya rxsS:=(.to (.h0 ([]:List Int) 0))
theorem x8i (l0:List R4) (l1:List R4): ∀s,Yh prog (Zz prog 118) (rxsC l0 l1) (rxsC l0 l1 s) (Qe l0 l1 s)
 | .h0 v5 v6=>(lb (fun k0=>(lo fun o0=>(lo fun o1=>(sl z0j 20 [] ⟨[2],[],rxsN0,rxsM0⟩ ⟨[(5,.len (v5++[(rd l0 (tn v6)).a,(rd l0 (tn v6)).c]).length)],[.rowed 1 (v5++[(rd l0 (tn v6)).a,(rd l0 (tn v6)).c]).length (Zy (v5++[(rd l0 (tn v6)).a,(rd l0 (tn v6)).c]))],[]⟩ [true] (pp (xL (v5.length+2) (v5++[(rd l0 (tn v6)).a,(rd l0 (tn v6)).c]).length) (pp (xL (v5.length+2) (v5++[(rd l0 (tn v6)).a,(rd l0 (tn v6)).c]).length) (pp (xS (v5.length+2) (Ze (Zy v5) 0 v5.length 1 [(ii (rd l0 (tn v6)).a),(ii (rd l0 (tn v6)).c)]) (Zy (v5++[(rd l0 (tn v6)).a,(rd l0 (tn v6)).c]))) (pp (pp (xF (Ze (Zy v5) 0 v5.length 1 [(ii (rd l0 (tn v6)).a),(ii (rd l0 (tn v6)).c)])) nn) (ww o1 (ww o0 (ww o0 (tt k0 nn)))))))))))) (fun k0=>(sl z0j 17 [] ⟨[0],[],rxsN1,rxsM1⟩ ⟨[],[],[]⟩ [false] (pp (fl v5 nn) (tt k0 nn)))))
 | .h1 v5 v7=>(lb (fun k0=>(lo fun o0=>(lo fun o1=>(sl z0j 20 [] ⟨[2],[],rxsN1,rxsM1⟩ ⟨[(5,.len (v5++[(rd l1 (tn v7)).a,(rd l1 (tn v7)).c]).length)],[.rowed 1 (v5++[(rd l1 (tn v7)).a,(rd l1 (tn v7)).c]).length (Zy (v5++[(rd l1 (tn v7)).a,(rd l1 (tn v7)).c]))],[]⟩ [true] (pp (xL (v5.length+2) (v5++[(rd l1 (tn v7)).a,(rd l1 (tn v7)).c]).length) (pp (xL (v5.length+2) (v5++[(rd l1 (tn v7)).a,(rd l1 (tn v7)).c]).length) (pp (xS (v5.length+2) (Ze (Zy v5) 0 v5.length 1 [(ii (rd l1 (tn v7)).a),(ii (rd l1 (tn v7)).c)]) (Zy (v5++[(rd l1 (tn v7)).a,(rd l1 (tn v7)).c]))) (pp (pp (xF (Ze (Zy v5) 0 v5.length 1 [(ii (rd l1 (tn v7)).a),(ii (rd l1 (tn v7)).c)])) nn) (ww o1 (ww o0 (ww o0 (tt k0 nn)))))))))))) (fun k0=>(Qv (sl z0j (C':=⟨⟨48,0,true⟩,(z1q prog 118 [1,1,1,1,0] 1),(Zm prog 118 [1,1,1,1,0] 1),none,(Zz prog 4),⟨Yx [(46,(.dat v5.length (Zy v5)))],Xj [] 0,0,[],true⟩,[],.leaf⟩) 13 [] ⟨[],[0],[some [46]],[]⟩ ⟨[(46,.frz v5.length v5.length (Zy v5) (Zy v5))],[],[]⟩ [false] (pp (xZ (y5s 1 1 0 v5.length v5.length (Zy v5)) v5.length (Zy v5)) (pp (xL v5.length v5.length) (pp (xS v5.length (Zy v5) (Zy v5)) (pp (fl v5 nn) (tt k0 nn)))))) (lo fun o0=>(lr 48 3 [1,1,1,1,1,1,1,1,0] 1 4 [(4,(.dat (z0n (cvT v5)).length (Zy (z0n (cvT v5)))))] (sl z0j 3 [] ⟨[],[],[some [4]],[]⟩ ⟨[],[],[]⟩ [] (pp (pp (xr v5) (xw o0)) nn)))))))
theorem x0q (l0:List R4) (l1:List R4):Yh prog (Zz prog 118) (rxsC l0 l1) (Zj prog 118 [(.dat l0.length (Zy l0)),(.dat l1.length (Zy l1))] true []) (z8n l0 l1):=(sl z0j 15 [(3,1,Zy ([]:List Int))] ⟨[0],[],rxsN0,rxsM0⟩ ⟨[(5,.grow 0 1)],[],[]⟩ [] (pp (fl ([]:List Int) nn) nn))
theorem w7y (l0:List R4) (l1:List R4) (n:Nat) (vs:List AVal) (h:Zo (Qe l0 l1) n (z8n l0 l1)=.ret vs):Ws prog (Zz prog 118) (Zj prog 118 [(.dat l0.length (Zy l0)),(.dat l1.length (Zy l1))] true []) vs:=by have:=Zk (x8i l0 l1) n _ (x0q l0 l1);rwa [h] at this
inductive rysS where
 | h0 (v5:List Int) (v6:Int)
 | h1 (v5:List Int) (v7:Int)
def rysC (l0:List R4) (l1:List R4):rysS→Cfg
 | .h0 v5 v6=>⟨⟨48,0,true⟩,none,(Zm prog 119 [1,1,0,1,0,0] 0),none,(Zz prog 4),⟨Yx [(0,(.dat l0.length (Zy l0))),(1,(.dat l1.length (Zy l1))),(5,(.sla 0 1 0 v5.length (.un 1))),(6,(ii v6))],Xj [⟨rows v5.length (Zy v5),3,some ⟨1,v5.length,(Zy v5)⟩⟩] 0,1,[],true⟩,[],.leaf⟩
 | .h1 v5 v7=>⟨⟨48,0,true⟩,none,(Zm prog 119 [1,1,1,0,1,0,0] 0),none,(Zz prog 4),⟨Yx [(1,(.dat l1.length (Zy l1))),(5,(.sla 0 1 0 v5.length (.un 1))),(7,(ii v7))],Xj [⟨rows v5.length (Zy v5),3,some ⟨1,v5.length,(Zy v5)⟩⟩] 0,1,[],true⟩,[],.leaf⟩
def rysN0 :List (Option (List Nat)):=[some [0,1,5,6]]
def rysM0 :List (Option (List Nat)):=[]
def rysN1 :List (Option (List Nat)):=[some [1,5,7]]
def rysM1 :List (Option (List Nat)):=[]
def Qd (l0:List R4) (l1:List R4):rysS→Ya rysS
 | .h0 v5 v6=>(bif (decide (v6<(l0.length:Int))) then (bif ((decide (0≤v6∧v6<(l0.length:Int)))&&true) then (bif (Nat.beq 1 1&&((decide (0+v5.length=v5.length))&&decide ((v5.length+2+1)*(8+1)≤Jq))) then (.to (.h0 (v5++[(rd l0 v6.toNat).b,(rd l0 v6.toNat).d]) (wrap .i64 (v6+1)))) else .stuck) else .stuck) else (.to (.h1 v5 0)))
 | .h1 v5 v7=>(bif (decide (v7<(l1.length:Int))) then (bif ((decide (0≤v7∧v7<(l1.length:Int)))&&true) then (bif (Nat.beq 1 1&&((decide (0+v5.length=v5.length))&&decide ((v5.length+2+1)*(8+1)≤Jq))) then (.to (.h1 (v5++[(rd l1 v7.toNat).b,(rd l1 v7.toNat).d]) (wrap .i64 (v7+1)))) else .stuck) else .stuck) else (bif (Ub (cvT v5)) then (.ret [(.dat (z0n (cvT v5)).length (Zy (z0n (cvT v5))))]) else .stuck))
def z8m (l0:List R4) (l1:List R4):Ya rysS:=(.to (.h0 ([]:List Int) 0))
theorem x8h (l0:List R4) (l1:List R4): ∀s,Yh prog (Zz prog 119) (rysC l0 l1) (rysC l0 l1 s) (Qd l0 l1 s)
 | .h0 v5 v6=>(lb (fun k0=>(lo fun o0=>(lo fun o1=>(sl z0j 20 [] ⟨[2],[],rysN0,rysM0⟩ ⟨[(5,.len (v5++[(rd l0 (tn v6)).b,(rd l0 (tn v6)).d]).length)],[.rowed 1 (v5++[(rd l0 (tn v6)).b,(rd l0 (tn v6)).d]).length (Zy (v5++[(rd l0 (tn v6)).b,(rd l0 (tn v6)).d]))],[]⟩ [true] (pp (xL (v5.length+2) (v5++[(rd l0 (tn v6)).b,(rd l0 (tn v6)).d]).length) (pp (xL (v5.length+2) (v5++[(rd l0 (tn v6)).b,(rd l0 (tn v6)).d]).length) (pp (xS (v5.length+2) (Ze (Zy v5) 0 v5.length 1 [(ii (rd l0 (tn v6)).b),(ii (rd l0 (tn v6)).d)]) (Zy (v5++[(rd l0 (tn v6)).b,(rd l0 (tn v6)).d]))) (pp (pp (xF (Ze (Zy v5) 0 v5.length 1 [(ii (rd l0 (tn v6)).b),(ii (rd l0 (tn v6)).d)])) nn) (ww o1 (ww o0 (ww o0 (tt k0 nn)))))))))))) (fun k0=>(sl z0j 17 [] ⟨[0],[],rysN1,rysM1⟩ ⟨[],[],[]⟩ [false] (pp (fl v5 nn) (tt k0 nn)))))
 | .h1 v5 v7=>(lb (fun k0=>(lo fun o0=>(lo fun o1=>(sl z0j 20 [] ⟨[2],[],rysN1,rysM1⟩ ⟨[(5,.len (v5++[(rd l1 (tn v7)).b,(rd l1 (tn v7)).d]).length)],[.rowed 1 (v5++[(rd l1 (tn v7)).b,(rd l1 (tn v7)).d]).length (Zy (v5++[(rd l1 (tn v7)).b,(rd l1 (tn v7)).d]))],[]⟩ [true] (pp (xL (v5.length+2) (v5++[(rd l1 (tn v7)).b,(rd l1 (tn v7)).d]).length) (pp (xL (v5.length+2) (v5++[(rd l1 (tn v7)).b,(rd l1 (tn v7)).d]).length) (pp (xS (v5.length+2) (Ze (Zy v5) 0 v5.length 1 [(ii (rd l1 (tn v7)).b),(ii (rd l1 (tn v7)).d)]) (Zy (v5++[(rd l1 (tn v7)).b,(rd l1 (tn v7)).d]))) (pp (pp (xF (Ze (Zy v5) 0 v5.length 1 [(ii (rd l1 (tn v7)).b),(ii (rd l1 (tn v7)).d)])) nn) (ww o1 (ww o0 (ww o0 (tt k0 nn)))))))))))) (fun k0=>(Qv (sl z0j (C':=⟨⟨48,0,true⟩,(z1q prog 119 [1,1,1,1,0] 1),(Zm prog 119 [1,1,1,1,0] 1),none,(Zz prog 4),⟨Yx [(46,(.dat v5.length (Zy v5)))],Xj [] 0,0,[],true⟩,[],.leaf⟩) 13 [] ⟨[],[0],[some [46]],[]⟩ ⟨[(46,.frz v5.length v5.length (Zy v5) (Zy v5))],[],[]⟩ [false] (pp (xZ (y5s 1 1 0 v5.length v5.length (Zy v5)) v5.length (Zy v5)) (pp (xL v5.length v5.length) (pp (xS v5.length (Zy v5) (Zy v5)) (pp (fl v5 nn) (tt k0 nn)))))) (lo fun o0=>(lr 48 3 [1,1,1,1,1,1,1,1,0] 1 4 [(4,(.dat (z0n (cvT v5)).length (Zy (z0n (cvT v5)))))] (sl z0j 3 [] ⟨[],[],[some [4]],[]⟩ ⟨[],[],[]⟩ [] (pp (pp (xr v5) (xw o0)) nn)))))))
theorem x0p (l0:List R4) (l1:List R4):Yh prog (Zz prog 119) (rysC l0 l1) (Zj prog 119 [(.dat l0.length (Zy l0)),(.dat l1.length (Zy l1))] true []) (z8m l0 l1):=(sl z0j 15 [(3,1,Zy ([]:List Int))] ⟨[0],[],rysN0,rysM0⟩ ⟨[(5,.grow 0 1)],[],[]⟩ [] (pp (fl ([]:List Int) nn) nn))
theorem w7x (l0:List R4) (l1:List R4) (n:Nat) (vs:List AVal) (h:Zo (Qd l0 l1) n (z8m l0 l1)=.ret vs):Ws prog (Zz prog 119) (Zj prog 119 [(.dat l0.length (Zy l0)),(.dat l1.length (Zy l1))] true []) vs:=by have:=Zk (x8h l0 l1) n _ (x0p l0 l1);rwa [h] at this
inductive rcutS where
 | h0 (v5:List Int) (v6:Int)
 | h1 (v5:List Int) (v7:Int)
def v8h (l0:List R6) (l1:List R6):rcutS→Cfg
 | .h0 v5 v6=>⟨⟨52,0,true⟩,none,(Zm prog 88 [1,1,0,1,0,0] 0),none,(Zz prog 4),⟨Yx [(0,(.dat l0.length (Zy l0))),(1,(.dat l1.length (Zy l1))),(5,(.sla 0 1 0 v5.length (.un 1))),(6,(ii v6))],Xj [⟨rows v5.length (Zy v5),3,some ⟨1,v5.length,(Zy v5)⟩⟩] 0,1,[],true⟩,[],.leaf⟩
 | .h1 v5 v7=>⟨⟨52,0,true⟩,none,(Zm prog 88 [1,1,1,0,1,0,0] 0),none,(Zz prog 4),⟨Yx [(1,(.dat l1.length (Zy l1))),(5,(.sla 0 1 0 v5.length (.un 1))),(7,(ii v7))],Xj [⟨rows v5.length (Zy v5),3,some ⟨1,v5.length,(Zy v5)⟩⟩] 0,1,[],true⟩,[],.leaf⟩
def v4i :List (Option (List Nat)):=[some [0,1,5,6]]
def v4k :List (Option (List Nat)):=[]
def v4h :List (Option (List Nat)):=[some [1,5,7]]
def v4j :List (Option (List Nat)):=[]
def Jx (l0:List R6) (l1:List R6):rcutS→Ya rcutS
 | .h0 v5 v6=>(bif (decide (v6<(l0.length:Int))) then (bif ((decide (0≤v6∧v6<(l0.length:Int)))&&true) then (bif (Nat.beq 1 1&&((decide (0+v5.length=v5.length))&&decide ((v5.length+2+1)*(8+1)≤Jq))) then (.to (.h0 (v5++[(rd l0 v6.toNat).c,(rd l0 v6.toNat).f]) (wrap .i64 (v6+1)))) else .stuck) else .stuck) else (.to (.h1 v5 0)))
 | .h1 v5 v7=>(bif (decide (v7<(l1.length:Int))) then (bif ((decide (0≤v7∧v7<(l1.length:Int)))&&true) then (bif (Nat.beq 1 1&&((decide (0+v5.length=v5.length))&&decide ((v5.length+2+1)*(8+1)≤Jq))) then (.to (.h1 (v5++[(rd l1 v7.toNat).c,(rd l1 v7.toNat).f]) (wrap .i64 (v7+1)))) else .stuck) else .stuck) else (bif (Ub (cvT v5)) then (.ret [(.dat (z0n (cvT v5)).length (Zy (z0n (cvT v5))))]) else .stuck))
def z4q (l0:List R6) (l1:List R6):Ya rcutS:=(.to (.h0 ([]:List Int) 0))
theorem x2a (l0:List R6) (l1:List R6): ∀s,Yh prog (Zz prog 88) (v8h l0 l1) (v8h l0 l1 s) (Jx l0 l1 s)
 | .h0 v5 v6=>(lb (fun k0=>(lo fun o0=>(lo fun o1=>(sl z0j 20 [] ⟨[2],[],v4i,v4k⟩ ⟨[(5,.len (v5++[(rd l0 (tn v6)).c,(rd l0 (tn v6)).f]).length)],[.rowed 1 (v5++[(rd l0 (tn v6)).c,(rd l0 (tn v6)).f]).length (Zy (v5++[(rd l0 (tn v6)).c,(rd l0 (tn v6)).f]))],[]⟩ [true] (pp (xL (v5.length+2) (v5++[(rd l0 (tn v6)).c,(rd l0 (tn v6)).f]).length) (pp (xL (v5.length+2) (v5++[(rd l0 (tn v6)).c,(rd l0 (tn v6)).f]).length) (pp (xS (v5.length+2) (Ze (Zy v5) 0 v5.length 1 [(ii (rd l0 (tn v6)).c),(ii (rd l0 (tn v6)).f)]) (Zy (v5++[(rd l0 (tn v6)).c,(rd l0 (tn v6)).f]))) (pp (pp (xF (Ze (Zy v5) 0 v5.length 1 [(ii (rd l0 (tn v6)).c),(ii (rd l0 (tn v6)).f)])) nn) (ww o1 (ww o0 (ww o0 (tt k0 nn)))))))))))) (fun k0=>(sl z0j 17 [] ⟨[0],[],v4h,v4j⟩ ⟨[],[],[]⟩ [false] (pp (fl v5 nn) (tt k0 nn)))))
 | .h1 v5 v7=>(lb (fun k0=>(lo fun o0=>(lo fun o1=>(sl z0j 20 [] ⟨[2],[],v4h,v4j⟩ ⟨[(5,.len (v5++[(rd l1 (tn v7)).c,(rd l1 (tn v7)).f]).length)],[.rowed 1 (v5++[(rd l1 (tn v7)).c,(rd l1 (tn v7)).f]).length (Zy (v5++[(rd l1 (tn v7)).c,(rd l1 (tn v7)).f]))],[]⟩ [true] (pp (xL (v5.length+2) (v5++[(rd l1 (tn v7)).c,(rd l1 (tn v7)).f]).length) (pp (xL (v5.length+2) (v5++[(rd l1 (tn v7)).c,(rd l1 (tn v7)).f]).length) (pp (xS (v5.length+2) (Ze (Zy v5) 0 v5.length 1 [(ii (rd l1 (tn v7)).c),(ii (rd l1 (tn v7)).f)]) (Zy (v5++[(rd l1 (tn v7)).c,(rd l1 (tn v7)).f]))) (pp (pp (xF (Ze (Zy v5) 0 v5.length 1 [(ii (rd l1 (tn v7)).c),(ii (rd l1 (tn v7)).f)])) nn) (ww o1 (ww o0 (ww o0 (tt k0 nn)))))))))))) (fun k0=>(Qv (sl z0j (C':=⟨⟨52,0,true⟩,(z1q prog 88 [1,1,1,1,0] 1),(Zm prog 88 [1,1,1,1,0] 1),none,(Zz prog 4),⟨Yx [(50,(.dat v5.length (Zy v5)))],Xj [] 0,0,[],true⟩,[],.leaf⟩) 13 [] ⟨[],[0],[some [50]],[]⟩ ⟨[(50,.frz v5.length v5.length (Zy v5) (Zy v5))],[],[]⟩ [false] (pp (xZ (y5s 1 1 0 v5.length v5.length (Zy v5)) v5.length (Zy v5)) (pp (xL v5.length v5.length) (pp (xS v5.length (Zy v5) (Zy v5)) (pp (fl v5 nn) (tt k0 nn)))))) (lo fun o0=>(lr 52 3 [1,1,1,1,1,1,1,1,0] 1 4 [(4,(.dat (z0n (cvT v5)).length (Zy (z0n (cvT v5)))))] (sl z0j 3 [] ⟨[],[],[some [4]],[]⟩ ⟨[],[],[]⟩ [] (pp (pp (xr v5) (xw o0)) nn)))))))
theorem y7s (l0:List R6) (l1:List R6):Yh prog (Zz prog 88) (v8h l0 l1) (Zj prog 88 [(.dat l0.length (Zy l0)),(.dat l1.length (Zy l1))] true []) (z4q l0 l1):=(sl z0j 15 [(3,1,Zy ([]:List Int))] ⟨[0],[],v4i,v4k⟩ ⟨[(5,.grow 0 1)],[],[]⟩ [] (pp (fl ([]:List Int) nn) nn))
theorem w4c (l0:List R6) (l1:List R6) (n:Nat) (vs:List AVal) (h:Zo (Jx l0 l1) n (z4q l0 l1)=.ret vs):Ws prog (Zz prog 88) (Zj prog 88 [(.dat l0.length (Zy l0)),(.dat l1.length (Zy l1))] true []) vs:=by have:=Zk (x2a l0 l1) n _ (y7s l0 l1);rwa [h] at this
def z0p (l:List R4):List Int:=l.flatMap fun r=>[r.a,r.c]
def Qm (l:List R4):List Int:=l.flatMap fun r=>[r.b,r.d]
def z0o (l:List R6):List Int:=l.flatMap fun r=>[r.c,r.f]
def xsV (l m:List R4):List Int:=z0n (z0p l++z0p m)
def z8f (l m:List R4):Bool:=decide (l.length≤10000∧m.length≤10000)
theorem z0u (l:List R4):(z0p l).length =2*l.length:=by
 induction l with
 | nil=>rfl
 | cons r l ih=>grind [z0p]
theorem y2q (l:List R4) (i:Nat) (h:i<l.length):z0p (l.drop i)=z0p [rd l i]++z0p (l.drop (i+1)):=by rw [drop_rd h];rfl
theorem v3f (l m:List R4) (hl:l.length≤10000) (hm:m.length≤10000): ∀(k i:Nat) (out:List Int),i+k=m.length→out.length=2*l.length+2*i→ ∃N,Zo (Qe l m) N (.to (.h1 out (i:Int)))=.ret [.dat (z0n (out++z0p (m.drop i))).length (Zy (z0n (out++z0p (m.drop i))))]
 | 0,i,out,h,ho=>by refine ⟨1,?_⟩;have hw:Ub out=true:=Ae (by omega);rw [Zv,At (show m.length≤i by omega),show z0p []=[] from rfl,AJ];simp (disch:=omega) only [Qe,dgt_f,dgt_t,dlt_t,dlt_f,dle_t,nlt_t,nle_t,neq_t,din_t,wrap_t,room_t,ne_t,ne_f,Av,cast_succ,cast_pred,Zb,beq11,toNat_c,Al,Ap,Aq,Ag,Ad,Au,Ay,Zp,Zn,Zc,Wj,Yn,hw]
 | k+1,i,out,h,ho=>by obtain ⟨N,hN⟩:=v3f l m hl hm k (i+1) (out++z0p [rd m i]) (by omega) (by grind [z0u]);refine ⟨N+1,?_⟩;rw [y2q m i (by omega),←AF,Zv];simp (disch:=omega) only [Qe,dgt_f,dgt_t,dlt_t,dlt_f,dle_t,nlt_t,nle_t,neq_t,din_t,wrap_t,room_t,ne_t,ne_f,Av,cast_succ,cast_pred,Zb,beq11,toNat_c,Al,Ap,Aq,Ag,Ad,Au,Ay,Zp,Zn,Zc,Wj,Yn];exact hN
theorem v3g (l m:List R4) (hl:l.length≤10000) (hm:m.length≤10000): ∀(k i:Nat) (out:List Int),i+k=l.length→out.length=2*i→ ∃N,Zo (Qe l m) N (.to (.h0 out (i:Int)))=.ret [.dat (z0n (out++z0p (l.drop i)++z0p m)).length (Zy (z0n (out++z0p (l.drop i)++z0p m)))]
 | 0,i,out,h,ho=>by obtain ⟨N,hN⟩:=v3f l m hl hm m.length 0 out (Al _) (by omega);refine ⟨N+1,?_⟩;rw [Zv,At (show l.length≤i by omega),show z0p []=[] from rfl,AJ];simp (disch:=omega) only [Qe,dgt_f,dgt_t,dlt_t,dlt_f,dle_t,nlt_t,nle_t,neq_t,din_t,wrap_t,room_t,ne_t,ne_f,Av,cast_succ,cast_pred,Zb,beq11,toNat_c,Al,Ap,Aq,Ag,Ad,Au,Ay,Zp,Zn,Zc,Wj,Yn];exact hN
 | k+1,i,out,h,ho=>by obtain ⟨N,hN⟩:=v3g l m hl hm k (i+1) (out++z0p [rd l i]) (by omega) (by grind [z0u]);refine ⟨N+1,?_⟩;rw [y2q l i (by omega),←AF,Zv];simp (disch:=omega) only [Qe,dgt_f,dgt_t,dlt_t,dlt_f,dle_t,nlt_t,nle_t,neq_t,din_t,wrap_t,room_t,ne_t,ne_f,Av,cast_succ,cast_pred,Zb,beq11,toNat_c,Al,Ap,Aq,Ag,Ad,Au,Ay,Zp,Zn,Zc,Wj,Yn];exact hN
theorem v6s (l m:List R4) (h:z8f l m=true): ∃N,Zo (Qe l m) N (z8n l m)=.ret [.dat (xsV l m).length (Zy (xsV l m))]:=by
 obtain ⟨h1,h2⟩:=As h;have:=v3g l m h1 h2 l.length 0 [] (Al _) rfl
 simpa [z8n,xsV] using this
def ysV (l m:List R4):List Int:=z0n (Qm l++Qm m)
def z8e (l m:List R4):Bool:=decide (l.length≤10000∧m.length≤10000)
theorem z0t (l:List R4):(Qm l).length =2*l.length:=by
 induction l with
 | nil=>rfl
 | cons r l ih=>grind [Qm]
theorem y2p (l:List R4) (i:Nat) (h:i<l.length):Qm (l.drop i)=Qm [rd l i]++Qm (l.drop (i+1)):=by rw [drop_rd h];rfl
theorem v3d (l m:List R4) (hl:l.length≤10000) (hm:m.length≤10000): ∀(k i:Nat) (out:List Int),i+k=m.length→out.length=2*l.length+2*i→ ∃N,Zo (Qd l m) N (.to (.h1 out (i:Int)))=.ret [.dat (z0n (out++Qm (m.drop i))).length (Zy (z0n (out++Qm (m.drop i))))]
 | 0,i,out,h,ho=>by refine ⟨1,?_⟩;have hw:Ub out=true:=Ae (by omega);rw [Zv,At (show m.length≤i by omega),show Qm []=[] from rfl,AJ];simp (disch:=omega) only [Qd,dgt_f,dgt_t,dlt_t,dlt_f,dle_t,nlt_t,nle_t,neq_t,din_t,wrap_t,room_t,ne_t,ne_f,Av,cast_succ,cast_pred,Zb,beq11,toNat_c,Al,Ap,Aq,Ag,Ad,Au,Ay,Zp,Zn,Zc,Wj,Yn,hw]
 | k+1,i,out,h,ho=>by obtain ⟨N,hN⟩:=v3d l m hl hm k (i+1) (out++Qm [rd m i]) (by omega) (by grind [z0t]);refine ⟨N+1,?_⟩;rw [y2p m i (by omega),←AF,Zv];simp (disch:=omega) only [Qd,dgt_f,dgt_t,dlt_t,dlt_f,dle_t,nlt_t,nle_t,neq_t,din_t,wrap_t,room_t,ne_t,ne_f,Av,cast_succ,cast_pred,Zb,beq11,toNat_c,Al,Ap,Aq,Ag,Ad,Au,Ay,Zp,Zn,Zc,Wj,Yn];exact hN
theorem v3e (l m:List R4) (hl:l.length≤10000) (hm:m.length≤10000): ∀(k i:Nat) (out:List Int),i+k=l.length→out.length=2*i→ ∃N,Zo (Qd l m) N (.to (.h0 out (i:Int)))=.ret [.dat (z0n (out++Qm (l.drop i)++Qm m)).length (Zy (z0n (out++Qm (l.drop i)++Qm m)))]
 | 0,i,out,h,ho=>by obtain ⟨N,hN⟩:=v3d l m hl hm m.length 0 out (Al _) (by omega);refine ⟨N+1,?_⟩;rw [Zv,At (show l.length≤i by omega),show Qm []=[] from rfl,AJ];simp (disch:=omega) only [Qd,dgt_f,dgt_t,dlt_t,dlt_f,dle_t,nlt_t,nle_t,neq_t,din_t,wrap_t,room_t,ne_t,ne_f,Av,cast_succ,cast_pred,Zb,beq11,toNat_c,Al,Ap,Aq,Ag,Ad,Au,Ay,Zp,Zn,Zc,Wj,Yn];exact hN
 | k+1,i,out,h,ho=>by obtain ⟨N,hN⟩:=v3e l m hl hm k (i+1) (out++Qm [rd l i]) (by omega) (by grind [z0t]);refine ⟨N+1,?_⟩;rw [y2p l i (by omega),←AF,Zv];simp (disch:=omega) only [Qd,dgt_f,dgt_t,dlt_t,dlt_f,dle_t,nlt_t,nle_t,neq_t,din_t,wrap_t,room_t,ne_t,ne_f,Av,cast_succ,cast_pred,Zb,beq11,toNat_c,Al,Ap,Aq,Ag,Ad,Au,Ay,Zp,Zn,Zc,Wj,Yn];exact hN
theorem v6r (l m:List R4) (h:z8e l m=true): ∃N,Zo (Qd l m) N (z8m l m)=.ret [.dat (ysV l m).length (Zy (ysV l m))]:=by
 obtain ⟨h1,h2⟩:=As h;have:=v3e l m h1 h2 l.length 0 [] (Al _) rfl
 simpa [z8m,ysV] using this
def Yj (l m:List R6):List Int:=z0n (z0o l++z0o m)
def z5z (l m:List R6):Bool:=decide (l.length≤40000∧m.length≤40000)
theorem z0s (l:List R6):(z0o l).length =2*l.length:=by
 induction l with
 | nil=>rfl
 | cons r l ih=>grind [z0o]
theorem y2m (l:List R6) (i:Nat) (h:i<l.length):z0o (l.drop i)=z0o [rd l i]++z0o (l.drop (i+1)):=by rw [drop_rd h];rfl
theorem w4a (l m:List R6) (hl:l.length≤40000) (hm:m.length≤40000): ∀(k i:Nat) (out:List Int),i+k=m.length→out.length=2*l.length+2*i→ ∃N,Zo (Jx l m) N (.to (.h1 out (i:Int)))=.ret [.dat (z0n (out++z0o (m.drop i))).length (Zy (z0n (out++z0o (m.drop i))))]
 | 0,i,out,h,ho=>by refine ⟨1,?_⟩;have hw:Ub out=true:=Ae (by omega);rw [Zv,At (show m.length≤i by omega),show z0o []=[] from rfl,AJ];simp (disch:=omega) only [Jx,dgt_f,dgt_t,dlt_t,dlt_f,dle_t,nlt_t,nle_t,neq_t,din_t,wrap_t,room_t,ne_t,ne_f,Av,cast_succ,cast_pred,Zb,beq11,toNat_c,Al,Ap,Aq,Ag,Ad,Au,Ay,Zp,Zn,Zc,Wj,Yn,hw]
 | k+1,i,out,h,ho=>by obtain ⟨N,hN⟩:=w4a l m hl hm k (i+1) (out++z0o [rd m i]) (by omega) (by grind [z0s]);refine ⟨N+1,?_⟩;rw [y2m m i (by omega),←AF,Zv];simp (disch:=omega) only [Jx,dgt_f,dgt_t,dlt_t,dlt_f,dle_t,nlt_t,nle_t,neq_t,din_t,wrap_t,room_t,ne_t,ne_f,Av,cast_succ,cast_pred,Zb,beq11,toNat_c,Al,Ap,Aq,Ag,Ad,Au,Ay,Zp,Zn,Zc,Wj,Yn];exact hN
theorem w4b (l m:List R6) (hl:l.length≤40000) (hm:m.length≤40000): ∀(k i:Nat) (out:List Int),i+k=l.length→out.length=2*i→ ∃N,Zo (Jx l m) N (.to (.h0 out (i:Int)))=.ret [.dat (z0n (out++z0o (l.drop i)++z0o m)).length (Zy (z0n (out++z0o (l.drop i)++z0o m)))]
 | 0,i,out,h,ho=>by obtain ⟨N,hN⟩:=w4a l m hl hm m.length 0 out (Al _) (by omega);refine ⟨N+1,?_⟩;rw [Zv,At (show l.length≤i by omega),show z0o []=[] from rfl,AJ];simp (disch:=omega) only [Jx,dgt_f,dgt_t,dlt_t,dlt_f,dle_t,nlt_t,nle_t,neq_t,din_t,wrap_t,room_t,ne_t,ne_f,Av,cast_succ,cast_pred,Zb,beq11,toNat_c,Al,Ap,Aq,Ag,Ad,Au,Ay,Zp,Zn,Zc,Wj,Yn];exact hN
 | k+1,i,out,h,ho=>by obtain ⟨N,hN⟩:=w4b l m hl hm k (i+1) (out++z0o [rd l i]) (by omega) (by grind [z0s]);refine ⟨N+1,?_⟩;rw [y2m l i (by omega),←AF,Zv];simp (disch:=omega) only [Jx,dgt_f,dgt_t,dlt_t,dlt_f,dle_t,nlt_t,nle_t,neq_t,din_t,wrap_t,room_t,ne_t,ne_f,Av,cast_succ,cast_pred,Zb,beq11,toNat_c,Al,Ap,Aq,Ag,Ad,Au,Ay,Zp,Zn,Zc,Wj,Yn];exact hN
theorem w9c (l m:List R6) (h:z5z l m=true): ∃N,Zo (Jx l m) N (z4q l m)=.ret [.dat (Yj l m).length (Zy (Yj l m))]:=by
 obtain ⟨h1,h2⟩:=As h;have:=w4b l m h1 h2 l.length 0 [] (Al _) rfl
 simpa [z4q,Yj] using this
def fXs :List AVal→Option (AVal×Bool)
 | [a0,a1]=>match asL R4 a0,asL R4 a1 with
  | some (L0,g0,n0),some (L1,g1,n1)=>some (.dat (xsV L0 L1).length (Zy (xsV L0 L1)),isT R4 n0 g0&&(isT R4 n1 g1&&(z8f L0 L1)))
  | _,_=>none
 | _=>none
theorem fXs_ok {S:Specs} (hS:Zw prog S):Zw prog (S.with nXs fXs):=by
 refine fOne hS (by kernel_rfl) fun args v h=> ?_;unfold fXs at h;split at h
 ·rename_i a0 a1;split at h
  ·rename_i L0 g0 n0 L1 g1 n1 e0 e1;simp only [Ab,Aa,Ac] at h;obtain ⟨rfl,ho0,ho1,hw⟩:=h;obtain ⟨N,hN⟩:=v6s L0 L1 hw;exact ⟨_,_,(.cons (Yg e0 ho0) (.cons (Yg e1 ho1) .nil)),rfl,w7y L0 L1 N _ hN,3,rfl⟩
  ·cases h
 ·cases h
def fYs :List AVal→Option (AVal×Bool)
 | [a0,a1]=>match asL R4 a0,asL R4 a1 with
  | some (L0,g0,n0),some (L1,g1,n1)=>some (.dat (ysV L0 L1).length (Zy (ysV L0 L1)),isT R4 n0 g0&&(isT R4 n1 g1&&(z8e L0 L1)))
  | _,_=>none
 | _=>none
theorem fYs_ok {S:Specs} (hS:Zw prog S):Zw prog (S.with nYs fYs):=by
 refine fOne hS (by kernel_rfl) fun args v h=> ?_;unfold fYs at h;split at h
 ·rename_i a0 a1;split at h
  ·rename_i L0 g0 n0 L1 g1 n1 e0 e1;simp only [Ab,Aa,Ac] at h;obtain ⟨rfl,ho0,ho1,hw⟩:=h;obtain ⟨N,hN⟩:=v6r L0 L1 hw;exact ⟨_,_,(.cons (Yg e0 ho0) (.cons (Yg e1 ho1) .nil)),rfl,w7x L0 L1 N _ hN,3,rfl⟩
  ·cases h
 ·cases h
def u1y :List AVal→Option (AVal×Bool)
 | [a0,a1]=>match asL R6 a0,asL R6 a1 with
  | some (L0,g0,n0),some (L1,g1,n1)=>some (.dat (Yj L0 L1).length (Zy (Yj L0 L1)),isT R6 n0 g0&&(isT R6 n1 g1&&(z5z L0 L1)))
  | _,_=>none
 | _=>none
theorem v1n {S:Specs} (hS:Zw prog S):Zw prog (S.with nCuts u1y):=by
 refine fOne hS (by kernel_rfl) fun args v h=> ?_;unfold u1y at h;split at h
 ·rename_i a0 a1;split at h
  ·rename_i L0 g0 n0 L1 g1 n1 e0 e1;simp only [Ab,Aa,Ac] at h;obtain ⟨rfl,ho0,ho1,hw⟩:=h;obtain ⟨N,hN⟩:=w9c L0 L1 hw;exact ⟨_,_,(.cons (Yg e0 ho0) (.cons (Yg e1 ho1) .nil)),rfl,w4c L0 L1 N _ hN,3,rfl⟩
  ·cases h
 ·cases h
def T2 :Specs:=((T1.with nXs fXs).with nYs fYs).with nCuts u1y
theorem z7c :Zw prog T2:=v1n (fYs_ok (fXs_ok z0j))
inductive rjoS where
 | h0 (v9:List R4) (v10:List R2) (v11:Int) (v12:Int)
 | h1 (v9:List R4) (v10:List R2) (v11:Int) (v12:Int) (v13:List Bool) (v14:Int)
 | h2 (v9:List R4) (v10:List R2) (v11:Int) (v12:Int) (v15:List R2) (v17:Int)
 | h3 (v9:List R4) (v10:List R2) (v11:Int) (v12:Int) (v16:Int)
def rjoC (x0:Int) (l1:List R4) (l2:List R4):rjoS→Cfg
 | .h0 v9 v10 v11 v12=>⟨⟨121,0,true⟩,none,(Zm prog 89 [1,1,1,1,1,0,1,0,0] 0),none,(Zz prog 3),⟨Yx [(0,(ii x0)),(1,(.dat l1.length (Zy l1))),(2,(.dat l2.length (Zy l2))),(7,(.dat (xsV (cvT l1) (cvT l2)).length (Zy (xsV (cvT l1) (cvT l2))))),(8,(.dat (ysV (cvT l1) (cvT l2)).length (Zy (ysV (cvT l1) (cvT l2))))),(9,(.sla 0 4 0 v9.length (.un 4))),(10,(.dat v10.length (Zy v10))),(11,(ii v11)),(12,(ii v12))],Xj [⟨rows v9.length (Zy v9),155,some ⟨4,v9.length,(Zy v9)⟩⟩] 0,1,[],true⟩,[],.leaf⟩
 | .h1 v9 v10 v11 v12 v13 v14=>⟨⟨121,0,true⟩,none,(Zm prog 89 [1,1,1,1,1,0,1,0,0,1,0,0,1,0,1,0,0] 0),none,(Zz prog 3),⟨Yx [(0,(ii x0)),(1,(.dat l1.length (Zy l1))),(2,(.dat l2.length (Zy l2))),(7,(.dat (xsV (cvT l1) (cvT l2)).length (Zy (xsV (cvT l1) (cvT l2))))),(8,(.dat (ysV (cvT l1) (cvT l2)).length (Zy (ysV (cvT l1) (cvT l2))))),(9,(.sla 1 4 0 v9.length (.un 4))),(10,(.dat v10.length (Zy v10))),(11,(ii v11)),(12,(ii v12)),(13,(.sla 0 1 0 v13.length (.un 1))),(14,(ii v14))],Xj [⟨rows v13.length (Zy v13),4,some ⟨1,v13.length,(Zy v13)⟩⟩,⟨rows v9.length (Zy v9),155,some ⟨4,v9.length,(Zy v9)⟩⟩] 0,2,[],true⟩,[],.leaf⟩
 | .h2 v9 v10 v11 v12 v15 v17=>⟨⟨121,0,true⟩,none,(Zm prog 89 [1,1,1,1,1,0,1,0,0,1,0,0,1,1,1,1,1,1,0,0] 0),none,(Zz prog 3),⟨Yx [(0,(ii x0)),(1,(.dat l1.length (Zy l1))),(2,(.dat l2.length (Zy l2))),(7,(.dat (xsV (cvT l1) (cvT l2)).length (Zy (xsV (cvT l1) (cvT l2))))),(8,(.dat (ysV (cvT l1) (cvT l2)).length (Zy (ysV (cvT l1) (cvT l2))))),(9,(.sla 0 4 0 v9.length (.un 4))),(10,(.dat v10.length (Zy v10))),(11,(ii v11)),(12,(ii v12)),(15,(.dat v15.length (Zy v15))),(17,(ii v17))],Xj [⟨rows v9.length (Zy v9),155,some ⟨4,v9.length,(Zy v9)⟩⟩] 0,1,[],true⟩,[],.leaf⟩
 | .h3 v9 v10 v11 v12 v16=>⟨⟨121,0,true⟩,none,(Zm prog 89 [1,1,1,1,1,0,1,0,0,1,0,0,1,1,1,0,1,0,0,1,0,0] 0),none,(Zz prog 3),⟨Yx [(0,(ii x0)),(1,(.dat l1.length (Zy l1))),(2,(.dat l2.length (Zy l2))),(7,(.dat (xsV (cvT l1) (cvT l2)).length (Zy (xsV (cvT l1) (cvT l2))))),(8,(.dat (ysV (cvT l1) (cvT l2)).length (Zy (ysV (cvT l1) (cvT l2))))),(9,(.sla 0 4 0 v9.length (.un 4))),(10,(.dat v10.length (Zy v10))),(11,(ii v11)),(12,(ii v12)),(16,(ii v16))],Xj [⟨rows v9.length (Zy v9),155,some ⟨4,v9.length,(Zy v9)⟩⟩] 0,1,[],true⟩,[],.leaf⟩
def v7u :List (Option (List Nat)):=[some [0,1,2,7,8,9,10,11,12]]
def v7w :List (Option (List Nat)):=[]
def rjoN1 :List (Option (List Nat)):=[some [0,1,2,7,8,9,10,11,12,13,14]]
def rjoM1 :List (Option (List Nat)):=[]
def v7t :List (Option (List Nat)):=[some [0,1,2,7,8,9,10,11,12,15,17]]
def v7v :List (Option (List Nat)):=[]
def rjoN3 :List (Option (List Nat)):=[some [0,1,2,7,8,9,10,11,12,16]]
def rjoM3 :List (Option (List Nat)):=[]
def Wy (x0:Int) (l1:List R4) (l2:List R4):rjoS→Ya rjoS
 | .h0 v9 v10 v11 v12=>(bif (decide ((wrap .i64 (v12+1))<(((xsV (cvT l1) (cvT l2)).length :Nat):Int))) then (.to (.h1 v9 v10 v11 v12 ([]:List Bool) 0)) else (.ret [(.dat v9.length (Zy v9))]))
 | .h1 v9 v10 v11 v12 v13 v14=>(bif (decide (v14<(((ysV (cvT l1) (cvT l2)).length :Nat):Int))) then (bif (Jp (cvT l1) (rd (xsV (cvT l1) (cvT l2)) v12.toNat) (rd (ysV (cvT l1) (cvT l2)) v14.toNat)) then (bif ((decide (0≤v12∧v12<(((xsV (cvT l1) (cvT l2)).length :Nat):Int)))&&true) then (bif ((decide (0≤v14∧v14<(((ysV (cvT l1) (cvT l2)).length :Nat):Int)))&&true) then (bif (Jp (cvT l2) (rd (xsV (cvT l1) (cvT l2)) v12.toNat) (rd (ysV (cvT l1) (cvT l2)) v14.toNat)) then (bif (Nat.beq 1 1&&((decide (0+v13.length=v13.length))&&decide ((v13.length+1+1)*(1+1)≤Jq))) then (.to (.h1 v9 v10 v11 v12 (v13++[(Kq x0 (Vs (cvT l1) (rd (xsV (cvT l1) (cvT l2)) v12.toNat) (rd (ysV (cvT l1) (cvT l2)) v14.toNat)) (Vs (cvT l2) (rd (xsV (cvT l1) (cvT l2)) v12.toNat) (rd (ysV (cvT l1) (cvT l2)) v14.toNat)))]) (wrap .i64 (v14+1)))) else .stuck) else .stuck) else .stuck) else .stuck) else .stuck) else (bif (z6c (cvT (ysV (cvT l1) (cvT l2))) (cvT v13)) then (bif (decide (v12>0)) then (bif (Vq (cvT (z7y (cvT (ysV (cvT l1) (cvT l2))) (cvT v13))) (cvT v10)) then (bif (Jt (cvT (z7y (cvT (ysV (cvT l1) (cvT l2))) (cvT v13))) (cvT v10)) then (.to (.h3 v9 v10 v11 v12 v11)) else (.to (.h2 v9 (z7y (cvT (ysV (cvT l1) (cvT l2))) (cvT v13)) (v9.length:Int) v12 (z7y (cvT (ysV (cvT l1) (cvT l2))) (cvT v13)) 0))) else .stuck) else (.to (.h2 v9 (z7y (cvT (ysV (cvT l1) (cvT l2))) (cvT v13)) (v9.length:Int) v12 (z7y (cvT (ysV (cvT l1) (cvT l2))) (cvT v13)) 0))) else .stuck))
 | .h2 v9 v10 v11 v12 v15 v17=>(bif (decide (v17<(v15.length:Int))) then (bif ((decide (0≤v12∧v12<(((xsV (cvT l1) (cvT l2)).length :Nat):Int)))&&true) then (bif ((decide (0≤(wrap .i64 (v12+1))∧(wrap .i64 (v12+1))<(((xsV (cvT l1) (cvT l2)).length :Nat):Int)))&&true) then (bif ((decide (0≤v17∧v17<(v15.length:Int)))&&true) then (bif (Nat.beq 4 4&&((decide (0+v9.length=v9.length))&&decide ((v9.length+1+1)*(32+1)≤Jq))) then (.to (.h2 (v9++[(R4.mk (rd (xsV (cvT l1) (cvT l2)) v12.toNat) (rd v15 v17.toNat).a (rd (xsV (cvT l1) (cvT l2)) (Int.toNat (wrap .i64 (v12+1)))) (rd v15 v17.toNat).b)]) v10 v11 v12 v15 (wrap .i64 (v17+1)))) else .stuck) else .stuck) else .stuck) else .stuck) else (.to (.h0 v9 v10 v11 (wrap .i64 (v12+1)))))
 | .h3 v9 v10 v11 v12 v16=>(bif (decide (v16<(v9.length:Int))) then (bif ((decide (0≤(wrap .i64 (v12+1))∧(wrap .i64 (v12+1))<(((xsV (cvT l1) (cvT l2)).length :Nat):Int)))&&true) then (bif ((decide (0≤v16∧v16<(v9.length:Int)))&&true) then (bif (decide ((0+v16.toNat)<v9.length)) then (.to (.h3 (v9.set (0+v16.toNat) (R4.mk (rd v9 (0+v16.toNat)).a (rd v9 (0+v16.toNat)).b (rd (xsV (cvT l1) (cvT l2)) (Int.toNat (wrap .i64 (v12+1)))) (rd v9 (0+v16.toNat)).d)) v10 v11 v12 (wrap .i64 (v16+1)))) else .stuck) else .stuck) else .stuck) else (.to (.h0 v9 v10 v11 (wrap .i64 (v12+1)))))
def z8u (x0:Int) (l1:List R4) (l2:List R4):Ya rjoS:=(bif (z8f (cvT l1) (cvT l2)) then (bif (z8e (cvT l1) (cvT l2)) then (.to (.h0 ([]:List R4) ([]:List R2) 0 0)) else .stuck) else .stuck)
theorem x9b (x0:Int) (l1:List R4) (l2:List R4): ∀s,Yh prog (Zz prog 89) (rjoC x0 l1 l2) (rjoC x0 l1 l2 s) (Wy x0 l1 l2 s)
 | .h0 v9 v10 v11 v12=>(lb (fun k0=>(sl z7c 24 [(4,1,Zy ([]:List Bool))] ⟨[1,0],[],rjoN1,rjoM1⟩ ⟨[(13,.grow 0 1)],[],[]⟩ [true] (pp (fl ([]:List Bool) (fl v9 nn)) (tt k0 nn)))) (fun k0=>(lr 121 3 [1,1,1,1,1,1,1,1,0] 1 3 [(6,(.dat v9.length (Zy v9)))] (sl z7c 16 [] ⟨[],[0],[some [6]],[]⟩ ⟨[(6,.frz v9.length v9.length (Zy v9) (Zy v9))],[],[]⟩ [false] (pp (xZ (y5s 4 4 0 v9.length v9.length (Zy v9)) v9.length (Zy v9)) (pp (xL v9.length v9.length) (pp (xS v9.length (Zy v9) (Zy v9)) (pp (fl v9 nn) (tt k0 nn)))))))))
 | .h1 v9 v10 v11 v12 v13 v14=>(lb (fun k0=>(lo fun o0=>(lo fun o1=>(lo fun o2=>(lo fun o3=>(lo fun o4=>(sl z7c 20 [] ⟨[3,1],[],rjoN1,rjoM1⟩ ⟨[(13,.len (v13++[(Kq x0 (Vs (cvT l1) (rd (xsV (cvT l1) (cvT l2)) (tn v12)) (rd (ysV (cvT l1) (cvT l2)) (tn v14))) (Vs (cvT l2) (rd (xsV (cvT l1) (cvT l2)) (tn v12)) (rd (ysV (cvT l1) (cvT l2)) (tn v14))))]).length)],[.rowed 1 (v13++[(Kq x0 (Vs (cvT l1) (rd (xsV (cvT l1) (cvT l2)) (tn v12)) (rd (ysV (cvT l1) (cvT l2)) (tn v14))) (Vs (cvT l2) (rd (xsV (cvT l1) (cvT l2)) (tn v12)) (rd (ysV (cvT l1) (cvT l2)) (tn v14))))]).length (Zy (v13++[(Kq x0 (Vs (cvT l1) (rd (xsV (cvT l1) (cvT l2)) (tn v12)) (rd (ysV (cvT l1) (cvT l2)) (tn v14))) (Vs (cvT l2) (rd (xsV (cvT l1) (cvT l2)) (tn v12)) (rd (ysV (cvT l1) (cvT l2)) (tn v14))))])),.keep],[]⟩ [true] (pp (xL (v13.length+1) (v13++[(Kq x0 (Vs (cvT l1) (rd (xsV (cvT l1) (cvT l2)) (tn v12)) (rd (ysV (cvT l1) (cvT l2)) (tn v14))) (Vs (cvT l2) (rd (xsV (cvT l1) (cvT l2)) (tn v12)) (rd (ysV (cvT l1) (cvT l2)) (tn v14))))]).length) (pp (xL (v13.length+1) (v13++[(Kq x0 (Vs (cvT l1) (rd (xsV (cvT l1) (cvT l2)) (tn v12)) (rd (ysV (cvT l1) (cvT l2)) (tn v14))) (Vs (cvT l2) (rd (xsV (cvT l1) (cvT l2)) (tn v12)) (rd (ysV (cvT l1) (cvT l2)) (tn v14))))]).length) (pp (xS (v13.length+1) (Ze (Zy v13) 0 v13.length 1 [(.bool (Kq x0 (Vs (cvT l1) (rd (xsV (cvT l1) (cvT l2)) (tn v12)) (rd (ysV (cvT l1) (cvT l2)) (tn v14))) (Vs (cvT l2) (rd (xsV (cvT l1) (cvT l2)) (tn v12)) (rd (ysV (cvT l1) (cvT l2)) (tn v14)))))]) (Zy (v13++[(Kq x0 (Vs (cvT l1) (rd (xsV (cvT l1) (cvT l2)) (tn v12)) (rd (ysV (cvT l1) (cvT l2)) (tn v14))) (Vs (cvT l2) (rd (xsV (cvT l1) (cvT l2)) (tn v12)) (rd (ysV (cvT l1) (cvT l2)) (tn v14))))]))) (pp (pp (xF (Ze (Zy v13) 0 v13.length 1 [(.bool (Kq x0 (Vs (cvT l1) (rd (xsV (cvT l1) (cvT l2)) (tn v12)) (rd (ysV (cvT l1) (cvT l2)) (tn v14))) (Vs (cvT l2) (rd (xsV (cvT l1) (cvT l2)) (tn v12)) (rd (ysV (cvT l1) (cvT l2)) (tn v14)))))])) (fl v9 nn)) (ww o4 (pp (pp (xr l2) (xw o3)) (ww o2 (ww o1 (pp (pp (xr l1) (xw o0)) (ww o2 (ww o1 (tt k0 nn))))))))))))))))))) (fun k0=>(Qv (sl z7c (C':=⟨⟨121,0,true⟩,(z1q prog 89 [1,1,1,1,1,0,1,0,0,1,0,0,1,1,0] 2),(Zm prog 89 [1,1,1,1,1,0,1,0,0,1,0,0,1,1,0] 1),none,(Zz prog 3),⟨Yx [(0,(ii x0)),(1,(.dat l1.length (Zy l1))),(2,(.dat l2.length (Zy l2))),(7,(.dat (xsV (cvT l1) (cvT l2)).length (Zy (xsV (cvT l1) (cvT l2))))),(8,(.dat (ysV (cvT l1) (cvT l2)).length (Zy (ysV (cvT l1) (cvT l2))))),(9,(.sla 0 4 0 v9.length (.un 4))),(10,(.dat v10.length (Zy v10))),(11,(ii v11)),(12,(ii v12)),(62,(.dat (ysV (cvT l1) (cvT l2)).length (Zy (ysV (cvT l1) (cvT l2))))),(63,(.dat v13.length (Zy v13)))],Xj [⟨rows v9.length (Zy v9),155,some ⟨4,v9.length,(Zy v9)⟩⟩] 0,1,[],true⟩,[],.leaf⟩) 14 [] ⟨[1],[0],[some [0,1,2,7,8,9,10,11,12,62,63]],[]⟩ ⟨[(63,.frz v13.length v13.length (Zy v13) (Zy v13))],[],[]⟩ [false] (pp (xZ (y5s 1 1 0 v13.length v13.length (Zy v13)) v13.length (Zy v13)) (pp (xL v13.length v13.length) (pp (xS v13.length (Zy v13) (Zy v13)) (pp (fl v9 nn) (pp (fl v13 nn) (tt k0 nn))))))) (lo fun aI=>(lb (fun k1=>(lo fun bF=>(lb (fun k2=>(sl z7c 23 [] ⟨[0],[],rjoN3,rjoM3⟩ ⟨[],[],[]⟩ (trs 4 []) (pp (fl v9 nn) (tt k2 (pp (pp (xI R2 (z7y (cvT (ysV (cvT l1) (cvT l2))) (cvT v13)).length (Zy (z7y (cvT (ysV (cvT l1) (cvT l2))) (cvT v13)))) (pp (xr v10) (xw bF))) (tt k1 (pp (pp (xI Int (ysV (cvT l1) (cvT l2)).length (Zy (ysV (cvT l1) (cvT l2)))) (pp (xr v13) (xw aI))) nn))))))) (fun k2=>(sl z7c 30 [] ⟨[0],[],v7t,v7v⟩ ⟨[],[],[]⟩ (trs 3 [false]) (pp (fl v9 nn) (tt k2 (pp (pp (xI R2 (z7y (cvT (ysV (cvT l1) (cvT l2))) (cvT v13)).length (Zy (z7y (cvT (ysV (cvT l1) (cvT l2))) (cvT v13)))) (pp (xr v10) (xw bF))) (tt k1 (pp (pp (xI Int (ysV (cvT l1) (cvT l2)).length (Zy (ysV (cvT l1) (cvT l2)))) (pp (xr v13) (xw aI))) nn)))))))))) (fun k1=>(sl z7c 30 [] ⟨[0],[],v7t,v7v⟩ ⟨[],[],[]⟩ (bl 4 0) (pp (fl v9 nn) (tt k1 (pp (pp (xI Int (ysV (cvT l1) (cvT l2)).length (Zy (ysV (cvT l1) (cvT l2)))) (pp (xr v13) (xw aI))) nn))))))))))
 | .h2 v9 v10 v11 v12 v15 v17=>(lb (fun k0=>(lo fun o0=>(lo fun o1=>(lo fun o2=>(lo fun o3=>(sl z7c 20 [] ⟨[2],[],v7t,v7v⟩ ⟨[(9,.len (v9++[(R4.mk (rd (xsV (cvT l1) (cvT l2)) (tn v12)) (rd v15 (tn v17)).a (rd (xsV (cvT l1) (cvT l2)) (tn (wr (v12+1)))) (rd v15 (tn v17)).b)]).length)],[.rowed 4 (v9++[(R4.mk (rd (xsV (cvT l1) (cvT l2)) (tn v12)) (rd v15 (tn v17)).a (rd (xsV (cvT l1) (cvT l2)) (tn (wr (v12+1)))) (rd v15 (tn v17)).b)]).length (Zy (v9++[(R4.mk (rd (xsV (cvT l1) (cvT l2)) (tn v12)) (rd v15 (tn v17)).a (rd (xsV (cvT l1) (cvT l2)) (tn (wr (v12+1)))) (rd v15 (tn v17)).b)]))],[]⟩ [true] (pp (xL (v9.length+1) (v9++[(R4.mk (rd (xsV (cvT l1) (cvT l2)) (tn v12)) (rd v15 (tn v17)).a (rd (xsV (cvT l1) (cvT l2)) (tn (wr (v12+1)))) (rd v15 (tn v17)).b)]).length) (pp (xL (v9.length+1) (v9++[(R4.mk (rd (xsV (cvT l1) (cvT l2)) (tn v12)) (rd v15 (tn v17)).a (rd (xsV (cvT l1) (cvT l2)) (tn (wr (v12+1)))) (rd v15 (tn v17)).b)]).length) (pp (xS (v9.length+1) (Ze (Zy v9) 0 v9.length 4 [(ii (rd (xsV (cvT l1) (cvT l2)) (tn v12))),(ii (rd v15 (tn v17)).a),(ii (rd (xsV (cvT l1) (cvT l2)) (tn (wr (v12+1))))),(ii (rd v15 (tn v17)).b)]) (Zy (v9++[(R4.mk (rd (xsV (cvT l1) (cvT l2)) (tn v12)) (rd v15 (tn v17)).a (rd (xsV (cvT l1) (cvT l2)) (tn (wr (v12+1)))) (rd v15 (tn v17)).b)]))) (pp (pp (xF (Ze (Zy v9) 0 v9.length 4 [(ii (rd (xsV (cvT l1) (cvT l2)) (tn v12))),(ii (rd v15 (tn v17)).a),(ii (rd (xsV (cvT l1) (cvT l2)) (tn (wr (v12+1))))),(ii (rd v15 (tn v17)).b)])) nn) (ww o3 (ww o2 (ww o1 (ww o2 (ww o0 (tt k0 nn)))))))))))))))) (fun k0=>(sl z7c 17 [] ⟨[0],[],v7u,v7w⟩ ⟨[],[],[]⟩ [false] (pp (fl v9 nn) (tt k0 nn)))))
 | .h3 v9 v10 v11 v12 v16=>(lb (fun k0=>(lo fun o0=>(lo fun o1=>(lo fun o2=>(sl z7c 31 [] ⟨[0],[],rjoN3,rjoM3⟩ ⟨[(9,.len (v9.set (0+(tn v16)) (R4.mk (rd v9 (0+(tn v16))).a (rd v9 (0+(tn v16))).b (rd (xsV (cvT l1) (cvT l2)) (tn (wr (v12+1)))) (rd v9 (0+(tn v16))).d)).length)],[.rowed 4 (v9.set (0+(tn v16)) (R4.mk (rd v9 (0+(tn v16))).a (rd v9 (0+(tn v16))).b (rd (xsV (cvT l1) (cvT l2)) (tn (wr (v12+1)))) (rd v9 (0+(tn v16))).d)).length (Zy (v9.set (0+(tn v16)) (R4.mk (rd v9 (0+(tn v16))).a (rd v9 (0+(tn v16))).b (rd (xsV (cvT l1) (cvT l2)) (tn (wr (v12+1)))) (rd v9 (0+(tn v16))).d)))],[]⟩ [true] (pp (xL v9.length (v9.set (0+(tn v16)) (R4.mk (rd v9 (0+(tn v16))).a (rd v9 (0+(tn v16))).b (rd (xsV (cvT l1) (cvT l2)) (tn (wr (v12+1)))) (rd v9 (0+(tn v16))).d)).length) (pp (xL v9.length (v9.set (0+(tn v16)) (R4.mk (rd v9 (0+(tn v16))).a (rd v9 (0+(tn v16))).b (rd (xsV (cvT l1) (cvT l2)) (tn (wr (v12+1)))) (rd v9 (0+(tn v16))).d)).length) (pp (xS v9.length (Xp (Zy v9) (0+(tn v16)) 2 [(ii (rd (xsV (cvT l1) (cvT l2)) (tn (wr (v12+1)))))]) (Zy (v9.set (0+(tn v16)) (R4.mk (rd v9 (0+(tn v16))).a (rd v9 (0+(tn v16))).b (rd (xsV (cvT l1) (cvT l2)) (tn (wr (v12+1)))) (rd v9 (0+(tn v16))).d)))) (pp (pp (xF (Xp (Zy v9) (0+(tn v16)) 2 [(ii (rd (xsV (cvT l1) (cvT l2)) (tn (wr (v12+1)))))])) nn) (ww o2 (ww o1 (ww o0 (tt k0 nn))))))))))))) (fun k0=>(sl z7c 17 [] ⟨[0],[],v7u,v7w⟩ ⟨[],[],[]⟩ [false] (pp (fl v9 nn) (tt k0 nn)))))
theorem x1n (x0:Int) (l1:List R4) (l2:List R4):Yh prog (Zz prog 89) (rjoC x0 l1 l2) (Zj prog 89 [(.int .i64 x0),(.dat l1.length (Zy l1)),(.dat l2.length (Zy l2))] true []) (z8u x0 l1 l2):=(lo fun o0=>(lo fun o1=>(sl z7c 34 [(155,4,Zy ([]:List R4))] ⟨[0],[],v7u,v7w⟩ ⟨[(9,.grow 0 4),(10,.list 0 (Zy ([]:List R2)))],[],[]⟩ [] (pp (fl ([]:List R4) nn) (pp (pp (xr l1) (pp (xr l2) (xw o1))) (pp (pp (xr l1) (pp (xr l2) (xw o0))) nn))))))
theorem w8s (x0:Int) (l1:List R4) (l2:List R4) (n:Nat) (vs:List AVal) (h:Zo (Wy x0 l1 l2) n (z8u x0 l1 l2)=.ret vs):Ws prog (Zz prog 89) (Zj prog 89 [(.int .i64 x0),(.dat l1.length (Zy l1)),(.dat l2.length (Zy l2))] true []) vs:=by have:=Zk (x9b x0 l1 l2) n _ (x1n x0 l1 l2);rwa [h] at this
theorem Qk : ∀(l out:List Int),(l.foldl y3m out).length ≤out.length+l.length
 | [],out=>Ao _
 | x::l,out=>AG (Qk l (y3m out x)) (by have:=y0o out x;simp;omega)
theorem z2p (l:List Int):(z0n l).length ≤l.length:=by
 grind [Qk,z0n]
theorem y1h (cuts:List Int) (ins:List Bool): ∀(k i:Nat) (out:List R2),(w2a cuts ins k i out).length ≤out.length+k
 | 0,_,out=>Ao _
 | k+1,i,out=>by
  unfold w2a;refine AG (y1h cuts ins k (i+1) _) ?_;cases rd ins i
  ·simp only [Ad];omega
  ·simp only [Ag];cases (decide (0<out.length)&&((rd out (out.length - 1)).b == rd cuts i)) <;> simp <;> omega
theorem x4u (cuts:List Int) (ins:List Bool):(z7y cuts ins).length ≤cuts.length:=by
 grind [y1h,z7y]
section
variable (kind:Int) (l m:List R4)
def v1y (x:Int) (y:Int):Bool:=Kq kind (Vs l x y) (Vs m x y)
def x5q (x:Int):List R2:=z7y (ysV l m) ((ysV l m).map (v1y kind l m x))
def w7f (out:List R4) (first:Nat) (x:Int):List R4:=out.take first++(out.drop first).map fun r=>⟨r.a,r.b,x,r.d⟩
def v8n (x x':Int) (s:List R2):List R4:=s.map fun p=>⟨x,p.a,x',p.b⟩
def jF :Nat→Nat→List R4→List R2→Nat→List R4
 | 0,_,out,_,_=>out
 | k+1,i,out,last,first=>
  bif decide (0<i)&&Jt (x5q kind l m (rd (xsV l m) i)) last then jF k (i+1) (w7f out first (rd (xsV l m) (i+1))) last first
  else jF k (i+1) (out++v8n (rd (xsV l m) i) (rd (xsV l m) (i+1)) (x5q kind l m (rd (xsV l m) i))) (x5q kind l m (rd (xsV l m) i)) out.length
def joV :List R4:=jF kind l m ((xsV l m).length - 1) 0 [] [] 0
end
def Kk (_:Int) (l m:List R4):Bool:=decide (l.length≤10000∧m.length≤10000)
theorem Ux (l m:List R4):(xsV l m).length ≤2*l.length+2*m.length:=by
 refine AG (z2p _) ?_
 grind [z0u]
theorem y2n (l m:List R4):(ysV l m).length ≤2*l.length+2*m.length:=by
 refine AG (z2p _) ?_
 grind [z0t]
section
variable (kind:Int) (l m:List R4) (hl:l.length≤10000) (hm:m.length≤10000)
include hl hm
theorem v4a (out:List R4) (last:List R2) (first:Int) (i:Nat) (hi:i+1<(xsV l m).length): ∀(k j:Nat) (acc:List Bool),j+k=(ysV l m).length →acc.length=j→
  ∃n,∀N,Zo (Wy kind l m) (N+n) (.to (.h1 out last first (i:Int) acc (j:Int)))=Zo (Wy kind l m) N (.to (.h1 out last first (i:Int) (acc++((ysV l m).drop j).map (v1y kind l m (rd (xsV l m) i))) ((ysV l m).length :Int)))
 | 0,j,acc,h,ha=>by
  refine ⟨0,fun N=> ?_⟩
  grind
 | k+1,j,acc,h,ha=>by
  have hx:=Ux l m;have hy:=y2n l m;obtain ⟨n,hn⟩:=v4a out last first i hi k (j+1) (acc++[v1y kind l m (rd (xsV l m) i) (rd (ysV l m) j)]) (by omega) (by simp [ha])
  refine ⟨n+1,fun N=> ?_⟩;have w1: ∀x y,Jp l x y=true:=fun x y=>Ae (by omega);have w2: ∀x y,Jp m x y=true:=fun x y=>Ae (by omega);rw [drop_rd (show j<(ysV l m).length by omega),A2,←AH,Zv];simp (disch:=omega) only [Wy,Zn,Zc,w1,w2,dlt_t,din_t,nle_t,neq_t,room_t,wrap_t,cast_succ,beq11,toNat_c,Al,Av,Ap,Aq,Ag];have:=hn N;rw [AF] at this;exact this
theorem v3z (last:List R2) (first:Int) (i:Nat) (hi:i+1<(xsV l m).length) (s:List R2) (hs:s.length≤1000000): ∀(k j:Nat) (out:List R4),j+k=s.length→out.length≤10000000000+j→
  ∃n,∀N,Zo (Wy kind l m) (N+n) (.to (.h2 out last first (i:Int) s (j:Int)))=Zo (Wy kind l m) N (.to (.h0 (out++v8n (rd (xsV l m) i) (rd (xsV l m) (i+1)) (s.drop j)) last first ((i+1:Nat):Int)))
 | 0,j,out,h,ho=>by
  have hx:=Ux l m;refine ⟨1,fun N=> ?_⟩
  grind [Zv,Wy,wrap_t,v8n]
 | k+1,j,out,h,ho=>by
  have hx:=Ux l m;obtain ⟨n,hn⟩:=v3z last first i hi s hs k (j+1) (out++v8n (rd (xsV l m) i) (rd (xsV l m) (i+1)) [rd s j]) (by omega) (by simp [v8n];omega)
  refine ⟨n+1,fun N=> ?_⟩;have:=hn N;rw [drop_rd (show j<s.length by omega),←AH,Zv];simp (disch:=omega) only [Wy,Zn,Zc,dlt_t,din_t,nle_t,neq_t,room_t,wrap_t,cast_succ,beq11,toNat_c,Al,Av,Ap,Aq,Ag];rw [AF] at this;exact this
theorem v1p (out:List R4) (j:Nat) (x:Int) (h:j<out.length):w7f (out.set j ⟨(rd out j).a,(rd out j).b,x,(rd out j).d⟩) (j+1) x=w7f out j x:=by
 have _uhl:=hl;have _uhm:=hm;unfold w7f;rw [drop_rd h,A2];have e1:(out.set j ⟨(rd out j).a,(rd out j).b,x,(rd out j).d⟩).take (j+1)=out.take j++[⟨(rd out j).a,(rd out j).b,x,(rd out j).d⟩]:=by
  apply Bz;all_goals grind
 have e2:(out.set j ⟨(rd out j).a,(rd out j).b,x,(rd out j).d⟩).drop (j+1)=out.drop (j+1):=by rw [List.drop_set];grind
 grind
theorem v3y (last:List R2) (first:Int) (i:Nat) (hi:i+1<(xsV l m).length): ∀(k j:Nat) (out:List R4),j+k=out.length→out.length≤10000000000→
  ∃n,∀N,Zo (Wy kind l m) (N+n) (.to (.h3 out last first (i:Int) (j:Int)))=Zo (Wy kind l m) N (.to (.h0 (w7f out j (rd (xsV l m) (i+1))) last first ((i+1:Nat):Int)))
 | 0,j,out,h,ho=>by
  have hx:=Ux l m;refine ⟨1,fun N=> ?_⟩;have e:w7f out j (rd (xsV l m) (i+1))=out:=by
   grind [w7f]
  grind [Zv,Wy,wrap_t]
 | k+1,j,out,h,ho=>by
  have hx:=Ux l m;obtain ⟨n,hn⟩:=v3y last first i hi k (j+1) (out.set j ⟨(rd out j).a,(rd out j).b,rd (xsV l m) (i+1),(rd out j).d⟩) (by simp;omega) (by grind)
  refine ⟨n+1,fun N=> ?_⟩;have:=hn N;rw [v1p l m hl hm out j _ (by omega)] at this;rw [←AH,Zv];simp (disch:=omega) only [Wy,Zn,Zc,dlt_t,din_t,nlt_t,nle_t,neq_t,room_t,wrap_t,cast_succ,beq11,toNat_c,Al,Av,Ap,Aq,Ag];exact this
theorem w3t : ∀(k i:Nat) (out:List R4) (last:List R2) (first:Nat),k=(xsV l m).length - 1 - i→i≤(xsV l m).length →out.length≤i*40000→last.length≤40000→first≤out.length→
  ∃n,Zo (Wy kind l m) n (.to (.h0 out last (first:Int) (i:Int)))=.ret [.dat (jF kind l m k i out last first).length (Zy (jF kind l m k i out last first))]
 | 0,i,out,last,first,h,hi,ho,hla,hf=>by
  have hx:=Ux l m;refine ⟨1,?_⟩
  grind [Zv,Wy,Zn,wrap_t,Zp,jF]
 | k+1,i,out,last,first,h,hi,ho,hla,hf=>by
  have hx:=Ux l m;have hy:=y2n l m;have hi1:i+1<(xsV l m).length :=by omega
  have hsl:(x5q kind l m (rd (xsV l m) i)).length ≤40000:=AG (x4u _ _) (by omega);have hbig:i*40000≤40000*40000:=Az _ (by omega);obtain ⟨n1,h1⟩:=v4a kind l m hl hm out last first i hi1 (ysV l m).length 0 [] (Al _) rfl
  simp only [A0,A6,cast0] at h1;have w3:z6c (ysV l m) ((ysV l m).map (v1y kind l m (rd (xsV l m) i)))=true:=Ae ⟨by omega,by grind⟩;have w4:Vq (z7y (ysV l m) ((ysV l m).map (v1y kind l m (rd (xsV l m) i)))) last=true:=Ae (AG hsl (by omega));have hy2:((ysV l m).length :Int)=(((ysV l m).length :Nat):Int):=rfl;unfold jF;rcases boolc (decide (0<i)&&Jt (x5q kind l m (rd (xsV l m) i)) last) with q | q
  ·obtain ⟨n3,h3⟩:=v3y kind l m hl hm last first i hi1 (out.length - first) first out (by omega) (by omega)
   obtain ⟨n0,h0⟩:=w3t k (i+1) (w7f out first (rd (xsV l m) (i+1))) last first (by omega) (by omega) (by simp [w7f];omega) hla (by simp [w7f];omega)
   refine ⟨n0+n3+1+n1+1,?_⟩;rw [q,Ag,Zv];simp only [Ac,Ak] at q;have q2:Jt (z7y (ysV l m) ((ysV l m).map (v1y kind l m (rd (xsV l m) i)))) last=true:=q.2;simp (disch:=omega) only [Wy,Zn,Zc,dlt_t,wrap_t,cast_succ,Ag];simp_all [Zv,Wy,Zn]
  ·obtain ⟨n2,h2⟩:=v3z kind l m hl hm (x5q kind l m (rd (xsV l m) i)) (out.length:Int) i hi1 (x5q kind l m (rd (xsV l m) i)) (by omega) (x5q kind l m (rd (xsV l m) i)).length 0 out (Al _) (by omega);obtain ⟨n0,h0⟩:=w3t k (i+1) (out++v8n (rd (xsV l m) i) (rd (xsV l m) (i+1)) (x5q kind l m (rd (xsV l m) i))) (x5q kind l m (rd (xsV l m) i)) out.length (by omega) (by omega) (by simp [v8n];omega) hsl (by simp);refine ⟨n0+n2+1+n1+1,?_⟩;rw [q,Ad,Zv];simp (disch:=omega) only [Wy,Zn,Zc,dlt_t,wrap_t,cast_succ,Ag];have h1':=h1 (n0+n2+1);rw [h1',Zv];have h2':=h2 n0;simp only [A0,cast0] at h2';by_cases hi0:0<i
   ·rw [Ae hi0,Aq] at q;have q2:Jt (z7y (ysV l m) ((ysV l m).map (v1y kind l m (rd (xsV l m) i)))) last=false:=q;simp (disch:=omega) only [Wy,Zn,Zc,dlt_f,dgt_t,q2,w3,w4,Ag,Ad];rw [←h0];exact h2'
   ·simp (disch:=omega) only [Wy,Zn,Zc,dlt_f,dgt_f,w3,w4,Ag,Ad];rw [←h0];exact h2'
end
theorem v7s (kind:Int) (l m:List R4) (h:Kk kind l m=true): ∃N,Zo (Wy kind l m) N (z8u kind l m)=.ret [.dat (joV kind l m).length (Zy (joV kind l m))]:=by obtain ⟨hl,hm⟩:=As h;obtain ⟨N,hN⟩:=w3t kind l m hl hm ((xsV l m).length - 1) 0 [] [] 0 rfl (AE _) (AE _) (AE _) (Ao _);refine ⟨N,?_⟩;have w1:z8f l m=true:=Ae ⟨hl,hm⟩;have w2:z8e l m=true:=Ae ⟨hl,hm⟩;simp only [z8u,Zn,Zc,w1,w2,Ag];exact hN
theorem fTwo {P:Program} {S:Specs} (hS:Zw P S) {f:FuncId} {F:List AVal→Option (AVal×Bool)} (hf:(P.funcs[f]?).any (fun fn=>fn.body.isSome)=true)
  (hF: ∀args v,F args=some (v,true)→ ∃bs vs,Xo VLe args bs∧(∀(ρ:Rho) (u:Value),Za ρ (Vt vs) u→Za ρ v u)∧Ws P (Zz P f) (Zj P f bs true []) vs∧ ∃d,pf d (Vt vs)=true):Zw P (S.with f F):=
 y2t hS hf fun args v h=>by obtain ⟨bs,vs,h1,h2,h3,d,h4⟩:=hF args v h;exact ⟨vs,h2,y0z h1 h3,d,h4⟩
theorem z9o {cs cs':List AVal} (h:RLe cs cs') (ρ:Rho) (u:Value) (hv:Za ρ (.tup cs) u):Za ρ (.tup cs') u:=by
 cases hv with
 | tup _ vs hl hh=>exact .tup cs' vs (by rw [←h.len];exact hl) fun i h1 h2=>h.sound i (by rw [h.len];exact h1) h1 (hh i (by rw [h.len];exact h1) h2)
theorem z3c (α:Type) [Ym α]:VLe .nils (.dat ([]:List α).length (Zy ([]:List α))):=.nild _
def fJo :List AVal→Option (AVal×Bool)
 | [.int .i64 x0,a1,a2]=>match asL R4 a1,asL R4 a2 with
  | some (L1,g1,n1),some (L2,g2,n2)=>some (.dat (joV x0 L1 L2).length (Zy (joV x0 L1 L2)),isT R4 n1 g1&&(isT R4 n2 g2&&(Kk x0 L1 L2)))
  | _,_=>none
 | _=>none
theorem fJo_ok {S:Specs} (hS:Zw prog S):Zw prog (S.with v4w fJo):=by
 refine fOne hS (by kernel_rfl) fun args v h=> ?_;unfold fJo at h;split at h
 ·rename_i x0 a1 a2;split at h
  ·rename_i L1 g1 n1 L2 g2 n2 e1 e2;simp only [Ab,Aa,Ac] at h;obtain ⟨rfl,ho1,ho2,hw⟩:=h;obtain ⟨N,hN⟩:=v7s x0 L1 L2 hw;exact ⟨_,_,(.cons (.refl _) (.cons (Yg e1 ho1) (.cons (Yg e2 ho2) .nil))),rfl,w8s x0 L1 L2 N _ hN,3,rfl⟩
  ·cases h
 ·cases h
def T3 :Specs:=T2.with v4w fJo
theorem z7b :Zw prog T3:=fJo_ok z7c
open Go.Sort
def bnd3 (r:R3):Bool:=decide (-1000000000≤r.a∧r.a≤1000000000)
def y6s (l:List R3):Bool:=l.all bnd3
abbrev E3 :={r:R3 // bnd3 r=true}
instance : Inhabited E3:=⟨⟨⟨0,0,0⟩,rfl⟩⟩
def cf3 (x y:E3):Int:=x.1.a - y.1.a
def lt3 (x y:E3):Bool:=decide (cf3 x y<0)
theorem swo3 :SWO lt3 where
 irrefl x:=by unfold lt3 cf3;simp
 trans x y z h1 h2:=by unfold lt3 cf3 at*;simp at*;omega
 ntrans x y z h1 h2:=by unfold lt3 cf3 at*;simp at*;omega
def y6u :(l:List R3)→y6s l=true→List E3
 | [],_=>[]
 | r::l,h=>⟨r,by simp [y6s] at h;exact h.1⟩::y6u l (by simp [y6s] at h ⊢;exact h.2)
theorem z9k : ∀(l:List R3) (h:y6s l=true),(y6u l h).map Subtype.val=l
 | [],_=>rfl
 | r::l,h=>by rw [y6u,A2,z9k l]
theorem Uk (l:List R3) (h:y6s l=true):(y6u l h).length =l.length:=by
 have:=AB List.length (z9k l h)
 simpa using this
def z3v (l:List R3):List R3:=if h:y6s l=true then (pdq lt3 (y6u l h).toArray 0 l.length (Lib.bitLen l.length) true true).toList.map Subtype.val else l
theorem Kn (l:List R3) (h:y6s l=true):(z3v l).Perm l∧ ∀i j,i<j→j<(z3v l).length →(rd (z3v l) i).a ≤(rd (z3v l) j).a :=by
 have hp:=pdq_sorts lt3 swo3 (y6u l h).toArray 0 l.length (Lib.bitLen l.length) true true (AE _) (by simp [Uk]) (Or.inl rfl);obtain ⟨⟨h1,h2,h3⟩,h4⟩:=hp;have e:z3v l=(pdq lt3 (y6u l h).toArray 0 l.length (Lib.bitLen l.length) true true).toList.map Subtype.val:=by unfold z3v;rw [dif_pos h]
 generalize pdq lt3 (y6u l h).toArray 0 l.length (Lib.bitLen l.length) true true=d at*;have hs:d.size=l.length:=by rw [h1];simp [Uk]
 constructor
 ·rw [e];have x1:(d.extract 0 l.length).toList =d.toList:=by rw [←hs];simp
  have x2:((y6u l h).toArray.extract 0 l.length).toList =y6u l h:=by rw [show l.length=(y6u l h).toArray.size by simp [Uk]];simp
  rw [x1,x2] at h3;have:=h3.map Subtype.val;rw [z9k] at this;exact this
 ·intro i j hij hj;rw [e] at hj ⊢;have hj':j<d.size:=by simpa using hj
  have:=h4 i j (AE _) hij (by omega);rw [getElem!_pos d i (by omega),getElem!_pos d j hj'] at this;rw [Xf (by simp;omega),Xf hj];simp only [List.getElem_map,Array.getElem_toList];unfold lt3 cf3 at this;have:=of_decide_eq_false this;omega
open Go.RowKit Go.Shelf
variable {P:Program} {ρ:Rho}
def valOf :AVal→Value
 | .int k n=>.int k n
 | .bool b=>.bool b
 | _=>.tuple #[]
def x3k :AVal→Bool
 | .int _ _=>true
 | .bool _=>true
 | _=>false
theorem x2q {α:Type} [Ym α] (L:List α) (n:Nat) (ty:TypeId) (a:Option Arr):(⟨Go.Am.rows n (Zy L),ty,a⟩:ABlk).isObj =false:=y3f (fun k v hv=>Aw.1 (Ym.sc _) v hv) _ _
theorem w2h {a:AVal} (h:x3k a=true):Za ρ a (valOf a):=by
 cases a <;> first
  | exact .int _ _
  | exact .bool _
  | (simp [x3k] at h;done)
theorem w3x {a:AVal} {v:Value} (h:x3k a=true) (hv:Za ρ a v):v=valOf a:=by
 cases hv <;> first
  | rfl
  | (simp [x3k] at h;done)
class v5y (α:Type) extends Ym α where
 num: ∀a:α,(cells a).all x3k=true
instance : v5y R2 where num _:=rfl
instance : v5y R3 where num _:=rfl
instance : v5y R4 where num _:=rfl
instance : v5y R6 where num _:=rfl
instance {α :Type} [Ym α]:Inhabited α:=⟨Ym.d⟩
section
variable {α:Type} [v5y α]
def w1g (a:α):List Value:=(Ym.cells a).map valOf
theorem x4n (a:α):(w1g a).length =Ym.w α:=by rw [w1g,List.length_map,Ym.len]
theorem x7f (L:List α) (t:Nat) (h:t<L.length*Ym.w α):(flatK w1g (Ym.w α) L.toArray)[t]? =(Ym.cells (rd L (t / Ym.w α)))[t %Ym.w α]?.map valOf:=by
 have hw:=Ym.pos (α:=α);have hq:t / Ym.w α<L.length:=A4 (by grind);have hj:t %Ym.w α<Ym.w α:=Bk _ hw
 grind [flatK,w1g,Xf,Ym.len]
theorem w3o (L:List α) (N t:Nat) (h:t<N*Ym.w α):(rows N (Zy L))[t]? =(Ym.cells (rd L (t / Ym.w α)))[t %Ym.w α]? :=by have hw:=Ym.pos (α:=α);have:=Xe (get:=Zy L) (sz:=Ym.w α) N (fun _ _=>Ym.len _) (t / Ym.w α) (t %Ym.w α) (A4 (by grind)) (Bk _ hw);rw [show t / Ym.w α*Ym.w α+t %Ym.w α=t by rw [Bu];exact Bm t _] at this;exact this
theorem z4e (L:List α) (N:Nat):(rows N (Zy L)).length =N*Ym.w α:=Zh N fun _ _=>Ym.len _
theorem y0s (w:World) (n blk off:Nat) (d:Array Value) (os:Array Obj) (k:Nat) (hk:k<w.heap.size):
  (grow (putRow id (Go.Sort.ahead w n) blk off d) os).heap[k]? =if k=blk then (w.heap[k]?).map (onCells (putCells id off d)) else w.heap[k]? :=by
 show (((Go.Sort.ahead w n).heap.modify blk (onCells (putCells id off d)))++os)[k]? =_;rw [Array.getElem?_append_left (by simp_all),Array.getElem?_modify];show (if blk=k then _ else _)=_;by_cases h:k=blk
 ·simp_all
 ·rw [Ax (fun e=>h e.symm),Ax h];rfl
def x7g (α:Type) [Ym α] (srt:List α→List α) (bnd:List α→Bool) (g:FuncId) (args:List AVal) (mem:Mem):Option (AVal×Nat×ABlk×Bool):=match args with
 | [.sla b sz off n cap,.fn f []]=>bif Nat.beq f g then match Zt mem b with
  | some ⟨_,ty,some A⟩=>some (.tup [],b,⟨rows A.n (Zy (srt (lst α n A.get))),ty,some ⟨Ym.w α,A.n,Zy (srt (lst α n A.get))⟩⟩,
    Nat.beq sz (Ym.w α)&&(Nat.beq A.sz (Ym.w α)&&(Nat.beq off 0&&((decide (n=A.n)&&(isT α n A.get&&decide (n<4611686018427387904)))&&bnd (lst α n A.get)))))
  | _=>none
  else none
 | _=>none
theorem w6b {f g:FuncId} {srt:List α→List α} {bnd:List α→Bool} (hsl: ∀L,(srt L).length =L.length)
  (hC: ∀(blk off cap:Nat) (L:List α) (w:World),bnd L=true→HoldsK w1g (Ym.w α) w blk off L.toArray→blk<w.heap.size→L.length<4611686018427387904→
   Calls P f #[.slice (some ⟨blk,off,none⟩) L.length cap,.func (.func g) #[] #[]] w fun e w'=>e=.returned (.tuple #[])∧ ∃n os,w'=sortWorldK w1g (Ym.w α) w blk off n (srt L).toArray os)
  (hN: ∀(p:Option Addr) (cap:Nat) (fv:Value) (w:World),Calls P f #[.slice p 0 cap,fv] w fun e w'=>e=.returned (.tuple #[])∧w'=w):y9t P f (x7g α srt bnd g):=by
 intro args mem v b blk h eZ ρ next floor vals w hfl cY cV
 have hw0:=Ym.pos (α:=α);unfold x7g at h;split at h
 ·rename_i b0 sz off n cap f0;obtain ⟨hfg,h'⟩:=Ua h;clear h;obtain rfl:=Ah hfg;have h:=h';clear h';split at h
  ·rename_i cells ty A hm;obtain ⟨asz,an,get⟩:=A;simp only [Ab,Aa,Ac] at h;obtain ⟨rfl,rfl,rfl,h1,h2,h3,⟨h4,h5,h6⟩,h7⟩:=h;have g1:=Ah h1;have g2:=Ah h2;have g3:=Ah h3;have g4:n=an:=As h4;have h6:n<4611686018427387904:=As h6;have g2:asz=Ym.w α:=g2;subst g1;subst g2;subst g3;subst g4;have h7:bnd (lst α n get.get)=true:=h7;have dC:=x6v h5;have dC: ∀i,i<n→get.get i=Zy (lst α n get.get) i:=dC;have hrows:rows n get.get=rows n (Zy (lst α n get.get)):=z6j n dC;obtain ⟨u,hu,eF⟩: ∃u,Za ρ (.sla b0 (Ym.w α) 0 n cap) u∧vals= #[u,.func (.func f0) #[] #[]]:=by
    obtain ⟨vl⟩:=vals;cases cY with
    | cons q1 q2=>cases q2 with
     | cons q3 q4=>
      cases q4;cases q3 with
      | fn _ _ cvs hl _=>
       grind
   subst eF;have hlt:b0<next:=by
    rcases AV b0 next with q | q
    ·exact q
    ·have:=cV.bd b0 q;grind
   show Calls P f _ w _;have hAget:(Arr.get ⟨Ym.w α,n,get⟩)=get.get:=rfl;rw [hAget] at*;generalize hI:lst α n get.get=I at*;have hIl:I.length=n:=by rw [←hI];exact y3g _ _
   generalize hL:srt I=L;have hLl:L.length=n:=by grind
   have hnn:ρ b0=none→ ∀cs ty',Zt mem b0≠some ⟨cs,ty',none⟩:=fun _ cs ty' e=>by grind
   cases hu with
   | sla _ _ _ _ _ l cc e hc cW=>
    have hbk:=(cV.blk b0 l _ e hm).rows rfl;obtain ⟨har,_,_⟩:=hbk.arr _ rfl;have har:cells=rows n get.get:=har;rw [hrows] at har;subst har;obtain ⟨cur,el,hh,hsz,dA⟩:=hbk.cells;simp only [z4e] at dA;have htot:=hbk.tot;have hln:=hbk.n;simp only [z4e] at hln;have dS: ∀t,t<n*Ym.w α→cur[l.base+t]? =(Ym.cells (rd I (t / Ym.w α)))[t %Ym.w α]?.map valOf:=fun t ht=>by
     obtain ⟨v,e1,e2⟩:=dA t ht;have hj:t %Ym.w α<Ym.w α:=Bk _ hw0;have hl2:t %Ym.w α<(Ym.cells (rd I (t / Ym.w α))).length :=by rw [Ym.len];exact hj
     have e3:=w3o I n t ht
     grind [w3x,v5y.num]
    have eA:=cV.real b0 l e;have hH:HoldsK w1g (Ym.w α) w l.blk (l.base+0*Ym.w α) I.toArray:=fun j hj=>by
     have hj:j<n*Ym.w α:=(by simp_all);have hs:j<(flatK w1g (Ym.w α) I.toArray).size :=(by grind);have e1:=x7f I j (by grind)
     grind [World.cell?,World.frozen?]
    have dI:=hC l.blk (l.base+0*Ym.w α) cc I w h7 hH eA (by omega);rw [hIl,hL] at dI;refine dI.mono fun e' w' ⟨he,q,os,hw'⟩=>⟨_,he,?_,?_,?_⟩
    ·exact .tup [] #[] rfl fun i h1 h2=>absurd h1 (AA _)
    ·subst hw';refine Rel.setArr ?_ ⟨Ym.w α,n,.flat (Zy L)⟩ (x2q _ _ _ _) rfl hw0 fun _ _=>Ym.len _;refine Rel.rewritten cV e hm (by simp only [z4e]) (fun k hk hne=> ?_) ?_ hbk.noObj ?_
     ·exact (y0s _ _ _ _ _ _ _ hk).trans (Ax hne)
     ·show _≤(((Go.Sort.ahead w q).heap.modify _ _)++os).size;simp_all
     ·refine ⟨putCells id (l.base+0*Ym.w α) (flatK w1g (Ym.w α) L.toArray) cur,el,?_,fun _ _ _=>hbk.typ _ _ _ hh,?_,fun i hi=> ?_⟩
      ·refine (y0s _ _ _ _ _ _ _ eA).trans ?_;rw [AD rfl,hh];rfl
      ·grind [putCells]
      ·rw [z4e] at hi;have hj:i %Ym.w α<Ym.w α:=Bk _ hw0;have hl2:i %Ym.w α<(Ym.cells (rd L (i / Ym.w α))).length :=by rw [Ym.len];exact hj
       have hl3:i %Ym.w α<(Ym.cells (rd I (i / Ym.w α))).length :=(by grind);have e1:=x7f L i (by grind);rw [Ar hl2,BH] at e1;have hs:i<(flatK w1g (Ym.w α) L.toArray).size :=(by grind);rw [Bs hs] at e1;have e3:=w3o L n i hi;rw [Ar (by grind),Ar hl2] at e3;refine ⟨valOf (Ym.cells (rd L (i / Ym.w α)))[i %Ym.w α],?_,?_⟩
       ·simp_all [putCells]
       grind [w2h,v5y.num]
    ·subst hw';refine Ev.rewritten cV _ (fun l' _=>hfl) hnn (fun k hk hne=> ?_) ?_ rfl rfl rfl
     ·exact (y0s _ _ _ _ _ _ _ hk).trans (Ax (hne l e))
     ·show _≤(((Go.Sort.ahead w q).heap.modify _ _)++os).size;simp_all
   | slan=>
    have hI0:I=[]:=Bx hIl;have hL0:L=[]:=Bx hLl;refine (hN none 0 _ w).mono fun e' w' ⟨he,hw'⟩=>⟨_,he,?_,?_,?_⟩
    ·exact .tup [] #[] rfl fun i h1 h2=>absurd h1 (AA _)
    ·subst hw';refine cV.reblk hm fun l hρ hbk=> ?_;have hbk:=hbk.rows rfl;obtain ⟨har,eM,_⟩:=hbk.arr _ rfl;have har:cells=rows 0 get.get:=har;subst har;exact .plain ⟨hbk.typ,hbk.n,hbk.tot,fun B hB=>by obtain rfl:=Af hB;exact ⟨rfl,hw0,fun i hi=>absurd hi (AA _)⟩,hbk.cells⟩
    grind [Ev.rewritten]
  ·cases h
 ·cases h
end
def Specs.withE (S:Specs) (f:FuncId) (F:List AVal→Mem→Option (AVal×Nat×ABlk×Bool)):Specs:=fun g=>bif Nat.beq g f then some (.eff F) else S g
theorem y4f {P:Program} {S:Specs} (hS:Zw P S) {f:FuncId} {F:List AVal→Mem→Option (AVal×Nat×ABlk×Bool)} (hf:(P.funcs[f]?).any (fun fn=>fn.body.isSome)=true) (hF:y9t P f F):Zw P (S.withE f F):=by
 intro g G hg;unfold Specs.withE at hg;cases hgf:Nat.beq g f with
 | false=>rw [hgf] at hg;exact hS g G hg
 | true=>
  rw [hgf] at hg;obtain rfl:Spec.eff F=G:=Af hg;obtain rfl:g=f:=Ah hgf;refine ⟨?_,hF⟩
  grind
end Go.Am
namespace Go.Proofs
open Go.Proofs.Tryz
open Go.Shelf
def Tryz.lays156_ren :Go.Shelf.Ren:=⟨fun | 156=>42 | 165=>69 | 166=>70 | 169=>71 | 240=>97 | 241=>98 | 276=>131 | 277=>132 | n=>n,fun | 31=>77 | 9=>9 | 3=>3 | 4=>4 | 0=>0 | 20=>20 | 72=>117 | 76=>121 | 70=>114 | 37=>115 | 75=>120 | 127=>159 | 164=>195 | 5=>5 | 80=>123 | n=>n,fun | n=>n⟩
theorem Tryz.lays156 :Go.Proofs.Lays.n156 prog Tryz.lays156_ren:={
 mixed:=by kernel_rfl
 f156:=Tryz.func42.trans (congrArg some (by kernel_rfl))
 f165:=Tryz.func69.trans (congrArg some (by kernel_rfl))
 f166:=Tryz.func70.trans (congrArg some (by kernel_rfl))
 f169:=Tryz.func71.trans (congrArg some (by kernel_rfl))
 f240:=Tryz.func97.trans (congrArg some (by kernel_rfl))
 f241:=Tryz.func98.trans (congrArg some (by kernel_rfl))
 f276:=Tryz.func131.trans (congrArg some (by kernel_rfl))
 f277:=Tryz.func132.trans (congrArg some (by kernel_rfl))
 t0:=Tryz.underlying0
 a0:=Tryz.isAgg0
 z0:=Tryz.sizeOf0
 v0:=Tryz.zeroValue0
 t3:=Tryz.underlying3
 a3:=Tryz.isAgg3
 z3:=Tryz.sizeOf3
 v3:=Tryz.zeroValue3
 t4:=Tryz.underlying4
 a4:=Tryz.isAgg4
 z4:=Tryz.sizeOf4
 v4:=Tryz.zeroValue4
 t9:=Tryz.underlying9
 a9:=Tryz.isAgg9
 z9:=Tryz.sizeOf9
 v9:=Tryz.zeroValue9
 t20:=Tryz.underlying20
 a20:=Tryz.isAgg20
 z20:=Tryz.sizeOf20
 v20:=Tryz.zeroValue20
 t31:=Tryz.underlying77
 a31:=Tryz.isAgg77
 z31:=Tryz.sizeOf77
 v31:=Tryz.zeroValue77
 t37:=Tryz.underlying115
 a37:=Tryz.isAgg115
 z37:=Tryz.sizeOf115
 v37:=Tryz.zeroValue115
 t70:=Tryz.underlying114
 a70:=Tryz.isAgg114
 z70:=Tryz.sizeOf114
 v70:=Tryz.zeroValue114
 t72:=Tryz.underlying117
 a72:=Tryz.isAgg117
 z72:=Tryz.sizeOf117
 v72:=Tryz.zeroValue117
 t75:=Tryz.underlying120
 a75:=Tryz.isAgg120
 z75:=Tryz.sizeOf120
 v75:=Tryz.zeroValue120
 t76:=Tryz.underlying121
 a76:=Tryz.isAgg121
 z76:=Tryz.sizeOf121
 v76:=Tryz.zeroValue121
 t127:=Tryz.underlying159
 a127:=Tryz.isAgg159
 z127:=Tryz.sizeOf159
 v127:=Tryz.zeroValue159
 t164:=Tryz.underlying195
 a164:=Tryz.isAgg195
 z164:=Tryz.sizeOf195
 v164:=Tryz.zeroValue195}
theorem Tryz.Builder_Extra_156 :Builder.Extra prog Tryz.lays156_ren:={
 sizeBuilder:=by kernel_rfl
 liesBuilder:=by kernel_rfl
 t5:=Tryz.underlying5
 a5:=Tryz.isAgg5
 z5:=Tryz.sizeOf5
 v5:=Tryz.zeroValue5
 infoByte:=by kernel_rfl
 cellsByte:=by kernel_rfl
 sizeByte:=by kernel_rfl
 neB5:=by decide}
def Tryz.lays219_ren :Go.Shelf.Ren:=⟨fun | 219=>99 | 217=>133 | 225=>134 | 224=>135 | 267=>136 | 266=>151 | 314=>152 | n=>n,fun | 9=>9 | 3=>3 | 4=>4 | 5=>5 | 46=>199 | 146=>215 | 51=>214 | n=>n,fun | 1=>0 | n=>n⟩
theorem Tryz.lays219 :Go.Proofs.Lays.n219 prog Tryz.lays219_ren:={
 mixed:=by kernel_rfl
 f217:=Tryz.func133.trans (congrArg some (by kernel_rfl))
 f219:=Tryz.func99.trans (congrArg some (by kernel_rfl))
 f224:=Tryz.func135.trans (congrArg some (by kernel_rfl))
 f225:=Tryz.func134.trans (congrArg some (by kernel_rfl))
 f266:=Tryz.func151.trans (congrArg some (by kernel_rfl))
 f267:=Tryz.func136.trans (congrArg some (by kernel_rfl))
 f314:=Tryz.func152.trans (congrArg some (by kernel_rfl))
 t3:=Tryz.underlying3
 a3:=Tryz.isAgg3
 z3:=Tryz.sizeOf3
 v3:=Tryz.zeroValue3
 t4:=Tryz.underlying4
 a4:=Tryz.isAgg4
 z4:=Tryz.sizeOf4
 v4:=Tryz.zeroValue4
 t5:=Tryz.underlying5
 a5:=Tryz.isAgg5
 z5:=Tryz.sizeOf5
 v5:=Tryz.zeroValue5
 t9:=Tryz.underlying9
 a9:=Tryz.isAgg9
 z9:=Tryz.sizeOf9
 v9:=Tryz.zeroValue9
 t46:=Tryz.underlying199
 a46:=Tryz.isAgg199
 z46:=Tryz.sizeOf199
 v46:=Tryz.zeroValue199
 t51:=Tryz.underlying214
 a51:=Tryz.isAgg214
 z51:=Tryz.sizeOf214
 v51:=Tryz.zeroValue214
 t146:=Tryz.underlying215
 a146:=Tryz.isAgg215
 z146:=Tryz.sizeOf215
 v146:=Tryz.zeroValue215
 g1:=by kernel_rfl}
def Tryz.lays138_ren :Go.Shelf.Ren:=⟨fun | 138=>43 | 195=>72 | 218=>73 | 143=>74 | 219=>99 | 217=>133 | 225=>134 | 224=>135 | 267=>136 | 266=>151 | 314=>152 | n=>n,fun | 9=>9 | 3=>3 | 4=>4 | 5=>5 | 0=>0 | 46=>199 | 146=>215 | 51=>214 | n=>n,fun | 1=>0 | n=>n⟩
theorem Tryz.lays138 :Go.Proofs.Lays.n138 prog Tryz.lays138_ren:={
 mixed:=by kernel_rfl
 f138:=Tryz.func43.trans (congrArg some (by kernel_rfl))
 f143:=Tryz.func74.trans (congrArg some (by kernel_rfl))
 f195:=Tryz.func72.trans (congrArg some (by kernel_rfl))
 f217:=Tryz.func133.trans (congrArg some (by kernel_rfl))
 f218:=Tryz.func73.trans (congrArg some (by kernel_rfl))
 f219:=Tryz.func99.trans (congrArg some (by kernel_rfl))
 f224:=Tryz.func135.trans (congrArg some (by kernel_rfl))
 f225:=Tryz.func134.trans (congrArg some (by kernel_rfl))
 f266:=Tryz.func151.trans (congrArg some (by kernel_rfl))
 f267:=Tryz.func136.trans (congrArg some (by kernel_rfl))
 f314:=Tryz.func152.trans (congrArg some (by kernel_rfl))
 t0:=Tryz.underlying0
 a0:=Tryz.isAgg0
 z0:=Tryz.sizeOf0
 v0:=Tryz.zeroValue0
 t3:=Tryz.underlying3
 a3:=Tryz.isAgg3
 z3:=Tryz.sizeOf3
 v3:=Tryz.zeroValue3
 t4:=Tryz.underlying4
 a4:=Tryz.isAgg4
 z4:=Tryz.sizeOf4
 v4:=Tryz.zeroValue4
 t5:=Tryz.underlying5
 a5:=Tryz.isAgg5
 z5:=Tryz.sizeOf5
 v5:=Tryz.zeroValue5
 t9:=Tryz.underlying9
 a9:=Tryz.isAgg9
 z9:=Tryz.sizeOf9
 v9:=Tryz.zeroValue9
 t46:=Tryz.underlying199
 a46:=Tryz.isAgg199
 z46:=Tryz.sizeOf199
 v46:=Tryz.zeroValue199
 t51:=Tryz.underlying214
 a51:=Tryz.isAgg214
 z51:=Tryz.sizeOf214
 v51:=Tryz.zeroValue214
 t146:=Tryz.underlying215
 a146:=Tryz.isAgg215
 z146:=Tryz.sizeOf215
 v146:=Tryz.zeroValue215
 g1:=by kernel_rfl}
def Tryz.lays189_ren :Go.Shelf.Ren:=⟨fun | 189=>109 | 125=>141 | 257=>140 | 128=>162 | 129=>163 | 294=>153 | 295=>154 | 296=>155 | 297=>156 | 298=>157 | 299=>158 | 216=>159 | 300=>160 | 301=>161 | 328=>173 | 329=>174 | 330=>175 | 331=>176 | 332=>177 | 215=>178 | 343=>184 | n=>n,fun | 28=>93 | 3=>3 | 46=>199 | 0=>0 | 51=>214 | 53=>228 | 4=>4 | 183=>219 | 182=>218 | 131=>224 | 5=>5 | 9=>9 | 218=>237 | 222=>241 | 228=>250 | 229=>31 | n=>n,fun | n=>n⟩
theorem Tryz.lays189 :Go.Proofs.Lays.n189 prog Tryz.lays189_ren:={
 mixed:=by kernel_rfl
 f125:=Tryz.func141.trans (congrArg some (by kernel_rfl))
 f128:=Tryz.func162.trans (congrArg some (by kernel_rfl))
 f129:=Tryz.func163.trans (congrArg some (by kernel_rfl))
 f189:=Tryz.func109.trans (congrArg some (by kernel_rfl))
 f215:=Tryz.func178.trans (congrArg some (by kernel_rfl))
 f216:=Tryz.func159.trans (congrArg some (by kernel_rfl))
 f257:=Tryz.func140.trans (congrArg some (by kernel_rfl))
 f294:=Tryz.func153.trans (congrArg some (by kernel_rfl))
 f295:=Tryz.func154.trans (congrArg some (by kernel_rfl))
 f296:=Tryz.func155.trans (congrArg some (by kernel_rfl))
 f297:=Tryz.func156.trans (congrArg some (by kernel_rfl))
 f298:=Tryz.func157.trans (congrArg some (by kernel_rfl))
 f299:=Tryz.func158.trans (congrArg some (by kernel_rfl))
 f300:=Tryz.func160.trans (congrArg some (by kernel_rfl))
 f301:=Tryz.func161.trans (congrArg some (by kernel_rfl))
 f328:=Tryz.func173.trans (congrArg some (by kernel_rfl))
 f329:=Tryz.func174.trans (congrArg some (by kernel_rfl))
 f330:=Tryz.func175.trans (congrArg some (by kernel_rfl))
 f331:=Tryz.func176.trans (congrArg some (by kernel_rfl))
 f332:=Tryz.func177.trans (congrArg some (by kernel_rfl))
 f343:=Tryz.func184.trans (congrArg some (by kernel_rfl))
 t0:=Tryz.underlying0
 a0:=Tryz.isAgg0
 z0:=Tryz.sizeOf0
 v0:=Tryz.zeroValue0
 t3:=Tryz.underlying3
 a3:=Tryz.isAgg3
 z3:=Tryz.sizeOf3
 v3:=Tryz.zeroValue3
 t4:=Tryz.underlying4
 a4:=Tryz.isAgg4
 z4:=Tryz.sizeOf4
 v4:=Tryz.zeroValue4
 t5:=Tryz.underlying5
 a5:=Tryz.isAgg5
 z5:=Tryz.sizeOf5
 v5:=Tryz.zeroValue5
 t9:=Tryz.underlying9
 a9:=Tryz.isAgg9
 z9:=Tryz.sizeOf9
 v9:=Tryz.zeroValue9
 t28:=Tryz.underlying93
 a28:=Tryz.isAgg93
 z28:=Tryz.sizeOf93
 v28:=Tryz.zeroValue93
 t46:=Tryz.underlying199
 a46:=Tryz.isAgg199
 z46:=Tryz.sizeOf199
 v46:=Tryz.zeroValue199
 t51:=Tryz.underlying214
 a51:=Tryz.isAgg214
 z51:=Tryz.sizeOf214
 v51:=Tryz.zeroValue214
 t53:=Tryz.underlying228
 a53:=Tryz.isAgg228
 z53:=Tryz.sizeOf228
 v53:=Tryz.zeroValue228
 t131:=Tryz.underlying224
 a131:=Tryz.isAgg224
 z131:=Tryz.sizeOf224
 v131:=Tryz.zeroValue224
 t182:=Tryz.underlying218
 a182:=Tryz.isAgg218
 z182:=Tryz.sizeOf218
 v182:=Tryz.zeroValue218
 t183:=Tryz.underlying219
 a183:=Tryz.isAgg219
 z183:=Tryz.sizeOf219
 v183:=Tryz.zeroValue219
 t218:=Tryz.underlying237
 a218:=Tryz.isAgg237
 z218:=Tryz.sizeOf237
 v218:=Tryz.zeroValue237
 t222:=Tryz.underlying241
 a222:=Tryz.isAgg241
 z222:=Tryz.sizeOf241
 v222:=Tryz.zeroValue241
 t228:=Tryz.underlying250
 a228:=Tryz.isAgg250
 z228:=Tryz.sizeOf250
 v228:=Tryz.zeroValue250
 t229:=Tryz.underlying31
 a229:=Tryz.isAgg31
 z229:=Tryz.sizeOf31
 v229:=Tryz.zeroValue31}
open Go.Sort Go.RowKit in
theorem Tryz.slices_Sort_int (blk off cap:Nat) (zs:List Int) (w:World) (hH:Holds (Value.int .i64) w blk off zs.toArray) (eA:blk<w.heap.size) (hsz:zs.length<4611686018427387904):
  Calls prog 109 #[.slice (some ⟨blk,off,none⟩) zs.length cap] w fun e w'=>
   e=.returned (.tuple #[])∧ ∃n os,w'=grow (putRow (Value.int .i64) (Sort.ahead w n) blk off (zs.mergeSort fun x y=>decide (x≤y)).toArray) os:=Any.slices_Sort_int Tryz.lays189 blk off cap zs w hH eA hsz
def Tryz.laysNm220_ren :Go.Shelf.Ren:=⟨fun | 20=>110 | n=>n,fun | 22=>93 | 3=>3 | 4=>4 | 0=>0 | n=>n,fun | n=>n⟩
theorem Tryz.laysNm220 :Go.Proofs.Lays2.n20 prog Tryz.laysNm220_ren:={
 mixed:=by kernel_rfl
 f20:=Tryz.func110.trans (congrArg some (by kernel_rfl))
 t0:=Tryz.underlying0
 a0:=Tryz.isAgg0
 z0:=Tryz.sizeOf0
 v0:=Tryz.zeroValue0
 t3:=Tryz.underlying3
 a3:=Tryz.isAgg3
 z3:=Tryz.sizeOf3
 v3:=Tryz.zeroValue3
 t4:=Tryz.underlying4
 a4:=Tryz.isAgg4
 z4:=Tryz.sizeOf4
 v4:=Tryz.zeroValue4
 t22:=Tryz.underlying93
 a22:=Tryz.isAgg93
 z22:=Tryz.sizeOf93
 v22:=Tryz.zeroValue93
 i3:=by kernel_rfl}
open Go.RowKit Go.Lib Go.Sort in
theorem Tryz.slices_Compact_int (blk off cap:Nat) (zs:List Int) (w:World) (hH:Holds (Value.int .i64) w blk off zs.toArray) (hsz:zs.length≤9223372036854775807) (dD:zs.length≤cap):
  Calls prog 110 #[.slice (some ⟨blk,off,none⟩) zs.length cap] w fun e w'=>e=.returned (.slice (some ⟨blk,off,none⟩) (Lib.compact zs).length cap)∧ ∃q,w'=putRow (Value.int .i64) (Sort.ahead w q) blk off (Lib.compact zs++List.replicate (zs.length - (Lib.compact zs).length) 0).toArray :=Any.slices_Compact_int Tryz.laysNm220 blk off cap zs w hH hsz dD
open Go.RowKit Go.Lib Go.Sort in
theorem Tryz.slices_Compact_int_empty (a:Option Addr) (cap:Nat) (w:World):
  Calls prog 110 #[.slice a 0 cap] w fun e w'=>e=.returned (.slice a 0 cap)∧w'=w:=Any.slices_Compact_int_empty Tryz.laysNm220 a cap w
open Go.RowKit Go.Sort in
theorem Tryz.slices_Sort_int_none (p:Option Addr) (cap:Nat) (w:World):
  Calls prog 109 #[.slice p 0 cap] w fun e w'=>e=.returned (.tuple #[])∧w'=w:=Any.slices_Sort_int_none Tryz.lays189 p cap w
def Tryz.sortEnd_ren :Go.Shelf.Ren:=⟨fun | 6=>181 | 15=>141 | 14=>185 | 28=>162 | 29=>163 | 20=>187 | 21=>188 | 22=>189 | 23=>190 | 24=>191 | 25=>192 | 26=>193 | 27=>194 | 46=>195 | 47=>174 | 48=>175 | 49=>196 | 50=>197 | 57=>198 | n=>n,fun | 22=>245 | 24=>236 | 25=>247 | 3=>3 | 39=>199 | 0=>0 | 53=>214 | 55=>228 | 4=>4 | 46=>219 | 45=>218 | 50=>224 | 5=>5 | 9=>9 | 66=>237 | 70=>241 | 76=>250 | 77=>31 | n=>n,fun | n=>n⟩
theorem Tryz.sortEnd :Go.Proofs.SlLaysF0.n6 prog Tryz.sortEnd_ren:={
 mixed:=by kernel_rfl
 f6:=⟨Tryz.f181.name,by decide,Tryz.func181.trans (congrArg some (by kernel_rfl))⟩
 f14:=⟨Tryz.f185.name,by decide,Tryz.func185.trans (congrArg some (by kernel_rfl))⟩
 f15:=Tryz.func141.trans (congrArg some (by kernel_rfl))
 f20:=⟨Tryz.f187.name,by decide,Tryz.func187.trans (congrArg some (by kernel_rfl))⟩
 f21:=⟨Tryz.f188.name,by decide,Tryz.func188.trans (congrArg some (by kernel_rfl))⟩
 f22:=⟨Tryz.f189.name,by decide,Tryz.func189.trans (congrArg some (by kernel_rfl))⟩
 f23:=⟨Tryz.f190.name,by decide,Tryz.func190.trans (congrArg some (by kernel_rfl))⟩
 f24:=⟨Tryz.f191.name,by decide,Tryz.func191.trans (congrArg some (by kernel_rfl))⟩
 f25:=⟨Tryz.f192.name,by decide,Tryz.func192.trans (congrArg some (by kernel_rfl))⟩
 f26:=⟨Tryz.f193.name,by decide,Tryz.func193.trans (congrArg some (by kernel_rfl))⟩
 f27:=⟨Tryz.f194.name,by decide,Tryz.func194.trans (congrArg some (by kernel_rfl))⟩
 f28:=Tryz.func162.trans (congrArg some (by kernel_rfl))
 f29:=Tryz.func163.trans (congrArg some (by kernel_rfl))
 f46:=⟨Tryz.f195.name,by decide,Tryz.func195.trans (congrArg some (by kernel_rfl))⟩
 f47:=Tryz.func174.trans (congrArg some (by kernel_rfl))
 f48:=Tryz.func175.trans (congrArg some (by kernel_rfl))
 f49:=⟨Tryz.f196.name,by decide,Tryz.func196.trans (congrArg some (by kernel_rfl))⟩
 f50:=⟨Tryz.f197.name,by decide,Tryz.func197.trans (congrArg some (by kernel_rfl))⟩
 f57:=⟨Tryz.f198.name,by decide,Tryz.func198.trans (congrArg some (by kernel_rfl))⟩
 t0:=Tryz.underlying0
 a0:=Tryz.isAgg0
 z0:=Tryz.sizeOf0
 v0:=Tryz.zeroValue0
 t3:=Tryz.underlying3
 a3:=Tryz.isAgg3
 z3:=Tryz.sizeOf3
 v3:=Tryz.zeroValue3
 t4:=Tryz.underlying4
 a4:=Tryz.isAgg4
 z4:=Tryz.sizeOf4
 v4:=Tryz.zeroValue4
 t5:=Tryz.underlying5
 a5:=Tryz.isAgg5
 z5:=Tryz.sizeOf5
 v5:=Tryz.zeroValue5
 t9:=Tryz.underlying9
 a9:=Tryz.isAgg9
 z9:=Tryz.sizeOf9
 v9:=Tryz.zeroValue9
 t22:=Tryz.underlying245
 a22:=Tryz.isAgg245
 z22:=Tryz.sizeOf245
 v22:=Tryz.zeroValue245
 t25:=Tryz.underlying247
 a25:=Tryz.isAgg247
 z25:=Tryz.sizeOf247
 v25:=Tryz.zeroValue247
 t39:=Tryz.underlying199
 a39:=Tryz.isAgg199
 z39:=Tryz.sizeOf199
 v39:=Tryz.zeroValue199
 t45:=Tryz.underlying218
 a45:=Tryz.isAgg218
 z45:=Tryz.sizeOf218
 v45:=Tryz.zeroValue218
 t46:=Tryz.underlying219
 a46:=Tryz.isAgg219
 z46:=Tryz.sizeOf219
 v46:=Tryz.zeroValue219
 t50:=Tryz.underlying224
 a50:=Tryz.isAgg224
 z50:=Tryz.sizeOf224
 v50:=Tryz.zeroValue224
 t53:=Tryz.underlying214
 a53:=Tryz.isAgg214
 z53:=Tryz.sizeOf214
 v53:=Tryz.zeroValue214
 t55:=Tryz.underlying228
 a55:=Tryz.isAgg228
 z55:=Tryz.sizeOf228
 v55:=Tryz.zeroValue228
 t66:=Tryz.underlying237
 a66:=Tryz.isAgg237
 z66:=Tryz.sizeOf237
 v66:=Tryz.zeroValue237
 t70:=Tryz.underlying241
 a70:=Tryz.isAgg241
 z70:=Tryz.sizeOf241
 v70:=Tryz.zeroValue241
 t76:=Tryz.underlying250
 a76:=Tryz.isAgg250
 z76:=Tryz.sizeOf250
 v76:=Tryz.zeroValue250
 t77:=Tryz.underlying31
 a77:=Tryz.isAgg31
 z77:=Tryz.sizeOf31
 v77:=Tryz.zeroValue31}
open Go.RowKit Go.Lib Go.Sort
theorem Tryz.cmpEnd (a b c a' b' c':Int) (h: -1000000000≤a∧a≤1000000000) (h': -1000000000≤a'∧a'≤1000000000) (W:World):
  Calls prog 182 #[.agg #[.int .i64 a,.int .i64 b,.int .i64 c],.agg #[.int .i64 a',.int .i64 b',.int .i64 c']] W fun e w'=>e=.returned (.int .i64 (a - a'))∧ ∃q os',w'=grow (W.drewN q) os':=by
 go_enter Tryz.func182,Tryz.ntmps182
 go_wp2
 go_ret
 exact ⟨rfl,0,_,by rw [alloc_eq_grow,alloc_eq_grow,grow_grow];rfl⟩
end Go.Proofs
namespace Go.Am
open IntKind (wrap)
open Go.Proofs.Tryz
open Go.Proofs
inductive rjsS where
 | h0 (v9:List R6) (v10:List R4) (v11:Int) (v12:Int)
 | h1 (v9:List R6) (v10:List R4) (v11:Int) (v12:Int) (v13:List R4) (v15:Int)
 | h2 (v9:List R6) (v10:List R4) (v11:Int) (v12:Int) (v14:Int)
def rjsC (x0:Int) (l1:List R6) (l2:List R6):rjsS→Cfg
 | .h0 v9 v10 v11 v12=>⟨⟨137,0,true⟩,none,(Zm prog 57 [1,1,1,1,1,0,1,0,0] 0),none,(Zz prog 39),⟨Yx [(0,(ii x0)),(1,(.dat l1.length (Zy l1))),(2,(.dat l2.length (Zy l2))),(8,(.dat (Yj (cvT l1) (cvT l2)).length (Zy (Yj (cvT l1) (cvT l2))))),(9,(.sla 0 6 0 v9.length (.un 6))),(10,(.dat v10.length (Zy v10))),(11,(ii v11)),(12,(ii v12))],Xj [⟨rows v9.length (Zy v9),76,some ⟨6,v9.length,(Zy v9)⟩⟩] 0,1,[],true⟩,[],.leaf⟩
 | .h1 v9 v10 v11 v12 v13 v15=>⟨⟨137,0,true⟩,none,(Zm prog 57 [1,1,1,1,1,0,1,0,0,1,0,0,1,1,1,1,1,0,0] 0),none,(Zz prog 39),⟨Yx [(0,(ii x0)),(1,(.dat l1.length (Zy l1))),(2,(.dat l2.length (Zy l2))),(8,(.dat (Yj (cvT l1) (cvT l2)).length (Zy (Yj (cvT l1) (cvT l2))))),(9,(.sla 0 6 0 v9.length (.un 6))),(10,(.dat v10.length (Zy v10))),(11,(ii v11)),(12,(ii v12)),(13,(.dat v13.length (Zy v13))),(15,(ii v15))],Xj [⟨rows v9.length (Zy v9),76,some ⟨6,v9.length,(Zy v9)⟩⟩] 0,1,[],true⟩,[],.leaf⟩
 | .h2 v9 v10 v11 v12 v14=>⟨⟨137,0,true⟩,none,(Zm prog 57 [1,1,1,1,1,0,1,0,0,1,0,0,1,1,0,1,0,0,1,0,0] 0),none,(Zz prog 39),⟨Yx [(0,(ii x0)),(1,(.dat l1.length (Zy l1))),(2,(.dat l2.length (Zy l2))),(8,(.dat (Yj (cvT l1) (cvT l2)).length (Zy (Yj (cvT l1) (cvT l2))))),(9,(.sla 0 6 0 v9.length (.un 6))),(10,(.dat v10.length (Zy v10))),(11,(ii v11)),(12,(ii v12)),(14,(ii v14))],Xj [⟨rows v9.length (Zy v9),76,some ⟨6,v9.length,(Zy v9)⟩⟩] 0,1,[],true⟩,[],.leaf⟩
def v7p :List (Option (List Nat)):=[some [0,1,2,8,9,10,11,12]]
def v7r :List (Option (List Nat)):=[]
def v7o :List (Option (List Nat)):=[some [0,1,2,8,9,10,11,12,13,15]]
def v7q :List (Option (List Nat)):=[]
def rjsN2 :List (Option (List Nat)):=[some [0,1,2,8,9,10,11,12,14]]
def rjsM2 :List (Option (List Nat)):=[]
def Wm (x0:Int) (l1:List R6) (l2:List R6):rjsS→Ya rjsS
 | .h0 v9 v10 v11 v12=>(bif (decide ((wrap .i64 (v12+1))<(((Yj (cvT l1) (cvT l2)).length :Nat):Int))) then (bif (z1z (cvT l1) (rd (Yj (cvT l1) (cvT l2)) v12.toNat)) then (bif ((decide (0≤v12∧v12<(((Yj (cvT l1) (cvT l2)).length :Nat):Int)))&&true) then (bif (z1z (cvT l2) (rd (Yj (cvT l1) (cvT l2)) v12.toNat)) then (bif (Kk x0 (cvT (atV (cvT l1) (rd (Yj (cvT l1) (cvT l2)) v12.toNat))) (cvT (atV (cvT l2) (rd (Yj (cvT l1) (cvT l2)) v12.toNat)))) then (bif (decide ((((joV x0 (cvT (atV (cvT l1) (rd (Yj (cvT l1) (cvT l2)) v12.toNat))) (cvT (atV (cvT l2) (rd (Yj (cvT l1) (cvT l2)) v12.toNat)))).length :Nat):Int)>400)) then (.ret [.nils,(.bool false)]) else (bif (Kk 2 (cvT (atV (cvT l1) (rd (Yj (cvT l1) (cvT l2)) v12.toNat))) ([]:List R4)) then (bif (decide ((((joV 2 (cvT (atV (cvT l1) (rd (Yj (cvT l1) (cvT l2)) v12.toNat))) ([]:List R4)).length :Nat):Int)>400)) then (.ret [.nils,(.bool false)]) else (bif (Kk 2 (cvT (atV (cvT l2) (rd (Yj (cvT l1) (cvT l2)) v12.toNat))) ([]:List R4)) then (bif (decide ((((joV 2 (cvT (atV (cvT l2) (rd (Yj (cvT l1) (cvT l2)) v12.toNat))) ([]:List R4)).length :Nat):Int)>400)) then (.ret [.nils,(.bool false)]) else (bif (decide (v12>0)) then (bif (Vk (cvT (joV x0 (cvT (atV (cvT l1) (rd (Yj (cvT l1) (cvT l2)) v12.toNat))) (cvT (atV (cvT l2) (rd (Yj (cvT l1) (cvT l2)) v12.toNat))))) (cvT v10)) then (bif (Js (cvT (joV x0 (cvT (atV (cvT l1) (rd (Yj (cvT l1) (cvT l2)) v12.toNat))) (cvT (atV (cvT l2) (rd (Yj (cvT l1) (cvT l2)) v12.toNat))))) (cvT v10)) then (.to (.h2 v9 v10 v11 v12 v11)) else (.to (.h1 v9 (joV x0 (cvT (atV (cvT l1) (rd (Yj (cvT l1) (cvT l2)) v12.toNat))) (cvT (atV (cvT l2) (rd (Yj (cvT l1) (cvT l2)) v12.toNat)))) (v9.length:Int) v12 (joV x0 (cvT (atV (cvT l1) (rd (Yj (cvT l1) (cvT l2)) v12.toNat))) (cvT (atV (cvT l2) (rd (Yj (cvT l1) (cvT l2)) v12.toNat)))) 0))) else .stuck) else (.to (.h1 v9 (joV x0 (cvT (atV (cvT l1) (rd (Yj (cvT l1) (cvT l2)) v12.toNat))) (cvT (atV (cvT l2) (rd (Yj (cvT l1) (cvT l2)) v12.toNat)))) (v9.length:Int) v12 (joV x0 (cvT (atV (cvT l1) (rd (Yj (cvT l1) (cvT l2)) v12.toNat))) (cvT (atV (cvT l2) (rd (Yj (cvT l1) (cvT l2)) v12.toNat)))) 0)))) else .stuck)) else .stuck)) else .stuck) else .stuck) else .stuck) else .stuck) else (.ret [(.dat v9.length (Zy v9)),(.bool (decide ((v9.length:Int)≤400)))]))
 | .h1 v9 v10 v11 v12 v13 v15=>(bif (decide (v15<(v13.length:Int))) then (bif ((decide (0≤v12∧v12<(((Yj (cvT l1) (cvT l2)).length :Nat):Int)))&&true) then (bif ((decide (0≤v15∧v15<(v13.length:Int)))&&true) then (bif ((decide (0≤(wrap .i64 (v12+1))∧(wrap .i64 (v12+1))<(((Yj (cvT l1) (cvT l2)).length :Nat):Int)))&&true) then (bif (Nat.beq 6 6&&((decide (0+v9.length=v9.length))&&decide ((v9.length+1+1)*(48+1)≤Jq))) then (.to (.h1 (v9++[(R6.mk (rd v13 v15.toNat).a (rd v13 v15.toNat).b (rd (Yj (cvT l1) (cvT l2)) v12.toNat) (rd v13 v15.toNat).c (rd v13 v15.toNat).d (rd (Yj (cvT l1) (cvT l2)) (Int.toNat (wrap .i64 (v12+1)))))]) v10 v11 v12 v13 (wrap .i64 (v15+1)))) else .stuck) else .stuck) else .stuck) else .stuck) else (.to (.h0 v9 v10 v11 (wrap .i64 (v12+1)))))
 | .h2 v9 v10 v11 v12 v14=>(bif (decide (v14<(v9.length:Int))) then (bif ((decide (0≤(wrap .i64 (v12+1))∧(wrap .i64 (v12+1))<(((Yj (cvT l1) (cvT l2)).length :Nat):Int)))&&true) then (bif ((decide (0≤v14∧v14<(v9.length:Int)))&&true) then (bif (decide ((0+v14.toNat)<v9.length)) then (.to (.h2 (v9.set (0+v14.toNat) (R6.mk (rd v9 (0+v14.toNat)).a (rd v9 (0+v14.toNat)).b (rd v9 (0+v14.toNat)).c (rd v9 (0+v14.toNat)).d (rd v9 (0+v14.toNat)).e (rd (Yj (cvT l1) (cvT l2)) (Int.toNat (wrap .i64 (v12+1)))))) v10 v11 v12 (wrap .i64 (v14+1)))) else .stuck) else .stuck) else .stuck) else (.to (.h0 v9 v10 v11 (wrap .i64 (v12+1)))))
def z8t (x0:Int) (l1:List R6) (l2:List R6):Ya rjsS:=(bif (z5z (cvT l1) (cvT l2)) then (.to (.h0 ([]:List R6) ([]:List R4) 0 0)) else .stuck)
theorem x9a (x0:Int) (l1:List R6) (l2:List R6): ∀s,Yh prog (Zz prog 57) (rjsC x0 l1 l2) (rjsC x0 l1 l2 s) (Wm x0 l1 l2 s)
 | .h0 v9 v10 v11 v12=>(lb (fun k0=>(lo fun aI=>(lo fun aQ=>(lo fun bQ=>(lo fun cO=>(lb (fun k1=>(lr 137 57 [1,1,1,1,1,0,1,0,0,1,0,0,1,0,1,0,0] 1 39 [(6,.nils),(7,(.bool false))] (sl z7b 50 [] ⟨[],[],[some [6,7]],[]⟩ ⟨[],[],[]⟩ (trs 20 []) (tt k1 (pp (pp (xI R4 (atV (cvT l1) (rd (Yj (cvT l1) (cvT l2)) (tn v12))).length (Zy (atV (cvT l1) (rd (Yj (cvT l1) (cvT l2)) (tn v12))))) (pp (xI R4 (atV (cvT l2) (rd (Yj (cvT l1) (cvT l2)) (tn v12))).length (Zy (atV (cvT l2) (rd (Yj (cvT l1) (cvT l2)) (tn v12))))) (xw cO))) (pp (pp (xr l2) (xw bQ)) (ww aQ (pp (pp (xr l1) (xw aI)) (ww aQ (tt k0 nn)))))))))) (fun k1=>(lo fun bF=>(lb (fun k2=>(lr 137 57 [1,1,1,1,1,0,1,0,0,1,0,0,1,0,1,0,0] 1 39 [(6,.nils),(7,(.bool false))] (sl z7b 50 [] ⟨[],[],[some [6,7]],[]⟩ ⟨[],[],[]⟩ (bl 20 1047553) (tt k2 (pp (pp (xI R4 (atV (cvT l1) (rd (Yj (cvT l1) (cvT l2)) (tn v12))).length (Zy (atV (cvT l1) (rd (Yj (cvT l1) (cvT l2)) (tn v12))))) (pp (xI R4 0 (fun _=>[])) (xw bF))) (pp (pp (xr l1) (xw aI)) (ww aQ (tt k1 (pp (pp (xI R4 (atV (cvT l1) (rd (Yj (cvT l1) (cvT l2)) (tn v12))).length (Zy (atV (cvT l1) (rd (Yj (cvT l1) (cvT l2)) (tn v12))))) (pp (xI R4 (atV (cvT l2) (rd (Yj (cvT l1) (cvT l2)) (tn v12))).length (Zy (atV (cvT l2) (rd (Yj (cvT l1) (cvT l2)) (tn v12))))) (xw cO))) (pp (pp (xr l2) (xw bQ)) (ww aQ (pp (pp (xr l1) (xw aI)) (ww aQ (tt k0 nn)))))))))))))) (fun k2=>(lo fun cC=>(lb (fun k3=>(lr 137 57 [1,1,1,1,1,0,1,0,0,1,0,0,1,0,1,0,0] 1 39 [(6,.nils),(7,(.bool false))] (sl z7b 50 [] ⟨[],[],[some [6,7]],[]⟩ ⟨[],[],[]⟩ (bl 20 524289) (tt k3 (pp (pp (xI R4 (atV (cvT l2) (rd (Yj (cvT l1) (cvT l2)) (tn v12))).length (Zy (atV (cvT l2) (rd (Yj (cvT l1) (cvT l2)) (tn v12))))) (pp (xI R4 0 (fun _=>[])) (xw cC))) (pp (pp (xr l2) (xw bQ)) (ww aQ (tt k2 (pp (pp (xI R4 (atV (cvT l1) (rd (Yj (cvT l1) (cvT l2)) (tn v12))).length (Zy (atV (cvT l1) (rd (Yj (cvT l1) (cvT l2)) (tn v12))))) (pp (xI R4 0 (fun _=>[])) (xw bF))) (pp (pp (xr l1) (xw aI)) (ww aQ (tt k1 (pp (pp (xI R4 (atV (cvT l1) (rd (Yj (cvT l1) (cvT l2)) (tn v12))).length (Zy (atV (cvT l1) (rd (Yj (cvT l1) (cvT l2)) (tn v12))))) (pp (xI R4 (atV (cvT l2) (rd (Yj (cvT l1) (cvT l2)) (tn v12))).length (Zy (atV (cvT l2) (rd (Yj (cvT l1) (cvT l2)) (tn v12))))) (xw cO))) (pp (pp (xr l2) (xw bQ)) (ww aQ (pp (pp (xr l1) (xw aI)) (ww aQ (tt k0 nn)))))))))))))))))) (fun k3=>(lb (fun k4=>(lo fun cH=>(lb (fun k5=>(sl z7b 66 [] ⟨[0],[],rjsN2,rjsM2⟩ ⟨[],[],[]⟩ (bl 24 15728641) (pp (fl v9 nn) (tt k5 (pp (pp (xI R4 (joV x0 (cvT (atV (cvT l1) (rd (Yj (cvT l1) (cvT l2)) (tn v12)))) (cvT (atV (cvT l2) (rd (Yj (cvT l1) (cvT l2)) (tn v12))))).length (Zy (joV x0 (cvT (atV (cvT l1) (rd (Yj (cvT l1) (cvT l2)) (tn v12)))) (cvT (atV (cvT l2) (rd (Yj (cvT l1) (cvT l2)) (tn v12))))))) (pp (xr v10) (xw cH))) (tt k4 (tt k3 (pp (pp (xI R4 (atV (cvT l2) (rd (Yj (cvT l1) (cvT l2)) (tn v12))).length (Zy (atV (cvT l2) (rd (Yj (cvT l1) (cvT l2)) (tn v12))))) (pp (xI R4 0 (fun _=>[])) (xw cC))) (pp (pp (xr l2) (xw bQ)) (ww aQ (tt k2 (pp (pp (xI R4 (atV (cvT l1) (rd (Yj (cvT l1) (cvT l2)) (tn v12))).length (Zy (atV (cvT l1) (rd (Yj (cvT l1) (cvT l2)) (tn v12))))) (pp (xI R4 0 (fun _=>[])) (xw bF))) (pp (pp (xr l1) (xw aI)) (ww aQ (tt k1 (pp (pp (xI R4 (atV (cvT l1) (rd (Yj (cvT l1) (cvT l2)) (tn v12))).length (Zy (atV (cvT l1) (rd (Yj (cvT l1) (cvT l2)) (tn v12))))) (pp (xI R4 (atV (cvT l2) (rd (Yj (cvT l1) (cvT l2)) (tn v12))).length (Zy (atV (cvT l2) (rd (Yj (cvT l1) (cvT l2)) (tn v12))))) (xw cO))) (pp (pp (xr l2) (xw bQ)) (ww aQ (pp (pp (xr l1) (xw aI)) (ww aQ (tt k0 nn))))))))))))))))))))) (fun k5=>(sl z7b 73 [] ⟨[0],[],v7o,v7q⟩ ⟨[],[],[]⟩ (bl 24 7340033) (pp (fl v9 nn) (tt k5 (pp (pp (xI R4 (joV x0 (cvT (atV (cvT l1) (rd (Yj (cvT l1) (cvT l2)) (tn v12)))) (cvT (atV (cvT l2) (rd (Yj (cvT l1) (cvT l2)) (tn v12))))).length (Zy (joV x0 (cvT (atV (cvT l1) (rd (Yj (cvT l1) (cvT l2)) (tn v12)))) (cvT (atV (cvT l2) (rd (Yj (cvT l1) (cvT l2)) (tn v12))))))) (pp (xr v10) (xw cH))) (tt k4 (tt k3 (pp (pp (xI R4 (atV (cvT l2) (rd (Yj (cvT l1) (cvT l2)) (tn v12))).length (Zy (atV (cvT l2) (rd (Yj (cvT l1) (cvT l2)) (tn v12))))) (pp (xI R4 0 (fun _=>[])) (xw cC))) (pp (pp (xr l2) (xw bQ)) (ww aQ (tt k2 (pp (pp (xI R4 (atV (cvT l1) (rd (Yj (cvT l1) (cvT l2)) (tn v12))).length (Zy (atV (cvT l1) (rd (Yj (cvT l1) (cvT l2)) (tn v12))))) (pp (xI R4 0 (fun _=>[])) (xw bF))) (pp (pp (xr l1) (xw aI)) (ww aQ (tt k1 (pp (pp (xI R4 (atV (cvT l1) (rd (Yj (cvT l1) (cvT l2)) (tn v12))).length (Zy (atV (cvT l1) (rd (Yj (cvT l1) (cvT l2)) (tn v12))))) (pp (xI R4 (atV (cvT l2) (rd (Yj (cvT l1) (cvT l2)) (tn v12))).length (Zy (atV (cvT l2) (rd (Yj (cvT l1) (cvT l2)) (tn v12))))) (xw cO))) (pp (pp (xr l2) (xw bQ)) (ww aQ (pp (pp (xr l1) (xw aI)) (ww aQ (tt k0 nn)))))))))))))))))))))))) (fun k4=>(sl z7b 73 [] ⟨[0],[],v7o,v7q⟩ ⟨[],[],[]⟩ (bl 24 1) (pp (fl v9 nn) (tt k4 (tt k3 (pp (pp (xI R4 (atV (cvT l2) (rd (Yj (cvT l1) (cvT l2)) (tn v12))).length (Zy (atV (cvT l2) (rd (Yj (cvT l1) (cvT l2)) (tn v12))))) (pp (xI R4 0 (fun _=>[])) (xw cC))) (pp (pp (xr l2) (xw bQ)) (ww aQ (tt k2 (pp (pp (xI R4 (atV (cvT l1) (rd (Yj (cvT l1) (cvT l2)) (tn v12))).length (Zy (atV (cvT l1) (rd (Yj (cvT l1) (cvT l2)) (tn v12))))) (pp (xI R4 0 (fun _=>[])) (xw bF))) (pp (pp (xr l1) (xw aI)) (ww aQ (tt k1 (pp (pp (xI R4 (atV (cvT l1) (rd (Yj (cvT l1) (cvT l2)) (tn v12))).length (Zy (atV (cvT l1) (rd (Yj (cvT l1) (cvT l2)) (tn v12))))) (pp (xI R4 (atV (cvT l2) (rd (Yj (cvT l1) (cvT l2)) (tn v12))).length (Zy (atV (cvT l2) (rd (Yj (cvT l1) (cvT l2)) (tn v12))))) (xw cO))) (pp (pp (xr l2) (xw bQ)) (ww aQ (pp (pp (xr l1) (xw aI)) (ww aQ (tt k0 nn))))))))))))))))))))))))))))))))) (fun k0=>(lr 137 3 [1,1,1,1,1,1,1,1,0] 1 39 [(6,(.dat v9.length (Zy v9))),(7,(.bool (decide ((v9.length:Int)≤400))))] (sl z7b 20 [] ⟨[],[0],[some [6,7]],[]⟩ ⟨[(6,.frz v9.length v9.length (Zy v9) (Zy v9))],[],[]⟩ [false] (pp (xZ (y5s 6 6 0 v9.length v9.length (Zy v9)) v9.length (Zy v9)) (pp (xL v9.length v9.length) (pp (xS v9.length (Zy v9) (Zy v9)) (pp (fl v9 nn) (tt k0 nn)))))))))
 | .h1 v9 v10 v11 v12 v13 v15=>(lb (fun k0=>(lo fun o0=>(lo fun o1=>(lo fun o2=>(lo fun o3=>(sl z7b 20 [] ⟨[2],[],v7o,v7q⟩ ⟨[(9,.len (v9++[(R6.mk (rd v13 (tn v15)).a (rd v13 (tn v15)).b (rd (Yj (cvT l1) (cvT l2)) (tn v12)) (rd v13 (tn v15)).c (rd v13 (tn v15)).d (rd (Yj (cvT l1) (cvT l2)) (tn (wr (v12+1)))))]).length)],[.rowed 6 (v9++[(R6.mk (rd v13 (tn v15)).a (rd v13 (tn v15)).b (rd (Yj (cvT l1) (cvT l2)) (tn v12)) (rd v13 (tn v15)).c (rd v13 (tn v15)).d (rd (Yj (cvT l1) (cvT l2)) (tn (wr (v12+1)))))]).length (Zy (v9++[(R6.mk (rd v13 (tn v15)).a (rd v13 (tn v15)).b (rd (Yj (cvT l1) (cvT l2)) (tn v12)) (rd v13 (tn v15)).c (rd v13 (tn v15)).d (rd (Yj (cvT l1) (cvT l2)) (tn (wr (v12+1)))))]))],[]⟩ [true] (pp (xL (v9.length+1) (v9++[(R6.mk (rd v13 (tn v15)).a (rd v13 (tn v15)).b (rd (Yj (cvT l1) (cvT l2)) (tn v12)) (rd v13 (tn v15)).c (rd v13 (tn v15)).d (rd (Yj (cvT l1) (cvT l2)) (tn (wr (v12+1)))))]).length) (pp (xL (v9.length+1) (v9++[(R6.mk (rd v13 (tn v15)).a (rd v13 (tn v15)).b (rd (Yj (cvT l1) (cvT l2)) (tn v12)) (rd v13 (tn v15)).c (rd v13 (tn v15)).d (rd (Yj (cvT l1) (cvT l2)) (tn (wr (v12+1)))))]).length) (pp (xS (v9.length+1) (Ze (Zy v9) 0 v9.length 6 [(ii (rd v13 (tn v15)).a),(ii (rd v13 (tn v15)).b),(ii (rd (Yj (cvT l1) (cvT l2)) (tn v12))),(ii (rd v13 (tn v15)).c),(ii (rd v13 (tn v15)).d),(ii (rd (Yj (cvT l1) (cvT l2)) (tn (wr (v12+1)))))]) (Zy (v9++[(R6.mk (rd v13 (tn v15)).a (rd v13 (tn v15)).b (rd (Yj (cvT l1) (cvT l2)) (tn v12)) (rd v13 (tn v15)).c (rd v13 (tn v15)).d (rd (Yj (cvT l1) (cvT l2)) (tn (wr (v12+1)))))]))) (pp (pp (xF (Ze (Zy v9) 0 v9.length 6 [(ii (rd v13 (tn v15)).a),(ii (rd v13 (tn v15)).b),(ii (rd (Yj (cvT l1) (cvT l2)) (tn v12))),(ii (rd v13 (tn v15)).c),(ii (rd v13 (tn v15)).d),(ii (rd (Yj (cvT l1) (cvT l2)) (tn (wr (v12+1)))))])) nn) (ww o3 (ww o2 (ww o1 (ww o1 (ww o0 (ww o1 (ww o1 (tt k0 nn)))))))))))))))))) (fun k0=>(sl z7b 17 [] ⟨[0],[],v7p,v7r⟩ ⟨[],[],[]⟩ [false] (pp (fl v9 nn) (tt k0 nn)))))
 | .h2 v9 v10 v11 v12 v14=>(lb (fun k0=>(lo fun o0=>(lo fun o1=>(lo fun o2=>(sl z7b 32 [] ⟨[0],[],rjsN2,rjsM2⟩ ⟨[(9,.len (v9.set (0+(tn v14)) (R6.mk (rd v9 (0+(tn v14))).a (rd v9 (0+(tn v14))).b (rd v9 (0+(tn v14))).c (rd v9 (0+(tn v14))).d (rd v9 (0+(tn v14))).e (rd (Yj (cvT l1) (cvT l2)) (tn (wr (v12+1)))))).length)],[.rowed 6 (v9.set (0+(tn v14)) (R6.mk (rd v9 (0+(tn v14))).a (rd v9 (0+(tn v14))).b (rd v9 (0+(tn v14))).c (rd v9 (0+(tn v14))).d (rd v9 (0+(tn v14))).e (rd (Yj (cvT l1) (cvT l2)) (tn (wr (v12+1)))))).length (Zy (v9.set (0+(tn v14)) (R6.mk (rd v9 (0+(tn v14))).a (rd v9 (0+(tn v14))).b (rd v9 (0+(tn v14))).c (rd v9 (0+(tn v14))).d (rd v9 (0+(tn v14))).e (rd (Yj (cvT l1) (cvT l2)) (tn (wr (v12+1)))))))],[]⟩ [true] (pp (xL v9.length (v9.set (0+(tn v14)) (R6.mk (rd v9 (0+(tn v14))).a (rd v9 (0+(tn v14))).b (rd v9 (0+(tn v14))).c (rd v9 (0+(tn v14))).d (rd v9 (0+(tn v14))).e (rd (Yj (cvT l1) (cvT l2)) (tn (wr (v12+1)))))).length) (pp (xL v9.length (v9.set (0+(tn v14)) (R6.mk (rd v9 (0+(tn v14))).a (rd v9 (0+(tn v14))).b (rd v9 (0+(tn v14))).c (rd v9 (0+(tn v14))).d (rd v9 (0+(tn v14))).e (rd (Yj (cvT l1) (cvT l2)) (tn (wr (v12+1)))))).length) (pp (xS v9.length (Xp (Zy v9) (0+(tn v14)) 5 [(ii (rd (Yj (cvT l1) (cvT l2)) (tn (wr (v12+1)))))]) (Zy (v9.set (0+(tn v14)) (R6.mk (rd v9 (0+(tn v14))).a (rd v9 (0+(tn v14))).b (rd v9 (0+(tn v14))).c (rd v9 (0+(tn v14))).d (rd v9 (0+(tn v14))).e (rd (Yj (cvT l1) (cvT l2)) (tn (wr (v12+1)))))))) (pp (pp (xF (Xp (Zy v9) (0+(tn v14)) 5 [(ii (rd (Yj (cvT l1) (cvT l2)) (tn (wr (v12+1)))))])) nn) (ww o2 (ww o1 (ww o0 (tt k0 nn))))))))))))) (fun k0=>(sl z7b 17 [] ⟨[0],[],v7p,v7r⟩ ⟨[],[],[]⟩ [false] (pp (fl v9 nn) (tt k0 nn)))))
theorem x1m (x0:Int) (l1:List R6) (l2:List R6):Yh prog (Zz prog 57) (rjsC x0 l1 l2) (Zj prog 57 [(.int .i64 x0),(.dat l1.length (Zy l1)),(.dat l2.length (Zy l2))] true []) (z8t x0 l1 l2):=(lo fun o0=>(sl z7b 31 [(76,6,Zy ([]:List R6))] ⟨[0],[],v7p,v7r⟩ ⟨[(9,.grow 0 6),(10,.list 0 (Zy ([]:List R4)))],[],[]⟩ [] (pp (fl ([]:List R6) nn) (pp (pp (xr l1) (pp (xr l2) (xw o0))) nn))))
theorem w8r (x0:Int) (l1:List R6) (l2:List R6) (n:Nat) (vs:List AVal) (h:Zo (Wm x0 l1 l2) n (z8t x0 l1 l2)=.ret vs):Ws prog (Zz prog 57) (Zj prog 57 [(.int .i64 x0),(.dat l1.length (Zy l1)),(.dat l2.length (Zy l2))] true []) vs:=by have:=Zk (x9a x0 l1 l2) n _ (x1m x0 l1 l2);rwa [h] at this
theorem Uu (l m:List R6):(Yj l m).length ≤2*l.length+2*m.length:=by
 refine AG (z2p _) ?_
 grind [z0s]
theorem z2a (l:List R6) (z:Int):(atV l z).length ≤l.length:=by
 grind [atV]
def w7e (out:List R6) (first:Nat) (z:Int):List R6:=out.take first++(out.drop first).map fun r=>⟨r.a,r.b,r.c,r.d,r.e,z⟩
def v8m (z z':Int) (s:List R4):List R6:=s.map fun p=>⟨p.a,p.b,z,p.c,p.d,z'⟩
section
variable (kind:Int) (l m:List R6)
def y7g (z:Int):List R4:=joV kind (atV l z) (atV m z)
def z7w (z:Int):Bool:=decide (400<(y7g kind l m z).length)||(decide (400<(joV 2 (atV l z) []).length)||decide (400<(joV 2 (atV m z) []).length))
def jsF :Nat→Nat→List R6→List R4→Nat→Option (List R6)
 | 0,_,out,_,_=>some out
 | k+1,i,out,last,first=>
  bif z7w kind l m (rd (Yj l m) i) then none
  else bif decide (0<i)&&Js (y7g kind l m (rd (Yj l m) i)) last then jsF k (i+1) (w7e out first (rd (Yj l m) (i+1))) last first
  else jsF k (i+1) (out++v8m (rd (Yj l m) i) (rd (Yj l m) (i+1)) (y7g kind l m (rd (Yj l m) i))) (y7g kind l m (rd (Yj l m) i)) out.length
def jsO :Option (List R6):=jsF kind l m ((Yj l m).length - 1) 0 [] [] 0
def x3h :Option (List R6)→List AVal
 | none=>[.nils,.bool false]
 | some out=>[.dat out.length (Zy out),.bool (decide ((out.length:Int)≤400))]
def z3g :List R6:=(jsO kind l m).getD []
def y8n :Bool:=match jsO kind l m with
 | none=>false
 | some out=>decide ((out.length:Int)≤400)
end
def jsZ (l:List R6):Prop:=l.length≤40000∧ ∀z,(atV l z).length ≤5000
theorem v5g {l:List R6} (h:l.length≤5000):jsZ l:=⟨by omega,fun z=>AG (z2a l z) h⟩
def z5i (_:Int) (l m:List R6):Bool:=pd (jsZ l∧jsZ m)
theorem jsV_ow {k:Int} {l m:List R6} (hl:l.length≤5000) (hm:m.length≤5000):z5i k l m=true:=Yu ⟨v5g hl,v5g hm⟩
section
variable (kind:Int) (l m:List R6) (hl:jsZ l) (hm:jsZ m)
include hl hm
theorem v3x (last:List R4) (first:Int) (i:Nat) (hi:i+1<(Yj l m).length) (s:List R4) (hs:s.length≤1000000): ∀(k j:Nat) (out:List R6),j+k=s.length→out.length≤10000000000+j→
  ∃n,∀N,Zo (Wm kind l m) (N+n) (.to (.h1 out last first (i:Int) s (j:Int)))=Zo (Wm kind l m) N (.to (.h0 (out++v8m (rd (Yj l m) i) (rd (Yj l m) (i+1)) (s.drop j)) last first ((i+1:Nat):Int)))
 | 0,j,out,h,ho=>by
  have hx:=Uu l m;have hl1:=hl.1;have hm1:=hm.1;refine ⟨1,fun N=> ?_⟩
  grind [Zv,Wm,wrap_t,v8m]
 | k+1,j,out,h,ho=>by
  have hx:=Uu l m;have hl1:=hl.1;have hm1:=hm.1;obtain ⟨n,hn⟩:=v3x last first i hi s hs k (j+1) (out++v8m (rd (Yj l m) i) (rd (Yj l m) (i+1)) [rd s j]) (by omega) (by simp [v8m];omega)
  refine ⟨n+1,fun N=> ?_⟩;have:=hn N;rw [drop_rd (show j<s.length by omega),←AH,Zv];simp (disch:=omega) only [Wm,Zn,Zc,dlt_t,din_t,nle_t,neq_t,room_t,wrap_t,cast_succ,beq11,toNat_c,Al,Av,Ap,Aq,Ag];rw [AF] at this;exact this
omit hl hm in
theorem v1o (out:List R6) (j:Nat) (x:Int) (h:j<out.length):w7e (out.set j ⟨(rd out j).a,(rd out j).b,(rd out j).c,(rd out j).d,(rd out j).e,x⟩) (j+1) x=w7e out j x:=by
 unfold w7e;rw [drop_rd h,A2];have e1:(out.set j ⟨(rd out j).a,(rd out j).b,(rd out j).c,(rd out j).d,(rd out j).e,x⟩).take (j+1)=out.take j++[⟨(rd out j).a,(rd out j).b,(rd out j).c,(rd out j).d,(rd out j).e,x⟩]:=by
  apply Bz
  ·simp;omega
  ·intro n h1 h2;simp only [BD,List.getElem_set];by_cases e:j=n
   ·subst e;rw [AD rfl,Be (by simp only [Bq];omega)];simp
   ·rw [Ax e,Bi (by simp at h1 ⊢;omega),BD]
 have e2:(out.set j ⟨(rd out j).a,(rd out j).b,(rd out j).c,(rd out j).d,(rd out j).e,x⟩).drop (j+1)=out.drop (j+1):=by rw [List.drop_set];rw [AD (by omega)]
 rw [e1,e2,AF];rfl
theorem v3w (last:List R4) (first:Int) (i:Nat) (hi:i+1<(Yj l m).length): ∀(k j:Nat) (out:List R6),j+k=out.length→out.length≤10000000000→
  ∃n,∀N,Zo (Wm kind l m) (N+n) (.to (.h2 out last first (i:Int) (j:Int)))=Zo (Wm kind l m) N (.to (.h0 (w7e out j (rd (Yj l m) (i+1))) last first ((i+1:Nat):Int)))
 | 0,j,out,h,ho=>by
  have hx:=Uu l m;have hl1:=hl.1;have hm1:=hm.1;refine ⟨1,fun N=> ?_⟩;have e:w7e out j (rd (Yj l m) (i+1))=out:=by
   grind [w7e]
  grind [Zv,Wm,wrap_t]
 | k+1,j,out,h,ho=>by
  have hx:=Uu l m;have hl1:=hl.1;have hm1:=hm.1;obtain ⟨n,hn⟩:=v3w last first i hi k (j+1) (out.set j ⟨(rd out j).a,(rd out j).b,(rd out j).c,(rd out j).d,(rd out j).e,rd (Yj l m) (i+1)⟩) (by simp;omega) (by grind)
  refine ⟨n+1,fun N=> ?_⟩;have:=hn N;rw [v1o out j _ (by omega)] at this;rw [←AH,Zv];simp (disch:=omega) only [Wm,Zn,Zc,dlt_t,din_t,nlt_t,nle_t,neq_t,room_t,wrap_t,cast_succ,beq11,toNat_c,Al,Av,Ap,Aq,Ag];exact this
theorem w3r : ∀(k i:Nat) (out:List R6) (last:List R4) (first:Nat),k=(Yj l m).length - 1 - i→i≤(Yj l m).length →out.length≤i*400→last.length≤400→first≤out.length→
  ∃n,Zo (Wm kind l m) n (.to (.h0 out last (first:Int) (i:Int)))=.ret (x3h (jsF kind l m k i out last first))
 | 0,i,out,last,first,h,hi,ho,hla,hf=>by
  have hx:=Uu l m;have hl1:=hl.1;have hm1:=hm.1;refine ⟨1,?_⟩
  grind [Zv,Wm,Zn,wrap_t,Zp,jsF,x3h]
 | k+1,i,out,last,first,h,hi,ho,hla,hf=>by
  have hx:=Uu l m;have hl1:=hl.1;have hm1:=hm.1;have hi1:i+1<(Yj l m).length :=by omega
  have hbig:i*400≤160000*400:=Az _ (by omega);have a1:=fun z=>hl.2 z;have a2:=fun z=>hm.2 z;have w1: ∀z,z1z l z=true:=fun z=>Ae (by omega);have w2: ∀z,z1z m z=true:=fun z=>Ae (by omega);have w3: ∀k z,Kk k (atV l z) (atV m z)=true:=fun k z=>Ae (by grind);have w4: ∀k z,Kk k (atV l z) ([]:List R4)=true:=fun k z=>Ae (by grind);have w5: ∀k z,Kk k (atV m z) ([]:List R4)=true:=fun k z=>Ae (by grind);unfold jsF;have hsec:y7g kind l m (rd (Yj l m) i)=joV kind (atV l (rd (Yj l m) i)) (atV m (rd (Yj l m) i)):=rfl;by_cases c1:400<(y7g kind l m (rd (Yj l m) i)).length
  ·refine ⟨1,?_⟩;have hb:z7w kind l m (rd (Yj l m) i)=true:=by grind [z7w]
   rw [hb,Ag,Zv];rw [hsec] at c1;simp (disch:=omega) only [Wm,Zn,Zc,dlt_t,dgt_t,din_t,wrap_t,cast_succ,toNat_c,w1,w2,w3,w4,w5,Ap,Ag,Zp,x3h]
  by_cases c2:400<(joV 2 (atV l (rd (Yj l m) i)) []).length
  ·refine ⟨1,?_⟩;have hb:z7w kind l m (rd (Yj l m) i)=true:=by grind [z7w]
   rw [hb,Ag,Zv];rw [hsec] at c1;simp (disch:=omega) only [Wm,Zn,Zc,dlt_t,dgt_t,dgt_f,din_t,wrap_t,cast_succ,toNat_c,w1,w2,w3,w4,w5,Ap,Ag,Ad,Zp,x3h]
  by_cases c3:400<(joV 2 (atV m (rd (Yj l m) i)) []).length
  ·refine ⟨1,?_⟩;have hb:z7w kind l m (rd (Yj l m) i)=true:=by grind [z7w]
   rw [hb,Ag,Zv];rw [hsec] at c1;simp (disch:=omega) only [Wm,Zn,Zc,dlt_t,dgt_t,dgt_f,din_t,wrap_t,cast_succ,toNat_c,w1,w2,w3,w4,w5,Ap,Ag,Ad,Zp,x3h]
  have hb:z7w kind l m (rd (Yj l m) i)=false:=by grind [z7w]
  rw [hb,Ad];have w6:Vk (joV kind (atV l (rd (Yj l m) i)) (atV m (rd (Yj l m) i))) last=true:=Ae (by grind);rcases boolc (decide (0<i)&&Js (y7g kind l m (rd (Yj l m) i)) last) with q | q
  ·obtain ⟨n3,h3⟩:=v3w kind l m hl hm last first i hi1 (out.length - first) first out (by omega) (by omega)
   obtain ⟨n0,h0⟩:=w3r k (i+1) (w7e out first (rd (Yj l m) (i+1))) last first (by omega) (by omega) (by simp [w7e];omega) hla (by simp [w7e];omega)
   refine ⟨n0+n3+1,?_⟩;rw [q,Ag,Zv];simp only [Ac,Ak] at q;obtain ⟨q1,q2⟩:=q;rw [hsec] at c1 q2;simp (disch:=omega) only [Wm,Zn,Zc,dlt_t,dgt_t,dgt_f,din_t,wrap_t,cast_succ,toNat_c,w1,w2,w3,w4,w5,w6,q2,Ap,Ag,Ad]
   grind
  ·obtain ⟨n2,h2⟩:=v3x kind l m hl hm (y7g kind l m (rd (Yj l m) i)) (out.length:Int) i hi1 (y7g kind l m (rd (Yj l m) i)) (by omega) (y7g kind l m (rd (Yj l m) i)).length 0 out (Al _) (by omega);obtain ⟨n0,h0⟩:=w3r k (i+1) (out++v8m (rd (Yj l m) i) (rd (Yj l m) (i+1)) (y7g kind l m (rd (Yj l m) i))) (y7g kind l m (rd (Yj l m) i)) out.length (by omega) (by omega) (by simp [v8m];omega) (by omega) (by simp);refine ⟨n0+n2+1,?_⟩;rw [q,Ad,Zv];have h2':=h2 n0;simp only [A0,cast0] at h2';have c1':=c1;rw [hsec] at c1';by_cases hi0:0<i
   ·rw [Ae hi0,Aq,hsec] at q;simp (disch:=omega) only [Wm,Zn,Zc,dlt_t,dgt_t,dgt_f,din_t,wrap_t,cast_succ,toNat_c,w1,w2,w3,w4,w5,w6,q,Ap,Ag,Ad]
    grind
   ·simp (disch:=omega) only [Wm,Zn,Zc,dlt_t,dgt_t,dgt_f,din_t,wrap_t,cast_succ,toNat_c,w1,w2,w3,w4,w5,w6,Ap,Ag,Ad]
    grind
end
theorem v7n (kind:Int) (l m:List R6) (h:z5i kind l m=true): ∃N,Zo (Wm kind l m) N (z8t kind l m)=.ret (x3h (jsO kind l m)):=by obtain ⟨hl,hm⟩:=Wn h;have hl1:=hl.1;have hm1:=hm.1;obtain ⟨N,hN⟩:=w3r kind l m hl hm ((Yj l m).length - 1) 0 [] [] 0 rfl (AE _) (AE _) (AE _) (Ao _);refine ⟨N,?_⟩;have w1:z5z l m=true:=Ae ⟨by omega,by omega⟩;simp only [z8t,Zn,Zc,w1,Ag];exact hN
def fJs :List AVal→Option (AVal×Bool)
 | [.int .i64 x0,a1,a2]=>match asL R6 a1,asL R6 a2 with
  | some (L1,g1,n1),some (L2,g2,n2)=>some (.tup [.dat (z3g x0 L1 L2).length (Zy (z3g x0 L1 L2)),.bool (y8n x0 L1 L2)],isT R6 n1 g1&&(isT R6 n2 g2&&(z5i x0 L1 L2)))
  | _,_=>none
 | _=>none
theorem fJs_ok {S:Specs} (hS:Zw prog S):Zw prog (S.with v4v fJs):=by
 refine fTwo hS (by kernel_rfl) fun args v h=> ?_;unfold fJs at h;split at h
 ·rename_i x0 a1 a2;split at h
  ·rename_i L1 g1 n1 L2 g2 n2 e1 e2;simp only [Ab,Aa,Ac] at h;obtain ⟨rfl,ho1,ho2,hw⟩:=h;obtain ⟨N,hN⟩:=v7n x0 L1 L2 hw;refine ⟨_,x3h (jsO x0 L1 L2),(.cons (.refl _) (.cons (Yg e1 ho1) (.cons (Yg e2 ho2) .nil))),?_,w8r x0 L1 L2 N _ hN,3,?_⟩
   ·unfold z3g y8n;cases jsO x0 L1 L2 with
    | none=>exact fun ρ u hu=>z9o (.cons (z3c R6) (RLe.refl _)) ρ u hu
    | some out=>exact fun ρ u hu=>hu
   ·cases jsO x0 L1 L2 <;> rfl
  ·cases h
 ·cases h
def T4 :Specs:=T3.with v4v fJs
theorem T4_ok :Zw prog T4:=fJs_ok z7b
open Go.Sort Go.Shelf Go.RowKit Go.Lib
def u2g (x:E3):List Value:=w1g x.1
theorem u2f (l:List R3) (h:y6s l=true):Go.Sort.flatK u2g 3 (y6u l h).toArray =Go.Sort.flatK w1g 3 l.toArray:=by
 have hl:=Uk l h;unfold Go.Sort.flatK;rw [show (y6u l h).toArray.size =l.toArray.size by simpa using hl];apply Array.ext
 ·simp
 ·intro t h1 h2;simp only [Array.getElem_map,Array.getElem_range];have ht:t<l.length*3:=by simpa using h1
  have hq:t / 3<l.length:=by omega
  congr 1
  rw [getElem!_pos (y6u l h).toArray (t / 3) (by simpa [hl] using hq),getElem!_pos l.toArray (t / 3) (by simpa using hq)];unfold u2g
  congr 1
  have:=z9k l h;have e:=AB (fun z:List R3=>z[t / 3]?) this;simp only [BC] at e;rw [Ar (by rw [hl];exact hq),Ar hq] at e
  simpa using e
theorem v1f (d:Array E3):Go.Sort.flatK u2g 3 d=Go.Sort.flatK w1g 3 (d.toList.map Subtype.val).toArray :=by
 unfold Go.Sort.flatK;rw [show d.size=(d.toList.map Subtype.val).toArray.size by simp];apply Array.ext
 ·simp
 ·intro t h1 h2;simp only [Array.getElem_map,Array.getElem_range];have ht:t<d.size*3:=by simpa using h1
  have hq:t / 3<d.size:=by omega
  congr 1
  rw [getElem!_pos d (t / 3) hq,getElem!_pos (d.toList.map Subtype.val).toArray (t / 3) (by simpa using hq)];simp [u2g]
theorem y8h (l:List R3):y5m l.length (z3v (cvT l)).length =true:=Kj (by
 rw [Zn];by_cases h:y6s l=true
 ·exact (Kn l h).1.length_eq.symm
 ·unfold z3v;rw [dif_neg h])
theorem isAgg3 : ∀w,(isAgg (Tryz.sortEnd_ren.t 24)).run prog w=.ok true w:=fun w=>by rfl
theorem size3 : ∀w,(Go.sizeOf (Tryz.sortEnd_ren.t 24)).run prog w=.ok 3 w:=fun w=>by rfl
theorem w2u :y9t prog v4r (x7g R3 z3v y6s x6l):=by
 refine w6b (fun L=> ?_) (fun blk off cap L w hb hH eA hsz=> ?_) fun p cap fv w=>AnyF.slices_SortFunc_none Tryz.sortEnd p cap fv w
 ·by_cases h:y6s L=true
  ·exact (Kn L h).1.length_eq
  ·unfold z3v;rw [dif_neg h]
 ·have eg: ∀args w,(callFunc 182 args).run prog w=.ok (.enter 182 args) w:=enters_of Tryz.func182 (by kernel_rfl) rfl;have hcmp:CmpLays prog 182 #[] u2g 3 cf3 blk off (y6u L hb).toArray.size w:=fun m os dk _ x y=>by have hx:=As x.2;have hy:=As y.2;exact Tryz.cmpEnd x.1.a x.1.b x.1.c y.1.a y.1.b y.1.c hx hy _
  have hH':HoldsK u2g 3 w blk off (y6u L hb).toArray :=by unfold HoldsK;rw [u2f L hb];exact hH
  have hcon:=AnyQ.slices_SortFunc_eq Tryz.sortEnd 3 isAgg3 size3 u2g (fun x=>x4n x.1) (fun x v hv=>by
   obtain ⟨a,ha,rfl⟩:=List.mem_map.1 hv;have:x3k a=true:=Aw.1 (v5y.num x.1) a ha;cases a <;> first | rfl | (simp [x3k] at this;done)) cf3 swo3 182 #[] blk off cap (y6u L hb).toArray w eg hcmp hH' eA (by simpa [Uk] using hsz)
  have hs:(y6u L hb).toArray.size =L.length:=by simp [Uk]
  rw [hs] at hcon;refine Calls.mono hcon fun e w' ⟨he,n,os,hw⟩=>⟨he,n,os,?_⟩
  rw [hw];unfold sortWorldK putRowK;rw [v1f];unfold z3v;rw [dif_pos hb];rfl
def Vv (zs:List Int):List Int:=zs.mergeSort fun x y=>decide (x≤y)
theorem w2t :y9t prog nSort (fRow Vv):=
 u2h (fun zs=>List.length_mergeSort zs) (fun blk off cap zs w hH hb hz=>Tryz.slices_Sort_int blk off cap zs w hH hb hz) fun p cap w=>Tryz.slices_Sort_int_none p cap w
def Jv (zs:List Int):List Int:=compact zs++List.replicate (zs.length - (compact zs).length) 0
def cmpN (zs:List Int):Nat:=(compact zs).length
theorem z3b (zs:List Int):(Jv zs).length =zs.length:=by have:=compact_length_le zs;simp [Jv];omega
theorem y8i (n:Nat) (c:Nat→Int):y5m n (Jv (Yw n c)).length =true:=Kj (by rw [z3b];simp [Yw])
theorem w5i (w:World):grow w #[]=w:=by simp [grow]
theorem x4t :y9t prog x6m (fCut Jv cmpN):=
 u2i (fun zs=>by have:=compact_length_le zs;simp [Jv];omega) (fun zs=>compact_length_le zs)
  (fun blk off cap zs w hH hb hz dD=>(Tryz.slices_Compact_int blk off cap zs w hH (by omega) dD).mono fun e w' ⟨he,q,hw⟩=>⟨he,q, #[],by rw [hw,w5i];rfl⟩)
  fun p cap w=>Tryz.slices_Compact_int_empty p cap w
def T5 :Specs:=((T4.withE v4r (x7g R3 z3v y6s x6l)).withE nSort (fRow Vv)).withE x6m (fCut Jv cmpN)
theorem Jk :Zw prog T5:=y4f (y4f (y4f T4_ok (by kernel_rfl) w2u) (by kernel_rfl) w2t) (by kernel_rfl) x4t
-- h2: index into an array (choices [true, true, false, false])
-- h2: index into an array (choices [true, false, true, false, false])
-- h2: index into an array (choices [true, false, false, true, true, false, false])
-- h2: index into an array (choices [true, false, false, true, false, false, false])
-- h2: index into an array (choices [true, false, false, false, false, false])
inductive spmS where
 | h0 (v8:Int)
 | h1 (v3:List R3) (v17:Int)
 | h2 (v5:List R3) (v6:Int) (v7:Int) (aC:Int) (bA:Int) (aW:Int) (aR:Bool) (aB:List R2)
def spmC (l0:List R2):spmS→Cfg
 | .h0 v8=>⟨⟨19,0,true⟩,none,(Zm prog 179 [1,0,1,0,0] 0),none,(Zz prog 4),⟨Yx [(0,(.dat l0.length (Zy l0))),(1,(.fn 166 [])),(7,(ii (l0.length:Int))),(8,(ii v8))],Xj [] 0,0,[],true⟩,[⟨⟨9,0,true⟩,(z1q prog 165 [1,0] 2),(Zm prog 165 [1,0] 1),none,(Zz prog 4),Yx [(5,(.dat l0.length (Zy l0))),(6,(.fn 166 []))]⟩,⟨⟨11,0,true⟩,(z1q prog 145 [1,1,0,0] 1),(Zm prog 145 [1,1,0,0] 1),none,(Zz prog 17),Yx [(0,(.dat l0.length (Zy l0))),(7,(.dat l0.length (Zy l0)))]⟩],.leaf⟩
 | .h1 v3 v17=>⟨⟨38,0,true⟩,none,(Zm prog 172 [1,1,0,1,0,0,1,1,0,0,1,1,0,0] 0),none,(Zz prog 5),⟨Yx [(3,(.sla 7 3 0 v3.length (.un 3))),(4,(ii 0)),(8,(.sl 0 0 2 (.un 1))),(9,(ii 2)),(10,(ii 0)),(15,(.dat l0.length (Zy l0))),(16,(ii (l0.length:Int))),(17,(ii v17))],Xj [⟨[(.dat l0.length (Zy l0)),.nils],173,none⟩,⟨[(.fn 168 [])],194,none⟩,⟨[(ii 0),(ii 0)],232,none⟩,⟨[.nils],173,none⟩,⟨[(ii 0)],3,none⟩,⟨[(.bool false)],4,none⟩,⟨[(.fn 171 [(.ptr 5 0),(.ptr 4 0),(.ptr 3 0)])],118,none⟩,⟨rows v3.length (Zy v3),236,some ⟨3,v3.length,(Zy v3)⟩⟩] 0,8,[],true⟩,[⟨⟨42,0,true⟩,(z1q prog 150 [1,1,1,1,1,0,0] 3),(Zm prog 150 [1,1,1,1,1,0,0] 1),none,(Zz prog 3),Yx [(5,(.ptr 1 0)),(6,.nils),(7,(.ptr 2 0)),(8,(.ptr 3 0)),(9,(.ptr 4 0)),(10,(.ptr 5 0)),(11,(.ptr 6 0)),(16,(.sl 0 0 2 (.un 1)))]⟩,⟨⟨11,0,true⟩,(z1q prog 145 [1,1,1,0] 1),(Zm prog 145 [1,1,1,0] 1),none,(Zz prog 17),Yx [(9,(.dat l0.length (Zy l0)))]⟩],.leaf⟩
 | .h2 v5 v6 v7 aC bA aW aR aB=>⟨⟨16,0,true⟩,none,(Zm prog 186 [1,0,0] 0),none,[],⟨Yx [(0,(.yld 0)),(5,(.sla 7 3 0 v5.length (.un 3))),(6,(ii v6)),(7,(ii v7))],x6n [(1,⟨[(.fn 168 [])],194,none⟩),(2,⟨[(ii aC),(ii bA)],232,none⟩),(3,⟨[(ii aW)],3,none⟩),(4,⟨[(.bool aR)],4,none⟩),(5,⟨[(.fn 171 [(.ptr 4 0),(.ptr 3 0),(.ptr 6 0)])],118,none⟩),(6,⟨[(.sla 8 2 0 aB.length (.un 2))],173,none⟩),(7,⟨rows v5.length (Zy v5),236,some ⟨3,v5.length,(Zy v5)⟩⟩),(8,⟨rows aB.length (Zy aB),180,some ⟨2,aB.length,(Zy aB)⟩⟩)],9,[],true⟩,[⟨⟨42,0,true⟩,none,(.inRangeFunc 0::(Zm prog 150 [1,1,1,1,1,0,1,0] 1)),none,(Zz prog 3),Yx [(6,.nils),(8,(.ptr 6 0))]⟩,⟨⟨11,0,true⟩,(z1q prog 145 [1,1,1,0] 1),(Zm prog 145 [1,1,1,0] 1),none,(Zz prog 17),Yx [(9,(.dat l0.length (Zy l0)))]⟩],(x6o [(0,⟨.ready,none,42,Yx [(5,(.ptr 1 0)),(7,(.ptr 2 0)),(9,(.ptr 3 0)),(10,(.ptr 4 0)),(11,(.ptr 5 0))],[18],(Uj prog 150 [1,1,1,1,1,0,1,0,0]),(Uj prog 150 [1,1,1,1,1,0,1,0,1])⟩)])⟩
def spmN0 :List (Option (List Nat)):=[some [0,1,7,8],some [5,6],some [0,7]]
def spmM0 :List (Option (List Nat)):=[]
def w2r :List (Option (List Nat)):=[some [3,4,8,9,10,15,16,17],some [5,6,7,8,9,10,11,16],some [9]]
def w2s :List (Option (List Nat)):=[]
def z9r :List (Option (List Nat)):=[some [0,5,6,7],some [6,8],some [9]]
def z9s :List (Option (List Nat)):=[some [5,7,9,10,11],none,none,none,none,none,none,none,none]
def Wi (l0:List R2):spmS→Ya spmS
 | .h0 v8=>(bif (decide (v8<(l0.length:Int))) then (bif ((decide (0≤v8∧v8<(l0.length:Int)))&&true) then (bif (decide ((rd l0 v8.toNat).a <(rd l0 v8.toNat).b)) then (bif (decide ((rd l0 v8.toNat).a ≥(-1000000))) then (bif (!(decide ((rd l0 v8.toNat).b ≤1000000))) then (bif (decide (v8≥0)) then (.ret [.nils,(.int .i64 8)]) else (.to (.h1 ([]:List R3) 0))) else (.to (.h0 (wrap .i64 (v8+1))))) else (bif (decide (v8≥0)) then (.ret [.nils,(.int .i64 8)]) else (.to (.h1 ([]:List R3) 0)))) else (bif (decide (v8≥0)) then (.ret [.nils,(.int .i64 8)]) else (.to (.h1 ([]:List R3) 0)))) else .stuck) else (.to (.h1 ([]:List R3) 0)))
 | .h1 v3 v17=>(bif (decide (v17<(l0.length:Int))) then (bif ((decide (0≤v17∧v17<(l0.length:Int)))&&true) then (bif (Nat.beq 3 3&&((decide (0+v3.length=v3.length))&&decide ((v3.length+2+1)*(24+1)≤Jq))) then (.to (.h1 (v3++[(R3.mk (rd l0 v17.toNat).a 0 1),(R3.mk (rd l0 v17.toNat).b 0 (-1))]) (wrap .i64 (v17+1)))) else .stuck) else .stuck) else (bif (y6s (cvT v3)) then (bif (decide (v3.length<4611686018427387904)) then (bif (decide (v3.length=v3.length)) then (.to (.h2 (z3v (cvT v3)) (v3.length:Int) 0 0 0 0 false ([]:List R2))) else .stuck) else .stuck) else .stuck))
 | .h2 v5 v6 v7 aC bA aW aR aB=>(bif (decide (v7<v6)) then (bif ((decide (0≤v7∧v7<(v5.length:Int)))&&true) then (bif (decide ((0+v7.toNat)<v5.length)) then (bif (!aR) then (bif (decide ((rd v5 (0+v7.toNat)).b =Int.ofNat 0)) then (.to (.h2 v5 v6 (wrap .i64 (v7+1)) (wrap .i64 (aC+(rd v5 (0+v7.toNat)).c)) bA (rd v5 (0+v7.toNat)).a (x7a (decide ((wrap .i64 (aC+(rd v5 (0+v7.toNat)).c))>0)) (decide (bA>0))) aB)) else (bif (decide ((rd v5 (0+v7.toNat)).b =Int.ofNat 1)) then (.to (.h2 v5 v6 (wrap .i64 (v7+1)) aC (wrap .i64 (bA+(rd v5 (0+v7.toNat)).c)) (rd v5 (0+v7.toNat)).a (x7a (decide (aC>0)) (decide ((wrap .i64 (bA+(rd v5 (0+v7.toNat)).c))>0))) aB)) else .stuck)) else (bif (aW == (rd v5 (0+v7.toNat)).a) then (bif (decide ((rd v5 (0+v7.toNat)).b =Int.ofNat 0)) then (.to (.h2 v5 v6 (wrap .i64 (v7+1)) (wrap .i64 (aC+(rd v5 (0+v7.toNat)).c)) bA (rd v5 (0+v7.toNat)).a (x7a (decide ((wrap .i64 (aC+(rd v5 (0+v7.toNat)).c))>0)) (decide (bA>0))) aB)) else (bif (decide ((rd v5 (0+v7.toNat)).b =Int.ofNat 1)) then (.to (.h2 v5 v6 (wrap .i64 (v7+1)) aC (wrap .i64 (bA+(rd v5 (0+v7.toNat)).c)) (rd v5 (0+v7.toNat)).a (x7a (decide (aC>0)) (decide ((wrap .i64 (bA+(rd v5 (0+v7.toNat)).c))>0))) aB)) else .stuck)) else (bif (decide ((aB.length:Int)>0)) then (bif ((decide (0≤(wrap .i64 ((aB.length:Int) - 1))∧(wrap .i64 ((aB.length:Int) - 1))<(aB.length:Int)))&&true) then (bif (decide ((0+(Int.toNat (wrap .i64 ((aB.length:Int) - 1))))<aB.length)) then (bif ((rd aB (0+(Int.toNat (wrap .i64 ((aB.length:Int) - 1))))).b == aW) then (bif (decide ((rd v5 (0+v7.toNat)).b =Int.ofNat 0)) then (.to (.h2 v5 v6 (wrap .i64 (v7+1)) (wrap .i64 (aC+(rd v5 (0+v7.toNat)).c)) bA (rd v5 (0+v7.toNat)).a (x7a (decide ((wrap .i64 (aC+(rd v5 (0+v7.toNat)).c))>0)) (decide (bA>0))) (aB.set (0+(Int.toNat (wrap .i64 ((aB.length:Int) - 1)))) (R2.mk (rd aB (0+(Int.toNat (wrap .i64 ((aB.length:Int) - 1))))).a (rd v5 (0+v7.toNat)).a)))) else (bif (decide ((rd v5 (0+v7.toNat)).b =Int.ofNat 1)) then (.to (.h2 v5 v6 (wrap .i64 (v7+1)) aC (wrap .i64 (bA+(rd v5 (0+v7.toNat)).c)) (rd v5 (0+v7.toNat)).a (x7a (decide (aC>0)) (decide ((wrap .i64 (bA+(rd v5 (0+v7.toNat)).c))>0))) (aB.set (0+(Int.toNat (wrap .i64 ((aB.length:Int) - 1)))) (R2.mk (rd aB (0+(Int.toNat (wrap .i64 ((aB.length:Int) - 1))))).a (rd v5 (0+v7.toNat)).a)))) else .stuck)) else (bif (Nat.beq 2 2&&((decide (0+aB.length=aB.length))&&decide ((aB.length+1+1)*(16+1)≤Jq))) then (bif (decide ((rd v5 (0+v7.toNat)).b =Int.ofNat 0)) then (.to (.h2 v5 v6 (wrap .i64 (v7+1)) (wrap .i64 (aC+(rd v5 (0+v7.toNat)).c)) bA (rd v5 (0+v7.toNat)).a (x7a (decide ((wrap .i64 (aC+(rd v5 (0+v7.toNat)).c))>0)) (decide (bA>0))) (aB++[(R2.mk aW (rd v5 (0+v7.toNat)).a)]))) else (bif (decide ((rd v5 (0+v7.toNat)).b =Int.ofNat 1)) then (.to (.h2 v5 v6 (wrap .i64 (v7+1)) aC (wrap .i64 (bA+(rd v5 (0+v7.toNat)).c)) (rd v5 (0+v7.toNat)).a (x7a (decide (aC>0)) (decide ((wrap .i64 (bA+(rd v5 (0+v7.toNat)).c))>0))) (aB++[(R2.mk aW (rd v5 (0+v7.toNat)).a)]))) else .stuck)) else .stuck)) else .stuck) else .stuck) else (bif (Nat.beq 2 2&&((decide (0+aB.length=aB.length))&&decide ((aB.length+1+1)*(16+1)≤Jq))) then (bif (decide ((rd v5 (0+v7.toNat)).b =Int.ofNat 0)) then (.to (.h2 v5 v6 (wrap .i64 (v7+1)) (wrap .i64 (aC+(rd v5 (0+v7.toNat)).c)) bA (rd v5 (0+v7.toNat)).a (x7a (decide ((wrap .i64 (aC+(rd v5 (0+v7.toNat)).c))>0)) (decide (bA>0))) (aB++[(R2.mk aW (rd v5 (0+v7.toNat)).a)]))) else (bif (decide ((rd v5 (0+v7.toNat)).b =Int.ofNat 1)) then (.to (.h2 v5 v6 (wrap .i64 (v7+1)) aC (wrap .i64 (bA+(rd v5 (0+v7.toNat)).c)) (rd v5 (0+v7.toNat)).a (x7a (decide (aC>0)) (decide ((wrap .i64 (bA+(rd v5 (0+v7.toNat)).c))>0))) (aB++[(R2.mk aW (rd v5 (0+v7.toNat)).a)]))) else .stuck)) else .stuck)))) else .stuck) else .stuck) else (.ret [(.dat aB.length (Zy aB)),(.int .i64 0)]))
def z8j (l0:List R2):Ya spmS:=(bif (decide ((l0.length:Int)>400)) then (.ret [.nils,(.int .i64 4)]) else (.to (.h0 0)))
theorem x7x (l0:List R2): ∀s,Yh prog (Zz prog 145) (spmC l0) (spmC l0 s) (Wi l0 s)
 | .h0 v8=>(lb (fun k0=>(lo fun aI=>(lb (fun k1=>(lb (fun k2=>(lb (fun k3=>(lb (fun k4=>(lr 11 145 [1,1,0,1,0,0] 1 17 [(2,.nils),(3,(ii 8))] (sl Jk 79 [] ⟨[],[],[some [2,3]],[]⟩ ⟨[],[],[]⟩ (trs 9 []) (tt k4 (tt k3 (tt k2 (tt k1 (ww aI (tt k0 nn))))))))) (fun k4=>(sl Jk 154 [(236,3,Zy ([]:List R3))] ⟨[8,2,3,4,5,6,7,9],[],w2r,w2s⟩ ⟨[(3,.grow 7 3)],[],[]⟩ (trs 8 (bl 2 2)) (pp (fl ([]:List R3) nn) (tt k4 (tt k3 (tt k2 (tt k1 (ww aI (tt k0 nn))))))))))) (fun k3=>(sl Jk 69 [] ⟨[],[],spmN0,spmM0⟩ ⟨[],[],[]⟩ (trs 7 [false]) (tt k3 (tt k2 (tt k1 (ww aI (tt k0 nn))))))))) (fun k2=>(lb (fun k3=>(lr 11 145 [1,1,0,1,0,0] 1 17 [(2,.nils),(3,(ii 8))] (sl Jk 79 [] ⟨[],[],[some [2,3]],[]⟩ ⟨[],[],[]⟩ (trs 4 (bl 5 24)) (tt k3 (tt k2 (tt k1 (ww aI (tt k0 nn)))))))) (fun k3=>(sl Jk 154 [(236,3,Zy ([]:List R3))] ⟨[8,2,3,4,5,6,7,9],[],w2r,w2s⟩ ⟨[(3,.grow 7 3)],[],[]⟩ (trs 4 (bl 6 40)) (pp (fl ([]:List R3) nn) (tt k3 (tt k2 (tt k1 (ww aI (tt k0 nn)))))))))))) (fun k1=>(lb (fun k2=>(lr 11 145 [1,1,0,1,0,0] 1 17 [(2,.nils),(3,(ii 8))] (sl Jk 79 [] ⟨[],[],[some [2,3]],[]⟩ ⟨[],[],[]⟩ (bl 9 385) (tt k2 (tt k1 (ww aI (tt k0 nn))))))) (fun k2=>(sl Jk 154 [(236,3,Zy ([]:List R3))] ⟨[8,2,3,4,5,6,7,9],[],w2r,w2s⟩ ⟨[(3,.grow 7 3)],[],[]⟩ (bl 10 641) (pp (fl ([]:List R3) nn) (tt k2 (tt k1 (ww aI (tt k0 nn)))))))))))) (fun k0=>(sl Jk 98 [(236,3,Zy ([]:List R3))] ⟨[6,0,1,2,3,4,5,7],[],w2r,w2s⟩ ⟨[(3,.grow 7 3)],[],[]⟩ (bl 3 4) (pp (fl ([]:List R3) nn) (tt k0 nn)))))
 | .h1 v3 v17=>(lb (fun k0=>(lo fun o0=>(lo fun o1=>(sl Jk 36 [] ⟨[0,1,2,3,4,5,6,10],[],w2r,w2s⟩ ⟨[(3,.len (v3++[(R3.mk (rd l0 (tn v17)).a 0 1),(R3.mk (rd l0 (tn v17)).b 0 (-1))]).length)],(kpB 7 [.rowed 3 (v3++[(R3.mk (rd l0 (tn v17)).a 0 1),(R3.mk (rd l0 (tn v17)).b 0 (-1))]).length (Zy (v3++[(R3.mk (rd l0 (tn v17)).a 0 1),(R3.mk (rd l0 (tn v17)).b 0 (-1))]))]),[]⟩ [true] (pp (xL (v3.length+2) (v3++[(R3.mk (rd l0 (tn v17)).a 0 1),(R3.mk (rd l0 (tn v17)).b 0 (-1))]).length) (pp (xL (v3.length+2) (v3++[(R3.mk (rd l0 (tn v17)).a 0 1),(R3.mk (rd l0 (tn v17)).b 0 (-1))]).length) (pp (xS (v3.length+2) (Ze (Zy v3) 0 v3.length 3 [(ii (rd l0 (tn v17)).a),(ii 0),(ii 1),(ii (rd l0 (tn v17)).b),(ii 0),(ii (-1))]) (Zy (v3++[(R3.mk (rd l0 (tn v17)).a 0 1),(R3.mk (rd l0 (tn v17)).b 0 (-1))]))) (pp (pp (xF (Ze (Zy v3) 0 v3.length 3 [(ii (rd l0 (tn v17)).a),(ii 0),(ii 1),(ii (rd l0 (tn v17)).b),(ii 0),(ii (-1))])) nn) (ww o1 (ww o0 (tt k0 nn))))))))))) (fun k0=>(lo fun o0=>(lo fun o1=>(lo fun o2=>(sl Jk 92 [(180,2,Zy ([]:List R2))] ⟨[9,1,2,4,5,6,3,7,10],[],z9r,z9s⟩ ⟨[(5,.len (z3v (cvT v3)).length)],(kpB 6 [.cells [.grow 8 2],.rowed 3 (z3v (cvT v3)).length (Zy (z3v (cvT v3))),.keep]),[]⟩ (bl 4 2) (pp (xL v3.length (z3v (cvT v3)).length (by first | exact y8h _ | exact Kj rfl)) (pp (xL v3.length (z3v (cvT v3)).length (by first | exact y8h _ | exact Kj rfl)) (pp (xS v3.length (Zy (z3v (cvT v3))) (Zy (z3v (cvT v3)))) (pp (fl (z3v (cvT v3)) (fl ([]:List R2) nn)) (pp (pp (xG (Nat.beq 3 3)) (pp (xG (Nat.beq 3 3)) (pp (xG (Nat.beq 0 0)) (pp (pp (xG (decide (v3.length=v3.length))) (pp (xr v3) (xG (decide (v3.length<4611686018427387904))))) (xG (y6s (cvT v3))))))) (tt k0 nn))))))))))))
 | .h2 v5 v6 v7 aC bA aW aR aB=>(lb (fun k0=>(lo fun aI=>(lo fun aQ=>(lb (fun k1=>(lb (fun k2=>(sl Jk 62 [] ⟨(List.range 9),[],z9r,z9s⟩ ⟨[],[],[]⟩ (trs 5 (bl 3 0)) (pp (fl v5 (fl aB nn)) (ww k2 (tt k1 (ww aQ (ww aI (tt k0 nn)))))))) (fun k2=>(lb (fun k3=>(sl Jk 62 [] ⟨(List.range 9),[],z9r,z9s⟩ ⟨[],[],[]⟩ (trs 6 (bl 4 2)) (pp (fl v5 (fl aB nn)) (ww k3 (tt k1 (ww aQ (ww aI (tt k0 nn)))))))) (fun k3=>trivial))))) (fun k1=>(lb (fun k2=>(lb (fun k3=>(sl Jk 62 [] ⟨(List.range 9),[],z9r,z9s⟩ ⟨[],[],[]⟩ (bl 8 17) (pp (fl v5 (fl aB nn)) (ww k3 (tt k2 (tt k1 (ww aQ (ww aI (tt k0 nn))))))))) (fun k3=>(lb (fun k4=>(sl Jk 62 [] ⟨(List.range 9),[],z9r,z9s⟩ ⟨[],[],[]⟩ (bl 10 177) (pp (fl v5 (fl aB nn)) (ww k4 (tt k2 (tt k1 (ww aQ (ww aI (tt k0 nn))))))))) (fun k4=>trivial))))) (fun k2=>(lb (fun k3=>(lo fun cI=>(lo fun cP=>(lb (fun k4=>(lb (fun k5=>(sl Jk 81 [] ⟨(List.range 9),[],z9r,z9s⟩ ⟨[],(kpB 6 [.cells [.len (aB.set (0+(tn (wr ((aB.length:Int) - 1)))) (R2.mk (rd aB (0+(tn (wr ((aB.length:Int) - 1))))).a (rd v5 (0+(tn v7))).a)).length],.keep,.rowed 2 (aB.set (0+(tn (wr ((aB.length:Int) - 1)))) (R2.mk (rd aB (0+(tn (wr ((aB.length:Int) - 1))))).a (rd v5 (0+(tn v7))).a)).length (Zy (aB.set (0+(tn (wr ((aB.length:Int) - 1)))) (R2.mk (rd aB (0+(tn (wr ((aB.length:Int) - 1))))).a (rd v5 (0+(tn v7))).a)))]),[]⟩ (bl 17 16353) (pp (xL aB.length (aB.set (0+(tn (wr ((aB.length:Int) - 1)))) (R2.mk (rd aB (0+(tn (wr ((aB.length:Int) - 1))))).a (rd v5 (0+(tn v7))).a)).length) (pp (xL aB.length (aB.set (0+(tn (wr ((aB.length:Int) - 1)))) (R2.mk (rd aB (0+(tn (wr ((aB.length:Int) - 1))))).a (rd v5 (0+(tn v7))).a)).length) (pp (xS aB.length (Xp (Zy aB) (0+(tn (wr ((aB.length:Int) - 1)))) 1 [(ii (rd v5 (0+(tn v7))).a)]) (Zy (aB.set (0+(tn (wr ((aB.length:Int) - 1)))) (R2.mk (rd aB (0+(tn (wr ((aB.length:Int) - 1))))).a (rd v5 (0+(tn v7))).a)))) (pp (fl v5 (pp (xF (Xp (Zy aB) (0+(tn (wr ((aB.length:Int) - 1)))) 1 [(ii (rd v5 (0+(tn v7))).a)])) nn)) (ww k5 (ww cP (ww cI (tt k4 (ww cP (ww cI (tt k3 (tt k2 (tt k1 (ww aQ (ww aI (tt k0 nn)))))))))))))))))) (fun k5=>(lb (fun k6=>(sl Jk 81 [] ⟨(List.range 9),[],z9r,z9s⟩ ⟨[],(kpB 6 [.cells [.len (aB.set (0+(tn (wr ((aB.length:Int) - 1)))) (R2.mk (rd aB (0+(tn (wr ((aB.length:Int) - 1))))).a (rd v5 (0+(tn v7))).a)).length],.keep,.rowed 2 (aB.set (0+(tn (wr ((aB.length:Int) - 1)))) (R2.mk (rd aB (0+(tn (wr ((aB.length:Int) - 1))))).a (rd v5 (0+(tn v7))).a)).length (Zy (aB.set (0+(tn (wr ((aB.length:Int) - 1)))) (R2.mk (rd aB (0+(tn (wr ((aB.length:Int) - 1))))).a (rd v5 (0+(tn v7))).a)))]),[]⟩ (bl 19 98273) (pp (xL aB.length (aB.set (0+(tn (wr ((aB.length:Int) - 1)))) (R2.mk (rd aB (0+(tn (wr ((aB.length:Int) - 1))))).a (rd v5 (0+(tn v7))).a)).length) (pp (xL aB.length (aB.set (0+(tn (wr ((aB.length:Int) - 1)))) (R2.mk (rd aB (0+(tn (wr ((aB.length:Int) - 1))))).a (rd v5 (0+(tn v7))).a)).length) (pp (xS aB.length (Xp (Zy aB) (0+(tn (wr ((aB.length:Int) - 1)))) 1 [(ii (rd v5 (0+(tn v7))).a)]) (Zy (aB.set (0+(tn (wr ((aB.length:Int) - 1)))) (R2.mk (rd aB (0+(tn (wr ((aB.length:Int) - 1))))).a (rd v5 (0+(tn v7))).a)))) (pp (fl v5 (pp (xF (Xp (Zy aB) (0+(tn (wr ((aB.length:Int) - 1)))) 1 [(ii (rd v5 (0+(tn v7))).a)])) nn)) (ww k6 (ww cP (ww cI (tt k4 (ww cP (ww cI (tt k3 (tt k2 (tt k1 (ww aQ (ww aI (tt k0 nn)))))))))))))))))) (fun k6=>trivial))))) (fun k4=>(lo fun cH=>(lb (fun k5=>(sl Jk 81 [] ⟨[0,1,2,3,4,5,6,7,12],[],z9r,z9s⟩ ⟨[],(kpB 6 [.cells [.len (aB++[(R2.mk aW (rd v5 (0+(tn v7))).a)]).length],.keep,.rowed 2 (aB++[(R2.mk aW (rd v5 (0+(tn v7))).a)]).length (Zy (aB++[(R2.mk aW (rd v5 (0+(tn v7))).a)]))]),[]⟩ (bl 17 8161) (pp (xL (aB.length+1) (aB++[(R2.mk aW (rd v5 (0+(tn v7))).a)]).length) (pp (xL (aB.length+1) (aB++[(R2.mk aW (rd v5 (0+(tn v7))).a)]).length) (pp (xS (aB.length+1) (Ze (Zy aB) 0 aB.length 2 [(ii aW),(ii (rd v5 (0+(tn v7))).a)]) (Zy (aB++[(R2.mk aW (rd v5 (0+(tn v7))).a)]))) (pp (fl v5 (pp (xF (Ze (Zy aB) 0 aB.length 2 [(ii aW),(ii (rd v5 (0+(tn v7))).a)])) nn)) (ww k5 (ww cH (tt k4 (ww cP (ww cI (tt k3 (tt k2 (tt k1 (ww aQ (ww aI (tt k0 nn))))))))))))))))) (fun k5=>(lb (fun k6=>(sl Jk 81 [] ⟨[0,1,2,3,4,5,6,7,12],[],z9r,z9s⟩ ⟨[],(kpB 6 [.cells [.len (aB++[(R2.mk aW (rd v5 (0+(tn v7))).a)]).length],.keep,.rowed 2 (aB++[(R2.mk aW (rd v5 (0+(tn v7))).a)]).length (Zy (aB++[(R2.mk aW (rd v5 (0+(tn v7))).a)]))]),[]⟩ (bl 19 90081) (pp (xL (aB.length+1) (aB++[(R2.mk aW (rd v5 (0+(tn v7))).a)]).length) (pp (xL (aB.length+1) (aB++[(R2.mk aW (rd v5 (0+(tn v7))).a)]).length) (pp (xS (aB.length+1) (Ze (Zy aB) 0 aB.length 2 [(ii aW),(ii (rd v5 (0+(tn v7))).a)]) (Zy (aB++[(R2.mk aW (rd v5 (0+(tn v7))).a)]))) (pp (fl v5 (pp (xF (Ze (Zy aB) 0 aB.length 2 [(ii aW),(ii (rd v5 (0+(tn v7))).a)])) nn)) (ww k6 (ww cH (tt k4 (ww cP (ww cI (tt k3 (tt k2 (tt k1 (ww aQ (ww aI (tt k0 nn))))))))))))))))) (fun k6=>trivial)))))))))) (fun k3=>(lo fun cI=>(lb (fun k4=>(sl Jk 81 [] ⟨[0,1,2,3,4,5,6,7,12],[],z9r,z9s⟩ ⟨[],(kpB 6 [.cells [.len (aB++[(R2.mk aW (rd v5 (0+(tn v7))).a)]).length],.keep,.rowed 2 (aB++[(R2.mk aW (rd v5 (0+(tn v7))).a)]).length (Zy (aB++[(R2.mk aW (rd v5 (0+(tn v7))).a)]))]),[]⟩ (bl 17 1) (pp (xL (aB.length+1) (aB++[(R2.mk aW (rd v5 (0+(tn v7))).a)]).length) (pp (xL (aB.length+1) (aB++[(R2.mk aW (rd v5 (0+(tn v7))).a)]).length) (pp (xS (aB.length+1) (Ze (Zy aB) 0 aB.length 2 [(ii aW),(ii (rd v5 (0+(tn v7))).a)]) (Zy (aB++[(R2.mk aW (rd v5 (0+(tn v7))).a)]))) (pp (fl v5 (pp (xF (Ze (Zy aB) 0 aB.length 2 [(ii aW),(ii (rd v5 (0+(tn v7))).a)])) nn)) (ww k4 (ww cI (tt k3 (tt k2 (tt k1 (ww aQ (ww aI (tt k0 nn)))))))))))))) (fun k4=>(lb (fun k5=>(sl Jk 81 [] ⟨[0,1,2,3,4,5,6,7,12],[],z9r,z9s⟩ ⟨[],(kpB 6 [.cells [.len (aB++[(R2.mk aW (rd v5 (0+(tn v7))).a)]).length],.keep,.rowed 2 (aB++[(R2.mk aW (rd v5 (0+(tn v7))).a)]).length (Zy (aB++[(R2.mk aW (rd v5 (0+(tn v7))).a)]))]),[]⟩ (bl 19 81921) (pp (xL (aB.length+1) (aB++[(R2.mk aW (rd v5 (0+(tn v7))).a)]).length) (pp (xL (aB.length+1) (aB++[(R2.mk aW (rd v5 (0+(tn v7))).a)]).length) (pp (xS (aB.length+1) (Ze (Zy aB) 0 aB.length 2 [(ii aW),(ii (rd v5 (0+(tn v7))).a)]) (Zy (aB++[(R2.mk aW (rd v5 (0+(tn v7))).a)]))) (pp (fl v5 (pp (xF (Ze (Zy aB) 0 aB.length 2 [(ii aW),(ii (rd v5 (0+(tn v7))).a)])) nn)) (ww k5 (ww cI (tt k3 (tt k2 (tt k1 (ww aQ (ww aI (tt k0 nn)))))))))))))) (fun k5=>trivial)))))))))))))) (fun k0=>(lr 11 3 [1,1,1,1,1,1,1,1,0] 1 17 [(2,(.dat aB.length (Zy aB))),(3,(ii 0))] (sl Jk 19 [] ⟨[],[8],[some [2,3]],[]⟩ ⟨[(2,.frz aB.length aB.length (Zy aB) (Zy aB))],[],[]⟩ [false] (pp (xZ (y5s 2 2 0 aB.length aB.length (Zy aB)) aB.length (Zy aB)) (pp (xL aB.length aB.length) (pp (xS aB.length (Zy aB) (Zy aB)) (pp (fl aB nn) (tt k0 nn)))))))))
theorem x0g (l0:List R2):Yh prog (Zz prog 145) (spmC l0) (Zj prog 145 [(.dat l0.length (Zy l0))] true []) (z8j l0):=(lb (fun k0=>(lr 11 145 [1,0,1,0,0] 1 17 [(2,.nils),(3,(ii 4))] (sl Jk 18 [] ⟨[],[],[some [2,3]],[]⟩ ⟨[],[],[]⟩ [true] (tt k0 nn)))) (fun k0=>(sl Jk 41 [] ⟨[],[],spmN0,spmM0⟩ ⟨[],[],[]⟩ [false] (tt k0 nn))))
theorem w7l (l0:List R2) (n:Nat) (vs:List AVal) (h:Zo (Wi l0) n (z8j l0)=.ret vs):Ws prog (Zz prog 145) (Zj prog 145 [(.dat l0.length (Zy l0))] true []) vs:=by have:=Zk (x7x l0) n _ (x0g l0);rwa [h] at this
def y2u (s:R2):Bool:=decide (s.a<s.b)&&(decide (s.a≥ -1000000)&&decide (s.b≤1000000))
def Ui (l:List R2):List R3:=l.flatMap fun s=>[⟨s.a,0,1⟩,⟨s.b,0,-1⟩]
def Km (out:List R2) (last:Int) (inn:Bool) (at':Int):List R2:=
 bif !inn then out else bif last == at' then out else
 bif decide (0<out.length)&&((rd out (out.length - 1)).b == last) then out.set (out.length - 1) ⟨(rd out (out.length - 1)).a,at'⟩ else out++[⟨last,at'⟩]
def swF :List R3→Int→Int→Bool→List R2→List R2
 | [],_,_,_,out=>out
 | e::r,o,last,inn,out=>swF r (o+e.c) e.a (decide (o+e.c>0)) (Km out last inn e.a)
def swV (l:List R2):List R2:=swF (z3v (Ui l)) 0 0 false []
def Xg (l:List R2):List R2:=bif decide (400<l.length) then [] else bif l.all y2u then swV l else []
def v2v (l:List R2):Int:=bif decide (400<l.length) then 4 else bif l.all y2u then 0 else 8
def z9q (l:List R2):Bool:=true
def y7f (l:List R2):List AVal:=bif decide (400<l.length) then [.nils,.int .i64 4] else bif l.all y2u then [.dat (swV l).length (Zy (swV l)),.int .i64 0] else [.nils,.int .i64 8]
theorem z1i (l:List R2):(Ui l).length =2*l.length:=by
 induction l with
 | nil=>rfl
 | cons r l ih=>grind [Ui]
theorem z6b (out:List R2) (last:Int) (inn:Bool) (a:Int):(Km out last inn a).length ≤out.length+1:=by
 grind [Km]
theorem z8i (e:R3) (r:List R3) (o last:Int) (inn:Bool) (out:List R2):swF (e::r) o last inn out=swF r (o+e.c) e.a (decide (o+e.c>0)) (Km out last inn e.a):=rfl
theorem v8r {a:Int} (k:Nat) (h:a=(k:Int)):decide (a=Int.ofNat k)=true:=by grind
section
variable (l:List R2) (hl:l.length≤400)
include hl
theorem v2s (L:List R3) (hL:L.length≤800) (hE: ∀i,i<L.length→(rd L i).b =0∧((rd L i).c =1∨(rd L i).c = -1)): ∀(k i:Nat) (o last:Int) (inn:Bool) (out:List R2),i+k=L.length→ -(i:Int)≤o→o≤i→out.length≤i→
  ∃n,Zo (Wi l) n (.to (.h2 L (L.length:Int) (i:Int) o 0 last inn out))=.ret [.dat (swF (L.drop i) o last inn out).length (Zy (swF (L.drop i) o last inn out)),.int .i64 0]
 | 0,i,o,last,inn,out,h,ho1,ho2,hout=>by
  have _uhl:=hl;refine ⟨1,?_⟩
  grind [Zv,Wi,Zp,swF]
 | k +1,i,o,last,inn,out,h,ho1,ho2,hout=>by
  obtain ⟨hb,hc⟩:=hE i (by omega);have hcl:=z6b out last inn (rd L i).a;obtain ⟨n,hn⟩:=v2s L hL hE k (i+1) (o+(rd L i).c) (rd L i).a (decide (o+(rd L i).c >0)) (Km out last inn (rd L i).a) (by omega) (by grind) (by grind) (by omega);refine ⟨n+1,?_⟩;rw [drop_rd (show i<L.length by omega),Zv];have hf: ∀b,x7a b (decide ((0:Int)>0))=b:=fun b=>rfl;have hw:wrap .i64 (o+(rd L i).c)=o+(rd L i).c :=wrap_t (by grind);rw [z8i];have hf': ∀b,x7a b false=b:=fun b=>rfl;have hz:=v8r 0 hb;unfold Km at hn ⊢;cases inn with
  | false=>simp only [Ay,Ag] at hn ⊢;simp (disch:=omega) only [Wi,Ay,hz,hw,hf,hf',dlt_t,din_t,nlt_t,wrap_t,cast_succ,toNat_c,Al,Ap,Ag];exact hn
  | true=>
   simp only [Au,Ad] at hn ⊢;rcases boolc (last == (rd L i).a) with q | q
   ·rw [q] at hn ⊢;simp only [Ag] at hn ⊢;simp (disch:=omega) only [Wi,Au,q,hz,hw,hf,hf',dlt_t,din_t,nlt_t,wrap_t,cast_succ,toNat_c,Al,Ap,Ag,Ad];exact hn
   ·rw [q] at hn ⊢;simp only [Ad] at hn ⊢;by_cases h0:0<out.length
    ·rw [Ae h0,Aq] at hn ⊢;rcases boolc ((rd out (out.length - 1)).b == last) with q2 | q2
     ·rw [q2] at hn ⊢;simp only [Ag] at hn ⊢;simp (disch:=omega) only [Wi,Au,q,q2,hz,hw,hf,hf',dlt_t,dgt_t,din_t,nlt_t,wrap_t,cast_succ,toNat_c,Zb,Al,Ap,Ag,Ad];exact hn
     ·rw [q2] at hn ⊢;simp only [Ad] at hn ⊢;simp (disch:=omega) only [Wi,Au,q,q2,hz,hw,hf,hf',dlt_t,dgt_t,din_t,nlt_t,neq_t,room_t,beq11,Av,wrap_t,cast_succ,toNat_c,Zb,Al,Ap,Aq,Ag,Ad];exact hn
    ·rw [An h0,AX] at hn ⊢;simp only [Ad] at hn ⊢;simp (disch:=omega) only [Wi,Au,q,hz,hw,hf,hf',dlt_t,dgt_f,din_t,nlt_t,neq_t,room_t,beq11,Av,wrap_t,cast_succ,toNat_c,Al,Ap,Aq,Ag,Ad];exact hn
theorem w6a (h:l.all y2u=true): ∀e∈Ui l,bnd3 e=true∧e.b=0∧(e.c=1∨e.c= -1):=by
 have _uhl:=hl;intro e he;obtain ⟨s,hs,h1⟩:=Bo.1 he;have hv:=Aw.1 h s hs;simp only [y2u,Ac,Ak] at hv;simp only [AM,List.not_mem_nil,or_false] at h1;rcases h1 with rfl | rfl
 ·exact ⟨Ae (by grind),rfl,.inl rfl⟩
 ·exact ⟨Ae (by grind),rfl,.inr rfl⟩
theorem v2t (hv:l.all y2u=true): ∀(k i:Nat) (acc:List R3),i+k=l.length→acc=Ui (l.take i)→ ∃n,Zo (Wi l) n (.to (.h1 acc (i:Int)))=.ret [.dat (swV l).length (Zy (swV l)),.int .i64 0]
 | 0,i,acc,h,ha=>by
  have e:acc=Ui l:=by grind
  subst e;have hle:=z1i l;have dX:=w6a l hl hv;have hb:y6s (Ui l)=true:=Aw.2 fun e he=>(dX e he).1;obtain ⟨hp,_⟩:=Kn (Ui l) hb;have hpl:=hp.length_eq;obtain ⟨n,hn⟩:=v2s l hl (z3v (Ui l)) (by omega) (fun i hi=>by
   grind [Xf]) (z3v (Ui l)).length 0 0 0 false [] (Al _) (by omega) (by omega) (AE _)
  refine ⟨n+1,?_⟩;rw [Zv];simp (disch:=omega) only [Wi,Zn,Zc,hb,dlt_f,nlt_t,neq_t,Av,Ag,Ad];rw [←hpl];simp only [cast0,A0] at hn;exact hn
 | k+1,i,acc,h,ha=>by
  have hle:=z1i (l.take i);have hacc:acc.length≤2*i:=by grind
  obtain ⟨n,hn⟩:=v2t hv k (i+1) (acc++Ui [rd l i]) (by omega) (by
   rw [ha,Bl]
   grind [Xf,Ui])
  refine ⟨n+1,?_⟩;rw [Zv];simp (disch:=omega) only [Wi,dlt_t,din_t,nle_t,neq_t,room_t,beq11,Av,wrap_t,cast_succ,toNat_c,Al,Ap,Aq,Ag];exact hn
theorem v2u : ∀(k i:Nat),i+k=l.length→(∀s∈l.take i,y2u s=true)→ ∃n,Zo (Wi l) n (.to (.h0 (i:Int)))=.ret (bif l.all y2u then [.dat (swV l).length (Zy (swV l)),.int .i64 0] else [.nils,.int .i64 8])
 | 0,i,h,ht=>by
  have hv:l.all y2u=true:=Aw.2 fun s hs=>ht s (by grind);obtain ⟨n,hn⟩:=v2t l hl hv l.length 0 [] (Al _) rfl;refine ⟨n+1,?_⟩
  grind [Zv,Wi]
 | k+1,i,h,ht=>by
  have hi:i<l.length:=by omega
  rcases boolc (y2u (rd l i)) with q | q
  ·obtain ⟨n,hn⟩:=v2u k (i+1) (by omega) (fun s hs=>by
    rw [Bl] at hs
    grind [Xf])
   refine ⟨n+1,?_⟩
   grind [Zv,y2u,Wi,wrap_t]
  ·have hv:l.all y2u=false:=A3.2 fun e=>by
    grind [Xf]
   refine ⟨1,?_⟩;rw [Zv,hv,Ad];unfold y2u at q;rcases boolc (decide ((rd l i).a <(rd l i).b)) with q1 | q1 <;> rcases boolc (decide ((rd l i).a ≥ -1000000)) with q2 | q2 <;> rcases boolc (decide ((rd l i).b ≤1000000)) with q3 | q3 <;>
    rw [q1,q2,q3] at q <;> first
    | (exfalso;revert q;decide)
    | simp (disch:=omega) only [Wi,q1,q2,q3,dlt_t,dge_t,din_t,wrap_t,cast_succ,toNat_c,Au,Ay,Ap,Ag,Ad,Zp]
end
theorem v6j (l:List R2): ∃n,Zo (Wi l) n (z8j l)=.ret (y7f l):=by
 unfold z8j y7f;by_cases h:400<l.length
 ·refine ⟨0,?_⟩;rw [Ae h,dgt_t (show (l.length:Int)>400 by omega)];rfl
 ·obtain ⟨n,hn⟩:=v2u l (by omega) l.length 0 (Al _) (fun s hs=>by simp at hs)
  grind
def fSpm :List AVal→Option (AVal×Bool)
 | [a1]=>match asL R2 a1 with
  | some (L1,g1,n1)=>some (.tup [.dat (Xg L1).length (Zy (Xg L1)),.int .i64 (v2v L1)],isT R2 n1 g1&&z9q L1)
  | _=>none
 | _=>none
theorem u0h {S:Specs} (hS:Zw prog S):Zw prog (S.with y8e fSpm):=by
 refine fTwo hS (by kernel_rfl) fun args v h=> ?_;unfold fSpm at h;split at h
 ·rename_i a1;split at h
  ·rename_i L1 g1 n1 e1;simp only [Ab,Aa,Ac] at h;obtain ⟨rfl,ho1,hw⟩:=h;obtain ⟨N,hN⟩:=v6j L1;refine ⟨_,y7f L1,(.cons (Yg e1 ho1) .nil),?_,w7l L1 N _ hN,3,?_⟩
   ·unfold Xg v2v y7f;cases decide (400<L1.length) <;> simp only [Ag,Ad]
    ·cases L1.all y2u <;> simp only [Ag,Ad]
     ·exact fun ρ u hu=>z9o (.cons (z3c R2) (RLe.refl _)) ρ u hu
     ·exact fun ρ u hu=>hu
    ·exact fun ρ u hu=>z9o (.cons (z3c R2) (RLe.refl _)) ρ u hu
   ·unfold y7f;cases decide (400<L1.length) <;> simp only [Ag,Ad]
    ·cases L1.all y2u <;> rfl
    ·rfl
  ·cases h
 ·cases h
def T6 :Specs:=T5.with y8e fSpm
theorem Vo :Zw prog T6:=u0h Jk
theorem bif_and {γ:Type} (a b:Bool) (x y:γ):(bif a&&b then x else y)=bif a then (bif b then x else y) else y:=by grind
theorem bif_not {γ:Type} (a:Bool) (x y:γ):(bif !a then x else y)=bif a then y else x:=by grind
structure Dim (α β:Type) where
 lo:α→Int
 hi:α→Int
 pr:α→β
 put:Int→Int→β→α
 ext:Int→α→α
 mak:List β→List β
 same:List β→List β→Bool
structure Sw (α β:Type) where
 out:List α
 last:List β
 first:Nat
 fin:Int
def y1e (zs:List Int):List Int:=compact (Vv zs)
theorem w6k (zs:List Int):cmpN (Vv zs)=(y1e zs).length :=rfl
theorem Qa (zs:List Int):(Vv zs).length =zs.length:=List.length_mergeSort zs
theorem y5x (zs:List Int):(y1e zs).length ≤zs.length:=by have:=compact_length_le (Vv zs);rw [Qa] at this;exact this
theorem x6b (zs:List Int) (i:Nat) (h:i<(y1e zs).length):rd (Jv (Vv zs)) i=rd (y1e zs) i:=by
 change i<(compact (Vv zs)).length at h;show rd (compact (Vv zs)++_) i=rd (compact (Vv zs)) i
 grind [Xf]
theorem y3l (zs:List Int):Yw zs.length (cOf (Zy (Vv zs)))=Vv zs:=by
 grind [z3h,Qa]
namespace Dim
variable {α β:Type} (D:Dim α β) (l:List α)
def ends :List Int:=l.flatMap fun r=>[D.lo r,D.hi r]
def cuts :List Int:=y1e (D.ends l)
def inn (x:Int):List β:=(l.filter fun r=>decide (D.lo r≤x)&&decide (x<D.hi r)).map D.pr
def sec (x:Int):List β:=D.mak (D.inn l x)
def grow (out:List α) (k:Nat) (x:Int):List α:=out.take k++(out.drop k).map (D.ext x)
def one (x x':Int) (s:Sw α β):Sw α β:=
 bif decide (0<(D.sec l x).length)&&((s.fin == x)&&D.same s.last (D.sec l x)) then ⟨D.grow s.out s.first x',s.last,s.first,x'⟩
 else ⟨s.out++(D.sec l x).map (D.put x x'),D.sec l x,s.out.length,x'⟩
def go :Nat→Nat→Sw α β→Sw α β
 | 0,_,s=>s
 | k+1,i,s=>go k (i+1) (D.one l (rd (D.cuts l) i) (rd (D.cuts l) (i+1)) s)
def out :List α:=(D.go l ((D.cuts l).length - 1) 0 ⟨[],[],0,0⟩).out
theorem ends_length :(D.ends l).length =2*l.length:=by
 induction l with
 | nil=>rfl
 | cons r l ih=>show (_::_::D.ends l).length =_;grind
theorem cuts_length :(D.cuts l).length ≤2*l.length:=by have:=y5x (D.ends l);rw [D.ends_length] at this;exact this
theorem ends_append (m:List α):D.ends (l++m)=D.ends l++D.ends m:=by simp [ends]
theorem inn_append (m:List α) (x:Int):D.inn (l++m) x=D.inn l x++D.inn m x:=by simp [inn]
theorem inn_length (x:Int):(D.inn l x).length ≤l.length:=by grind [inn]
theorem inn_t (r:α) (x:Int) (h1:D.lo r≤x) (h2:x<D.hi r):D.inn [r] x=[D.pr r]:=by simp [inn,h1,h2]
theorem inn_f1 (r:α) (x:Int) (h1: ¬D.lo r≤x):D.inn [r] x=[]:=by simp [inn,h1]
theorem inn_f2 (r:α) (x:Int) (h1: ¬x<D.hi r):D.inn [r] x=[]:=by simp [inn,h1]
theorem grow_nil (out:List α) (k:Nat) (x:Int) (h:out.length≤k):D.grow out k x=out:=by unfold grow;rw [At h,List.map_nil,AJ,A5 h]
theorem grow_length (out:List α) (k:Nat) (x:Int):(D.grow out k x).length =out.length:=by unfold grow;simp;omega
theorem grow_set [Ym α] (out:List α) (j:Nat) (x:Int) (h:j<out.length):D.grow (out.set j (D.ext x (rd out j))) (j+1) x=D.grow out j x:=by
 unfold grow;rw [drop_rd h,A2];have e1:(out.set j (D.ext x (rd out j))).take (j+1)=out.take j++[D.ext x (rd out j)]:=by
  apply Bz;all_goals grind
 have e2:(out.set j (D.ext x (rd out j))).drop (j+1)=out.drop (j+1):=by rw [List.drop_set];grind
 grind
theorem one_length (x x':Int) (s:Sw α β):(D.one l x x' s).out.length ≤s.out.length+(D.sec l x).length :=by
 grind [one,grow_length]
end Dim
open Go.Proofs.Tryz
open Go.Proofs
inductive vl4S where
def vl4C (aA:Int) (aG:Int) (aH:Int) (aF:Int):vl4S→Cfg
 :=nofun
def y9x (aA:Int) (aG:Int) (aH:Int) (aF:Int):vl4S→Ya vl4S
 :=nofun
def z8h (aA:Int) (aG:Int) (aH:Int) (aF:Int):Ya vl4S:=(bif (decide (aA<aH)) then (bif (decide (aG<aF)) then (bif (decide (aA≥(-1000000))) then (bif (decide (aA≤1000000)) then (bif (decide (aH≥(-1000000))) then (bif (decide (aH≤1000000)) then (bif (decide (aG≥(-1000000))) then (bif (decide (aG≤1000000)) then (bif (decide (aF≥(-1000000))) then (.ret [(.bool (decide (aF≤1000000)))]) else (.ret [(.bool false)])) else (.ret [(.bool false)])) else (.ret [(.bool false)])) else (.ret [(.bool false)])) else (.ret [(.bool false)])) else (.ret [(.bool false)])) else (.ret [(.bool false)])) else (.ret [(.bool false)])) else (.ret [(.bool false)]))
theorem x7o (aA:Int) (aG:Int) (aH:Int) (aF:Int): ∀s,Yh prog (Zz prog 114) (vl4C aA aG aH aF) (vl4C aA aG aH aF s) (y9x aA aG aH aF s)
 :=nofun
theorem y9y (aA:Int) (aG:Int) (aH:Int) (aF:Int):Yh prog (Zz prog 114) (vl4C aA aG aH aF) (Zj prog 114 [(.agg [(.int .i64 aA),(.int .i64 aG),(.int .i64 aH),(.int .i64 aF)])] true []) (z8h aA aG aH aF):=(lb (fun k0=>(lb (fun k1=>(lb (fun k2=>(lb (fun k3=>(lb (fun k4=>(lb (fun k5=>(lb (fun k6=>(lb (fun k7=>(lb (fun k8=>(lr 35 3 [1,1,1,1,1,1,1,1,0] 1 5 [(2,(.bool (decide (aF≤1000000))))] (sl Vo 101 [] ⟨[],[],[some [2]],[]⟩ ⟨[],[],[]⟩ (trs 25 []) (tt k8 (tt k7 (tt k6 (tt k5 (tt k4 (tt k3 (tt k2 (tt k1 (tt k0 nn)))))))))))) (fun k8=>(lr 35 3 [1,1,1,1,1,1,1,1,0] 1 5 [(2,(.bool false))] (sl Vo 101 [] ⟨[],[],[some [2]],[]⟩ ⟨[],[],[]⟩ (trs 23 [false,false]) (tt k8 (tt k7 (tt k6 (tt k5 (tt k4 (tt k3 (tt k2 (tt k1 (tt k0 nn)))))))))))))) (fun k7=>(lr 35 3 [1,1,1,1,1,1,1,1,0] 1 5 [(2,(.bool false))] (sl Vo 86 [] ⟨[],[],[some [2]],[]⟩ ⟨[],[],[]⟩ (trs 20 [false,false,false]) (tt k7 (tt k6 (tt k5 (tt k4 (tt k3 (tt k2 (tt k1 (tt k0 nn))))))))))))) (fun k6=>(lr 35 3 [1,1,1,1,1,1,1,1,0] 1 5 [(2,(.bool false))] (sl Vo 86 [] ⟨[],[],[some [2]],[]⟩ ⟨[],[],[]⟩ (trs 18 [false,false,false,false,false]) (tt k6 (tt k5 (tt k4 (tt k3 (tt k2 (tt k1 (tt k0 nn)))))))))))) (fun k5=>(lr 35 3 [1,1,1,1,1,1,1,1,0] 1 5 [(2,(.bool false))] (sl Vo 71 [] ⟨[],[],[some [2]],[]⟩ ⟨[],[],[]⟩ (trs 15 [false,false,false,false,false,false]) (tt k5 (tt k4 (tt k3 (tt k2 (tt k1 (tt k0 nn))))))))))) (fun k4=>(lr 35 3 [1,1,1,1,1,1,1,1,0] 1 5 [(2,(.bool false))] (sl Vo 71 [] ⟨[],[],[some [2]],[]⟩ ⟨[],[],[]⟩ (trs 13 [false,false,false,false,false,false,false,false]) (tt k4 (tt k3 (tt k2 (tt k1 (tt k0 nn)))))))))) (fun k3=>(lr 35 3 [1,1,1,1,1,1,1,1,0] 1 5 [(2,(.bool false))] (sl Vo 56 [] ⟨[],[],[some [2]],[]⟩ ⟨[],[],[]⟩ (trs 10 [false,false,false,false,false,false,false,false,false]) (tt k3 (tt k2 (tt k1 (tt k0 nn))))))))) (fun k2=>(lr 35 3 [1,1,1,1,1,1,1,1,0] 1 5 [(2,(.bool false))] (sl Vo 56 [] ⟨[],[],[some [2]],[]⟩ ⟨[],[],[]⟩ (trs 8 [false,false,false,false,false,false,false,false,false,false,false]) (tt k2 (tt k1 (tt k0 nn)))))))) (fun k1=>(lr 35 3 [1,1,1,1,1,1,1,1,0] 1 5 [(2,(.bool false))] (sl Vo 41 [] ⟨[],[],[some [2]],[]⟩ ⟨[],[],[]⟩ (trs 5 [false,false,false,false,false,false,false,false,false,false,false,false]) (tt k1 (tt k0 nn))))))) (fun k0=>(lr 35 3 [1,1,1,1,1,1,1,1,0] 1 5 [(2,(.bool false))] (sl Vo 41 [] ⟨[],[],[some [2]],[]⟩ ⟨[],[],[]⟩ [false,false,false,false,false,false,false,false,false,false,false,false,false,false,false,false,false] (tt k0 nn)))))
theorem w7h (aA:Int) (aG:Int) (aH:Int) (aF:Int) (n:Nat) (vs:List AVal) (h:Zo (y9x aA aG aH aF) n (z8h aA aG aH aF)=.ret vs):Ws prog (Zz prog 114) (Zj prog 114 [(.agg [(.int .i64 aA),(.int .i64 aG),(.int .i64 aH),(.int .i64 aF)])] true []) vs:=by have:=Zk (x7o aA aG aH aF) n _ (y9y aA aG aH aF);rwa [h] at this
inductive madS where
 | h0 (v16:Int) (aC:List Int)
 | h1 (v4:Int) (aL:List R4) (bM:List R2) (bR:Int) (bS:Int) (aO:Nat) (aT:List Int)
 | h2 (v4:Int) (v38:Int) (aL:List R4) (bM:List R2) (bR:Int) (bS:Int) (aO:Nat) (aT:List Int) (aB:Int) (bZ:Int) (aK:List R2)
 | h3 (v1:Int) (v2:Int) (v71:List R2) (v72:Int) (v73:Int) (bK:List R2) (bD:Int) (aE:List R4) (bB:List R2) (bE:Int) (aO:Nat) (aT:List Int) (aB:List R2)
 | h4 (v2:Int) (v8:Int) (cF:Int) (bK:List R2) (bD:Int) (aE:List R4) (bB:List R2) (bE:Int) (bO:Int) (bV:Nat) (cD:List Int) (aK:List R2)
def madC (l0:List R4):madS→Cfg
 | .h0 v16 aC=>⟨⟨34,0,true⟩,none,(Zm prog 144 [1,1,0,1,0,0,1,1,0,0,1,1,0,0] 0),none,(Zz prog 5),⟨Yx [(1,(.ptr 0 0)),(3,(.ptr 2 0)),(8,(.sl 1 0 1 (.un 1))),(9,(ii 1)),(10,(ii 0)),(14,(.dat l0.length (Zy l0))),(15,(ii (l0.length:Int))),(16,(ii v16))],Xj [⟨[(.sl 1 0 1 (.un 1))],144,none⟩,⟨[(.dat l0.length (Zy l0))],138,none⟩,⟨[(.sla 4 1 0 aC.length (.un 1))],93,none⟩,⟨[.nils,.nils,(ii 0),(ii 0)],184,none⟩,⟨rows aC.length (Zy aC),3,some ⟨1,aC.length,(Zy aC)⟩⟩] 0,5,[],true⟩,[⟨⟨29,0,true⟩,(z1q prog 115 [1,1,0,0] 2),(Zm prog 115 [1,1,0,0] 1),none,(Zz prog 17),Yx [(2,.nils),(3,(ii 0)),(4,(.ptr 3 0)),(9,(.sl 1 0 1 (.un 1)))]⟩],.leaf⟩
 | .h1 v4 aL bM bR bS aO aT=>⟨⟨76,0,true⟩,none,(Zm prog 164 [1,0,0] 0),none,[],⟨Yx [(0,(.yld 0)),(1,(.ptr 2 0)),(2,(.ptr 4 0)),(4,(ii v4))],x6n [(1,⟨[(.sla 6 4 0 aL.length (.un 4)),(.dat bM.length (Zy bM)),(ii bR),(ii bS)],184,none⟩),(2,⟨[(.sla 3 1 0 aO (.un 1))],93,none⟩),(3,⟨rows aT.length (Zy aT),3,some ⟨1,aT.length,(Zy aT)⟩⟩),(4,⟨[(.sl 5 0 1 (.un 1))],144,none⟩),(5,⟨[(.dat l0.length (Zy l0))],138,none⟩),(6,⟨rows aL.length (Zy aL),155,some ⟨4,aL.length,(Zy aL)⟩⟩)],7,[],true⟩,[⟨⟨29,0,true⟩,none,(.inRangeFunc 0::(Zm prog 115 [1,1,0,1,0] 1)),none,(Zz prog 17),Yx [(2,.nils),(3,(ii 0)),(4,(.ptr 1 0))]⟩],(x6o [(0,⟨.ready,none,29,Yx [(4,(.ptr 1 0))],[11],(Uj prog 115 [1,1,0,1,0,0]),(Uj prog 115 [1,1,0,1,0,1])⟩)])⟩
 | .h2 v4 v38 aL bM bR bS aO aT aB bZ aK=>⟨⟨76,0,true⟩,none,(Zm prog 164 [1,0,0,1,0,0,1,0,1,0,0,1,1,0,0,1,1,0,0] 0),none,[],⟨Yx [(0,(.yld 0)),(1,(.ptr 2 0)),(2,(.ptr 4 0)),(4,(ii v4)),(5,(.ptr 6 0)),(6,(ii 0)),(29,(.sl 5 0 1 (.un 1))),(30,(ii 1)),(31,(ii 0)),(36,(.dat l0.length (Zy l0))),(37,(ii (l0.length:Int))),(38,(ii v38))],x6n [(1,⟨[(.sla 9 4 0 aL.length (.un 4)),(.dat bM.length (Zy bM)),(ii bR),(ii bS)],184,none⟩),(2,⟨[(.sla 3 1 0 aO (.un 1))],93,none⟩),(3,⟨rows aT.length (Zy aT),3,some ⟨1,aT.length,(Zy aT)⟩⟩),(4,⟨[(.sl 5 0 1 (.un 1))],144,none⟩),(5,⟨[(.dat l0.length (Zy l0))],138,none⟩),(6,⟨[(ii aB),(ii bZ),(.sl 7 0 1 (.ex 1))],189,none⟩),(7,⟨[(.sla 8 2 0 aK.length (.un 2))],173,none⟩),(8,⟨rows aK.length (Zy aK),180,some ⟨2,aK.length,(Zy aK)⟩⟩),(9,⟨rows aL.length (Zy aL),155,some ⟨4,aL.length,(Zy aL)⟩⟩)],10,[],true⟩,[⟨⟨29,0,true⟩,none,(.inRangeFunc 0::(Zm prog 115 [1,1,0,1,0] 1)),none,(Zz prog 17),Yx [(2,.nils),(3,(ii 0)),(4,(.ptr 1 0))]⟩],(x6o [(0,⟨.ready,none,29,Yx [(4,(.ptr 1 0))],[11],(Uj prog 115 [1,1,0,1,0,0]),(Uj prog 115 [1,1,0,1,0,1])⟩)])⟩
 | .h3 v1 v2 v71 v72 v73 bK bD aE bB bE aO aT aB=>⟨⟨94,0,true⟩,none,(Zm prog 127 [1,1,1,0,0] 0),none,[],⟨Yx [(0,(.ptr 0 0)),(1,(ii v1)),(2,(ii v2)),(71,(.dat v71.length (Zy v71))),(72,(ii v72)),(73,(ii v73))],x6n [(0,⟨[(.sla 7 4 0 aE.length (.un 4)),(.dat bB.length (Zy bB)),(ii bE),(ii v2)],184,none⟩),(2,⟨[(.sla 3 1 0 aO (.un 1))],93,none⟩),(3,⟨rows aT.length (Zy aT),3,some ⟨1,aT.length,(Zy aT)⟩⟩),(4,⟨[(.sl 5 0 1 (.un 1))],144,none⟩),(5,⟨[(.dat l0.length (Zy l0))],138,none⟩),(6,⟨[(.dat aB.length (Zy aB))],173,none⟩),(7,⟨rows aE.length (Zy aE),155,some ⟨4,aE.length,(Zy aE)⟩⟩)],8,[],true⟩,[⟨⟨29,0,true⟩,(z1q prog 115 [1,1,0,1,0,1,0,1] 5),(Zm prog 115 [1,1,0,1,0,1,0,1] 1),(some 1),[],Yx [(4,(.ptr 0 0)),(21,(ii v1)),(23,(ii v2)),(24,(.dat bK.length (Zy bK)))]⟩,⟨⟨76,0,true⟩,(z1q prog 164 [1,0,0,1,0,0,1,1,0] 2),(Zm prog 164 [1,0,0,1,0,0,1,1,0] 1),none,[],Yx [(0,(.yld 1)),(1,(.ptr 2 0)),(2,(.ptr 4 0)),(4,(ii bD)),(72,(.yld 1)),(73,(.agg [(ii v1),(ii v2),(.sl 6 0 1 (.ex 1))]))]⟩,⟨⟨29,0,true⟩,none,(.inRangeFunc 1::(Zm prog 115 [1,1,0,1,0] 1)),none,(Zz prog 17),Yx [(2,.nils),(3,(ii 0)),(4,(.ptr 0 0))]⟩],(x6o [(1,⟨.busy,none,29,Yx [(4,(.ptr 0 0))],[11],(Uj prog 115 [1,1,0,1,0,0]),(Uj prog 115 [1,1,0,1,0,1])⟩)])⟩
 | .h4 v2 v8 cF bK bD aE bB bE bO bV cD aK=>⟨⟨94,0,true⟩,none,(Zm prog 127 [0,1,0,0,1,0,0] 0),none,[],⟨Yx [(0,(.ptr 0 0)),(2,(ii v2)),(8,(ii v8))],x6n [(0,⟨[(.sla 1 4 0 aE.length (.un 4)),(.dat bB.length (Zy bB)),(ii bE),(ii bO)],184,none⟩),(1,⟨rows aE.length (Zy aE),155,some ⟨4,aE.length,(Zy aE)⟩⟩),(3,⟨[(.sla 4 1 0 bV (.un 1))],93,none⟩),(4,⟨rows cD.length (Zy cD),3,some ⟨1,cD.length,(Zy cD)⟩⟩),(5,⟨[(.sl 6 0 1 (.un 1))],144,none⟩),(6,⟨[(.dat l0.length (Zy l0))],138,none⟩),(7,⟨[(.dat aK.length (Zy aK))],173,none⟩)],8,[],true⟩,[⟨⟨29,0,true⟩,(z1q prog 115 [1,1,0,1,0,1,0,1] 5),(Zm prog 115 [1,1,0,1,0,1,0,1] 1),(some 2),[],Yx [(4,(.ptr 0 0)),(21,(ii cF)),(23,(ii v2)),(24,(.dat bK.length (Zy bK)))]⟩,⟨⟨76,0,true⟩,(z1q prog 164 [1,0,0,1,0,0,1,1,0] 2),(Zm prog 164 [1,0,0,1,0,0,1,1,0] 1),none,[],Yx [(0,(.yld 2)),(1,(.ptr 3 0)),(2,(.ptr 5 0)),(4,(ii bD)),(72,(.yld 2)),(73,(.agg [(ii cF),(ii v2),(.sl 7 0 1 (.ex 1))]))]⟩,⟨⟨29,0,true⟩,none,(.inRangeFunc 2::(Zm prog 115 [1,1,0,1,0] 1)),none,(Zz prog 17),Yx [(2,.nils),(3,(ii 0)),(4,(.ptr 0 0))]⟩],(x6o [(2,⟨.busy,none,29,Yx [(4,(.ptr 0 0))],[11],(Uj prog 115 [1,1,0,1,0,0]),(Uj prog 115 [1,1,0,1,0,1])⟩)])⟩
def madN0 :List (Option (List Nat)):=[some [1,3,8,9,10,14,15,16],some [2,3,4,9]]
def madM0 :List (Option (List Nat)):=[]
def v8w :List (Option (List Nat)):=[some [0,1,2,4],some [2,3,4]]
def v8x :List (Option (List Nat)):=[some [4],none,none,none,none,none,none]
def v0f :List (Option (List Nat)):=[some [0,1,2,4,5,6,29,30,31,36,37,38],some [2,3,4]]
def v0h :List (Option (List Nat)):=[some [4],none,none,none,none,none,none,none,none,none]
def v0e :List (Option (List Nat)):=[some [0,1,2,71,72,73],some [4,21,23,24],some [0,1,2,4,72,73],some [2,3,4]]
def v0g :List (Option (List Nat)):=[none,some [4],none,none,none,none,none,none]
def madN4 :List (Option (List Nat)):=[some [0,2,8],some [4,21,23,24],some [0,1,2,4,72,73],some [2,3,4]]
def madM4 :List (Option (List Nat)):=[none,none,some [4],none,none,none,none,none]
def Xy (l0:List R4):madS→Ya madS
 | .h0 v16 aC=>(bif (decide (v16<(l0.length:Int))) then (bif ((decide (0≤v16∧v16<(l0.length:Int)))&&true) then (bif (Nat.beq 1 1&&((decide (0+aC.length=aC.length))&&decide ((aC.length+2+1)*(8+1)≤Jq))) then (.to (.h0 (wrap .i64 (v16+1)) (aC++[(rd l0 v16.toNat).a,(rd l0 v16.toNat).c]))) else .stuck) else .stuck) else (bif (decide (aC.length<4611686018427387904)) then (bif (decide (aC.length=aC.length)) then (.to (.h1 1 ([]:List R4) ([]:List R2) 0 0 (cmpN (Yw aC.length (cOf (Zy (Vv (Yw aC.length (cOf (Zy aC)))))))) (Jv (Yw aC.length (cOf (Zy (Vv (Yw aC.length (cOf (Zy aC)))))))))) else .stuck) else .stuck))
 | .h1 v4 aL bM bR bS aO aT=>(bif (decide (v4<((aO:Nat):Int))) then (bif ((decide (0≤(wrap .i64 (v4 - 1))∧(wrap .i64 (v4 - 1))<((aO:Nat):Int)))&&true) then (bif (decide ((0+(Int.toNat (wrap .i64 (v4 - 1))))<aT.length)) then (bif ((decide (0≤v4∧v4<((aO:Nat):Int)))&&true) then (bif (decide ((0+v4.toNat)<aT.length)) then (.to (.h2 v4 0 aL bM bR bS aO aT (rd aT (0+(Int.toNat (wrap .i64 (v4 - 1))))) (rd aT (0+v4.toNat)) ([]:List R2))) else .stuck) else .stuck) else .stuck) else .stuck) else (bif (decide ((aL.length:Int)>400)) then (.ret [.nils,(.int .i64 4)]) else (.ret [(.dat aL.length (Zy aL)),(.int .i64 0)])))
 | .h2 v4 v38 aL bM bR bS aO aT aB bZ aK=>(bif (decide (v38<(l0.length:Int))) then (bif ((decide (0≤v38∧v38<(l0.length:Int)))&&true) then (bif (decide ((rd l0 v38.toNat).a ≤aB)) then (bif (decide (aB<(rd l0 v38.toNat).c)) then (bif (Nat.beq 2 2&&((decide (0+aK.length=aK.length))&&decide ((aK.length+1+1)*(16+1)≤Jq))) then (.to (.h2 v4 (wrap .i64 (v38+1)) aL bM bR bS aO aT aB bZ (aK++[(R2.mk (rd l0 v38.toNat).b (rd l0 v38.toNat).d)]))) else .stuck) else (.to (.h2 v4 (wrap .i64 (v38+1)) aL bM bR bS aO aT aB bZ aK))) else (.to (.h2 v4 (wrap .i64 (v38+1)) aL bM bR bS aO aT aB bZ aK))) else .stuck) else (bif (z9q (cvT aK)) then (bif (decide ((((Xg (cvT aK)).length :Nat):Int)>0)) then (bif (bS == aB) then (bif (Vq (cvT bM) (cvT (Xg (cvT aK)))) then (bif (Jt (cvT bM) (cvT (Xg (cvT aK)))) then (.to (.h4 bZ bR aB (Xg (cvT aK)) v4 aL bM bR bS aO aT aK)) else (.to (.h3 aB bZ (Xg (cvT aK)) (((Xg (cvT aK)).length :Nat):Int) 0 (Xg (cvT aK)) v4 aL (Xg (cvT aK)) (aL.length:Int) aO aT aK))) else .stuck) else (.to (.h3 aB bZ (Xg (cvT aK)) (((Xg (cvT aK)).length :Nat):Int) 0 (Xg (cvT aK)) v4 aL (Xg (cvT aK)) (aL.length:Int) aO aT aK))) else (.to (.h3 aB bZ (Xg (cvT aK)) (((Xg (cvT aK)).length :Nat):Int) 0 (Xg (cvT aK)) v4 aL (Xg (cvT aK)) (aL.length:Int) aO aT aK))) else .stuck))
 | .h3 v1 v2 v71 v72 v73 bK bD aE bB bE aO aT aB=>(bif (decide (v73<v72)) then (bif ((decide (0≤v73∧v73<(v71.length:Int)))&&true) then (bif (Nat.beq 4 4&&((decide (0+aE.length=aE.length))&&decide ((aE.length+1+1)*(32+1)≤Jq))) then (.to (.h3 v1 v2 v71 v72 (wrap .i64 (v73+1)) bK bD (aE++[(R4.mk v1 (rd v71 v73.toNat).a v2 (rd v71 v73.toNat).b)]) bB bE aO aT aB)) else .stuck) else .stuck) else (.to (.h1 (wrap .i64 (bD+1)) aE bB bE v2 aO aT)))
 | .h4 v2 v8 cF bK bD aE bB bE bO bV cD aK=>(bif (decide (v8<(aE.length:Int))) then (bif ((decide (0≤v8∧v8<(aE.length:Int)))&&true) then (bif (decide ((0+v8.toNat)<aE.length)) then (.to (.h4 v2 (wrap .i64 (v8+1)) cF bK bD (aE.set (0+v8.toNat) (R4.mk (rd aE (0+v8.toNat)).a (rd aE (0+v8.toNat)).b v2 (rd aE (0+v8.toNat)).d)) bB bE bO bV cD aK)) else .stuck) else .stuck) else (.to (.h1 (wrap .i64 (bD+1)) aE bB bE v2 bV cD)))
def y5i (l0:List R4):Ya madS:=(.to (.h0 0 ([]:List Int)))
theorem x9v (l0:List R4): ∀s,Yh prog (Zz prog 115) (madC l0) (madC l0 s) (Xy l0 s)
 | .h0 v16 aC=>(lb (fun k0=>(lo fun o0=>(lo fun o1=>(sl Vo 32 [] ⟨[0,1,2,3,7],[],madN0,madM0⟩ ⟨[],[.keep,.keep,.cells [.len (aC++[(rd l0 (tn v16)).a,(rd l0 (tn v16)).c]).length],.keep,.rowed 1 (aC++[(rd l0 (tn v16)).a,(rd l0 (tn v16)).c]).length (Zy (aC++[(rd l0 (tn v16)).a,(rd l0 (tn v16)).c]))],[]⟩ [true] (pp (xL (aC.length+2) (aC++[(rd l0 (tn v16)).a,(rd l0 (tn v16)).c]).length) (pp (xL (aC.length+2) (aC++[(rd l0 (tn v16)).a,(rd l0 (tn v16)).c]).length) (pp (xS (aC.length+2) (Ze (Zy aC) 0 aC.length 1 [(ii (rd l0 (tn v16)).a),(ii (rd l0 (tn v16)).c)]) (Zy (aC++[(rd l0 (tn v16)).a,(rd l0 (tn v16)).c]))) (pp (pp (xF (Ze (Zy aC) 0 aC.length 1 [(ii (rd l0 (tn v16)).a),(ii (rd l0 (tn v16)).c)])) nn) (ww o1 (ww o0 (tt k0 nn))))))))))) (fun k0=>(lo fun o0=>(lo fun o1=>(sl Vo 46 [(155,4,Zy ([]:List R4))] ⟨[5,3,2,4,0,1,6],[],v8w,v8x⟩ ⟨[],[.keep,.cells [.grow 6 4,.list 0 (Zy ([]:List R2)),.keep,.keep],.keep,.rowed 1 (Jv (Yw aC.length (cOf (Zy (Vv (Yw aC.length (cOf (Zy aC)))))))).length (Zy (Jv (Yw aC.length (cOf (Zy (Vv (Yw aC.length (cOf (Zy aC))))))))),.keep,.keep,.keep],[]⟩ (bl 2 0) (pp (xL aC.length (Jv (Yw aC.length (cOf (Zy (Vv (Yw aC.length (cOf (Zy aC)))))))).length (by first | exact y8i _ _ | exact Kj rfl)) (pp (xS aC.length (Zy (Jv (Yw aC.length (cOf (Zy (Vv (Yw aC.length (cOf (Zy aC))))))))) (Zy (Jv (Yw aC.length (cOf (Zy (Vv (Yw aC.length (cOf (Zy aC)))))))))) (pp (fl (Jv (Yw aC.length (cOf (Zy (Vv (Yw aC.length (cOf (Zy aC)))))))) (fl ([]:List R4) nn)) (pp (pp (xG (Nat.beq 1 1)) (pp (xG (Nat.beq 1 1)) (pp (xG (Nat.beq 0 0)) (pp (xG (decide (aC.length=aC.length))) (pp (xG (isI (Zy (Vv (Yw aC.length (cOf (Zy aC))))))) (xG (decide (aC.length<4611686018427387904)))))))) (pp (pp (xG (Nat.beq 1 1)) (pp (xG (Nat.beq 1 1)) (pp (xG (Nat.beq 0 0)) (pp (xG (decide (aC.length=aC.length))) (pp (xG (isI (Zy aC))) (xG (decide (aC.length<4611686018427387904)))))))) (tt k0 nn)))))))))))
 | .h1 v4 aL bM bR bS aO aT=>(lb (fun k0=>(lo fun o0=>(lo fun o1=>(lo fun o2=>(lo fun o3=>(sl Vo 48 [(180,2,Zy ([]:List R2))] ⟨[0,1,2,3,4,5,7,8,9,6],[],v0f,v0h⟩ ⟨[],(kpB 7 [.cells [.grow 8 2],.keep,.keep]),[]⟩ (trs 3 []) (pp (fl aT (fl ([]:List R2) (fl aL nn))) (ww o3 (ww o2 (ww o1 (ww o0 (tt k0 nn)))))))))))) (fun k0=>(lb (fun k1=>(lr 29 3 [1,1,1,1,1,1,1,1,0] 1 17 [(2,.nils),(3,(ii 4))] (sl Vo 43 [] ⟨[],[],[some [2,3]],[]⟩ ⟨[],[],[]⟩ (bl 2 2) (tt k1 (tt k0 nn))))) (fun k1=>(lr 29 3 [1,1,1,1,1,1,1,1,0] 1 17 [(2,(.dat aL.length (Zy aL))),(3,(ii 0))] (sl Vo 48 [] ⟨[],[6],[some [2,3]],[]⟩ ⟨[(2,.frz aL.length aL.length (Zy aL) (Zy aL))],[],[]⟩ (bl 2 0) (pp (xZ (y5s 4 4 0 aL.length aL.length (Zy aL)) aL.length (Zy aL)) (pp (xL aL.length aL.length) (pp (xS aL.length (Zy aL) (Zy aL)) (pp (fl aL nn) (tt k1 (tt k0 nn))))))))))))
 | .h2 v4 v38 aL bM bR bS aO aT aB bZ aK=>(lb (fun k0=>(lo fun aI=>(lb (fun k1=>(lb (fun k2=>(lo fun o0=>(sl Vo 39 [] ⟨[0,1,2,3,4,5,6,7,12,9],[],v0f,v0h⟩ ⟨[],(kpB 7 [.cells [.len (aK++[(R2.mk (rd l0 (tn v38)).b (rd l0 (tn v38)).d)]).length],.rowed 2 (aK++[(R2.mk (rd l0 (tn v38)).b (rd l0 (tn v38)).d)]).length (Zy (aK++[(R2.mk (rd l0 (tn v38)).b (rd l0 (tn v38)).d)])),.keep]),[]⟩ (trs 7 []) (pp (xL (aK.length+1) (aK++[(R2.mk (rd l0 (tn v38)).b (rd l0 (tn v38)).d)]).length) (pp (xL (aK.length+1) (aK++[(R2.mk (rd l0 (tn v38)).b (rd l0 (tn v38)).d)]).length) (pp (xS (aK.length+1) (Ze (Zy aK) 0 aK.length 2 [(ii (rd l0 (tn v38)).b),(ii (rd l0 (tn v38)).d)]) (Zy (aK++[(R2.mk (rd l0 (tn v38)).b (rd l0 (tn v38)).d)]))) (pp (fl aT (pp (xF (Ze (Zy aK) 0 aK.length 2 [(ii (rd l0 (tn v38)).b),(ii (rd l0 (tn v38)).d)])) (fl aL nn))) (ww o0 (tt k2 (tt k1 (ww aI (tt k0 nn)))))))))))) (fun k2=>(sl Vo 39 [] ⟨(List.range 10),[],v0f,v0h⟩ ⟨[],[],[]⟩ (trs 6 [false]) (pp (fl aT (fl aK (fl aL nn))) (tt k2 (tt k1 (ww aI (tt k0 nn))))))))) (fun k1=>(sl Vo 39 [] ⟨(List.range 10),[],v0f,v0h⟩ ⟨[],[],[]⟩ (bl 7 1) (pp (fl aT (fl aK (fl aL nn))) (tt k1 (ww aI (tt k0 nn))))))))) (fun k0=>(Qv (sl Vo (C':=⟨⟨29,0,true⟩,(z1q prog 115 [1,1,0,1,0,1,0,0] 4),(Zm prog 115 [1,1,0,1,0,1,0,0] 1),(some 0),[],⟨Yx [(4,(.ptr 1 0)),(5,(.ptr 3 0)),(16,(.dat aK.length (Zy aK)))],x6n [(1,⟨[(.sla 2 4 0 aL.length (.un 4)),(.dat bM.length (Zy bM)),(ii bR),(ii bS)],184,none⟩),(2,⟨rows aL.length (Zy aL),155,some ⟨4,aL.length,(Zy aL)⟩⟩),(3,⟨[(ii aB),(ii bZ),(.sl 4 0 1 (.ex 1))],189,none⟩),(4,⟨[(.dat aK.length (Zy aK))],173,none⟩),(5,⟨[(.sla 6 1 0 aO (.un 1))],93,none⟩),(6,⟨rows aT.length (Zy aT),3,some ⟨1,aT.length,(Zy aT)⟩⟩),(7,⟨[(.sl 8 0 1 (.un 1))],144,none⟩),(8,⟨[(.dat l0.length (Zy l0))],138,none⟩)],9,[],true⟩,[⟨⟨76,0,true⟩,(z1q prog 164 [1,0,0,1,0,0,1,1,0] 2),(Zm prog 164 [1,0,0,1,0,0,1,1,0] 1),none,[],Yx [(0,(.yld 0)),(1,(.ptr 5 0)),(2,(.ptr 7 0)),(4,(ii v4)),(72,(.yld 0)),(73,(.agg [(ii aB),(ii bZ),(.sl 4 0 1 (.ex 1))]))]⟩,⟨⟨29,0,true⟩,none,(.inRangeFunc 0::(Zm prog 115 [1,1,0,1,0] 1)),none,(Zz prog 17),Yx [(2,.nils),(3,(ii 0)),(4,(.ptr 1 0))]⟩],(x6o [(0,⟨.busy,none,29,Yx [(4,(.ptr 1 0))],[11],(Uj prog 115 [1,1,0,1,0,0]),(Uj prog 115 [1,1,0,1,0,1])⟩)])⟩) 37 [] ⟨[0,1,9,10,7,2,3,4,5],[8],[some [4,5,16],some [0,1,2,4,72,73],some [2,3,4]],[some [4],none,none,none,none,none,none,none,none]⟩ ⟨[(16,.frz aK.length aK.length (Zy aK) (Zy aK))],[.keep,.keep,.keep,.keep,.cells [.frz aK.length aK.length (Zy aK) (Zy aK)],.keep,.keep,.keep,.keep],[]⟩ (bl 2 0) (pp (xZ (y5s 2 2 0 aK.length aK.length (Zy aK)) aK.length (Zy aK)) (pp (xL aK.length aK.length) (pp (xS aK.length (Zy aK) (Zy aK)) (pp (xZ (y5s 2 2 0 aK.length aK.length (Zy aK)) aK.length (Zy aK)) (pp (xL aK.length aK.length) (pp (xS aK.length (Zy aK) (Zy aK)) (pp (fl aL (fl aT nn)) (pp (fl aK nn) (tt k0 nn)))))))))) (lo fun aI=>(lb (fun k1=>(lb (fun k2=>(lo fun cC=>(lb (fun k3=>(sl Vo 49 [] ⟨[1,2,0,5,6,7,8,4],[],madN4,madM4⟩ ⟨[],[],[]⟩ (trs 13 []) (pp (fl aL (fl aT nn)) (tt k3 (pp (pp (xr bM) (pp (xI R2 (Xg (cvT aK)).length (Zy (Xg (cvT aK)))) (xw cC))) (tt k2 (tt k1 (pp (pp (xr aK) (xw aI)) nn)))))))) (fun k3=>(sl Vo 69 [] ⟨[1,0,5,6,7,8,4,2],[],v0e,v0g⟩ ⟨[],[],[]⟩ (trs 12 [false]) (pp (fl aT (fl aL nn)) (tt k3 (pp (pp (xr bM) (pp (xI R2 (Xg (cvT aK)).length (Zy (Xg (cvT aK)))) (xw cC))) (tt k2 (tt k1 (pp (pp (xr aK) (xw aI)) nn))))))))))) (fun k2=>(sl Vo 69 [] ⟨[1,0,5,6,7,8,4,2],[],v0e,v0g⟩ ⟨[],[],[]⟩ (trs 6 (bl 7 0)) (pp (fl aT (fl aL nn)) (tt k2 (tt k1 (pp (pp (xr aK) (xw aI)) nn)))))))) (fun k1=>(sl Vo 69 [] ⟨[1,0,5,6,7,8,4,2],[],v0e,v0g⟩ ⟨[],[],[]⟩ (bl 13 0) (pp (fl aT (fl aL nn)) (tt k1 (pp (pp (xr aK) (xw aI)) nn))))))))))
 | .h3 v1 v2 v71 v72 v73 bK bD aE bB bE aO aT aB=>(lb (fun k0=>(lo fun o0=>(lo fun o1=>(sl Vo 23 [] ⟨[0,1,2,3,4,5,6,10],[],v0e,v0g⟩ ⟨[],[.cells [.len (aE++[(R4.mk v1 (rd v71 (tn v73)).a v2 (rd v71 (tn v73)).b)]).length,.keep,.keep,.keep],.keep,.keep,.keep,.keep,.keep,.keep,.rowed 4 (aE++[(R4.mk v1 (rd v71 (tn v73)).a v2 (rd v71 (tn v73)).b)]).length (Zy (aE++[(R4.mk v1 (rd v71 (tn v73)).a v2 (rd v71 (tn v73)).b)]))],[]⟩ [true] (pp (xL (aE.length+1) (aE++[(R4.mk v1 (rd v71 (tn v73)).a v2 (rd v71 (tn v73)).b)]).length) (pp (xL (aE.length+1) (aE++[(R4.mk v1 (rd v71 (tn v73)).a v2 (rd v71 (tn v73)).b)]).length) (pp (xS (aE.length+1) (Ze (Zy aE) 0 aE.length 4 [(ii v1),(ii (rd v71 (tn v73)).a),(ii v2),(ii (rd v71 (tn v73)).b)]) (Zy (aE++[(R4.mk v1 (rd v71 (tn v73)).a v2 (rd v71 (tn v73)).b)]))) (pp (fl aT (pp (xF (Ze (Zy aE) 0 aE.length 4 [(ii v1),(ii (rd v71 (tn v73)).a),(ii v2),(ii (rd v71 (tn v73)).b)])) nn)) (ww o1 (ww o0 (tt k0 nn))))))))))) (fun k0=>(sl Vo 22 [] ⟨[1,0,2,3,4,5,7],[],v8w,v8x⟩ ⟨[],[],[]⟩ (bl 2 0) (pp (fl aT (fl aE nn)) (tt k0 nn)))))
 | .h4 v2 v8 cF bK bD aE bB bE bO bV cD aK=>(lb (fun k0=>(lo fun o0=>(lo fun o1=>(sl Vo 33 [] ⟨(List.range 8),[],madN4,madM4⟩ ⟨[],[.cells [.len (aE.set (0+(tn v8)) (R4.mk (rd aE (0+(tn v8))).a (rd aE (0+(tn v8))).b v2 (rd aE (0+(tn v8))).d)).length,.keep,.keep,.keep],.rowed 4 (aE.set (0+(tn v8)) (R4.mk (rd aE (0+(tn v8))).a (rd aE (0+(tn v8))).b v2 (rd aE (0+(tn v8))).d)).length (Zy (aE.set (0+(tn v8)) (R4.mk (rd aE (0+(tn v8))).a (rd aE (0+(tn v8))).b v2 (rd aE (0+(tn v8))).d))),.keep,.keep,.keep,.keep,.keep,.keep],[]⟩ [true] (pp (xL aE.length (aE.set (0+(tn v8)) (R4.mk (rd aE (0+(tn v8))).a (rd aE (0+(tn v8))).b v2 (rd aE (0+(tn v8))).d)).length) (pp (xL aE.length (aE.set (0+(tn v8)) (R4.mk (rd aE (0+(tn v8))).a (rd aE (0+(tn v8))).b v2 (rd aE (0+(tn v8))).d)).length) (pp (xS aE.length (Xp (Zy aE) (0+(tn v8)) 2 [(ii v2)]) (Zy (aE.set (0+(tn v8)) (R4.mk (rd aE (0+(tn v8))).a (rd aE (0+(tn v8))).b v2 (rd aE (0+(tn v8))).d)))) (pp (pp (xF (Xp (Zy aE) (0+(tn v8)) 2 [(ii v2)])) (fl cD nn)) (ww o1 (ww o0 (tt k0 nn))))))))))) (fun k0=>(sl Vo 36 [] ⟨[2,0,3,4,5,6,1],[],v8w,v8x⟩ ⟨[],[],[]⟩ (bl 2 0) (pp (fl cD (fl aE nn)) (tt k0 nn)))))
theorem x2t (l0:List R4):Yh prog (Zz prog 115) (madC l0) (Zj prog 115 [(.dat l0.length (Zy l0))] true []) (y5i l0):=(sl Vo 56 [(3,1,Zy ([]:List Int))] ⟨[2,1,3,0,4],[],madN0,madM0⟩ ⟨[],[.keep,.keep,.cells [.grow 4 1],.keep,.keep],[]⟩ [true] (pp (fl ([]:List Int) nn) nn))
theorem v0d (l0:List R4) (n:Nat) (vs:List AVal) (h:Zo (Xy l0) n (y5i l0)=.ret vs):Ws prog (Zz prog 115) (Zj prog 115 [(.dat l0.length (Zy l0))] true []) vs:=by have:=Zk (x9v l0) n _ (x2t l0);rwa [h] at this
end Go.Am
end
