/- A part of a proof: several texts in one. -/
import Derived.Test.YtmanggcjimaehaaGreatLe2
import Derived.Sort.AssemblyPlain
import Derived.Lib.BitFns
import Derived.Shelf.GgSortFunc.InsertionK
import Derived.Shelf.Sort.Plain
import Derived.Ground.Names2Prog
import Derived.Shelf.Slices.CompactI
import Derived.Shelf.Slices.SearchI
import Derived.Shelf.Slices.Cells
import Derived.Shelf.Slices.In.SortNone
import Derived.Shelf.SlSortCmp.WholeK
import Derived.Ground.SlsfProg
import Derived.Test.YtmanggcjimaehaaGreatProg
import Derived.Shelf.SlSortCmp.NoneTotal
set_option maxRecDepth 1000000
set_option maxHeartbeats 8000000
set_option linter.unusedVariables false
set_option linter.unusedSimpArgs false
noncomputable section
namespace Go.Am
open IntKind (wrap)
open Go.Proofs.Tryz
open Go.Proofs
inductive rsortS where
 | h0 (v3:List Int) (v4:Int)
 | h1 (v3:List Int) (v4:Int) (v5:Int)
abbrev Kz (v3:List Int) (v5:Int) (l0:List Int) (v4:Int):=((v7y (v3++[0]) (0+(tn (wr (v5+1)))) (Nat.min ((v3.length+1) - (tn v5)) ((v3.length+1) - (tn (wr (v5+1))))) (Je (v3++[0]) (0+(tn v5)) ((v3.length+1) - (tn v5)))).set (0+(tn v5)) (rd l0 (tn v4)))
abbrev Qj (v3:List Int):=(Zi (Zz v3) 0 v3.length 1 [(ii 0)])
abbrev y2u (v3:List Int) (v5:Int):=(Nat.min ((v3.length+1) - (tn v5)) ((v3.length+1) - (tn (wr (v5+1)))))
def v3k (l0:List Int):rsortS→Cfg
 | .h0 v3 v4=>⟨⟨63,0,true⟩,none,(Zd prog 70 [1,1,0,1,0,0] 0),none,(Zy prog 3),⟨Yb [(0,(.dat l0.length (Zz l0))),(3,(.sla 0 1 0 v3.length (.un 1))),(4,(ii v4))],Vb [⟨rows v3.length (Zz v3),3,some ⟨1,v3.length,(Zz v3)⟩⟩] 0,1,[],true⟩,[],.leaf⟩
 | .h1 v3 v4 v5=>⟨⟨63,0,true⟩,none,(Zd prog 70 [1,1,0,1,0,0,1,0,0,1,0,0,0] 0),none,(Zy prog 3),⟨Yb [(0,(.dat l0.length (Zz l0))),(3,(.sla 0 1 0 v3.length (.un 1))),(4,(ii v4)),(5,(ii v5))],Vb [⟨rows v3.length (Zz v3),3,some ⟨1,v3.length,(Zz v3)⟩⟩] 0,1,[],true⟩,[],.leaf⟩
def x1n :List (Option (List Nat)):=[some [0,3,4]]
def x1o :List (Option (List Nat)):=[]
def v3i :List (Option (List Nat)):=[some [0,3,4,5]]
def v3j :List (Option (List Nat)):=[]
def Ux (l0:List Int):rsortS→Xp rsortS
 | .h0 v3 v4=>(bif (decide (v4<(l0.length:Int))) then (.to (.h1 v3 v4 (v3.length:Int))) else (.ret [(.dat v3.length (Zz v3))]))
 | .h1 v3 v4 v5=>(bif (decide (v5>0)) then (bif ((decide (0≤(wrap .i64 (v5 - 1))∧(wrap .i64 (v5 - 1))<(v3.length:Int)))&&true) then (bif (decide ((0+(Int.toNat (wrap .i64 (v5 - 1))))<v3.length)) then (bif ((decide (0≤v4∧v4<(l0.length:Int)))&&true) then (bif (decide ((rd v3 (0+(Int.toNat (wrap .i64 (v5 - 1)))))>(rd l0 v4.toNat))) then (.to (.h1 v3 v4 (wrap .i64 (v5 - 1)))) else (bif ((rd v3 (0+(Int.toNat (wrap .i64 (v5 - 1))))) == (rd l0 v4.toNat)) then (.to (.h0 v3 (wrap .i64 (v4+1)))) else (bif (Nat.beq 1 1&&((decide (0+v3.length=v3.length))&&decide ((v3.length+1+1)*(8+1)≤Jd))) then (bif (true&&((decide (0≤(wrap .i64 (v5+1))))&&(decide ((v3.length+1)≤(v3.length+1))&&decide ((Int.toNat (wrap .i64 (v5+1)))≤(v3.length+1))))) then (bif (true&&((decide (0≤v5))&&(decide ((v3.length+1)≤(v3.length+1))&&decide (v5.toNat≤(v3.length+1))))) then (bif (decide ((0+v5.toNat)+((v3.length+1) - v5.toNat)≤(v3.length+1))) then (bif (decide ((0+(Int.toNat (wrap .i64 (v5+1))))+((v3.length+1) - (Int.toNat (wrap .i64 (v5+1))))≤(v3.length+1))) then (bif ((decide (0≤v5∧v5<(((v3.length+1):Nat):Int)))&&true) then (bif (decide ((0+v5.toNat)<(v3.length+1))) then (.to (.h0 ((v7y (v3++[0]) (0+(Int.toNat (wrap .i64 (v5+1)))) (Nat.min ((v3.length+1) - v5.toNat) ((v3.length+1) - (Int.toNat (wrap .i64 (v5+1))))) (Je (v3++[0]) (0+v5.toNat) ((v3.length+1) - v5.toNat))).set (0+v5.toNat) (rd l0 v4.toNat)) (wrap .i64 (v4+1)))) else .stuck) else .stuck) else .stuck) else .stuck) else .stuck) else .stuck) else .stuck))) else .stuck) else .stuck) else .stuck) else (bif (Nat.beq 1 1&&((decide (0+v3.length=v3.length))&&decide ((v3.length+1+1)*(8+1)≤Jd))) then (bif (true&&((decide (0≤(wrap .i64 (v5+1))))&&(decide ((v3.length+1)≤(v3.length+1))&&decide ((Int.toNat (wrap .i64 (v5+1)))≤(v3.length+1))))) then (bif (true&&((decide (0≤v5))&&(decide ((v3.length+1)≤(v3.length+1))&&decide (v5.toNat≤(v3.length+1))))) then (bif (decide ((0+v5.toNat)+((v3.length+1) - v5.toNat)≤(v3.length+1))) then (bif (decide ((0+(Int.toNat (wrap .i64 (v5+1))))+((v3.length+1) - (Int.toNat (wrap .i64 (v5+1))))≤(v3.length+1))) then (bif ((decide (0≤v4∧v4<(l0.length:Int)))&&true) then (bif ((decide (0≤v5∧v5<(((v3.length+1):Nat):Int)))&&true) then (bif (decide ((0+v5.toNat)<(v3.length+1))) then (.to (.h0 ((v7y (v3++[0]) (0+(Int.toNat (wrap .i64 (v5+1)))) (Nat.min ((v3.length+1) - v5.toNat) ((v3.length+1) - (Int.toNat (wrap .i64 (v5+1))))) (Je (v3++[0]) (0+v5.toNat) ((v3.length+1) - v5.toNat))).set (0+v5.toNat) (rd l0 v4.toNat)) (wrap .i64 (v4+1)))) else .stuck) else .stuck) else .stuck) else .stuck) else .stuck) else .stuck) else .stuck) else .stuck))
def z5l (l0:List Int):Xp rsortS:=(.to (.h0 ([]:List Int) 0))
theorem x4f (l0:List Int): ∀s,Yr prog (Zy prog 70) (v3k l0) (v3k l0 s) (Ux l0 s)
 | .h0 v3 v4=>(lb (fun k0=>(sl Zg 21 [] ⟨[0],[],v3i,v3j⟩ ⟨[],[],[]⟩ [true] (pp (fl v3 nn) (tt k0 nn)))) (fun k0=>(lr 63 3 [1,1,1,1,1,1,1,0] 1 3 [(2,(.dat v3.length (Zz v3)))] (sl Zg 15 [] ⟨[],[0],[some [2]],[]⟩ ⟨[(2,.frz v3.length v3.length (Zz v3) (Zz v3))],[],[]⟩ [false] (pp (xZ (z6j 1 1 0 v3.length v3.length (Zz v3)) v3.length (Zz v3)) (pp (xL v3.length v3.length) (pp (xS v3.length (Zz v3) (Zz v3)) (pp (fl v3 nn) (tt k0 nn)))))))))
 | .h1 v3 v4 v5=>(lb (fun k0=>(lo fun aG=>(lo fun bF=>(lo fun cD=>(lb (fun k1=>(sl Zg 13 [] ⟨[0],[],v3i,v3j⟩ ⟨[],[],[]⟩ (trs 11 []) (pp (fl v3 nn) (tt k1 (ww cD (ww bF (ww aG (tt k0 nn)))))))) (fun k1=>(lb (fun k2=>(sl Zg 16 [] ⟨[0],[],x1n,x1o⟩ ⟨[],[],[]⟩ (trs 10 (bl 12 4094)) (pp (fl v3 nn) (tt k2 (ww cD (ww bF (ww aG (tt k0 (tt k1 (ww cD (ww bF (ww aG (tt k0 nn))))))))))))) (fun k2=>(lo fun o0=>(lo fun o1=>(lo fun o2=>(lo fun o3=>(lo fun o4=>(lo fun o5=>(lo fun o6=>(sl Zg 36 [] ⟨[2],[],x1n,x1o⟩ ⟨[(3,.len (Kz v3 v5 l0 v4).length)],[.rowed 1 (Kz v3 v5 l0 v4).length (Zz (Kz v3 v5 l0 v4))],[]⟩ (trs 10 (bl 12 2046)) (pp (xL (v3.length+1) (Kz v3 v5 l0 v4).length) (pp (xL (v3.length+1) (Kz v3 v5 l0 v4).length) (pp (xS (v3.length+1) (Xi (Jk (Qj v3) (0+(tn (wr (v5+1)))) (y2u v3 v5) (fun k=>(Qj v3) ((0+(tn v5))+k))) (0+(tn v5)) 0 [(ii (rd l0 (tn v4)))]) (Zz (Kz v3 v5 l0 v4))) (pp (pp (xF (Xi (Jk (Qj v3) (0+(tn (wr (v5+1)))) (y2u v3 v5) (fun k=>(Qj v3) ((0+(tn v5))+k))) (0+(tn v5)) 0 [(ii (rd l0 (tn v4)))])) nn) (ww o6 (ww o5 (ww cD (pp (pp (xG (Nat.beq 1 1)) (pp (xG (Nat.beq 1 1)) (pp (xw o4) (pp (xG (Nat.beq 1 1)) (pp (xG (Nat.beq 1 1)) (pp (xG (decide ((0+(tn v5))+((v3.length+1) - (tn v5))≤(v3.length+1)))) (xG (x6d 1 ((v3.length+1) - (tn v5)) (fun k=>(Qj v3) ((0+(tn v5))+k)))))))))) (ww o2 (ww o1 (ww o0 (tt k2 (ww cD (ww bF (ww aG (tt k0 (tt k1 (ww cD (ww bF (ww aG (tt k0 nn))))))))))))))))))))))))))))))))))))) (fun k0=>(lo fun o0=>(lo fun o1=>(lo fun o2=>(lo fun o3=>(lo fun o4=>(lo fun o5=>(lo fun o6=>(lo fun o7=>(sl Zg 36 [] ⟨[2],[],x1n,x1o⟩ ⟨[(3,.len (Kz v3 v5 l0 v4).length)],[.rowed 1 (Kz v3 v5 l0 v4).length (Zz (Kz v3 v5 l0 v4))],[]⟩ (bl 22 0) (pp (xL (v3.length+1) (Kz v3 v5 l0 v4).length) (pp (xL (v3.length+1) (Kz v3 v5 l0 v4).length) (pp (xS (v3.length+1) (Xi (Jk (Qj v3) (0+(tn (wr (v5+1)))) (y2u v3 v5) (fun k=>(Qj v3) ((0+(tn v5))+k))) (0+(tn v5)) 0 [(ii (rd l0 (tn v4)))]) (Zz (Kz v3 v5 l0 v4))) (pp (pp (xF (Xi (Jk (Qj v3) (0+(tn (wr (v5+1)))) (y2u v3 v5) (fun k=>(Qj v3) ((0+(tn v5))+k))) (0+(tn v5)) 0 [(ii (rd l0 (tn v4)))])) nn) (ww o7 (ww o6 (ww o5 (pp (pp (xG (Nat.beq 1 1)) (pp (xG (Nat.beq 1 1)) (pp (xw o4) (pp (xG (Nat.beq 1 1)) (pp (xG (Nat.beq 1 1)) (pp (xG (decide ((0+(tn v5))+((v3.length+1) - (tn v5))≤(v3.length+1)))) (xG (x6d 1 ((v3.length+1) - (tn v5)) (fun k=>(Qj v3) ((0+(tn v5))+k)))))))))) (ww o2 (ww o1 (ww o0 (tt k0 (tt k0 nn))))))))))))))))))))))))
theorem x1m (l0:List Int):Yr prog (Zy prog 70) (v3k l0) (Zb prog 70 [(.dat l0.length (Zz l0))] true []) (z5l l0):=(sl Zg 15 [(3,1,Zz ([]:List Int))] ⟨[0],[],x1n,x1o⟩ ⟨[(3,.grow 0 1)],[],[]⟩ [] (pp (fl ([]:List Int) nn) nn))
theorem w8b (l0:List Int) (n:Nat) (vs:List AVal) (h:Yz (Ux l0) n (z5l l0)=.ret vs):Ji prog (Zy prog 70) (Zb prog 70 [(.dat l0.length (Zz l0))] true []) vs:=by have:=Ze (x4f l0) n _ (x1m l0);rwa [h] at this
inductive rcanS where
 | h0 (v5:List R2) (v6:Int)
def j2j (l0:List Int) (l1:List Bool):rcanS→Cfg
 | .h0 v5 v6=>⟨⟨61,0,true⟩,none,(Zd prog 142 [1,1,0,1,0,0] 0),none,(Zy prog 5),⟨Yb [(0,(.dat l0.length (Zz l0))),(1,(.dat l1.length (Zz l1))),(5,(.sla 0 2 0 v5.length (.un 2))),(6,(ii v6))],Vb [⟨rows v5.length (Zz v5),183,some ⟨2,v5.length,(Zz v5)⟩⟩] 0,1,[],true⟩,[],.leaf⟩
def x4s :List (Option (List Nat)):=[some [0,1,5,6]]
def x4t :List (Option (List Nat)):=[]
def z0b (l0:List Int) (l1:List Bool):rcanS→Xp rcanS
 | .h0 v5 v6=>(bif (decide ((wrap .i64 (v6+1))<(l0.length:Int))) then (bif ((decide (0≤v6∧v6<(l1.length:Int)))&&true) then (bif (!(rd l1 v6.toNat)) then (.to (.h0 v5 (wrap .i64 (v6+1)))) else (bif (decide ((v5.length:Int)>0)) then (bif ((decide (0≤(wrap .i64 ((v5.length:Int) - 1))∧(wrap .i64 ((v5.length:Int) - 1))<(v5.length:Int)))&&true) then (bif (decide ((0+(Int.toNat (wrap .i64 ((v5.length:Int) - 1))))<v5.length)) then (bif ((decide (0≤v6∧v6<(l0.length:Int)))&&true) then (bif ((rd v5 (0+(Int.toNat (wrap .i64 ((v5.length:Int) - 1))))).b == (rd l0 v6.toNat)) then (bif ((decide (0≤(wrap .i64 (v6+1))∧(wrap .i64 (v6+1))<(l0.length:Int)))&&true) then (.to (.h0 (v5.set (0+(Int.toNat (wrap .i64 ((v5.length:Int) - 1)))) (R2.mk (rd v5 (0+(Int.toNat (wrap .i64 ((v5.length:Int) - 1))))).a (rd l0 (Int.toNat (wrap .i64 (v6+1)))))) (wrap .i64 (v6+1)))) else .stuck) else (bif ((decide (0≤(wrap .i64 (v6+1))∧(wrap .i64 (v6+1))<(l0.length:Int)))&&true) then (bif (Nat.beq 2 2&&((decide (0+v5.length=v5.length))&&decide ((v5.length+1+1)*(16+1)≤Jd))) then (.to (.h0 (v5++[(R2.mk (rd l0 v6.toNat) (rd l0 (Int.toNat (wrap .i64 (v6+1)))))]) (wrap .i64 (v6+1)))) else .stuck) else .stuck)) else .stuck) else .stuck) else .stuck) else (bif ((decide (0≤v6∧v6<(l0.length:Int)))&&true) then (bif ((decide (0≤(wrap .i64 (v6+1))∧(wrap .i64 (v6+1))<(l0.length:Int)))&&true) then (bif (Nat.beq 2 2&&((decide (0+v5.length=v5.length))&&decide ((v5.length+1+1)*(16+1)≤Jd))) then (.to (.h0 (v5++[(R2.mk (rd l0 v6.toNat) (rd l0 (Int.toNat (wrap .i64 (v6+1)))))]) (wrap .i64 (v6+1)))) else .stuck) else .stuck) else .stuck))) else .stuck) else (.ret [(.dat v5.length (Zz v5))]))
def z8b (l0:List Int) (l1:List Bool):Xp rcanS:=(.to (.h0 ([]:List R2) 0))
theorem x9b (l0:List Int) (l1:List Bool): ∀s,Yr prog (Zy prog 142) (j2j l0 l1) (j2j l0 l1 s) (z0b l0 l1 s)
 | .h0 v5 v6=>(lb (fun k0=>(lo fun aG=>(lb (fun k1=>(sl Zg 30 [] ⟨[0],[],x4s,x4t⟩ ⟨[],[],[]⟩ (bl 2 3) (pp (fl v5 nn) (tt k1 (ww aG (tt k0 nn)))))) (fun k1=>(lb (fun k2=>(lo fun cJ=>(lo fun dB=>(lo fun dC=>(lb (fun k3=>(lo fun o0=>(sl Zg 53 [] ⟨[0],[],x4s,x4t⟩ ⟨[(5,.len (v5.set (0+(tn (wr ((v5.length:Int) - 1)))) (R2.mk (rd v5 (0+(tn (wr ((v5.length:Int) - 1))))).a (rd l0 (tn (wr (v6+1)))))).length)],[.rowed 2 (v5.set (0+(tn (wr ((v5.length:Int) - 1)))) (R2.mk (rd v5 (0+(tn (wr ((v5.length:Int) - 1))))).a (rd l0 (tn (wr (v6+1)))))).length (Zz (v5.set (0+(tn (wr ((v5.length:Int) - 1)))) (R2.mk (rd v5 (0+(tn (wr ((v5.length:Int) - 1))))).a (rd l0 (tn (wr (v6+1)))))))],[]⟩ (bl 14 16381) (pp (xL v5.length (v5.set (0+(tn (wr ((v5.length:Int) - 1)))) (R2.mk (rd v5 (0+(tn (wr ((v5.length:Int) - 1))))).a (rd l0 (tn (wr (v6+1)))))).length) (pp (xL v5.length (v5.set (0+(tn (wr ((v5.length:Int) - 1)))) (R2.mk (rd v5 (0+(tn (wr ((v5.length:Int) - 1))))).a (rd l0 (tn (wr (v6+1)))))).length) (pp (xS v5.length (Xi (Zz v5) (0+(tn (wr ((v5.length:Int) - 1)))) 1 [(ii (rd l0 (tn (wr (v6+1)))))]) (Zz (v5.set (0+(tn (wr ((v5.length:Int) - 1)))) (R2.mk (rd v5 (0+(tn (wr ((v5.length:Int) - 1))))).a (rd l0 (tn (wr (v6+1)))))))) (pp (pp (xF (Xi (Zz v5) (0+(tn (wr ((v5.length:Int) - 1)))) 1 [(ii (rd l0 (tn (wr (v6+1)))))])) nn) (ww dB (ww cJ (ww o0 (tt k3 (ww dC (ww dB (ww cJ (tt k2 (tt k1 (ww aG (tt k0 nn)))))))))))))))))) (fun k3=>(lo fun o0=>(lo fun o1=>(sl Zg 41 [] ⟨[2],[],x4s,x4t⟩ ⟨[(5,.len (v5++[(R2.mk (rd l0 (tn v6)) (rd l0 (tn (wr (v6+1)))))]).length)],[.rowed 2 (v5++[(R2.mk (rd l0 (tn v6)) (rd l0 (tn (wr (v6+1)))))]).length (Zz (v5++[(R2.mk (rd l0 (tn v6)) (rd l0 (tn (wr (v6+1)))))]))],[]⟩ (bl 14 8189) (pp (xL (v5.length+1) (v5++[(R2.mk (rd l0 (tn v6)) (rd l0 (tn (wr (v6+1)))))]).length) (pp (xL (v5.length+1) (v5++[(R2.mk (rd l0 (tn v6)) (rd l0 (tn (wr (v6+1)))))]).length) (pp (xS (v5.length+1) (Zi (Zz v5) 0 v5.length 2 [(ii (rd l0 (tn v6))),(ii (rd l0 (tn (wr (v6+1)))))]) (Zz (v5++[(R2.mk (rd l0 (tn v6)) (rd l0 (tn (wr (v6+1)))))]))) (pp (pp (xF (Zi (Zz v5) 0 v5.length 2 [(ii (rd l0 (tn v6))),(ii (rd l0 (tn (wr (v6+1)))))])) nn) (ww o1 (ww o0 (ww dC (tt k3 (ww dC (ww dB (ww cJ (tt k2 (tt k1 (ww aG (tt k0 nn)))))))))))))))))))))))) (fun k2=>(lo fun o0=>(lo fun o1=>(lo fun o2=>(sl Zg 41 [] ⟨[2],[],x4s,x4t⟩ ⟨[(5,.len (v5++[(R2.mk (rd l0 (tn v6)) (rd l0 (tn (wr (v6+1)))))]).length)],[.rowed 2 (v5++[(R2.mk (rd l0 (tn v6)) (rd l0 (tn (wr (v6+1)))))]).length (Zz (v5++[(R2.mk (rd l0 (tn v6)) (rd l0 (tn (wr (v6+1)))))]))],[]⟩ (bl 14 1) (pp (xL (v5.length+1) (v5++[(R2.mk (rd l0 (tn v6)) (rd l0 (tn (wr (v6+1)))))]).length) (pp (xL (v5.length+1) (v5++[(R2.mk (rd l0 (tn v6)) (rd l0 (tn (wr (v6+1)))))]).length) (pp (xS (v5.length+1) (Zi (Zz v5) 0 v5.length 2 [(ii (rd l0 (tn v6))),(ii (rd l0 (tn (wr (v6+1)))))]) (Zz (v5++[(R2.mk (rd l0 (tn v6)) (rd l0 (tn (wr (v6+1)))))]))) (pp (pp (xF (Zi (Zz v5) 0 v5.length 2 [(ii (rd l0 (tn v6))),(ii (rd l0 (tn (wr (v6+1)))))])) nn) (ww o2 (ww o1 (ww o0 (tt k2 (tt k1 (ww aG (tt k0 nn))))))))))))))))))))) (fun k0=>(lr 61 3 [1,1,1,1,1,1,1,0] 1 5 [(4,(.dat v5.length (Zz v5)))] (sl Zg 16 [] ⟨[],[0],[some [4]],[]⟩ ⟨[(4,.frz v5.length v5.length (Zz v5) (Zz v5))],[],[]⟩ [false] (pp (xZ (z6j 2 2 0 v5.length v5.length (Zz v5)) v5.length (Zz v5)) (pp (xL v5.length v5.length) (pp (xS v5.length (Zz v5) (Zz v5)) (pp (fl v5 nn) (tt k0 nn)))))))))
theorem x4r (l0:List Int) (l1:List Bool):Yr prog (Zy prog 142) (j2j l0 l1) (Zb prog 142 [(.dat l0.length (Zz l0)),(.dat l1.length (Zz l1))] true []) (z8b l0 l1):=(sl Zg 15 [(183,2,Zz ([]:List R2))] ⟨[0],[],x4s,x4t⟩ ⟨[(5,.grow 0 2)],[],[]⟩ [] (pp (fl ([]:List R2) nn) nn))
theorem v4k (l0:List Int) (l1:List Bool) (n:Nat) (vs:List AVal) (h:Yz (z0b l0 l1) n (z8b l0 l1)=.ret vs):Ji prog (Zy prog 142) (Zb prog 142 [(.dat l0.length (Zz l0)),(.dat l1.length (Zz l1))] true []) vs:=by have:=Ze (x9b l0 l1) n _ (x4r l0 l1);rwa [h] at this
inductive rsmS where
 | h0 (v5:Int)
def rsmC (l0:List R2) (l1:List R2):rsmS→Cfg
 | .h0 v5=>⟨⟨26,0,true⟩,none,(Zd prog 169 [1,1,0,1,0,0] 0),none,(Zy prog 5),⟨Yb [(0,(.dat l0.length (Zz l0))),(1,(.dat l1.length (Zz l1))),(5,(ii v5))],Vb [] 0,0,[],true⟩,[],.leaf⟩
def rsmN0 :List (Option (List Nat)):=[some [0,1,5]]
def rsmM0 :List (Option (List Nat)):=[]
def z6t (l0:List R2) (l1:List R2):rsmS→Xp rsmS
 | .h0 v5=>(bif (decide (v5<(l0.length:Int))) then (bif ((decide (0≤v5∧v5<(l0.length:Int)))&&true) then (bif ((decide (0≤v5∧v5<(l1.length:Int)))&&true) then (bif (!(((rd l0 v5.toNat).a == (rd l1 v5.toNat).a)&&(((rd l0 v5.toNat).b == (rd l1 v5.toNat).b)&&true))) then (.ret [(.bool false)]) else (.to (.h0 (wrap .i64 (v5+1))))) else .stuck) else .stuck) else (.ret [(.bool true)]))
def z7q (l0:List R2) (l1:List R2):Xp rsmS:=(bif ((l0.length:Int) != (l1.length:Int)) then (.ret [(.bool false)]) else (.to (.h0 0)))
theorem w8c (l0:List R2) (l1:List R2): ∀s,Yr prog (Zy prog 169) (rsmC l0 l1) (rsmC l0 l1 s) (z6t l0 l1 s)
 | .h0 v5=>(lb (fun k0=>(lo fun aG=>(lo fun bF=>(lb (fun k1=>(lr 26 169 [1,1,0,1,0,0,1,0,0,1,0,0] 1 5 [(4,(.bool false))] (sl Zg 19 [] ⟨[],[],[some [4]],[]⟩ ⟨[],[],[]⟩ (bl 2 3) (tt k1 (ww bF (ww aG (tt k0 nn))))))) (fun k1=>(sl Zg 23 [] ⟨[],[],rsmN0,rsmM0⟩ ⟨[],[],[]⟩ (bl 2 1) (tt k1 (ww bF (ww aG (tt k0 nn)))))))))) (fun k0=>(lr 26 3 [1,1,1,1,1,1,1,0] 1 5 [(4,(.bool true))] (sl Zg 14 [] ⟨[],[],[some [4]],[]⟩ ⟨[],[],[]⟩ [false] (tt k0 nn)))))
theorem x8g (l0:List R2) (l1:List R2):Yr prog (Zy prog 169) (rsmC l0 l1) (Zb prog 169 [(.dat l0.length (Zz l0)),(.dat l1.length (Zz l1))] true []) (z7q l0 l1):=(lb (fun k0=>(lr 26 169 [1,0,1,0,0] 1 5 [(4,(.bool false))] (sl Zg 18 [] ⟨[],[],[some [4]],[]⟩ ⟨[],[],[]⟩ [true] (tt k0 nn)))) (fun k0=>(sl Zg 22 [] ⟨[],[],rsmN0,rsmM0⟩ ⟨[],[],[]⟩ [false] (tt k0 nn))))
theorem u0f (l0:List R2) (l1:List R2) (n:Nat) (vs:List AVal) (h:Yz (z6t l0 l1) n (z7q l0 l1)=.ret vs):Ji prog (Zy prog 169) (Zb prog 169 [(.dat l0.length (Zz l0)),(.dat l1.length (Zz l1))] true []) vs:=by have:=Ze (w8c l0 l1) n _ (x8g l0 l1);rwa [h] at this
inductive rhasS where
 | h0 (v7:Int)
def j1x (l0:List R4) (x1:Int) (x2:Int):rhasS→Cfg
 | .h0 v7=>⟨⟨48,0,true⟩,none,(Zd prog 168 [1,0,1,0,0] 0),none,(Zy prog 8),⟨Yb [(0,(.dat l0.length (Zz l0))),(1,(ii x1)),(2,(ii x2)),(7,(ii v7))],Vb [] 0,0,[],true⟩,[],.leaf⟩
def x4i :List (Option (List Nat)):=[some [0,1,2,7]]
def x4j :List (Option (List Nat)):=[]
def z5o (l0:List R4) (x1:Int) (x2:Int):rhasS→Xp rhasS
 | .h0 v7=>(bif (decide (v7<(l0.length:Int))) then (bif ((decide (0≤v7∧v7<(l0.length:Int)))&&true) then (bif (decide ((rd l0 v7.toNat).a ≤x1)) then (bif (decide (x1<(rd l0 v7.toNat).c)) then (bif (decide ((rd l0 v7.toNat).b ≤x2)) then (bif (decide (x2<(rd l0 v7.toNat).d)) then (.ret [(.bool true)]) else (.to (.h0 (wrap .i64 (v7+1))))) else (.to (.h0 (wrap .i64 (v7+1))))) else (.to (.h0 (wrap .i64 (v7+1))))) else (.to (.h0 (wrap .i64 (v7+1))))) else .stuck) else (.ret [(.bool false)]))
def z7u (l0:List R4) (x1:Int) (x2:Int):Xp rhasS:=(.to (.h0 0))
theorem x8q (l0:List R4) (x1:Int) (x2:Int): ∀s,Yr prog (Zy prog 168) (j1x l0 x1 x2) (j1x l0 x1 x2 s) (z5o l0 x1 x2 s)
 | .h0 v7=>(lb (fun k0=>(lo fun aG=>(lb (fun k1=>(lb (fun k2=>(lb (fun k3=>(lb (fun k4=>(lr 48 168 [1,0,1,0,0,1,0,0,1,0,0] 1 8 [(6,(.bool true))] (sl Zg 54 [] ⟨[],[],[some [6]],[]⟩ ⟨[],[],[]⟩ (trs 23 []) (tt k4 (ww aG (tt k3 (ww aG (tt k2 (ww aG (tt k1 (ww aG (tt k0 nn)))))))))))) (fun k4=>(sl Zg 58 [] ⟨[],[],x4i,x4j⟩ ⟨[],[],[]⟩ (trs 22 [false]) (tt k4 (ww aG (tt k3 (ww aG (tt k2 (ww aG (tt k1 (ww aG (tt k0 nn))))))))))))) (fun k3=>(sl Zg 58 [] ⟨[],[],x4i,x4j⟩ ⟨[],[],[]⟩ (trs 15 (bl 8 0)) (tt k3 (ww aG (tt k2 (ww aG (tt k1 (ww aG (tt k0 nn))))))))))) (fun k2=>(sl Zg 58 [] ⟨[],[],x4i,x4j⟩ ⟨[],[],[]⟩ (trs 8 (bl 15 0)) (tt k2 (ww aG (tt k1 (ww aG (tt k0 nn))))))))) (fun k1=>(sl Zg 58 [] ⟨[],[],x4i,x4j⟩ ⟨[],[],[]⟩ (bl 23 1) (tt k1 (ww aG (tt k0 nn)))))))) (fun k0=>(lr 48 3 [1,1,1,1,1,1,1,0] 1 8 [(6,(.bool false))] (sl Zg 14 [] ⟨[],[],[some [6]],[]⟩ ⟨[],[],[]⟩ [false] (tt k0 nn)))))
theorem x4h (l0:List R4) (x1:Int) (x2:Int):Yr prog (Zy prog 168) (j1x l0 x1 x2) (Zb prog 168 [(.dat l0.length (Zz l0)),(.int .i64 x1),(.int .i64 x2)] true []) (z7u l0 x1 x2):=(sl Zg 11 [] ⟨[],[],x4i,x4j⟩ ⟨[],[],[]⟩ [] nn)
theorem v3u (l0:List R4) (x1:Int) (x2:Int) (n:Nat) (vs:List AVal) (h:Yz (z5o l0 x1 x2) n (z7u l0 x1 x2)=.ret vs):Ji prog (Zy prog 168) (Zb prog 168 [(.dat l0.length (Zz l0)),(.int .i64 x1),(.int .i64 x2)] true []) vs:=by have:=Ze (x8q l0 x1 x2) n _ (x4h l0 x1 x2);rwa [h] at this
inductive rsrS where
 | h0 (v5:Int)
def rsrC (l0:List R4) (l1:List R4):rsrS→Cfg
 | .h0 v5=>⟨⟨26,0,true⟩,none,(Zd prog 128 [1,1,0,1,0,0] 0),none,(Zy prog 5),⟨Yb [(0,(.dat l0.length (Zz l0))),(1,(.dat l1.length (Zz l1))),(5,(ii v5))],Vb [] 0,0,[],true⟩,[],.leaf⟩
def rsrN0 :List (Option (List Nat)):=[some [0,1,5]]
def rsrM0 :List (Option (List Nat)):=[]
def z6s (l0:List R4) (l1:List R4):rsrS→Xp rsrS
 | .h0 v5=>(bif (decide (v5<(l0.length:Int))) then (bif ((decide (0≤v5∧v5<(l0.length:Int)))&&true) then (bif ((decide (0≤v5∧v5<(l1.length:Int)))&&true) then (bif (!(((rd l0 v5.toNat).a == (rd l1 v5.toNat).a)&&(((rd l0 v5.toNat).b == (rd l1 v5.toNat).b)&&(((rd l0 v5.toNat).c == (rd l1 v5.toNat).c)&&(((rd l0 v5.toNat).d == (rd l1 v5.toNat).d)&&true))))) then (.ret [(.bool false)]) else (.to (.h0 (wrap .i64 (v5+1))))) else .stuck) else .stuck) else (.ret [(.bool true)]))
def z7p (l0:List R4) (l1:List R4):Xp rsrS:=(bif ((l0.length:Int) != (l1.length:Int)) then (.ret [(.bool false)]) else (.to (.h0 0)))
theorem w8a (l0:List R4) (l1:List R4): ∀s,Yr prog (Zy prog 128) (rsrC l0 l1) (rsrC l0 l1 s) (z6s l0 l1 s)
 | .h0 v5=>(lb (fun k0=>(lo fun aG=>(lo fun bF=>(lb (fun k1=>(lr 26 128 [1,1,0,1,0,0,1,0,0,1,0,0] 1 5 [(4,(.bool false))] (sl Zg 19 [] ⟨[],[],[some [4]],[]⟩ ⟨[],[],[]⟩ (bl 2 3) (tt k1 (ww bF (ww aG (tt k0 nn))))))) (fun k1=>(sl Zg 23 [] ⟨[],[],rsrN0,rsrM0⟩ ⟨[],[],[]⟩ (bl 2 1) (tt k1 (ww bF (ww aG (tt k0 nn)))))))))) (fun k0=>(lr 26 3 [1,1,1,1,1,1,1,0] 1 5 [(4,(.bool true))] (sl Zg 14 [] ⟨[],[],[some [4]],[]⟩ ⟨[],[],[]⟩ [false] (tt k0 nn)))))
theorem x8f (l0:List R4) (l1:List R4):Yr prog (Zy prog 128) (rsrC l0 l1) (Zb prog 128 [(.dat l0.length (Zz l0)),(.dat l1.length (Zz l1))] true []) (z7p l0 l1):=(lb (fun k0=>(lr 26 128 [1,0,1,0,0] 1 5 [(4,(.bool false))] (sl Zg 18 [] ⟨[],[],[some [4]],[]⟩ ⟨[],[],[]⟩ [true] (tt k0 nn)))) (fun k0=>(sl Zg 22 [] ⟨[],[],rsrN0,rsrM0⟩ ⟨[],[],[]⟩ [false] (tt k0 nn))))
theorem u0e (l0:List R4) (l1:List R4) (n:Nat) (vs:List AVal) (h:Yz (z6s l0 l1) n (z7p l0 l1)=.ret vs):Ji prog (Zy prog 128) (Zb prog 128 [(.dat l0.length (Zz l0)),(.dat l1.length (Zz l1))] true []) vs:=by have:=Ze (w8a l0 l1) n _ (x8f l0 l1);rwa [h] at this
inductive rsbS where
 | h0 (v5:Int)
def rsbC (l0:List R6) (l1:List R6):rsbS→Cfg
 | .h0 v5=>⟨⟨26,0,true⟩,none,(Zd prog 20 [1,1,0,1,0,0] 0),none,(Zy prog 5),⟨Yb [(0,(.dat l0.length (Zz l0))),(1,(.dat l1.length (Zz l1))),(5,(ii v5))],Vb [] 0,0,[],true⟩,[],.leaf⟩
def rsbN0 :List (Option (List Nat)):=[some [0,1,5]]
def rsbM0 :List (Option (List Nat)):=[]
def z6u (l0:List R6) (l1:List R6):rsbS→Xp rsbS
 | .h0 v5=>(bif (decide (v5<(l0.length:Int))) then (bif ((decide (0≤v5∧v5<(l0.length:Int)))&&true) then (bif ((decide (0≤v5∧v5<(l1.length:Int)))&&true) then (bif (!((((rd l0 v5.toNat).a == (rd l1 v5.toNat).a)&&(((rd l0 v5.toNat).b == (rd l1 v5.toNat).b)&&(((rd l0 v5.toNat).c == (rd l1 v5.toNat).c)&&true)))&&((((rd l0 v5.toNat).d == (rd l1 v5.toNat).d)&&(((rd l0 v5.toNat).e == (rd l1 v5.toNat).e)&&(((rd l0 v5.toNat).f == (rd l1 v5.toNat).f)&&true)))&&true))) then (.ret [(.bool false)]) else (.to (.h0 (wrap .i64 (v5+1))))) else .stuck) else .stuck) else (.ret [(.bool true)]))
def z7r (l0:List R6) (l1:List R6):Xp rsbS:=(bif ((l0.length:Int) != (l1.length:Int)) then (.ret [(.bool false)]) else (.to (.h0 0)))
theorem w8d (l0:List R6) (l1:List R6): ∀s,Yr prog (Zy prog 20) (rsbC l0 l1) (rsbC l0 l1 s) (z6u l0 l1 s)
 | .h0 v5=>(lb (fun k0=>(lo fun aG=>(lo fun bF=>(lb (fun k1=>(lr 26 20 [1,1,0,1,0,0,1,0,0,1,0,0] 1 5 [(4,(.bool false))] (sl Zg 19 [] ⟨[],[],[some [4]],[]⟩ ⟨[],[],[]⟩ (bl 2 3) (tt k1 (ww bF (ww aG (tt k0 nn))))))) (fun k1=>(sl Zg 23 [] ⟨[],[],rsbN0,rsbM0⟩ ⟨[],[],[]⟩ (bl 2 1) (tt k1 (ww bF (ww aG (tt k0 nn)))))))))) (fun k0=>(lr 26 3 [1,1,1,1,1,1,1,0] 1 5 [(4,(.bool true))] (sl Zg 14 [] ⟨[],[],[some [4]],[]⟩ ⟨[],[],[]⟩ [false] (tt k0 nn)))))
theorem x8h (l0:List R6) (l1:List R6):Yr prog (Zy prog 20) (rsbC l0 l1) (Zb prog 20 [(.dat l0.length (Zz l0)),(.dat l1.length (Zz l1))] true []) (z7r l0 l1):=(lb (fun k0=>(lr 26 20 [1,0,1,0,0] 1 5 [(4,(.bool false))] (sl Zg 18 [] ⟨[],[],[some [4]],[]⟩ ⟨[],[],[]⟩ [true] (tt k0 nn)))) (fun k0=>(sl Zg 22 [] ⟨[],[],rsbN0,rsbM0⟩ ⟨[],[],[]⟩ [false] (tt k0 nn))))
theorem u0g (l0:List R6) (l1:List R6) (n:Nat) (vs:List AVal) (h:Yz (z6u l0 l1) n (z7r l0 l1)=.ret vs):Ji prog (Zy prog 20) (Zb prog 20 [(.dat l0.length (Zz l0)),(.dat l1.length (Zz l1))] true []) vs:=by have:=Ze (w8d l0 l1) n _ (x8h l0 l1);rwa [h] at this
inductive ratS where
 | h0 (v5:List R4) (v6:Int)
def ratC (l0:List R6) (x1:Int):ratS→Cfg
 | .h0 v5 v6=>⟨⟨60,0,true⟩,none,(Zd prog 127 [1,1,0,1,0,0] 0),none,(Zy prog 5),⟨Yb [(0,(.dat l0.length (Zz l0))),(1,(ii x1)),(5,(.sla 0 4 0 v5.length (.un 4))),(6,(ii v6))],Vb [⟨rows v5.length (Zz v5),88,some ⟨4,v5.length,(Zz v5)⟩⟩] 0,1,[],true⟩,[],.leaf⟩
def u1g :List (Option (List Nat)):=[some [0,1,5,6]]
def u1h :List (Option (List Nat)):=[]
def z6v (l0:List R6) (x1:Int):ratS→Xp ratS
 | .h0 v5 v6=>(bif (decide (v6<(l0.length:Int))) then (bif ((decide (0≤v6∧v6<(l0.length:Int)))&&true) then (bif (decide ((rd l0 v6.toNat).c ≤x1)) then (bif (decide (x1<(rd l0 v6.toNat).f)) then (bif (Nat.beq 4 4&&((decide (0+v5.length=v5.length))&&decide ((v5.length+1+1)*(32+1)≤Jd))) then (.to (.h0 (v5++[(R4.mk (rd l0 v6.toNat).a (rd l0 v6.toNat).b (rd l0 v6.toNat).d (rd l0 v6.toNat).e)]) (wrap .i64 (v6+1)))) else .stuck) else (.to (.h0 v5 (wrap .i64 (v6+1))))) else (.to (.h0 v5 (wrap .i64 (v6+1))))) else .stuck) else (.ret [(.dat v5.length (Zz v5))]))
def y3d (l0:List R6) (x1:Int):Xp ratS:=(.to (.h0 ([]:List R4) 0))
theorem w8o (l0:List R6) (x1:Int): ∀s,Yr prog (Zy prog 127) (ratC l0 x1) (ratC l0 x1 s) (z6v l0 x1 s)
 | .h0 v5 v6=>(lb (fun k0=>(lo fun aG=>(lb (fun k1=>(lb (fun k2=>(lo fun o0=>(sl Zg 42 [] ⟨[2],[],u1g,u1h⟩ ⟨[(5,.len (v5++[(R4.mk (rd l0 (tn v6)).a (rd l0 (tn v6)).b (rd l0 (tn v6)).d (rd l0 (tn v6)).e)]).length)],[.rowed 4 (v5++[(R4.mk (rd l0 (tn v6)).a (rd l0 (tn v6)).b (rd l0 (tn v6)).d (rd l0 (tn v6)).e)]).length (Zz (v5++[(R4.mk (rd l0 (tn v6)).a (rd l0 (tn v6)).b (rd l0 (tn v6)).d (rd l0 (tn v6)).e)]))],[]⟩ (trs 10 []) (pp (xL (v5.length+1) (v5++[(R4.mk (rd l0 (tn v6)).a (rd l0 (tn v6)).b (rd l0 (tn v6)).d (rd l0 (tn v6)).e)]).length) (pp (xL (v5.length+1) (v5++[(R4.mk (rd l0 (tn v6)).a (rd l0 (tn v6)).b (rd l0 (tn v6)).d (rd l0 (tn v6)).e)]).length) (pp (xS (v5.length+1) (Zi (Zz v5) 0 v5.length 4 [(ii (rd l0 (tn v6)).a),(ii (rd l0 (tn v6)).b),(ii (rd l0 (tn v6)).d),(ii (rd l0 (tn v6)).e)]) (Zz (v5++[(R4.mk (rd l0 (tn v6)).a (rd l0 (tn v6)).b (rd l0 (tn v6)).d (rd l0 (tn v6)).e)]))) (pp (pp (xF (Zi (Zz v5) 0 v5.length 4 [(ii (rd l0 (tn v6)).a),(ii (rd l0 (tn v6)).b),(ii (rd l0 (tn v6)).d),(ii (rd l0 (tn v6)).e)])) nn) (ww o0 (ww aG (ww aG (ww aG (ww aG (tt k2 (ww aG (tt k1 (ww aG (tt k0 nn))))))))))))))))) (fun k2=>(sl Zg 42 [] ⟨[0],[],u1g,u1h⟩ ⟨[],[],[]⟩ (trs 9 [false]) (pp (fl v5 nn) (tt k2 (ww aG (tt k1 (ww aG (tt k0 nn)))))))))) (fun k1=>(sl Zg 42 [] ⟨[0],[],u1g,u1h⟩ ⟨[],[],[]⟩ (bl 10 1) (pp (fl v5 nn) (tt k1 (ww aG (tt k0 nn))))))))) (fun k0=>(lr 60 3 [1,1,1,1,1,1,1,0] 1 5 [(4,(.dat v5.length (Zz v5)))] (sl Zg 15 [] ⟨[],[0],[some [4]],[]⟩ ⟨[(4,.frz v5.length v5.length (Zz v5) (Zz v5))],[],[]⟩ [false] (pp (xZ (z6j 4 4 0 v5.length v5.length (Zz v5)) v5.length (Zz v5)) (pp (xL v5.length v5.length) (pp (xS v5.length (Zz v5) (Zz v5)) (pp (fl v5 nn) (tt k0 nn)))))))))
theorem x9c (l0:List R6) (x1:Int):Yr prog (Zy prog 127) (ratC l0 x1) (Zb prog 127 [(.dat l0.length (Zz l0)),(.int .i64 x1)] true []) (y3d l0 x1):=(sl Zg 15 [(88,4,Zz ([]:List R4))] ⟨[0],[],u1g,u1h⟩ ⟨[(5,.grow 0 4)],[],[]⟩ [] (pp (fl ([]:List R4) nn) nn))
theorem u1f (l0:List R6) (x1:Int) (n:Nat) (vs:List AVal) (h:Yz (z6v l0 x1) n (y3d l0 x1)=.ret vs):Ji prog (Zy prog 127) (Zb prog 127 [(.dat l0.length (Zz l0)),(.int .i64 x1)] true []) vs:=by have:=Ze (w8o l0 x1) n _ (x9c l0 x1);rwa [h] at this
inductive eqaS where
 | h0 (v13:Int)
def eqaC (l0:List R2) (l1:List R2):eqaS→Cfg
 | .h0 v13=>⟨⟨26,0,true⟩,none,(Zd prog 188 [1,1,0,1,0,0] 0),none,(Zy prog 5),⟨Yb [(0,(.dat l0.length (Zz l0))),(1,(.dat l1.length (Zz l1))),(12,(ii (l0.length:Int))),(13,(ii v13))],Vb [] 0,0,[],true⟩,[],.leaf⟩
def eqaN0 :List (Option (List Nat)):=[some [0,1,12,13]]
def eqaM0 :List (Option (List Nat)):=[]
def z7f (l0:List R2) (l1:List R2):eqaS→Xp eqaS
 | .h0 v13=>(bif (decide (v13<(l0.length:Int))) then (bif ((decide (0≤v13∧v13<(l0.length:Int)))&&true) then (bif ((decide (0≤v13∧v13<(l1.length:Int)))&&true) then (bif (!(((rd l0 v13.toNat).a == (rd l1 v13.toNat).a)&&(((rd l0 v13.toNat).b == (rd l1 v13.toNat).b)&&true))) then (.ret [(.bool false)]) else (.to (.h0 (wrap .i64 (v13+1))))) else .stuck) else .stuck) else (.ret [(.bool true)]))
def z8t (l0:List R2) (l1:List R2):Xp eqaS:=(bif ((l0.length:Int) != (l1.length:Int)) then (.ret [(.bool false)]) else (.to (.h0 0)))
theorem v0o (l0:List R2) (l1:List R2): ∀s,Yr prog (Zy prog 188) (eqaC l0 l1) (eqaC l0 l1 s) (z7f l0 l1 s)
 | .h0 v13=>(lb (fun k0=>(lo fun aG=>(lo fun bF=>(lb (fun k1=>(lr 26 188 [1,1,0,1,0,0,1,1,0,0,1,1,0,0] 1 5 [(4,(.bool false))] (sl Zg 21 [] ⟨[],[],[some [4]],[]⟩ ⟨[],[],[]⟩ (bl 2 3) (tt k1 (ww bF (ww aG (tt k0 nn))))))) (fun k1=>(sl Zg 24 [] ⟨[],[],eqaN0,eqaM0⟩ ⟨[],[],[]⟩ (bl 2 1) (tt k1 (ww bF (ww aG (tt k0 nn)))))))))) (fun k0=>(lr 26 3 [1,1,1,1,1,1,1,0] 1 5 [(4,(.bool true))] (sl Zg 11 [] ⟨[],[],[some [4]],[]⟩ ⟨[],[],[]⟩ [false] (tt k0 nn)))))
theorem w1q (l0:List R2) (l1:List R2):Yr prog (Zy prog 188) (eqaC l0 l1) (Zb prog 188 [(.dat l0.length (Zz l0)),(.dat l1.length (Zz l1))] true []) (z8t l0 l1):=(lb (fun k0=>(lr 26 188 [1,0,1,0,0] 1 5 [(4,(.bool false))] (sl Zg 18 [] ⟨[],[],[some [4]],[]⟩ ⟨[],[],[]⟩ [true] (tt k0 nn)))) (fun k0=>(sl Zg 24 [] ⟨[],[],eqaN0,eqaM0⟩ ⟨[],[],[]⟩ [false] (tt k0 nn))))
theorem u3w (l0:List R2) (l1:List R2) (n:Nat) (vs:List AVal) (h:Yz (z7f l0 l1) n (z8t l0 l1)=.ret vs):Ji prog (Zy prog 188) (Zb prog 188 [(.dat l0.length (Zz l0)),(.dat l1.length (Zz l1))] true []) vs:=by have:=Ze (v0o l0 l1) n _ (w1q l0 l1);rwa [h] at this
inductive eqbS where
 | h0 (v13:Int)
def eqbC (l0:List R4) (l1:List R4):eqbS→Cfg
 | .h0 v13=>⟨⟨26,0,true⟩,none,(Zd prog 172 [1,1,0,1,0,0] 0),none,(Zy prog 5),⟨Yb [(0,(.dat l0.length (Zz l0))),(1,(.dat l1.length (Zz l1))),(12,(ii (l0.length:Int))),(13,(ii v13))],Vb [] 0,0,[],true⟩,[],.leaf⟩
def eqbN0 :List (Option (List Nat)):=[some [0,1,12,13]]
def eqbM0 :List (Option (List Nat)):=[]
def z7e (l0:List R4) (l1:List R4):eqbS→Xp eqbS
 | .h0 v13=>(bif (decide (v13<(l0.length:Int))) then (bif ((decide (0≤v13∧v13<(l0.length:Int)))&&true) then (bif ((decide (0≤v13∧v13<(l1.length:Int)))&&true) then (bif (!(((rd l0 v13.toNat).a == (rd l1 v13.toNat).a)&&(((rd l0 v13.toNat).b == (rd l1 v13.toNat).b)&&(((rd l0 v13.toNat).c == (rd l1 v13.toNat).c)&&(((rd l0 v13.toNat).d == (rd l1 v13.toNat).d)&&true))))) then (.ret [(.bool false)]) else (.to (.h0 (wrap .i64 (v13+1))))) else .stuck) else .stuck) else (.ret [(.bool true)]))
def z8s (l0:List R4) (l1:List R4):Xp eqbS:=(bif ((l0.length:Int) != (l1.length:Int)) then (.ret [(.bool false)]) else (.to (.h0 0)))
theorem v0n (l0:List R4) (l1:List R4): ∀s,Yr prog (Zy prog 172) (eqbC l0 l1) (eqbC l0 l1 s) (z7e l0 l1 s)
 | .h0 v13=>(lb (fun k0=>(lo fun aG=>(lo fun bF=>(lb (fun k1=>(lr 26 172 [1,1,0,1,0,0,1,1,0,0,1,1,0,0] 1 5 [(4,(.bool false))] (sl Zg 21 [] ⟨[],[],[some [4]],[]⟩ ⟨[],[],[]⟩ (bl 2 3) (tt k1 (ww bF (ww aG (tt k0 nn))))))) (fun k1=>(sl Zg 24 [] ⟨[],[],eqbN0,eqbM0⟩ ⟨[],[],[]⟩ (bl 2 1) (tt k1 (ww bF (ww aG (tt k0 nn)))))))))) (fun k0=>(lr 26 3 [1,1,1,1,1,1,1,0] 1 5 [(4,(.bool true))] (sl Zg 11 [] ⟨[],[],[some [4]],[]⟩ ⟨[],[],[]⟩ [false] (tt k0 nn)))))
theorem w1p (l0:List R4) (l1:List R4):Yr prog (Zy prog 172) (eqbC l0 l1) (Zb prog 172 [(.dat l0.length (Zz l0)),(.dat l1.length (Zz l1))] true []) (z8s l0 l1):=(lb (fun k0=>(lr 26 172 [1,0,1,0,0] 1 5 [(4,(.bool false))] (sl Zg 18 [] ⟨[],[],[some [4]],[]⟩ ⟨[],[],[]⟩ [true] (tt k0 nn)))) (fun k0=>(sl Zg 24 [] ⟨[],[],eqbN0,eqbM0⟩ ⟨[],[],[]⟩ [false] (tt k0 nn))))
theorem u3v (l0:List R4) (l1:List R4) (n:Nat) (vs:List AVal) (h:Yz (z7e l0 l1) n (z8s l0 l1)=.ret vs):Ji prog (Zy prog 172) (Zb prog 172 [(.dat l0.length (Zz l0)),(.dat l1.length (Zz l1))] true []) vs:=by have:=Ze (v0n l0 l1) n _ (w1p l0 l1);rwa [h] at this
inductive eqcS where
 | h0 (v13:Int)
def eqcC (l0:List R6) (l1:List R6):eqcS→Cfg
 | .h0 v13=>⟨⟨26,0,true⟩,none,(Zd prog 99 [1,1,0,1,0,0] 0),none,(Zy prog 5),⟨Yb [(0,(.dat l0.length (Zz l0))),(1,(.dat l1.length (Zz l1))),(12,(ii (l0.length:Int))),(13,(ii v13))],Vb [] 0,0,[],true⟩,[],.leaf⟩
def eqcN0 :List (Option (List Nat)):=[some [0,1,12,13]]
def eqcM0 :List (Option (List Nat)):=[]
def z7d (l0:List R6) (l1:List R6):eqcS→Xp eqcS
 | .h0 v13=>(bif (decide (v13<(l0.length:Int))) then (bif ((decide (0≤v13∧v13<(l0.length:Int)))&&true) then (bif ((decide (0≤v13∧v13<(l1.length:Int)))&&true) then (bif (!((((rd l0 v13.toNat).a == (rd l1 v13.toNat).a)&&(((rd l0 v13.toNat).b == (rd l1 v13.toNat).b)&&(((rd l0 v13.toNat).c == (rd l1 v13.toNat).c)&&true)))&&((((rd l0 v13.toNat).d == (rd l1 v13.toNat).d)&&(((rd l0 v13.toNat).e == (rd l1 v13.toNat).e)&&(((rd l0 v13.toNat).f == (rd l1 v13.toNat).f)&&true)))&&true))) then (.ret [(.bool false)]) else (.to (.h0 (wrap .i64 (v13+1))))) else .stuck) else .stuck) else (.ret [(.bool true)]))
def z8r (l0:List R6) (l1:List R6):Xp eqcS:=(bif ((l0.length:Int) != (l1.length:Int)) then (.ret [(.bool false)]) else (.to (.h0 0)))
theorem v0m (l0:List R6) (l1:List R6): ∀s,Yr prog (Zy prog 99) (eqcC l0 l1) (eqcC l0 l1 s) (z7d l0 l1 s)
 | .h0 v13=>(lb (fun k0=>(lo fun aG=>(lo fun bF=>(lb (fun k1=>(lr 26 99 [1,1,0,1,0,0,1,1,0,0,1,1,0,0] 1 5 [(4,(.bool false))] (sl Zg 21 [] ⟨[],[],[some [4]],[]⟩ ⟨[],[],[]⟩ (bl 2 3) (tt k1 (ww bF (ww aG (tt k0 nn))))))) (fun k1=>(sl Zg 24 [] ⟨[],[],eqcN0,eqcM0⟩ ⟨[],[],[]⟩ (bl 2 1) (tt k1 (ww bF (ww aG (tt k0 nn)))))))))) (fun k0=>(lr 26 3 [1,1,1,1,1,1,1,0] 1 5 [(4,(.bool true))] (sl Zg 11 [] ⟨[],[],[some [4]],[]⟩ ⟨[],[],[]⟩ [false] (tt k0 nn)))))
theorem w1o (l0:List R6) (l1:List R6):Yr prog (Zy prog 99) (eqcC l0 l1) (Zb prog 99 [(.dat l0.length (Zz l0)),(.dat l1.length (Zz l1))] true []) (z8r l0 l1):=(lb (fun k0=>(lr 26 99 [1,0,1,0,0] 1 5 [(4,(.bool false))] (sl Zg 18 [] ⟨[],[],[some [4]],[]⟩ ⟨[],[],[]⟩ [true] (tt k0 nn)))) (fun k0=>(sl Zg 24 [] ⟨[],[],eqcN0,eqcM0⟩ ⟨[],[],[]⟩ [false] (tt k0 nn))))
theorem u3u (l0:List R6) (l1:List R6) (n:Nat) (vs:List AVal) (h:Yz (z7d l0 l1) n (z8r l0 l1)=.ret vs):Ji prog (Zy prog 99) (Zb prog 99 [(.dat l0.length (Zz l0)),(.dat l1.length (Zz l1))] true []) vs:=by have:=Ze (v0m l0 l1) n _ (w1o l0 l1);rwa [h] at this
inductive holS where
def holC (x0:Int) (x1:Bool) (x2:Bool):holS→Cfg
 :=nofun
def w0s (x0:Int) (x1:Bool) (x2:Bool):holS→Xp holS
 :=nofun
def y3s (x0:Int) (x1:Bool) (x2:Bool):Xp holS:=(bif (x0 == 1) then (bif x1 then (.ret [(.bool x2)]) else (.ret [(.bool false)])) else (bif (x0 == 2) then (bif x1 then (.ret [(.bool true)]) else (.ret [(.bool x2)])) else (bif x1 then (.ret [(.bool (!x2))]) else (.ret [(.bool false)]))))
theorem w9v (x0:Int) (x1:Bool) (x2:Bool): ∀s,Yr prog (Zy prog 167) (holC x0 x1 x2) (holC x0 x1 x2 s) (w0s x0 x1 x2 s)
 :=nofun
theorem w0t (x0:Int) (x1:Bool) (x2:Bool):Yr prog (Zy prog 167) (holC x0 x1 x2) (Zb prog 167 [(.int .i64 x0),(.bool x1),(.bool x2)] true []) (y3s x0 x1 x2):=(lb (fun k0=>(lb (fun k1=>(lr 24 167 [1,0,1,0,0] 1 8 [(6,(.bool x2))] (sl Zg 19 [] ⟨[],[],[some [6]],[]⟩ ⟨[],[],[]⟩ [true,true] (tt k1 (tt k0 nn))))) (fun k1=>(lr 24 167 [1,0,1,0,0] 1 8 [(6,(.bool false))] (sl Zg 19 [] ⟨[],[],[some [6]],[]⟩ ⟨[],[],[]⟩ [true,false] (tt k1 (tt k0 nn))))))) (fun k0=>(lb (fun k1=>(lb (fun k2=>(lr 24 167 [1,1,0,1,0,0] 1 8 [(6,(.bool true))] (sl Zg 27 [] ⟨[],[],[some [6]],[]⟩ ⟨[],[],[]⟩ [false,true,true] (tt k2 (tt k1 (tt k0 nn)))))) (fun k2=>(lr 24 167 [1,1,0,1,0,0] 1 8 [(6,(.bool x2))] (sl Zg 27 [] ⟨[],[],[some [6]],[]⟩ ⟨[],[],[]⟩ [false,true,false] (tt k2 (tt k1 (tt k0 nn)))))))) (fun k1=>(lb (fun k2=>(lr 24 3 [1,1,1,1,1,1,1,0] 1 8 [(6,(.bool (!x2)))] (sl Zg 29 [] ⟨[],[],[some [6]],[]⟩ ⟨[],[],[]⟩ [false,false,true,true] (tt k2 (tt k1 (tt k0 nn)))))) (fun k2=>(lr 24 3 [1,1,1,1,1,1,1,0] 1 8 [(6,(.bool false))] (sl Zg 29 [] ⟨[],[],[some [6]],[]⟩ ⟨[],[],[]⟩ [false,false,false,false] (tt k2 (tt k1 (tt k0 nn)))))))))))
theorem u3b (x0:Int) (x1:Bool) (x2:Bool) (n:Nat) (vs:List AVal) (h:Yz (w0s x0 x1 x2) n (y3s x0 x1 x2)=.ret vs):Ji prog (Zy prog 167) (Zb prog 167 [(.int .i64 x0),(.bool x1),(.bool x2)] true []) vs:=by have:=Ze (w9v x0 x1 x2) n _ (w0t x0 x1 x2);rwa [h] at this
inductive fstS where
def fstC (x0:Bool) (x1:Bool):fstS→Cfg
 :=nofun
def w0v (x0:Bool) (x1:Bool):fstS→Xp fstS
 :=nofun
def x2p (x0:Bool) (x1:Bool):Xp fstS:=(.ret [(.bool x0)])
theorem w9x (x0:Bool) (x1:Bool): ∀s,Yr prog (Zy prog 187) (fstC x0 x1) (fstC x0 x1 s) (w0v x0 x1 s)
 :=nofun
theorem w0w (x0:Bool) (x1:Bool):Yr prog (Zy prog 187) (fstC x0 x1) (Zb prog 187 [(.bool x0),(.bool x1)] true []) (x2p x0 x1):=(lr 6 3 [1,1,1,1,1,1,1,0] 1 5 [(4,(.bool x0))] (sl Zg 9 [] ⟨[],[],[some [4]],[]⟩ ⟨[],[],[]⟩ [] nn))
theorem u3d (x0:Bool) (x1:Bool) (n:Nat) (vs:List AVal) (h:Yz (w0v x0 x1) n (x2p x0 x1)=.ret vs):Ji prog (Zy prog 187) (Zb prog 187 [(.bool x0),(.bool x1)] true []) vs:=by have:=Ze (w9x x0 x1) n _ (w0w x0 x1);rwa [h] at this
theorem Zs {a b:Int} (h:a<b):decide (a<b)=true:=Ah h
theorem Yx {a b:Int} (h: ¬a<b):decide (a<b)=false:=Ay h
theorem Wy {a b:Int} (h:a≤b):decide (a≤b)=true:=Ah h
theorem w1s {a b:Int} (h: ¬a≤b):decide (a≤b)=false:=Ay h
theorem Yn {a b:Int} (h:a>b):decide (a>b)=true:=Ah h
theorem Xa {a b:Int} (h: ¬a>b):decide (a>b)=false:=Ay h
theorem dge_t {a b:Int} (h:a≥b):decide (a≥b)=true:=Ah h
theorem Yj {a b:Nat} (h:a<b):decide (a<b)=true:=Ah h
theorem Yd {a b:Nat} (h:a≤b):decide (a≤b)=true:=Ah h
theorem Ym {a b:Nat} (h:a=b):decide (a=b)=true:=Ah h
theorem Zt {a b:Int} (h:0≤a∧a<b):decide (0≤a∧a<b)=true:=Ah h
theorem Zh {a:Nat} (h:a≤1099511627776):decide (a≤Jd)=true:=Ah h
theorem Zq {n:Int} (h: -9223372036854775808≤n∧n≤9223372036854775807):wrap .i64 n=n:=w_in h.1 h.2
theorem z3r :((0:Nat):Int)=0:=rfl
theorem Zx (i:Nat):(i:Int)+1=((i+1:Nat):Int):=rfl
theorem Zr (i:Nat):((i+1:Nat):Int) - 1=(i:Int):=by omega
theorem z0s {a b:Int} (h:a≠b):(a != b)=true:=by simp [h]
theorem z0t {a b:Int} (h:a=b):(a != b)=false:=by simp [h]
theorem u9p {a b:Int} (h:a≠b):(a == b)=false:=by simp [h]
theorem Ya (n:Nat):Nat.beq n n=true:=B4 n
theorem Zj (n:Nat):Int.toNat (n:Int)=n:=Int.toNat_natCast n
theorem Yp (b:Bool):b=true∨b=false:=by cases b <;> simp
theorem Yq {α:Type} [Yt α] {L:List α} {i:Nat} (h:i<L.length):L.drop i=rd L i::L.drop (i+1):=by rw [Xz h];exact Cn h
theorem z0v {P:Program} {S:Specs} (hS:Zu P S) {f:FuncId} {F:List AVal→Option (AVal×Bool)} (hf:(P.funcs[f]?).any (fun fn=>fn.body.isSome)=true)
  (hF: ∀args v,F args=some (v,true)→ ∃bs vs,Vj VLe args bs∧Jo vs=v∧Ji P (Zy P f) (Zb P f bs true []) vs∧ ∃d,pf d v=true):Zu P (S.with f F):=w6u hS hf hF
def x9f (out:List Int) (x:Int):Nat→Nat
 | 0=>0
 | k+1=>bif decide (rd out k>x) then x9f out x k else k+1
def y5x (out:List Int) (x:Int):List Int:=
 match x9f out x out.length with
 | 0=>x::out
 | k+1=>bif rd out k == x then out else out.take (k+1)++x::out.drop (k+1)
def z3z (l:List Int):List Int:=l.foldl y5x []
def Qq (l:List Int):Bool:=decide (l.length≤100000)
theorem y5w (out:List Int) (x:Int):(y5x out x).length ≤out.length+1:=by
 unfold y5x;split
 ·simp
 ·rename_i k _;cases (rd out k == x) <;> simp <;> omega
theorem x5t (out:List Int) (x:Int) (k:Nat) (hk:k≤out.length):
  (v7y (out++[0]) (k+1) (Nat.min (out.length+1 - k) (out.length+1 - (k+1))) (Je (out++[0]) k (out.length+1 - k))).set k x=out.take k++x::out.drop k:=by
 have hm:Nat.min (out.length+1 - k) (out.length+1 - (k+1))=out.length - k:=by show min _ _=_;omega
 rw [hm];apply Ch
 ·simp [Ky];omega
 ·intro i h1 h2;have hi:i<out.length+1:=by simpa [Ky] using h1
  rw [←Xz h1,←Xz h2];rw [u6y (by simpa [Ky] using hi)];by_cases e:i=k
  ·subst e;rw [Au rfl,Jy (by simp only [Bm];omega),Xz (by simp;omega)];simp [Nat.min_eq_left hk]
  ·rw [Ao e,v4d (by simpa using hi)];by_cases h:i<k
   ·rw [u4k (show¬k+1≤i by omega),Bs,Aa,Jn (by omega),Jn (by simp;omega)];rw [Xz (by omega),Xz (by simp;omega),Bo]
   ·rw [v8h (show k+1≤i by omega),v8h (show i+1≤k+1+(out.length - k) by omega),An,Ab,x1s (by omega),Jn (by omega)];rw [Jy (by simp;omega),Xz (by omega),Xz (by simp;omega)];obtain ⟨j,rfl⟩: ∃j,i=k+1+j:=⟨i - k - 1,by omega⟩
    simp only [Bm,Nat.min_eq_left hk];rw [List.getElem_cons,dif_neg (by omega),Cu]
    congr 1
theorem w3p (l:List Int) (out:List Int) (i:Nat) (hi:i<l.length) (hl:l.length≤100000) (ho:out.length≤i): ∀(k N:Nat),k≤out.length→
  (x9f out (rd l i) out.length=x9f out (rd l i) k)→ ∃m,∀N,Yz (Ux l) (N+m) (.to (.h1 out (i:Int) (k:Int)))=Yz (Ux l) N (.to (.h0 (y5x out (rd l i)) ((i+1:Nat):Int)))
 | 0,N,hk,hp=>by
  refine ⟨1,fun N=> ?_⟩;have hins:y5x out (rd l i)=(v7y (out++[0]) (0+1) (Nat.min (out.length+1 - 0) (out.length+1 - (0+1))) (Je (out++[0]) 0 (out.length+1 - 0))).set 0 (rd l i):=by rw [x5t out _ 0 (AJ _)];unfold y5x;rw [hp];rfl
  rw [hins,Zv];simp (disch:=omega) only [Ux,Zh,Aw,Xa,Zs,Wy,Yj,Yd,Ym,Zt,Zq,Zx,Ya,Zj,Ag,Ai,An,Ab,Aa]
 | k+1,N,hk,hp=>by
  rcases Yp (decide (rd out k>rd l i)) with h | h
  ·have hp':x9f out (rd l i) out.length=x9f out (rd l i) k:=by rw [hp];conv=>lhs;unfold x9f;rw [h,Ab]
   obtain ⟨m,hm⟩:=w3p l out i hi hl ho k N (by omega) hp';refine ⟨m+1,fun N=> ?_⟩;rw [←hm N,←AE,Zv];simp (disch:=omega) only [Ux,Zr,h,Zh,Aw,Yn,Zs,Wy,Yj,Yd,Ym,Zt,Zq,Zx,Ya,Zj,Ag,Ai,An,Ab,Aa]
  ·have hpk:x9f out (rd l i) out.length=k+1:=by rw [hp];unfold x9f;rw [h];rfl
   refine ⟨1,fun N=> ?_⟩;rw [Zv];rcases Yp (rd out k == rd l i) with q | q
   ·have hins:y5x out (rd l i)=out:=by unfold y5x;rw [hpk];simp only [q,Ab]
    rw [hins];simp (disch:=omega) only [Ux,Zr,h,q,Zh,Aw,Yn,Zs,Wy,Yj,Yd,Ym,Zt,Zq,Zx,Ya,Zj,Ag,Ai,An,Ab,Aa]
   ·have hins:y5x out (rd l i)=(v7y (out++[0]) (k+1+1) (Nat.min (out.length+1 - (k+1)) (out.length+1 - (k+1+1))) (Je (out++[0]) (k+1) (out.length+1 - (k+1)))).set (k+1) (rd l i):=by rw [x5t out _ (k+1) hk];unfold y5x;rw [hpk];simp only [q,Aa]
    rw [hins];simp (disch:=omega) only [Ux,Zr,h,q,Zh,Aw,Yn,Zs,Wy,Yj,Yd,Ym,Zt,Zq,Zx,Ya,Zj,Ag,Ai,An,Ab,Aa]
theorem w3q (l:List Int) (hl:l.length≤100000): ∀(k i:Nat) (out:List Int),i+k=l.length→out.length≤i→ ∃m,Yz (Ux l) m (.to (.h0 out (i:Int)))=.ret [.dat ((l.drop i).foldl y5x out).length (Zz ((l.drop i).foldl y5x out))]
 | 0,i,out,h,ho=>by refine ⟨1,?_⟩;rw [Zv];simp (disch:=omega) only [Ux,Yx,Aa];rw [Av (by omega)];rfl
 | k+1,i,out,h,ho=>by obtain ⟨m1,h1⟩:=w3p l out i (by omega) hl ho out.length 0 (Aq _) rfl;obtain ⟨m2,h2⟩:=w3q l hl k (i+1) (y5x out (rd l i)) (by omega) (AG (y5w _ _) (by omega));refine ⟨m2+m1+1,?_⟩;rw [Zv];simp (disch:=omega) only [Ux,Zs,Ab];rw [h1 m2,h2,Yq (show i<l.length by omega)];rfl
theorem v3h (l:List Int) (h:Qq l=true): ∃N,Yz (Ux l) N (z5l l)=.ret [.dat (z3z l).length (Zz (z3z l))]:=by
 have:=w3q l (AF h) l.length 0 [] (by omega) (Aq _)
 simpa [z5l,z3z] using this
theorem Zf (n:Nat):Int.toNat ((n:Int) - 1)=n - 1:=by omega
theorem u1k (x y:R2):((x.a == y.a)&&(x.b == y.b))=decide (x=y):=by obtain ⟨a,b⟩:=x;obtain ⟨c,d⟩:=y;rw [Bool.eq_iff_iff];simp
theorem u1j (x y:R4):((x.a == y.a)&&((x.b == y.b)&&((x.c == y.c)&&(x.d == y.d))))=decide (x=y):=by obtain ⟨a,b,c,d⟩:=x;obtain ⟨e,f,g,h⟩:=y;rw [Bool.eq_iff_iff];simp
theorem u1i (x y:R6):(((x.a == y.a)&&((x.b == y.b)&&(x.c == y.c)))&&((x.d == y.d)&&((x.e == y.e)&&(x.f == y.f))))=decide (x=y):=by obtain ⟨a,b,c,d,e,f⟩:=x;obtain ⟨a',b',c',d',e',f'⟩:=y;rw [Bool.eq_iff_iff];simp [and_assoc]
def Qm (l m:List R2):Bool:=decide (l=m)
def Ja (l m:List R4):Bool:=decide (l=m)
def Km (l m:List R6):Bool:=decide (l=m)
def Vs (l m:List R2):Bool:=decide (l.length≤1000000)
def Wd (l m:List R4):Bool:=decide (l.length≤1000000)
def Vr (l m:List R6):Bool:=decide (l.length≤1000000)
theorem z5w {α:Type} [DecidableEq α] (x y:α) (l m:List α):decide (x::l=y::m)=(decide (x=y)&&decide (l=m)):=by rw [←Bool.decide_and];congr 1;simp
theorem u6d (l m:List R2) (hl:l.length≤1000000) (hm:l.length=m.length): ∀(k i:Nat),i+k=l.length→ ∃N,Yz (z6t l m) N (.to (.h0 (i:Int)))=.ret [.bool (decide (l.drop i=m.drop i))]
 | 0,i,h=>by refine ⟨1,?_⟩;rw [Zv,Av (show l.length≤i by omega),Av (show m.length≤i by omega)];simp (disch:=omega) only [z6t,Xa,Yn,Zs,Yx,Wy,Yj,Yd,Ym,Zt,Zq,Zh,z0s,z0t,Aw,Zx,Zr,Zf,Ya,Zj,Ag,Ai,An,Ab,Aa,AC,AH,Za]
 | k+1,i,h=>by
  obtain ⟨N,hN⟩:=u6d l m hl hm k (i+1) (by omega);refine ⟨N+1,?_⟩;rw [Zv,Yq (show i<l.length by omega),Yq (show i<m.length by omega),z5w];rcases Yp (decide (rd l i=rd m i)) with q | q
  ·simp (disch:=omega) only [z6t,u1k,q,Xa,Yn,Zs,Yx,Wy,Yj,Yd,Ym,Zt,Zq,Zh,z0s,z0t,Aw,Zx,Zr,Zf,Ya,Zj,Ag,Ai,An,Ab,Aa,AC,AH,Za];exact hN
  ·simp (disch:=omega) only [z6t,u1k,q,Xa,Yn,Zs,Yx,Wy,Yj,Yd,Ym,Zt,Zq,Zh,z0s,z0t,Aw,Zx,Zr,Zf,Ya,Zj,Ag,Ai,An,Ab,Aa,AC,AH,Za,Bs]
theorem j1j (l m:List R2) (h:Vs l m=true): ∃N,Yz (z6t l m) N (z7q l m)=.ret [.bool (Qm l m)]:=by
 have hl:l.length≤1000000:=AF h;by_cases hm:l.length=m.length
 ·obtain ⟨N,hN⟩:=u6d l m hl hm l.length 0 (Ag _);refine ⟨N,?_⟩;unfold z7q;rw [z0t (show (l.length:Int)=(m.length:Nat) by omega)];exact hN
 ·refine ⟨0,?_⟩;unfold z7q;rw [z0s (show (l.length:Int)≠(m.length:Nat) by omega)];have:Qm l m=false:=Ay fun e=>hm (by rw [e]);rw [this];rfl
theorem u6c (l m:List R4) (hl:l.length≤1000000) (hm:l.length=m.length): ∀(k i:Nat),i+k=l.length→ ∃N,Yz (z6s l m) N (.to (.h0 (i:Int)))=.ret [.bool (decide (l.drop i=m.drop i))]
 | 0,i,h=>by refine ⟨1,?_⟩;rw [Zv,Av (show l.length≤i by omega),Av (show m.length≤i by omega)];simp (disch:=omega) only [z6s,Xa,Yn,Zs,Yx,Wy,Yj,Yd,Ym,Zt,Zq,Zh,z0s,z0t,Aw,Zx,Zr,Zf,Ya,Zj,Ag,Ai,An,Ab,Aa,AC,AH,Za]
 | k+1,i,h=>by
  obtain ⟨N,hN⟩:=u6c l m hl hm k (i+1) (by omega);refine ⟨N+1,?_⟩;rw [Zv,Yq (show i<l.length by omega),Yq (show i<m.length by omega),z5w];rcases Yp (decide (rd l i=rd m i)) with q | q
  ·simp (disch:=omega) only [z6s,u1j,q,Xa,Yn,Zs,Yx,Wy,Yj,Yd,Ym,Zt,Zq,Zh,z0s,z0t,Aw,Zx,Zr,Zf,Ya,Zj,Ag,Ai,An,Ab,Aa,AC,AH,Za];exact hN
  ·simp (disch:=omega) only [z6s,u1j,q,Xa,Yn,Zs,Yx,Wy,Yj,Yd,Ym,Zt,Zq,Zh,z0s,z0t,Aw,Zx,Zr,Zf,Ya,Zj,Ag,Ai,An,Ab,Aa,AC,AH,Za,Bs]
theorem j1i (l m:List R4) (h:Wd l m=true): ∃N,Yz (z6s l m) N (z7p l m)=.ret [.bool (Ja l m)]:=by
 have hl:l.length≤1000000:=AF h;by_cases hm:l.length=m.length
 ·obtain ⟨N,hN⟩:=u6c l m hl hm l.length 0 (Ag _);refine ⟨N,?_⟩;unfold z7p;rw [z0t (show (l.length:Int)=(m.length:Nat) by omega)];exact hN
 ·refine ⟨0,?_⟩;unfold z7p;rw [z0s (show (l.length:Int)≠(m.length:Nat) by omega)];have:Ja l m=false:=Ay fun e=>hm (by rw [e]);rw [this];rfl
theorem u6e (l m:List R6) (hl:l.length≤1000000) (hm:l.length=m.length): ∀(k i:Nat),i+k=l.length→ ∃N,Yz (z6u l m) N (.to (.h0 (i:Int)))=.ret [.bool (decide (l.drop i=m.drop i))]
 | 0,i,h=>by refine ⟨1,?_⟩;rw [Zv,Av (show l.length≤i by omega),Av (show m.length≤i by omega)];simp (disch:=omega) only [z6u,Xa,Yn,Zs,Yx,Wy,Yj,Yd,Ym,Zt,Zq,Zh,z0s,z0t,Aw,Zx,Zr,Zf,Ya,Zj,Ag,Ai,An,Ab,Aa,AC,AH,Za]
 | k+1,i,h=>by
  obtain ⟨N,hN⟩:=u6e l m hl hm k (i+1) (by omega);refine ⟨N+1,?_⟩;rw [Zv,Yq (show i<l.length by omega),Yq (show i<m.length by omega),z5w];rcases Yp (decide (rd l i=rd m i)) with q | q
  ·simp (disch:=omega) only [z6u,u1i,q,Xa,Yn,Zs,Yx,Wy,Yj,Yd,Ym,Zt,Zq,Zh,z0s,z0t,Aw,Zx,Zr,Zf,Ya,Zj,Ag,Ai,An,Ab,Aa,AC,AH,Za];exact hN
  ·simp (disch:=omega) only [z6u,u1i,q,Xa,Yn,Zs,Yx,Wy,Yj,Yd,Ym,Zt,Zq,Zh,z0s,z0t,Aw,Zx,Zr,Zf,Ya,Zj,Ag,Ai,An,Ab,Aa,AC,AH,Za,Bs]
theorem j1k (l m:List R6) (h:Vr l m=true): ∃N,Yz (z6u l m) N (z7r l m)=.ret [.bool (Km l m)]:=by
 have hl:l.length≤1000000:=AF h;by_cases hm:l.length=m.length
 ·obtain ⟨N,hN⟩:=u6e l m hl hm l.length 0 (Ag _);refine ⟨N,?_⟩;unfold z7r;rw [z0t (show (l.length:Int)=(m.length:Nat) by omega)];exact hN
 ·refine ⟨0,?_⟩;unfold z7r;rw [z0s (show (l.length:Int)≠(m.length:Nat) by omega)];have:Km l m=false:=Ay fun e=>hm (by rw [e]);rw [this];rfl
theorem u9i (l m:List R2) (hl:l.length≤1000000) (hm:l.length=m.length): ∀(k i:Nat),i+k=l.length→ ∃N,Yz (z7f l m) N (.to (.h0 (i:Int)))=.ret [.bool (decide (l.drop i=m.drop i))]
 | 0,i,h=>by refine ⟨1,?_⟩;rw [Zv,Av (show l.length≤i by omega),Av (show m.length≤i by omega)];simp (disch:=omega) only [z7f,Xa,Yn,Zs,Yx,Wy,Yj,Yd,Ym,Zt,Zq,Zh,z0s,z0t,Aw,Zx,Zr,Zf,Ya,Zj,Ag,Ai,An,Ab,Aa,AC,AH,Za]
 | k+1,i,h=>by
  obtain ⟨N,hN⟩:=u9i l m hl hm k (i+1) (by omega);refine ⟨N+1,?_⟩;rw [Zv,Yq (show i<l.length by omega),Yq (show i<m.length by omega),z5w];rcases Yp (decide (rd l i=rd m i)) with q | q
  ·simp (disch:=omega) only [z7f,u1k,q,Xa,Yn,Zs,Yx,Wy,Yj,Yd,Ym,Zt,Zq,Zh,z0s,z0t,Aw,Zx,Zr,Zf,Ya,Zj,Ag,Ai,An,Ab,Aa,AC,AH,Za];exact hN
  ·simp (disch:=omega) only [z7f,u1k,q,Xa,Yn,Zs,Yx,Wy,Yj,Yd,Ym,Zt,Zq,Zh,z0s,z0t,Aw,Zx,Zr,Zf,Ya,Zj,Ag,Ai,An,Ab,Aa,AC,AH,Za,Bs]
theorem j6h (l m:List R2) (h:Vs l m=true): ∃N,Yz (z7f l m) N (z8t l m)=.ret [.bool (Qm l m)]:=by
 have hl:l.length≤1000000:=AF h;by_cases hm:l.length=m.length
 ·obtain ⟨N,hN⟩:=u9i l m hl hm l.length 0 (Ag _);refine ⟨N,?_⟩;unfold z8t;rw [z0t (show (l.length:Int)=(m.length:Nat) by omega)];exact hN
 ·refine ⟨0,?_⟩;unfold z8t;rw [z0s (show (l.length:Int)≠(m.length:Nat) by omega)];have:Qm l m=false:=Ay fun e=>hm (by rw [e]);rw [this];rfl
theorem u9h (l m:List R4) (hl:l.length≤1000000) (hm:l.length=m.length): ∀(k i:Nat),i+k=l.length→ ∃N,Yz (z7e l m) N (.to (.h0 (i:Int)))=.ret [.bool (decide (l.drop i=m.drop i))]
 | 0,i,h=>by refine ⟨1,?_⟩;rw [Zv,Av (show l.length≤i by omega),Av (show m.length≤i by omega)];simp (disch:=omega) only [z7e,Xa,Yn,Zs,Yx,Wy,Yj,Yd,Ym,Zt,Zq,Zh,z0s,z0t,Aw,Zx,Zr,Zf,Ya,Zj,Ag,Ai,An,Ab,Aa,AC,AH,Za]
 | k+1,i,h=>by
  obtain ⟨N,hN⟩:=u9h l m hl hm k (i+1) (by omega);refine ⟨N+1,?_⟩;rw [Zv,Yq (show i<l.length by omega),Yq (show i<m.length by omega),z5w];rcases Yp (decide (rd l i=rd m i)) with q | q
  ·simp (disch:=omega) only [z7e,u1j,q,Xa,Yn,Zs,Yx,Wy,Yj,Yd,Ym,Zt,Zq,Zh,z0s,z0t,Aw,Zx,Zr,Zf,Ya,Zj,Ag,Ai,An,Ab,Aa,AC,AH,Za];exact hN
  ·simp (disch:=omega) only [z7e,u1j,q,Xa,Yn,Zs,Yx,Wy,Yj,Yd,Ym,Zt,Zq,Zh,z0s,z0t,Aw,Zx,Zr,Zf,Ya,Zj,Ag,Ai,An,Ab,Aa,AC,AH,Za,Bs]
theorem j6g (l m:List R4) (h:Wd l m=true): ∃N,Yz (z7e l m) N (z8s l m)=.ret [.bool (Ja l m)]:=by
 have hl:l.length≤1000000:=AF h;by_cases hm:l.length=m.length
 ·obtain ⟨N,hN⟩:=u9h l m hl hm l.length 0 (Ag _);refine ⟨N,?_⟩;unfold z8s;rw [z0t (show (l.length:Int)=(m.length:Nat) by omega)];exact hN
 ·refine ⟨0,?_⟩;unfold z8s;rw [z0s (show (l.length:Int)≠(m.length:Nat) by omega)];have:Ja l m=false:=Ay fun e=>hm (by rw [e]);rw [this];rfl
theorem u9g (l m:List R6) (hl:l.length≤1000000) (hm:l.length=m.length): ∀(k i:Nat),i+k=l.length→ ∃N,Yz (z7d l m) N (.to (.h0 (i:Int)))=.ret [.bool (decide (l.drop i=m.drop i))]
 | 0,i,h=>by refine ⟨1,?_⟩;rw [Zv,Av (show l.length≤i by omega),Av (show m.length≤i by omega)];simp (disch:=omega) only [z7d,Xa,Yn,Zs,Yx,Wy,Yj,Yd,Ym,Zt,Zq,Zh,z0s,z0t,Aw,Zx,Zr,Zf,Ya,Zj,Ag,Ai,An,Ab,Aa,AC,AH,Za]
 | k+1,i,h=>by
  obtain ⟨N,hN⟩:=u9g l m hl hm k (i+1) (by omega);refine ⟨N+1,?_⟩;rw [Zv,Yq (show i<l.length by omega),Yq (show i<m.length by omega),z5w];rcases Yp (decide (rd l i=rd m i)) with q | q
  ·simp (disch:=omega) only [z7d,u1i,q,Xa,Yn,Zs,Yx,Wy,Yj,Yd,Ym,Zt,Zq,Zh,z0s,z0t,Aw,Zx,Zr,Zf,Ya,Zj,Ag,Ai,An,Ab,Aa,AC,AH,Za];exact hN
  ·simp (disch:=omega) only [z7d,u1i,q,Xa,Yn,Zs,Yx,Wy,Yj,Yd,Ym,Zt,Zq,Zh,z0s,z0t,Aw,Zx,Zr,Zf,Ya,Zj,Ag,Ai,An,Ab,Aa,AC,AH,Za,Bs]
theorem j6f (l m:List R6) (h:Vr l m=true): ∃N,Yz (z7d l m) N (z8r l m)=.ret [.bool (Km l m)]:=by
 have hl:l.length≤1000000:=AF h;by_cases hm:l.length=m.length
 ·obtain ⟨N,hN⟩:=u9g l m hl hm l.length 0 (Ag _);refine ⟨N,?_⟩;unfold z8r;rw [z0t (show (l.length:Int)=(m.length:Nat) by omega)];exact hN
 ·refine ⟨0,?_⟩;unfold z8r;rw [z0s (show (l.length:Int)≠(m.length:Nat) by omega)];have:Km l m=false:=Ay fun e=>hm (by rw [e]);rw [this];rfl
def in4 (x y:Int) (r:R4):Bool:=decide (r.a≤x)&&(decide (x<r.c)&&(decide (r.b≤y)&&decide (y<r.d)))
def has4V (l:List R4) (x y:Int):Bool:=l.any (in4 x y)
def z0k (l:List R4) (x y:Int):Bool:=decide (l.length≤1000000)
theorem v3t (l:List R4) (x y:Int) (hl:l.length≤1000000): ∀(k i:Nat),i+k=l.length→ ∃N,Yz (z5o l x y) N (.to (.h0 (i:Int)))=.ret [.bool ((l.drop i).any (in4 x y))]
 | 0,i,h=>by refine ⟨1,?_⟩;rw [Zv,Av (show l.length≤i by omega)];simp (disch:=omega) only [z5o,Xa,Yn,Zs,Yx,Wy,Yj,Yd,Ym,Zt,Zq,Zh,z0s,z0t,Aw,Zx,Zr,Zf,Ya,Zj,Ag,Ai,An,Ab,Aa,AC,AH,Za];rfl
 | k+1,i,h=>by
  obtain ⟨N,hN⟩:=v3t l x y hl k (i+1) (by omega);refine ⟨N+1,?_⟩;rw [Zv,Yq (show i<l.length by omega),List.any_cons];unfold in4 at hN ⊢;rcases Yp (decide ((rd l i).a ≤x)) with q1 | q1 <;> rcases Yp (decide (x<(rd l i).c)) with q2 | q2 <;> rcases Yp (decide ((rd l i).b ≤y)) with q3 | q3 <;> rcases Yp (decide (y<(rd l i).d)) with q4 | q4 <;>
   simp (disch:=omega) only [z5o,q1,q2,q3,q4,Xa,Yn,Zs,Yx,Wy,Yj,Yd,Ym,Zt,Zq,Zh,z0s,z0t,Aw,Zx,Zr,Zf,Ya,Zj,Ag,Ai,An,Ab,Aa,AC,AH,Za,Bs,Bool.and_false,Bool.false_or,Bool.true_or] <;> exact hN
theorem u0n (l:List R4) (x y:Int) (h:z0k l x y=true): ∃N,Yz (z5o l x y) N (z7u l x y)=.ret [.bool (has4V l x y)]:=by
 have:=v3t l x y (AF h) l.length 0 (Ag _)
 simpa [z7u,has4V] using this
def on6 (z:Int) (b:R6):Bool:=decide (b.c≤z)&&decide (z<b.f)
def j4d (b:R6):R4:=⟨b.a,b.b,b.d,b.e⟩
def atV (l:List R6) (z:Int):List R4:=(l.filter (on6 z)).map j4d
def z5z (l:List R6) (z:Int):Bool:=decide (l.length≤1000000)
theorem v4l (l:List R6) (z:Int) (hl:l.length≤1000000): ∀(k i:Nat) (out:List R4),i+k=l.length→out.length≤i→ ∃N,Yz (z6v l z) N (.to (.h0 out (i:Int)))=.ret [.dat (out++atV (l.drop i) z).length (Zz (out++atV (l.drop i) z))]
 | 0,i,out,h,ho=>by refine ⟨1,?_⟩;rw [Zv,Av (show l.length≤i by omega)];simp (disch:=omega) only [z6v,Xa,Yn,Zs,Yx,Wy,Yj,Yd,Ym,Zt,Zq,Zh,z0s,z0t,Aw,Zx,Zr,Zf,Ya,Zj,Ag,Ai,An,Ab,Aa,AC,AH,Za,atV,List.filter_nil,Ba,AB]
 | k+1,i,out,h,ho=>by
  rw [Yq (show i<l.length by omega)];have e:atV (rd l i::l.drop (i+1)) z=(bif on6 z (rd l i) then [j4d (rd l i)] else [])++atV (l.drop (i+1)) z:=by unfold atV;rw [Be];cases on6 z (rd l i) <;> rfl
  rw [e,←AM];rcases Yp (decide ((rd l i).c ≤z)) with q1 | q1 <;> rcases Yp (decide (z<(rd l i).f)) with q2 | q2
  ·obtain ⟨N,hN⟩:=v4l l z hl k (i+1) (out++[j4d (rd l i)]) (by omega) (by simp;omega);refine ⟨N+1,?_⟩;rw [Zv];simp (disch:=omega) only [z6v,q1,q2,on6,Xa,Yn,Zs,Yx,Wy,Yj,Yd,Ym,Zt,Zq,Zh,z0s,z0t,Aw,Zx,Zr,Zf,Ya,Zj,Ag,Ai,An,Ab,Aa,AC,AH,Za];exact hN
  all_goals
   obtain ⟨N,hN⟩:=v4l l z hl k (i+1) out (by omega) (by omega);refine ⟨N+1,?_⟩;rw [Zv];simp (disch:=omega) only [z6v,q1,q2,on6,Xa,Yn,Zs,Yx,Wy,Yj,Yd,Ym,Zt,Zq,Zh,z0s,z0t,Aw,Zx,Zr,Zf,Ya,Zj,Ag,Ai,An,Ab,Aa,AC,AH,Za,Bs,Bool.and_false,AB];exact hN
theorem j2k (l:List R6) (z:Int) (h:z5z l z=true): ∃N,Yz (z6v l z) N (y3d l z)=.ret [.dat (atV l z).length (Zz (atV l z))]:=by
 have:=v4l l z (AF h) l.length 0 [] (Ag _) (Aq _)
 simpa [y3d] using this
def v1o (cuts:List Int) (ins:List Bool):Nat→Nat→List R2→List R2
 | 0,_,out=>out
 | k+1,i,out=>v1o cuts ins k (i+1) (bif rd ins i then (bif decide (0<out.length)&&((rd out (out.length - 1)).b == rd cuts i) then out.set (out.length - 1) ⟨(rd out (out.length - 1)).a,rd cuts (i+1)⟩ else out++[⟨rd cuts i,rd cuts (i+1)⟩]) else out)
def y1z (cuts:List Int) (ins:List Bool):List R2:=v1o cuts ins (cuts.length - 1) 0 []
def z9c (cuts:List Int) (ins:List Bool):Bool:=decide (cuts.length≤1000000∧cuts.length≤ins.length+1)
theorem x1t (cuts:List Int) (ins:List Bool) (hl:cuts.length≤1000000) (hi:cuts.length≤ins.length+1): ∀(k i:Nat) (out:List R2),k=cuts.length - 1 - i→i≤cuts.length→out.length≤i→ ∃N,Yz (z0b cuts ins) N (.to (.h0 out (i:Int)))=.ret [.dat (v1o cuts ins k i out).length (Zz (v1o cuts ins k i out))]
 | 0,i,out,h,hi2,ho=>by refine ⟨1,?_⟩;rw [Zv];simp (disch:=omega) only [z0b,Xa,Yn,Zs,Yx,Wy,Yj,Yd,Ym,Zt,Zq,Zh,z0s,z0t,Aw,Zx,Zr,Zf,Ya,Zj,Ag,Ai,An,Ab,Aa,AC,AH,Za,v1o]
 | k+1,i,out,h,hi2,ho=>by
  unfold v1o;rcases Yp (rd ins i) with q | q
  ·rcases Yp (decide (0<out.length)&&((rd out (out.length - 1)).b == rd cuts i)) with q2 | q2
   ·obtain ⟨N,hN⟩:=x1t cuts ins hl hi k (i+1) (out.set (out.length - 1) ⟨(rd out (out.length - 1)).a,rd cuts (i+1)⟩) (by omega) (by omega) (by simp;omega);refine ⟨N+1,?_⟩;rw [Zv,q,q2];simp only [Ac,Al] at q2;simp (disch:=omega) only [z0b,q,q2.2,Xa,Yn,Zs,Yx,Wy,Yj,Yd,Ym,Zt,Zq,Zh,z0s,z0t,Aw,Zx,Zr,Zf,Ya,Zj,Ag,Ai,An,Ab,Aa,AC,AH,Za];exact hN
   ·obtain ⟨N,hN⟩:=x1t cuts ins hl hi k (i+1) (out++[⟨rd cuts i,rd cuts (i+1)⟩]) (by omega) (by omega) (by simp;omega);refine ⟨N+1,?_⟩;rw [Zv,q,q2];by_cases h0:0<out.length
    ·rw [Ah h0,An] at q2;simp (disch:=omega) only [z0b,q,q2,Xa,Yn,Zs,Yx,Wy,Yj,Yd,Ym,Zt,Zq,Zh,z0s,z0t,Aw,Zx,Zr,Zf,Ya,Zj,Ag,Ai,An,Ab,Aa,AC,AH,Za];exact hN
    ·simp (disch:=omega) only [z0b,q,Xa,Yn,Zs,Yx,Wy,Yj,Yd,Ym,Zt,Zq,Zh,z0s,z0t,Aw,Zx,Zr,Zf,Ya,Zj,Ag,Ai,An,Ab,Aa,AC,AH,Za];exact hN
  ·obtain ⟨N,hN⟩:=x1t cuts ins hl hi k (i+1) out (by omega) (by omega) (by omega);refine ⟨N+1,?_⟩;rw [Zv,q];simp (disch:=omega) only [z0b,q,Xa,Yn,Zs,Yx,Wy,Yj,Yd,Ym,Zt,Zq,Zh,z0s,z0t,Aw,Zx,Zr,Zf,Ya,Zj,Ag,Ai,An,Ab,Aa,AC,AH,Za];exact hN
theorem u1e (cuts:List Int) (ins:List Bool) (h:z9c cuts ins=true): ∃N,Yz (z0b cuts ins) N (z8b cuts ins)=.ret [.dat (y1z cuts ins).length (Zz (y1z cuts ins))]:=by
 obtain ⟨h1,h2⟩:=AF h;have:=x1t cuts ins h1 h2 (cuts.length - 1) 0 [] (by omega) (AJ _) (Aq _)
 simpa [z8b,y1z] using this
abbrev v5f :Nat:=70
abbrev u8d :Nat:=142
abbrev u7r :Nat:=169
abbrev u7z :Nat:=167
abbrev nHas4 :Nat:=168
abbrev u7q :Nat:=128
abbrev nXs :Nat:=165
abbrev nYs :Nat:=166
abbrev u7y :Nat:=126
abbrev u7p :Nat:=20
abbrev nAt :Nat:=127
abbrev nCuts :Nat:=125
abbrev u7x :Nat:=72
abbrev v5i :Nat:=53
abbrev nEq2 :Nat:=188
abbrev nEq4 :Nat:=172
abbrev nEq6 :Nat:=99
abbrev u7o :Nat:=200
abbrev w4u :Nat:=201
abbrev nSort :Nat:=63
abbrev w4v :Nat:=64
abbrev nFst :Nat:=187
abbrev x5e :Nat:=157
abbrev w4q :Nat:=65
abbrev v5h :Nat:=121
abbrev w4o :Nat:=120
abbrev w4m :Nat:=94
abbrev x5f :Nat:=51
abbrev w4l :Nat:=191
abbrev nSpU1 :Nat:=164
abbrev nSpE1 :Nat:=170
abbrev nSpD1 :Nat:=163
abbrev nSpU :Nat:=124
abbrev nSpE :Nat:=129
abbrev nSpD :Nat:=123
abbrev w4p :Nat:=189
abbrev nRgU :Nat:=67
abbrev nRgE :Nat:=79
abbrev nRgD :Nat:=66
abbrev v5g :Nat:=47
abbrev nSHas :Nat:=43
-- not there: gambrel/gambrelref39.Floor
abbrev nIn16 :Nat:=38
abbrev nMCut :Nat:=141
abbrev v5l :Nat:=101
abbrev u7u :Nat:=52
abbrev nMOf :Nat:=15
abbrev v5k :Nat:=17
abbrev u7t :Nat:=58
abbrev v5j :Nat:=22
abbrev v5m :Nat:=24
abbrev u7w :Nat:=45
abbrev u7s :Nat:=91
abbrev nMVol :Nat:=46
abbrev u7v :Nat:=73
abbrev w4w :Nat:=36
abbrev u8c :Nat:=42
abbrev u8b :Nat:=37
abbrev nMv1 :Nat:=105
abbrev nMv2 :Nat:=106
abbrev nMv3 :Nat:=107
abbrev nMv4 :Nat:=108
abbrev nMv5 :Nat:=109
abbrev nMv6 :Nat:=110
abbrev nMv7 :Nat:=111
abbrev nMv8 :Nat:=112
abbrev nMv9 :Nat:=113
def y6a (k:Int) (a b:Bool):Bool:=bif k == 1 then a&&b else bif k == 2 then a||b else a&& !b
def w5y (a b:Bool):Bool:=a
theorem j4a (k:Int) (a b:Bool): ∃N,Yz (w0s k a b) N (y3s k a b)=.ret [.bool (y6a k a b)]:=by
 refine ⟨0,?_⟩;unfold y3s y6a;cases a <;> cases b <;> rcases Yp (k == 1) with q | q <;> rcases Yp (k == 2) with q2 | q2 <;> rw [q] <;> (try rw [q2]) <;> rfl
theorem j4b (a b:Bool): ∃N,Yz (w0v a b) N (x2p a b)=.ret [.bool (w5y a b)]:=⟨0,rfl⟩
def fSrt :List AVal→Option (AVal×Bool)
 | [a0]=>match asL Int a0 with
  | some (L0,g0,n0)=>some (.dat (z3z L0).length (Zz (z3z L0)),isT Int n0 g0&&(Qq L0))
  | _=>none
 | _=>none
theorem j4t {S:Specs} (hS:Zu prog S):Zu prog (S.with v5f fSrt):=by
 refine z0v hS (by kernel_rfl) fun args v h=> ?_;unfold fSrt at h;split at h
 ·rename_i a0;split at h
  ·rename_i L0 g0 n0 e0;simp only [Ae,Ad,Ac] at h;obtain ⟨rfl,ho0,hw⟩:=h;obtain ⟨N,hN⟩:=v3h L0 hw;exact ⟨_,_,(.cons (asL_le e0 ho0) .nil),rfl,w8b L0 N _ hN,3,rfl⟩
  ·cases h
 ·cases h
def fCan :List AVal→Option (AVal×Bool)
 | [a0,a1]=>match asL Int a0,asL Bool a1 with
  | some (L0,g0,n0),some (L1,g1,n1)=>some (.dat (y1z L0 L1).length (Zz (y1z L0 L1)),isT Int n0 g0&&(isT Bool n1 g1&&(z9c L0 L1)))
  | _,_=>none
 | _=>none
theorem j6d {S:Specs} (hS:Zu prog S):Zu prog (S.with u8d fCan):=by
 refine z0v hS (by kernel_rfl) fun args v h=> ?_;unfold fCan at h;split at h
 ·rename_i a0 a1;split at h
  ·rename_i L0 g0 n0 L1 g1 n1 e0 e1;simp only [Ae,Ad,Ac] at h;obtain ⟨rfl,ho0,ho1,hw⟩:=h;obtain ⟨N,hN⟩:=u1e L0 L1 hw;exact ⟨_,_,(.cons (asL_le e0 ho0) (.cons (asL_le e1 ho1) .nil)),rfl,v4k L0 L1 N _ hN,3,rfl⟩
  ·cases h
 ·cases h
def x0l :List AVal→Option (AVal×Bool)
 | [a0,a1]=>match asL R2 a0,asL R2 a1 with
  | some (L0,g0,n0),some (L1,g1,n1)=>some (.bool (Qm L0 L1),isT R2 n0 g0&&(isT R2 n1 g1&&(Vs L0 L1)))
  | _,_=>none
 | _=>none
theorem v7h {S:Specs} (hS:Zu prog S):Zu prog (S.with u7r x0l):=by
 refine z0v hS (by kernel_rfl) fun args v h=> ?_;unfold x0l at h;split at h
 ·rename_i a0 a1;split at h
  ·rename_i L0 g0 n0 L1 g1 n1 e0 e1;simp only [Ae,Ad,Ac] at h;obtain ⟨rfl,ho0,ho1,hw⟩:=h;obtain ⟨N,hN⟩:=j1j L0 L1 hw;exact ⟨_,_,(.cons (asL_le e0 ho0) (.cons (asL_le e1 ho1) .nil)),rfl,u0f L0 L1 N _ hN,3,rfl⟩
  ·cases h
 ·cases h
def x0k :List AVal→Option (AVal×Bool)
 | [a0,a1]=>match asL R4 a0,asL R4 a1 with
  | some (L0,g0,n0),some (L1,g1,n1)=>some (.bool (Ja L0 L1),isT R4 n0 g0&&(isT R4 n1 g1&&(Wd L0 L1)))
  | _,_=>none
 | _=>none
theorem v7g {S:Specs} (hS:Zu prog S):Zu prog (S.with u7q x0k):=by
 refine z0v hS (by kernel_rfl) fun args v h=> ?_;unfold x0k at h;split at h
 ·rename_i a0 a1;split at h
  ·rename_i L0 g0 n0 L1 g1 n1 e0 e1;simp only [Ae,Ad,Ac] at h;obtain ⟨rfl,ho0,ho1,hw⟩:=h;obtain ⟨N,hN⟩:=j1i L0 L1 hw;exact ⟨_,_,(.cons (asL_le e0 ho0) (.cons (asL_le e1 ho1) .nil)),rfl,u0e L0 L1 N _ hN,3,rfl⟩
  ·cases h
 ·cases h
def x0j :List AVal→Option (AVal×Bool)
 | [a0,a1]=>match asL R6 a0,asL R6 a1 with
  | some (L0,g0,n0),some (L1,g1,n1)=>some (.bool (Km L0 L1),isT R6 n0 g0&&(isT R6 n1 g1&&(Vr L0 L1)))
  | _,_=>none
 | _=>none
theorem v7f {S:Specs} (hS:Zu prog S):Zu prog (S.with u7p x0j):=by
 refine z0v hS (by kernel_rfl) fun args v h=> ?_;unfold x0j at h;split at h
 ·rename_i a0 a1;split at h
  ·rename_i L0 g0 n0 L1 g1 n1 e0 e1;simp only [Ae,Ad,Ac] at h;obtain ⟨rfl,ho0,ho1,hw⟩:=h;obtain ⟨N,hN⟩:=j1k L0 L1 hw;exact ⟨_,_,(.cons (asL_le e0 ho0) (.cons (asL_le e1 ho1) .nil)),rfl,u0g L0 L1 N _ hN,3,rfl⟩
  ·cases h
 ·cases h
def j5r :List AVal→Option (AVal×Bool)
 | [a0,.int .i64 x1,.int .i64 x2]=>match asL R4 a0 with
  | some (L0,g0,n0)=>some (.bool (has4V L0 x1 x2),isT R4 n0 g0&&(z0k L0 x1 x2))
  | _=>none
 | _=>none
theorem u3p {S:Specs} (hS:Zu prog S):Zu prog (S.with nHas4 j5r):=by
 refine z0v hS (by kernel_rfl) fun args v h=> ?_;unfold j5r at h;split at h
 ·rename_i a0 x1 x2;split at h
  ·rename_i L0 g0 n0 e0;simp only [Ae,Ad,Ac] at h;obtain ⟨rfl,ho0,hw⟩:=h;obtain ⟨N,hN⟩:=u0n L0 x1 x2 hw;exact ⟨_,_,(.cons (asL_le e0 ho0) (.cons (.refl _) (.cons (.refl _) .nil))),rfl,v3u L0 x1 x2 N _ hN,3,rfl⟩
  ·cases h
 ·cases h
def fAt :List AVal→Option (AVal×Bool)
 | [a0,.int .i64 x1]=>match asL R6 a0 with
  | some (L0,g0,n0)=>some (.dat (atV L0 x1).length (Zz (atV L0 x1)),isT R6 n0 g0&&(z5z L0 x1))
  | _=>none
 | _=>none
theorem fAt_ok {S:Specs} (hS:Zu prog S):Zu prog (S.with nAt fAt):=by
 refine z0v hS (by kernel_rfl) fun args v h=> ?_;unfold fAt at h;split at h
 ·rename_i a0 x1;split at h
  ·rename_i L0 g0 n0 e0;simp only [Ae,Ad,Ac] at h;obtain ⟨rfl,ho0,hw⟩:=h;obtain ⟨N,hN⟩:=j2k L0 x1 hw;exact ⟨_,_,(.cons (asL_le e0 ho0) (.cons (.refl _) .nil)),rfl,u1f L0 x1 N _ hN,3,rfl⟩
  ·cases h
 ·cases h
def v7k :List AVal→Option (AVal×Bool)
 | [.int .i64 x0,.bool b1,.bool b2]=>some (.bool (y6a x0 b1 b2),true)
 | _=>none
theorem v7j {S:Specs} (hS:Zu prog S):Zu prog (S.with u7z v7k):=by
 refine z0v hS (by kernel_rfl) fun args v h=> ?_;unfold v7k at h;split at h
 ·rename_i x0 b1 b2;simp only [Ae,Ad,BV] at h;subst h;obtain ⟨N,hN⟩:=j4a x0 b1 b2;exact ⟨_,_,(.cons (.refl _) (.cons (.refl _) (.cons (.refl _) .nil))),rfl,u3b x0 b1 b2 N _ hN,3,rfl⟩
 ·cases h
def fFst :List AVal→Option (AVal×Bool)
 | [.bool b0,.bool b1]=>some (.bool (w5y b0 b1),true)
 | _=>none
theorem j5s {S:Specs} (hS:Zu prog S):Zu prog (S.with nFst fFst):=by
 refine z0v hS (by kernel_rfl) fun args v h=> ?_;unfold fFst at h;split at h
 ·rename_i b0 b1;simp only [Ae,Ad,BV] at h;subst h;obtain ⟨N,hN⟩:=j4b b0 b1;exact ⟨_,_,(.cons (.refl _) (.cons (.refl _) .nil)),rfl,u3d b0 b1 N _ hN,3,rfl⟩
 ·cases h
theorem v0k {S:Specs} (hS:Zu prog S):Zu prog (S.with nEq2 x0l):=by
 refine z0v hS (by kernel_rfl) fun args v h=> ?_;unfold x0l at h;split at h
 ·rename_i a0 a1;split at h
  ·rename_i L0 g0 n0 L1 g1 n1 e0 e1;simp only [Ae,Ad,Ac] at h;obtain ⟨rfl,ho0,ho1,hw⟩:=h;obtain ⟨N,hN⟩:=j6h L0 L1 hw;exact ⟨_,_,(.cons (asL_le e0 ho0) (.cons (asL_le e1 ho1) .nil)),rfl,u3w L0 L1 N _ hN,3,rfl⟩
  ·cases h
 ·cases h
theorem v0j {S:Specs} (hS:Zu prog S):Zu prog (S.with nEq4 x0k):=by
 refine z0v hS (by kernel_rfl) fun args v h=> ?_;unfold x0k at h;split at h
 ·rename_i a0 a1;split at h
  ·rename_i L0 g0 n0 L1 g1 n1 e0 e1;simp only [Ae,Ad,Ac] at h;obtain ⟨rfl,ho0,ho1,hw⟩:=h;obtain ⟨N,hN⟩:=j6g L0 L1 hw;exact ⟨_,_,(.cons (asL_le e0 ho0) (.cons (asL_le e1 ho1) .nil)),rfl,u3v L0 L1 N _ hN,3,rfl⟩
  ·cases h
 ·cases h
theorem v0i {S:Specs} (hS:Zu prog S):Zu prog (S.with nEq6 x0j):=by
 refine z0v hS (by kernel_rfl) fun args v h=> ?_;unfold x0j at h;split at h
 ·rename_i a0 a1;split at h
  ·rename_i L0 g0 n0 L1 g1 n1 e0 e1;simp only [Ae,Ad,Ac] at h;obtain ⟨rfl,ho0,ho1,hw⟩:=h;obtain ⟨N,hN⟩:=j6f L0 L1 hw;exact ⟨_,_,(.cons (asL_le e0 ho0) (.cons (asL_le e1 ho1) .nil)),rfl,u3u L0 L1 N _ hN,3,rfl⟩
  ·cases h
 ·cases h
def T1 :Specs:=((((((((((((noSpecs.with v5f fSrt).with u8d fCan).with u7r x0l).with u7q x0k).with u7p x0j).with nHas4 j5r).with nAt fAt).with u7z v7k).with nFst fFst).with nEq2 x0l).with nEq4 x0k).with nEq6 x0j)
theorem z3w :Zu prog T1:=v0i (v0j (v0k (j5s (v7j (fAt_ok (u3p (v7f (v7g (v7h (j6d (j4t Zg)))))))))))
inductive rxsS where
 | h0 (v5:List Int) (v6:Int)
 | h1 (v5:List Int) (v7:Int)
def rxsC (l0:List R4) (l1:List R4):rxsS→Cfg
 | .h0 v5 v6=>⟨⟨48,0,true⟩,none,(Zd prog 165 [1,1,0,1,0,0] 0),none,(Zy prog 5),⟨Yb [(0,(.dat l0.length (Zz l0))),(1,(.dat l1.length (Zz l1))),(5,(.sla 0 1 0 v5.length (.un 1))),(6,(ii v6))],Vb [⟨rows v5.length (Zz v5),3,some ⟨1,v5.length,(Zz v5)⟩⟩] 0,1,[],true⟩,[],.leaf⟩
 | .h1 v5 v7=>⟨⟨48,0,true⟩,none,(Zd prog 165 [1,1,1,0,1,0,0] 0),none,(Zy prog 5),⟨Yb [(1,(.dat l1.length (Zz l1))),(5,(.sla 0 1 0 v5.length (.un 1))),(7,(ii v7))],Vb [⟨rows v5.length (Zz v5),3,some ⟨1,v5.length,(Zz v5)⟩⟩] 0,1,[],true⟩,[],.leaf⟩
def rxsN0 :List (Option (List Nat)):=[some [0,1,5,6]]
def rxsM0 :List (Option (List Nat)):=[]
def rxsN1 :List (Option (List Nat)):=[some [1,5,7]]
def rxsM1 :List (Option (List Nat)):=[]
def z2z (l0:List R4) (l1:List R4):rxsS→Xp rxsS
 | .h0 v5 v6=>(bif (decide (v6<(l0.length:Int))) then (bif ((decide (0≤v6∧v6<(l0.length:Int)))&&true) then (bif (Nat.beq 1 1&&((decide (0+v5.length=v5.length))&&decide ((v5.length+2+1)*(8+1)≤Jd))) then (.to (.h0 (v5++[(rd l0 v6.toNat).a,(rd l0 v6.toNat).c]) (wrap .i64 (v6+1)))) else .stuck) else .stuck) else (.to (.h1 v5 0)))
 | .h1 v5 v7=>(bif (decide (v7<(l1.length:Int))) then (bif ((decide (0≤v7∧v7<(l1.length:Int)))&&true) then (bif (Nat.beq 1 1&&((decide (0+v5.length=v5.length))&&decide ((v5.length+2+1)*(8+1)≤Jd))) then (.to (.h1 (v5++[(rd l1 v7.toNat).a,(rd l1 v7.toNat).c]) (wrap .i64 (v7+1)))) else .stuck) else .stuck) else (bif (Qq (cvT v5)) then (.ret [(.dat (z3z (cvT v5)).length (Zz (z3z (cvT v5))))]) else .stuck))
def y2t (l0:List R4) (l1:List R4):Xp rxsS:=(.to (.h0 ([]:List Int) 0))
theorem w7z (l0:List R4) (l1:List R4): ∀s,Yr prog (Zy prog 165) (rxsC l0 l1) (rxsC l0 l1 s) (z2z l0 l1 s)
 | .h0 v5 v6=>(lb (fun k0=>(lo fun o0=>(lo fun o1=>(sl z3w 20 [] ⟨[2],[],rxsN0,rxsM0⟩ ⟨[(5,.len (v5++[(rd l0 (tn v6)).a,(rd l0 (tn v6)).c]).length)],[.rowed 1 (v5++[(rd l0 (tn v6)).a,(rd l0 (tn v6)).c]).length (Zz (v5++[(rd l0 (tn v6)).a,(rd l0 (tn v6)).c]))],[]⟩ [true] (pp (xL (v5.length+2) (v5++[(rd l0 (tn v6)).a,(rd l0 (tn v6)).c]).length) (pp (xL (v5.length+2) (v5++[(rd l0 (tn v6)).a,(rd l0 (tn v6)).c]).length) (pp (xS (v5.length+2) (Zi (Zz v5) 0 v5.length 1 [(ii (rd l0 (tn v6)).a),(ii (rd l0 (tn v6)).c)]) (Zz (v5++[(rd l0 (tn v6)).a,(rd l0 (tn v6)).c]))) (pp (pp (xF (Zi (Zz v5) 0 v5.length 1 [(ii (rd l0 (tn v6)).a),(ii (rd l0 (tn v6)).c)])) nn) (ww o1 (ww o0 (ww o0 (tt k0 nn)))))))))))) (fun k0=>(sl z3w 17 [] ⟨[0],[],rxsN1,rxsM1⟩ ⟨[],[],[]⟩ [false] (pp (fl v5 nn) (tt k0 nn)))))
 | .h1 v5 v7=>(lb (fun k0=>(lo fun o0=>(lo fun o1=>(sl z3w 20 [] ⟨[2],[],rxsN1,rxsM1⟩ ⟨[(5,.len (v5++[(rd l1 (tn v7)).a,(rd l1 (tn v7)).c]).length)],[.rowed 1 (v5++[(rd l1 (tn v7)).a,(rd l1 (tn v7)).c]).length (Zz (v5++[(rd l1 (tn v7)).a,(rd l1 (tn v7)).c]))],[]⟩ [true] (pp (xL (v5.length+2) (v5++[(rd l1 (tn v7)).a,(rd l1 (tn v7)).c]).length) (pp (xL (v5.length+2) (v5++[(rd l1 (tn v7)).a,(rd l1 (tn v7)).c]).length) (pp (xS (v5.length+2) (Zi (Zz v5) 0 v5.length 1 [(ii (rd l1 (tn v7)).a),(ii (rd l1 (tn v7)).c)]) (Zz (v5++[(rd l1 (tn v7)).a,(rd l1 (tn v7)).c]))) (pp (pp (xF (Zi (Zz v5) 0 v5.length 1 [(ii (rd l1 (tn v7)).a),(ii (rd l1 (tn v7)).c)])) nn) (ww o1 (ww o0 (ww o0 (tt k0 nn)))))))))))) (fun k0=>(Wo (sl z3w (C':=⟨⟨48,0,true⟩,(Jb prog 165 [1,1,1,1,0] 1),(Zd prog 165 [1,1,1,1,0] 1),none,(Zy prog 5),⟨Yb [(46,(.dat v5.length (Zz v5)))],Vb [] 0,0,[],true⟩,[],.leaf⟩) 13 [] ⟨[],[0],[some [46]],[]⟩ ⟨[(46,.frz v5.length v5.length (Zz v5) (Zz v5))],[],[]⟩ [false] (pp (xZ (z6j 1 1 0 v5.length v5.length (Zz v5)) v5.length (Zz v5)) (pp (xL v5.length v5.length) (pp (xS v5.length (Zz v5) (Zz v5)) (pp (fl v5 nn) (tt k0 nn)))))) (lo fun o0=>(lr 48 3 [1,1,1,1,1,1,1,0] 1 5 [(4,(.dat (z3z (cvT v5)).length (Zz (z3z (cvT v5)))))] (sl z3w 3 [] ⟨[],[],[some [4]],[]⟩ ⟨[],[],[]⟩ [] (pp (pp (xr v5) (xw o0)) nn)))))))
theorem x8e (l0:List R4) (l1:List R4):Yr prog (Zy prog 165) (rxsC l0 l1) (Zb prog 165 [(.dat l0.length (Zz l0)),(.dat l1.length (Zz l1))] true []) (y2t l0 l1):=(sl z3w 15 [(3,1,Zz ([]:List Int))] ⟨[0],[],rxsN0,rxsM0⟩ ⟨[(5,.grow 0 1)],[],[]⟩ [] (pp (fl ([]:List Int) nn) nn))
theorem u0d (l0:List R4) (l1:List R4) (n:Nat) (vs:List AVal) (h:Yz (z2z l0 l1) n (y2t l0 l1)=.ret vs):Ji prog (Zy prog 165) (Zb prog 165 [(.dat l0.length (Zz l0)),(.dat l1.length (Zz l1))] true []) vs:=by have:=Ze (w7z l0 l1) n _ (x8e l0 l1);rwa [h] at this
inductive rysS where
 | h0 (v5:List Int) (v6:Int)
 | h1 (v5:List Int) (v7:Int)
def rysC (l0:List R4) (l1:List R4):rysS→Cfg
 | .h0 v5 v6=>⟨⟨48,0,true⟩,none,(Zd prog 166 [1,1,0,1,0,0] 0),none,(Zy prog 5),⟨Yb [(0,(.dat l0.length (Zz l0))),(1,(.dat l1.length (Zz l1))),(5,(.sla 0 1 0 v5.length (.un 1))),(6,(ii v6))],Vb [⟨rows v5.length (Zz v5),3,some ⟨1,v5.length,(Zz v5)⟩⟩] 0,1,[],true⟩,[],.leaf⟩
 | .h1 v5 v7=>⟨⟨48,0,true⟩,none,(Zd prog 166 [1,1,1,0,1,0,0] 0),none,(Zy prog 5),⟨Yb [(1,(.dat l1.length (Zz l1))),(5,(.sla 0 1 0 v5.length (.un 1))),(7,(ii v7))],Vb [⟨rows v5.length (Zz v5),3,some ⟨1,v5.length,(Zz v5)⟩⟩] 0,1,[],true⟩,[],.leaf⟩
def rysN0 :List (Option (List Nat)):=[some [0,1,5,6]]
def rysM0 :List (Option (List Nat)):=[]
def rysN1 :List (Option (List Nat)):=[some [1,5,7]]
def rysM1 :List (Option (List Nat)):=[]
def z2y (l0:List R4) (l1:List R4):rysS→Xp rysS
 | .h0 v5 v6=>(bif (decide (v6<(l0.length:Int))) then (bif ((decide (0≤v6∧v6<(l0.length:Int)))&&true) then (bif (Nat.beq 1 1&&((decide (0+v5.length=v5.length))&&decide ((v5.length+2+1)*(8+1)≤Jd))) then (.to (.h0 (v5++[(rd l0 v6.toNat).b,(rd l0 v6.toNat).d]) (wrap .i64 (v6+1)))) else .stuck) else .stuck) else (.to (.h1 v5 0)))
 | .h1 v5 v7=>(bif (decide (v7<(l1.length:Int))) then (bif ((decide (0≤v7∧v7<(l1.length:Int)))&&true) then (bif (Nat.beq 1 1&&((decide (0+v5.length=v5.length))&&decide ((v5.length+2+1)*(8+1)≤Jd))) then (.to (.h1 (v5++[(rd l1 v7.toNat).b,(rd l1 v7.toNat).d]) (wrap .i64 (v7+1)))) else .stuck) else .stuck) else (bif (Qq (cvT v5)) then (.ret [(.dat (z3z (cvT v5)).length (Zz (z3z (cvT v5))))]) else .stuck))
def y2s (l0:List R4) (l1:List R4):Xp rysS:=(.to (.h0 ([]:List Int) 0))
theorem w7y (l0:List R4) (l1:List R4): ∀s,Yr prog (Zy prog 166) (rysC l0 l1) (rysC l0 l1 s) (z2y l0 l1 s)
 | .h0 v5 v6=>(lb (fun k0=>(lo fun o0=>(lo fun o1=>(sl z3w 20 [] ⟨[2],[],rysN0,rysM0⟩ ⟨[(5,.len (v5++[(rd l0 (tn v6)).b,(rd l0 (tn v6)).d]).length)],[.rowed 1 (v5++[(rd l0 (tn v6)).b,(rd l0 (tn v6)).d]).length (Zz (v5++[(rd l0 (tn v6)).b,(rd l0 (tn v6)).d]))],[]⟩ [true] (pp (xL (v5.length+2) (v5++[(rd l0 (tn v6)).b,(rd l0 (tn v6)).d]).length) (pp (xL (v5.length+2) (v5++[(rd l0 (tn v6)).b,(rd l0 (tn v6)).d]).length) (pp (xS (v5.length+2) (Zi (Zz v5) 0 v5.length 1 [(ii (rd l0 (tn v6)).b),(ii (rd l0 (tn v6)).d)]) (Zz (v5++[(rd l0 (tn v6)).b,(rd l0 (tn v6)).d]))) (pp (pp (xF (Zi (Zz v5) 0 v5.length 1 [(ii (rd l0 (tn v6)).b),(ii (rd l0 (tn v6)).d)])) nn) (ww o1 (ww o0 (ww o0 (tt k0 nn)))))))))))) (fun k0=>(sl z3w 17 [] ⟨[0],[],rysN1,rysM1⟩ ⟨[],[],[]⟩ [false] (pp (fl v5 nn) (tt k0 nn)))))
 | .h1 v5 v7=>(lb (fun k0=>(lo fun o0=>(lo fun o1=>(sl z3w 20 [] ⟨[2],[],rysN1,rysM1⟩ ⟨[(5,.len (v5++[(rd l1 (tn v7)).b,(rd l1 (tn v7)).d]).length)],[.rowed 1 (v5++[(rd l1 (tn v7)).b,(rd l1 (tn v7)).d]).length (Zz (v5++[(rd l1 (tn v7)).b,(rd l1 (tn v7)).d]))],[]⟩ [true] (pp (xL (v5.length+2) (v5++[(rd l1 (tn v7)).b,(rd l1 (tn v7)).d]).length) (pp (xL (v5.length+2) (v5++[(rd l1 (tn v7)).b,(rd l1 (tn v7)).d]).length) (pp (xS (v5.length+2) (Zi (Zz v5) 0 v5.length 1 [(ii (rd l1 (tn v7)).b),(ii (rd l1 (tn v7)).d)]) (Zz (v5++[(rd l1 (tn v7)).b,(rd l1 (tn v7)).d]))) (pp (pp (xF (Zi (Zz v5) 0 v5.length 1 [(ii (rd l1 (tn v7)).b),(ii (rd l1 (tn v7)).d)])) nn) (ww o1 (ww o0 (ww o0 (tt k0 nn)))))))))))) (fun k0=>(Wo (sl z3w (C':=⟨⟨48,0,true⟩,(Jb prog 166 [1,1,1,1,0] 1),(Zd prog 166 [1,1,1,1,0] 1),none,(Zy prog 5),⟨Yb [(46,(.dat v5.length (Zz v5)))],Vb [] 0,0,[],true⟩,[],.leaf⟩) 13 [] ⟨[],[0],[some [46]],[]⟩ ⟨[(46,.frz v5.length v5.length (Zz v5) (Zz v5))],[],[]⟩ [false] (pp (xZ (z6j 1 1 0 v5.length v5.length (Zz v5)) v5.length (Zz v5)) (pp (xL v5.length v5.length) (pp (xS v5.length (Zz v5) (Zz v5)) (pp (fl v5 nn) (tt k0 nn)))))) (lo fun o0=>(lr 48 3 [1,1,1,1,1,1,1,0] 1 5 [(4,(.dat (z3z (cvT v5)).length (Zz (z3z (cvT v5)))))] (sl z3w 3 [] ⟨[],[],[some [4]],[]⟩ ⟨[],[],[]⟩ [] (pp (pp (xr v5) (xw o0)) nn)))))))
theorem x8d (l0:List R4) (l1:List R4):Yr prog (Zy prog 166) (rysC l0 l1) (Zb prog 166 [(.dat l0.length (Zz l0)),(.dat l1.length (Zz l1))] true []) (y2s l0 l1):=(sl z3w 15 [(3,1,Zz ([]:List Int))] ⟨[0],[],rysN0,rysM0⟩ ⟨[(5,.grow 0 1)],[],[]⟩ [] (pp (fl ([]:List Int) nn) nn))
theorem u0c (l0:List R4) (l1:List R4) (n:Nat) (vs:List AVal) (h:Yz (z2y l0 l1) n (y2s l0 l1)=.ret vs):Ji prog (Zy prog 166) (Zb prog 166 [(.dat l0.length (Zz l0)),(.dat l1.length (Zz l1))] true []) vs:=by have:=Ze (w7y l0 l1) n _ (x8d l0 l1);rwa [h] at this
inductive rcutS where
 | h0 (v5:List Int) (v6:Int)
 | h1 (v5:List Int) (v7:Int)
def j2h (l0:List R6) (l1:List R6):rcutS→Cfg
 | .h0 v5 v6=>⟨⟨52,0,true⟩,none,(Zd prog 125 [1,1,0,1,0,0] 0),none,(Zy prog 5),⟨Yb [(0,(.dat l0.length (Zz l0))),(1,(.dat l1.length (Zz l1))),(5,(.sla 0 1 0 v5.length (.un 1))),(6,(ii v6))],Vb [⟨rows v5.length (Zz v5),3,some ⟨1,v5.length,(Zz v5)⟩⟩] 0,1,[],true⟩,[],.leaf⟩
 | .h1 v5 v7=>⟨⟨52,0,true⟩,none,(Zd prog 125 [1,1,1,0,1,0,0] 0),none,(Zy prog 5),⟨Yb [(1,(.dat l1.length (Zz l1))),(5,(.sla 0 1 0 v5.length (.un 1))),(7,(ii v7))],Vb [⟨rows v5.length (Zz v5),3,some ⟨1,v5.length,(Zz v5)⟩⟩] 0,1,[],true⟩,[],.leaf⟩
def u7a :List (Option (List Nat)):=[some [0,1,5,6]]
def u7c :List (Option (List Nat)):=[]
def u6z :List (Option (List Nat)):=[some [1,5,7]]
def u7b :List (Option (List Nat)):=[]
def z0a (l0:List R6) (l1:List R6):rcutS→Xp rcutS
 | .h0 v5 v6=>(bif (decide (v6<(l0.length:Int))) then (bif ((decide (0≤v6∧v6<(l0.length:Int)))&&true) then (bif (Nat.beq 1 1&&((decide (0+v5.length=v5.length))&&decide ((v5.length+2+1)*(8+1)≤Jd))) then (.to (.h0 (v5++[(rd l0 v6.toNat).c,(rd l0 v6.toNat).f]) (wrap .i64 (v6+1)))) else .stuck) else .stuck) else (.to (.h1 v5 0)))
 | .h1 v5 v7=>(bif (decide (v7<(l1.length:Int))) then (bif ((decide (0≤v7∧v7<(l1.length:Int)))&&true) then (bif (Nat.beq 1 1&&((decide (0+v5.length=v5.length))&&decide ((v5.length+2+1)*(8+1)≤Jd))) then (.to (.h1 (v5++[(rd l1 v7.toNat).c,(rd l1 v7.toNat).f]) (wrap .i64 (v7+1)))) else .stuck) else .stuck) else (bif (Qq (cvT v5)) then (.ret [(.dat (z3z (cvT v5)).length (Zz (z3z (cvT v5))))]) else .stuck))
def z7z (l0:List R6) (l1:List R6):Xp rcutS:=(.to (.h0 ([]:List Int) 0))
theorem x8z (l0:List R6) (l1:List R6): ∀s,Yr prog (Zy prog 125) (j2h l0 l1) (j2h l0 l1 s) (z0a l0 l1 s)
 | .h0 v5 v6=>(lb (fun k0=>(lo fun o0=>(lo fun o1=>(sl z3w 20 [] ⟨[2],[],u7a,u7c⟩ ⟨[(5,.len (v5++[(rd l0 (tn v6)).c,(rd l0 (tn v6)).f]).length)],[.rowed 1 (v5++[(rd l0 (tn v6)).c,(rd l0 (tn v6)).f]).length (Zz (v5++[(rd l0 (tn v6)).c,(rd l0 (tn v6)).f]))],[]⟩ [true] (pp (xL (v5.length+2) (v5++[(rd l0 (tn v6)).c,(rd l0 (tn v6)).f]).length) (pp (xL (v5.length+2) (v5++[(rd l0 (tn v6)).c,(rd l0 (tn v6)).f]).length) (pp (xS (v5.length+2) (Zi (Zz v5) 0 v5.length 1 [(ii (rd l0 (tn v6)).c),(ii (rd l0 (tn v6)).f)]) (Zz (v5++[(rd l0 (tn v6)).c,(rd l0 (tn v6)).f]))) (pp (pp (xF (Zi (Zz v5) 0 v5.length 1 [(ii (rd l0 (tn v6)).c),(ii (rd l0 (tn v6)).f)])) nn) (ww o1 (ww o0 (ww o0 (tt k0 nn)))))))))))) (fun k0=>(sl z3w 17 [] ⟨[0],[],u6z,u7b⟩ ⟨[],[],[]⟩ [false] (pp (fl v5 nn) (tt k0 nn)))))
 | .h1 v5 v7=>(lb (fun k0=>(lo fun o0=>(lo fun o1=>(sl z3w 20 [] ⟨[2],[],u6z,u7b⟩ ⟨[(5,.len (v5++[(rd l1 (tn v7)).c,(rd l1 (tn v7)).f]).length)],[.rowed 1 (v5++[(rd l1 (tn v7)).c,(rd l1 (tn v7)).f]).length (Zz (v5++[(rd l1 (tn v7)).c,(rd l1 (tn v7)).f]))],[]⟩ [true] (pp (xL (v5.length+2) (v5++[(rd l1 (tn v7)).c,(rd l1 (tn v7)).f]).length) (pp (xL (v5.length+2) (v5++[(rd l1 (tn v7)).c,(rd l1 (tn v7)).f]).length) (pp (xS (v5.length+2) (Zi (Zz v5) 0 v5.length 1 [(ii (rd l1 (tn v7)).c),(ii (rd l1 (tn v7)).f)]) (Zz (v5++[(rd l1 (tn v7)).c,(rd l1 (tn v7)).f]))) (pp (pp (xF (Zi (Zz v5) 0 v5.length 1 [(ii (rd l1 (tn v7)).c),(ii (rd l1 (tn v7)).f)])) nn) (ww o1 (ww o0 (ww o0 (tt k0 nn)))))))))))) (fun k0=>(Wo (sl z3w (C':=⟨⟨52,0,true⟩,(Jb prog 125 [1,1,1,1,0] 1),(Zd prog 125 [1,1,1,1,0] 1),none,(Zy prog 5),⟨Yb [(50,(.dat v5.length (Zz v5)))],Vb [] 0,0,[],true⟩,[],.leaf⟩) 13 [] ⟨[],[0],[some [50]],[]⟩ ⟨[(50,.frz v5.length v5.length (Zz v5) (Zz v5))],[],[]⟩ [false] (pp (xZ (z6j 1 1 0 v5.length v5.length (Zz v5)) v5.length (Zz v5)) (pp (xL v5.length v5.length) (pp (xS v5.length (Zz v5) (Zz v5)) (pp (fl v5 nn) (tt k0 nn)))))) (lo fun o0=>(lr 52 3 [1,1,1,1,1,1,1,0] 1 5 [(4,(.dat (z3z (cvT v5)).length (Zz (z3z (cvT v5)))))] (sl z3w 3 [] ⟨[],[],[some [4]],[]⟩ ⟨[],[],[]⟩ [] (pp (pp (xr v5) (xw o0)) nn)))))))
theorem x4p (l0:List R6) (l1:List R6):Yr prog (Zy prog 125) (j2h l0 l1) (Zb prog 125 [(.dat l0.length (Zz l0)),(.dat l1.length (Zz l1))] true []) (z7z l0 l1):=(sl z3w 15 [(3,1,Zz ([]:List Int))] ⟨[0],[],u7a,u7c⟩ ⟨[(5,.grow 0 1)],[],[]⟩ [] (pp (fl ([]:List Int) nn) nn))
theorem v4g (l0:List R6) (l1:List R6) (n:Nat) (vs:List AVal) (h:Yz (z0a l0 l1) n (z7z l0 l1)=.ret vs):Ji prog (Zy prog 125) (Zb prog 125 [(.dat l0.length (Zz l0)),(.dat l1.length (Zz l1))] true []) vs:=by have:=Ze (x8z l0 l1) n _ (x4p l0 l1);rwa [h] at this
def z4i (l:List R4):List Int:=l.flatMap fun r=>[r.a,r.c]
def z2t (l:List R4):List Int:=l.flatMap fun r=>[r.b,r.d]
def z4h (l:List R6):List Int:=l.flatMap fun r=>[r.c,r.f]
def xsV (l m:List R4):List Int:=z3z (z4i l++z4i m)
def y2i (l m:List R4):Bool:=decide (l.length≤10000∧m.length≤10000)
theorem z1a (l:List R4):(z4i l).length =2*l.length:=by
 induction l with
 | nil=>rfl
 | cons r l ih=>show (_::_::z4i l).length =_;simp only [AV,ih];omega
theorem y8e (l:List R4) (i:Nat) (h:i<l.length):z4i (l.drop i)=z4i [rd l i]++z4i (l.drop (i+1)):=by rw [Yq h];rfl
theorem u6a (l m:List R4) (hl:l.length≤10000) (hm:m.length≤10000): ∀(k i:Nat) (out:List Int),i+k=m.length→out.length=2*l.length+2*i→ ∃N,Yz (z2z l m) N (.to (.h1 out (i:Int)))=.ret [.dat (z3z (out++z4i (m.drop i))).length (Zz (z3z (out++z4i (m.drop i))))]
 | 0,i,out,h,ho=>by refine ⟨1,?_⟩;have hw:Qq out=true:=Ah (by omega);rw [Zv,Av (show m.length≤i by omega),show z4i []=[] from rfl,AB];simp (disch:=omega) only [z2z,Xa,Yn,Zs,Yx,Wy,Yj,Yd,Ym,Zt,Zq,Zh,z0s,z0t,Aw,Zx,Zr,Zf,Ya,Zj,Ag,Ai,An,Ab,Aa,AC,AH,Za,Zm,Zk,Uk,Xg,hw]
 | k+1,i,out,h,ho=>by obtain ⟨N,hN⟩:=u6a l m hl hm k (i+1) (out++z4i [rd m i]) (by omega) (by rw [Az,z1a];simp;omega);refine ⟨N+1,?_⟩;rw [y8e m i (by omega),←AM,Zv];simp (disch:=omega) only [z2z,Xa,Yn,Zs,Yx,Wy,Yj,Yd,Ym,Zt,Zq,Zh,z0s,z0t,Aw,Zx,Zr,Zf,Ya,Zj,Ag,Ai,An,Ab,Aa,AC,AH,Za,Zm,Zk,Uk,Xg];exact hN
theorem u6b (l m:List R4) (hl:l.length≤10000) (hm:m.length≤10000): ∀(k i:Nat) (out:List Int),i+k=l.length→out.length=2*i→ ∃N,Yz (z2z l m) N (.to (.h0 out (i:Int)))=.ret [.dat (z3z (out++z4i (l.drop i)++z4i m)).length (Zz (z3z (out++z4i (l.drop i)++z4i m)))]
 | 0,i,out,h,ho=>by obtain ⟨N,hN⟩:=u6a l m hl hm m.length 0 out (Ag _) (by omega);refine ⟨N+1,?_⟩;rw [Zv,Av (show l.length≤i by omega),show z4i []=[] from rfl,AB];simp (disch:=omega) only [z2z,Xa,Yn,Zs,Yx,Wy,Yj,Yd,Ym,Zt,Zq,Zh,z0s,z0t,Aw,Zx,Zr,Zf,Ya,Zj,Ag,Ai,An,Ab,Aa,AC,AH,Za,Zm,Zk,Uk,Xg];exact hN
 | k+1,i,out,h,ho=>by obtain ⟨N,hN⟩:=u6b l m hl hm k (i+1) (out++z4i [rd l i]) (by omega) (by rw [Az,z1a];simp;omega);refine ⟨N+1,?_⟩;rw [y8e l i (by omega),←AM,Zv];simp (disch:=omega) only [z2z,Xa,Yn,Zs,Yx,Wy,Yj,Yd,Ym,Zt,Zq,Zh,z0s,z0t,Aw,Zx,Zr,Zf,Ya,Zj,Ag,Ai,An,Ab,Aa,AC,AH,Za,Zm,Zk,Uk,Xg];exact hN
theorem j1g (l m:List R4) (h:y2i l m=true): ∃N,Yz (z2z l m) N (y2t l m)=.ret [.dat (xsV l m).length (Zz (xsV l m))]:=by
 obtain ⟨h1,h2⟩:=AF h;have:=u6b l m h1 h2 l.length 0 [] (Ag _) rfl
 simpa [y2t,xsV] using this
def ysV (l m:List R4):List Int:=z3z (z2t l++z2t m)
def y2h (l m:List R4):Bool:=decide (l.length≤10000∧m.length≤10000)
theorem z0z (l:List R4):(z2t l).length =2*l.length:=by
 induction l with
 | nil=>rfl
 | cons r l ih=>show (_::_::z2t l).length =_;simp only [AV,ih];omega
theorem y8d (l:List R4) (i:Nat) (h:i<l.length):z2t (l.drop i)=z2t [rd l i]++z2t (l.drop (i+1)):=by rw [Yq h];rfl
theorem u5y (l m:List R4) (hl:l.length≤10000) (hm:m.length≤10000): ∀(k i:Nat) (out:List Int),i+k=m.length→out.length=2*l.length+2*i→ ∃N,Yz (z2y l m) N (.to (.h1 out (i:Int)))=.ret [.dat (z3z (out++z2t (m.drop i))).length (Zz (z3z (out++z2t (m.drop i))))]
 | 0,i,out,h,ho=>by refine ⟨1,?_⟩;have hw:Qq out=true:=Ah (by omega);rw [Zv,Av (show m.length≤i by omega),show z2t []=[] from rfl,AB];simp (disch:=omega) only [z2y,Xa,Yn,Zs,Yx,Wy,Yj,Yd,Ym,Zt,Zq,Zh,z0s,z0t,Aw,Zx,Zr,Zf,Ya,Zj,Ag,Ai,An,Ab,Aa,AC,AH,Za,Zm,Zk,Uk,Xg,hw]
 | k+1,i,out,h,ho=>by obtain ⟨N,hN⟩:=u5y l m hl hm k (i+1) (out++z2t [rd m i]) (by omega) (by rw [Az,z0z];simp;omega);refine ⟨N+1,?_⟩;rw [y8d m i (by omega),←AM,Zv];simp (disch:=omega) only [z2y,Xa,Yn,Zs,Yx,Wy,Yj,Yd,Ym,Zt,Zq,Zh,z0s,z0t,Aw,Zx,Zr,Zf,Ya,Zj,Ag,Ai,An,Ab,Aa,AC,AH,Za,Zm,Zk,Uk,Xg];exact hN
theorem u5z (l m:List R4) (hl:l.length≤10000) (hm:m.length≤10000): ∀(k i:Nat) (out:List Int),i+k=l.length→out.length=2*i→ ∃N,Yz (z2y l m) N (.to (.h0 out (i:Int)))=.ret [.dat (z3z (out++z2t (l.drop i)++z2t m)).length (Zz (z3z (out++z2t (l.drop i)++z2t m)))]
 | 0,i,out,h,ho=>by obtain ⟨N,hN⟩:=u5y l m hl hm m.length 0 out (Ag _) (by omega);refine ⟨N+1,?_⟩;rw [Zv,Av (show l.length≤i by omega),show z2t []=[] from rfl,AB];simp (disch:=omega) only [z2y,Xa,Yn,Zs,Yx,Wy,Yj,Yd,Ym,Zt,Zq,Zh,z0s,z0t,Aw,Zx,Zr,Zf,Ya,Zj,Ag,Ai,An,Ab,Aa,AC,AH,Za,Zm,Zk,Uk,Xg];exact hN
 | k+1,i,out,h,ho=>by obtain ⟨N,hN⟩:=u5z l m hl hm k (i+1) (out++z2t [rd l i]) (by omega) (by rw [Az,z0z];simp;omega);refine ⟨N+1,?_⟩;rw [y8d l i (by omega),←AM,Zv];simp (disch:=omega) only [z2y,Xa,Yn,Zs,Yx,Wy,Yj,Yd,Ym,Zt,Zq,Zh,z0s,z0t,Aw,Zx,Zr,Zf,Ya,Zj,Ag,Ai,An,Ab,Aa,AC,AH,Za,Zm,Zk,Uk,Xg];exact hN
theorem j1f (l m:List R4) (h:y2h l m=true): ∃N,Yz (z2y l m) N (y2s l m)=.ret [.dat (ysV l m).length (Zz (ysV l m))]:=by
 obtain ⟨h1,h2⟩:=AF h;have:=u5z l m h1 h2 l.length 0 [] (Ag _) rfl
 simpa [y2s,ysV] using this
def Vg (l m:List R6):List Int:=z3z (z4h l++z4h m)
def z8z (l m:List R6):Bool:=decide (l.length≤10000∧m.length≤10000)
theorem z0y (l:List R6):(z4h l).length =2*l.length:=by
 induction l with
 | nil=>rfl
 | cons r l ih=>show (_::_::z4h l).length =_;simp only [AV,ih];omega
theorem y8a (l:List R6) (i:Nat) (h:i<l.length):z4h (l.drop i)=z4h [rd l i]++z4h (l.drop (i+1)):=by rw [Yq h];rfl
theorem v4e (l m:List R6) (hl:l.length≤10000) (hm:m.length≤10000): ∀(k i:Nat) (out:List Int),i+k=m.length→out.length=2*l.length+2*i→ ∃N,Yz (z0a l m) N (.to (.h1 out (i:Int)))=.ret [.dat (z3z (out++z4h (m.drop i))).length (Zz (z3z (out++z4h (m.drop i))))]
 | 0,i,out,h,ho=>by refine ⟨1,?_⟩;have hw:Qq out=true:=Ah (by omega);rw [Zv,Av (show m.length≤i by omega),show z4h []=[] from rfl,AB];simp (disch:=omega) only [z0a,Xa,Yn,Zs,Yx,Wy,Yj,Yd,Ym,Zt,Zq,Zh,z0s,z0t,Aw,Zx,Zr,Zf,Ya,Zj,Ag,Ai,An,Ab,Aa,AC,AH,Za,Zm,Zk,Uk,Xg,hw]
 | k+1,i,out,h,ho=>by obtain ⟨N,hN⟩:=v4e l m hl hm k (i+1) (out++z4h [rd m i]) (by omega) (by rw [Az,z0y];simp;omega);refine ⟨N+1,?_⟩;rw [y8a m i (by omega),←AM,Zv];simp (disch:=omega) only [z0a,Xa,Yn,Zs,Yx,Wy,Yj,Yd,Ym,Zt,Zq,Zh,z0s,z0t,Aw,Zx,Zr,Zf,Ya,Zj,Ag,Ai,An,Ab,Aa,AC,AH,Za,Zm,Zk,Uk,Xg];exact hN
theorem v4f (l m:List R6) (hl:l.length≤10000) (hm:m.length≤10000): ∀(k i:Nat) (out:List Int),i+k=l.length→out.length=2*i→ ∃N,Yz (z0a l m) N (.to (.h0 out (i:Int)))=.ret [.dat (z3z (out++z4h (l.drop i)++z4h m)).length (Zz (z3z (out++z4h (l.drop i)++z4h m)))]
 | 0,i,out,h,ho=>by obtain ⟨N,hN⟩:=v4e l m hl hm m.length 0 out (Ag _) (by omega);refine ⟨N+1,?_⟩;rw [Zv,Av (show l.length≤i by omega),show z4h []=[] from rfl,AB];simp (disch:=omega) only [z0a,Xa,Yn,Zs,Yx,Wy,Yj,Yd,Ym,Zt,Zq,Zh,z0s,z0t,Aw,Zx,Zr,Zf,Ya,Zj,Ag,Ai,An,Ab,Aa,AC,AH,Za,Zm,Zk,Uk,Xg];exact hN
 | k+1,i,out,h,ho=>by obtain ⟨N,hN⟩:=v4f l m hl hm k (i+1) (out++z4h [rd l i]) (by omega) (by rw [Az,z0y];simp;omega);refine ⟨N+1,?_⟩;rw [y8a l i (by omega),←AM,Zv];simp (disch:=omega) only [z0a,Xa,Yn,Zs,Yx,Wy,Yj,Yd,Ym,Zt,Zq,Zh,z0s,z0t,Aw,Zx,Zr,Zf,Ya,Zj,Ag,Ai,An,Ab,Aa,AC,AH,Za,Zm,Zk,Uk,Xg];exact hN
theorem u1c (l m:List R6) (h:z8z l m=true): ∃N,Yz (z0a l m) N (z7z l m)=.ret [.dat (Vg l m).length (Zz (Vg l m))]:=by
 obtain ⟨h1,h2⟩:=AF h;have:=v4f l m h1 h2 l.length 0 [] (Ag _) rfl
 simpa [z7z,Vg] using this
def fXs :List AVal→Option (AVal×Bool)
 | [a0,a1]=>match asL R4 a0,asL R4 a1 with
  | some (L0,g0,n0),some (L1,g1,n1)=>some (.dat (xsV L0 L1).length (Zz (xsV L0 L1)),isT R4 n0 g0&&(isT R4 n1 g1&&(y2i L0 L1)))
  | _,_=>none
 | _=>none
theorem fXs_ok {S:Specs} (hS:Zu prog S):Zu prog (S.with nXs fXs):=by
 refine z0v hS (by kernel_rfl) fun args v h=> ?_;unfold fXs at h;split at h
 ·rename_i a0 a1;split at h
  ·rename_i L0 g0 n0 L1 g1 n1 e0 e1;simp only [Ae,Ad,Ac] at h;obtain ⟨rfl,ho0,ho1,hw⟩:=h;obtain ⟨N,hN⟩:=j1g L0 L1 hw;exact ⟨_,_,(.cons (asL_le e0 ho0) (.cons (asL_le e1 ho1) .nil)),rfl,u0d L0 L1 N _ hN,3,rfl⟩
  ·cases h
 ·cases h
def fYs :List AVal→Option (AVal×Bool)
 | [a0,a1]=>match asL R4 a0,asL R4 a1 with
  | some (L0,g0,n0),some (L1,g1,n1)=>some (.dat (ysV L0 L1).length (Zz (ysV L0 L1)),isT R4 n0 g0&&(isT R4 n1 g1&&(y2h L0 L1)))
  | _,_=>none
 | _=>none
theorem fYs_ok {S:Specs} (hS:Zu prog S):Zu prog (S.with nYs fYs):=by
 refine z0v hS (by kernel_rfl) fun args v h=> ?_;unfold fYs at h;split at h
 ·rename_i a0 a1;split at h
  ·rename_i L0 g0 n0 L1 g1 n1 e0 e1;simp only [Ae,Ad,Ac] at h;obtain ⟨rfl,ho0,ho1,hw⟩:=h;obtain ⟨N,hN⟩:=j1f L0 L1 hw;exact ⟨_,_,(.cons (asL_le e0 ho0) (.cons (asL_le e1 ho1) .nil)),rfl,u0c L0 L1 N _ hN,3,rfl⟩
  ·cases h
 ·cases h
def j6b :List AVal→Option (AVal×Bool)
 | [a0,a1]=>match asL R6 a0,asL R6 a1 with
  | some (L0,g0,n0),some (L1,g1,n1)=>some (.dat (Vg L0 L1).length (Zz (Vg L0 L1)),isT R6 n0 g0&&(isT R6 n1 g1&&(z8z L0 L1)))
  | _,_=>none
 | _=>none
theorem u3q {S:Specs} (hS:Zu prog S):Zu prog (S.with nCuts j6b):=by
 refine z0v hS (by kernel_rfl) fun args v h=> ?_;unfold j6b at h;split at h
 ·rename_i a0 a1;split at h
  ·rename_i L0 g0 n0 L1 g1 n1 e0 e1;simp only [Ae,Ad,Ac] at h;obtain ⟨rfl,ho0,ho1,hw⟩:=h;obtain ⟨N,hN⟩:=u1c L0 L1 hw;exact ⟨_,_,(.cons (asL_le e0 ho0) (.cons (asL_le e1 ho1) .nil)),rfl,v4g L0 L1 N _ hN,3,rfl⟩
  ·cases h
 ·cases h
def T2 :Specs:=((T1.with nXs fXs).with nYs fYs).with nCuts j6b
theorem y0z :Zu prog T2:=u3q (fYs_ok (fXs_ok z3w))
inductive rjoS where
 | h0 (v9:List R4) (v10:List R2) (v11:Int) (v12:Int)
 | h1 (v9:List R4) (v10:List R2) (v11:Int) (v12:Int) (v13:List Bool) (v14:Int)
 | h2 (v9:List R4) (v10:List R2) (v11:Int) (v12:Int) (v15:List R2) (v17:Int)
 | h3 (v9:List R4) (v10:List R2) (v11:Int) (v12:Int) (v16:Int)
abbrev y1g (x0:Int) (l1:List R4) (l2:List R4) (v12:Int) (v14:Int):=(y6a x0 (has4V (cvT l1) (rd (xsV (cvT l1) (cvT l2)) (tn v12)) (rd (ysV (cvT l1) (cvT l2)) (tn v14))) (has4V (cvT l2) (rd (xsV (cvT l1) (cvT l2)) (tn v12)) (rd (ysV (cvT l1) (cvT l2)) (tn v14))))
abbrev y9c (v9:List R4) (v16:Int) (l1:List R4) (l2:List R4) (v12:Int):=(v9.set (0+(tn v16)) (R4.mk (rd v9 (0+(tn v16))).a (rd v9 (0+(tn v16))).b (rd (xsV (cvT l1) (cvT l2)) (tn (wr (v12+1)))) (rd v9 (0+(tn v16))).d))
abbrev y9b (v9:List R4) (l1:List R4) (l2:List R4) (v12:Int) (v15:List R2) (v17:Int):=(v9++[(R4.mk (rd (xsV (cvT l1) (cvT l2)) (tn v12)) (rd v15 (tn v17)).a (rd (xsV (cvT l1) (cvT l2)) (tn (wr (v12+1)))) (rd v15 (tn v17)).b)])
abbrev Qn (l1:List R4) (l2:List R4):=(ysV (cvT l1) (cvT l2))
def w3v (l1:List R4) (l2:List R4):AVal:=(.dat (xsV (cvT l1) (cvT l2)).length (Zz (xsV (cvT l1) (cvT l2))))
def w3u (l1:List R4) (l2:List R4):AVal:=(.dat (Qn l1 l2).length (Zz (Qn l1 l2)))
def rjoC (x0:Int) (l1:List R4) (l2:List R4):rjoS→Cfg
 | .h0 v9 v10 v11 v12=>⟨⟨121,0,true⟩,none,(Zd prog 126 [1,1,1,1,1,0,1,0,0] 0),none,(Zy prog 8),⟨Yb [(0,(ii x0)),(1,(.dat l1.length (Zz l1))),(2,(.dat l2.length (Zz l2))),(7,(w3v l1 l2)),(8,(w3u l1 l2)),(9,(.sla 0 4 0 v9.length (.un 4))),(10,(.dat v10.length (Zz v10))),(11,(ii v11)),(12,(ii v12))],Vb [⟨rows v9.length (Zz v9),88,some ⟨4,v9.length,(Zz v9)⟩⟩] 0,1,[],true⟩,[],.leaf⟩
 | .h1 v9 v10 v11 v12 v13 v14=>⟨⟨121,0,true⟩,none,(Zd prog 126 [1,1,1,1,1,0,1,0,0,1,0,0,1,0,1,0,0] 0),none,(Zy prog 8),⟨Yb [(0,(ii x0)),(1,(.dat l1.length (Zz l1))),(2,(.dat l2.length (Zz l2))),(7,(w3v l1 l2)),(8,(w3u l1 l2)),(9,(.sla 1 4 0 v9.length (.un 4))),(10,(.dat v10.length (Zz v10))),(11,(ii v11)),(12,(ii v12)),(13,(.sla 0 1 0 v13.length (.un 1))),(14,(ii v14))],Vb [⟨rows v13.length (Zz v13),4,some ⟨1,v13.length,(Zz v13)⟩⟩,⟨rows v9.length (Zz v9),88,some ⟨4,v9.length,(Zz v9)⟩⟩] 0,2,[],true⟩,[],.leaf⟩
 | .h2 v9 v10 v11 v12 v15 v17=>⟨⟨121,0,true⟩,none,(Zd prog 126 [1,1,1,1,1,0,1,0,0,1,0,0,1,1,1,1,1,1,0,0] 0),none,(Zy prog 8),⟨Yb [(0,(ii x0)),(1,(.dat l1.length (Zz l1))),(2,(.dat l2.length (Zz l2))),(7,(w3v l1 l2)),(8,(w3u l1 l2)),(9,(.sla 0 4 0 v9.length (.un 4))),(10,(.dat v10.length (Zz v10))),(11,(ii v11)),(12,(ii v12)),(15,(.dat v15.length (Zz v15))),(17,(ii v17))],Vb [⟨rows v9.length (Zz v9),88,some ⟨4,v9.length,(Zz v9)⟩⟩] 0,1,[],true⟩,[],.leaf⟩
 | .h3 v9 v10 v11 v12 v16=>⟨⟨121,0,true⟩,none,(Zd prog 126 [1,1,1,1,1,0,1,0,0,1,0,0,1,1,1,0,1,0,0,1,0,0] 0),none,(Zy prog 8),⟨Yb [(0,(ii x0)),(1,(.dat l1.length (Zz l1))),(2,(.dat l2.length (Zz l2))),(7,(w3v l1 l2)),(8,(w3u l1 l2)),(9,(.sla 0 4 0 v9.length (.un 4))),(10,(.dat v10.length (Zz v10))),(11,(ii v11)),(12,(ii v12)),(16,(ii v16))],Vb [⟨rows v9.length (Zz v9),88,some ⟨4,v9.length,(Zz v9)⟩⟩] 0,1,[],true⟩,[],.leaf⟩
def j1t :List (Option (List Nat)):=[some [0,1,2,7,8,9,10,11,12]]
def j1v :List (Option (List Nat)):=[]
def rjoN1 :List (Option (List Nat)):=[some [0,1,2,7,8,9,10,11,12,13,14]]
def rjoM1 :List (Option (List Nat)):=[]
def j1s :List (Option (List Nat)):=[some [0,1,2,7,8,9,10,11,12,15,17]]
def j1u :List (Option (List Nat)):=[]
def rjoN3 :List (Option (List Nat)):=[some [0,1,2,7,8,9,10,11,12,16]]
def rjoM3 :List (Option (List Nat)):=[]
def Va (x0:Int) (l1:List R4) (l2:List R4):rjoS→Xp rjoS
 | .h0 v9 v10 v11 v12=>(bif (decide ((wrap .i64 (v12+1))<(((xsV (cvT l1) (cvT l2)).length :Nat):Int))) then (.to (.h1 v9 v10 v11 v12 ([]:List Bool) 0)) else (.ret [(.dat v9.length (Zz v9))]))
 | .h1 v9 v10 v11 v12 v13 v14=>(bif (decide (v14<(((ysV (cvT l1) (cvT l2)).length :Nat):Int))) then (bif (z0k (cvT l1) (rd (xsV (cvT l1) (cvT l2)) v12.toNat) (rd (ysV (cvT l1) (cvT l2)) v14.toNat)) then (bif ((decide (0≤v12∧v12<(((xsV (cvT l1) (cvT l2)).length :Nat):Int)))&&true) then (bif ((decide (0≤v14∧v14<(((ysV (cvT l1) (cvT l2)).length :Nat):Int)))&&true) then (bif (z0k (cvT l2) (rd (xsV (cvT l1) (cvT l2)) v12.toNat) (rd (ysV (cvT l1) (cvT l2)) v14.toNat)) then (bif (Nat.beq 1 1&&((decide (0+v13.length=v13.length))&&decide ((v13.length+1+1)*(1+1)≤Jd))) then (.to (.h1 v9 v10 v11 v12 (v13++[(y6a x0 (has4V (cvT l1) (rd (xsV (cvT l1) (cvT l2)) v12.toNat) (rd (ysV (cvT l1) (cvT l2)) v14.toNat)) (has4V (cvT l2) (rd (xsV (cvT l1) (cvT l2)) v12.toNat) (rd (ysV (cvT l1) (cvT l2)) v14.toNat)))]) (wrap .i64 (v14+1)))) else .stuck) else .stuck) else .stuck) else .stuck) else .stuck) else (bif (z9c (cvT (ysV (cvT l1) (cvT l2))) (cvT v13)) then (bif (decide (v12>0)) then (bif (Vs (cvT (y1z (cvT (ysV (cvT l1) (cvT l2))) (cvT v13))) (cvT v10)) then (bif (Qm (cvT (y1z (cvT (ysV (cvT l1) (cvT l2))) (cvT v13))) (cvT v10)) then (.to (.h3 v9 v10 v11 v12 v11)) else (.to (.h2 v9 (y1z (cvT (ysV (cvT l1) (cvT l2))) (cvT v13)) (v9.length:Int) v12 (y1z (cvT (ysV (cvT l1) (cvT l2))) (cvT v13)) 0))) else .stuck) else (.to (.h2 v9 (y1z (cvT (ysV (cvT l1) (cvT l2))) (cvT v13)) (v9.length:Int) v12 (y1z (cvT (ysV (cvT l1) (cvT l2))) (cvT v13)) 0))) else .stuck))
 | .h2 v9 v10 v11 v12 v15 v17=>(bif (decide (v17<(v15.length:Int))) then (bif ((decide (0≤v12∧v12<(((xsV (cvT l1) (cvT l2)).length :Nat):Int)))&&true) then (bif ((decide (0≤(wrap .i64 (v12+1))∧(wrap .i64 (v12+1))<(((xsV (cvT l1) (cvT l2)).length :Nat):Int)))&&true) then (bif ((decide (0≤v17∧v17<(v15.length:Int)))&&true) then (bif (Nat.beq 4 4&&((decide (0+v9.length=v9.length))&&decide ((v9.length+1+1)*(32+1)≤Jd))) then (.to (.h2 (v9++[(R4.mk (rd (xsV (cvT l1) (cvT l2)) v12.toNat) (rd v15 v17.toNat).a (rd (xsV (cvT l1) (cvT l2)) (Int.toNat (wrap .i64 (v12+1)))) (rd v15 v17.toNat).b)]) v10 v11 v12 v15 (wrap .i64 (v17+1)))) else .stuck) else .stuck) else .stuck) else .stuck) else (.to (.h0 v9 v10 v11 (wrap .i64 (v12+1)))))
 | .h3 v9 v10 v11 v12 v16=>(bif (decide (v16<(v9.length:Int))) then (bif ((decide (0≤(wrap .i64 (v12+1))∧(wrap .i64 (v12+1))<(((xsV (cvT l1) (cvT l2)).length :Nat):Int)))&&true) then (bif ((decide (0≤v16∧v16<(v9.length:Int)))&&true) then (bif (decide ((0+v16.toNat)<v9.length)) then (.to (.h3 (v9.set (0+v16.toNat) (R4.mk (rd v9 (0+v16.toNat)).a (rd v9 (0+v16.toNat)).b (rd (xsV (cvT l1) (cvT l2)) (Int.toNat (wrap .i64 (v12+1)))) (rd v9 (0+v16.toNat)).d)) v10 v11 v12 (wrap .i64 (v16+1)))) else .stuck) else .stuck) else .stuck) else (.to (.h0 v9 v10 v11 (wrap .i64 (v12+1)))))
def y2y (x0:Int) (l1:List R4) (l2:List R4):Xp rjoS:=(bif (y2i (cvT l1) (cvT l2)) then (bif (y2h (cvT l1) (cvT l2)) then (.to (.h0 ([]:List R4) ([]:List R2) 0 0)) else .stuck) else .stuck)
theorem w8f (x0:Int) (l1:List R4) (l2:List R4): ∀s,Yr prog (Zy prog 126) (rjoC x0 l1 l2) (rjoC x0 l1 l2 s) (Va x0 l1 l2 s)
 | .h0 v9 v10 v11 v12=>(lb (fun k0=>(sl y0z 24 [(4,1,Zz ([]:List Bool))] ⟨[1,0],[],rjoN1,rjoM1⟩ ⟨[(13,.grow 0 1)],[],[]⟩ [true] (pp (fl ([]:List Bool) (fl v9 nn)) (tt k0 nn)))) (fun k0=>(lr 121 3 [1,1,1,1,1,1,1,0] 1 8 [(6,(.dat v9.length (Zz v9)))] (sl y0z 16 [] ⟨[],[0],[some [6]],[]⟩ ⟨[(6,.frz v9.length v9.length (Zz v9) (Zz v9))],[],[]⟩ [false] (pp (xZ (z6j 4 4 0 v9.length v9.length (Zz v9)) v9.length (Zz v9)) (pp (xL v9.length v9.length) (pp (xS v9.length (Zz v9) (Zz v9)) (pp (fl v9 nn) (tt k0 nn)))))))))
 | .h1 v9 v10 v11 v12 v13 v14=>(lb (fun k0=>(lo fun o0=>(lo fun o1=>(lo fun o2=>(lo fun o3=>(lo fun o4=>(sl y0z 20 [] ⟨[3,1],[],rjoN1,rjoM1⟩ ⟨[(13,.len (v13++[(y1g x0 l1 l2 v12 v14)]).length)],[.rowed 1 (v13++[(y1g x0 l1 l2 v12 v14)]).length (Zz (v13++[(y1g x0 l1 l2 v12 v14)])),.keep],[]⟩ [true] (pp (xL (v13.length+1) (v13++[(y1g x0 l1 l2 v12 v14)]).length) (pp (xL (v13.length+1) (v13++[(y1g x0 l1 l2 v12 v14)]).length) (pp (xS (v13.length+1) (Zi (Zz v13) 0 v13.length 1 [(.bool (y1g x0 l1 l2 v12 v14))]) (Zz (v13++[(y1g x0 l1 l2 v12 v14)]))) (pp (pp (xF (Zi (Zz v13) 0 v13.length 1 [(.bool (y1g x0 l1 l2 v12 v14))])) (fl v9 nn)) (ww o4 (pp (pp (xr l2) (xw o3)) (ww o2 (ww o1 (pp (pp (xr l1) (xw o0)) (ww o2 (ww o1 (tt k0 nn))))))))))))))))))) (fun k0=>(Wo (sl y0z (C':=⟨⟨121,0,true⟩,(Jb prog 126 [1,1,1,1,1,0,1,0,0,1,0,0,1,1,0] 2),(Zd prog 126 [1,1,1,1,1,0,1,0,0,1,0,0,1,1,0] 1),none,(Zy prog 8),⟨Yb [(0,(ii x0)),(1,(.dat l1.length (Zz l1))),(2,(.dat l2.length (Zz l2))),(7,(.dat (xsV (cvT l1) (cvT l2)).length (Zz (xsV (cvT l1) (cvT l2))))),(8,(.dat (Qn l1 l2).length (Zz (Qn l1 l2)))),(9,(.sla 0 4 0 v9.length (.un 4))),(10,(.dat v10.length (Zz v10))),(11,(ii v11)),(12,(ii v12)),(62,(.dat (Qn l1 l2).length (Zz (Qn l1 l2)))),(63,(.dat v13.length (Zz v13)))],Vb [⟨rows v9.length (Zz v9),88,some ⟨4,v9.length,(Zz v9)⟩⟩] 0,1,[],true⟩,[],.leaf⟩) 14 [] ⟨[1],[0],[some [0,1,2,7,8,9,10,11,12,62,63]],[]⟩ ⟨[(63,.frz v13.length v13.length (Zz v13) (Zz v13))],[],[]⟩ [false] (pp (xZ (z6j 1 1 0 v13.length v13.length (Zz v13)) v13.length (Zz v13)) (pp (xL v13.length v13.length) (pp (xS v13.length (Zz v13) (Zz v13)) (pp (fl v9 nn) (pp (fl v13 nn) (tt k0 nn))))))) (lo fun aG=>(lb (fun k1=>(lo fun cH=>(lb (fun k2=>(sl y0z 23 [] ⟨[0],[],rjoN3,rjoM3⟩ ⟨[],[],[]⟩ (trs 4 []) (pp (fl v9 nn) (tt k2 (pp (pp (xI R2 (y1z (cvT (Qn l1 l2)) (cvT v13)).length (Zz (y1z (cvT (Qn l1 l2)) (cvT v13)))) (pp (xr v10) (xw cH))) (tt k1 (pp (pp (xI Int (Qn l1 l2).length (Zz (Qn l1 l2))) (pp (xr v13) (xw aG))) nn))))))) (fun k2=>(sl y0z 30 [] ⟨[0],[],j1s,j1u⟩ ⟨[],[],[]⟩ (trs 3 [false]) (pp (fl v9 nn) (tt k2 (pp (pp (xI R2 (y1z (cvT (Qn l1 l2)) (cvT v13)).length (Zz (y1z (cvT (Qn l1 l2)) (cvT v13)))) (pp (xr v10) (xw cH))) (tt k1 (pp (pp (xI Int (Qn l1 l2).length (Zz (Qn l1 l2))) (pp (xr v13) (xw aG))) nn)))))))))) (fun k1=>(sl y0z 30 [] ⟨[0],[],j1s,j1u⟩ ⟨[],[],[]⟩ (bl 4 0) (pp (fl v9 nn) (tt k1 (pp (pp (xI Int (Qn l1 l2).length (Zz (Qn l1 l2))) (pp (xr v13) (xw aG))) nn))))))))))
 | .h2 v9 v10 v11 v12 v15 v17=>(lb (fun k0=>(lo fun o0=>(lo fun o1=>(lo fun o2=>(lo fun o3=>(sl y0z 20 [] ⟨[2],[],j1s,j1u⟩ ⟨[(9,.len (y9b v9 l1 l2 v12 v15 v17).length)],[.rowed 4 (y9b v9 l1 l2 v12 v15 v17).length (Zz (y9b v9 l1 l2 v12 v15 v17))],[]⟩ [true] (pp (xL (v9.length+1) (y9b v9 l1 l2 v12 v15 v17).length) (pp (xL (v9.length+1) (y9b v9 l1 l2 v12 v15 v17).length) (pp (xS (v9.length+1) (Zi (Zz v9) 0 v9.length 4 [(ii (rd (xsV (cvT l1) (cvT l2)) (tn v12))),(ii (rd v15 (tn v17)).a),(ii (rd (xsV (cvT l1) (cvT l2)) (tn (wr (v12+1))))),(ii (rd v15 (tn v17)).b)]) (Zz (y9b v9 l1 l2 v12 v15 v17))) (pp (pp (xF (Zi (Zz v9) 0 v9.length 4 [(ii (rd (xsV (cvT l1) (cvT l2)) (tn v12))),(ii (rd v15 (tn v17)).a),(ii (rd (xsV (cvT l1) (cvT l2)) (tn (wr (v12+1))))),(ii (rd v15 (tn v17)).b)])) nn) (ww o3 (ww o2 (ww o1 (ww o2 (ww o0 (tt k0 nn)))))))))))))))) (fun k0=>(sl y0z 17 [] ⟨[0],[],j1t,j1v⟩ ⟨[],[],[]⟩ [false] (pp (fl v9 nn) (tt k0 nn)))))
 | .h3 v9 v10 v11 v12 v16=>(lb (fun k0=>(lo fun o0=>(lo fun o1=>(lo fun o2=>(sl y0z 31 [] ⟨[0],[],rjoN3,rjoM3⟩ ⟨[(9,.len (y9c v9 v16 l1 l2 v12).length)],[.rowed 4 (y9c v9 v16 l1 l2 v12).length (Zz (y9c v9 v16 l1 l2 v12))],[]⟩ [true] (pp (xL v9.length (y9c v9 v16 l1 l2 v12).length) (pp (xL v9.length (y9c v9 v16 l1 l2 v12).length) (pp (xS v9.length (Xi (Zz v9) (0+(tn v16)) 2 [(ii (rd (xsV (cvT l1) (cvT l2)) (tn (wr (v12+1)))))]) (Zz (y9c v9 v16 l1 l2 v12))) (pp (pp (xF (Xi (Zz v9) (0+(tn v16)) 2 [(ii (rd (xsV (cvT l1) (cvT l2)) (tn (wr (v12+1)))))])) nn) (ww o2 (ww o1 (ww o0 (tt k0 nn))))))))))))) (fun k0=>(sl y0z 17 [] ⟨[0],[],j1t,j1v⟩ ⟨[],[],[]⟩ [false] (pp (fl v9 nn) (tt k0 nn)))))
theorem x8m (x0:Int) (l1:List R4) (l2:List R4):Yr prog (Zy prog 126) (rjoC x0 l1 l2) (Zb prog 126 [(.int .i64 x0),(.dat l1.length (Zz l1)),(.dat l2.length (Zz l2))] true []) (y2y x0 l1 l2):=(lo fun o0=>(lo fun o1=>(sl y0z 34 [(88,4,Zz ([]:List R4))] ⟨[0],[],j1t,j1v⟩ ⟨[(9,.grow 0 4),(10,.list 0 (Zz ([]:List R2)))],[],[]⟩ [] (pp (fl ([]:List R4) nn) (pp (pp (xr l1) (pp (xr l2) (xw o1))) (pp (pp (xr l1) (pp (xr l2) (xw o0))) nn))))))
theorem u0k (x0:Int) (l1:List R4) (l2:List R4) (n:Nat) (vs:List AVal) (h:Yz (Va x0 l1 l2) n (y2y x0 l1 l2)=.ret vs):Ji prog (Zy prog 126) (Zb prog 126 [(.int .i64 x0),(.dat l1.length (Zz l1)),(.dat l2.length (Zz l2))] true []) vs:=by have:=Ze (w8f x0 l1 l2) n _ (x8m x0 l1 l2);rwa [h] at this
theorem z2n : ∀(l out:List Int),(l.foldl y5x out).length ≤out.length+l.length
 | [],out=>Aq _
 | x::l,out=>AG (z2n l (y5x out x)) (by have:=y5w out x;simp;omega)
theorem z6p (l:List Int):(z3z l).length ≤l.length:=by
 have:=z2n l []
 simpa [z3z] using this
theorem y6r (cuts:List Int) (ins:List Bool): ∀(k i:Nat) (out:List R2),(v1o cuts ins k i out).length ≤out.length+k
 | 0,_,out=>Aq _
 | k+1,i,out=>by
  unfold v1o;refine AG (y6r cuts ins k (i+1) _) ?_;cases rd ins i
  ·simp only [Aa];omega
  ·simp only [Ab];cases (decide (0<out.length)&&((rd out (out.length - 1)).b == rd cuts i)) <;> simp <;> omega
theorem w2h (cuts:List Int) (ins:List Bool):(y1z cuts ins).length ≤cuts.length:=by have:=y6r cuts ins (cuts.length - 1) 0 [];unfold y1z;simp only [B2] at this;omega
section
variable (kind:Int) (l m:List R4)
def u4e (x:Int) (y:Int):Bool:=y6a kind (has4V l x y) (has4V m x y)
def w3m (x:Int):List R2:=y1z (ysV l m) ((ysV l m).map (u4e kind l m x))
def v9c (out:List R4) (first:Nat) (x:Int):List R4:=out.take first++(out.drop first).map fun r=>⟨r.a,r.b,x,r.d⟩
def j2m (x x':Int) (s:List R2):List R4:=s.map fun p=>⟨x,p.a,x',p.b⟩
def jF :Nat→Nat→List R4→List R2→Nat→List R4
 | 0,_,out,_,_=>out
 | k+1,i,out,last,first=>
  bif decide (0<i)&&Qm (w3m kind l m (rd (xsV l m) i)) last then jF k (i+1) (v9c out first (rd (xsV l m) (i+1))) last first
  else jF k (i+1) (out++j2m (rd (xsV l m) i) (rd (xsV l m) (i+1)) (w3m kind l m (rd (xsV l m) i))) (w3m kind l m (rd (xsV l m) i)) out.length
def joV :List R4:=jF kind l m ((xsV l m).length - 1) 0 [] [] 0
end
def z1l (_:Int) (l m:List R4):Bool:=decide (l.length≤10000∧m.length≤10000)
theorem Kr (l m:List R4):(xsV l m).length ≤2*l.length+2*m.length:=by refine AG (z6p _) ?_;rw [Az,z1a,z1a];omega
theorem y8b (l m:List R4):(ysV l m).length ≤2*l.length+2*m.length:=by refine AG (z6p _) ?_;rw [Az,z0z,z0z];omega
section
variable (kind:Int) (l m:List R4) (hl:l.length≤10000) (hm:m.length≤10000)
include hl hm
theorem u6l (out:List R4) (last:List R2) (first:Int) (i:Nat) (hi:i+1<(xsV l m).length): ∀(k j:Nat) (acc:List Bool),j+k=(ysV l m).length →acc.length=j→
  ∃n,∀N,Yz (Va kind l m) (N+n) (.to (.h1 out last first (i:Int) acc (j:Int)))=Yz (Va kind l m) N (.to (.h1 out last first (i:Int) (acc++((ysV l m).drop j).map (u4e kind l m (rd (xsV l m) i))) ((ysV l m).length :Int)))
 | 0,j,acc,h,ha=>by refine ⟨0,fun N=> ?_⟩;rw [Av (by omega),Ba,AB,A6];rw [show j=(ysV l m).length by omega]
 | k+1,j,acc,h,ha=>by
  have hx:=Kr l m;have hy:=y8b l m;obtain ⟨n,hn⟩:=u6l out last first i hi k (j+1) (acc++[u4e kind l m (rd (xsV l m) i) (rd (ysV l m) j)]) (by omega) (by simp [ha])
  refine ⟨n+1,fun N=> ?_⟩;have w1: ∀x y,z0k l x y=true:=fun x y=>Ah (by omega);have w2: ∀x y,z0k m x y=true:=fun x y=>Ah (by omega);rw [Yq (show j<(ysV l m).length by omega),AW,←AE,Zv];simp (disch:=omega) only [Va,Zm,Zk,w1,w2,Zs,Zt,Yd,Ym,Zh,Zq,Zx,Ya,Zj,Ag,Aw,Ai,An,Ab];have:=hn N;rw [AM] at this;exact this
theorem u6k (last:List R2) (first:Int) (i:Nat) (hi:i+1<(xsV l m).length) (s:List R2) (hs:s.length≤1000000): ∀(k j:Nat) (out:List R4),j+k=s.length→out.length≤10000000000+j→
  ∃n,∀N,Yz (Va kind l m) (N+n) (.to (.h2 out last first (i:Int) s (j:Int)))=Yz (Va kind l m) N (.to (.h0 (out++j2m (rd (xsV l m) i) (rd (xsV l m) (i+1)) (s.drop j)) last first ((i+1:Nat):Int)))
 | 0,j,out,h,ho=>by have hx:=Kr l m;refine ⟨1,fun N=> ?_⟩;rw [Av (by omega),Zv];simp (disch:=omega) only [Va,Zm,Zk,Yx,Zq,Zx,Aa,j2m,Ba,AB]
 | k+1,j,out,h,ho=>by
  have hx:=Kr l m;obtain ⟨n,hn⟩:=u6k last first i hi s hs k (j+1) (out++j2m (rd (xsV l m) i) (rd (xsV l m) (i+1)) [rd s j]) (by omega) (by simp [j2m];omega)
  refine ⟨n+1,fun N=> ?_⟩;have:=hn N;rw [Yq (show j<s.length by omega),←AE,Zv];simp (disch:=omega) only [Va,Zm,Zk,Zs,Zt,Yd,Ym,Zh,Zq,Zx,Ya,Zj,Ag,Aw,Ai,An,Ab];rw [AM] at this;exact this
theorem u3s (out:List R4) (j:Nat) (x:Int) (h:j<out.length):v9c (out.set j ⟨(rd out j).a,(rd out j).b,x,(rd out j).d⟩) (j+1) x=v9c out j x:=by
 have _uhl:=hl;have _uhm:=hm;unfold v9c;rw [Yq h,AW];have e1:(out.set j ⟨(rd out j).a,(rd out j).b,x,(rd out j).d⟩).take (j+1)=out.take j++[⟨(rd out j).a,(rd out j).b,x,(rd out j).d⟩]:=by
  apply Ch
  ·simp;omega
  ·intro n h1 h2;simp only [Bo,List.getElem_set];by_cases e:j=n
   ·subst e;rw [Au rfl,BH (by simp only [Bm];omega)];simp
   ·rw [Ao e,By (by simp at h1 ⊢;omega),Bo]
 have e2:(out.set j ⟨(rd out j).a,(rd out j).b,x,(rd out j).d⟩).drop (j+1)=out.drop (j+1):=by rw [List.drop_set];rw [Au (by omega)]
 rw [e1,e2,AM];rfl
theorem u6j (last:List R2) (first:Int) (i:Nat) (hi:i+1<(xsV l m).length): ∀(k j:Nat) (out:List R4),j+k=out.length→out.length≤10000000000→
  ∃n,∀N,Yz (Va kind l m) (N+n) (.to (.h3 out last first (i:Int) (j:Int)))=Yz (Va kind l m) N (.to (.h0 (v9c out j (rd (xsV l m) (i+1))) last first ((i+1:Nat):Int)))
 | 0,j,out,h,ho=>by
  have hx:=Kr l m;refine ⟨1,fun N=> ?_⟩;have e:v9c out j (rd (xsV l m) (i+1))=out:=by unfold v9c;rw [Av (by omega),Ba,AB,AU (by omega)]
  rw [e,Zv];simp (disch:=omega) only [Va,Zm,Zk,Yx,Zq,Zx,Aa]
 | k+1,j,out,h,ho=>by
  have hx:=Kr l m;obtain ⟨n,hn⟩:=u6j last first i hi k (j+1) (out.set j ⟨(rd out j).a,(rd out j).b,rd (xsV l m) (i+1),(rd out j).d⟩) (by simp;omega) (by simpa using ho)
  refine ⟨n+1,fun N=> ?_⟩;have:=hn N;rw [u3s l m hl hm out j _ (by omega)] at this;rw [←AE,Zv];simp (disch:=omega) only [Va,Zm,Zk,Zs,Zt,Yj,Yd,Ym,Zh,Zq,Zx,Ya,Zj,Ag,Aw,Ai,An,Ab];exact this
theorem v3s : ∀(k i:Nat) (out:List R4) (last:List R2) (first:Nat),k=(xsV l m).length - 1 - i→i≤(xsV l m).length →out.length≤i*40000→last.length≤40000→first≤out.length→
  ∃n,Yz (Va kind l m) n (.to (.h0 out last (first:Int) (i:Int)))=.ret [.dat (jF kind l m k i out last first).length (Zz (jF kind l m k i out last first))]
 | 0,i,out,last,first,h,hi,ho,hla,hf=>by have hx:=Kr l m;refine ⟨1,?_⟩;rw [Zv];simp (disch:=omega) only [Va,Zm,Zk,Yx,Zq,Zx,Aa,Za,jF]
 | k+1,i,out,last,first,h,hi,ho,hla,hf=>by
  have hx:=Kr l m;have hy:=y8b l m;have hi1:i+1<(xsV l m).length :=by omega
  have hsl:(w3m kind l m (rd (xsV l m) i)).length ≤40000:=AG (w2h _ _) (by omega);have hbig:i*40000≤40000*40000:=AK _ (by omega);obtain ⟨n1,h1⟩:=u6l kind l m hl hm out last first i hi1 (ysV l m).length 0 [] (Ag _) rfl
  simp only [A0,Br,z3r] at h1;have w3:z9c (ysV l m) ((ysV l m).map (u4e kind l m (rd (xsV l m) i)))=true:=Ah ⟨by omega,by rw [A3];omega⟩;have w4:Vs (y1z (ysV l m) ((ysV l m).map (u4e kind l m (rd (xsV l m) i)))) last=true:=Ah (AG hsl (by omega));have hy2:((ysV l m).length :Int)=(((ysV l m).length :Nat):Int):=rfl;unfold jF;rcases Yp (decide (0<i)&&Qm (w3m kind l m (rd (xsV l m) i)) last) with q | q
  ·obtain ⟨n3,h3⟩:=u6j kind l m hl hm last first i hi1 (out.length - first) first out (by omega) (by omega)
   obtain ⟨n0,h0⟩:=v3s k (i+1) (v9c out first (rd (xsV l m) (i+1))) last first (by omega) (by omega) (by simp [v9c];omega) hla (by simp [v9c];omega)
   refine ⟨n0+n3+1+n1+1,?_⟩;rw [q,Ab,Zv];simp only [Ac,Al] at q;have q2:Qm (y1z (ysV l m) ((ysV l m).map (u4e kind l m (rd (xsV l m) i)))) last=true:=q.2;simp (disch:=omega) only [Va,Zm,Zk,Zs,Zq,Zx,Ab];have h1':=h1 (n0+n3+1);rw [h1',Zv];simp (disch:=omega) only [Va,Zm,Zk,Yx,Yn,q2,w3,w4,Ab,Aa];rw [h3 n0,h0]
  ·obtain ⟨n2,h2⟩:=u6k kind l m hl hm (w3m kind l m (rd (xsV l m) i)) (out.length:Int) i hi1 (w3m kind l m (rd (xsV l m) i)) (by omega) (w3m kind l m (rd (xsV l m) i)).length 0 out (Ag _) (by omega);obtain ⟨n0,h0⟩:=v3s k (i+1) (out++j2m (rd (xsV l m) i) (rd (xsV l m) (i+1)) (w3m kind l m (rd (xsV l m) i))) (w3m kind l m (rd (xsV l m) i)) out.length (by omega) (by omega) (by simp [j2m];omega) hsl (by simp);refine ⟨n0+n2+1+n1+1,?_⟩;rw [q,Aa,Zv];simp (disch:=omega) only [Va,Zm,Zk,Zs,Zq,Zx,Ab];have h1':=h1 (n0+n2+1);rw [h1',Zv];have h2':=h2 n0;simp only [A0,z3r] at h2';by_cases hi0:0<i
   ·rw [Ah hi0,An] at q;have q2:Qm (y1z (ysV l m) ((ysV l m).map (u4e kind l m (rd (xsV l m) i)))) last=false:=q;simp (disch:=omega) only [Va,Zm,Zk,Yx,Yn,q2,w3,w4,Ab,Aa];rw [←h0];exact h2'
   ·simp (disch:=omega) only [Va,Zm,Zk,Yx,Xa,w3,w4,Ab,Aa];rw [←h0];exact h2'
end
theorem j1r (kind:Int) (l m:List R4) (h:z1l kind l m=true): ∃N,Yz (Va kind l m) N (y2y kind l m)=.ret [.dat (joV kind l m).length (Zz (joV kind l m))]:=by obtain ⟨hl,hm⟩:=AF h;obtain ⟨N,hN⟩:=v3s kind l m hl hm ((xsV l m).length - 1) 0 [] [] 0 rfl (AJ _) (AJ _) (AJ _) (Aq _);refine ⟨N,?_⟩;have w1:y2i l m=true:=Ah ⟨hl,hm⟩;have w2:y2h l m=true:=Ah ⟨hl,hm⟩;simp only [y2y,Zm,Zk,w1,w2,Ab];exact hN
theorem v1m {P:Program} {S:Specs} (hS:Zu P S) {f:FuncId} {F:List AVal→Option (AVal×Bool)} (hf:(P.funcs[f]?).any (fun fn=>fn.body.isSome)=true)
  (hF: ∀args v,F args=some (v,true)→ ∃bs vs,Vj VLe args bs∧(∀(ρ:Rho) (u:Value),VRel ρ (Jo vs) u→VRel ρ v u)∧Ji P (Zy P f) (Zb P f bs true []) vs∧ ∃d,pf d (Jo vs)=true):Zu P (S.with f F):=
 w6v hS hf fun args v h=>by obtain ⟨bs,vs,h1,h2,h3,d,h4⟩:=hF args v h;exact ⟨vs,h2,x6a h1 h3,d,h4⟩
theorem z1u {cs cs':List AVal} (h:RLe cs cs') (ρ:Rho) (u:Value) (hv:VRel ρ (.tup cs) u):VRel ρ (.tup cs') u:=by
 cases hv with
 | tup _ vs hl hh=>exact .tup cs' vs (by rw [←h.len];exact hl) fun i h1 h2=>h.sound i (by rw [h.len];exact h1) h1 (hh i (by rw [h.len];exact h1) h2)
theorem z6x (α:Type) [Yt α]:VLe .nils (.dat ([]:List α).length (Zz ([]:List α))):=.nild _
def fJo :List AVal→Option (AVal×Bool)
 | [.int .i64 x0,a1,a2]=>match asL R4 a1,asL R4 a2 with
  | some (L1,g1,n1),some (L2,g2,n2)=>some (.dat (joV x0 L1 L2).length (Zz (joV x0 L1 L2)),isT R4 n1 g1&&(isT R4 n2 g2&&(z1l x0 L1 L2)))
  | _,_=>none
 | _=>none
theorem fJo_ok {S:Specs} (hS:Zu prog S):Zu prog (S.with u7y fJo):=by
 refine z0v hS (by kernel_rfl) fun args v h=> ?_;unfold fJo at h;split at h
 ·rename_i x0 a1 a2;split at h
  ·rename_i L1 g1 n1 L2 g2 n2 e1 e2;simp only [Ae,Ad,Ac] at h;obtain ⟨rfl,ho1,ho2,hw⟩:=h;obtain ⟨N,hN⟩:=j1r x0 L1 L2 hw;exact ⟨_,_,(.cons (.refl _) (.cons (asL_le e1 ho1) (.cons (asL_le e2 ho2) .nil))),rfl,u0k x0 L1 L2 N _ hN,3,rfl⟩
  ·cases h
 ·cases h
def T3 :Specs:=T2.with u7y fJo
theorem y0y :Zu prog T3:=fJo_ok y0z
open Go.Sort
def bnd3 (r:R3):Bool:=decide (-1000000000≤r.a∧r.a≤1000000000)
def y2a (l:List R3):Bool:=l.all bnd3
abbrev E3 :={r:R3 // bnd3 r=true}
instance : Inhabited E3:=⟨⟨⟨0,0,0⟩,rfl⟩⟩
def cf3 (x y:E3):Int:=x.1.a - y.1.a
def lt3 (x y:E3):Bool:=decide (cf3 x y<0)
theorem swo3 :SWO lt3 where
 irrefl x:=by unfold lt3 cf3;simp
 trans x y z h1 h2:=by unfold lt3 cf3 at*;simp at*;omega
 ntrans x y z h1 h2:=by unfold lt3 cf3 at*;simp at*;omega
def x3s :(l:List R3)→y2a l=true→List E3
 | [],_=>[]
 | r::l,h=>⟨r,by simp [y2a] at h;exact h.1⟩::x3s l (by simp [y2a] at h ⊢;exact h.2)
theorem y4d : ∀(l:List R3) (h:y2a l=true),(x3s l h).map Subtype.val=l
 | [],_=>rfl
 | r::l,h=>by rw [x3s,AW,y4d l]
theorem Qw (l:List R3) (h:y2a l=true):(x3s l h).length =l.length:=by
 have:=AY List.length (y4d l h)
 simpa using this
def z1d (l:List R3):List R3:=if h:y2a l=true then (pdq lt3 (x3s l h).toArray 0 l.length (Lib.bitLen l.length) true true).toList.map Subtype.val else l
theorem Qp (l:List R3) (h:y2a l=true):(z1d l).Perm l∧ ∀i j,i<j→j<(z1d l).length →(rd (z1d l) i).a ≤(rd (z1d l) j).a :=by
 have hp:=pdq_sorts lt3 swo3 (x3s l h).toArray 0 l.length (Lib.bitLen l.length) true true (AJ _) (by simp [Qw]) (Or.inl rfl);obtain ⟨⟨h1,h2,h3⟩,h4⟩:=hp;have e:z1d l=(pdq lt3 (x3s l h).toArray 0 l.length (Lib.bitLen l.length) true true).toList.map Subtype.val:=by unfold z1d;rw [dif_pos h]
 generalize pdq lt3 (x3s l h).toArray 0 l.length (Lib.bitLen l.length) true true=d at*;have hs:d.size=l.length:=by rw [h1];simp [Qw]
 constructor
 ·rw [e];have x1:(d.extract 0 l.length).toList =d.toList:=by rw [←hs];simp
  have x2:((x3s l h).toArray.extract 0 l.length).toList =x3s l h:=by rw [show l.length=(x3s l h).toArray.size by simp [Qw]];simp
  rw [x1,x2] at h3;have:=h3.map Subtype.val;rw [y4d] at this;exact this
 ·intro i j hij hj;rw [e] at hj ⊢;have hj':j<d.size:=by simpa using hj
  have:=h4 i j (AJ _) hij (by omega);rw [BW d i (by omega),BW d j hj'] at this;rw [Xz (by simp;omega),Xz hj];simp only [B6,Array.getElem_toList];unfold lt3 cf3 at this;have:=Cj this;omega
open Go.RowKit Go.Shelf
variable {P:Program} {ρ:Rho}
def valOf :AVal→Value
 | .int k n=>.int k n
 | .bool b=>.bool b
 | _=>.tuple #[]
def w0o :AVal→Bool
 | .int _ _=>true
 | .bool _=>true
 | _=>false
theorem v1t {a:AVal} (h:w0o a=true):VRel ρ a (valOf a):=by
 cases a <;> first
  | exact .int _ _
  | exact .bool _
  | (simp [w0o] at h;done)
theorem v4b {a:AVal} {v:Value} (h:w0o a=true) (hv:VRel ρ a v):v=valOf a:=by
 cases hv <;> first
  | rfl
  | (simp [w0o] at h;done)
class u9u (α:Type) extends Yt α where
 num: ∀a:α,(cells a).all w0o=true
instance : u9u R2 where num _:=rfl
instance : u9u R3 where num _:=rfl
instance : u9u R4 where num _:=rfl
instance : u9u R6 where num _:=rfl
instance {α :Type} [Yt α]:Inhabited α:=⟨Yt.d⟩
section
variable {α:Type} [u9u α]
def x0p (a:α):List Value:=(Yt.cells a).map valOf
theorem y6k (a:α):(x0p a).length =Yt.w α:=by rw [x0p,A3,Yt.len]
theorem w6b (L:List α) (t:Nat) (h:t<L.length*Yt.w α):(flatK x0p (Yt.w α) L.toArray)[t]? =(Yt.cells (rd L (t / Yt.w α)))[t %Yt.w α]?.map valOf:=by
 have hw:=Yt.pos (α:=α);have hq:t / Yt.w α<L.length:=Bw (by rw [Bq];exact h);have hj:t %Yt.w α<Yt.w α:=BY _ hw;have hs:t<(flatK x0p (Yt.w α) L.toArray).size :=by rw [size_flatK];exact h
 rw [Bk hs,←BW (flatK x0p (Yt.w α) L.toArray) t hs,get_flatK x0p (Yt.w α) L.toArray t (by simpa using h)];have e1:L.toArray[t / Yt.w α]! =rd L (t / Yt.w α):=by rw [Xz hq,BW L.toArray _ (by simpa using hq)];simp
 rw [e1];have hl:t %Yt.w α<(x0p (rd L (t / Yt.w α))).length :=by rw [y6k];exact hj
 have hl2:t %Yt.w α<(Yt.cells (rd L (t / Yt.w α))).length :=by rw [Yt.len];exact hj
 rw [BW (x0p (rd L (t / Yt.w α))) _ hl,As hl2];simp [x0p]
theorem v3n (L:List α) (N t:Nat) (h:t<N*Yt.w α):(rows N (Zz L))[t]? =(Yt.cells (rd L (t / Yt.w α)))[t %Yt.w α]? :=by have hw:=Yt.pos (α:=α);have:=Vv (get:=Zz L) (sz:=Yt.w α) N (fun _ _=>Yt.len _) (t / Yt.w α) (t %Yt.w α) (Bw (by rw [Bq];exact h)) (BY _ hw);rw [show t / Yt.w α*Yt.w α+t %Yt.w α=t by rw [Bq];exact B1 t _] at this;exact this
theorem z2a (L:List α) (N:Nat):(rows N (Zz L)).length =N*Yt.w α:=Yk N fun _ _=>Yt.len _
theorem y6b (w:World) (n blk off:Nat) (d:Array Value) (os:Array Obj) (k:Nat) (hk:k<w.heap.size):
  (grow (putRow id (Go.Sort.ahead w n) blk off d) os).heap[k]? =if k=blk then (w.heap[k]?).map (onCells (putCells id off d)) else w.heap[k]? :=by
 show (((Go.Sort.ahead w n).heap.modify blk (onCells (putCells id off d)))++os)[k]? =_;rw [Array.getElem?_append_left (by simp;exact hk),Array.getElem?_modify];show (if blk=k then _ else _)=_;by_cases h:k=blk
 ·rw [Au h.symm,Au h];rfl
 ·rw [Ao (fun e=>h e.symm),Ao h];rfl
def w6e (α:Type) [Yt α] (srt:List α→List α) (bnd:List α→Bool) (g:FuncId) (args:List AVal) (mem:Mem):Option (AVal×Nat×ABlk×Bool):=match args with
 | [.sla b sz off n cap,.fn f []]=>bif Nat.beq f g then match Ye mem b with
  | some ⟨_,ty,some A⟩=>some (.tup [],b,⟨rows A.n (Zz (srt (lst α n A.get))),ty,some ⟨Yt.w α,A.n,Zz (srt (lst α n A.get))⟩⟩,
    Nat.beq sz (Yt.w α)&&(Nat.beq A.sz (Yt.w α)&&(Nat.beq off 0&&((decide (n=A.n)&&(isT α n A.get&&decide (n<4611686018427387904)))&&bnd (lst α n A.get)))))
  | _=>none
  else none
 | _=>none
theorem v7o {f g:FuncId} {srt:List α→List α} {bnd:List α→Bool} (hsl: ∀L,(srt L).length =L.length)
  (hC: ∀(blk off cap:Nat) (L:List α) (w:World),bnd L=true→HoldsK x0p (Yt.w α) w blk off L.toArray→blk<w.heap.size→L.length<4611686018427387904→
   Calls P f #[.slice (some ⟨blk,off,none⟩) L.length cap,.func (.func g) #[] #[]] w fun e w'=>e=.returned (.tuple #[])∧ ∃n os,w'=sortWorldK x0p (Yt.w α) w blk off n (srt L).toArray os)
  (hN: ∀(p:Option Addr) (cap:Nat) (fv:Value) (w:World),Calls P f #[.slice p 0 cap,fv] w fun e w'=>e=.returned (.tuple #[])∧w'=w):x6x P f (w6e α srt bnd g):=by
 intro args mem v b blk h fK ρ next floor vals w hfl dI dF
 have hw0:=Yt.pos (α:=α);unfold w6e at h;split at h
 ·rename_i b0 sz off n cap f0;obtain ⟨hfg,h'⟩:=z0e h;clear h;obtain rfl:=Aj hfg;have h:=h';clear h';split at h
  ·rename_i cells ty A hm;obtain ⟨asz,an,get⟩:=A;simp only [Ae,Ad,Ac] at h;obtain ⟨rfl,rfl,rfl,h1,h2,h3,⟨h4,h5,h6⟩,h7⟩:=h;have g1:=Aj h1;have g2:=Aj h2;have g3:=Aj h3;have g4:n=an:=AF h4;have h6:n<4611686018427387904:=AF h6;have g2:asz=Yt.w α:=g2;subst g1;subst g2;subst g3;subst g4;have h7:bnd (lst α n get.get)=true:=h7;have dO:=w5q h5;have dO: ∀i,i<n→get.get i=Zz (lst α n get.get) i:=dO;have hrows:rows n get.get=rows n (Zz (lst α n get.get)):=z5m n dO;obtain ⟨u,hu,hvals⟩: ∃u,VRel ρ (.sla b0 (Yt.w α) 0 n cap) u∧vals= #[u,.func (.func f0) #[] #[]]:=by
    obtain ⟨vl⟩:=vals;cases dI with
    | cons q1 q2=>cases q2 with
     | cons q3 q4=>
      cases q4;cases q3 with
      | fn _ _ cvs hl _=>have:cvs= #[]:=BT (by simpa using hl.symm);subst this;exact ⟨_,q1,rfl⟩
   subst hvals;have hlt:b0<next:=by
    rcases Bn b0 next with q | q
    ·exact q
    ·have:=dF.bd b0 q;rw [hm] at this;cases this
   show Calls P f _ w _;have hAget:(Arr.get ⟨Yt.w α,n,get⟩)=get.get:=rfl;rw [hAget] at*;generalize hI:lst α n get.get=I at*;have hIl:I.length=n:=by rw [←hI];exact y0d _ _
   generalize hL:srt I=L;have hLl:L.length=n:=by rw [←hL,hsl,hIl]
   have hnn:ρ b0=none→ ∀cs ty',Ye mem b0≠some ⟨cs,ty',none⟩:=fun _ cs ty' e=>by rw [hm] at e;cases e
   cases hu with
   | sla _ _ _ _ _ l cc e hc dG=>
    have hbk:=dF.blk b0 l _ e hm;obtain ⟨har,_,_⟩:=hbk.arr _ rfl;have har:cells=rows n get.get:=har;rw [hrows] at har;subst har;obtain ⟨cur,el,hh,hsz,dK⟩:=hbk.cells;simp only [z2a] at dK;have htot:=hbk.tot;have hln:=hbk.n;simp only [z2a] at hln;have eH: ∀t,t<n*Yt.w α→cur[l.base+t]? =(Yt.cells (rd I (t / Yt.w α)))[t %Yt.w α]?.map valOf:=fun t ht=>by
     obtain ⟨v,e1,e2⟩:=dK t ht;have hj:t %Yt.w α<Yt.w α:=BY _ hw0;have hl2:t %Yt.w α<(Yt.cells (rd I (t / Yt.w α))).length :=by rw [Yt.len];exact hj
     have e3:=v3n I n t ht;rw [As (by rw [z2a];exact ht),As hl2] at e3;rw [Af e3] at e2;rw [e1,As hl2,BJ,v4b (At.1 (u9u.num _) _ (AS hl2)) e2]
    have eU:=dF.real b0 l e;have hH:HoldsK x0p (Yt.w α) w l.blk (l.base+0*Yt.w α) I.toArray:=fun j hj=>by
     have hj:j<n*Yt.w α:=(by simpa [hIl] using hj);have hs:j<(flatK x0p (Yt.w α) I.toArray).size :=(by simpa [hIl] using hj);have e1:=w6b I j (by rw [hIl];exact hj);rw [Bk hs] at e1;refine ⟨?_,?_⟩
     ·simp only [World.cell?,hh,Bi,A6,id];rw [eH j hj,←e1,BW (flatK x0p (Yt.w α) I.toArray) j hs];simp
     ·simp [World.frozen?,hh]
    have dV:=hC l.blk (l.base+0*Yt.w α) cc I w h7 hH eU (by omega);rw [hIl,hL] at dV;refine dV.mono fun e' w' ⟨he,q,os,hw'⟩=>⟨_,he,?_,?_,?_⟩
    ·exact .tup [] #[] rfl fun i h1 h2=>absurd h1 (AR _)
    ·subst hw';refine Rel.setArr ?_ ⟨Yt.w α,n,.flat (Zz L)⟩ rfl hw0 fun _ _=>Yt.len _;refine Rel.rewritten dF e hm (by simp only [z2a]) (fun k hk hne=> ?_) ?_ ?_
     ·exact (y6b _ _ _ _ _ _ _ hk).trans (Ao hne)
     ·show _≤(((Go.Sort.ahead w q).heap.modify _ _)++os).size;simp only [BS,Cm];exact BF _ _
     ·refine ⟨putCells id (l.base+0*Yt.w α) (flatK x0p (Yt.w α) L.toArray) cur,el,?_,?_,fun i hi=> ?_⟩
      ·refine (y6b _ _ _ _ _ _ _ eU).trans ?_;rw [Au rfl,hh];rfl
      ·simp only [putCells,Array.size_mapIdx];exact hsz
      ·rw [z2a] at hi;have hj:i %Yt.w α<Yt.w α:=BY _ hw0;have hl2:i %Yt.w α<(Yt.cells (rd L (i / Yt.w α))).length :=by rw [Yt.len];exact hj
       have hl3:i %Yt.w α<(Yt.cells (rd I (i / Yt.w α))).length :=by rw [Yt.len];exact hj
       have e1:=w6b L i (by rw [hLl];exact hi);rw [As hl2,BJ] at e1;have hs:i<(flatK x0p (Yt.w α) L.toArray).size :=(by simpa [hLl] using hi);rw [Bk hs] at e1;have e3:=v3n L n i hi;rw [As (by rw [z2a];exact hi),As hl2] at e3;refine ⟨valOf (Yt.cells (rd L (i / Yt.w α)))[i %Yt.w α],?_,?_⟩
       ·have hc0:=eH i hi;rw [As hl3,BJ] at hc0;simp only [putCells,Array.getElem?_mapIdx,hc0,BJ,Bi,A6];rw [Au ⟨by omega,by omega⟩]
        congr 1
        rw [show l.base+i - l.base=i by omega,id,BW (flatK x0p (Yt.w α) L.toArray) i hs];exact Af e1
       ·rw [Af e3];exact v1t (At.1 (u9u.num _) _ (AS hl2))
    ·subst hw';refine Ev.rewritten dF _ (fun l' _=>hfl) hnn (fun k hk hne=> ?_) ?_ rfl rfl rfl
     ·exact (y6b _ _ _ _ _ _ _ hk).trans (Ao (hne l e))
     ·show _≤(((Go.Sort.ahead w q).heap.modify _ _)++os).size;simp only [BS,Cm];exact BF _ _
   | slan=>
    have hI0:I=[]:=List.eq_nil_of_length_eq_zero hIl;have hL0:L=[]:=List.eq_nil_of_length_eq_zero hLl;refine (hN none 0 _ w).mono fun e' w' ⟨he,hw'⟩=>⟨_,he,?_,?_,?_⟩
    ·exact .tup [] #[] rfl fun i h1 h2=>absurd h1 (AR _)
    ·subst hw';refine dF.reblk hm fun l hρ hbk=> ?_;obtain ⟨har,fI,_⟩:=hbk.arr _ rfl;have har:cells=rows 0 get.get:=har;subst har;exact ⟨hbk.n,hbk.tot,fun B hB=>by obtain rfl:=Af hB;exact ⟨rfl,hw0,fun i hi=>absurd hi (AR _)⟩,hbk.cells⟩
    ·subst hw';exact Ev.rewritten dF _ (fun l' _=>hfl) hnn (fun _ _ _=>rfl) (Aq _) rfl rfl rfl
  ·cases h
 ·cases h
end
def Specs.withE (S:Specs) (f:FuncId) (F:List AVal→Mem→Option (AVal×Nat×ABlk×Bool)):Specs:=fun g=>bif Nat.beq g f then some (.eff F) else S g
theorem x0z {P:Program} {S:Specs} (hS:Zu P S) {f:FuncId} {F:List AVal→Mem→Option (AVal×Nat×ABlk×Bool)} (hf:(P.funcs[f]?).any (fun fn=>fn.body.isSome)=true) (hF:x6x P f F):Zu P (S.withE f F):=by
 intro g G hg;unfold Specs.withE at hg;cases hgf:Nat.beq g f with
 | false=>rw [hgf] at hg;exact hS g G hg
 | true=>
  rw [hgf] at hg;obtain rfl:Spec.eff F=G:=Af hg;obtain rfl:g=f:=Aj hgf;refine ⟨?_,hF⟩;cases hfn:P.funcs[g]? with
  | none=>rw [hfn] at hf;cases hf
  | some fn=>rw [hfn] at hf;exact ⟨fn,rfl,hf⟩
end Go.Am
namespace Go.Proofs
open Go.Proofs.Tryz
open Go.Shelf
def Tryz.lays189_ren :Go.Shelf.Ren:=⟨fun | 189=>63 | 125=>117 | 257=>116 | 128=>152 | 129=>153 | 294=>143 | 295=>144 | 296=>145 | 297=>146 | 298=>147 | 299=>148 | 216=>149 | 300=>150 | 301=>151 | 328=>176 | 329=>177 | 330=>178 | 331=>179 | 332=>180 | 215=>181 | 343=>194 | n=>n,fun | 28=>93 | 3=>3 | 46=>147 | 0=>0 | 51=>194 | 53=>196 | 4=>4 | 183=>186 | 182=>185 | 131=>191 | 5=>5 | 9=>9 | 218=>224 | 222=>228 | 228=>239 | 229=>91 | n=>n,fun | n=>n⟩
theorem Tryz.lays189 :Go.Proofs.Lays.n189 prog Tryz.lays189_ren:={
 mixed:=by kernel_rfl
 f125:=Tryz.func117.trans (congrArg some (by kernel_rfl))
 f128:=Tryz.func152.trans (congrArg some (by kernel_rfl))
 f129:=Tryz.func153.trans (congrArg some (by kernel_rfl))
 f189:=Tryz.func63.trans (congrArg some (by kernel_rfl))
 f215:=Tryz.func181.trans (congrArg some (by kernel_rfl))
 f216:=Tryz.func149.trans (congrArg some (by kernel_rfl))
 f257:=Tryz.func116.trans (congrArg some (by kernel_rfl))
 f294:=Tryz.func143.trans (congrArg some (by kernel_rfl))
 f295:=Tryz.func144.trans (congrArg some (by kernel_rfl))
 f296:=Tryz.func145.trans (congrArg some (by kernel_rfl))
 f297:=Tryz.func146.trans (congrArg some (by kernel_rfl))
 f298:=Tryz.func147.trans (congrArg some (by kernel_rfl))
 f299:=Tryz.func148.trans (congrArg some (by kernel_rfl))
 f300:=Tryz.func150.trans (congrArg some (by kernel_rfl))
 f301:=Tryz.func151.trans (congrArg some (by kernel_rfl))
 f328:=Tryz.func176.trans (congrArg some (by kernel_rfl))
 f329:=Tryz.func177.trans (congrArg some (by kernel_rfl))
 f330:=Tryz.func178.trans (congrArg some (by kernel_rfl))
 f331:=Tryz.func179.trans (congrArg some (by kernel_rfl))
 f332:=Tryz.func180.trans (congrArg some (by kernel_rfl))
 f343:=Tryz.func194.trans (congrArg some (by kernel_rfl))
 t0:=Tryz.underlying0
 a0:=Tryz.isAgg0
 z0:=Tryz.sizeOf0
 v0:=Tryz.zeroValue0
 t3:=Tryz.underlying3
 a3:=Tryz.isAgg3
 z3:=Tryz.sizeOf3
 v3:=Tryz.zeroValue3
 t4:=Tryz.underlying4
 a4:=Tryz.isAgg4
 z4:=Tryz.sizeOf4
 v4:=Tryz.zeroValue4
 t5:=Tryz.underlying5
 a5:=Tryz.isAgg5
 z5:=Tryz.sizeOf5
 v5:=Tryz.zeroValue5
 t9:=Tryz.underlying9
 a9:=Tryz.isAgg9
 z9:=Tryz.sizeOf9
 v9:=Tryz.zeroValue9
 t28:=Tryz.underlying93
 a28:=Tryz.isAgg93
 z28:=Tryz.sizeOf93
 v28:=Tryz.zeroValue93
 t46:=Tryz.underlying147
 a46:=Tryz.isAgg147
 z46:=Tryz.sizeOf147
 v46:=Tryz.zeroValue147
 t51:=Tryz.underlying194
 a51:=Tryz.isAgg194
 z51:=Tryz.sizeOf194
 v51:=Tryz.zeroValue194
 t53:=Tryz.underlying196
 a53:=Tryz.isAgg196
 z53:=Tryz.sizeOf196
 v53:=Tryz.zeroValue196
 t131:=Tryz.underlying191
 a131:=Tryz.isAgg191
 z131:=Tryz.sizeOf191
 v131:=Tryz.zeroValue191
 t182:=Tryz.underlying185
 a182:=Tryz.isAgg185
 z182:=Tryz.sizeOf185
 v182:=Tryz.zeroValue185
 t183:=Tryz.underlying186
 a183:=Tryz.isAgg186
 z183:=Tryz.sizeOf186
 v183:=Tryz.zeroValue186
 t218:=Tryz.underlying224
 a218:=Tryz.isAgg224
 z218:=Tryz.sizeOf224
 v218:=Tryz.zeroValue224
 t222:=Tryz.underlying228
 a222:=Tryz.isAgg228
 z222:=Tryz.sizeOf228
 v222:=Tryz.zeroValue228
 t228:=Tryz.underlying239
 a228:=Tryz.isAgg239
 z228:=Tryz.sizeOf239
 v228:=Tryz.zeroValue239
 t229:=Tryz.underlying91
 a229:=Tryz.isAgg91
 z229:=Tryz.sizeOf91
 v229:=Tryz.zeroValue91}
open Go.Sort Go.RowKit in
theorem Tryz.slices_Sort_int (blk off cap:Nat) (zs:List Int) (w:World) (hH:Holds (Value.int .i64) w blk off zs.toArray) (eU:blk<w.heap.size) (hsz:zs.length<4611686018427387904):
  Calls prog 63 #[.slice (some ⟨blk,off,none⟩) zs.length cap] w fun e w'=>
   e=.returned (.tuple #[])∧ ∃n os,w'=grow (putRow (Value.int .i64) (Sort.ahead w n) blk off (zs.mergeSort fun x y=>decide (x≤y)).toArray) os:=Any.slices_Sort_int Tryz.lays189 blk off cap zs w hH eU hsz
def Tryz.laysNm220_ren :Go.Shelf.Ren:=⟨fun | 20=>64 | n=>n,fun | 22=>93 | 3=>3 | 4=>4 | 0=>0 | n=>n,fun | n=>n⟩
theorem Tryz.laysNm220 :Go.Proofs.Lays2.n20 prog Tryz.laysNm220_ren:={
 mixed:=by kernel_rfl
 f20:=Tryz.func64.trans (congrArg some (by kernel_rfl))
 t0:=Tryz.underlying0
 a0:=Tryz.isAgg0
 z0:=Tryz.sizeOf0
 v0:=Tryz.zeroValue0
 t3:=Tryz.underlying3
 a3:=Tryz.isAgg3
 z3:=Tryz.sizeOf3
 v3:=Tryz.zeroValue3
 t4:=Tryz.underlying4
 a4:=Tryz.isAgg4
 z4:=Tryz.sizeOf4
 v4:=Tryz.zeroValue4
 t22:=Tryz.underlying93
 a22:=Tryz.isAgg93
 z22:=Tryz.sizeOf93
 v22:=Tryz.zeroValue93
 i3:=by kernel_rfl}
open Go.RowKit Go.Lib Go.Sort in
theorem Tryz.slices_Compact_int (blk off cap:Nat) (zs:List Int) (w:World) (hH:Holds (Value.int .i64) w blk off zs.toArray) (hsz:zs.length≤9223372036854775807) (dL:zs.length≤cap):
  Calls prog 64 #[.slice (some ⟨blk,off,none⟩) zs.length cap] w fun e w'=>e=.returned (.slice (some ⟨blk,off,none⟩) (Lib.compact zs).length cap)∧ ∃q,w'=putRow (Value.int .i64) (Sort.ahead w q) blk off (Lib.compact zs++List.replicate (zs.length - (Lib.compact zs).length) 0).toArray :=Any.slices_Compact_int Tryz.laysNm220 blk off cap zs w hH hsz dL
open Go.RowKit Go.Lib Go.Sort in
theorem Tryz.slices_Compact_int_empty (a:Option Addr) (cap:Nat) (w:World):
  Calls prog 64 #[.slice a 0 cap] w fun e w'=>e=.returned (.slice a 0 cap)∧w'=w:=Any.slices_Compact_int_empty Tryz.laysNm220 a cap w
open Go.RowKit Go.Sort in
theorem Tryz.slices_Sort_int_none (p:Option Addr) (cap:Nat) (w:World):
  Calls prog 63 #[.slice p 0 cap] w fun e w'=>e=.returned (.tuple #[])∧w'=w:=Any.slices_Sort_int_none Tryz.lays189 p cap w
def Tryz.sortEnd_ren :Go.Shelf.Ren:=⟨fun | 6=>200 | 15=>117 | 14=>204 | 28=>152 | 29=>153 | 20=>206 | 21=>207 | 22=>208 | 23=>209 | 24=>210 | 25=>211 | 26=>212 | 27=>213 | 46=>214 | 47=>177 | 48=>178 | 49=>215 | 50=>216 | 57=>217 | n=>n,fun | 22=>248 | 24=>246 | 25=>250 | 3=>3 | 39=>147 | 0=>0 | 53=>194 | 55=>196 | 4=>4 | 46=>186 | 45=>185 | 50=>191 | 5=>5 | 9=>9 | 66=>224 | 70=>228 | 76=>239 | 77=>91 | n=>n,fun | n=>n⟩
theorem Tryz.sortEnd :Go.Proofs.SlLaysF0.n6 prog Tryz.sortEnd_ren:={
 mixed:=by kernel_rfl
 f6:=⟨Tryz.f200.name,by decide,Tryz.func200.trans (congrArg some (by kernel_rfl))⟩
 f14:=⟨Tryz.f204.name,by decide,Tryz.func204.trans (congrArg some (by kernel_rfl))⟩
 f15:=Tryz.func117.trans (congrArg some (by kernel_rfl))
 f20:=⟨Tryz.f206.name,by decide,Tryz.func206.trans (congrArg some (by kernel_rfl))⟩
 f21:=⟨Tryz.f207.name,by decide,Tryz.func207.trans (congrArg some (by kernel_rfl))⟩
 f22:=⟨Tryz.f208.name,by decide,Tryz.func208.trans (congrArg some (by kernel_rfl))⟩
 f23:=⟨Tryz.f209.name,by decide,Tryz.func209.trans (congrArg some (by kernel_rfl))⟩
 f24:=⟨Tryz.f210.name,by decide,Tryz.func210.trans (congrArg some (by kernel_rfl))⟩
 f25:=⟨Tryz.f211.name,by decide,Tryz.func211.trans (congrArg some (by kernel_rfl))⟩
 f26:=⟨Tryz.f212.name,by decide,Tryz.func212.trans (congrArg some (by kernel_rfl))⟩
 f27:=⟨Tryz.f213.name,by decide,Tryz.func213.trans (congrArg some (by kernel_rfl))⟩
 f28:=Tryz.func152.trans (congrArg some (by kernel_rfl))
 f29:=Tryz.func153.trans (congrArg some (by kernel_rfl))
 f46:=⟨Tryz.f214.name,by decide,Tryz.func214.trans (congrArg some (by kernel_rfl))⟩
 f47:=Tryz.func177.trans (congrArg some (by kernel_rfl))
 f48:=Tryz.func178.trans (congrArg some (by kernel_rfl))
 f49:=⟨Tryz.f215.name,by decide,Tryz.func215.trans (congrArg some (by kernel_rfl))⟩
 f50:=⟨Tryz.f216.name,by decide,Tryz.func216.trans (congrArg some (by kernel_rfl))⟩
 f57:=⟨Tryz.f217.name,by decide,Tryz.func217.trans (congrArg some (by kernel_rfl))⟩
 t0:=Tryz.underlying0
 a0:=Tryz.isAgg0
 z0:=Tryz.sizeOf0
 v0:=Tryz.zeroValue0
 t3:=Tryz.underlying3
 a3:=Tryz.isAgg3
 z3:=Tryz.sizeOf3
 v3:=Tryz.zeroValue3
 t4:=Tryz.underlying4
 a4:=Tryz.isAgg4
 z4:=Tryz.sizeOf4
 v4:=Tryz.zeroValue4
 t5:=Tryz.underlying5
 a5:=Tryz.isAgg5
 z5:=Tryz.sizeOf5
 v5:=Tryz.zeroValue5
 t9:=Tryz.underlying9
 a9:=Tryz.isAgg9
 z9:=Tryz.sizeOf9
 v9:=Tryz.zeroValue9
 t22:=Tryz.underlying248
 a22:=Tryz.isAgg248
 z22:=Tryz.sizeOf248
 v22:=Tryz.zeroValue248
 t25:=Tryz.underlying250
 a25:=Tryz.isAgg250
 z25:=Tryz.sizeOf250
 v25:=Tryz.zeroValue250
 t39:=Tryz.underlying147
 a39:=Tryz.isAgg147
 z39:=Tryz.sizeOf147
 v39:=Tryz.zeroValue147
 t45:=Tryz.underlying185
 a45:=Tryz.isAgg185
 z45:=Tryz.sizeOf185
 v45:=Tryz.zeroValue185
 t46:=Tryz.underlying186
 a46:=Tryz.isAgg186
 z46:=Tryz.sizeOf186
 v46:=Tryz.zeroValue186
 t50:=Tryz.underlying191
 a50:=Tryz.isAgg191
 z50:=Tryz.sizeOf191
 v50:=Tryz.zeroValue191
 t53:=Tryz.underlying194
 a53:=Tryz.isAgg194
 z53:=Tryz.sizeOf194
 v53:=Tryz.zeroValue194
 t55:=Tryz.underlying196
 a55:=Tryz.isAgg196
 z55:=Tryz.sizeOf196
 v55:=Tryz.zeroValue196
 t66:=Tryz.underlying224
 a66:=Tryz.isAgg224
 z66:=Tryz.sizeOf224
 v66:=Tryz.zeroValue224
 t70:=Tryz.underlying228
 a70:=Tryz.isAgg228
 z70:=Tryz.sizeOf228
 v70:=Tryz.zeroValue228
 t76:=Tryz.underlying239
 a76:=Tryz.isAgg239
 z76:=Tryz.sizeOf239
 v76:=Tryz.zeroValue239
 t77:=Tryz.underlying91
 a77:=Tryz.isAgg91
 z77:=Tryz.sizeOf91
 v77:=Tryz.zeroValue91}
open Go.RowKit Go.Lib Go.Sort
theorem Tryz.cmpEnd (a b c a' b' c':Int) (h: -1000000000≤a∧a≤1000000000) (h': -1000000000≤a'∧a'≤1000000000) (W:World):
  Calls prog 201 #[.agg #[.int .i64 a,.int .i64 b,.int .i64 c],.agg #[.int .i64 a',.int .i64 b',.int .i64 c']] W fun e w'=>e=.returned (.int .i64 (a - a'))∧ ∃q os',w'=grow (W.drewN q) os':=by
 go_enter Tryz.func201,Tryz.ntmps201
 go_wp2
 go_ret
 exact ⟨rfl,0,_,by rw [alloc_eq_grow,alloc_eq_grow,grow_grow];rfl⟩
end Go.Proofs
namespace Go.Am
open IntKind (wrap)
open Go.Proofs.Tryz
open Go.Proofs
inductive rjsS where
 | h0 (v9:List R6) (v10:List R4) (v11:Int) (v12:Int)
 | h1 (v9:List R6) (v10:List R4) (v11:Int) (v12:Int) (v13:List R4) (v15:Int)
 | h2 (v9:List R6) (v10:List R4) (v11:Int) (v12:Int) (v14:Int)
abbrev w3t (l1:List R6) (l2:List R6) (v12:Int):=(rd (Vg (cvT l1) (cvT l2)) (tn v12))
abbrev y9a (v9:List R6) (v14:Int) (l1:List R6) (l2:List R6) (v12:Int):=(v9.set (0+(tn v14)) (R6.mk (rd v9 (0+(tn v14))).a (rd v9 (0+(tn v14))).b (rd v9 (0+(tn v14))).c (rd v9 (0+(tn v14))).d (rd v9 (0+(tn v14))).e (rd (Vg (cvT l1) (cvT l2)) (tn (wr (v12+1))))))
abbrev y8z (v9:List R6) (v13:List R4) (v15:Int) (l1:List R6) (l2:List R6) (v12:Int):=(v9++[(R6.mk (rd v13 (tn v15)).a (rd v13 (tn v15)).b (w3t l1 l2 v12) (rd v13 (tn v15)).c (rd v13 (tn v15)).d (rd (Vg (cvT l1) (cvT l2)) (tn (wr (v12+1)))))])
abbrev Vh (l1:List R6) (l2:List R6) (v12:Int):=(atV (cvT l1) (w3t l1 l2 v12))
abbrev Uf (l2:List R6) (l1:List R6) (v12:Int):=(atV (cvT l2) (w3t l1 l2 v12))
abbrev u6i (v9:List R6) (v13:List R4) (v15:Int) (l1:List R6) (l2:List R6) (v12:Int):=(Zi (Zz v9) 0 v9.length 6 [(ii (rd v13 (tn v15)).a),(ii (rd v13 (tn v15)).b),(ii (w3t l1 l2 v12)),(ii (rd v13 (tn v15)).c),(ii (rd v13 (tn v15)).d),(ii (rd (Vg (cvT l1) (cvT l2)) (tn (wr (v12+1)))))])
def v3r (l1:List R6) (l2:List R6):AVal:=(.dat (Vg (cvT l1) (cvT l2)).length (Zz (Vg (cvT l1) (cvT l2))))
def rjsC (x0:Int) (l1:List R6) (l2:List R6):rjsS→Cfg
 | .h0 v9 v10 v11 v12=>⟨⟨137,0,true⟩,none,(Zd prog 72 [1,1,1,1,1,0,1,0,0] 0),none,(Zy prog 32),⟨Yb [(0,(ii x0)),(1,(.dat l1.length (Zz l1))),(2,(.dat l2.length (Zz l2))),(8,(v3r l1 l2)),(9,(.sla 0 6 0 v9.length (.un 6))),(10,(.dat v10.length (Zz v10))),(11,(ii v11)),(12,(ii v12))],Vb [⟨rows v9.length (Zz v9),67,some ⟨6,v9.length,(Zz v9)⟩⟩] 0,1,[],true⟩,[],.leaf⟩
 | .h1 v9 v10 v11 v12 v13 v15=>⟨⟨137,0,true⟩,none,(Zd prog 72 [1,1,1,1,1,0,1,0,0,1,0,0,1,1,1,1,1,0,0] 0),none,(Zy prog 32),⟨Yb [(0,(ii x0)),(1,(.dat l1.length (Zz l1))),(2,(.dat l2.length (Zz l2))),(8,(v3r l1 l2)),(9,(.sla 0 6 0 v9.length (.un 6))),(10,(.dat v10.length (Zz v10))),(11,(ii v11)),(12,(ii v12)),(13,(.dat v13.length (Zz v13))),(15,(ii v15))],Vb [⟨rows v9.length (Zz v9),67,some ⟨6,v9.length,(Zz v9)⟩⟩] 0,1,[],true⟩,[],.leaf⟩
 | .h2 v9 v10 v11 v12 v14=>⟨⟨137,0,true⟩,none,(Zd prog 72 [1,1,1,1,1,0,1,0,0,1,0,0,1,1,0,1,0,0,1,0,0] 0),none,(Zy prog 32),⟨Yb [(0,(ii x0)),(1,(.dat l1.length (Zz l1))),(2,(.dat l2.length (Zz l2))),(8,(v3r l1 l2)),(9,(.sla 0 6 0 v9.length (.un 6))),(10,(.dat v10.length (Zz v10))),(11,(ii v11)),(12,(ii v12)),(14,(ii v14))],Vb [⟨rows v9.length (Zz v9),67,some ⟨6,v9.length,(Zz v9)⟩⟩] 0,1,[],true⟩,[],.leaf⟩
def j1o :List (Option (List Nat)):=[some [0,1,2,8,9,10,11,12]]
def j1q :List (Option (List Nat)):=[]
def j1n :List (Option (List Nat)):=[some [0,1,2,8,9,10,11,12,13,15]]
def j1p :List (Option (List Nat)):=[]
def rjsN2 :List (Option (List Nat)):=[some [0,1,2,8,9,10,11,12,14]]
def rjsM2 :List (Option (List Nat)):=[]
def Vt (x0:Int) (l1:List R6) (l2:List R6):rjsS→Xp rjsS
 | .h0 v9 v10 v11 v12=>(bif (decide ((wrap .i64 (v12+1))<(((Vg (cvT l1) (cvT l2)).length :Nat):Int))) then (bif (z5z (cvT l1) (rd (Vg (cvT l1) (cvT l2)) v12.toNat)) then (bif ((decide (0≤v12∧v12<(((Vg (cvT l1) (cvT l2)).length :Nat):Int)))&&true) then (bif (z5z (cvT l2) (rd (Vg (cvT l1) (cvT l2)) v12.toNat)) then (bif (z1l x0 (cvT (atV (cvT l1) (rd (Vg (cvT l1) (cvT l2)) v12.toNat))) (cvT (atV (cvT l2) (rd (Vg (cvT l1) (cvT l2)) v12.toNat)))) then (bif (decide ((((joV x0 (cvT (atV (cvT l1) (rd (Vg (cvT l1) (cvT l2)) v12.toNat))) (cvT (atV (cvT l2) (rd (Vg (cvT l1) (cvT l2)) v12.toNat)))).length :Nat):Int)>400)) then (.ret [.nils,(.bool false)]) else (bif (z1l 2 (cvT (atV (cvT l1) (rd (Vg (cvT l1) (cvT l2)) v12.toNat))) ([]:List R4)) then (bif (decide ((((joV 2 (cvT (atV (cvT l1) (rd (Vg (cvT l1) (cvT l2)) v12.toNat))) ([]:List R4)).length :Nat):Int)>400)) then (.ret [.nils,(.bool false)]) else (bif (z1l 2 (cvT (atV (cvT l2) (rd (Vg (cvT l1) (cvT l2)) v12.toNat))) ([]:List R4)) then (bif (decide ((((joV 2 (cvT (atV (cvT l2) (rd (Vg (cvT l1) (cvT l2)) v12.toNat))) ([]:List R4)).length :Nat):Int)>400)) then (.ret [.nils,(.bool false)]) else (bif (decide (v12>0)) then (bif (Wd (cvT (joV x0 (cvT (atV (cvT l1) (rd (Vg (cvT l1) (cvT l2)) v12.toNat))) (cvT (atV (cvT l2) (rd (Vg (cvT l1) (cvT l2)) v12.toNat))))) (cvT v10)) then (bif (Ja (cvT (joV x0 (cvT (atV (cvT l1) (rd (Vg (cvT l1) (cvT l2)) v12.toNat))) (cvT (atV (cvT l2) (rd (Vg (cvT l1) (cvT l2)) v12.toNat))))) (cvT v10)) then (.to (.h2 v9 v10 v11 v12 v11)) else (.to (.h1 v9 (joV x0 (cvT (atV (cvT l1) (rd (Vg (cvT l1) (cvT l2)) v12.toNat))) (cvT (atV (cvT l2) (rd (Vg (cvT l1) (cvT l2)) v12.toNat)))) (v9.length:Int) v12 (joV x0 (cvT (atV (cvT l1) (rd (Vg (cvT l1) (cvT l2)) v12.toNat))) (cvT (atV (cvT l2) (rd (Vg (cvT l1) (cvT l2)) v12.toNat)))) 0))) else .stuck) else (.to (.h1 v9 (joV x0 (cvT (atV (cvT l1) (rd (Vg (cvT l1) (cvT l2)) v12.toNat))) (cvT (atV (cvT l2) (rd (Vg (cvT l1) (cvT l2)) v12.toNat)))) (v9.length:Int) v12 (joV x0 (cvT (atV (cvT l1) (rd (Vg (cvT l1) (cvT l2)) v12.toNat))) (cvT (atV (cvT l2) (rd (Vg (cvT l1) (cvT l2)) v12.toNat)))) 0)))) else .stuck)) else .stuck)) else .stuck) else .stuck) else .stuck) else .stuck) else (.ret [(.dat v9.length (Zz v9)),(.bool (decide ((v9.length:Int)≤400)))]))
 | .h1 v9 v10 v11 v12 v13 v15=>(bif (decide (v15<(v13.length:Int))) then (bif ((decide (0≤v12∧v12<(((Vg (cvT l1) (cvT l2)).length :Nat):Int)))&&true) then (bif ((decide (0≤v15∧v15<(v13.length:Int)))&&true) then (bif ((decide (0≤(wrap .i64 (v12+1))∧(wrap .i64 (v12+1))<(((Vg (cvT l1) (cvT l2)).length :Nat):Int)))&&true) then (bif (Nat.beq 6 6&&((decide (0+v9.length=v9.length))&&decide ((v9.length+1+1)*(48+1)≤Jd))) then (.to (.h1 (v9++[(R6.mk (rd v13 v15.toNat).a (rd v13 v15.toNat).b (rd (Vg (cvT l1) (cvT l2)) v12.toNat) (rd v13 v15.toNat).c (rd v13 v15.toNat).d (rd (Vg (cvT l1) (cvT l2)) (Int.toNat (wrap .i64 (v12+1)))))]) v10 v11 v12 v13 (wrap .i64 (v15+1)))) else .stuck) else .stuck) else .stuck) else .stuck) else (.to (.h0 v9 v10 v11 (wrap .i64 (v12+1)))))
 | .h2 v9 v10 v11 v12 v14=>(bif (decide (v14<(v9.length:Int))) then (bif ((decide (0≤(wrap .i64 (v12+1))∧(wrap .i64 (v12+1))<(((Vg (cvT l1) (cvT l2)).length :Nat):Int)))&&true) then (bif ((decide (0≤v14∧v14<(v9.length:Int)))&&true) then (bif (decide ((0+v14.toNat)<v9.length)) then (.to (.h2 (v9.set (0+v14.toNat) (R6.mk (rd v9 (0+v14.toNat)).a (rd v9 (0+v14.toNat)).b (rd v9 (0+v14.toNat)).c (rd v9 (0+v14.toNat)).d (rd v9 (0+v14.toNat)).e (rd (Vg (cvT l1) (cvT l2)) (Int.toNat (wrap .i64 (v12+1)))))) v10 v11 v12 (wrap .i64 (v14+1)))) else .stuck) else .stuck) else .stuck) else (.to (.h0 v9 v10 v11 (wrap .i64 (v12+1)))))
def y2x (x0:Int) (l1:List R6) (l2:List R6):Xp rjsS:=(bif (z8z (cvT l1) (cvT l2)) then (.to (.h0 ([]:List R6) ([]:List R4) 0 0)) else .stuck)
theorem w8e (x0:Int) (l1:List R6) (l2:List R6): ∀s,Yr prog (Zy prog 72) (rjsC x0 l1 l2) (rjsC x0 l1 l2 s) (Vt x0 l1 l2 s)
 | .h0 v9 v10 v11 v12=>(lb (fun k0=>(lo fun aG=>(lo fun bF=>(lo fun cD=>(lo fun cZ=>(lb (fun k1=>(lr 137 72 [1,1,1,1,1,0,1,0,0,1,0,0,1,0,1,0,0] 1 32 [(6,.nils),(7,(.bool false))] (sl y0y 50 [] ⟨[],[],[some [6,7]],[]⟩ ⟨[],[],[]⟩ (trs 20 []) (tt k1 (pp (pp (xI R4 (Vh l1 l2 v12).length (Zz (Vh l1 l2 v12))) (pp (xI R4 (Uf l2 l1 v12).length (Zz (Uf l2 l1 v12))) (xw cZ))) (pp (pp (xr l2) (xw cD)) (ww bF (pp (pp (xr l1) (xw aG)) (ww bF (tt k0 nn)))))))))) (fun k1=>(lo fun cH=>(lb (fun k2=>(lr 137 72 [1,1,1,1,1,0,1,0,0,1,0,0,1,0,1,0,0] 1 32 [(6,.nils),(7,(.bool false))] (sl y0y 50 [] ⟨[],[],[some [6,7]],[]⟩ ⟨[],[],[]⟩ (bl 20 1047553) (tt k2 (pp (pp (xI R4 (Vh l1 l2 v12).length (Zz (Vh l1 l2 v12))) (pp (xI R4 0 (fun _=>[])) (xw cH))) (pp (pp (xr l1) (xw aG)) (ww bF (tt k1 (pp (pp (xI R4 (Vh l1 l2 v12).length (Zz (Vh l1 l2 v12))) (pp (xI R4 (Uf l2 l1 v12).length (Zz (Uf l2 l1 v12))) (xw cZ))) (pp (pp (xr l2) (xw cD)) (ww bF (pp (pp (xr l1) (xw aG)) (ww bF (tt k0 nn)))))))))))))) (fun k2=>(lo fun cJ=>(lb (fun k3=>(lr 137 72 [1,1,1,1,1,0,1,0,0,1,0,0,1,0,1,0,0] 1 32 [(6,.nils),(7,(.bool false))] (sl y0y 50 [] ⟨[],[],[some [6,7]],[]⟩ ⟨[],[],[]⟩ (bl 20 524289) (tt k3 (pp (pp (xI R4 (Uf l2 l1 v12).length (Zz (Uf l2 l1 v12))) (pp (xI R4 0 (fun _=>[])) (xw cJ))) (pp (pp (xr l2) (xw cD)) (ww bF (tt k2 (pp (pp (xI R4 (Vh l1 l2 v12).length (Zz (Vh l1 l2 v12))) (pp (xI R4 0 (fun _=>[])) (xw cH))) (pp (pp (xr l1) (xw aG)) (ww bF (tt k1 (pp (pp (xI R4 (Vh l1 l2 v12).length (Zz (Vh l1 l2 v12))) (pp (xI R4 (Uf l2 l1 v12).length (Zz (Uf l2 l1 v12))) (xw cZ))) (pp (pp (xr l2) (xw cD)) (ww bF (pp (pp (xr l1) (xw aG)) (ww bF (tt k0 nn)))))))))))))))))) (fun k3=>(lb (fun k4=>(lo fun cE=>(lb (fun k5=>(sl y0y 66 [] ⟨[0],[],rjsN2,rjsM2⟩ ⟨[],[],[]⟩ (bl 24 15728641) (pp (fl v9 nn) (tt k5 (pp (pp (xI R4 (joV x0 (cvT (Vh l1 l2 v12)) (cvT (Uf l2 l1 v12))).length (Zz (joV x0 (cvT (Vh l1 l2 v12)) (cvT (Uf l2 l1 v12))))) (pp (xr v10) (xw cE))) (tt k4 (tt k3 (pp (pp (xI R4 (Uf l2 l1 v12).length (Zz (Uf l2 l1 v12))) (pp (xI R4 0 (fun _=>[])) (xw cJ))) (pp (pp (xr l2) (xw cD)) (ww bF (tt k2 (pp (pp (xI R4 (Vh l1 l2 v12).length (Zz (Vh l1 l2 v12))) (pp (xI R4 0 (fun _=>[])) (xw cH))) (pp (pp (xr l1) (xw aG)) (ww bF (tt k1 (pp (pp (xI R4 (Vh l1 l2 v12).length (Zz (Vh l1 l2 v12))) (pp (xI R4 (Uf l2 l1 v12).length (Zz (Uf l2 l1 v12))) (xw cZ))) (pp (pp (xr l2) (xw cD)) (ww bF (pp (pp (xr l1) (xw aG)) (ww bF (tt k0 nn))))))))))))))))))))) (fun k5=>(sl y0y 73 [] ⟨[0],[],j1n,j1p⟩ ⟨[],[],[]⟩ (bl 24 7340033) (pp (fl v9 nn) (tt k5 (pp (pp (xI R4 (joV x0 (cvT (Vh l1 l2 v12)) (cvT (Uf l2 l1 v12))).length (Zz (joV x0 (cvT (Vh l1 l2 v12)) (cvT (Uf l2 l1 v12))))) (pp (xr v10) (xw cE))) (tt k4 (tt k3 (pp (pp (xI R4 (Uf l2 l1 v12).length (Zz (Uf l2 l1 v12))) (pp (xI R4 0 (fun _=>[])) (xw cJ))) (pp (pp (xr l2) (xw cD)) (ww bF (tt k2 (pp (pp (xI R4 (Vh l1 l2 v12).length (Zz (Vh l1 l2 v12))) (pp (xI R4 0 (fun _=>[])) (xw cH))) (pp (pp (xr l1) (xw aG)) (ww bF (tt k1 (pp (pp (xI R4 (Vh l1 l2 v12).length (Zz (Vh l1 l2 v12))) (pp (xI R4 (Uf l2 l1 v12).length (Zz (Uf l2 l1 v12))) (xw cZ))) (pp (pp (xr l2) (xw cD)) (ww bF (pp (pp (xr l1) (xw aG)) (ww bF (tt k0 nn)))))))))))))))))))))))) (fun k4=>(sl y0y 73 [] ⟨[0],[],j1n,j1p⟩ ⟨[],[],[]⟩ (bl 24 1) (pp (fl v9 nn) (tt k4 (tt k3 (pp (pp (xI R4 (Uf l2 l1 v12).length (Zz (Uf l2 l1 v12))) (pp (xI R4 0 (fun _=>[])) (xw cJ))) (pp (pp (xr l2) (xw cD)) (ww bF (tt k2 (pp (pp (xI R4 (Vh l1 l2 v12).length (Zz (Vh l1 l2 v12))) (pp (xI R4 0 (fun _=>[])) (xw cH))) (pp (pp (xr l1) (xw aG)) (ww bF (tt k1 (pp (pp (xI R4 (Vh l1 l2 v12).length (Zz (Vh l1 l2 v12))) (pp (xI R4 (Uf l2 l1 v12).length (Zz (Uf l2 l1 v12))) (xw cZ))) (pp (pp (xr l2) (xw cD)) (ww bF (pp (pp (xr l1) (xw aG)) (ww bF (tt k0 nn))))))))))))))))))))))))))))))))) (fun k0=>(lr 137 3 [1,1,1,1,1,1,1,0] 1 32 [(6,(.dat v9.length (Zz v9))),(7,(.bool (decide ((v9.length:Int)≤400))))] (sl y0y 20 [] ⟨[],[0],[some [6,7]],[]⟩ ⟨[(6,.frz v9.length v9.length (Zz v9) (Zz v9))],[],[]⟩ [false] (pp (xZ (z6j 6 6 0 v9.length v9.length (Zz v9)) v9.length (Zz v9)) (pp (xL v9.length v9.length) (pp (xS v9.length (Zz v9) (Zz v9)) (pp (fl v9 nn) (tt k0 nn)))))))))
 | .h1 v9 v10 v11 v12 v13 v15=>(lb (fun k0=>(lo fun o0=>(lo fun o1=>(lo fun o2=>(lo fun o3=>(sl y0y 20 [] ⟨[2],[],j1n,j1p⟩ ⟨[(9,.len (y8z v9 v13 v15 l1 l2 v12).length)],[.rowed 6 (y8z v9 v13 v15 l1 l2 v12).length (Zz (y8z v9 v13 v15 l1 l2 v12))],[]⟩ [true] (pp (xL (v9.length+1) (y8z v9 v13 v15 l1 l2 v12).length) (pp (xL (v9.length+1) (y8z v9 v13 v15 l1 l2 v12).length) (pp (xS (v9.length+1) (u6i v9 v13 v15 l1 l2 v12) (Zz (y8z v9 v13 v15 l1 l2 v12))) (pp (pp (xF (u6i v9 v13 v15 l1 l2 v12)) nn) (ww o3 (ww o2 (ww o1 (ww o1 (ww o0 (ww o1 (ww o1 (tt k0 nn)))))))))))))))))) (fun k0=>(sl y0y 17 [] ⟨[0],[],j1o,j1q⟩ ⟨[],[],[]⟩ [false] (pp (fl v9 nn) (tt k0 nn)))))
 | .h2 v9 v10 v11 v12 v14=>(lb (fun k0=>(lo fun o0=>(lo fun o1=>(lo fun o2=>(sl y0y 32 [] ⟨[0],[],rjsN2,rjsM2⟩ ⟨[(9,.len (y9a v9 v14 l1 l2 v12).length)],[.rowed 6 (y9a v9 v14 l1 l2 v12).length (Zz (y9a v9 v14 l1 l2 v12))],[]⟩ [true] (pp (xL v9.length (y9a v9 v14 l1 l2 v12).length) (pp (xL v9.length (y9a v9 v14 l1 l2 v12).length) (pp (xS v9.length (Xi (Zz v9) (0+(tn v14)) 5 [(ii (rd (Vg (cvT l1) (cvT l2)) (tn (wr (v12+1)))))]) (Zz (y9a v9 v14 l1 l2 v12))) (pp (pp (xF (Xi (Zz v9) (0+(tn v14)) 5 [(ii (rd (Vg (cvT l1) (cvT l2)) (tn (wr (v12+1)))))])) nn) (ww o2 (ww o1 (ww o0 (tt k0 nn))))))))))))) (fun k0=>(sl y0y 17 [] ⟨[0],[],j1o,j1q⟩ ⟨[],[],[]⟩ [false] (pp (fl v9 nn) (tt k0 nn)))))
theorem x8l (x0:Int) (l1:List R6) (l2:List R6):Yr prog (Zy prog 72) (rjsC x0 l1 l2) (Zb prog 72 [(.int .i64 x0),(.dat l1.length (Zz l1)),(.dat l2.length (Zz l2))] true []) (y2x x0 l1 l2):=(lo fun o0=>(sl y0y 31 [(67,6,Zz ([]:List R6))] ⟨[0],[],j1o,j1q⟩ ⟨[(9,.grow 0 6),(10,.list 0 (Zz ([]:List R4)))],[],[]⟩ [] (pp (fl ([]:List R6) nn) (pp (pp (xr l1) (pp (xr l2) (xw o0))) nn))))
theorem u0j (x0:Int) (l1:List R6) (l2:List R6) (n:Nat) (vs:List AVal) (h:Yz (Vt x0 l1 l2) n (y2x x0 l1 l2)=.ret vs):Ji prog (Zy prog 72) (Zb prog 72 [(.int .i64 x0),(.dat l1.length (Zz l1)),(.dat l2.length (Zz l2))] true []) vs:=by have:=Ze (w8e x0 l1 l2) n _ (x8l x0 l1 l2);rwa [h] at this
theorem Qx (l m:List R6):(Vg l m).length ≤2*l.length+2*m.length:=by refine AG (z6p _) ?_;rw [Az,z0y,z0y];omega
theorem z2q (l:List R6) (z:Int):(atV l z).length ≤l.length:=by unfold atV;rw [A3];exact BU _ _
def v9b (out:List R6) (first:Nat) (z:Int):List R6:=out.take first++(out.drop first).map fun r=>⟨r.a,r.b,r.c,r.d,r.e,z⟩
def j2l (z z':Int) (s:List R4):List R6:=s.map fun p=>⟨p.a,p.b,z,p.c,p.d,z'⟩
section
variable (kind:Int) (l m:List R6)
def x3q (z:Int):List R4:=joV kind (atV l z) (atV m z)
def y1y (z:Int):Bool:=decide (400<(x3q kind l m z).length)||(decide (400<(joV 2 (atV l z) []).length)||decide (400<(joV 2 (atV m z) []).length))
def jsF :Nat→Nat→List R6→List R4→Nat→Option (List R6)
 | 0,_,out,_,_=>some out
 | k+1,i,out,last,first=>
  bif y1y kind l m (rd (Vg l m) i) then none
  else bif decide (0<i)&&Ja (x3q kind l m (rd (Vg l m) i)) last then jsF k (i+1) (v9b out first (rd (Vg l m) (i+1))) last first
  else jsF k (i+1) (out++j2l (rd (Vg l m) i) (rd (Vg l m) (i+1)) (x3q kind l m (rd (Vg l m) i))) (x3q kind l m (rd (Vg l m) i)) out.length
def jsO :Option (List R6):=jsF kind l m ((Vg l m).length - 1) 0 [] [] 0
def w0m :Option (List R6)→List AVal
 | none=>[.nils,.bool false]
 | some out=>[.dat out.length (Zz out),.bool (decide ((out.length:Int)≤400))]
def z7a :List R6:=(jsO kind l m).getD []
def x5q :Bool:=match jsO kind l m with
 | none=>false
 | some out=>decide ((out.length:Int)≤400)
end
def y3q (_:Int) (l m:List R6):Bool:=decide (l.length≤5000∧m.length≤5000)
section
variable (kind:Int) (l m:List R6) (hl:l.length≤5000) (hm:m.length≤5000)
include hl hm
theorem u6h (last:List R4) (first:Int) (i:Nat) (hi:i+1<(Vg l m).length) (s:List R4) (hs:s.length≤1000000): ∀(k j:Nat) (out:List R6),j+k=s.length→out.length≤10000000000+j→
  ∃n,∀N,Yz (Vt kind l m) (N+n) (.to (.h1 out last first (i:Int) s (j:Int)))=Yz (Vt kind l m) N (.to (.h0 (out++j2l (rd (Vg l m) i) (rd (Vg l m) (i+1)) (s.drop j)) last first ((i+1:Nat):Int)))
 | 0,j,out,h,ho=>by have hx:=Qx l m;refine ⟨1,fun N=> ?_⟩;rw [Av (by omega),Zv];simp (disch:=omega) only [Vt,Zm,Zk,Yx,Zq,Zx,Aa,j2l,Ba,AB]
 | k+1,j,out,h,ho=>by
  have hx:=Qx l m;obtain ⟨n,hn⟩:=u6h last first i hi s hs k (j+1) (out++j2l (rd (Vg l m) i) (rd (Vg l m) (i+1)) [rd s j]) (by omega) (by simp [j2l];omega)
  refine ⟨n+1,fun N=> ?_⟩;have:=hn N;rw [Yq (show j<s.length by omega),←AE,Zv];simp (disch:=omega) only [Vt,Zm,Zk,Zs,Zt,Yd,Ym,Zh,Zq,Zx,Ya,Zj,Ag,Aw,Ai,An,Ab];rw [AM] at this;exact this
omit hl hm in
theorem u3r (out:List R6) (j:Nat) (x:Int) (h:j<out.length):v9b (out.set j ⟨(rd out j).a,(rd out j).b,(rd out j).c,(rd out j).d,(rd out j).e,x⟩) (j+1) x=v9b out j x:=by
 unfold v9b;rw [Yq h,AW];have e1:(out.set j ⟨(rd out j).a,(rd out j).b,(rd out j).c,(rd out j).d,(rd out j).e,x⟩).take (j+1)=out.take j++[⟨(rd out j).a,(rd out j).b,(rd out j).c,(rd out j).d,(rd out j).e,x⟩]:=by
  apply Ch
  ·simp;omega
  ·intro n h1 h2;simp only [Bo,List.getElem_set];by_cases e:j=n
   ·subst e;rw [Au rfl,BH (by simp only [Bm];omega)];simp
   ·rw [Ao e,By (by simp at h1 ⊢;omega),Bo]
 have e2:(out.set j ⟨(rd out j).a,(rd out j).b,(rd out j).c,(rd out j).d,(rd out j).e,x⟩).drop (j+1)=out.drop (j+1):=by rw [List.drop_set];rw [Au (by omega)]
 rw [e1,e2,AM];rfl
theorem u6g (last:List R4) (first:Int) (i:Nat) (hi:i+1<(Vg l m).length): ∀(k j:Nat) (out:List R6),j+k=out.length→out.length≤10000000000→
  ∃n,∀N,Yz (Vt kind l m) (N+n) (.to (.h2 out last first (i:Int) (j:Int)))=Yz (Vt kind l m) N (.to (.h0 (v9b out j (rd (Vg l m) (i+1))) last first ((i+1:Nat):Int)))
 | 0,j,out,h,ho=>by
  have hx:=Qx l m;refine ⟨1,fun N=> ?_⟩;have e:v9b out j (rd (Vg l m) (i+1))=out:=by unfold v9b;rw [Av (by omega),Ba,AB,AU (by omega)]
  rw [e,Zv];simp (disch:=omega) only [Vt,Zm,Zk,Yx,Zq,Zx,Aa]
 | k+1,j,out,h,ho=>by
  have hx:=Qx l m;obtain ⟨n,hn⟩:=u6g last first i hi k (j+1) (out.set j ⟨(rd out j).a,(rd out j).b,(rd out j).c,(rd out j).d,(rd out j).e,rd (Vg l m) (i+1)⟩) (by simp;omega) (by simpa using ho)
  refine ⟨n+1,fun N=> ?_⟩;have:=hn N;rw [u3r out j _ (by omega)] at this;rw [←AE,Zv];simp (disch:=omega) only [Vt,Zm,Zk,Zs,Zt,Yj,Yd,Ym,Zh,Zq,Zx,Ya,Zj,Ag,Aw,Ai,An,Ab];exact this
theorem v3q : ∀(k i:Nat) (out:List R6) (last:List R4) (first:Nat),k=(Vg l m).length - 1 - i→i≤(Vg l m).length →out.length≤i*400→last.length≤400→first≤out.length→
  ∃n,Yz (Vt kind l m) n (.to (.h0 out last (first:Int) (i:Int)))=.ret (w0m (jsF kind l m k i out last first))
 | 0,i,out,last,first,h,hi,ho,hla,hf=>by have hx:=Qx l m;refine ⟨1,?_⟩;rw [Zv];simp (disch:=omega) only [Vt,Zm,Zk,Yx,Zq,Zx,Aa,Za,jsF,w0m]
 | k+1,i,out,last,first,h,hi,ho,hla,hf=>by
  have hx:=Qx l m;have hi1:i+1<(Vg l m).length :=by omega
  have hbig:i*400≤20000*400:=AK _ (by omega);have a1:=fun z=>z2q l z;have a2:=fun z=>z2q m z;have w1: ∀z,z5z l z=true:=fun z=>Ah (by omega);have w2: ∀z,z5z m z=true:=fun z=>Ah (by omega);have w3: ∀k z,z1l k (atV l z) (atV m z)=true:=fun k z=>Ah (by have:=a1 z;have:=a2 z;omega);have w4: ∀k z,z1l k (atV l z) ([]:List R4)=true:=fun k z=>Ah (by have:=a1 z;simp;omega);have w5: ∀k z,z1l k (atV m z) ([]:List R4)=true:=fun k z=>Ah (by have:=a2 z;simp;omega);unfold jsF;have eN:x3q kind l m (rd (Vg l m) i)=joV kind (atV l (rd (Vg l m) i)) (atV m (rd (Vg l m) i)):=rfl;by_cases c1:400<(x3q kind l m (rd (Vg l m) i)).length
  ·refine ⟨1,?_⟩;have hb:y1y kind l m (rd (Vg l m) i)=true:=by unfold y1y;rw [Ah c1];rfl
   rw [hb,Ab,Zv];rw [eN] at c1;simp (disch:=omega) only [Vt,Zm,Zk,Zs,Yn,Zt,Zq,Zx,Zj,w1,w2,w3,w4,w5,Ai,Ab,Za,w0m]
  by_cases c2:400<(joV 2 (atV l (rd (Vg l m) i)) []).length
  ·refine ⟨1,?_⟩;have hb:y1y kind l m (rd (Vg l m) i)=true:=by unfold y1y;rw [Ah c2,Bool.true_or,Bool.or_true]
   rw [hb,Ab,Zv];rw [eN] at c1;simp (disch:=omega) only [Vt,Zm,Zk,Zs,Yn,Xa,Zt,Zq,Zx,Zj,w1,w2,w3,w4,w5,Ai,Ab,Aa,Za,w0m]
  by_cases c3:400<(joV 2 (atV m (rd (Vg l m) i)) []).length
  ·refine ⟨1,?_⟩;have hb:y1y kind l m (rd (Vg l m) i)=true:=by unfold y1y;rw [Ah c3,Bool.or_true,Bool.or_true]
   rw [hb,Ab,Zv];rw [eN] at c1;simp (disch:=omega) only [Vt,Zm,Zk,Zs,Yn,Xa,Zt,Zq,Zx,Zj,w1,w2,w3,w4,w5,Ai,Ab,Aa,Za,w0m]
  have hb:y1y kind l m (rd (Vg l m) i)=false:=by unfold y1y;rw [Ay c1,Ay c2,Ay c3];rfl
  rw [hb,Aa];have w6:Wd (joV kind (atV l (rd (Vg l m) i)) (atV m (rd (Vg l m) i))) last=true:=Ah (by rw [←eN];omega);rcases Yp (decide (0<i)&&Ja (x3q kind l m (rd (Vg l m) i)) last) with q | q
  ·obtain ⟨n3,h3⟩:=u6g kind l m hl hm last first i hi1 (out.length - first) first out (by omega) (by omega)
   obtain ⟨n0,h0⟩:=v3q k (i+1) (v9b out first (rd (Vg l m) (i+1))) last first (by omega) (by omega) (by simp [v9b];omega) hla (by simp [v9b];omega)
   refine ⟨n0+n3+1,?_⟩;rw [q,Ab,Zv];simp only [Ac,Al] at q;obtain ⟨q1,q2⟩:=q;rw [eN] at c1 q2;simp (disch:=omega) only [Vt,Zm,Zk,Zs,Yn,Xa,Zt,Zq,Zx,Zj,w1,w2,w3,w4,w5,w6,q2,Ai,Ab,Aa];rw [h3 n0,h0]
  ·obtain ⟨n2,h2⟩:=u6h kind l m hl hm (x3q kind l m (rd (Vg l m) i)) (out.length:Int) i hi1 (x3q kind l m (rd (Vg l m) i)) (by omega) (x3q kind l m (rd (Vg l m) i)).length 0 out (Ag _) (by omega);obtain ⟨n0,h0⟩:=v3q k (i+1) (out++j2l (rd (Vg l m) i) (rd (Vg l m) (i+1)) (x3q kind l m (rd (Vg l m) i))) (x3q kind l m (rd (Vg l m) i)) out.length (by omega) (by omega) (by simp [j2l];omega) (by omega) (by simp);refine ⟨n0+n2+1,?_⟩;rw [q,Aa,Zv];have h2':=h2 n0;simp only [A0,z3r] at h2';have c1':=c1;rw [eN] at c1';by_cases hi0:0<i
   ·rw [Ah hi0,An,eN] at q;simp (disch:=omega) only [Vt,Zm,Zk,Zs,Yn,Xa,Zt,Zq,Zx,Zj,w1,w2,w3,w4,w5,w6,q,Ai,Ab,Aa];rw [←h0];exact h2'
   ·simp (disch:=omega) only [Vt,Zm,Zk,Zs,Yn,Xa,Zt,Zq,Zx,Zj,w1,w2,w3,w4,w5,w6,Ai,Ab,Aa];rw [←h0];exact h2'
end
theorem j1m (kind:Int) (l m:List R6) (h:y3q kind l m=true): ∃N,Yz (Vt kind l m) N (y2x kind l m)=.ret (w0m (jsO kind l m)):=by obtain ⟨hl,hm⟩:=AF h;obtain ⟨N,hN⟩:=v3q kind l m hl hm ((Vg l m).length - 1) 0 [] [] 0 rfl (AJ _) (AJ _) (AJ _) (Aq _);refine ⟨N,?_⟩;have w1:z8z l m=true:=Ah ⟨by omega,by omega⟩;simp only [y2x,Zm,Zk,w1,Ab];exact hN
def fJs :List AVal→Option (AVal×Bool)
 | [.int .i64 x0,a1,a2]=>match asL R6 a1,asL R6 a2 with
  | some (L1,g1,n1),some (L2,g2,n2)=>some (.tup [.dat (z7a x0 L1 L2).length (Zz (z7a x0 L1 L2)),.bool (x5q x0 L1 L2)],isT R6 n1 g1&&(isT R6 n2 g2&&(y3q x0 L1 L2)))
  | _,_=>none
 | _=>none
theorem fJs_ok {S:Specs} (hS:Zu prog S):Zu prog (S.with u7x fJs):=by
 refine v1m hS (by kernel_rfl) fun args v h=> ?_;unfold fJs at h;split at h
 ·rename_i x0 a1 a2;split at h
  ·rename_i L1 g1 n1 L2 g2 n2 e1 e2;simp only [Ae,Ad,Ac] at h;obtain ⟨rfl,ho1,ho2,hw⟩:=h;obtain ⟨N,hN⟩:=j1m x0 L1 L2 hw;refine ⟨_,w0m (jsO x0 L1 L2),(.cons (.refl _) (.cons (asL_le e1 ho1) (.cons (asL_le e2 ho2) .nil))),?_,u0j x0 L1 L2 N _ hN,3,?_⟩
   ·unfold z7a x5q;cases jsO x0 L1 L2 with
    | none=>exact fun ρ u hu=>z1u (.cons (z6x R6) (RLe.refl _)) ρ u hu
    | some out=>exact fun ρ u hu=>hu
   ·cases jsO x0 L1 L2 <;> rfl
  ·cases h
 ·cases h
def T4 :Specs:=T3.with u7x fJs
theorem T4_ok :Zu prog T4:=fJs_ok y0y
open Go.Sort Go.Shelf Go.RowKit Go.Lib
def j6j (x:E3):List Value:=x0p x.1
theorem j6i (l:List R3) (h:y2a l=true):Go.Sort.flatK j6j 3 (x3s l h).toArray =Go.Sort.flatK x0p 3 l.toArray:=by
 have hl:=Qw l h;unfold Go.Sort.flatK;rw [show (x3s l h).toArray.size =l.toArray.size by simpa using hl];apply Array.ext
 ·simp
 ·intro t h1 h2;simp only [Array.getElem_map,Array.getElem_range];have ht:t<l.length*3:=by simpa using h1
  have hq:t / 3<l.length:=by omega
  congr 1
  rw [BW (x3s l h).toArray (t / 3) (by simpa [hl] using hq),BW l.toArray (t / 3) (by simpa using hq)];unfold j6j
  congr 1
  have:=y4d l h;have e:=AY (fun z:List R3=>z[t / 3]?) this;simp only [List.getElem?_map] at e;rw [As (by rw [hl];exact hq),As hq] at e
  simpa using e
theorem u3f (d:Array E3):Go.Sort.flatK j6j 3 d=Go.Sort.flatK x0p 3 (d.toList.map Subtype.val).toArray :=by
 unfold Go.Sort.flatK;rw [show d.size=(d.toList.map Subtype.val).toArray.size by simp];apply Array.ext
 ·simp
 ·intro t h1 h2;simp only [Array.getElem_map,Array.getElem_range];have ht:t<d.size*3:=by simpa using h1
  have hq:t / 3<d.size:=by omega
  congr 1
  rw [BW d (t / 3) hq,BW (d.toList.map Subtype.val).toArray (t / 3) (by simpa using hq)];simp [j6j]
theorem z8i (l:List R3):x2i l.length (z1d (cvT l)).length =true:=Vu (by
 rw [Zm];by_cases h:y2a l=true
 ·exact (Qp l h).1.length_eq.symm
 ·unfold z1d;rw [dif_neg h])
theorem isAgg3 : ∀w,(isAgg (Tryz.sortEnd_ren.t 24)).run prog w=.ok true w:=fun w=>by rfl
theorem size3 : ∀w,(Go.sizeOf (Tryz.sortEnd_ren.t 24)).run prog w=.ok 3 w:=fun w=>by rfl
theorem v2m :x6x prog u7o (w6e R3 z1d y2a w4u):=by
 refine v7o (fun L=> ?_) (fun blk off cap L w hb hH eU hsz=> ?_) fun p cap fv w=>AnyF.slices_SortFunc_none Tryz.sortEnd p cap fv w
 ·by_cases h:y2a L=true
  ·exact (Qp L h).1.length_eq
  ·unfold z1d;rw [dif_neg h]
 ·have eg: ∀args w,(callFunc 201 args).run prog w=.ok (.enter 201 args) w:=enters_of Tryz.func201 (by kernel_rfl) rfl;have hcmp:CmpLays prog 201 #[] j6j 3 cf3 blk off (x3s L hb).toArray.size w:=fun m os dk _ x y=>by have hx:=AF x.2;have hy:=AF y.2;exact Tryz.cmpEnd x.1.a x.1.b x.1.c y.1.a y.1.b y.1.c hx hy _
  have hH':HoldsK j6j 3 w blk off (x3s L hb).toArray :=by unfold HoldsK;rw [j6i L hb];exact hH
  have hcon:=AnyQ.slices_SortFunc_eq Tryz.sortEnd 3 isAgg3 size3 j6j (fun x=>y6k x.1) (fun x v hv=>by
   obtain ⟨a,ha,rfl⟩:=AO.1 hv;have:w0o a=true:=At.1 (u9u.num x.1) a ha;cases a <;> first | rfl | (simp [w0o] at this;done)) cf3 swo3 201 #[] blk off cap (x3s L hb).toArray w eg hcmp hH' eU (by simpa [Qw] using hsz)
  have hs:(x3s L hb).toArray.size =L.length:=by simp [Qw]
  rw [hs] at hcon;refine Calls.mono hcon fun e w' ⟨he,n,os,hw⟩=>⟨he,n,os,?_⟩
  rw [hw];unfold sortWorldK putRowK;rw [u3f];unfold z1d;rw [dif_pos hb];rfl
def Xu (zs:List Int):List Int:=zs.mergeSort fun x y=>decide (x≤y)
theorem v2l :x6x prog nSort (fRow Xu):=
 j6k (fun zs=>List.length_mergeSort zs) (fun blk off cap zs w hH hb hz=>Tryz.slices_Sort_int blk off cap zs w hH hb hz) fun p cap w=>Tryz.slices_Sort_int_none p cap w
def Wr (zs:List Int):List Int:=compact zs++List.replicate (zs.length - (compact zs).length) 0
def v1n (zs:List Int):Nat:=(compact zs).length
theorem Jw (zs:List Int):(Wr zs).length =zs.length:=by have:=compact_length_le zs;simp [Wr];omega
theorem z2l (n:Nat) (c:Nat→Int):x2i n (Wr (Yy n c)).length =true:=Vu (by rw [Jw];simp [Yy])
theorem v6r (w:World):grow w #[]=w:=by simp [grow]
theorem w2d :x6x prog w4v (fCut Wr v1n):=
 j6l (fun zs=>by have:=compact_length_le zs;simp [Wr];omega) (fun zs=>compact_length_le zs)
  (fun blk off cap zs w hH hb hz dL=>(Tryz.slices_Compact_int blk off cap zs w hH (by omega) dL).mono fun e w' ⟨he,q,hw⟩=>⟨he,q, #[],by rw [hw,v6r];rfl⟩)
  fun p cap w=>Tryz.slices_Compact_int_empty p cap w
def T5 :Specs:=((T4.withE u7o (w6e R3 z1d y2a w4u)).withE nSort (fRow Xu)).withE w4v (fCut Wr v1n)
theorem z0h :Zu prog T5:=x0z (x0z (x0z T4_ok (by kernel_rfl) v2m) (by kernel_rfl) v2l) (by kernel_rfl) w2d
-- h2: index into an array (choices [true, true, false, false])
-- h2: index into an array (choices [true, false, true, false, false])
-- h2: index into an array (choices [true, false, false, true, true, false, false])
-- h2: index into an array (choices [true, false, false, true, false, false, false])
-- h2: index into an array (choices [true, false, false, false, false, false])
inductive spmS where
 | h0 (v8:Int)
 | h1 (v3:List R3) (v17:Int)
 | h2 (v5:List R3) (v6:Int) (v7:Int) (aA:Int) (aO:Int) (aU:Int) (aF:Bool) (aC:List R2)
abbrev Ug (aC:List R2) (aU:Int) (v5:List R3) (v7:Int):=(aC++[(R2.mk aU (rd v5 (0+(tn v7))).a)])
abbrev y1e (aC:List R2) (aU:Int) (v5:List R3) (v7:Int):=(Zi (Zz aC) 0 aC.length 2 [(ii aU),(ii (rd v5 (0+(tn v7))).a)])
abbrev y8j (v3:List R3) (l0:List R2) (v17:Int):=(v3++[(R3.mk (rd l0 (tn v17)).a 0 1),(R3.mk (rd l0 (tn v17)).b 0 (-1))])
def u4z (l0:List R2):AFr:=⟨⟨11,0,true⟩,(Jb prog 157 [1,1,1,0] 1),(Zd prog 157 [1,1,1,0] 1),none,(Zy prog 15),Yb [(9,(.dat l0.length (Zz l0)))]⟩
def spmC (l0:List R2):spmS→Cfg
 | .h0 v8=>⟨⟨19,0,true⟩,none,(Zd prog 195 [1,0,1,0,0] 0),none,(Zy prog 5),⟨Yb [(0,(.dat l0.length (Zz l0))),(1,(.fn 184 [])),(7,(ii (l0.length:Int))),(8,(ii v8))],Vb [] 0,0,[],true⟩,[⟨⟨9,0,true⟩,(Jb prog 183 [1,0] 2),(Zd prog 183 [1,0] 1),none,(Zy prog 5),Yb [(5,(.dat l0.length (Zz l0))),(6,(.fn 184 []))]⟩,⟨⟨11,0,true⟩,(Jb prog 157 [1,1,0,0] 1),(Zd prog 157 [1,1,0,0] 1),none,(Zy prog 15),Yb [(0,(.dat l0.length (Zz l0))),(7,(.dat l0.length (Zz l0)))]⟩],.leaf⟩
 | .h1 v3 v17=>⟨⟨38,0,true⟩,none,(Zd prog 197 [1,1,0,1,0,0,1,1,0,0,1,1,0,0] 0),none,(Zy prog 3),⟨Yb [(3,(.sla 7 3 0 v3.length (.un 3))),(4,(ii 0)),(8,(.sl 0 0 2 (.un 1))),(9,(ii 2)),(10,(ii 0)),(15,(.dat l0.length (Zz l0))),(16,(ii (l0.length:Int))),(17,(ii v17))],Vb [⟨[(.dat l0.length (Zz l0)),.nils],180,none⟩,⟨[(.fn 187 [])],213,none⟩,⟨[(ii 0),(ii 0)],142,none⟩,⟨[.nils],180,none⟩,⟨[(ii 0)],3,none⟩,⟨[(.bool false)],4,none⟩,⟨[(.fn 196 [(.ptr 5 0),(.ptr 4 0),(.ptr 3 0)])],242,none⟩,⟨rows v3.length (Zz v3),246,some ⟨3,v3.length,(Zz v3)⟩⟩] 0,8,[],true⟩,[⟨⟨42,0,true⟩,(Jb prog 186 [1,1,1,1,1,0,0] 3),(Zd prog 186 [1,1,1,1,1,0,0] 1),none,(Zy prog 8),Yb [(5,(.ptr 1 0)),(6,.nils),(7,(.ptr 2 0)),(8,(.ptr 3 0)),(9,(.ptr 4 0)),(10,(.ptr 5 0)),(11,(.ptr 6 0)),(16,(.sl 0 0 2 (.un 1)))]⟩,(u4z l0)],.leaf⟩
 | .h2 v5 v6 v7 aA aO aU aF aC=>⟨⟨16,0,true⟩,none,(Zd prog 205 [1,0,0] 0),none,[],⟨Yb [(0,(.yld 0)),(5,(.sla 7 3 0 v5.length (.un 3))),(6,(ii v6)),(7,(ii v7))],y1l [(1,⟨[(.fn 187 [])],213,none⟩),(2,⟨[(ii aA),(ii aO)],142,none⟩),(3,⟨[(ii aU)],3,none⟩),(4,⟨[(.bool aF)],4,none⟩),(5,⟨[(.fn 196 [(.ptr 4 0),(.ptr 3 0),(.ptr 6 0)])],242,none⟩),(6,⟨[(.sla 8 2 0 aC.length (.un 2))],180,none⟩),(7,⟨rows v5.length (Zz v5),246,some ⟨3,v5.length,(Zz v5)⟩⟩),(8,⟨rows aC.length (Zz aC),183,some ⟨2,aC.length,(Zz aC)⟩⟩)],9,[],true⟩,[⟨⟨42,0,true⟩,none,(.inRangeFunc 0::(Zd prog 186 [1,1,1,1,1,0,1,0] 1)),none,(Zy prog 8),Yb [(6,.nils),(8,(.ptr 6 0))]⟩,(u4z l0)],(y7v [(0,⟨.ready,none,42,Yb [(5,(.ptr 1 0)),(7,(.ptr 2 0)),(9,(.ptr 3 0)),(10,(.ptr 4 0)),(11,(.ptr 5 0))],[18],(Uz prog 186 [1,1,1,1,1,0,1,0,0]),(Uz prog 186 [1,1,1,1,1,0,1,0,1])⟩)])⟩
def spmN0 :List (Option (List Nat)):=[some [0,1,7,8],some [5,6],some [0,7]]
def spmM0 :List (Option (List Nat)):=[]
def v2h :List (Option (List Nat)):=[some [3,4,8,9,10,15,16,17],some [5,6,7,8,9,10,11,16],some [9]]
def v2i :List (Option (List Nat)):=[]
def y4o :List (Option (List Nat)):=[some [0,5,6,7],some [6,8],some [9]]
def y4p :List (Option (List Nat)):=[some [5,7,9,10,11],none,none,none,none,none,none,none,none]
def Ut (l0:List R2):spmS→Xp spmS
 | .h0 v8=>(bif (decide (v8<(l0.length:Int))) then (bif ((decide (0≤v8∧v8<(l0.length:Int)))&&true) then (bif (decide ((rd l0 v8.toNat).a <(rd l0 v8.toNat).b)) then (bif (decide ((rd l0 v8.toNat).a ≥(-1000000))) then (bif (!(decide ((rd l0 v8.toNat).b ≤1000000))) then (bif (decide (v8≥0)) then (.ret [.nils,(.int .i64 8)]) else (.to (.h1 ([]:List R3) 0))) else (.to (.h0 (wrap .i64 (v8+1))))) else (bif (decide (v8≥0)) then (.ret [.nils,(.int .i64 8)]) else (.to (.h1 ([]:List R3) 0)))) else (bif (decide (v8≥0)) then (.ret [.nils,(.int .i64 8)]) else (.to (.h1 ([]:List R3) 0)))) else .stuck) else (.to (.h1 ([]:List R3) 0)))
 | .h1 v3 v17=>(bif (decide (v17<(l0.length:Int))) then (bif ((decide (0≤v17∧v17<(l0.length:Int)))&&true) then (bif (Nat.beq 3 3&&((decide (0+v3.length=v3.length))&&decide ((v3.length+2+1)*(24+1)≤Jd))) then (.to (.h1 (v3++[(R3.mk (rd l0 v17.toNat).a 0 1),(R3.mk (rd l0 v17.toNat).b 0 (-1))]) (wrap .i64 (v17+1)))) else .stuck) else .stuck) else (bif (y2a (cvT v3)) then (bif (decide (v3.length<4611686018427387904)) then (bif (decide (v3.length=v3.length)) then (.to (.h2 (z1d (cvT v3)) (v3.length:Int) 0 0 0 0 false ([]:List R2))) else .stuck) else .stuck) else .stuck))
 | .h2 v5 v6 v7 aA aO aU aF aC=>(bif (decide (v7<v6)) then (bif ((decide (0≤v7∧v7<(v5.length:Int)))&&true) then (bif (decide ((0+v7.toNat)<v5.length)) then (bif (!aF) then (bif (decide ((rd v5 (0+v7.toNat)).b =Int.ofNat 0)) then (.to (.h2 v5 v6 (wrap .i64 (v7+1)) (wrap .i64 (aA+(rd v5 (0+v7.toNat)).c)) aO (rd v5 (0+v7.toNat)).a (w5y (decide ((wrap .i64 (aA+(rd v5 (0+v7.toNat)).c))>0)) (decide (aO>0))) aC)) else (bif (decide ((rd v5 (0+v7.toNat)).b =Int.ofNat 1)) then (.to (.h2 v5 v6 (wrap .i64 (v7+1)) aA (wrap .i64 (aO+(rd v5 (0+v7.toNat)).c)) (rd v5 (0+v7.toNat)).a (w5y (decide (aA>0)) (decide ((wrap .i64 (aO+(rd v5 (0+v7.toNat)).c))>0))) aC)) else .stuck)) else (bif (aU == (rd v5 (0+v7.toNat)).a) then (bif (decide ((rd v5 (0+v7.toNat)).b =Int.ofNat 0)) then (.to (.h2 v5 v6 (wrap .i64 (v7+1)) (wrap .i64 (aA+(rd v5 (0+v7.toNat)).c)) aO (rd v5 (0+v7.toNat)).a (w5y (decide ((wrap .i64 (aA+(rd v5 (0+v7.toNat)).c))>0)) (decide (aO>0))) aC)) else (bif (decide ((rd v5 (0+v7.toNat)).b =Int.ofNat 1)) then (.to (.h2 v5 v6 (wrap .i64 (v7+1)) aA (wrap .i64 (aO+(rd v5 (0+v7.toNat)).c)) (rd v5 (0+v7.toNat)).a (w5y (decide (aA>0)) (decide ((wrap .i64 (aO+(rd v5 (0+v7.toNat)).c))>0))) aC)) else .stuck)) else (bif (decide ((aC.length:Int)>0)) then (bif ((decide (0≤(wrap .i64 ((aC.length:Int) - 1))∧(wrap .i64 ((aC.length:Int) - 1))<(aC.length:Int)))&&true) then (bif (decide ((0+(Int.toNat (wrap .i64 ((aC.length:Int) - 1))))<aC.length)) then (bif ((rd aC (0+(Int.toNat (wrap .i64 ((aC.length:Int) - 1))))).b == aU) then (bif (decide ((rd v5 (0+v7.toNat)).b =Int.ofNat 0)) then (.to (.h2 v5 v6 (wrap .i64 (v7+1)) (wrap .i64 (aA+(rd v5 (0+v7.toNat)).c)) aO (rd v5 (0+v7.toNat)).a (w5y (decide ((wrap .i64 (aA+(rd v5 (0+v7.toNat)).c))>0)) (decide (aO>0))) (aC.set (0+(Int.toNat (wrap .i64 ((aC.length:Int) - 1)))) (R2.mk (rd aC (0+(Int.toNat (wrap .i64 ((aC.length:Int) - 1))))).a (rd v5 (0+v7.toNat)).a)))) else (bif (decide ((rd v5 (0+v7.toNat)).b =Int.ofNat 1)) then (.to (.h2 v5 v6 (wrap .i64 (v7+1)) aA (wrap .i64 (aO+(rd v5 (0+v7.toNat)).c)) (rd v5 (0+v7.toNat)).a (w5y (decide (aA>0)) (decide ((wrap .i64 (aO+(rd v5 (0+v7.toNat)).c))>0))) (aC.set (0+(Int.toNat (wrap .i64 ((aC.length:Int) - 1)))) (R2.mk (rd aC (0+(Int.toNat (wrap .i64 ((aC.length:Int) - 1))))).a (rd v5 (0+v7.toNat)).a)))) else .stuck)) else (bif (Nat.beq 2 2&&((decide (0+aC.length=aC.length))&&decide ((aC.length+1+1)*(16+1)≤Jd))) then (bif (decide ((rd v5 (0+v7.toNat)).b =Int.ofNat 0)) then (.to (.h2 v5 v6 (wrap .i64 (v7+1)) (wrap .i64 (aA+(rd v5 (0+v7.toNat)).c)) aO (rd v5 (0+v7.toNat)).a (w5y (decide ((wrap .i64 (aA+(rd v5 (0+v7.toNat)).c))>0)) (decide (aO>0))) (aC++[(R2.mk aU (rd v5 (0+v7.toNat)).a)]))) else (bif (decide ((rd v5 (0+v7.toNat)).b =Int.ofNat 1)) then (.to (.h2 v5 v6 (wrap .i64 (v7+1)) aA (wrap .i64 (aO+(rd v5 (0+v7.toNat)).c)) (rd v5 (0+v7.toNat)).a (w5y (decide (aA>0)) (decide ((wrap .i64 (aO+(rd v5 (0+v7.toNat)).c))>0))) (aC++[(R2.mk aU (rd v5 (0+v7.toNat)).a)]))) else .stuck)) else .stuck)) else .stuck) else .stuck) else (bif (Nat.beq 2 2&&((decide (0+aC.length=aC.length))&&decide ((aC.length+1+1)*(16+1)≤Jd))) then (bif (decide ((rd v5 (0+v7.toNat)).b =Int.ofNat 0)) then (.to (.h2 v5 v6 (wrap .i64 (v7+1)) (wrap .i64 (aA+(rd v5 (0+v7.toNat)).c)) aO (rd v5 (0+v7.toNat)).a (w5y (decide ((wrap .i64 (aA+(rd v5 (0+v7.toNat)).c))>0)) (decide (aO>0))) (aC++[(R2.mk aU (rd v5 (0+v7.toNat)).a)]))) else (bif (decide ((rd v5 (0+v7.toNat)).b =Int.ofNat 1)) then (.to (.h2 v5 v6 (wrap .i64 (v7+1)) aA (wrap .i64 (aO+(rd v5 (0+v7.toNat)).c)) (rd v5 (0+v7.toNat)).a (w5y (decide (aA>0)) (decide ((wrap .i64 (aO+(rd v5 (0+v7.toNat)).c))>0))) (aC++[(R2.mk aU (rd v5 (0+v7.toNat)).a)]))) else .stuck)) else .stuck)))) else .stuck) else .stuck) else (.ret [(.dat aC.length (Zz aC)),(.int .i64 0)]))
def y2m (l0:List R2):Xp spmS:=(bif (decide ((l0.length:Int)>400)) then (.ret [.nils,(.int .i64 4)]) else (.to (.h0 0)))
theorem w7j (l0:List R2): ∀s,Yr prog (Zy prog 157) (spmC l0) (spmC l0 s) (Ut l0 s)
 | .h0 v8=>(lb (fun k0=>(lo fun aG=>(lb (fun k1=>(lb (fun k2=>(lb (fun k3=>(lb (fun k4=>(lr 11 157 [1,1,0,1,0,0] 1 15 [(2,.nils),(3,(ii 8))] (sl z0h 79 [] ⟨[],[],[some [2,3]],[]⟩ ⟨[],[],[]⟩ (trs 9 []) (tt k4 (tt k3 (tt k2 (tt k1 (ww aG (tt k0 nn))))))))) (fun k4=>(sl z0h 154 [(246,3,Zz ([]:List R3))] ⟨[8,2,3,4,5,6,7,9],[],v2h,v2i⟩ ⟨[(3,.grow 7 3)],[],[]⟩ (trs 8 (bl 2 2)) (pp (fl ([]:List R3) nn) (tt k4 (tt k3 (tt k2 (tt k1 (ww aG (tt k0 nn))))))))))) (fun k3=>(sl z0h 69 [] ⟨[],[],spmN0,spmM0⟩ ⟨[],[],[]⟩ (trs 7 [false]) (tt k3 (tt k2 (tt k1 (ww aG (tt k0 nn))))))))) (fun k2=>(lb (fun k3=>(lr 11 157 [1,1,0,1,0,0] 1 15 [(2,.nils),(3,(ii 8))] (sl z0h 79 [] ⟨[],[],[some [2,3]],[]⟩ ⟨[],[],[]⟩ (trs 4 (bl 5 24)) (tt k3 (tt k2 (tt k1 (ww aG (tt k0 nn)))))))) (fun k3=>(sl z0h 154 [(246,3,Zz ([]:List R3))] ⟨[8,2,3,4,5,6,7,9],[],v2h,v2i⟩ ⟨[(3,.grow 7 3)],[],[]⟩ (trs 4 (bl 6 40)) (pp (fl ([]:List R3) nn) (tt k3 (tt k2 (tt k1 (ww aG (tt k0 nn)))))))))))) (fun k1=>(lb (fun k2=>(lr 11 157 [1,1,0,1,0,0] 1 15 [(2,.nils),(3,(ii 8))] (sl z0h 79 [] ⟨[],[],[some [2,3]],[]⟩ ⟨[],[],[]⟩ (bl 9 385) (tt k2 (tt k1 (ww aG (tt k0 nn))))))) (fun k2=>(sl z0h 154 [(246,3,Zz ([]:List R3))] ⟨[8,2,3,4,5,6,7,9],[],v2h,v2i⟩ ⟨[(3,.grow 7 3)],[],[]⟩ (bl 10 641) (pp (fl ([]:List R3) nn) (tt k2 (tt k1 (ww aG (tt k0 nn)))))))))))) (fun k0=>(sl z0h 98 [(246,3,Zz ([]:List R3))] ⟨[6,0,1,2,3,4,5,7],[],v2h,v2i⟩ ⟨[(3,.grow 7 3)],[],[]⟩ (bl 3 4) (pp (fl ([]:List R3) nn) (tt k0 nn)))))
 | .h1 v3 v17=>(lb (fun k0=>(lo fun o0=>(lo fun o1=>(sl z0h 36 [] ⟨[0,1,2,3,4,5,6,10],[],v2h,v2i⟩ ⟨[(3,.len (y8j v3 l0 v17).length)],(kpB 7 [.rowed 3 (y8j v3 l0 v17).length (Zz (y8j v3 l0 v17))]),[]⟩ [true] (pp (xL (v3.length+2) (y8j v3 l0 v17).length) (pp (xL (v3.length+2) (y8j v3 l0 v17).length) (pp (xS (v3.length+2) (Zi (Zz v3) 0 v3.length 3 [(ii (rd l0 (tn v17)).a),(ii 0),(ii 1),(ii (rd l0 (tn v17)).b),(ii 0),(ii (-1))]) (Zz (y8j v3 l0 v17))) (pp (pp (xF (Zi (Zz v3) 0 v3.length 3 [(ii (rd l0 (tn v17)).a),(ii 0),(ii 1),(ii (rd l0 (tn v17)).b),(ii 0),(ii (-1))])) nn) (ww o1 (ww o0 (tt k0 nn))))))))))) (fun k0=>(lo fun o0=>(lo fun o1=>(lo fun o2=>(sl z0h 92 [(183,2,Zz ([]:List R2))] ⟨[9,1,2,4,5,6,3,7,10],[],y4o,y4p⟩ ⟨[(5,.len (z1d (cvT v3)).length)],(kpB 6 [.cells [.grow 8 2],.rowed 3 (z1d (cvT v3)).length (Zz (z1d (cvT v3))),.keep]),[]⟩ (bl 4 2) (pp (xL v3.length (z1d (cvT v3)).length (by first | exact z8i _ | exact Vu rfl)) (pp (xL v3.length (z1d (cvT v3)).length (by first | exact z8i _ | exact Vu rfl)) (pp (xS v3.length (Zz (z1d (cvT v3))) (Zz (z1d (cvT v3)))) (pp (fl (z1d (cvT v3)) (fl ([]:List R2) nn)) (pp (pp (xG (Nat.beq 3 3)) (pp (xG (Nat.beq 3 3)) (pp (xG (Nat.beq 0 0)) (pp (pp (xG (decide (v3.length=v3.length))) (pp (xr v3) (xG (decide (v3.length<4611686018427387904))))) (xG (y2a (cvT v3))))))) (tt k0 nn))))))))))))
 | .h2 v5 v6 v7 aA aO aU aF aC=>(lb (fun k0=>(lo fun aG=>(lo fun bF=>(lb (fun k1=>(lb (fun k2=>(sl z0h 62 [] ⟨(List.range 9),[],y4o,y4p⟩ ⟨[],[],[]⟩ (trs 5 (bl 3 0)) (pp (fl v5 (fl aC nn)) (ww k2 (tt k1 (ww bF (ww aG (tt k0 nn)))))))) (fun k2=>(lb (fun k3=>(sl z0h 62 [] ⟨(List.range 9),[],y4o,y4p⟩ ⟨[],[],[]⟩ (trs 6 (bl 4 2)) (pp (fl v5 (fl aC nn)) (ww k3 (tt k1 (ww bF (ww aG (tt k0 nn)))))))) (fun k3=>trivial))))) (fun k1=>(lb (fun k2=>(lb (fun k3=>(sl z0h 62 [] ⟨(List.range 9),[],y4o,y4p⟩ ⟨[],[],[]⟩ (bl 8 17) (pp (fl v5 (fl aC nn)) (ww k3 (tt k2 (tt k1 (ww bF (ww aG (tt k0 nn))))))))) (fun k3=>(lb (fun k4=>(sl z0h 62 [] ⟨(List.range 9),[],y4o,y4p⟩ ⟨[],[],[]⟩ (bl 10 177) (pp (fl v5 (fl aC nn)) (ww k4 (tt k2 (tt k1 (ww bF (ww aG (tt k0 nn))))))))) (fun k4=>trivial))))) (fun k2=>(lb (fun k3=>(lo fun bX=>(lo fun cQ=>(lb (fun k4=>(lb (fun k5=>(sl z0h 81 [] ⟨(List.range 9),[],y4o,y4p⟩ ⟨[],(kpB 6 [.cells [.len (aC.set (0+(tn (wr ((aC.length:Int) - 1)))) (R2.mk (rd aC (0+(tn (wr ((aC.length:Int) - 1))))).a (rd v5 (0+(tn v7))).a)).length],.keep,.rowed 2 (aC.set (0+(tn (wr ((aC.length:Int) - 1)))) (R2.mk (rd aC (0+(tn (wr ((aC.length:Int) - 1))))).a (rd v5 (0+(tn v7))).a)).length (Zz (aC.set (0+(tn (wr ((aC.length:Int) - 1)))) (R2.mk (rd aC (0+(tn (wr ((aC.length:Int) - 1))))).a (rd v5 (0+(tn v7))).a)))]),[]⟩ (bl 17 16353) (pp (xL aC.length (aC.set (0+(tn (wr ((aC.length:Int) - 1)))) (R2.mk (rd aC (0+(tn (wr ((aC.length:Int) - 1))))).a (rd v5 (0+(tn v7))).a)).length) (pp (xL aC.length (aC.set (0+(tn (wr ((aC.length:Int) - 1)))) (R2.mk (rd aC (0+(tn (wr ((aC.length:Int) - 1))))).a (rd v5 (0+(tn v7))).a)).length) (pp (xS aC.length (Xi (Zz aC) (0+(tn (wr ((aC.length:Int) - 1)))) 1 [(ii (rd v5 (0+(tn v7))).a)]) (Zz (aC.set (0+(tn (wr ((aC.length:Int) - 1)))) (R2.mk (rd aC (0+(tn (wr ((aC.length:Int) - 1))))).a (rd v5 (0+(tn v7))).a)))) (pp (fl v5 (pp (xF (Xi (Zz aC) (0+(tn (wr ((aC.length:Int) - 1)))) 1 [(ii (rd v5 (0+(tn v7))).a)])) nn)) (ww k5 (ww cQ (ww bX (tt k4 (ww cQ (ww bX (tt k3 (tt k2 (tt k1 (ww bF (ww aG (tt k0 nn)))))))))))))))))) (fun k5=>(lb (fun k6=>(sl z0h 81 [] ⟨(List.range 9),[],y4o,y4p⟩ ⟨[],(kpB 6 [.cells [.len (aC.set (0+(tn (wr ((aC.length:Int) - 1)))) (R2.mk (rd aC (0+(tn (wr ((aC.length:Int) - 1))))).a (rd v5 (0+(tn v7))).a)).length],.keep,.rowed 2 (aC.set (0+(tn (wr ((aC.length:Int) - 1)))) (R2.mk (rd aC (0+(tn (wr ((aC.length:Int) - 1))))).a (rd v5 (0+(tn v7))).a)).length (Zz (aC.set (0+(tn (wr ((aC.length:Int) - 1)))) (R2.mk (rd aC (0+(tn (wr ((aC.length:Int) - 1))))).a (rd v5 (0+(tn v7))).a)))]),[]⟩ (bl 19 98273) (pp (xL aC.length (aC.set (0+(tn (wr ((aC.length:Int) - 1)))) (R2.mk (rd aC (0+(tn (wr ((aC.length:Int) - 1))))).a (rd v5 (0+(tn v7))).a)).length) (pp (xL aC.length (aC.set (0+(tn (wr ((aC.length:Int) - 1)))) (R2.mk (rd aC (0+(tn (wr ((aC.length:Int) - 1))))).a (rd v5 (0+(tn v7))).a)).length) (pp (xS aC.length (Xi (Zz aC) (0+(tn (wr ((aC.length:Int) - 1)))) 1 [(ii (rd v5 (0+(tn v7))).a)]) (Zz (aC.set (0+(tn (wr ((aC.length:Int) - 1)))) (R2.mk (rd aC (0+(tn (wr ((aC.length:Int) - 1))))).a (rd v5 (0+(tn v7))).a)))) (pp (fl v5 (pp (xF (Xi (Zz aC) (0+(tn (wr ((aC.length:Int) - 1)))) 1 [(ii (rd v5 (0+(tn v7))).a)])) nn)) (ww k6 (ww cQ (ww bX (tt k4 (ww cQ (ww bX (tt k3 (tt k2 (tt k1 (ww bF (ww aG (tt k0 nn)))))))))))))))))) (fun k6=>trivial))))) (fun k4=>(lo fun cE=>(lb (fun k5=>(sl z0h 81 [] ⟨[0,1,2,3,4,5,6,7,12],[],y4o,y4p⟩ ⟨[],(kpB 6 [.cells [.len (Ug aC aU v5 v7).length],.keep,.rowed 2 (Ug aC aU v5 v7).length (Zz (Ug aC aU v5 v7))]),[]⟩ (bl 17 8161) (pp (xL (aC.length+1) (Ug aC aU v5 v7).length) (pp (xL (aC.length+1) (Ug aC aU v5 v7).length) (pp (xS (aC.length+1) (y1e aC aU v5 v7) (Zz (Ug aC aU v5 v7))) (pp (fl v5 (pp (xF (y1e aC aU v5 v7)) nn)) (ww k5 (ww cE (tt k4 (ww cQ (ww bX (tt k3 (tt k2 (tt k1 (ww bF (ww aG (tt k0 nn))))))))))))))))) (fun k5=>(lb (fun k6=>(sl z0h 81 [] ⟨[0,1,2,3,4,5,6,7,12],[],y4o,y4p⟩ ⟨[],(kpB 6 [.cells [.len (Ug aC aU v5 v7).length],.keep,.rowed 2 (Ug aC aU v5 v7).length (Zz (Ug aC aU v5 v7))]),[]⟩ (bl 19 90081) (pp (xL (aC.length+1) (Ug aC aU v5 v7).length) (pp (xL (aC.length+1) (Ug aC aU v5 v7).length) (pp (xS (aC.length+1) (y1e aC aU v5 v7) (Zz (Ug aC aU v5 v7))) (pp (fl v5 (pp (xF (y1e aC aU v5 v7)) nn)) (ww k6 (ww cE (tt k4 (ww cQ (ww bX (tt k3 (tt k2 (tt k1 (ww bF (ww aG (tt k0 nn))))))))))))))))) (fun k6=>trivial)))))))))) (fun k3=>(lo fun bX=>(lb (fun k4=>(sl z0h 81 [] ⟨[0,1,2,3,4,5,6,7,12],[],y4o,y4p⟩ ⟨[],(kpB 6 [.cells [.len (Ug aC aU v5 v7).length],.keep,.rowed 2 (Ug aC aU v5 v7).length (Zz (Ug aC aU v5 v7))]),[]⟩ (bl 17 1) (pp (xL (aC.length+1) (Ug aC aU v5 v7).length) (pp (xL (aC.length+1) (Ug aC aU v5 v7).length) (pp (xS (aC.length+1) (y1e aC aU v5 v7) (Zz (Ug aC aU v5 v7))) (pp (fl v5 (pp (xF (y1e aC aU v5 v7)) nn)) (ww k4 (ww bX (tt k3 (tt k2 (tt k1 (ww bF (ww aG (tt k0 nn)))))))))))))) (fun k4=>(lb (fun k5=>(sl z0h 81 [] ⟨[0,1,2,3,4,5,6,7,12],[],y4o,y4p⟩ ⟨[],(kpB 6 [.cells [.len (Ug aC aU v5 v7).length],.keep,.rowed 2 (Ug aC aU v5 v7).length (Zz (Ug aC aU v5 v7))]),[]⟩ (bl 19 81921) (pp (xL (aC.length+1) (Ug aC aU v5 v7).length) (pp (xL (aC.length+1) (Ug aC aU v5 v7).length) (pp (xS (aC.length+1) (y1e aC aU v5 v7) (Zz (Ug aC aU v5 v7))) (pp (fl v5 (pp (xF (y1e aC aU v5 v7)) nn)) (ww k5 (ww bX (tt k3 (tt k2 (tt k1 (ww bF (ww aG (tt k0 nn)))))))))))))) (fun k5=>trivial)))))))))))))) (fun k0=>(lr 11 3 [1,1,1,1,1,1,1,0] 1 15 [(2,(.dat aC.length (Zz aC))),(3,(ii 0))] (sl z0h 19 [] ⟨[],[8],[some [2,3]],[]⟩ ⟨[(2,.frz aC.length aC.length (Zz aC) (Zz aC))],[],[]⟩ [false] (pp (xZ (z6j 2 2 0 aC.length aC.length (Zz aC)) aC.length (Zz aC)) (pp (xL aC.length aC.length) (pp (xS aC.length (Zz aC) (Zz aC)) (pp (fl aC nn) (tt k0 nn)))))))))
theorem x7n (l0:List R2):Yr prog (Zy prog 157) (spmC l0) (Zb prog 157 [(.dat l0.length (Zz l0))] true []) (y2m l0):=(lb (fun k0=>(lr 11 157 [1,0,1,0,0] 1 15 [(2,.nils),(3,(ii 4))] (sl z0h 18 [] ⟨[],[],[some [2,3]],[]⟩ ⟨[],[],[]⟩ [true] (tt k0 nn)))) (fun k0=>(sl z0h 41 [] ⟨[],[],spmN0,spmM0⟩ ⟨[],[],[]⟩ [false] (tt k0 nn))))
theorem v9j (l0:List R2) (n:Nat) (vs:List AVal) (h:Yz (Ut l0) n (y2m l0)=.ret vs):Ji prog (Zy prog 157) (Zb prog 157 [(.dat l0.length (Zz l0))] true []) vs:=by have:=Ze (w7j l0) n _ (x7n l0);rwa [h] at this
def z1c (s:R2):Bool:=decide (s.a<s.b)&&(decide (s.a≥ -1000000)&&decide (s.b≤1000000))
def Kh (l:List R2):List R3:=l.flatMap fun s=>[⟨s.a,0,1⟩,⟨s.b,0,-1⟩]
def Vn (out:List R2) (last:Int) (inn:Bool) (at':Int):List R2:=
 bif !inn then out else bif last == at' then out else
 bif decide (0<out.length)&&((rd out (out.length - 1)).b == last) then out.set (out.length - 1) ⟨(rd out (out.length - 1)).a,at'⟩ else out++[⟨last,at'⟩]
def swF :List R3→Int→Int→Bool→List R2→List R2
 | [],_,_,_,out=>out
 | e::r,o,last,inn,out=>swF r (o+e.c) e.a (decide (o+e.c>0)) (Vn out last inn e.a)
def swV (l:List R2):List R2:=swF (z1d (Kh l)) 0 0 false []
def Xe (l:List R2):List R2:=bif decide (400<l.length) then [] else bif l.all z1c then swV l else []
def u5a (l:List R2):Int:=bif decide (400<l.length) then 4 else bif l.all z1c then 0 else 8
def y4n (l:List R2):Bool:=true
def x4a (l:List R2):List AVal:=bif decide (400<l.length) then [.nils,.int .i64 4] else bif l.all z1c then [.dat (swV l).length (Zz (swV l)),.int .i64 0] else [.nils,.int .i64 8]
theorem z5f (l:List R2):(Kh l).length =2*l.length:=by
 induction l with
 | nil=>rfl
 | cons r l ih=>show (_::_::Kh l).length =_;simp only [AV,ih];omega
theorem z3q (out:List R2) (last:Int) (inn:Bool) (a:Int):(Vn out last inn a).length ≤out.length+1:=by
 unfold Vn;cases inn <;> simp only [AC,AH,Ab,Aa]
 ·omega
 ·cases (last == a) <;> simp only [Ab,Aa]
  ·cases (decide (0<out.length)&&((rd out (out.length - 1)).b == last)) <;> simp
  ·omega
theorem y2l (e:R3) (r:List R3) (o last:Int) (inn:Bool) (out:List R2):swF (e::r) o last inn out=swF r (o+e.c) e.a (decide (o+e.c>0)) (Vn out last inn e.a):=rfl
theorem j2p {a:Int} (k:Nat) (h:a=(k:Int)):decide (a=Int.ofNat k)=true:=Ah h
section
variable (l:List R2) (hl:l.length≤400)
include hl
theorem u4w (L:List R3) (hL:L.length≤800) (hE: ∀i,i<L.length→(rd L i).b =0∧((rd L i).c =1∨(rd L i).c = -1)): ∀(k i:Nat) (o last:Int) (inn:Bool) (out:List R2),i+k=L.length→ -(i:Int)≤o→o≤i→out.length≤i→
  ∃n,Yz (Ut l) n (.to (.h2 L (L.length:Int) (i:Int) o 0 last inn out))=.ret [.dat (swF (L.drop i) o last inn out).length (Zz (swF (L.drop i) o last inn out)),.int .i64 0]
 | 0,i,o,last,inn,out,h,ho1,ho2,hout=>by have _uhl:=hl;refine ⟨1,?_⟩;rw [Zv,Av (by omega)];simp (disch:=omega) only [Ut,Yx,Aa,Za,swF]
 | k +1,i,o,last,inn,out,h,ho1,ho2,hout=>by
  obtain ⟨hb,hc⟩:=hE i (by omega);have hcl:=z3q out last inn (rd L i).a;obtain ⟨n,hn⟩:=u4w L hL hE k (i+1) (o+(rd L i).c) (rd L i).a (decide (o+(rd L i).c >0)) (Vn out last inn (rd L i).a) (by omega) (by rcases hc with hc | hc <;> omega) (by rcases hc with hc | hc <;> omega) (by omega);refine ⟨n+1,?_⟩;rw [Yq (show i<L.length by omega),Zv];have hf: ∀b,w5y b (decide ((0:Int)>0))=b:=fun b=>rfl;have hw:wrap .i64 (o+(rd L i).c)=o+(rd L i).c :=Zq (by rcases hc with hc | hc <;> omega);rw [y2l];have hf': ∀b,w5y b false=b:=fun b=>rfl;have hz:=j2p 0 hb;unfold Vn at hn ⊢;cases inn with
  | false=>simp only [AH,Ab] at hn ⊢;simp (disch:=omega) only [Ut,AH,hz,hw,hf,hf',Zs,Zt,Yj,Zq,Zx,Zj,Ag,Ai,Ab];exact hn
  | true=>
   simp only [AC,Aa] at hn ⊢;rcases Yp (last == (rd L i).a) with q | q
   ·rw [q] at hn ⊢;simp only [Ab] at hn ⊢;simp (disch:=omega) only [Ut,AC,q,hz,hw,hf,hf',Zs,Zt,Yj,Zq,Zx,Zj,Ag,Ai,Ab,Aa];exact hn
   ·rw [q] at hn ⊢;simp only [Aa] at hn ⊢;by_cases h0:0<out.length
    ·rw [Ah h0,An] at hn ⊢;rcases Yp ((rd out (out.length - 1)).b == last) with q2 | q2
     ·rw [q2] at hn ⊢;simp only [Ab] at hn ⊢;simp (disch:=omega) only [Ut,AC,q,q2,hz,hw,hf,hf',Zs,Yn,Zt,Yj,Zq,Zx,Zj,Zf,Ag,Ai,Ab,Aa];exact hn
     ·rw [q2] at hn ⊢;simp only [Aa] at hn ⊢;simp (disch:=omega) only [Ut,AC,q,q2,hz,hw,hf,hf',Zs,Yn,Zt,Yj,Ym,Zh,Ya,Aw,Zq,Zx,Zj,Zf,Ag,Ai,An,Ab,Aa];exact hn
    ·rw [Ay h0,Bs] at hn ⊢;simp only [Aa] at hn ⊢;simp (disch:=omega) only [Ut,AC,q,hz,hw,hf,hf',Zs,Xa,Zt,Yj,Ym,Zh,Ya,Aw,Zq,Zx,Zj,Ag,Ai,An,Ab,Aa];exact hn
theorem v7n (h:l.all z1c=true): ∀e∈Kh l,bnd3 e=true∧e.b=0∧(e.c=1∨e.c= -1):=by
 have _uhl:=hl;intro e he;obtain ⟨s,hs,h1⟩:=AP.1 he;have hv:=At.1 h s hs;simp only [z1c,Ac,Al] at hv;simp only [AA,Bz,Co] at h1;rcases h1 with rfl | rfl
 ·exact ⟨Ah (by simp only;omega),rfl,.inl rfl⟩
 ·exact ⟨Ah (by simp only;omega),rfl,.inr rfl⟩
theorem u4x (hv:l.all z1c=true): ∀(k i:Nat) (acc:List R3),i+k=l.length→acc=Kh (l.take i)→ ∃n,Yz (Ut l) n (.to (.h1 acc (i:Int)))=.ret [.dat (swV l).length (Zz (swV l)),.int .i64 0]
 | 0,i,acc,h,ha=>by
  have e:acc=Kh l:=by rw [ha,AU (by omega)]
  subst e;have hle:=z5f l;have eK:=v7n l hl hv;have hb:y2a (Kh l)=true:=At.2 fun e he=>(eK e he).1;obtain ⟨hp,_⟩:=Qp (Kh l) hb;have hpl:=hp.length_eq;obtain ⟨n,hn⟩:=u4w l hl (z1d (Kh l)) (by omega) (fun i hi=>by
   rw [Xz hi];exact (eK _ (hp.mem_iff.1 (AS hi))).2) (z1d (Kh l)).length 0 0 0 false [] (Ag _) (by omega) (by omega) (AJ _)
  refine ⟨n+1,?_⟩;rw [Zv];simp (disch:=omega) only [Ut,Zm,Zk,hb,Yx,Yj,Ym,Aw,Ab,Aa];rw [←hpl];simp only [z3r,A0] at hn;exact hn
 | k+1,i,acc,h,ha=>by
  have hle:=z5f (l.take i);have fM:acc.length≤2*i:=by rw [ha,hle];simp;omega
  obtain ⟨n,hn⟩:=u4x hv k (i+1) (acc++Kh [rd l i]) (by omega) (by
   rw [ha,Bg];have:l[i]? =some (rd l i):=by rw [Xz (show i<l.length by omega)];exact As _
   rw [this];simp [Kh])
  refine ⟨n+1,?_⟩;rw [Zv];simp (disch:=omega) only [Ut,Zs,Zt,Yd,Ym,Zh,Ya,Aw,Zq,Zx,Zj,Ag,Ai,An,Ab];exact hn
theorem u4y : ∀(k i:Nat),i+k=l.length→(∀s∈l.take i,z1c s=true)→ ∃n,Yz (Ut l) n (.to (.h0 (i:Int)))=.ret (bif l.all z1c then [.dat (swV l).length (Zz (swV l)),.int .i64 0] else [.nils,.int .i64 8])
 | 0,i,h,ht=>by have hv:l.all z1c=true:=At.2 fun s hs=>ht s (by rw [AU (by omega)];exact hs);obtain ⟨n,hn⟩:=u4x l hl hv l.length 0 [] (Ag _) rfl;refine ⟨n+1,?_⟩;rw [Zv,hv,Ab];simp (disch:=omega) only [Ut,Yx,Aa];exact hn
 | k+1,i,h,ht=>by
  have hi:i<l.length:=by omega
  rcases Yp (z1c (rd l i)) with q | q
  ·obtain ⟨n,hn⟩:=u4y k (i+1) (by omega) (fun s hs=>by
    rw [Bg] at hs;have e:l[i]? =some (rd l i):=by rw [Xz hi];exact As _
    rw [e] at hs;simp only [Ck,AD,AN] at hs;rcases hs with hs | rfl
    ·exact ht s hs
    ·exact q)
   refine ⟨n+1,?_⟩;rw [Zv];simp only [z1c,Ac,Al] at q;simp (disch:=omega) only [Ut,Zs,Wy,dge_t,Zt,Zq,Zx,Zj,AC,Ai,Ab,Aa];exact hn
  ·have hv:l.all z1c=false:=Bc.2 fun e=>by have:=At.1 e (rd l i) (by rw [Xz hi];exact AS hi);rw [this] at q;cases q
   refine ⟨1,?_⟩;rw [Zv,hv,Aa];unfold z1c at q;rcases Yp (decide ((rd l i).a <(rd l i).b)) with q1 | q1 <;> rcases Yp (decide ((rd l i).a ≥ -1000000)) with q2 | q2 <;> rcases Yp (decide ((rd l i).b ≤1000000)) with q3 | q3 <;>
    rw [q1,q2,q3] at q <;> first
    | (exfalso;revert q;decide)
    | simp (disch:=omega) only [Ut,q1,q2,q3,Zs,dge_t,Zt,Zq,Zx,Zj,AC,AH,Ai,Ab,Aa,Za]
end
theorem j0i (l:List R2): ∃n,Yz (Ut l) n (y2m l)=.ret (x4a l):=by
 unfold y2m x4a;by_cases h:400<l.length
 ·refine ⟨0,?_⟩;rw [Ah h,Yn (show (l.length:Int)>400 by omega)];rfl
 ·obtain ⟨n,hn⟩:=u4y l (by omega) l.length 0 (Ag _) (fun s hs=>by simp at hs);refine ⟨n,?_⟩;rw [Ay h,Xa (show¬(l.length:Int)>400 by omega),Aa,Aa];exact hn
def fSpm :List AVal→Option (AVal×Bool)
 | [a1]=>match asL R2 a1 with
  | some (L1,g1,n1)=>some (.tup [.dat (Xe L1).length (Zz (Xe L1)),.int .i64 (u5a L1)],isT R2 n1 g1&&y4n L1)
  | _=>none
 | _=>none
theorem j4u {S:Specs} (hS:Zu prog S):Zu prog (S.with x5e fSpm):=by
 refine v1m hS (by kernel_rfl) fun args v h=> ?_;unfold fSpm at h;split at h
 ·rename_i a1;split at h
  ·rename_i L1 g1 n1 e1;simp only [Ae,Ad,Ac] at h;obtain ⟨rfl,ho1,hw⟩:=h;obtain ⟨N,hN⟩:=j0i L1;refine ⟨_,x4a L1,(.cons (asL_le e1 ho1) .nil),?_,v9j L1 N _ hN,3,?_⟩
   ·unfold Xe u5a x4a;cases decide (400<L1.length) <;> simp only [Ab,Aa]
    ·cases L1.all z1c <;> simp only [Ab,Aa]
     ·exact fun ρ u hu=>z1u (.cons (z6x R2) (RLe.refl _)) ρ u hu
     ·exact fun ρ u hu=>hu
    ·exact fun ρ u hu=>z1u (.cons (z6x R2) (RLe.refl _)) ρ u hu
   ·unfold x4a;cases decide (400<L1.length) <;> simp only [Ab,Aa]
    ·cases L1.all z1c <;> rfl
    ·rfl
  ·cases h
 ·cases h
def T6 :Specs:=T5.with x5e fSpm
theorem Kf :Zu prog T6:=j4u z0h
theorem y6v {γ:Type} (a b:Bool) (x y:γ):(bif a&&b then x else y)=bif a then (bif b then x else y) else y:=by cases a <;> rfl
theorem z7i {γ:Type} (a:Bool) (x y:γ):(bif !a then x else y)=bif a then y else x:=by cases a <;> rfl
structure Dim (α β:Type) where
 lo:α→Int
 hi:α→Int
 pr:α→β
 put:Int→Int→β→α
 ext:Int→α→α
 mak:List β→List β
 same:List β→List β→Bool
structure Sw (α β:Type) where
 out:List α
 last:List β
 first:Nat
 fin:Int
def Jc (zs:List Int):List Int:=compact (Xu zs)
theorem y0o (zs:List Int):v1n (Xu zs)=(Jc zs).length :=rfl
theorem Xo (zs:List Int):(Xu zs).length =zs.length:=List.length_mergeSort zs
theorem z3o (zs:List Int):(Jc zs).length ≤zs.length:=by have:=compact_length_le (Xu zs);rw [Xo] at this;exact this
theorem z4v (zs:List Int) (i:Nat) (h:i<(Jc zs).length):rd (Wr (Xu zs)) i=rd (Jc zs) i:=by change i<(compact (Xu zs)).length at h;show rd (compact (Xu zs)++_) i=rd (compact (Xu zs)) i;rw [Xz (by rw [Az];exact Nat.lt_add_right _ h),Xz h,By h]
theorem z0j (zs:List Int):Yy zs.length (cOf (Zz (Xu zs)))=Xu zs:=by have:=Wv (Xu zs);rw [Xo] at this;exact this
namespace Dim
variable {α β:Type} (D:Dim α β) (l:List α)
def ends :List Int:=l.flatMap fun r=>[D.lo r,D.hi r]
def cuts :List Int:=Jc (D.ends l)
def inn (x:Int):List β:=(l.filter fun r=>decide (D.lo r≤x)&&decide (x<D.hi r)).map D.pr
def sec (x:Int):List β:=D.mak (D.inn l x)
def grow (out:List α) (k:Nat) (x:Int):List α:=out.take k++(out.drop k).map (D.ext x)
def one (x x':Int) (s:Sw α β):Sw α β:=
 bif decide (0<(D.sec l x).length)&&((s.fin == x)&&D.same s.last (D.sec l x)) then ⟨D.grow s.out s.first x',s.last,s.first,x'⟩
 else ⟨s.out++(D.sec l x).map (D.put x x'),D.sec l x,s.out.length,x'⟩
def go :Nat→Nat→Sw α β→Sw α β
 | 0,_,s=>s
 | k+1,i,s=>go k (i+1) (D.one l (rd (D.cuts l) i) (rd (D.cuts l) (i+1)) s)
def out :List α:=(D.go l ((D.cuts l).length - 1) 0 ⟨[],[],0,0⟩).out
theorem ends_length :(D.ends l).length =2*l.length:=by
 induction l with
 | nil=>rfl
 | cons r l ih=>show (_::_::D.ends l).length =_;simp only [AV,ih];omega
theorem cuts_length :(D.cuts l).length ≤2*l.length:=by have:=z3o (D.ends l);rw [D.ends_length] at this;exact this
theorem ends_append (m:List α):D.ends (l++m)=D.ends l++D.ends m:=by simp [ends]
theorem inn_append (m:List α) (x:Int):D.inn (l++m) x=D.inn l x++D.inn m x:=by simp [inn]
theorem inn_length (x:Int):(D.inn l x).length ≤l.length:=by simpa [inn] using BU _ l
theorem inn_t (r:α) (x:Int) (h1:D.lo r≤x) (h2:x<D.hi r):D.inn [r] x=[D.pr r]:=by simp [inn,h1,h2]
theorem inn_f1 (r:α) (x:Int) (h1: ¬D.lo r≤x):D.inn [r] x=[]:=by simp [inn,h1]
theorem inn_f2 (r:α) (x:Int) (h1: ¬x<D.hi r):D.inn [r] x=[]:=by simp [inn,h1]
theorem grow_nil (out:List α) (k:Nat) (x:Int) (h:out.length≤k):D.grow out k x=out:=by unfold grow;rw [Av h,Ba,AB,AU h]
theorem grow_length (out:List α) (k:Nat) (x:Int):(D.grow out k x).length =out.length:=by unfold grow;simp;omega
theorem grow_set [Yt α] (out:List α) (j:Nat) (x:Int) (h:j<out.length):D.grow (out.set j (D.ext x (rd out j))) (j+1) x=D.grow out j x:=by
 unfold grow;rw [Yq h,AW];have e1:(out.set j (D.ext x (rd out j))).take (j+1)=out.take j++[D.ext x (rd out j)]:=by
  apply Ch
  ·simp;omega
  ·intro n h1 h2;simp only [Bo,List.getElem_set];by_cases e:j=n
   ·subst e;rw [Au rfl,BH (by simp only [Bm];omega)];simp
   ·rw [Ao e,By (by simp at h1 ⊢;omega),Bo]
 have e2:(out.set j (D.ext x (rd out j))).drop (j+1)=out.drop (j+1):=by rw [List.drop_set];rw [Au (by omega)]
 rw [e1,e2,AM];rfl
theorem one_length (x x':Int) (s:Sw α β):(D.one l x x' s).out.length ≤s.out.length+(D.sec l x).length :=by unfold one;cases (decide (0<(D.sec l x).length)&&((s.fin == x)&&D.same s.last (D.sec l x))) <;> simp [grow_length]
end Dim
open Go.Proofs.Tryz
open Go.Proofs
inductive vl4S where
def vl4C (aL:Int) (aN:Int) (aM:Int) (aS:Int):vl4S→Cfg
 :=nofun
def x7g (aL:Int) (aN:Int) (aM:Int) (aS:Int):vl4S→Xp vl4S
 :=nofun
def y2k (aL:Int) (aN:Int) (aM:Int) (aS:Int):Xp vl4S:=(bif (decide (aL<aM)) then (bif (decide (aN<aS)) then (bif (decide (aL≥(-1000000))) then (bif (decide (aL≤1000000)) then (bif (decide (aM≥(-1000000))) then (bif (decide (aM≤1000000)) then (bif (decide (aN≥(-1000000))) then (bif (decide (aN≤1000000)) then (bif (decide (aS≥(-1000000))) then (.ret [(.bool (decide (aS≤1000000)))]) else (.ret [(.bool false)])) else (.ret [(.bool false)])) else (.ret [(.bool false)])) else (.ret [(.bool false)])) else (.ret [(.bool false)])) else (.ret [(.bool false)])) else (.ret [(.bool false)])) else (.ret [(.bool false)])) else (.ret [(.bool false)]))
theorem w6y (aL:Int) (aN:Int) (aM:Int) (aS:Int): ∀s,Yr prog (Zy prog 120) (vl4C aL aN aM aS) (vl4C aL aN aM aS s) (x7g aL aN aM aS s)
 :=nofun
theorem x7h (aL:Int) (aN:Int) (aM:Int) (aS:Int):Yr prog (Zy prog 120) (vl4C aL aN aM aS) (Zb prog 120 [(.agg [(.int .i64 aL),(.int .i64 aN),(.int .i64 aM),(.int .i64 aS)])] true []) (y2k aL aN aM aS):=(lb (fun k0=>(lb (fun k1=>(lb (fun k2=>(lb (fun k3=>(lb (fun k4=>(lb (fun k5=>(lb (fun k6=>(lb (fun k7=>(lb (fun k8=>(lr 35 3 [1,1,1,1,1,1,1,0] 1 3 [(2,(.bool (decide (aS≤1000000))))] (sl Kf 101 [] ⟨[],[],[some [2]],[]⟩ ⟨[],[],[]⟩ (trs 25 []) (tt k8 (tt k7 (tt k6 (tt k5 (tt k4 (tt k3 (tt k2 (tt k1 (tt k0 nn)))))))))))) (fun k8=>(lr 35 3 [1,1,1,1,1,1,1,0] 1 3 [(2,(.bool false))] (sl Kf 101 [] ⟨[],[],[some [2]],[]⟩ ⟨[],[],[]⟩ (trs 23 [false,false]) (tt k8 (tt k7 (tt k6 (tt k5 (tt k4 (tt k3 (tt k2 (tt k1 (tt k0 nn)))))))))))))) (fun k7=>(lr 35 3 [1,1,1,1,1,1,1,0] 1 3 [(2,(.bool false))] (sl Kf 86 [] ⟨[],[],[some [2]],[]⟩ ⟨[],[],[]⟩ (trs 20 [false,false,false]) (tt k7 (tt k6 (tt k5 (tt k4 (tt k3 (tt k2 (tt k1 (tt k0 nn))))))))))))) (fun k6=>(lr 35 3 [1,1,1,1,1,1,1,0] 1 3 [(2,(.bool false))] (sl Kf 86 [] ⟨[],[],[some [2]],[]⟩ ⟨[],[],[]⟩ (trs 18 [false,false,false,false,false]) (tt k6 (tt k5 (tt k4 (tt k3 (tt k2 (tt k1 (tt k0 nn)))))))))))) (fun k5=>(lr 35 3 [1,1,1,1,1,1,1,0] 1 3 [(2,(.bool false))] (sl Kf 71 [] ⟨[],[],[some [2]],[]⟩ ⟨[],[],[]⟩ (trs 15 [false,false,false,false,false,false]) (tt k5 (tt k4 (tt k3 (tt k2 (tt k1 (tt k0 nn))))))))))) (fun k4=>(lr 35 3 [1,1,1,1,1,1,1,0] 1 3 [(2,(.bool false))] (sl Kf 71 [] ⟨[],[],[some [2]],[]⟩ ⟨[],[],[]⟩ (trs 13 [false,false,false,false,false,false,false,false]) (tt k4 (tt k3 (tt k2 (tt k1 (tt k0 nn)))))))))) (fun k3=>(lr 35 3 [1,1,1,1,1,1,1,0] 1 3 [(2,(.bool false))] (sl Kf 56 [] ⟨[],[],[some [2]],[]⟩ ⟨[],[],[]⟩ (trs 10 [false,false,false,false,false,false,false,false,false]) (tt k3 (tt k2 (tt k1 (tt k0 nn))))))))) (fun k2=>(lr 35 3 [1,1,1,1,1,1,1,0] 1 3 [(2,(.bool false))] (sl Kf 56 [] ⟨[],[],[some [2]],[]⟩ ⟨[],[],[]⟩ (trs 8 [false,false,false,false,false,false,false,false,false,false,false]) (tt k2 (tt k1 (tt k0 nn)))))))) (fun k1=>(lr 35 3 [1,1,1,1,1,1,1,0] 1 3 [(2,(.bool false))] (sl Kf 41 [] ⟨[],[],[some [2]],[]⟩ ⟨[],[],[]⟩ (trs 5 [false,false,false,false,false,false,false,false,false,false,false,false]) (tt k1 (tt k0 nn))))))) (fun k0=>(lr 35 3 [1,1,1,1,1,1,1,0] 1 3 [(2,(.bool false))] (sl Kf 41 [] ⟨[],[],[some [2]],[]⟩ ⟨[],[],[]⟩ [false,false,false,false,false,false,false,false,false,false,false,false,false,false,false,false,false] (tt k0 nn)))))
theorem v9g (aL:Int) (aN:Int) (aM:Int) (aS:Int) (n:Nat) (vs:List AVal) (h:Yz (x7g aL aN aM aS) n (y2k aL aN aM aS)=.ret vs):Ji prog (Zy prog 120) (Zb prog 120 [(.agg [(.int .i64 aL),(.int .i64 aN),(.int .i64 aM),(.int .i64 aS)])] true []) vs:=by have:=Ze (w6y aL aN aM aS) n _ (x7h aL aN aM aS);rwa [h] at this
inductive madS where
 | h0 (v16:Int) (aA:List Int)
 | h1 (v4:Int) (aV:List R4) (bC:List R2) (bL:Int) (bM:Int) (bA:Nat) (bK:List Int)
 | h2 (v4:Int) (v38:Int) (aV:List R4) (bC:List R2) (bL:Int) (bM:Int) (bA:Nat) (bK:List Int) (aC:Int) (cK:Int) (aT:List R2)
 | h3 (v1:Int) (v2:Int) (v71:List R2) (v72:Int) (v73:Int) (cB:List R2) (aZ:Int) (aD:List R4) (bH:List R2) (bJ:Int) (bA:Nat) (bK:List Int) (aC:List R2)
 | h4 (v2:Int) (v8:Int) (cN:Int) (cB:List R2) (aZ:Int) (aD:List R4) (bH:List R2) (bJ:Int) (cA:Int) (cI:Nat) (cM:List Int) (aT:List R2)
abbrev y9z (aD:List R4) (v8:Int) (v2:Int):=(aD.set (0+(tn v8)) (R4.mk (rd aD (0+(tn v8))).a (rd aD (0+(tn v8))).b v2 (rd aD (0+(tn v8))).d))
abbrev y9y (aA:List Int):=(Wr (Yy aA.length (cOf (Zz (Xu (Yy aA.length (cOf (Zz aA))))))))
def u8x :AFr:=⟨⟨29,0,true⟩,none,(.inRangeFunc 0::(Zd prog 121 [1,1,0,1,0] 1)),none,(Zy prog 15),Yb [(2,.nils),(3,(ii 0)),(4,(.ptr 1 0))]⟩
def u8w :=(y7v [(0,⟨.ready,none,29,Yb [(4,(.ptr 1 0))],[11],(Uz prog 121 [1,1,0,1,0,0]),(Uz prog 121 [1,1,0,1,0,1])⟩)])
abbrev y9x (aT:List R2) (l0:List R4) (v38:Int):=(aT++[(R2.mk (rd l0 (tn v38)).b (rd l0 (tn v38)).d)])
abbrev y9w (aD:List R4) (v1:Int) (v71:List R2) (v73:Int) (v2:Int):=(aD++[(R4.mk v1 (rd v71 (tn v73)).a v2 (rd v71 (tn v73)).b)])
def x5i (l0:List R4):ABlk:=⟨[(.dat l0.length (Zz l0))],99,none⟩
abbrev y9v (aA:List Int) (l0:List R4) (v16:Int):=(aA++[(rd l0 (tn v16)).a,(rd l0 (tn v16)).c])
def madC (l0:List R4):madS→Cfg
 | .h0 v16 aA=>⟨⟨34,0,true⟩,none,(Zd prog 156 [1,1,0,1,0,0,1,1,0,0,1,1,0,0] 0),none,(Zy prog 3),⟨Yb [(1,(.ptr 0 0)),(3,(.ptr 2 0)),(8,(.sl 1 0 1 (.un 1))),(9,(ii 1)),(10,(ii 0)),(14,(.dat l0.length (Zz l0))),(15,(ii (l0.length:Int))),(16,(ii v16))],Vb [⟨[(.sl 1 0 1 (.un 1))],171,none⟩,(x5i l0),⟨[(.sla 4 1 0 aA.length (.un 1))],93,none⟩,⟨[.nils,.nils,(ii 0),(ii 0)],200,none⟩,⟨rows aA.length (Zz aA),3,some ⟨1,aA.length,(Zz aA)⟩⟩] 0,5,[],true⟩,[⟨⟨29,0,true⟩,(Jb prog 121 [1,1,0,0] 2),(Zd prog 121 [1,1,0,0] 1),none,(Zy prog 15),Yb [(2,.nils),(3,(ii 0)),(4,(.ptr 3 0)),(9,(.sl 1 0 1 (.un 1)))]⟩],.leaf⟩
 | .h1 v4 aV bC bL bM bA bK=>⟨⟨76,0,true⟩,none,(Zd prog 182 [1,0,0] 0),none,[],⟨Yb [(0,(.yld 0)),(1,(.ptr 2 0)),(2,(.ptr 4 0)),(4,(ii v4))],y1l [(1,⟨[(.sla 6 4 0 aV.length (.un 4)),(.dat bC.length (Zz bC)),(ii bL),(ii bM)],200,none⟩),(2,⟨[(.sla 3 1 0 bA (.un 1))],93,none⟩),(3,⟨rows bK.length (Zz bK),3,some ⟨1,bK.length,(Zz bK)⟩⟩),(4,⟨[(.sl 5 0 1 (.un 1))],171,none⟩),(5,(x5i l0)),(6,⟨rows aV.length (Zz aV),88,some ⟨4,aV.length,(Zz aV)⟩⟩)],7,[],true⟩,[u8x],u8w⟩
 | .h2 v4 v38 aV bC bL bM bA bK aC cK aT=>⟨⟨76,0,true⟩,none,(Zd prog 182 [1,0,0,1,0,0,1,0,1,0,0,1,1,0,0,1,1,0,0] 0),none,[],⟨Yb [(0,(.yld 0)),(1,(.ptr 2 0)),(2,(.ptr 4 0)),(4,(ii v4)),(5,(.ptr 6 0)),(6,(ii 0)),(29,(.sl 5 0 1 (.un 1))),(30,(ii 1)),(31,(ii 0)),(36,(.dat l0.length (Zz l0))),(37,(ii (l0.length:Int))),(38,(ii v38))],y1l [(1,⟨[(.sla 9 4 0 aV.length (.un 4)),(.dat bC.length (Zz bC)),(ii bL),(ii bM)],200,none⟩),(2,⟨[(.sla 3 1 0 bA (.un 1))],93,none⟩),(3,⟨rows bK.length (Zz bK),3,some ⟨1,bK.length,(Zz bK)⟩⟩),(4,⟨[(.sl 5 0 1 (.un 1))],171,none⟩),(5,(x5i l0)),(6,⟨[(ii aC),(ii cK),(.sl 7 0 1 (.ex 1))],205,none⟩),(7,⟨[(.sla 8 2 0 aT.length (.un 2))],180,none⟩),(8,⟨rows aT.length (Zz aT),183,some ⟨2,aT.length,(Zz aT)⟩⟩),(9,⟨rows aV.length (Zz aV),88,some ⟨4,aV.length,(Zz aV)⟩⟩)],10,[],true⟩,[u8x],u8w⟩
 | .h3 v1 v2 v71 v72 v73 cB aZ aD bH bJ bA bK aC=>⟨⟨94,0,true⟩,none,(Zd prog 158 [1,1,1,0,0] 0),none,[],⟨Yb [(0,(.ptr 0 0)),(1,(ii v1)),(2,(ii v2)),(71,(.dat v71.length (Zz v71))),(72,(ii v72)),(73,(ii v73))],y1l [(0,⟨[(.sla 7 4 0 aD.length (.un 4)),(.dat bH.length (Zz bH)),(ii bJ),(ii v2)],200,none⟩),(2,⟨[(.sla 3 1 0 bA (.un 1))],93,none⟩),(3,⟨rows bK.length (Zz bK),3,some ⟨1,bK.length,(Zz bK)⟩⟩),(4,⟨[(.sl 5 0 1 (.un 1))],171,none⟩),(5,(x5i l0)),(6,⟨[(.dat aC.length (Zz aC))],180,none⟩),(7,⟨rows aD.length (Zz aD),88,some ⟨4,aD.length,(Zz aD)⟩⟩)],8,[],true⟩,[⟨⟨29,0,true⟩,(Jb prog 121 [1,1,0,1,0,1,0,1] 5),(Zd prog 121 [1,1,0,1,0,1,0,1] 1),(some 1),[],Yb [(4,(.ptr 0 0)),(21,(ii v1)),(23,(ii v2)),(24,(.dat cB.length (Zz cB)))]⟩,⟨⟨76,0,true⟩,(Jb prog 182 [1,0,0,1,0,0,1,1,0] 2),(Zd prog 182 [1,0,0,1,0,0,1,1,0] 1),none,[],Yb [(0,(.yld 1)),(1,(.ptr 2 0)),(2,(.ptr 4 0)),(4,(ii aZ)),(72,(.yld 1)),(73,(.agg [(ii v1),(ii v2),(.sl 6 0 1 (.ex 1))]))]⟩,⟨⟨29,0,true⟩,none,(.inRangeFunc 1::(Zd prog 121 [1,1,0,1,0] 1)),none,(Zy prog 15),Yb [(2,.nils),(3,(ii 0)),(4,(.ptr 0 0))]⟩],(y7v [(1,⟨.busy,none,29,Yb [(4,(.ptr 0 0))],[11],(Uz prog 121 [1,1,0,1,0,0]),(Uz prog 121 [1,1,0,1,0,1])⟩)])⟩
 | .h4 v2 v8 cN cB aZ aD bH bJ cA cI cM aT=>⟨⟨94,0,true⟩,none,(Zd prog 158 [0,1,0,0,1,0,0] 0),none,[],⟨Yb [(0,(.ptr 0 0)),(2,(ii v2)),(8,(ii v8))],y1l [(0,⟨[(.sla 1 4 0 aD.length (.un 4)),(.dat bH.length (Zz bH)),(ii bJ),(ii cA)],200,none⟩),(1,⟨rows aD.length (Zz aD),88,some ⟨4,aD.length,(Zz aD)⟩⟩),(3,⟨[(.sla 4 1 0 cI (.un 1))],93,none⟩),(4,⟨rows cM.length (Zz cM),3,some ⟨1,cM.length,(Zz cM)⟩⟩),(5,⟨[(.sl 6 0 1 (.un 1))],171,none⟩),(6,(x5i l0)),(7,⟨[(.dat aT.length (Zz aT))],180,none⟩)],8,[],true⟩,[⟨⟨29,0,true⟩,(Jb prog 121 [1,1,0,1,0,1,0,1] 5),(Zd prog 121 [1,1,0,1,0,1,0,1] 1),(some 2),[],Yb [(4,(.ptr 0 0)),(21,(ii cN)),(23,(ii v2)),(24,(.dat cB.length (Zz cB)))]⟩,⟨⟨76,0,true⟩,(Jb prog 182 [1,0,0,1,0,0,1,1,0] 2),(Zd prog 182 [1,0,0,1,0,0,1,1,0] 1),none,[],Yb [(0,(.yld 2)),(1,(.ptr 3 0)),(2,(.ptr 5 0)),(4,(ii aZ)),(72,(.yld 2)),(73,(.agg [(ii cN),(ii v2),(.sl 7 0 1 (.ex 1))]))]⟩,⟨⟨29,0,true⟩,none,(.inRangeFunc 2::(Zd prog 121 [1,1,0,1,0] 1)),none,(Zy prog 15),Yb [(2,.nils),(3,(ii 0)),(4,(.ptr 0 0))]⟩],(y7v [(2,⟨.busy,none,29,Yb [(4,(.ptr 0 0))],[11],(Uz prog 121 [1,1,0,1,0,0]),(Uz prog 121 [1,1,0,1,0,1])⟩)])⟩
def madN0 :List (Option (List Nat)):=[some [1,3,8,9,10,14,15,16],some [2,3,4,9]]
def madM0 :List (Option (List Nat)):=[]
def j3s :List (Option (List Nat)):=[some [0,1,2,4],some [2,3,4]]
def j3t :List (Option (List Nat)):=[some [4],none,none,none,none,none,none]
def u2m :List (Option (List Nat)):=[some [0,1,2,4,5,6,29,30,31,36,37,38],some [2,3,4]]
def u2o :List (Option (List Nat)):=[some [4],none,none,none,none,none,none,none,none,none]
def u2l :List (Option (List Nat)):=[some [0,1,2,71,72,73],some [4,21,23,24],some [0,1,2,4,72,73],some [2,3,4]]
def u2n :List (Option (List Nat)):=[none,some [4],none,none,none,none,none,none]
def madN4 :List (Option (List Nat)):=[some [0,2,8],some [4,21,23,24],some [0,1,2,4,72,73],some [2,3,4]]
def madM4 :List (Option (List Nat)):=[none,none,some [4],none,none,none,none,none]
def Xh (l0:List R4):madS→Xp madS
 | .h0 v16 aA=>(bif (decide (v16<(l0.length:Int))) then (bif ((decide (0≤v16∧v16<(l0.length:Int)))&&true) then (bif (Nat.beq 1 1&&((decide (0+aA.length=aA.length))&&decide ((aA.length+2+1)*(8+1)≤Jd))) then (.to (.h0 (wrap .i64 (v16+1)) (aA++[(rd l0 v16.toNat).a,(rd l0 v16.toNat).c]))) else .stuck) else .stuck) else (bif (decide (aA.length<4611686018427387904)) then (bif (decide (aA.length=aA.length)) then (.to (.h1 1 ([]:List R4) ([]:List R2) 0 0 (v1n (Yy aA.length (cOf (Zz (Xu (Yy aA.length (cOf (Zz aA)))))))) (Wr (Yy aA.length (cOf (Zz (Xu (Yy aA.length (cOf (Zz aA)))))))))) else .stuck) else .stuck))
 | .h1 v4 aV bC bL bM bA bK=>(bif (decide (v4<((bA:Nat):Int))) then (bif ((decide (0≤(wrap .i64 (v4 - 1))∧(wrap .i64 (v4 - 1))<((bA:Nat):Int)))&&true) then (bif (decide ((0+(Int.toNat (wrap .i64 (v4 - 1))))<bK.length)) then (bif ((decide (0≤v4∧v4<((bA:Nat):Int)))&&true) then (bif (decide ((0+v4.toNat)<bK.length)) then (.to (.h2 v4 0 aV bC bL bM bA bK (rd bK (0+(Int.toNat (wrap .i64 (v4 - 1))))) (rd bK (0+v4.toNat)) ([]:List R2))) else .stuck) else .stuck) else .stuck) else .stuck) else (bif (decide ((aV.length:Int)>400)) then (.ret [.nils,(.int .i64 4)]) else (.ret [(.dat aV.length (Zz aV)),(.int .i64 0)])))
 | .h2 v4 v38 aV bC bL bM bA bK aC cK aT=>(bif (decide (v38<(l0.length:Int))) then (bif ((decide (0≤v38∧v38<(l0.length:Int)))&&true) then (bif (decide ((rd l0 v38.toNat).a ≤aC)) then (bif (decide (aC<(rd l0 v38.toNat).c)) then (bif (Nat.beq 2 2&&((decide (0+aT.length=aT.length))&&decide ((aT.length+1+1)*(16+1)≤Jd))) then (.to (.h2 v4 (wrap .i64 (v38+1)) aV bC bL bM bA bK aC cK (aT++[(R2.mk (rd l0 v38.toNat).b (rd l0 v38.toNat).d)]))) else .stuck) else (.to (.h2 v4 (wrap .i64 (v38+1)) aV bC bL bM bA bK aC cK aT))) else (.to (.h2 v4 (wrap .i64 (v38+1)) aV bC bL bM bA bK aC cK aT))) else .stuck) else (bif (y4n (cvT aT)) then (bif (decide ((((Xe (cvT aT)).length :Nat):Int)>0)) then (bif (bM == aC) then (bif (Vs (cvT bC) (cvT (Xe (cvT aT)))) then (bif (Qm (cvT bC) (cvT (Xe (cvT aT)))) then (.to (.h4 cK bL aC (Xe (cvT aT)) v4 aV bC bL bM bA bK aT)) else (.to (.h3 aC cK (Xe (cvT aT)) (((Xe (cvT aT)).length :Nat):Int) 0 (Xe (cvT aT)) v4 aV (Xe (cvT aT)) (aV.length:Int) bA bK aT))) else .stuck) else (.to (.h3 aC cK (Xe (cvT aT)) (((Xe (cvT aT)).length :Nat):Int) 0 (Xe (cvT aT)) v4 aV (Xe (cvT aT)) (aV.length:Int) bA bK aT))) else (.to (.h3 aC cK (Xe (cvT aT)) (((Xe (cvT aT)).length :Nat):Int) 0 (Xe (cvT aT)) v4 aV (Xe (cvT aT)) (aV.length:Int) bA bK aT))) else .stuck))
 | .h3 v1 v2 v71 v72 v73 cB aZ aD bH bJ bA bK aC=>(bif (decide (v73<v72)) then (bif ((decide (0≤v73∧v73<(v71.length:Int)))&&true) then (bif (Nat.beq 4 4&&((decide (0+aD.length=aD.length))&&decide ((aD.length+1+1)*(32+1)≤Jd))) then (.to (.h3 v1 v2 v71 v72 (wrap .i64 (v73+1)) cB aZ (aD++[(R4.mk v1 (rd v71 v73.toNat).a v2 (rd v71 v73.toNat).b)]) bH bJ bA bK aC)) else .stuck) else .stuck) else (.to (.h1 (wrap .i64 (aZ+1)) aD bH bJ v2 bA bK)))
 | .h4 v2 v8 cN cB aZ aD bH bJ cA cI cM aT=>(bif (decide (v8<(aD.length:Int))) then (bif ((decide (0≤v8∧v8<(aD.length:Int)))&&true) then (bif (decide ((0+v8.toNat)<aD.length)) then (.to (.h4 v2 (wrap .i64 (v8+1)) cN cB aZ (aD.set (0+v8.toNat) (R4.mk (rd aD (0+v8.toNat)).a (rd aD (0+v8.toNat)).b v2 (rd aD (0+v8.toNat)).d)) bH bJ cA cI cM aT)) else .stuck) else .stuck) else (.to (.h1 (wrap .i64 (aZ+1)) aD bH bJ v2 cI cM)))
def x2e (l0:List R4):Xp madS:=(.to (.h0 0 ([]:List Int)))
theorem w9g (l0:List R4): ∀s,Yr prog (Zy prog 121) (madC l0) (madC l0 s) (Xh l0 s)
 | .h0 v16 aA=>(lb (fun k0=>(lo fun o0=>(lo fun o1=>(sl Kf 32 [] ⟨[0,1,2,3,7],[],madN0,madM0⟩ ⟨[],[.keep,.keep,.cells [.len (y9v aA l0 v16).length],.keep,.rowed 1 (y9v aA l0 v16).length (Zz (y9v aA l0 v16))],[]⟩ [true] (pp (xL (aA.length+2) (y9v aA l0 v16).length) (pp (xL (aA.length+2) (y9v aA l0 v16).length) (pp (xS (aA.length+2) (Zi (Zz aA) 0 aA.length 1 [(ii (rd l0 (tn v16)).a),(ii (rd l0 (tn v16)).c)]) (Zz (y9v aA l0 v16))) (pp (pp (xF (Zi (Zz aA) 0 aA.length 1 [(ii (rd l0 (tn v16)).a),(ii (rd l0 (tn v16)).c)])) nn) (ww o1 (ww o0 (tt k0 nn))))))))))) (fun k0=>(lo fun o0=>(lo fun o1=>(sl Kf 46 [(88,4,Zz ([]:List R4))] ⟨[5,3,2,4,0,1,6],[],j3s,j3t⟩ ⟨[],[.keep,.cells [.grow 6 4,.list 0 (Zz ([]:List R2)),.keep,.keep],.keep,.rowed 1 (y9y aA).length (Zz (y9y aA)),.keep,.keep,.keep],[]⟩ (bl 2 0) (pp (xL aA.length (y9y aA).length (by first | exact z2l _ _ | exact Vu rfl)) (pp (xS aA.length (Zz (y9y aA)) (Zz (y9y aA))) (pp (fl (y9y aA) (fl ([]:List R4) nn)) (pp (pp (xG (Nat.beq 1 1)) (pp (xG (Nat.beq 1 1)) (pp (xG (Nat.beq 0 0)) (pp (xG (decide (aA.length=aA.length))) (pp (xG (isI (Zz (Xu (Yy aA.length (cOf (Zz aA))))))) (xG (decide (aA.length<4611686018427387904)))))))) (pp (pp (xG (Nat.beq 1 1)) (pp (xG (Nat.beq 1 1)) (pp (xG (Nat.beq 0 0)) (pp (xG (decide (aA.length=aA.length))) (pp (xG (isI (Zz aA))) (xG (decide (aA.length<4611686018427387904)))))))) (tt k0 nn)))))))))))
 | .h1 v4 aV bC bL bM bA bK=>(lb (fun k0=>(lo fun o0=>(lo fun o1=>(lo fun o2=>(lo fun o3=>(sl Kf 48 [(183,2,Zz ([]:List R2))] ⟨[0,1,2,3,4,5,7,8,9,6],[],u2m,u2o⟩ ⟨[],(kpB 7 [.cells [.grow 8 2],.keep,.keep]),[]⟩ (trs 3 []) (pp (fl bK (fl ([]:List R2) (fl aV nn))) (ww o3 (ww o2 (ww o1 (ww o0 (tt k0 nn)))))))))))) (fun k0=>(lb (fun k1=>(lr 29 3 [1,1,1,1,1,1,1,0] 1 15 [(2,.nils),(3,(ii 4))] (sl Kf 43 [] ⟨[],[],[some [2,3]],[]⟩ ⟨[],[],[]⟩ (bl 2 2) (tt k1 (tt k0 nn))))) (fun k1=>(lr 29 3 [1,1,1,1,1,1,1,0] 1 15 [(2,(.dat aV.length (Zz aV))),(3,(ii 0))] (sl Kf 48 [] ⟨[],[6],[some [2,3]],[]⟩ ⟨[(2,.frz aV.length aV.length (Zz aV) (Zz aV))],[],[]⟩ (bl 2 0) (pp (xZ (z6j 4 4 0 aV.length aV.length (Zz aV)) aV.length (Zz aV)) (pp (xL aV.length aV.length) (pp (xS aV.length (Zz aV) (Zz aV)) (pp (fl aV nn) (tt k1 (tt k0 nn))))))))))))
 | .h2 v4 v38 aV bC bL bM bA bK aC cK aT=>(lb (fun k0=>(lo fun aG=>(lb (fun k1=>(lb (fun k2=>(lo fun o0=>(sl Kf 39 [] ⟨[0,1,2,3,4,5,6,7,12,9],[],u2m,u2o⟩ ⟨[],(kpB 7 [.cells [.len (y9x aT l0 v38).length],.rowed 2 (y9x aT l0 v38).length (Zz (y9x aT l0 v38)),.keep]),[]⟩ (trs 7 []) (pp (xL (aT.length+1) (y9x aT l0 v38).length) (pp (xL (aT.length+1) (y9x aT l0 v38).length) (pp (xS (aT.length+1) (Zi (Zz aT) 0 aT.length 2 [(ii (rd l0 (tn v38)).b),(ii (rd l0 (tn v38)).d)]) (Zz (y9x aT l0 v38))) (pp (fl bK (pp (xF (Zi (Zz aT) 0 aT.length 2 [(ii (rd l0 (tn v38)).b),(ii (rd l0 (tn v38)).d)])) (fl aV nn))) (ww o0 (tt k2 (tt k1 (ww aG (tt k0 nn)))))))))))) (fun k2=>(sl Kf 39 [] ⟨(List.range 10),[],u2m,u2o⟩ ⟨[],[],[]⟩ (trs 6 [false]) (pp (fl bK (fl aT (fl aV nn))) (tt k2 (tt k1 (ww aG (tt k0 nn))))))))) (fun k1=>(sl Kf 39 [] ⟨(List.range 10),[],u2m,u2o⟩ ⟨[],[],[]⟩ (bl 7 1) (pp (fl bK (fl aT (fl aV nn))) (tt k1 (ww aG (tt k0 nn))))))))) (fun k0=>(Wo (sl Kf (C':=⟨⟨29,0,true⟩,(Jb prog 121 [1,1,0,1,0,1,0,0] 4),(Zd prog 121 [1,1,0,1,0,1,0,0] 1),(some 0),[],⟨Yb [(4,(.ptr 1 0)),(5,(.ptr 3 0)),(16,(.dat aT.length (Zz aT)))],y1l [(1,⟨[(.sla 2 4 0 aV.length (.un 4)),(.dat bC.length (Zz bC)),(ii bL),(ii bM)],200,none⟩),(2,⟨rows aV.length (Zz aV),88,some ⟨4,aV.length,(Zz aV)⟩⟩),(3,⟨[(ii aC),(ii cK),(.sl 4 0 1 (.ex 1))],205,none⟩),(4,⟨[(.dat aT.length (Zz aT))],180,none⟩),(5,⟨[(.sla 6 1 0 bA (.un 1))],93,none⟩),(6,⟨rows bK.length (Zz bK),3,some ⟨1,bK.length,(Zz bK)⟩⟩),(7,⟨[(.sl 8 0 1 (.un 1))],171,none⟩),(8,⟨[(.dat l0.length (Zz l0))],99,none⟩)],9,[],true⟩,[⟨⟨76,0,true⟩,(Jb prog 182 [1,0,0,1,0,0,1,1,0] 2),(Zd prog 182 [1,0,0,1,0,0,1,1,0] 1),none,[],Yb [(0,(.yld 0)),(1,(.ptr 5 0)),(2,(.ptr 7 0)),(4,(ii v4)),(72,(.yld 0)),(73,(.agg [(ii aC),(ii cK),(.sl 4 0 1 (.ex 1))]))]⟩,⟨⟨29,0,true⟩,none,(.inRangeFunc 0::(Zd prog 121 [1,1,0,1,0] 1)),none,(Zy prog 15),Yb [(2,.nils),(3,(ii 0)),(4,(.ptr 1 0))]⟩],(y7v [(0,⟨.busy,none,29,Yb [(4,(.ptr 1 0))],[11],(Uz prog 121 [1,1,0,1,0,0]),(Uz prog 121 [1,1,0,1,0,1])⟩)])⟩) 37 [] ⟨[0,1,9,10,7,2,3,4,5],[8],[some [4,5,16],some [0,1,2,4,72,73],some [2,3,4]],[some [4],none,none,none,none,none,none,none,none]⟩ ⟨[(16,.frz aT.length aT.length (Zz aT) (Zz aT))],[.keep,.keep,.keep,.keep,.cells [.frz aT.length aT.length (Zz aT) (Zz aT)],.keep,.keep,.keep,.keep],[]⟩ (bl 2 0) (pp (xZ (z6j 2 2 0 aT.length aT.length (Zz aT)) aT.length (Zz aT)) (pp (xL aT.length aT.length) (pp (xS aT.length (Zz aT) (Zz aT)) (pp (xZ (z6j 2 2 0 aT.length aT.length (Zz aT)) aT.length (Zz aT)) (pp (xL aT.length aT.length) (pp (xS aT.length (Zz aT) (Zz aT)) (pp (fl aV (fl bK nn)) (pp (fl aT nn) (tt k0 nn)))))))))) (lo fun aG=>(lb (fun k1=>(lb (fun k2=>(lo fun cJ=>(lb (fun k3=>(sl Kf 49 [] ⟨[1,2,0,5,6,7,8,4],[],madN4,madM4⟩ ⟨[],[],[]⟩ (trs 13 []) (pp (fl aV (fl bK nn)) (tt k3 (pp (pp (xr bC) (pp (xI R2 (Xe (cvT aT)).length (Zz (Xe (cvT aT)))) (xw cJ))) (tt k2 (tt k1 (pp (pp (xr aT) (xw aG)) nn)))))))) (fun k3=>(sl Kf 69 [] ⟨[1,0,5,6,7,8,4,2],[],u2l,u2n⟩ ⟨[],[],[]⟩ (trs 12 [false]) (pp (fl bK (fl aV nn)) (tt k3 (pp (pp (xr bC) (pp (xI R2 (Xe (cvT aT)).length (Zz (Xe (cvT aT)))) (xw cJ))) (tt k2 (tt k1 (pp (pp (xr aT) (xw aG)) nn))))))))))) (fun k2=>(sl Kf 69 [] ⟨[1,0,5,6,7,8,4,2],[],u2l,u2n⟩ ⟨[],[],[]⟩ (trs 6 (bl 7 0)) (pp (fl bK (fl aV nn)) (tt k2 (tt k1 (pp (pp (xr aT) (xw aG)) nn)))))))) (fun k1=>(sl Kf 69 [] ⟨[1,0,5,6,7,8,4,2],[],u2l,u2n⟩ ⟨[],[],[]⟩ (bl 13 0) (pp (fl bK (fl aV nn)) (tt k1 (pp (pp (xr aT) (xw aG)) nn))))))))))
 | .h3 v1 v2 v71 v72 v73 cB aZ aD bH bJ bA bK aC=>(lb (fun k0=>(lo fun o0=>(lo fun o1=>(sl Kf 23 [] ⟨[0,1,2,3,4,5,6,10],[],u2l,u2n⟩ ⟨[],[.cells [.len (y9w aD v1 v71 v73 v2).length,.keep,.keep,.keep],.keep,.keep,.keep,.keep,.keep,.keep,.rowed 4 (y9w aD v1 v71 v73 v2).length (Zz (y9w aD v1 v71 v73 v2))],[]⟩ [true] (pp (xL (aD.length+1) (y9w aD v1 v71 v73 v2).length) (pp (xL (aD.length+1) (y9w aD v1 v71 v73 v2).length) (pp (xS (aD.length+1) (Zi (Zz aD) 0 aD.length 4 [(ii v1),(ii (rd v71 (tn v73)).a),(ii v2),(ii (rd v71 (tn v73)).b)]) (Zz (y9w aD v1 v71 v73 v2))) (pp (fl bK (pp (xF (Zi (Zz aD) 0 aD.length 4 [(ii v1),(ii (rd v71 (tn v73)).a),(ii v2),(ii (rd v71 (tn v73)).b)])) nn)) (ww o1 (ww o0 (tt k0 nn))))))))))) (fun k0=>(sl Kf 22 [] ⟨[1,0,2,3,4,5,7],[],j3s,j3t⟩ ⟨[],[],[]⟩ (bl 2 0) (pp (fl bK (fl aD nn)) (tt k0 nn)))))
 | .h4 v2 v8 cN cB aZ aD bH bJ cA cI cM aT=>(lb (fun k0=>(lo fun o0=>(lo fun o1=>(sl Kf 33 [] ⟨(List.range 8),[],madN4,madM4⟩ ⟨[],[.cells [.len (y9z aD v8 v2).length,.keep,.keep,.keep],.rowed 4 (y9z aD v8 v2).length (Zz (y9z aD v8 v2)),.keep,.keep,.keep,.keep,.keep,.keep],[]⟩ [true] (pp (xL aD.length (y9z aD v8 v2).length) (pp (xL aD.length (y9z aD v8 v2).length) (pp (xS aD.length (Xi (Zz aD) (0+(tn v8)) 2 [(ii v2)]) (Zz (y9z aD v8 v2))) (pp (pp (xF (Xi (Zz aD) (0+(tn v8)) 2 [(ii v2)])) (fl cM nn)) (ww o1 (ww o0 (tt k0 nn))))))))))) (fun k0=>(sl Kf 36 [] ⟨[2,0,3,4,5,6,1],[],j3s,j3t⟩ ⟨[],[],[]⟩ (bl 2 0) (pp (fl cM (fl aD nn)) (tt k0 nn)))))
theorem w0a (l0:List R4):Yr prog (Zy prog 121) (madC l0) (Zb prog 121 [(.dat l0.length (Zz l0))] true []) (x2e l0):=(sl Kf 56 [(3,1,Zz ([]:List Int))] ⟨[2,1,3,0,4],[],madN0,madM0⟩ ⟨[],[.keep,.keep,.cells [.grow 4 1],.keep,.keep],[]⟩ [true] (pp (fl ([]:List Int) nn) nn))
theorem u2k (l0:List R4) (n:Nat) (vs:List AVal) (h:Yz (Xh l0) n (x2e l0)=.ret vs):Ji prog (Zy prog 121) (Zb prog 121 [(.dat l0.length (Zz l0))] true []) vs:=by have:=Ze (w9g l0) n _ (w0a l0);rwa [h] at this
end Go.Am
end
