/- A part of a proof: several texts in one. -/
import Derived.Test.YtmanggcjimaehaaGreatLb2
import Derived.Sort.AssemblyPlain
import Derived.Lib.BitFns
import Derived.Shelf.GgSortFunc.InsertionK
import Derived.Shelf.Sort.Plain
import Derived.Ground.Names2Prog
import Derived.Shelf.Slices.CompactI
import Derived.Shelf.Slices.SearchI
import Derived.Shelf.Slices.Cells
import Derived.Shelf.Slices.In.SortNone
import Derived.Shelf.SlSortCmp.WholeK
import Derived.Ground.SlsfProg
import Derived.Test.YtmanggcjimaehaaGreatProg
import Derived.Shelf.SlSortCmp.NoneTotal
set_option maxRecDepth 1000000
set_option maxHeartbeats 8000000
set_option linter.unusedVariables false
set_option linter.unusedSimpArgs false
noncomputable section
namespace Go.Am
open Go.Proofs.Tryz
open Go.Proofs
inductive rsortS where
 | h0 (v3:List Int) (v4:Int)
 | h1 (v3:List Int) (v4:Int) (v5:Int)
abbrev Uo (v3:List Int) (v5:Int) (l0:List Int) (v4:Int):=((v0g (v3++[0]) (0+(tn (wr (v5+1)))) (Nat.min ((v3.length+1) - (tn v5)) ((v3.length+1) - (tn (wr (v5+1))))) (z2z (v3++[0]) (0+(tn v5)) ((v3.length+1) - (tn v5)))).set (0+(tn v5)) (rd l0 (tn v4)))
abbrev Kx (v3:List Int):=(Zh (Zz v3) 0 v3.length 1 [(ii 0)])
abbrev y0p (v3:List Int) (v5:Int):=(Nat.min ((v3.length+1) - (tn v5)) ((v3.length+1) - (tn (wr (v5+1)))))
def w5z (l0:List Int):rsortS→Cfg
 | .h0 v3 v4=>⟨⟨63,0,true⟩,none,(Zd prog 70 [1,1,0,1,0,0] 0),none,(Zy prog 3),⟨Ya [(0,(.dat l0.length (Zz l0))),(3,(.sla 0 1 0 v3.length (.un 1))),(4,(ii v4))],Uq [⟨rows v3.length (Zz v3),3,some ⟨1,v3.length,(Zz v3)⟩⟩] 0,1,[],true⟩,[],.leaf⟩
 | .h1 v3 v4 v5=>⟨⟨63,0,true⟩,none,(Zd prog 70 [1,1,0,1,0,0,1,0,0,1,0,0,0] 0),none,(Zy prog 3),⟨Ya [(0,(.dat l0.length (Zz l0))),(3,(.sla 0 1 0 v3.length (.un 1))),(4,(ii v4)),(5,(ii v5))],Uq [⟨rows v3.length (Zz v3),3,some ⟨1,v3.length,(Zz v3)⟩⟩] 0,1,[],true⟩,[],.leaf⟩
def y8g :List (Option (List Nat)):=[some [0,3,4]]
def y8h :List (Option (List Nat)):=[]
def w5x :List (Option (List Nat)):=[some [0,3,4,5]]
def w5y :List (Option (List Nat)):=[]
def Vg (l0:List Int):rsortS→Xf rsortS
 | .h0 v3 v4=>(bif (decide (v4<(l0.length:Int))) then (.to (.h1 v3 v4 (v3.length:Int))) else (.ret [(.dat v3.length (Zz v3))]))
 | .h1 v3 v4 v5=>(bif (decide (v5>0)) then (bif ((decide (0≤(IntKind.wrap .i64 (v5 - 1))∧(IntKind.wrap .i64 (v5 - 1))<(v3.length:Int)))&&true) then (bif (decide ((0+(Int.toNat (IntKind.wrap .i64 (v5 - 1))))<v3.length)) then (bif ((decide (0≤v4∧v4<(l0.length:Int)))&&true) then (bif (decide ((rd v3 (0+(Int.toNat (IntKind.wrap .i64 (v5 - 1)))))>(rd l0 v4.toNat))) then (.to (.h1 v3 v4 (IntKind.wrap .i64 (v5 - 1)))) else (bif ((rd v3 (0+(Int.toNat (IntKind.wrap .i64 (v5 - 1))))) == (rd l0 v4.toNat)) then (.to (.h0 v3 (IntKind.wrap .i64 (v4+1)))) else (bif (Nat.beq 1 1&&((decide (0+v3.length=v3.length))&&decide ((v3.length+1+1)*(8+1)≤Ur))) then (bif (true&&((decide (0≤(IntKind.wrap .i64 (v5+1))))&&(decide ((v3.length+1)≤(v3.length+1))&&decide ((Int.toNat (IntKind.wrap .i64 (v5+1)))≤(v3.length+1))))) then (bif (true&&((decide (0≤v5))&&(decide ((v3.length+1)≤(v3.length+1))&&decide (v5.toNat≤(v3.length+1))))) then (bif (decide ((0+v5.toNat)+((v3.length+1) - v5.toNat)≤(v3.length+1))) then (bif (decide ((0+(Int.toNat (IntKind.wrap .i64 (v5+1))))+((v3.length+1) - (Int.toNat (IntKind.wrap .i64 (v5+1))))≤(v3.length+1))) then (bif ((decide (0≤v5∧v5<(((v3.length+1):Nat):Int)))&&true) then (bif (decide ((0+v5.toNat)<(v3.length+1))) then (.to (.h0 ((v0g (v3++[0]) (0+(Int.toNat (IntKind.wrap .i64 (v5+1)))) (Nat.min ((v3.length+1) - v5.toNat) ((v3.length+1) - (Int.toNat (IntKind.wrap .i64 (v5+1))))) (z2z (v3++[0]) (0+v5.toNat) ((v3.length+1) - v5.toNat))).set (0+v5.toNat) (rd l0 v4.toNat)) (IntKind.wrap .i64 (v4+1)))) else .stuck) else .stuck) else .stuck) else .stuck) else .stuck) else .stuck) else .stuck))) else .stuck) else .stuck) else .stuck) else (bif (Nat.beq 1 1&&((decide (0+v3.length=v3.length))&&decide ((v3.length+1+1)*(8+1)≤Ur))) then (bif (true&&((decide (0≤(IntKind.wrap .i64 (v5+1))))&&(decide ((v3.length+1)≤(v3.length+1))&&decide ((Int.toNat (IntKind.wrap .i64 (v5+1)))≤(v3.length+1))))) then (bif (true&&((decide (0≤v5))&&(decide ((v3.length+1)≤(v3.length+1))&&decide (v5.toNat≤(v3.length+1))))) then (bif (decide ((0+v5.toNat)+((v3.length+1) - v5.toNat)≤(v3.length+1))) then (bif (decide ((0+(Int.toNat (IntKind.wrap .i64 (v5+1))))+((v3.length+1) - (Int.toNat (IntKind.wrap .i64 (v5+1))))≤(v3.length+1))) then (bif ((decide (0≤v4∧v4<(l0.length:Int)))&&true) then (bif ((decide (0≤v5∧v5<(((v3.length+1):Nat):Int)))&&true) then (bif (decide ((0+v5.toNat)<(v3.length+1))) then (.to (.h0 ((v0g (v3++[0]) (0+(Int.toNat (IntKind.wrap .i64 (v5+1)))) (Nat.min ((v3.length+1) - v5.toNat) ((v3.length+1) - (Int.toNat (IntKind.wrap .i64 (v5+1))))) (z2z (v3++[0]) (0+v5.toNat) ((v3.length+1) - v5.toNat))).set (0+v5.toNat) (rd l0 v4.toNat)) (IntKind.wrap .i64 (v4+1)))) else .stuck) else .stuck) else .stuck) else .stuck) else .stuck) else .stuck) else .stuck) else .stuck))
def z3o (l0:List Int):Xf rsortS:=(.to (.h0 ([]:List Int) 0))
theorem x0s (l0:List Int): ∀s,Xj prog (Zy prog 70) (w5z l0) (w5z l0 s) (Vg l0 s)
 | .h0 v3 v4=>(lb (fun k0=>(sl Zp 21 [] ⟨[0],[],w5x,w5y⟩ ⟨[],[],[]⟩ [true] (pp (fl v3 nn) (tt k0 nn)))) (fun k0=>(lr 63 3 [1,1,1,1,1,1,1,0] 1 3 [(2,(.dat v3.length (Zz v3)))] (sl Zp 15 [] ⟨[],[0],[some [2]],[]⟩ ⟨[(2,.frz v3.length v3.length (Zz v3) (Zz v3))],[],[]⟩ [false] (pp (xZ (z5d 1 1 0 v3.length v3.length (Zz v3)) v3.length (Zz v3)) (pp (xL v3.length v3.length) (pp (xS v3.length (Zz v3) (Zz v3)) (pp (fl v3 nn) (tt k0 nn)))))))))
 | .h1 v3 v4 v5=>(lb (fun k0=>(lo fun aG=>(lo fun bB=>(lo fun bZ=>(lb (fun k1=>(sl Zp 13 [] ⟨[0],[],w5x,w5y⟩ ⟨[],[],[]⟩ (trs 11 []) (pp (fl v3 nn) (tt k1 (ww bZ (ww bB (ww aG (tt k0 nn)))))))) (fun k1=>(lb (fun k2=>(sl Zp 16 [] ⟨[0],[],y8g,y8h⟩ ⟨[],[],[]⟩ (trs 10 (bl 12 4094)) (pp (fl v3 nn) (tt k2 (ww bZ (ww bB (ww aG (tt k0 (tt k1 (ww bZ (ww bB (ww aG (tt k0 nn))))))))))))) (fun k2=>(lo fun o0=>(lo fun o1=>(lo fun o2=>(lo fun o3=>(lo fun o4=>(lo fun o5=>(lo fun o6=>(sl Zp 36 [] ⟨[2],[],y8g,y8h⟩ ⟨[(3,.len (Uo v3 v5 l0 v4).length)],[.rowed 1 (Uo v3 v5 l0 v4).length (Zz (Uo v3 v5 l0 v4))],[]⟩ (trs 10 (bl 12 2046)) (pp (xL (v3.length+1) (Uo v3 v5 l0 v4).length) (pp (xL (v3.length+1) (Uo v3 v5 l0 v4).length) (pp (xS (v3.length+1) (Xb (Uu (Kx v3) (0+(tn (wr (v5+1)))) (y0p v3 v5) (fun k=>(Kx v3) ((0+(tn v5))+k))) (0+(tn v5)) 0 [(ii (rd l0 (tn v4)))]) (Zz (Uo v3 v5 l0 v4))) (pp (pp (xF (Xb (Uu (Kx v3) (0+(tn (wr (v5+1)))) (y0p v3 v5) (fun k=>(Kx v3) ((0+(tn v5))+k))) (0+(tn v5)) 0 [(ii (rd l0 (tn v4)))])) nn) (ww o6 (ww o5 (ww bZ (pp (pp (xG (Nat.beq 1 1)) (pp (xG (Nat.beq 1 1)) (pp (xw o4) (pp (xG (Nat.beq 1 1)) (pp (xG (Nat.beq 1 1)) (pp (xG (decide ((0+(tn v5))+((v3.length+1) - (tn v5))≤(v3.length+1)))) (xG (x2n 1 ((v3.length+1) - (tn v5)) (fun k=>(Kx v3) ((0+(tn v5))+k)))))))))) (ww o2 (ww o1 (ww o0 (tt k2 (ww bZ (ww bB (ww aG (tt k0 (tt k1 (ww bZ (ww bB (ww aG (tt k0 nn))))))))))))))))))))))))))))))))))))) (fun k0=>(lo fun o0=>(lo fun o1=>(lo fun o2=>(lo fun o3=>(lo fun o4=>(lo fun o5=>(lo fun o6=>(lo fun o7=>(sl Zp 36 [] ⟨[2],[],y8g,y8h⟩ ⟨[(3,.len (Uo v3 v5 l0 v4).length)],[.rowed 1 (Uo v3 v5 l0 v4).length (Zz (Uo v3 v5 l0 v4))],[]⟩ (bl 22 0) (pp (xL (v3.length+1) (Uo v3 v5 l0 v4).length) (pp (xL (v3.length+1) (Uo v3 v5 l0 v4).length) (pp (xS (v3.length+1) (Xb (Uu (Kx v3) (0+(tn (wr (v5+1)))) (y0p v3 v5) (fun k=>(Kx v3) ((0+(tn v5))+k))) (0+(tn v5)) 0 [(ii (rd l0 (tn v4)))]) (Zz (Uo v3 v5 l0 v4))) (pp (pp (xF (Xb (Uu (Kx v3) (0+(tn (wr (v5+1)))) (y0p v3 v5) (fun k=>(Kx v3) ((0+(tn v5))+k))) (0+(tn v5)) 0 [(ii (rd l0 (tn v4)))])) nn) (ww o7 (ww o6 (ww o5 (pp (pp (xG (Nat.beq 1 1)) (pp (xG (Nat.beq 1 1)) (pp (xw o4) (pp (xG (Nat.beq 1 1)) (pp (xG (Nat.beq 1 1)) (pp (xG (decide ((0+(tn v5))+((v3.length+1) - (tn v5))≤(v3.length+1)))) (xG (x2n 1 ((v3.length+1) - (tn v5)) (fun k=>(Kx v3) ((0+(tn v5))+k)))))))))) (ww o2 (ww o1 (ww o0 (tt k0 (tt k0 nn))))))))))))))))))))))))
theorem y8f (l0:List Int):Xj prog (Zy prog 70) (w5z l0) (Ze prog 70 [(.dat l0.length (Zz l0))] true []) (z3o l0):=(sl Zp 15 [(3,1,Zz ([]:List Int))] ⟨[0],[],y8g,y8h⟩ ⟨[(3,.grow 0 1)],[],[]⟩ [] (pp (fl ([]:List Int) nn) nn))
theorem w1s (l0:List Int) (n:Nat) (vs:List AVal) (h:Yv (Vg l0) n (z3o l0)=.ret vs):Ky prog (Zy prog 70) (Ze prog 70 [(.dat l0.length (Zz l0))] true []) vs:=by have:=Zr (x0s l0) n _ (y8f l0);rwa [h] at this
inductive rcanS where
 | h0 (v5:List R2) (v6:Int)
def u2z (l0:List Int) (l1:List Bool):rcanS→Cfg
 | .h0 v5 v6=>⟨⟨61,0,true⟩,none,(Zd prog 142 [1,1,0,1,0,0] 0),none,(Zy prog 5),⟨Ya [(0,(.dat l0.length (Zz l0))),(1,(.dat l1.length (Zz l1))),(5,(.sla 0 2 0 v5.length (.un 2))),(6,(ii v6))],Uq [⟨rows v5.length (Zz v5),183,some ⟨2,v5.length,(Zz v5)⟩⟩] 0,1,[],true⟩,[],.leaf⟩
def x1f :List (Option (List Nat)):=[some [0,1,5,6]]
def x1g :List (Option (List Nat)):=[]
def Kn (l0:List Int) (l1:List Bool):rcanS→Xf rcanS
 | .h0 v5 v6=>(bif (decide ((IntKind.wrap .i64 (v6+1))<(l0.length:Int))) then (bif ((decide (0≤v6∧v6<(l1.length:Int)))&&true) then (bif (!(rd l1 v6.toNat)) then (.to (.h0 v5 (IntKind.wrap .i64 (v6+1)))) else (bif (decide ((v5.length:Int)>0)) then (bif ((decide (0≤(IntKind.wrap .i64 ((v5.length:Int) - 1))∧(IntKind.wrap .i64 ((v5.length:Int) - 1))<(v5.length:Int)))&&true) then (bif (decide ((0+(Int.toNat (IntKind.wrap .i64 ((v5.length:Int) - 1))))<v5.length)) then (bif ((decide (0≤v6∧v6<(l0.length:Int)))&&true) then (bif ((rd v5 (0+(Int.toNat (IntKind.wrap .i64 ((v5.length:Int) - 1))))).b == (rd l0 v6.toNat)) then (bif ((decide (0≤(IntKind.wrap .i64 (v6+1))∧(IntKind.wrap .i64 (v6+1))<(l0.length:Int)))&&true) then (.to (.h0 (v5.set (0+(Int.toNat (IntKind.wrap .i64 ((v5.length:Int) - 1)))) (R2.mk (rd v5 (0+(Int.toNat (IntKind.wrap .i64 ((v5.length:Int) - 1))))).a (rd l0 (Int.toNat (IntKind.wrap .i64 (v6+1)))))) (IntKind.wrap .i64 (v6+1)))) else .stuck) else (bif ((decide (0≤(IntKind.wrap .i64 (v6+1))∧(IntKind.wrap .i64 (v6+1))<(l0.length:Int)))&&true) then (bif (Nat.beq 2 2&&((decide (0+v5.length=v5.length))&&decide ((v5.length+1+1)*(16+1)≤Ur))) then (.to (.h0 (v5++[(R2.mk (rd l0 v6.toNat) (rd l0 (Int.toNat (IntKind.wrap .i64 (v6+1)))))]) (IntKind.wrap .i64 (v6+1)))) else .stuck) else .stuck)) else .stuck) else .stuck) else .stuck) else (bif ((decide (0≤v6∧v6<(l0.length:Int)))&&true) then (bif ((decide (0≤(IntKind.wrap .i64 (v6+1))∧(IntKind.wrap .i64 (v6+1))<(l0.length:Int)))&&true) then (bif (Nat.beq 2 2&&((decide (0+v5.length=v5.length))&&decide ((v5.length+1+1)*(16+1)≤Ur))) then (.to (.h0 (v5++[(R2.mk (rd l0 v6.toNat) (rd l0 (Int.toNat (IntKind.wrap .i64 (v6+1)))))]) (IntKind.wrap .i64 (v6+1)))) else .stuck) else .stuck) else .stuck))) else .stuck) else (.ret [(.dat v5.length (Zz v5))]))
def z6f (l0:List Int) (l1:List Bool):Xf rcanS:=(.to (.h0 ([]:List R2) 0))
theorem x5b (l0:List Int) (l1:List Bool): ∀s,Xj prog (Zy prog 142) (u2z l0 l1) (u2z l0 l1 s) (Kn l0 l1 s)
 | .h0 v5 v6=>(lb (fun k0=>(lo fun aG=>(lb (fun k1=>(sl Zp 30 [] ⟨[0],[],x1f,x1g⟩ ⟨[],[],[]⟩ (bl 2 3) (pp (fl v5 nn) (tt k1 (ww aG (tt k0 nn)))))) (fun k1=>(lb (fun k2=>(lo fun cB=>(lo fun cR=>(lo fun cS=>(lb (fun k3=>(lo fun o0=>(sl Zp 53 [] ⟨[0],[],x1f,x1g⟩ ⟨[(5,.len (v5.set (0+(tn (wr ((v5.length:Int) - 1)))) (R2.mk (rd v5 (0+(tn (wr ((v5.length:Int) - 1))))).a (rd l0 (tn (wr (v6+1)))))).length)],[.rowed 2 (v5.set (0+(tn (wr ((v5.length:Int) - 1)))) (R2.mk (rd v5 (0+(tn (wr ((v5.length:Int) - 1))))).a (rd l0 (tn (wr (v6+1)))))).length (Zz (v5.set (0+(tn (wr ((v5.length:Int) - 1)))) (R2.mk (rd v5 (0+(tn (wr ((v5.length:Int) - 1))))).a (rd l0 (tn (wr (v6+1)))))))],[]⟩ (bl 14 16381) (pp (xL v5.length (v5.set (0+(tn (wr ((v5.length:Int) - 1)))) (R2.mk (rd v5 (0+(tn (wr ((v5.length:Int) - 1))))).a (rd l0 (tn (wr (v6+1)))))).length) (pp (xL v5.length (v5.set (0+(tn (wr ((v5.length:Int) - 1)))) (R2.mk (rd v5 (0+(tn (wr ((v5.length:Int) - 1))))).a (rd l0 (tn (wr (v6+1)))))).length) (pp (xS v5.length (Xb (Zz v5) (0+(tn (wr ((v5.length:Int) - 1)))) 1 [(ii (rd l0 (tn (wr (v6+1)))))]) (Zz (v5.set (0+(tn (wr ((v5.length:Int) - 1)))) (R2.mk (rd v5 (0+(tn (wr ((v5.length:Int) - 1))))).a (rd l0 (tn (wr (v6+1)))))))) (pp (pp (xF (Xb (Zz v5) (0+(tn (wr ((v5.length:Int) - 1)))) 1 [(ii (rd l0 (tn (wr (v6+1)))))])) nn) (ww cR (ww cB (ww o0 (tt k3 (ww cS (ww cR (ww cB (tt k2 (tt k1 (ww aG (tt k0 nn)))))))))))))))))) (fun k3=>(lo fun o0=>(lo fun o1=>(sl Zp 41 [] ⟨[2],[],x1f,x1g⟩ ⟨[(5,.len (v5++[(R2.mk (rd l0 (tn v6)) (rd l0 (tn (wr (v6+1)))))]).length)],[.rowed 2 (v5++[(R2.mk (rd l0 (tn v6)) (rd l0 (tn (wr (v6+1)))))]).length (Zz (v5++[(R2.mk (rd l0 (tn v6)) (rd l0 (tn (wr (v6+1)))))]))],[]⟩ (bl 14 8189) (pp (xL (v5.length+1) (v5++[(R2.mk (rd l0 (tn v6)) (rd l0 (tn (wr (v6+1)))))]).length) (pp (xL (v5.length+1) (v5++[(R2.mk (rd l0 (tn v6)) (rd l0 (tn (wr (v6+1)))))]).length) (pp (xS (v5.length+1) (Zh (Zz v5) 0 v5.length 2 [(ii (rd l0 (tn v6))),(ii (rd l0 (tn (wr (v6+1)))))]) (Zz (v5++[(R2.mk (rd l0 (tn v6)) (rd l0 (tn (wr (v6+1)))))]))) (pp (pp (xF (Zh (Zz v5) 0 v5.length 2 [(ii (rd l0 (tn v6))),(ii (rd l0 (tn (wr (v6+1)))))])) nn) (ww o1 (ww o0 (ww cS (tt k3 (ww cS (ww cR (ww cB (tt k2 (tt k1 (ww aG (tt k0 nn)))))))))))))))))))))))) (fun k2=>(lo fun o0=>(lo fun o1=>(lo fun o2=>(sl Zp 41 [] ⟨[2],[],x1f,x1g⟩ ⟨[(5,.len (v5++[(R2.mk (rd l0 (tn v6)) (rd l0 (tn (wr (v6+1)))))]).length)],[.rowed 2 (v5++[(R2.mk (rd l0 (tn v6)) (rd l0 (tn (wr (v6+1)))))]).length (Zz (v5++[(R2.mk (rd l0 (tn v6)) (rd l0 (tn (wr (v6+1)))))]))],[]⟩ (bl 14 1) (pp (xL (v5.length+1) (v5++[(R2.mk (rd l0 (tn v6)) (rd l0 (tn (wr (v6+1)))))]).length) (pp (xL (v5.length+1) (v5++[(R2.mk (rd l0 (tn v6)) (rd l0 (tn (wr (v6+1)))))]).length) (pp (xS (v5.length+1) (Zh (Zz v5) 0 v5.length 2 [(ii (rd l0 (tn v6))),(ii (rd l0 (tn (wr (v6+1)))))]) (Zz (v5++[(R2.mk (rd l0 (tn v6)) (rd l0 (tn (wr (v6+1)))))]))) (pp (pp (xF (Zh (Zz v5) 0 v5.length 2 [(ii (rd l0 (tn v6))),(ii (rd l0 (tn (wr (v6+1)))))])) nn) (ww o2 (ww o1 (ww o0 (tt k2 (tt k1 (ww aG (tt k0 nn))))))))))))))))))))) (fun k0=>(lr 61 3 [1,1,1,1,1,1,1,0] 1 5 [(4,(.dat v5.length (Zz v5)))] (sl Zp 16 [] ⟨[],[0],[some [4]],[]⟩ ⟨[(4,.frz v5.length v5.length (Zz v5) (Zz v5))],[],[]⟩ [false] (pp (xZ (z5d 2 2 0 v5.length v5.length (Zz v5)) v5.length (Zz v5)) (pp (xL v5.length v5.length) (pp (xS v5.length (Zz v5) (Zz v5)) (pp (fl v5 nn) (tt k0 nn)))))))))
theorem x1e (l0:List Int) (l1:List Bool):Xj prog (Zy prog 142) (u2z l0 l1) (Ze prog 142 [(.dat l0.length (Zz l0)),(.dat l1.length (Zz l1))] true []) (z6f l0 l1):=(sl Zp 15 [(183,2,Zz ([]:List R2))] ⟨[0],[],x1f,x1g⟩ ⟨[(5,.grow 0 2)],[],[]⟩ [] (pp (fl ([]:List R2) nn) nn))
theorem w7a (l0:List Int) (l1:List Bool) (n:Nat) (vs:List AVal) (h:Yv (Kn l0 l1) n (z6f l0 l1)=.ret vs):Ky prog (Zy prog 142) (Ze prog 142 [(.dat l0.length (Zz l0)),(.dat l1.length (Zz l1))] true []) vs:=by have:=Zr (x5b l0 l1) n _ (x1e l0 l1);rwa [h] at this
inductive rsmS where
 | h0 (v5:Int)
def rsmC (l0:List R2) (l1:List R2):rsmS→Cfg
 | .h0 v5=>⟨⟨26,0,true⟩,none,(Zd prog 169 [1,1,0,1,0,0] 0),none,(Zy prog 5),⟨Ya [(0,(.dat l0.length (Zz l0))),(1,(.dat l1.length (Zz l1))),(5,(ii v5))],Uq [] 0,0,[],true⟩,[],.leaf⟩
def rsmN0 :List (Option (List Nat)):=[some [0,1,5]]
def rsmM0 :List (Option (List Nat)):=[]
def z4u (l0:List R2) (l1:List R2):rsmS→Xf rsmS
 | .h0 v5=>(bif (decide (v5<(l0.length:Int))) then (bif ((decide (0≤v5∧v5<(l0.length:Int)))&&true) then (bif ((decide (0≤v5∧v5<(l1.length:Int)))&&true) then (bif (!(((rd l0 v5.toNat).a == (rd l1 v5.toNat).a)&&(((rd l0 v5.toNat).b == (rd l1 v5.toNat).b)&&true))) then (.ret [(.bool false)]) else (.to (.h0 (IntKind.wrap .i64 (v5+1))))) else .stuck) else .stuck) else (.ret [(.bool true)]))
def z5u (l0:List R2) (l1:List R2):Xf rsmS:=(bif ((l0.length:Int) != (l1.length:Int)) then (.ret [(.bool false)]) else (.to (.h0 0)))
theorem w1t (l0:List R2) (l1:List R2): ∀s,Xj prog (Zy prog 169) (rsmC l0 l1) (rsmC l0 l1 s) (z4u l0 l1 s)
 | .h0 v5=>(lb (fun k0=>(lo fun aG=>(lo fun bB=>(lb (fun k1=>(lr 26 169 [1,1,0,1,0,0,1,0,0,1,0,0] 1 5 [(4,(.bool false))] (sl Zp 19 [] ⟨[],[],[some [4]],[]⟩ ⟨[],[],[]⟩ (bl 2 3) (tt k1 (ww bB (ww aG (tt k0 nn))))))) (fun k1=>(sl Zp 23 [] ⟨[],[],rsmN0,rsmM0⟩ ⟨[],[],[]⟩ (bl 2 1) (tt k1 (ww bB (ww aG (tt k0 nn)))))))))) (fun k0=>(lr 26 3 [1,1,1,1,1,1,1,0] 1 5 [(4,(.bool true))] (sl Zp 14 [] ⟨[],[],[some [4]],[]⟩ ⟨[],[],[]⟩ [false] (tt k0 nn)))))
theorem x4k (l0:List R2) (l1:List R2):Xj prog (Zy prog 169) (rsmC l0 l1) (Ze prog 169 [(.dat l0.length (Zz l0)),(.dat l1.length (Zz l1))] true []) (z5u l0 l1):=(lb (fun k0=>(lr 26 169 [1,0,1,0,0] 1 5 [(4,(.bool false))] (sl Zp 18 [] ⟨[],[],[some [4]],[]⟩ ⟨[],[],[]⟩ [true] (tt k0 nn)))) (fun k0=>(sl Zp 22 [] ⟨[],[],rsmN0,rsmM0⟩ ⟨[],[],[]⟩ [false] (tt k0 nn))))
theorem v2l (l0:List R2) (l1:List R2) (n:Nat) (vs:List AVal) (h:Yv (z4u l0 l1) n (z5u l0 l1)=.ret vs):Ky prog (Zy prog 169) (Ze prog 169 [(.dat l0.length (Zz l0)),(.dat l1.length (Zz l1))] true []) vs:=by have:=Zr (w1t l0 l1) n _ (x4k l0 l1);rwa [h] at this
inductive rhasS where
 | h0 (v7:Int)
def u2q (l0:List R4) (x1:Int) (x2:Int):rhasS→Cfg
 | .h0 v7=>⟨⟨48,0,true⟩,none,(Zd prog 168 [1,0,1,0,0] 0),none,(Zy prog 8),⟨Ya [(0,(.dat l0.length (Zz l0))),(1,(ii x1)),(2,(ii x2)),(7,(ii v7))],Uq [] 0,0,[],true⟩,[],.leaf⟩
def x0v :List (Option (List Nat)):=[some [0,1,2,7]]
def x0w :List (Option (List Nat)):=[]
def z3r (l0:List R4) (x1:Int) (x2:Int):rhasS→Xf rhasS
 | .h0 v7=>(bif (decide (v7<(l0.length:Int))) then (bif ((decide (0≤v7∧v7<(l0.length:Int)))&&true) then (bif (decide ((rd l0 v7.toNat).a ≤x1)) then (bif (decide (x1<(rd l0 v7.toNat).c)) then (bif (decide ((rd l0 v7.toNat).b ≤x2)) then (bif (decide (x2<(rd l0 v7.toNat).d)) then (.ret [(.bool true)]) else (.to (.h0 (IntKind.wrap .i64 (v7+1))))) else (.to (.h0 (IntKind.wrap .i64 (v7+1))))) else (.to (.h0 (IntKind.wrap .i64 (v7+1))))) else (.to (.h0 (IntKind.wrap .i64 (v7+1))))) else .stuck) else (.ret [(.bool false)]))
def z5y (l0:List R4) (x1:Int) (x2:Int):Xf rhasS:=(.to (.h0 0))
theorem x4s (l0:List R4) (x1:Int) (x2:Int): ∀s,Xj prog (Zy prog 168) (u2q l0 x1 x2) (u2q l0 x1 x2 s) (z3r l0 x1 x2 s)
 | .h0 v7=>(lb (fun k0=>(lo fun aG=>(lb (fun k1=>(lb (fun k2=>(lb (fun k3=>(lb (fun k4=>(lr 48 168 [1,0,1,0,0,1,0,0,1,0,0] 1 8 [(6,(.bool true))] (sl Zp 54 [] ⟨[],[],[some [6]],[]⟩ ⟨[],[],[]⟩ (trs 23 []) (tt k4 (ww aG (tt k3 (ww aG (tt k2 (ww aG (tt k1 (ww aG (tt k0 nn)))))))))))) (fun k4=>(sl Zp 58 [] ⟨[],[],x0v,x0w⟩ ⟨[],[],[]⟩ (trs 22 [false]) (tt k4 (ww aG (tt k3 (ww aG (tt k2 (ww aG (tt k1 (ww aG (tt k0 nn))))))))))))) (fun k3=>(sl Zp 58 [] ⟨[],[],x0v,x0w⟩ ⟨[],[],[]⟩ (trs 15 (bl 8 0)) (tt k3 (ww aG (tt k2 (ww aG (tt k1 (ww aG (tt k0 nn))))))))))) (fun k2=>(sl Zp 58 [] ⟨[],[],x0v,x0w⟩ ⟨[],[],[]⟩ (trs 8 (bl 15 0)) (tt k2 (ww aG (tt k1 (ww aG (tt k0 nn))))))))) (fun k1=>(sl Zp 58 [] ⟨[],[],x0v,x0w⟩ ⟨[],[],[]⟩ (bl 23 1) (tt k1 (ww aG (tt k0 nn)))))))) (fun k0=>(lr 48 3 [1,1,1,1,1,1,1,0] 1 8 [(6,(.bool false))] (sl Zp 14 [] ⟨[],[],[some [6]],[]⟩ ⟨[],[],[]⟩ [false] (tt k0 nn)))))
theorem x0u (l0:List R4) (x1:Int) (x2:Int):Xj prog (Zy prog 168) (u2q l0 x1 x2) (Ze prog 168 [(.dat l0.length (Zz l0)),(.int .i64 x1),(.int .i64 x2)] true []) (z5y l0 x1 x2):=(sl Zp 11 [] ⟨[],[],x0v,x0w⟩ ⟨[],[],[]⟩ [] nn)
theorem w6j (l0:List R4) (x1:Int) (x2:Int) (n:Nat) (vs:List AVal) (h:Yv (z3r l0 x1 x2) n (z5y l0 x1 x2)=.ret vs):Ky prog (Zy prog 168) (Ze prog 168 [(.dat l0.length (Zz l0)),(.int .i64 x1),(.int .i64 x2)] true []) vs:=by have:=Zr (x4s l0 x1 x2) n _ (x0u l0 x1 x2);rwa [h] at this
inductive rsrS where
 | h0 (v5:Int)
def rsrC (l0:List R4) (l1:List R4):rsrS→Cfg
 | .h0 v5=>⟨⟨26,0,true⟩,none,(Zd prog 128 [1,1,0,1,0,0] 0),none,(Zy prog 5),⟨Ya [(0,(.dat l0.length (Zz l0))),(1,(.dat l1.length (Zz l1))),(5,(ii v5))],Uq [] 0,0,[],true⟩,[],.leaf⟩
def rsrN0 :List (Option (List Nat)):=[some [0,1,5]]
def rsrM0 :List (Option (List Nat)):=[]
def z4t (l0:List R4) (l1:List R4):rsrS→Xf rsrS
 | .h0 v5=>(bif (decide (v5<(l0.length:Int))) then (bif ((decide (0≤v5∧v5<(l0.length:Int)))&&true) then (bif ((decide (0≤v5∧v5<(l1.length:Int)))&&true) then (bif (!(((rd l0 v5.toNat).a == (rd l1 v5.toNat).a)&&(((rd l0 v5.toNat).b == (rd l1 v5.toNat).b)&&(((rd l0 v5.toNat).c == (rd l1 v5.toNat).c)&&(((rd l0 v5.toNat).d == (rd l1 v5.toNat).d)&&true))))) then (.ret [(.bool false)]) else (.to (.h0 (IntKind.wrap .i64 (v5+1))))) else .stuck) else .stuck) else (.ret [(.bool true)]))
def z5t (l0:List R4) (l1:List R4):Xf rsrS:=(bif ((l0.length:Int) != (l1.length:Int)) then (.ret [(.bool false)]) else (.to (.h0 0)))
theorem w1r (l0:List R4) (l1:List R4): ∀s,Xj prog (Zy prog 128) (rsrC l0 l1) (rsrC l0 l1 s) (z4t l0 l1 s)
 | .h0 v5=>(lb (fun k0=>(lo fun aG=>(lo fun bB=>(lb (fun k1=>(lr 26 128 [1,1,0,1,0,0,1,0,0,1,0,0] 1 5 [(4,(.bool false))] (sl Zp 19 [] ⟨[],[],[some [4]],[]⟩ ⟨[],[],[]⟩ (bl 2 3) (tt k1 (ww bB (ww aG (tt k0 nn))))))) (fun k1=>(sl Zp 23 [] ⟨[],[],rsrN0,rsrM0⟩ ⟨[],[],[]⟩ (bl 2 1) (tt k1 (ww bB (ww aG (tt k0 nn)))))))))) (fun k0=>(lr 26 3 [1,1,1,1,1,1,1,0] 1 5 [(4,(.bool true))] (sl Zp 14 [] ⟨[],[],[some [4]],[]⟩ ⟨[],[],[]⟩ [false] (tt k0 nn)))))
theorem x4j (l0:List R4) (l1:List R4):Xj prog (Zy prog 128) (rsrC l0 l1) (Ze prog 128 [(.dat l0.length (Zz l0)),(.dat l1.length (Zz l1))] true []) (z5t l0 l1):=(lb (fun k0=>(lr 26 128 [1,0,1,0,0] 1 5 [(4,(.bool false))] (sl Zp 18 [] ⟨[],[],[some [4]],[]⟩ ⟨[],[],[]⟩ [true] (tt k0 nn)))) (fun k0=>(sl Zp 22 [] ⟨[],[],rsrN0,rsrM0⟩ ⟨[],[],[]⟩ [false] (tt k0 nn))))
theorem v2k (l0:List R4) (l1:List R4) (n:Nat) (vs:List AVal) (h:Yv (z4t l0 l1) n (z5t l0 l1)=.ret vs):Ky prog (Zy prog 128) (Ze prog 128 [(.dat l0.length (Zz l0)),(.dat l1.length (Zz l1))] true []) vs:=by have:=Zr (w1r l0 l1) n _ (x4j l0 l1);rwa [h] at this
inductive rsbS where
 | h0 (v5:Int)
def rsbC (l0:List R6) (l1:List R6):rsbS→Cfg
 | .h0 v5=>⟨⟨26,0,true⟩,none,(Zd prog 20 [1,1,0,1,0,0] 0),none,(Zy prog 5),⟨Ya [(0,(.dat l0.length (Zz l0))),(1,(.dat l1.length (Zz l1))),(5,(ii v5))],Uq [] 0,0,[],true⟩,[],.leaf⟩
def rsbN0 :List (Option (List Nat)):=[some [0,1,5]]
def rsbM0 :List (Option (List Nat)):=[]
def z4v (l0:List R6) (l1:List R6):rsbS→Xf rsbS
 | .h0 v5=>(bif (decide (v5<(l0.length:Int))) then (bif ((decide (0≤v5∧v5<(l0.length:Int)))&&true) then (bif ((decide (0≤v5∧v5<(l1.length:Int)))&&true) then (bif (!((((rd l0 v5.toNat).a == (rd l1 v5.toNat).a)&&(((rd l0 v5.toNat).b == (rd l1 v5.toNat).b)&&(((rd l0 v5.toNat).c == (rd l1 v5.toNat).c)&&true)))&&((((rd l0 v5.toNat).d == (rd l1 v5.toNat).d)&&(((rd l0 v5.toNat).e == (rd l1 v5.toNat).e)&&(((rd l0 v5.toNat).f == (rd l1 v5.toNat).f)&&true)))&&true))) then (.ret [(.bool false)]) else (.to (.h0 (IntKind.wrap .i64 (v5+1))))) else .stuck) else .stuck) else (.ret [(.bool true)]))
def z5v (l0:List R6) (l1:List R6):Xf rsbS:=(bif ((l0.length:Int) != (l1.length:Int)) then (.ret [(.bool false)]) else (.to (.h0 0)))
theorem w1u (l0:List R6) (l1:List R6): ∀s,Xj prog (Zy prog 20) (rsbC l0 l1) (rsbC l0 l1 s) (z4v l0 l1 s)
 | .h0 v5=>(lb (fun k0=>(lo fun aG=>(lo fun bB=>(lb (fun k1=>(lr 26 20 [1,1,0,1,0,0,1,0,0,1,0,0] 1 5 [(4,(.bool false))] (sl Zp 19 [] ⟨[],[],[some [4]],[]⟩ ⟨[],[],[]⟩ (bl 2 3) (tt k1 (ww bB (ww aG (tt k0 nn))))))) (fun k1=>(sl Zp 23 [] ⟨[],[],rsbN0,rsbM0⟩ ⟨[],[],[]⟩ (bl 2 1) (tt k1 (ww bB (ww aG (tt k0 nn)))))))))) (fun k0=>(lr 26 3 [1,1,1,1,1,1,1,0] 1 5 [(4,(.bool true))] (sl Zp 14 [] ⟨[],[],[some [4]],[]⟩ ⟨[],[],[]⟩ [false] (tt k0 nn)))))
theorem x4l (l0:List R6) (l1:List R6):Xj prog (Zy prog 20) (rsbC l0 l1) (Ze prog 20 [(.dat l0.length (Zz l0)),(.dat l1.length (Zz l1))] true []) (z5v l0 l1):=(lb (fun k0=>(lr 26 20 [1,0,1,0,0] 1 5 [(4,(.bool false))] (sl Zp 18 [] ⟨[],[],[some [4]],[]⟩ ⟨[],[],[]⟩ [true] (tt k0 nn)))) (fun k0=>(sl Zp 22 [] ⟨[],[],rsbN0,rsbM0⟩ ⟨[],[],[]⟩ [false] (tt k0 nn))))
theorem v2m (l0:List R6) (l1:List R6) (n:Nat) (vs:List AVal) (h:Yv (z4v l0 l1) n (z5v l0 l1)=.ret vs):Ky prog (Zy prog 20) (Ze prog 20 [(.dat l0.length (Zz l0)),(.dat l1.length (Zz l1))] true []) vs:=by have:=Zr (w1u l0 l1) n _ (x4l l0 l1);rwa [h] at this
inductive ratS where
 | h0 (v5:List R4) (v6:Int)
def ratC (l0:List R6) (x1:Int):ratS→Cfg
 | .h0 v5 v6=>⟨⟨60,0,true⟩,none,(Zd prog 127 [1,1,0,1,0,0] 0),none,(Zy prog 5),⟨Ya [(0,(.dat l0.length (Zz l0))),(1,(ii x1)),(5,(.sla 0 4 0 v5.length (.un 4))),(6,(ii v6))],Uq [⟨rows v5.length (Zz v5),88,some ⟨4,v5.length,(Zz v5)⟩⟩] 0,1,[],true⟩,[],.leaf⟩
def v3k :List (Option (List Nat)):=[some [0,1,5,6]]
def v3l :List (Option (List Nat)):=[]
def z4w (l0:List R6) (x1:Int):ratS→Xf ratS
 | .h0 v5 v6=>(bif (decide (v6<(l0.length:Int))) then (bif ((decide (0≤v6∧v6<(l0.length:Int)))&&true) then (bif (decide ((rd l0 v6.toNat).c ≤x1)) then (bif (decide (x1<(rd l0 v6.toNat).f)) then (bif (Nat.beq 4 4&&((decide (0+v5.length=v5.length))&&decide ((v5.length+1+1)*(32+1)≤Ur))) then (.to (.h0 (v5++[(R4.mk (rd l0 v6.toNat).a (rd l0 v6.toNat).b (rd l0 v6.toNat).d (rd l0 v6.toNat).e)]) (IntKind.wrap .i64 (v6+1)))) else .stuck) else (.to (.h0 v5 (IntKind.wrap .i64 (v6+1))))) else (.to (.h0 v5 (IntKind.wrap .i64 (v6+1))))) else .stuck) else (.ret [(.dat v5.length (Zz v5))]))
def y0v (l0:List R6) (x1:Int):Xf ratS:=(.to (.h0 ([]:List R4) 0))
theorem w2d (l0:List R6) (x1:Int): ∀s,Xj prog (Zy prog 127) (ratC l0 x1) (ratC l0 x1 s) (z4w l0 x1 s)
 | .h0 v5 v6=>(lb (fun k0=>(lo fun aG=>(lb (fun k1=>(lb (fun k2=>(lo fun o0=>(sl Zp 42 [] ⟨[2],[],v3k,v3l⟩ ⟨[(5,.len (v5++[(R4.mk (rd l0 (tn v6)).a (rd l0 (tn v6)).b (rd l0 (tn v6)).d (rd l0 (tn v6)).e)]).length)],[.rowed 4 (v5++[(R4.mk (rd l0 (tn v6)).a (rd l0 (tn v6)).b (rd l0 (tn v6)).d (rd l0 (tn v6)).e)]).length (Zz (v5++[(R4.mk (rd l0 (tn v6)).a (rd l0 (tn v6)).b (rd l0 (tn v6)).d (rd l0 (tn v6)).e)]))],[]⟩ (trs 10 []) (pp (xL (v5.length+1) (v5++[(R4.mk (rd l0 (tn v6)).a (rd l0 (tn v6)).b (rd l0 (tn v6)).d (rd l0 (tn v6)).e)]).length) (pp (xL (v5.length+1) (v5++[(R4.mk (rd l0 (tn v6)).a (rd l0 (tn v6)).b (rd l0 (tn v6)).d (rd l0 (tn v6)).e)]).length) (pp (xS (v5.length+1) (Zh (Zz v5) 0 v5.length 4 [(ii (rd l0 (tn v6)).a),(ii (rd l0 (tn v6)).b),(ii (rd l0 (tn v6)).d),(ii (rd l0 (tn v6)).e)]) (Zz (v5++[(R4.mk (rd l0 (tn v6)).a (rd l0 (tn v6)).b (rd l0 (tn v6)).d (rd l0 (tn v6)).e)]))) (pp (pp (xF (Zh (Zz v5) 0 v5.length 4 [(ii (rd l0 (tn v6)).a),(ii (rd l0 (tn v6)).b),(ii (rd l0 (tn v6)).d),(ii (rd l0 (tn v6)).e)])) nn) (ww o0 (ww aG (ww aG (ww aG (ww aG (tt k2 (ww aG (tt k1 (ww aG (tt k0 nn))))))))))))))))) (fun k2=>(sl Zp 42 [] ⟨[0],[],v3k,v3l⟩ ⟨[],[],[]⟩ (trs 9 [false]) (pp (fl v5 nn) (tt k2 (ww aG (tt k1 (ww aG (tt k0 nn)))))))))) (fun k1=>(sl Zp 42 [] ⟨[0],[],v3k,v3l⟩ ⟨[],[],[]⟩ (bl 10 1) (pp (fl v5 nn) (tt k1 (ww aG (tt k0 nn))))))))) (fun k0=>(lr 60 3 [1,1,1,1,1,1,1,0] 1 5 [(4,(.dat v5.length (Zz v5)))] (sl Zp 15 [] ⟨[],[0],[some [4]],[]⟩ ⟨[(4,.frz v5.length v5.length (Zz v5) (Zz v5))],[],[]⟩ [false] (pp (xZ (z5d 4 4 0 v5.length v5.length (Zz v5)) v5.length (Zz v5)) (pp (xL v5.length v5.length) (pp (xS v5.length (Zz v5) (Zz v5)) (pp (fl v5 nn) (tt k0 nn)))))))))
theorem x5c (l0:List R6) (x1:Int):Xj prog (Zy prog 127) (ratC l0 x1) (Ze prog 127 [(.dat l0.length (Zz l0)),(.int .i64 x1)] true []) (y0v l0 x1):=(sl Zp 15 [(88,4,Zz ([]:List R4))] ⟨[0],[],v3k,v3l⟩ ⟨[(5,.grow 0 4)],[],[]⟩ [] (pp (fl ([]:List R4) nn) nn))
theorem v3j (l0:List R6) (x1:Int) (n:Nat) (vs:List AVal) (h:Yv (z4w l0 x1) n (y0v l0 x1)=.ret vs):Ky prog (Zy prog 127) (Ze prog 127 [(.dat l0.length (Zz l0)),(.int .i64 x1)] true []) vs:=by have:=Zr (w2d l0 x1) n _ (x5c l0 x1);rwa [h] at this
inductive eqaS where
 | h0 (v13:Int)
def eqaC (l0:List R2) (l1:List R2):eqaS→Cfg
 | .h0 v13=>⟨⟨26,0,true⟩,none,(Zd prog 188 [1,1,0,1,0,0] 0),none,(Zy prog 5),⟨Ya [(0,(.dat l0.length (Zz l0))),(1,(.dat l1.length (Zz l1))),(12,(ii (l0.length:Int))),(13,(ii v13))],Uq [] 0,0,[],true⟩,[],.leaf⟩
def eqaN0 :List (Option (List Nat)):=[some [0,1,12,13]]
def eqaM0 :List (Option (List Nat)):=[]
def z5i (l0:List R2) (l1:List R2):eqaS→Xf eqaS
 | .h0 v13=>(bif (decide (v13<(l0.length:Int))) then (bif ((decide (0≤v13∧v13<(l0.length:Int)))&&true) then (bif ((decide (0≤v13∧v13<(l1.length:Int)))&&true) then (bif (!(((rd l0 v13.toNat).a == (rd l1 v13.toNat).a)&&(((rd l0 v13.toNat).b == (rd l1 v13.toNat).b)&&true))) then (.ret [(.bool false)]) else (.to (.h0 (IntKind.wrap .i64 (v13+1))))) else .stuck) else .stuck) else (.ret [(.bool true)]))
def z6v (l0:List R2) (l1:List R2):Xf eqaS:=(bif ((l0.length:Int) != (l1.length:Int)) then (.ret [(.bool false)]) else (.to (.h0 0)))
theorem w3p (l0:List R2) (l1:List R2): ∀s,Xj prog (Zy prog 188) (eqaC l0 l1) (eqaC l0 l1 s) (z5i l0 l1 s)
 | .h0 v13=>(lb (fun k0=>(lo fun aG=>(lo fun bB=>(lb (fun k1=>(lr 26 188 [1,1,0,1,0,0,1,1,0,0,1,1,0,0] 1 5 [(4,(.bool false))] (sl Zp 21 [] ⟨[],[],[some [4]],[]⟩ ⟨[],[],[]⟩ (bl 2 3) (tt k1 (ww bB (ww aG (tt k0 nn))))))) (fun k1=>(sl Zp 24 [] ⟨[],[],eqaN0,eqaM0⟩ ⟨[],[],[]⟩ (bl 2 1) (tt k1 (ww bB (ww aG (tt k0 nn)))))))))) (fun k0=>(lr 26 3 [1,1,1,1,1,1,1,0] 1 5 [(4,(.bool true))] (sl Zp 11 [] ⟨[],[],[some [4]],[]⟩ ⟨[],[],[]⟩ [false] (tt k0 nn)))))
theorem x6w (l0:List R2) (l1:List R2):Xj prog (Zy prog 188) (eqaC l0 l1) (Ze prog 188 [(.dat l0.length (Zz l0)),(.dat l1.length (Zz l1))] true []) (z6v l0 l1):=(lb (fun k0=>(lr 26 188 [1,0,1,0,0] 1 5 [(4,(.bool false))] (sl Zp 18 [] ⟨[],[],[some [4]],[]⟩ ⟨[],[],[]⟩ [true] (tt k0 nn)))) (fun k0=>(sl Zp 24 [] ⟨[],[],eqaN0,eqaM0⟩ ⟨[],[],[]⟩ [false] (tt k0 nn))))
theorem v5r (l0:List R2) (l1:List R2) (n:Nat) (vs:List AVal) (h:Yv (z5i l0 l1) n (z6v l0 l1)=.ret vs):Ky prog (Zy prog 188) (Ze prog 188 [(.dat l0.length (Zz l0)),(.dat l1.length (Zz l1))] true []) vs:=by have:=Zr (w3p l0 l1) n _ (x6w l0 l1);rwa [h] at this
inductive eqbS where
 | h0 (v13:Int)
def eqbC (l0:List R4) (l1:List R4):eqbS→Cfg
 | .h0 v13=>⟨⟨26,0,true⟩,none,(Zd prog 172 [1,1,0,1,0,0] 0),none,(Zy prog 5),⟨Ya [(0,(.dat l0.length (Zz l0))),(1,(.dat l1.length (Zz l1))),(12,(ii (l0.length:Int))),(13,(ii v13))],Uq [] 0,0,[],true⟩,[],.leaf⟩
def eqbN0 :List (Option (List Nat)):=[some [0,1,12,13]]
def eqbM0 :List (Option (List Nat)):=[]
def z5h (l0:List R4) (l1:List R4):eqbS→Xf eqbS
 | .h0 v13=>(bif (decide (v13<(l0.length:Int))) then (bif ((decide (0≤v13∧v13<(l0.length:Int)))&&true) then (bif ((decide (0≤v13∧v13<(l1.length:Int)))&&true) then (bif (!(((rd l0 v13.toNat).a == (rd l1 v13.toNat).a)&&(((rd l0 v13.toNat).b == (rd l1 v13.toNat).b)&&(((rd l0 v13.toNat).c == (rd l1 v13.toNat).c)&&(((rd l0 v13.toNat).d == (rd l1 v13.toNat).d)&&true))))) then (.ret [(.bool false)]) else (.to (.h0 (IntKind.wrap .i64 (v13+1))))) else .stuck) else .stuck) else (.ret [(.bool true)]))
def z6u (l0:List R4) (l1:List R4):Xf eqbS:=(bif ((l0.length:Int) != (l1.length:Int)) then (.ret [(.bool false)]) else (.to (.h0 0)))
theorem w3o (l0:List R4) (l1:List R4): ∀s,Xj prog (Zy prog 172) (eqbC l0 l1) (eqbC l0 l1 s) (z5h l0 l1 s)
 | .h0 v13=>(lb (fun k0=>(lo fun aG=>(lo fun bB=>(lb (fun k1=>(lr 26 172 [1,1,0,1,0,0,1,1,0,0,1,1,0,0] 1 5 [(4,(.bool false))] (sl Zp 21 [] ⟨[],[],[some [4]],[]⟩ ⟨[],[],[]⟩ (bl 2 3) (tt k1 (ww bB (ww aG (tt k0 nn))))))) (fun k1=>(sl Zp 24 [] ⟨[],[],eqbN0,eqbM0⟩ ⟨[],[],[]⟩ (bl 2 1) (tt k1 (ww bB (ww aG (tt k0 nn)))))))))) (fun k0=>(lr 26 3 [1,1,1,1,1,1,1,0] 1 5 [(4,(.bool true))] (sl Zp 11 [] ⟨[],[],[some [4]],[]⟩ ⟨[],[],[]⟩ [false] (tt k0 nn)))))
theorem x6v (l0:List R4) (l1:List R4):Xj prog (Zy prog 172) (eqbC l0 l1) (Ze prog 172 [(.dat l0.length (Zz l0)),(.dat l1.length (Zz l1))] true []) (z6u l0 l1):=(lb (fun k0=>(lr 26 172 [1,0,1,0,0] 1 5 [(4,(.bool false))] (sl Zp 18 [] ⟨[],[],[some [4]],[]⟩ ⟨[],[],[]⟩ [true] (tt k0 nn)))) (fun k0=>(sl Zp 24 [] ⟨[],[],eqbN0,eqbM0⟩ ⟨[],[],[]⟩ [false] (tt k0 nn))))
theorem v5q (l0:List R4) (l1:List R4) (n:Nat) (vs:List AVal) (h:Yv (z5h l0 l1) n (z6u l0 l1)=.ret vs):Ky prog (Zy prog 172) (Ze prog 172 [(.dat l0.length (Zz l0)),(.dat l1.length (Zz l1))] true []) vs:=by have:=Zr (w3o l0 l1) n _ (x6v l0 l1);rwa [h] at this
inductive eqcS where
 | h0 (v13:Int)
def eqcC (l0:List R6) (l1:List R6):eqcS→Cfg
 | .h0 v13=>⟨⟨26,0,true⟩,none,(Zd prog 99 [1,1,0,1,0,0] 0),none,(Zy prog 5),⟨Ya [(0,(.dat l0.length (Zz l0))),(1,(.dat l1.length (Zz l1))),(12,(ii (l0.length:Int))),(13,(ii v13))],Uq [] 0,0,[],true⟩,[],.leaf⟩
def eqcN0 :List (Option (List Nat)):=[some [0,1,12,13]]
def eqcM0 :List (Option (List Nat)):=[]
def z5g (l0:List R6) (l1:List R6):eqcS→Xf eqcS
 | .h0 v13=>(bif (decide (v13<(l0.length:Int))) then (bif ((decide (0≤v13∧v13<(l0.length:Int)))&&true) then (bif ((decide (0≤v13∧v13<(l1.length:Int)))&&true) then (bif (!((((rd l0 v13.toNat).a == (rd l1 v13.toNat).a)&&(((rd l0 v13.toNat).b == (rd l1 v13.toNat).b)&&(((rd l0 v13.toNat).c == (rd l1 v13.toNat).c)&&true)))&&((((rd l0 v13.toNat).d == (rd l1 v13.toNat).d)&&(((rd l0 v13.toNat).e == (rd l1 v13.toNat).e)&&(((rd l0 v13.toNat).f == (rd l1 v13.toNat).f)&&true)))&&true))) then (.ret [(.bool false)]) else (.to (.h0 (IntKind.wrap .i64 (v13+1))))) else .stuck) else .stuck) else (.ret [(.bool true)]))
def z6t (l0:List R6) (l1:List R6):Xf eqcS:=(bif ((l0.length:Int) != (l1.length:Int)) then (.ret [(.bool false)]) else (.to (.h0 0)))
theorem w3n (l0:List R6) (l1:List R6): ∀s,Xj prog (Zy prog 99) (eqcC l0 l1) (eqcC l0 l1 s) (z5g l0 l1 s)
 | .h0 v13=>(lb (fun k0=>(lo fun aG=>(lo fun bB=>(lb (fun k1=>(lr 26 99 [1,1,0,1,0,0,1,1,0,0,1,1,0,0] 1 5 [(4,(.bool false))] (sl Zp 21 [] ⟨[],[],[some [4]],[]⟩ ⟨[],[],[]⟩ (bl 2 3) (tt k1 (ww bB (ww aG (tt k0 nn))))))) (fun k1=>(sl Zp 24 [] ⟨[],[],eqcN0,eqcM0⟩ ⟨[],[],[]⟩ (bl 2 1) (tt k1 (ww bB (ww aG (tt k0 nn)))))))))) (fun k0=>(lr 26 3 [1,1,1,1,1,1,1,0] 1 5 [(4,(.bool true))] (sl Zp 11 [] ⟨[],[],[some [4]],[]⟩ ⟨[],[],[]⟩ [false] (tt k0 nn)))))
theorem x6u (l0:List R6) (l1:List R6):Xj prog (Zy prog 99) (eqcC l0 l1) (Ze prog 99 [(.dat l0.length (Zz l0)),(.dat l1.length (Zz l1))] true []) (z6t l0 l1):=(lb (fun k0=>(lr 26 99 [1,0,1,0,0] 1 5 [(4,(.bool false))] (sl Zp 18 [] ⟨[],[],[some [4]],[]⟩ ⟨[],[],[]⟩ [true] (tt k0 nn)))) (fun k0=>(sl Zp 24 [] ⟨[],[],eqcN0,eqcM0⟩ ⟨[],[],[]⟩ [false] (tt k0 nn))))
theorem v5p (l0:List R6) (l1:List R6) (n:Nat) (vs:List AVal) (h:Yv (z5g l0 l1) n (z6t l0 l1)=.ret vs):Ky prog (Zy prog 99) (Ze prog 99 [(.dat l0.length (Zz l0)),(.dat l1.length (Zz l1))] true []) vs:=by have:=Zr (w3n l0 l1) n _ (x6u l0 l1);rwa [h] at this
inductive holS where
def holC (x0:Int) (x1:Bool) (x2:Bool):holS→Cfg
 :=nofun
def x6h (x0:Int) (x1:Bool) (x2:Bool):holS→Xf holS
 :=nofun
def y1h (x0:Int) (x1:Bool) (x2:Bool):Xf holS:=(bif (x0 == 1) then (bif x1 then (.ret [(.bool x2)]) else (.ret [(.bool false)])) else (bif (x0 == 2) then (bif x1 then (.ret [(.bool true)]) else (.ret [(.bool x2)])) else (bif x1 then (.ret [(.bool (!x2))]) else (.ret [(.bool false)]))))
theorem w3b (x0:Int) (x1:Bool) (x2:Bool): ∀s,Xj prog (Zy prog 167) (holC x0 x1 x2) (holC x0 x1 x2 s) (x6h x0 x1 x2 s)
 :=nofun
theorem x6i (x0:Int) (x1:Bool) (x2:Bool):Xj prog (Zy prog 167) (holC x0 x1 x2) (Ze prog 167 [(.int .i64 x0),(.bool x1),(.bool x2)] true []) (y1h x0 x1 x2):=(lb (fun k0=>(lb (fun k1=>(lr 24 167 [1,0,1,0,0] 1 8 [(6,(.bool x2))] (sl Zp 19 [] ⟨[],[],[some [6]],[]⟩ ⟨[],[],[]⟩ [true,true] (tt k1 (tt k0 nn))))) (fun k1=>(lr 24 167 [1,0,1,0,0] 1 8 [(6,(.bool false))] (sl Zp 19 [] ⟨[],[],[some [6]],[]⟩ ⟨[],[],[]⟩ [true,false] (tt k1 (tt k0 nn))))))) (fun k0=>(lb (fun k1=>(lb (fun k2=>(lr 24 167 [1,1,0,1,0,0] 1 8 [(6,(.bool true))] (sl Zp 27 [] ⟨[],[],[some [6]],[]⟩ ⟨[],[],[]⟩ [false,true,true] (tt k2 (tt k1 (tt k0 nn)))))) (fun k2=>(lr 24 167 [1,1,0,1,0,0] 1 8 [(6,(.bool x2))] (sl Zp 27 [] ⟨[],[],[some [6]],[]⟩ ⟨[],[],[]⟩ [false,true,false] (tt k2 (tt k1 (tt k0 nn)))))))) (fun k1=>(lb (fun k2=>(lr 24 3 [1,1,1,1,1,1,1,0] 1 8 [(6,(.bool (!x2)))] (sl Zp 29 [] ⟨[],[],[some [6]],[]⟩ ⟨[],[],[]⟩ [false,false,true,true] (tt k2 (tt k1 (tt k0 nn)))))) (fun k2=>(lr 24 3 [1,1,1,1,1,1,1,0] 1 8 [(6,(.bool false))] (sl Zp 29 [] ⟨[],[],[some [6]],[]⟩ ⟨[],[],[]⟩ [false,false,false,false] (tt k2 (tt k1 (tt k0 nn)))))))))))
theorem v5b (x0:Int) (x1:Bool) (x2:Bool) (n:Nat) (vs:List AVal) (h:Yv (x6h x0 x1 x2) n (y1h x0 x1 x2)=.ret vs):Ky prog (Zy prog 167) (Ze prog 167 [(.int .i64 x0),(.bool x1),(.bool x2)] true []) vs:=by have:=Zr (w3b x0 x1 x2) n _ (x6i x0 x1 x2);rwa [h] at this
inductive fstS where
def fstC (x0:Bool) (x1:Bool):fstS→Cfg
 :=nofun
def x6k (x0:Bool) (x1:Bool):fstS→Xf fstS
 :=nofun
def y9j (x0:Bool) (x1:Bool):Xf fstS:=(.ret [(.bool x0)])
theorem w3d (x0:Bool) (x1:Bool): ∀s,Xj prog (Zy prog 187) (fstC x0 x1) (fstC x0 x1 s) (x6k x0 x1 s)
 :=nofun
theorem x6l (x0:Bool) (x1:Bool):Xj prog (Zy prog 187) (fstC x0 x1) (Ze prog 187 [(.bool x0),(.bool x1)] true []) (y9j x0 x1):=(lr 6 3 [1,1,1,1,1,1,1,0] 1 5 [(4,(.bool x0))] (sl Zp 9 [] ⟨[],[],[some [4]],[]⟩ ⟨[],[],[]⟩ [] nn))
theorem v5c (x0:Bool) (x1:Bool) (n:Nat) (vs:List AVal) (h:Yv (x6k x0 x1) n (y9j x0 x1)=.ret vs):Ky prog (Zy prog 187) (Ze prog 187 [(.bool x0),(.bool x1)] true []) vs:=by have:=Zr (w3d x0 x1) n _ (x6l x0 x1);rwa [h] at this
end Go.Am
namespace Go.Am
theorem Zt {a b:Int} (h:a<b):decide (a<b)=true:=decide_eq_true h
theorem Yw {a b:Int} (h: ¬a<b):decide (a<b)=false:=decide_eq_false h
theorem Xh {a b:Int} (h:a≤b):decide (a≤b)=true:=decide_eq_true h
theorem x6y {a b:Int} (h: ¬a≤b):decide (a≤b)=false:=decide_eq_false h
theorem Ye {a b:Int} (h:a>b):decide (a>b)=true:=decide_eq_true h
theorem Xv {a b:Int} (h: ¬a>b):decide (a>b)=false:=decide_eq_false h
theorem dge_t {a b:Int} (h:a≥b):decide (a≥b)=true:=decide_eq_true h
theorem Yu {a b:Nat} (h:a<b):decide (a<b)=true:=decide_eq_true h
theorem Yg {a b:Nat} (h:a≤b):decide (a≤b)=true:=decide_eq_true h
theorem Yk {a b:Nat} (h:a=b):decide (a=b)=true:=decide_eq_true h
theorem Yz {a b:Int} (h:0≤a∧a<b):decide (0≤a∧a<b)=true:=decide_eq_true h
theorem Zi {a:Nat} (h:a≤1099511627776):decide (a≤Ur)=true:=decide_eq_true h
theorem Zk {n:Int} (h: -9223372036854775808≤n∧n≤9223372036854775807):IntKind.wrap .i64 n=n:=w_in h.1 h.2
theorem z5l :((0:Nat):Int)=0:=rfl
theorem Zx (i:Nat):(i:Int)+1=((i+1:Nat):Int):=rfl
theorem Zs (i:Nat):((i+1:Nat):Int) - 1=(i:Int):=by omega
theorem Qc {a b:Int} (h:a≠b):(a != b)=true:=by simp [h]
theorem Qd {a b:Int} (h:a=b):(a != b)=false:=by simp [h]
theorem Yq (n:Nat):Nat.beq n n=true:=Nat.beq_refl n
theorem Zj (n:Nat):Int.toNat (n:Int)=n:=Int.toNat_natCast n
theorem Yf (b:Bool):b=true∨b=false:=by cases b <;> simp
theorem Yp {α:Type} [Yo α] {L:List α} {i:Nat} (h:i<L.length):L.drop i=rd L i::L.drop (i+1):=by rw [Xu h];exact List.drop_eq_getElem_cons h
theorem z3g {P:Program} {S:Specs} (hS:Zu P S) {f:FuncId} {F:List AVal→Option (AVal×Bool)} (hf:(P.funcs[f]?).any (fun fn=>fn.body.isSome)=true)
  (hF: ∀args v,F args=some (v,true)→ ∃bs vs,Wn VLe args bs∧Ja vs=v∧Ky P (Zy P f) (Ze P f bs true []) vs∧ ∃d,pf d v=true):Zu P (S.with f F):=w0p hS hf hF
end Go.Am
namespace Go.Am
open Go.Proofs
def x5f (out:List Int) (x:Int):Nat→Nat
 | 0=>0
 | k+1=>bif decide (rd out k>x) then x5f out x k else k+1
def y3d (out:List Int) (x:Int):List Int:=
 match x5f out x out.length with
 | 0=>x::out
 | k+1=>bif rd out k == x then out else out.take (k+1)++x::out.drop (k+1)
def z2g (l:List Int):List Int:=l.foldl y3d []
def Kw (l:List Int):Bool:=decide (l.length≤100000)
theorem y3c (out:List Int) (x:Int):(y3d out x).length ≤out.length+1:=by
 unfold y3d;split
 ·simp
 ·rename_i k _;cases (rd out k == x) <;> simp <;> omega
theorem x2c (out:List Int) (x:Int) (k:Nat) (hk:k≤out.length):
  (v0g (out++[0]) (k+1) (Nat.min (out.length+1 - k) (out.length+1 - (k+1))) (z2z (out++[0]) k (out.length+1 - k))).set k x=out.take k++x::out.drop k:=by
 have hm:Nat.min (out.length+1 - k) (out.length+1 - (k+1))=out.length - k:=by show min _ _=_;omega
 rw [hm];apply List.ext_getElem
 ·simp [Us];omega
 ·intro i h1 h2;have hi:i<out.length+1:=by simpa [Us] using h1
  rw [←Xu h1,←Xu h2];rw [v8m (by simpa [Us] using hi)];by_cases e:i=k
  ·subst e;rw [if_pos rfl,Vt (by simp only [List.length_take];omega),Xu (by simp;omega)];simp [Nat.min_eq_left hk]
  ·rw [if_neg e,w6t (by simpa using hi)];by_cases h:i<k
   ·rw [v6e (show¬k+1≤i by omega),Bool.false_and,cond_false,Uf (by omega),Uf (by simp;omega)];rw [Xu (by omega),Xu (by simp;omega),List.getElem_take]
   ·rw [v0p (show k+1≤i by omega),v0p (show i+1≤k+1+(out.length - k) by omega),Bool.true_and,cond_true,y8l (by omega),Uf (by omega)];rw [Vt (by simp;omega),Xu (by omega),Xu (by simp;omega)];obtain ⟨j,rfl⟩: ∃j,i=k+1+j:=⟨i - k - 1,by omega⟩
    simp only [List.length_take,Nat.min_eq_left hk];rw [List.getElem_cons,dif_neg (by omega),List.getElem_drop]
    congr 1
theorem x8o (l:List Int) (out:List Int) (i:Nat) (hi:i<l.length) (hl:l.length≤100000) (ho:out.length≤i): ∀(k N:Nat),k≤out.length→
  (x5f out (rd l i) out.length=x5f out (rd l i) k)→ ∃m,∀N,Yv (Vg l) (N+m) (.to (.h1 out (i:Int) (k:Int)))=Yv (Vg l) N (.to (.h0 (y3d out (rd l i)) ((i+1:Nat):Int)))
 | 0,N,hk,hp=>by
  refine ⟨1,fun N=> ?_⟩;have hins:y3d out (rd l i)=(v0g (out++[0]) (0+1) (Nat.min (out.length+1 - 0) (out.length+1 - (0+1))) (z2z (out++[0]) 0 (out.length+1 - 0))).set 0 (rd l i):=by rw [x2c out _ 0 (Nat.zero_le _)];unfold y3d;rw [hp];rfl
  rw [hins,Zv];simp (disch:=omega) only [Vg,Zi,decide_true,Xv,Zt,Xh,Yu,Yg,Yk,Yz,Zk,Zx,Yq,Zj,Nat.zero_add,Bool.and_true,Bool.true_and,cond_true,cond_false]
 | k+1,N,hk,hp=>by
  rcases Yf (decide (rd out k>rd l i)) with h | h
  ·have hp':x5f out (rd l i) out.length=x5f out (rd l i) k:=by rw [hp];conv=>lhs;unfold x5f;rw [h,cond_true]
   obtain ⟨m,hm⟩:=x8o l out i hi hl ho k N (by omega) hp';refine ⟨m+1,fun N=> ?_⟩;rw [←hm N,←Nat.add_assoc,Zv];simp (disch:=omega) only [Vg,Zs,h,Zi,decide_true,Ye,Zt,Xh,Yu,Yg,Yk,Yz,Zk,Zx,Yq,Zj,Nat.zero_add,Bool.and_true,Bool.true_and,cond_true,cond_false]
  ·have hpk:x5f out (rd l i) out.length=k+1:=by rw [hp];unfold x5f;rw [h];rfl
   refine ⟨1,fun N=> ?_⟩;rw [Zv];rcases Yf (rd out k == rd l i) with q | q
   ·have hins:y3d out (rd l i)=out:=by unfold y3d;rw [hpk];simp only [q,cond_true]
    rw [hins];simp (disch:=omega) only [Vg,Zs,h,q,Zi,decide_true,Ye,Zt,Xh,Yu,Yg,Yk,Yz,Zk,Zx,Yq,Zj,Nat.zero_add,Bool.and_true,Bool.true_and,cond_true,cond_false]
   ·have hins:y3d out (rd l i)=(v0g (out++[0]) (k+1+1) (Nat.min (out.length+1 - (k+1)) (out.length+1 - (k+1+1))) (z2z (out++[0]) (k+1) (out.length+1 - (k+1)))).set (k+1) (rd l i):=by rw [x2c out _ (k+1) hk];unfold y3d;rw [hpk];simp only [q,cond_false]
    rw [hins];simp (disch:=omega) only [Vg,Zs,h,q,Zi,decide_true,Ye,Zt,Xh,Yu,Yg,Yk,Yz,Zk,Zx,Yq,Zj,Nat.zero_add,Bool.and_true,Bool.true_and,cond_true,cond_false]
theorem x8p (l:List Int) (hl:l.length≤100000): ∀(k i:Nat) (out:List Int),i+k=l.length→out.length≤i→ ∃m,Yv (Vg l) m (.to (.h0 out (i:Int)))=.ret [.dat ((l.drop i).foldl y3d out).length (Zz ((l.drop i).foldl y3d out))]
 | 0,i,out,h,ho=>by refine ⟨1,?_⟩;rw [Zv];simp (disch:=omega) only [Vg,Yw,cond_false];rw [List.drop_eq_nil_of_le (by omega)];rfl
 | k+1,i,out,h,ho=>by obtain ⟨m1,h1⟩:=x8o l out i (by omega) hl ho out.length 0 (Nat.le_refl _) rfl;obtain ⟨m2,h2⟩:=x8p l hl k (i+1) (y3d out (rd l i)) (by omega) (Nat.le_trans (y3c _ _) (by omega));refine ⟨m2+m1+1,?_⟩;rw [Zv];simp (disch:=omega) only [Vg,Zt,cond_true];rw [h1 m2,h2,Yp (show i<l.length by omega)];rfl
theorem w5w (l:List Int) (h:Kw l=true): ∃N,Yv (Vg l) N (z3o l)=.ret [.dat (z2g l).length (Zz (z2g l))]:=by
 have:=x8p l (of_decide_eq_true h) l.length 0 [] (by omega) (Nat.le_refl _)
 simpa [z3o,z2g] using this
end Go.Am
namespace Go.Am
open Go.Proofs
theorem Zf (n:Nat):Int.toNat ((n:Int) - 1)=n - 1:=by omega
theorem v3o (x y:R2):((x.a == y.a)&&(x.b == y.b))=decide (x=y):=by obtain ⟨a,b⟩:=x;obtain ⟨c,d⟩:=y;rw [Bool.eq_iff_iff];simp
theorem v3n (x y:R4):((x.a == y.a)&&((x.b == y.b)&&((x.c == y.c)&&(x.d == y.d))))=decide (x=y):=by obtain ⟨a,b,c,d⟩:=x;obtain ⟨e,f,g,h⟩:=y;rw [Bool.eq_iff_iff];simp
theorem v3m (x y:R6):(((x.a == y.a)&&((x.b == y.b)&&(x.c == y.c)))&&((x.d == y.d)&&((x.e == y.e)&&(x.f == y.f))))=decide (x=y):=by obtain ⟨a,b,c,d,e,f⟩:=x;obtain ⟨a',b',c',d',e',f'⟩:=y;rw [Bool.eq_iff_iff];simp [and_assoc]
def Kj (l m:List R2):Bool:=decide (l=m)
def Um (l m:List R4):Bool:=decide (l=m)
def Jp (l m:List R6):Bool:=decide (l=m)
def Vp (l m:List R2):Bool:=decide (l.length≤1000000)
def Wm (l m:List R4):Bool:=decide (l.length≤1000000)
def Vq (l m:List R6):Bool:=decide (l.length≤1000000)
theorem z3z {α:Type} [DecidableEq α] (x y:α) (l m:List α):decide (x::l=y::m)=(decide (x=y)&&decide (l=m)):=by rw [←Bool.decide_and];congr 1;simp
theorem v7q (l m:List R2) (hl:l.length≤1000000) (hm:l.length=m.length): ∀(k i:Nat),i+k=l.length→ ∃N,Yv (z4u l m) N (.to (.h0 (i:Int)))=.ret [.bool (decide (l.drop i=m.drop i))]
 | 0,i,h=>by refine ⟨1,?_⟩;rw [Zv,List.drop_eq_nil_of_le (show l.length≤i by omega),List.drop_eq_nil_of_le (show m.length≤i by omega)];simp (disch:=omega) only [z4u,Xv,Ye,Zt,Yw,Xh,Yu,Yg,Yk,Yz,Zk,Zi,Qc,Qd,decide_true,Zx,Zs,Zf,Yq,Zj,Nat.zero_add,Bool.and_true,Bool.true_and,cond_true,cond_false,Bool.not_true,Bool.not_false,Zm]
 | k+1,i,h=>by
  obtain ⟨N,hN⟩:=v7q l m hl hm k (i+1) (by omega);refine ⟨N+1,?_⟩;rw [Zv,Yp (show i<l.length by omega),Yp (show i<m.length by omega),z3z];rcases Yf (decide (rd l i=rd m i)) with q | q
  ·simp (disch:=omega) only [z4u,v3o,q,Xv,Ye,Zt,Yw,Xh,Yu,Yg,Yk,Yz,Zk,Zi,Qc,Qd,decide_true,Zx,Zs,Zf,Yq,Zj,Nat.zero_add,Bool.and_true,Bool.true_and,cond_true,cond_false,Bool.not_true,Bool.not_false,Zm];exact hN
  ·simp (disch:=omega) only [z4u,v3o,q,Xv,Ye,Zt,Yw,Xh,Yu,Yg,Yk,Yz,Zk,Zi,Qc,Qd,decide_true,Zx,Zs,Zf,Yq,Zj,Nat.zero_add,Bool.and_true,Bool.true_and,cond_true,cond_false,Bool.not_true,Bool.not_false,Zm,Bool.false_and]
theorem u2e (l m:List R2) (h:Vp l m=true): ∃N,Yv (z4u l m) N (z5u l m)=.ret [.bool (Kj l m)]:=by
 have hl:l.length≤1000000:=of_decide_eq_true h;by_cases hm:l.length=m.length
 ·obtain ⟨N,hN⟩:=v7q l m hl hm l.length 0 (Nat.zero_add _);refine ⟨N,?_⟩;unfold z5u;rw [Qd (show (l.length:Int)=(m.length:Nat) by omega)];exact hN
 ·refine ⟨0,?_⟩;unfold z5u;rw [Qc (show (l.length:Int)≠(m.length:Nat) by omega)];have:Kj l m=false:=decide_eq_false fun e=>hm (by rw [e]);rw [this];rfl
theorem v7p (l m:List R4) (hl:l.length≤1000000) (hm:l.length=m.length): ∀(k i:Nat),i+k=l.length→ ∃N,Yv (z4t l m) N (.to (.h0 (i:Int)))=.ret [.bool (decide (l.drop i=m.drop i))]
 | 0,i,h=>by refine ⟨1,?_⟩;rw [Zv,List.drop_eq_nil_of_le (show l.length≤i by omega),List.drop_eq_nil_of_le (show m.length≤i by omega)];simp (disch:=omega) only [z4t,Xv,Ye,Zt,Yw,Xh,Yu,Yg,Yk,Yz,Zk,Zi,Qc,Qd,decide_true,Zx,Zs,Zf,Yq,Zj,Nat.zero_add,Bool.and_true,Bool.true_and,cond_true,cond_false,Bool.not_true,Bool.not_false,Zm]
 | k+1,i,h=>by
  obtain ⟨N,hN⟩:=v7p l m hl hm k (i+1) (by omega);refine ⟨N+1,?_⟩;rw [Zv,Yp (show i<l.length by omega),Yp (show i<m.length by omega),z3z];rcases Yf (decide (rd l i=rd m i)) with q | q
  ·simp (disch:=omega) only [z4t,v3n,q,Xv,Ye,Zt,Yw,Xh,Yu,Yg,Yk,Yz,Zk,Zi,Qc,Qd,decide_true,Zx,Zs,Zf,Yq,Zj,Nat.zero_add,Bool.and_true,Bool.true_and,cond_true,cond_false,Bool.not_true,Bool.not_false,Zm];exact hN
  ·simp (disch:=omega) only [z4t,v3n,q,Xv,Ye,Zt,Yw,Xh,Yu,Yg,Yk,Yz,Zk,Zi,Qc,Qd,decide_true,Zx,Zs,Zf,Yq,Zj,Nat.zero_add,Bool.and_true,Bool.true_and,cond_true,cond_false,Bool.not_true,Bool.not_false,Zm,Bool.false_and]
theorem u2d (l m:List R4) (h:Wm l m=true): ∃N,Yv (z4t l m) N (z5t l m)=.ret [.bool (Um l m)]:=by
 have hl:l.length≤1000000:=of_decide_eq_true h;by_cases hm:l.length=m.length
 ·obtain ⟨N,hN⟩:=v7p l m hl hm l.length 0 (Nat.zero_add _);refine ⟨N,?_⟩;unfold z5t;rw [Qd (show (l.length:Int)=(m.length:Nat) by omega)];exact hN
 ·refine ⟨0,?_⟩;unfold z5t;rw [Qc (show (l.length:Int)≠(m.length:Nat) by omega)];have:Um l m=false:=decide_eq_false fun e=>hm (by rw [e]);rw [this];rfl
theorem v7r (l m:List R6) (hl:l.length≤1000000) (hm:l.length=m.length): ∀(k i:Nat),i+k=l.length→ ∃N,Yv (z4v l m) N (.to (.h0 (i:Int)))=.ret [.bool (decide (l.drop i=m.drop i))]
 | 0,i,h=>by refine ⟨1,?_⟩;rw [Zv,List.drop_eq_nil_of_le (show l.length≤i by omega),List.drop_eq_nil_of_le (show m.length≤i by omega)];simp (disch:=omega) only [z4v,Xv,Ye,Zt,Yw,Xh,Yu,Yg,Yk,Yz,Zk,Zi,Qc,Qd,decide_true,Zx,Zs,Zf,Yq,Zj,Nat.zero_add,Bool.and_true,Bool.true_and,cond_true,cond_false,Bool.not_true,Bool.not_false,Zm]
 | k+1,i,h=>by
  obtain ⟨N,hN⟩:=v7r l m hl hm k (i+1) (by omega);refine ⟨N+1,?_⟩;rw [Zv,Yp (show i<l.length by omega),Yp (show i<m.length by omega),z3z];rcases Yf (decide (rd l i=rd m i)) with q | q
  ·simp (disch:=omega) only [z4v,v3m,q,Xv,Ye,Zt,Yw,Xh,Yu,Yg,Yk,Yz,Zk,Zi,Qc,Qd,decide_true,Zx,Zs,Zf,Yq,Zj,Nat.zero_add,Bool.and_true,Bool.true_and,cond_true,cond_false,Bool.not_true,Bool.not_false,Zm];exact hN
  ·simp (disch:=omega) only [z4v,v3m,q,Xv,Ye,Zt,Yw,Xh,Yu,Yg,Yk,Yz,Zk,Zi,Qc,Qd,decide_true,Zx,Zs,Zf,Yq,Zj,Nat.zero_add,Bool.and_true,Bool.true_and,cond_true,cond_false,Bool.not_true,Bool.not_false,Zm,Bool.false_and]
theorem u2f (l m:List R6) (h:Vq l m=true): ∃N,Yv (z4v l m) N (z5v l m)=.ret [.bool (Jp l m)]:=by
 have hl:l.length≤1000000:=of_decide_eq_true h;by_cases hm:l.length=m.length
 ·obtain ⟨N,hN⟩:=v7r l m hl hm l.length 0 (Nat.zero_add _);refine ⟨N,?_⟩;unfold z5v;rw [Qd (show (l.length:Int)=(m.length:Nat) by omega)];exact hN
 ·refine ⟨0,?_⟩;unfold z5v;rw [Qc (show (l.length:Int)≠(m.length:Nat) by omega)];have:Jp l m=false:=decide_eq_false fun e=>hm (by rw [e]);rw [this];rfl
theorem u0e (l m:List R2) (hl:l.length≤1000000) (hm:l.length=m.length): ∀(k i:Nat),i+k=l.length→ ∃N,Yv (z5i l m) N (.to (.h0 (i:Int)))=.ret [.bool (decide (l.drop i=m.drop i))]
 | 0,i,h=>by refine ⟨1,?_⟩;rw [Zv,List.drop_eq_nil_of_le (show l.length≤i by omega),List.drop_eq_nil_of_le (show m.length≤i by omega)];simp (disch:=omega) only [z5i,Xv,Ye,Zt,Yw,Xh,Yu,Yg,Yk,Yz,Zk,Zi,Qc,Qd,decide_true,Zx,Zs,Zf,Yq,Zj,Nat.zero_add,Bool.and_true,Bool.true_and,cond_true,cond_false,Bool.not_true,Bool.not_false,Zm]
 | k+1,i,h=>by
  obtain ⟨N,hN⟩:=u0e l m hl hm k (i+1) (by omega);refine ⟨N+1,?_⟩;rw [Zv,Yp (show i<l.length by omega),Yp (show i<m.length by omega),z3z];rcases Yf (decide (rd l i=rd m i)) with q | q
  ·simp (disch:=omega) only [z5i,v3o,q,Xv,Ye,Zt,Yw,Xh,Yu,Yg,Yk,Yz,Zk,Zi,Qc,Qd,decide_true,Zx,Zs,Zf,Yq,Zj,Nat.zero_add,Bool.and_true,Bool.true_and,cond_true,cond_false,Bool.not_true,Bool.not_false,Zm];exact hN
  ·simp (disch:=omega) only [z5i,v3o,q,Xv,Ye,Zt,Yw,Xh,Yu,Yg,Yk,Yz,Zk,Zi,Qc,Qd,decide_true,Zx,Zs,Zf,Yq,Zj,Nat.zero_add,Bool.and_true,Bool.true_and,cond_true,cond_false,Bool.not_true,Bool.not_false,Zm,Bool.false_and]
theorem u6e (l m:List R2) (h:Vp l m=true): ∃N,Yv (z5i l m) N (z6v l m)=.ret [.bool (Kj l m)]:=by
 have hl:l.length≤1000000:=of_decide_eq_true h;by_cases hm:l.length=m.length
 ·obtain ⟨N,hN⟩:=u0e l m hl hm l.length 0 (Nat.zero_add _);refine ⟨N,?_⟩;unfold z6v;rw [Qd (show (l.length:Int)=(m.length:Nat) by omega)];exact hN
 ·refine ⟨0,?_⟩;unfold z6v;rw [Qc (show (l.length:Int)≠(m.length:Nat) by omega)];have:Kj l m=false:=decide_eq_false fun e=>hm (by rw [e]);rw [this];rfl
theorem u0d (l m:List R4) (hl:l.length≤1000000) (hm:l.length=m.length): ∀(k i:Nat),i+k=l.length→ ∃N,Yv (z5h l m) N (.to (.h0 (i:Int)))=.ret [.bool (decide (l.drop i=m.drop i))]
 | 0,i,h=>by refine ⟨1,?_⟩;rw [Zv,List.drop_eq_nil_of_le (show l.length≤i by omega),List.drop_eq_nil_of_le (show m.length≤i by omega)];simp (disch:=omega) only [z5h,Xv,Ye,Zt,Yw,Xh,Yu,Yg,Yk,Yz,Zk,Zi,Qc,Qd,decide_true,Zx,Zs,Zf,Yq,Zj,Nat.zero_add,Bool.and_true,Bool.true_and,cond_true,cond_false,Bool.not_true,Bool.not_false,Zm]
 | k+1,i,h=>by
  obtain ⟨N,hN⟩:=u0d l m hl hm k (i+1) (by omega);refine ⟨N+1,?_⟩;rw [Zv,Yp (show i<l.length by omega),Yp (show i<m.length by omega),z3z];rcases Yf (decide (rd l i=rd m i)) with q | q
  ·simp (disch:=omega) only [z5h,v3n,q,Xv,Ye,Zt,Yw,Xh,Yu,Yg,Yk,Yz,Zk,Zi,Qc,Qd,decide_true,Zx,Zs,Zf,Yq,Zj,Nat.zero_add,Bool.and_true,Bool.true_and,cond_true,cond_false,Bool.not_true,Bool.not_false,Zm];exact hN
  ·simp (disch:=omega) only [z5h,v3n,q,Xv,Ye,Zt,Yw,Xh,Yu,Yg,Yk,Yz,Zk,Zi,Qc,Qd,decide_true,Zx,Zs,Zf,Yq,Zj,Nat.zero_add,Bool.and_true,Bool.true_and,cond_true,cond_false,Bool.not_true,Bool.not_false,Zm,Bool.false_and]
theorem u6d (l m:List R4) (h:Wm l m=true): ∃N,Yv (z5h l m) N (z6u l m)=.ret [.bool (Um l m)]:=by
 have hl:l.length≤1000000:=of_decide_eq_true h;by_cases hm:l.length=m.length
 ·obtain ⟨N,hN⟩:=u0d l m hl hm l.length 0 (Nat.zero_add _);refine ⟨N,?_⟩;unfold z6u;rw [Qd (show (l.length:Int)=(m.length:Nat) by omega)];exact hN
 ·refine ⟨0,?_⟩;unfold z6u;rw [Qc (show (l.length:Int)≠(m.length:Nat) by omega)];have:Um l m=false:=decide_eq_false fun e=>hm (by rw [e]);rw [this];rfl
theorem u0c (l m:List R6) (hl:l.length≤1000000) (hm:l.length=m.length): ∀(k i:Nat),i+k=l.length→ ∃N,Yv (z5g l m) N (.to (.h0 (i:Int)))=.ret [.bool (decide (l.drop i=m.drop i))]
 | 0,i,h=>by refine ⟨1,?_⟩;rw [Zv,List.drop_eq_nil_of_le (show l.length≤i by omega),List.drop_eq_nil_of_le (show m.length≤i by omega)];simp (disch:=omega) only [z5g,Xv,Ye,Zt,Yw,Xh,Yu,Yg,Yk,Yz,Zk,Zi,Qc,Qd,decide_true,Zx,Zs,Zf,Yq,Zj,Nat.zero_add,Bool.and_true,Bool.true_and,cond_true,cond_false,Bool.not_true,Bool.not_false,Zm]
 | k+1,i,h=>by
  obtain ⟨N,hN⟩:=u0c l m hl hm k (i+1) (by omega);refine ⟨N+1,?_⟩;rw [Zv,Yp (show i<l.length by omega),Yp (show i<m.length by omega),z3z];rcases Yf (decide (rd l i=rd m i)) with q | q
  ·simp (disch:=omega) only [z5g,v3m,q,Xv,Ye,Zt,Yw,Xh,Yu,Yg,Yk,Yz,Zk,Zi,Qc,Qd,decide_true,Zx,Zs,Zf,Yq,Zj,Nat.zero_add,Bool.and_true,Bool.true_and,cond_true,cond_false,Bool.not_true,Bool.not_false,Zm];exact hN
  ·simp (disch:=omega) only [z5g,v3m,q,Xv,Ye,Zt,Yw,Xh,Yu,Yg,Yk,Yz,Zk,Zi,Qc,Qd,decide_true,Zx,Zs,Zf,Yq,Zj,Nat.zero_add,Bool.and_true,Bool.true_and,cond_true,cond_false,Bool.not_true,Bool.not_false,Zm,Bool.false_and]
theorem u6c (l m:List R6) (h:Vq l m=true): ∃N,Yv (z5g l m) N (z6t l m)=.ret [.bool (Jp l m)]:=by
 have hl:l.length≤1000000:=of_decide_eq_true h;by_cases hm:l.length=m.length
 ·obtain ⟨N,hN⟩:=u0c l m hl hm l.length 0 (Nat.zero_add _);refine ⟨N,?_⟩;unfold z6t;rw [Qd (show (l.length:Int)=(m.length:Nat) by omega)];exact hN
 ·refine ⟨0,?_⟩;unfold z6t;rw [Qc (show (l.length:Int)≠(m.length:Nat) by omega)];have:Jp l m=false:=decide_eq_false fun e=>hm (by rw [e]);rw [this];rfl
def in4 (x y:Int) (r:R4):Bool:=decide (r.a≤x)&&(decide (x<r.c)&&(decide (r.b≤y)&&decide (y<r.d)))
def has4V (l:List R4) (x y:Int):Bool:=l.any (in4 x y)
def Qw (l:List R4) (x y:Int):Bool:=decide (l.length≤1000000)
theorem w6i (l:List R4) (x y:Int) (hl:l.length≤1000000): ∀(k i:Nat),i+k=l.length→ ∃N,Yv (z3r l x y) N (.to (.h0 (i:Int)))=.ret [.bool ((l.drop i).any (in4 x y))]
 | 0,i,h=>by refine ⟨1,?_⟩;rw [Zv,List.drop_eq_nil_of_le (show l.length≤i by omega)];simp (disch:=omega) only [z3r,Xv,Ye,Zt,Yw,Xh,Yu,Yg,Yk,Yz,Zk,Zi,Qc,Qd,decide_true,Zx,Zs,Zf,Yq,Zj,Nat.zero_add,Bool.and_true,Bool.true_and,cond_true,cond_false,Bool.not_true,Bool.not_false,Zm];rfl
 | k+1,i,h=>by
  obtain ⟨N,hN⟩:=w6i l x y hl k (i+1) (by omega);refine ⟨N+1,?_⟩;rw [Zv,Yp (show i<l.length by omega),List.any_cons];unfold in4 at hN ⊢;rcases Yf (decide ((rd l i).a ≤x)) with q1 | q1 <;> rcases Yf (decide (x<(rd l i).c)) with q2 | q2 <;> rcases Yf (decide ((rd l i).b ≤y)) with q3 | q3 <;> rcases Yf (decide (y<(rd l i).d)) with q4 | q4 <;>
   simp (disch:=omega) only [z3r,q1,q2,q3,q4,Xv,Ye,Zt,Yw,Xh,Yu,Yg,Yk,Yz,Zk,Zi,Qc,Qd,decide_true,Zx,Zs,Zf,Yq,Zj,Nat.zero_add,Bool.and_true,Bool.true_and,cond_true,cond_false,Bool.not_true,Bool.not_false,Zm,Bool.false_and,Bool.and_false,Bool.false_or,Bool.true_or] <;> exact hN
theorem v2s (l:List R4) (x y:Int) (h:Qw l x y=true): ∃N,Yv (z3r l x y) N (z5y l x y)=.ret [.bool (has4V l x y)]:=by
 have:=w6i l x y (of_decide_eq_true h) l.length 0 (Nat.zero_add _)
 simpa [z5y,has4V] using this
def on6 (z:Int) (b:R6):Bool:=decide (b.c≤z)&&decide (z<b.f)
def u4q (b:R6):R4:=⟨b.a,b.b,b.d,b.e⟩
def atV (l:List R6) (z:Int):List R4:=(l.filter (on6 z)).map u4q
def z4d (l:List R6) (z:Int):Bool:=decide (l.length≤1000000)
theorem w7b (l:List R6) (z:Int) (hl:l.length≤1000000): ∀(k i:Nat) (out:List R4),i+k=l.length→out.length≤i→ ∃N,Yv (z4w l z) N (.to (.h0 out (i:Int)))=.ret [.dat (out++atV (l.drop i) z).length (Zz (out++atV (l.drop i) z))]
 | 0,i,out,h,ho=>by refine ⟨1,?_⟩;rw [Zv,List.drop_eq_nil_of_le (show l.length≤i by omega)];simp (disch:=omega) only [z4w,Xv,Ye,Zt,Yw,Xh,Yu,Yg,Yk,Yz,Zk,Zi,Qc,Qd,decide_true,Zx,Zs,Zf,Yq,Zj,Nat.zero_add,Bool.and_true,Bool.true_and,cond_true,cond_false,Bool.not_true,Bool.not_false,Zm,atV,List.filter_nil,List.map_nil,List.append_nil]
 | k+1,i,out,h,ho=>by
  rw [Yp (show i<l.length by omega)];have e:atV (rd l i::l.drop (i+1)) z=(bif on6 z (rd l i) then [u4q (rd l i)] else [])++atV (l.drop (i+1)) z:=by unfold atV;rw [List.filter_cons];cases on6 z (rd l i) <;> rfl
  rw [e,←List.append_assoc];rcases Yf (decide ((rd l i).c ≤z)) with q1 | q1 <;> rcases Yf (decide (z<(rd l i).f)) with q2 | q2
  ·obtain ⟨N,hN⟩:=w7b l z hl k (i+1) (out++[u4q (rd l i)]) (by omega) (by simp;omega);refine ⟨N+1,?_⟩;rw [Zv];simp (disch:=omega) only [z4w,q1,q2,on6,Xv,Ye,Zt,Yw,Xh,Yu,Yg,Yk,Yz,Zk,Zi,Qc,Qd,decide_true,Zx,Zs,Zf,Yq,Zj,Nat.zero_add,Bool.and_true,Bool.true_and,cond_true,cond_false,Bool.not_true,Bool.not_false,Zm];exact hN
  all_goals
   obtain ⟨N,hN⟩:=w7b l z hl k (i+1) out (by omega) (by omega);refine ⟨N+1,?_⟩;rw [Zv];simp (disch:=omega) only [z4w,q1,q2,on6,Xv,Ye,Zt,Yw,Xh,Yu,Yg,Yk,Yz,Zk,Zi,Qc,Qd,decide_true,Zx,Zs,Zf,Yq,Zj,Nat.zero_add,Bool.and_true,Bool.true_and,cond_true,cond_false,Bool.not_true,Bool.not_false,Zm,Bool.false_and,Bool.and_false,List.append_nil];exact hN
theorem u3a (l:List R6) (z:Int) (h:z4d l z=true): ∃N,Yv (z4w l z) N (y0v l z)=.ret [.dat (atV l z).length (Zz (atV l z))]:=by
 have:=w7b l z (of_decide_eq_true h) l.length 0 [] (Nat.zero_add _) (Nat.le_refl _)
 simpa [y0v] using this
def w4o (cuts:List Int) (ins:List Bool):Nat→Nat→List R2→List R2
 | 0,_,out=>out
 | k+1,i,out=>w4o cuts ins k (i+1) (bif rd ins i then (bif decide (0<out.length)&&((rd out (out.length - 1)).b == rd cuts i) then out.set (out.length - 1) ⟨(rd out (out.length - 1)).a,rd cuts (i+1)⟩ else out++[⟨rd cuts i,rd cuts (i+1)⟩]) else out)
def z9v (cuts:List Int) (ins:List Bool):List R2:=w4o cuts ins (cuts.length - 1) 0 []
def z7e (cuts:List Int) (ins:List Bool):Bool:=decide (cuts.length≤1000000∧cuts.length≤ins.length+1)
theorem y8m (cuts:List Int) (ins:List Bool) (hl:cuts.length≤1000000) (hi:cuts.length≤ins.length+1): ∀(k i:Nat) (out:List R2),k=cuts.length - 1 - i→i≤cuts.length→out.length≤i→ ∃N,Yv (Kn cuts ins) N (.to (.h0 out (i:Int)))=.ret [.dat (w4o cuts ins k i out).length (Zz (w4o cuts ins k i out))]
 | 0,i,out,h,hi2,ho=>by refine ⟨1,?_⟩;rw [Zv];simp (disch:=omega) only [Kn,Xv,Ye,Zt,Yw,Xh,Yu,Yg,Yk,Yz,Zk,Zi,Qc,Qd,decide_true,Zx,Zs,Zf,Yq,Zj,Nat.zero_add,Bool.and_true,Bool.true_and,cond_true,cond_false,Bool.not_true,Bool.not_false,Zm,w4o]
 | k+1,i,out,h,hi2,ho=>by
  unfold w4o;rcases Yf (rd ins i) with q | q
  ·rcases Yf (decide (0<out.length)&&((rd out (out.length - 1)).b == rd cuts i)) with q2 | q2
   ·obtain ⟨N,hN⟩:=y8m cuts ins hl hi k (i+1) (out.set (out.length - 1) ⟨(rd out (out.length - 1)).a,rd cuts (i+1)⟩) (by omega) (by omega) (by simp;omega);refine ⟨N+1,?_⟩;rw [Zv,q,q2];simp only [Bool.and_eq_true,decide_eq_true_eq] at q2;simp (disch:=omega) only [Kn,q,q2.2,Xv,Ye,Zt,Yw,Xh,Yu,Yg,Yk,Yz,Zk,Zi,Qc,Qd,decide_true,Zx,Zs,Zf,Yq,Zj,Nat.zero_add,Bool.and_true,Bool.true_and,cond_true,cond_false,Bool.not_true,Bool.not_false,Zm];exact hN
   ·obtain ⟨N,hN⟩:=y8m cuts ins hl hi k (i+1) (out++[⟨rd cuts i,rd cuts (i+1)⟩]) (by omega) (by omega) (by simp;omega);refine ⟨N+1,?_⟩;rw [Zv,q,q2];by_cases h0:0<out.length
    ·rw [decide_eq_true h0,Bool.true_and] at q2;simp (disch:=omega) only [Kn,q,q2,Xv,Ye,Zt,Yw,Xh,Yu,Yg,Yk,Yz,Zk,Zi,Qc,Qd,decide_true,Zx,Zs,Zf,Yq,Zj,Nat.zero_add,Bool.and_true,Bool.true_and,cond_true,cond_false,Bool.not_true,Bool.not_false,Zm];exact hN
    ·simp (disch:=omega) only [Kn,q,Xv,Ye,Zt,Yw,Xh,Yu,Yg,Yk,Yz,Zk,Zi,Qc,Qd,decide_true,Zx,Zs,Zf,Yq,Zj,Nat.zero_add,Bool.and_true,Bool.true_and,cond_true,cond_false,Bool.not_true,Bool.not_false,Zm];exact hN
  ·obtain ⟨N,hN⟩:=y8m cuts ins hl hi k (i+1) out (by omega) (by omega) (by omega);refine ⟨N+1,?_⟩;rw [Zv,q];simp (disch:=omega) only [Kn,q,Xv,Ye,Zt,Yw,Xh,Yu,Yg,Yk,Yz,Zk,Zi,Qc,Qd,decide_true,Zx,Zs,Zf,Yq,Zj,Nat.zero_add,Bool.and_true,Bool.true_and,cond_true,cond_false,Bool.not_true,Bool.not_false,Zm];exact hN
theorem v3i (cuts:List Int) (ins:List Bool) (h:z7e cuts ins=true): ∃N,Yv (Kn cuts ins) N (z6f cuts ins)=.ret [.dat (z9v cuts ins).length (Zz (z9v cuts ins))]:=by
 obtain ⟨h1,h2⟩:=of_decide_eq_true h;have:=y8m cuts ins h1 h2 (cuts.length - 1) 0 [] (by omega) (Nat.zero_le _) (Nat.le_refl _)
 simpa [z6f,z9v] using this
end Go.Am
namespace Go.Am
abbrev w7m :Nat:=70
abbrev v9h :Nat:=142
abbrev v8y :Nat:=169
abbrev v9e :Nat:=167
abbrev nHas4 :Nat:=168
abbrev v8x :Nat:=128
abbrev nXs :Nat:=165
abbrev nYs :Nat:=166
abbrev v9d :Nat:=126
abbrev v8w :Nat:=20
abbrev nAt :Nat:=127
abbrev nCuts :Nat:=125
abbrev v9c :Nat:=72
abbrev w7p :Nat:=53
abbrev nEq2 :Nat:=188
abbrev nEq4 :Nat:=172
abbrev nEq6 :Nat:=99
abbrev v8v :Nat:=200
abbrev x9k :Nat:=201
abbrev nSort :Nat:=63
abbrev x9l :Nat:=64
abbrev nFst :Nat:=187
abbrev x1o :Nat:=157
abbrev x9j :Nat:=65
abbrev w7o :Nat:=121
abbrev x9h :Nat:=120
abbrev x9g :Nat:=94
abbrev x1p :Nat:=51
abbrev x9f :Nat:=191
abbrev nSpU1 :Nat:=164
abbrev nSpE1 :Nat:=170
abbrev nSpD1 :Nat:=163
abbrev nSpU :Nat:=124
abbrev nSpE :Nat:=129
abbrev nSpD :Nat:=123
abbrev x9i :Nat:=189
abbrev nRgU :Nat:=67
abbrev nRgE :Nat:=79
abbrev nRgD :Nat:=66
abbrev w7n :Nat:=47
abbrev nSHas :Nat:=43
-- not there: gambrel/gambrelref39.Floor
abbrev nMCut :Nat:=141
abbrev w7s :Nat:=101
abbrev v9a :Nat:=52
abbrev nMOf :Nat:=15
abbrev w7r :Nat:=17
abbrev v8z :Nat:=58
abbrev w7q :Nat:=22
abbrev w7t :Nat:=24
abbrev v9b :Nat:=73
abbrev x9m :Nat:=36
abbrev v9f :Nat:=37
abbrev nMv1 :Nat:=105
abbrev nMv2 :Nat:=106
abbrev nMv3 :Nat:=107
abbrev nMv4 :Nat:=108
abbrev nMv5 :Nat:=109
abbrev nMv6 :Nat:=110
abbrev nMv7 :Nat:=111
abbrev nMv8 :Nat:=112
abbrev nMv9 :Nat:=113
end Go.Am
namespace Go.Am
open Go.Proofs.Tryz
open Go.Proofs
def y3f (k:Int) (a b:Bool):Bool:=bif k == 1 then a&&b else bif k == 2 then a||b else a&& !b
def w0a (a b:Bool):Bool:=a
theorem u4n (k:Int) (a b:Bool): ∃N,Yv (x6h k a b) N (y1h k a b)=.ret [.bool (y3f k a b)]:=by
 refine ⟨0,?_⟩;unfold y1h y3f;cases a <;> cases b <;> rcases Yf (k == 1) with q | q <;> rcases Yf (k == 2) with q2 | q2 <;> rw [q] <;> (try rw [q2]) <;> rfl
theorem u4o (a b:Bool): ∃N,Yv (x6k a b) N (y9j a b)=.ret [.bool (w0a a b)]:=⟨0,rfl⟩
def fSrt :List AVal→Option (AVal×Bool)
 | [a0]=>match asL Int a0 with
  | some (L0,g0,n0)=>some (.dat (z2g L0).length (Zz (z2g L0)),isT Int n0 g0&&(Kw L0))
  | _=>none
 | _=>none
theorem u5b {S:Specs} (hS:Zu prog S):Zu prog (S.with w7m fSrt):=by
 refine z3g hS (by kernel_rfl) fun args v h=> ?_;unfold fSrt at h;split at h
 ·rename_i a0;split at h
  ·rename_i L0 g0 n0 e0;simp only [Option.some.injEq,Prod.mk.injEq,Bool.and_eq_true] at h;obtain ⟨rfl,ho0,hw⟩:=h;obtain ⟨N,hN⟩:=w5w L0 hw;exact ⟨_,_,(.cons (asL_le e0 ho0) .nil),rfl,w1s L0 N _ hN,3,rfl⟩
  ·cases h
 ·cases h
def fCan :List AVal→Option (AVal×Bool)
 | [a0,a1]=>match asL Int a0,asL Bool a1 with
  | some (L0,g0,n0),some (L1,g1,n1)=>some (.dat (z9v L0 L1).length (Zz (z9v L0 L1)),isT Int n0 g0&&(isT Bool n1 g1&&(z7e L0 L1)))
  | _,_=>none
 | _=>none
theorem u6a {S:Specs} (hS:Zu prog S):Zu prog (S.with v9h fCan):=by
 refine z3g hS (by kernel_rfl) fun args v h=> ?_;unfold fCan at h;split at h
 ·rename_i a0 a1;split at h
  ·rename_i L0 g0 n0 L1 g1 n1 e0 e1;simp only [Option.some.injEq,Prod.mk.injEq,Bool.and_eq_true] at h;obtain ⟨rfl,ho0,ho1,hw⟩:=h;obtain ⟨N,hN⟩:=v3i L0 L1 hw;exact ⟨_,_,(.cons (asL_le e0 ho0) (.cons (asL_le e1 ho1) .nil)),rfl,w7a L0 L1 N _ hN,3,rfl⟩
  ·cases h
 ·cases h
def y7e :List AVal→Option (AVal×Bool)
 | [a0,a1]=>match asL R2 a0,asL R2 a1 with
  | some (L0,g0,n0),some (L1,g1,n1)=>some (.bool (Kj L0 L1),isT R2 n0 g0&&(isT R2 n1 g1&&(Vp L0 L1)))
  | _,_=>none
 | _=>none
theorem w9q {S:Specs} (hS:Zu prog S):Zu prog (S.with v8y y7e):=by
 refine z3g hS (by kernel_rfl) fun args v h=> ?_;unfold y7e at h;split at h
 ·rename_i a0 a1;split at h
  ·rename_i L0 g0 n0 L1 g1 n1 e0 e1;simp only [Option.some.injEq,Prod.mk.injEq,Bool.and_eq_true] at h;obtain ⟨rfl,ho0,ho1,hw⟩:=h;obtain ⟨N,hN⟩:=u2e L0 L1 hw;exact ⟨_,_,(.cons (asL_le e0 ho0) (.cons (asL_le e1 ho1) .nil)),rfl,v2l L0 L1 N _ hN,3,rfl⟩
  ·cases h
 ·cases h
def y7d :List AVal→Option (AVal×Bool)
 | [a0,a1]=>match asL R4 a0,asL R4 a1 with
  | some (L0,g0,n0),some (L1,g1,n1)=>some (.bool (Um L0 L1),isT R4 n0 g0&&(isT R4 n1 g1&&(Wm L0 L1)))
  | _,_=>none
 | _=>none
theorem w9p {S:Specs} (hS:Zu prog S):Zu prog (S.with v8x y7d):=by
 refine z3g hS (by kernel_rfl) fun args v h=> ?_;unfold y7d at h;split at h
 ·rename_i a0 a1;split at h
  ·rename_i L0 g0 n0 L1 g1 n1 e0 e1;simp only [Option.some.injEq,Prod.mk.injEq,Bool.and_eq_true] at h;obtain ⟨rfl,ho0,ho1,hw⟩:=h;obtain ⟨N,hN⟩:=u2d L0 L1 hw;exact ⟨_,_,(.cons (asL_le e0 ho0) (.cons (asL_le e1 ho1) .nil)),rfl,v2k L0 L1 N _ hN,3,rfl⟩
  ·cases h
 ·cases h
def y7c :List AVal→Option (AVal×Bool)
 | [a0,a1]=>match asL R6 a0,asL R6 a1 with
  | some (L0,g0,n0),some (L1,g1,n1)=>some (.bool (Jp L0 L1),isT R6 n0 g0&&(isT R6 n1 g1&&(Vq L0 L1)))
  | _,_=>none
 | _=>none
theorem w9o {S:Specs} (hS:Zu prog S):Zu prog (S.with v8w y7c):=by
 refine z3g hS (by kernel_rfl) fun args v h=> ?_;unfold y7c at h;split at h
 ·rename_i a0 a1;split at h
  ·rename_i L0 g0 n0 L1 g1 n1 e0 e1;simp only [Option.some.injEq,Prod.mk.injEq,Bool.and_eq_true] at h;obtain ⟨rfl,ho0,ho1,hw⟩:=h;obtain ⟨N,hN⟩:=u2f L0 L1 hw;exact ⟨_,_,(.cons (asL_le e0 ho0) (.cons (asL_le e1 ho1) .nil)),rfl,v2m L0 L1 N _ hN,3,rfl⟩
  ·cases h
 ·cases h
def u5t :List AVal→Option (AVal×Bool)
 | [a0,.int .i64 x1,.int .i64 x2]=>match asL R4 a0 with
  | some (L0,g0,n0)=>some (.bool (has4V L0 x1 x2),isT R4 n0 g0&&(Qw L0 x1 x2))
  | _=>none
 | _=>none
theorem v5j {S:Specs} (hS:Zu prog S):Zu prog (S.with nHas4 u5t):=by
 refine z3g hS (by kernel_rfl) fun args v h=> ?_;unfold u5t at h;split at h
 ·rename_i a0 x1 x2;split at h
  ·rename_i L0 g0 n0 e0;simp only [Option.some.injEq,Prod.mk.injEq,Bool.and_eq_true] at h;obtain ⟨rfl,ho0,hw⟩:=h;obtain ⟨N,hN⟩:=v2s L0 x1 x2 hw;exact ⟨_,_,(.cons (asL_le e0 ho0) (.cons (.refl _) (.cons (.refl _) .nil))),rfl,w6j L0 x1 x2 N _ hN,3,rfl⟩
  ·cases h
 ·cases h
def fAt :List AVal→Option (AVal×Bool)
 | [a0,.int .i64 x1]=>match asL R6 a0 with
  | some (L0,g0,n0)=>some (.dat (atV L0 x1).length (Zz (atV L0 x1)),isT R6 n0 g0&&(z4d L0 x1))
  | _=>none
 | _=>none
theorem fAt_ok {S:Specs} (hS:Zu prog S):Zu prog (S.with nAt fAt):=by
 refine z3g hS (by kernel_rfl) fun args v h=> ?_;unfold fAt at h;split at h
 ·rename_i a0 x1;split at h
  ·rename_i L0 g0 n0 e0;simp only [Option.some.injEq,Prod.mk.injEq,Bool.and_eq_true] at h;obtain ⟨rfl,ho0,hw⟩:=h;obtain ⟨N,hN⟩:=u3a L0 x1 hw;exact ⟨_,_,(.cons (asL_le e0 ho0) (.cons (.refl _) .nil)),rfl,v3j L0 x1 N _ hN,3,rfl⟩
  ·cases h
 ·cases h
def w9t :List AVal→Option (AVal×Bool)
 | [.int .i64 x0,.bool b1,.bool b2]=>some (.bool (y3f x0 b1 b2),true)
 | _=>none
theorem w9s {S:Specs} (hS:Zu prog S):Zu prog (S.with v9e w9t):=by
 refine z3g hS (by kernel_rfl) fun args v h=> ?_;unfold w9t at h;split at h
 ·rename_i x0 b1 b2;simp only [Option.some.injEq,Prod.mk.injEq,and_true] at h;subst h;obtain ⟨N,hN⟩:=u4n x0 b1 b2;exact ⟨_,_,(.cons (.refl _) (.cons (.refl _) (.cons (.refl _) .nil))),rfl,v5b x0 b1 b2 N _ hN,3,rfl⟩
 ·cases h
def fFst :List AVal→Option (AVal×Bool)
 | [.bool b0,.bool b1]=>some (.bool (w0a b0 b1),true)
 | _=>none
theorem u5u {S:Specs} (hS:Zu prog S):Zu prog (S.with nFst fFst):=by
 refine z3g hS (by kernel_rfl) fun args v h=> ?_;unfold fFst at h;split at h
 ·rename_i b0 b1;simp only [Option.some.injEq,Prod.mk.injEq,and_true] at h;subst h;obtain ⟨N,hN⟩:=u4o b0 b1;exact ⟨_,_,(.cons (.refl _) (.cons (.refl _) .nil)),rfl,v5c b0 b1 N _ hN,3,rfl⟩
 ·cases h
theorem w3l {S:Specs} (hS:Zu prog S):Zu prog (S.with nEq2 y7e):=by
 refine z3g hS (by kernel_rfl) fun args v h=> ?_;unfold y7e at h;split at h
 ·rename_i a0 a1;split at h
  ·rename_i L0 g0 n0 L1 g1 n1 e0 e1;simp only [Option.some.injEq,Prod.mk.injEq,Bool.and_eq_true] at h;obtain ⟨rfl,ho0,ho1,hw⟩:=h;obtain ⟨N,hN⟩:=u6e L0 L1 hw;exact ⟨_,_,(.cons (asL_le e0 ho0) (.cons (asL_le e1 ho1) .nil)),rfl,v5r L0 L1 N _ hN,3,rfl⟩
  ·cases h
 ·cases h
theorem w3k {S:Specs} (hS:Zu prog S):Zu prog (S.with nEq4 y7d):=by
 refine z3g hS (by kernel_rfl) fun args v h=> ?_;unfold y7d at h;split at h
 ·rename_i a0 a1;split at h
  ·rename_i L0 g0 n0 L1 g1 n1 e0 e1;simp only [Option.some.injEq,Prod.mk.injEq,Bool.and_eq_true] at h;obtain ⟨rfl,ho0,ho1,hw⟩:=h;obtain ⟨N,hN⟩:=u6d L0 L1 hw;exact ⟨_,_,(.cons (asL_le e0 ho0) (.cons (asL_le e1 ho1) .nil)),rfl,v5q L0 L1 N _ hN,3,rfl⟩
  ·cases h
 ·cases h
theorem w3j {S:Specs} (hS:Zu prog S):Zu prog (S.with nEq6 y7c):=by
 refine z3g hS (by kernel_rfl) fun args v h=> ?_;unfold y7c at h;split at h
 ·rename_i a0 a1;split at h
  ·rename_i L0 g0 n0 L1 g1 n1 e0 e1;simp only [Option.some.injEq,Prod.mk.injEq,Bool.and_eq_true] at h;obtain ⟨rfl,ho0,ho1,hw⟩:=h;obtain ⟨N,hN⟩:=u6c L0 L1 hw;exact ⟨_,_,(.cons (asL_le e0 ho0) (.cons (asL_le e1 ho1) .nil)),rfl,v5p L0 L1 N _ hN,3,rfl⟩
  ·cases h
 ·cases h
def T1 :Specs:=((((((((((((noSpecs.with w7m fSrt).with v9h fCan).with v8y y7e).with v8x y7d).with v8w y7c).with nHas4 u5t).with nAt fAt).with v9e w9t).with nFst fFst).with nEq2 y7e).with nEq4 y7d).with nEq6 y7c)
theorem z2d :Zu prog T1:=w3j (w3k (w3l (u5u (w9s (fAt_ok (v5j (w9o (w9p (w9q (u6a (u5b Zp)))))))))))
end Go.Am
namespace Go.Am
open Go.Proofs.Tryz
open Go.Proofs
inductive rxsS where
 | h0 (v5:List Int) (v6:Int)
 | h1 (v5:List Int) (v7:Int)
def rxsC (l0:List R4) (l1:List R4):rxsS→Cfg
 | .h0 v5 v6=>⟨⟨48,0,true⟩,none,(Zd prog 165 [1,1,0,1,0,0] 0),none,(Zy prog 5),⟨Ya [(0,(.dat l0.length (Zz l0))),(1,(.dat l1.length (Zz l1))),(5,(.sla 0 1 0 v5.length (.un 1))),(6,(ii v6))],Uq [⟨rows v5.length (Zz v5),3,some ⟨1,v5.length,(Zz v5)⟩⟩] 0,1,[],true⟩,[],.leaf⟩
 | .h1 v5 v7=>⟨⟨48,0,true⟩,none,(Zd prog 165 [1,1,1,0,1,0,0] 0),none,(Zy prog 5),⟨Ya [(1,(.dat l1.length (Zz l1))),(5,(.sla 0 1 0 v5.length (.un 1))),(7,(ii v7))],Uq [⟨rows v5.length (Zz v5),3,some ⟨1,v5.length,(Zz v5)⟩⟩] 0,1,[],true⟩,[],.leaf⟩
def rxsN0 :List (Option (List Nat)):=[some [0,1,5,6]]
def rxsM0 :List (Option (List Nat)):=[]
def rxsN1 :List (Option (List Nat)):=[some [1,5,7]]
def rxsM1 :List (Option (List Nat)):=[]
def z1k (l0:List R4) (l1:List R4):rxsS→Xf rxsS
 | .h0 v5 v6=>(bif (decide (v6<(l0.length:Int))) then (bif ((decide (0≤v6∧v6<(l0.length:Int)))&&true) then (bif (Nat.beq 1 1&&((decide (0+v5.length=v5.length))&&decide ((v5.length+2+1)*(8+1)≤Ur))) then (.to (.h0 (v5++[(rd l0 v6.toNat).a,(rd l0 v6.toNat).c]) (IntKind.wrap .i64 (v6+1)))) else .stuck) else .stuck) else (.to (.h1 v5 0)))
 | .h1 v5 v7=>(bif (decide (v7<(l1.length:Int))) then (bif ((decide (0≤v7∧v7<(l1.length:Int)))&&true) then (bif (Nat.beq 1 1&&((decide (0+v5.length=v5.length))&&decide ((v5.length+2+1)*(8+1)≤Ur))) then (.to (.h1 (v5++[(rd l1 v7.toNat).a,(rd l1 v7.toNat).c]) (IntKind.wrap .i64 (v7+1)))) else .stuck) else .stuck) else (bif (Kw (cvT v5)) then (.ret [(.dat (z2g (cvT v5)).length (Zz (z2g (cvT v5))))]) else .stuck))
def y0o (l0:List R4) (l1:List R4):Xf rxsS:=(.to (.h0 ([]:List Int) 0))
theorem w1q (l0:List R4) (l1:List R4): ∀s,Xj prog (Zy prog 165) (rxsC l0 l1) (rxsC l0 l1 s) (z1k l0 l1 s)
 | .h0 v5 v6=>(lb (fun k0=>(lo fun o0=>(lo fun o1=>(sl z2d 20 [] ⟨[2],[],rxsN0,rxsM0⟩ ⟨[(5,.len (v5++[(rd l0 (tn v6)).a,(rd l0 (tn v6)).c]).length)],[.rowed 1 (v5++[(rd l0 (tn v6)).a,(rd l0 (tn v6)).c]).length (Zz (v5++[(rd l0 (tn v6)).a,(rd l0 (tn v6)).c]))],[]⟩ [true] (pp (xL (v5.length+2) (v5++[(rd l0 (tn v6)).a,(rd l0 (tn v6)).c]).length) (pp (xL (v5.length+2) (v5++[(rd l0 (tn v6)).a,(rd l0 (tn v6)).c]).length) (pp (xS (v5.length+2) (Zh (Zz v5) 0 v5.length 1 [(ii (rd l0 (tn v6)).a),(ii (rd l0 (tn v6)).c)]) (Zz (v5++[(rd l0 (tn v6)).a,(rd l0 (tn v6)).c]))) (pp (pp (xF (Zh (Zz v5) 0 v5.length 1 [(ii (rd l0 (tn v6)).a),(ii (rd l0 (tn v6)).c)])) nn) (ww o1 (ww o0 (ww o0 (tt k0 nn)))))))))))) (fun k0=>(sl z2d 17 [] ⟨[0],[],rxsN1,rxsM1⟩ ⟨[],[],[]⟩ [false] (pp (fl v5 nn) (tt k0 nn)))))
 | .h1 v5 v7=>(lb (fun k0=>(lo fun o0=>(lo fun o1=>(sl z2d 20 [] ⟨[2],[],rxsN1,rxsM1⟩ ⟨[(5,.len (v5++[(rd l1 (tn v7)).a,(rd l1 (tn v7)).c]).length)],[.rowed 1 (v5++[(rd l1 (tn v7)).a,(rd l1 (tn v7)).c]).length (Zz (v5++[(rd l1 (tn v7)).a,(rd l1 (tn v7)).c]))],[]⟩ [true] (pp (xL (v5.length+2) (v5++[(rd l1 (tn v7)).a,(rd l1 (tn v7)).c]).length) (pp (xL (v5.length+2) (v5++[(rd l1 (tn v7)).a,(rd l1 (tn v7)).c]).length) (pp (xS (v5.length+2) (Zh (Zz v5) 0 v5.length 1 [(ii (rd l1 (tn v7)).a),(ii (rd l1 (tn v7)).c)]) (Zz (v5++[(rd l1 (tn v7)).a,(rd l1 (tn v7)).c]))) (pp (pp (xF (Zh (Zz v5) 0 v5.length 1 [(ii (rd l1 (tn v7)).a),(ii (rd l1 (tn v7)).c)])) nn) (ww o1 (ww o0 (ww o0 (tt k0 nn)))))))))))) (fun k0=>(We (sl z2d (C':=⟨⟨48,0,true⟩,(Up prog 165 [1,1,1,1,0] 1),(Zd prog 165 [1,1,1,1,0] 1),none,(Zy prog 5),⟨Ya [(46,(.dat v5.length (Zz v5)))],Uq [] 0,0,[],true⟩,[],.leaf⟩) 13 [] ⟨[],[0],[some [46]],[]⟩ ⟨[(46,.frz v5.length v5.length (Zz v5) (Zz v5))],[],[]⟩ [false] (pp (xZ (z5d 1 1 0 v5.length v5.length (Zz v5)) v5.length (Zz v5)) (pp (xL v5.length v5.length) (pp (xS v5.length (Zz v5) (Zz v5)) (pp (fl v5 nn) (tt k0 nn)))))) (lo fun o0=>(lr 48 3 [1,1,1,1,1,1,1,0] 1 5 [(4,(.dat (z2g (cvT v5)).length (Zz (z2g (cvT v5)))))] (sl z2d 3 [] ⟨[],[],[some [4]],[]⟩ ⟨[],[],[]⟩ [] (pp (pp (xr v5) (xw o0)) nn)))))))
theorem x4i (l0:List R4) (l1:List R4):Xj prog (Zy prog 165) (rxsC l0 l1) (Ze prog 165 [(.dat l0.length (Zz l0)),(.dat l1.length (Zz l1))] true []) (y0o l0 l1):=(sl z2d 15 [(3,1,Zz ([]:List Int))] ⟨[0],[],rxsN0,rxsM0⟩ ⟨[(5,.grow 0 1)],[],[]⟩ [] (pp (fl ([]:List Int) nn) nn))
theorem v2j (l0:List R4) (l1:List R4) (n:Nat) (vs:List AVal) (h:Yv (z1k l0 l1) n (y0o l0 l1)=.ret vs):Ky prog (Zy prog 165) (Ze prog 165 [(.dat l0.length (Zz l0)),(.dat l1.length (Zz l1))] true []) vs:=by have:=Zr (w1q l0 l1) n _ (x4i l0 l1);rwa [h] at this
inductive rysS where
 | h0 (v5:List Int) (v6:Int)
 | h1 (v5:List Int) (v7:Int)
def rysC (l0:List R4) (l1:List R4):rysS→Cfg
 | .h0 v5 v6=>⟨⟨48,0,true⟩,none,(Zd prog 166 [1,1,0,1,0,0] 0),none,(Zy prog 5),⟨Ya [(0,(.dat l0.length (Zz l0))),(1,(.dat l1.length (Zz l1))),(5,(.sla 0 1 0 v5.length (.un 1))),(6,(ii v6))],Uq [⟨rows v5.length (Zz v5),3,some ⟨1,v5.length,(Zz v5)⟩⟩] 0,1,[],true⟩,[],.leaf⟩
 | .h1 v5 v7=>⟨⟨48,0,true⟩,none,(Zd prog 166 [1,1,1,0,1,0,0] 0),none,(Zy prog 5),⟨Ya [(1,(.dat l1.length (Zz l1))),(5,(.sla 0 1 0 v5.length (.un 1))),(7,(ii v7))],Uq [⟨rows v5.length (Zz v5),3,some ⟨1,v5.length,(Zz v5)⟩⟩] 0,1,[],true⟩,[],.leaf⟩
def rysN0 :List (Option (List Nat)):=[some [0,1,5,6]]
def rysM0 :List (Option (List Nat)):=[]
def rysN1 :List (Option (List Nat)):=[some [1,5,7]]
def rysM1 :List (Option (List Nat)):=[]
def z1j (l0:List R4) (l1:List R4):rysS→Xf rysS
 | .h0 v5 v6=>(bif (decide (v6<(l0.length:Int))) then (bif ((decide (0≤v6∧v6<(l0.length:Int)))&&true) then (bif (Nat.beq 1 1&&((decide (0+v5.length=v5.length))&&decide ((v5.length+2+1)*(8+1)≤Ur))) then (.to (.h0 (v5++[(rd l0 v6.toNat).b,(rd l0 v6.toNat).d]) (IntKind.wrap .i64 (v6+1)))) else .stuck) else .stuck) else (.to (.h1 v5 0)))
 | .h1 v5 v7=>(bif (decide (v7<(l1.length:Int))) then (bif ((decide (0≤v7∧v7<(l1.length:Int)))&&true) then (bif (Nat.beq 1 1&&((decide (0+v5.length=v5.length))&&decide ((v5.length+2+1)*(8+1)≤Ur))) then (.to (.h1 (v5++[(rd l1 v7.toNat).b,(rd l1 v7.toNat).d]) (IntKind.wrap .i64 (v7+1)))) else .stuck) else .stuck) else (bif (Kw (cvT v5)) then (.ret [(.dat (z2g (cvT v5)).length (Zz (z2g (cvT v5))))]) else .stuck))
def y0n (l0:List R4) (l1:List R4):Xf rysS:=(.to (.h0 ([]:List Int) 0))
theorem w1p (l0:List R4) (l1:List R4): ∀s,Xj prog (Zy prog 166) (rysC l0 l1) (rysC l0 l1 s) (z1j l0 l1 s)
 | .h0 v5 v6=>(lb (fun k0=>(lo fun o0=>(lo fun o1=>(sl z2d 20 [] ⟨[2],[],rysN0,rysM0⟩ ⟨[(5,.len (v5++[(rd l0 (tn v6)).b,(rd l0 (tn v6)).d]).length)],[.rowed 1 (v5++[(rd l0 (tn v6)).b,(rd l0 (tn v6)).d]).length (Zz (v5++[(rd l0 (tn v6)).b,(rd l0 (tn v6)).d]))],[]⟩ [true] (pp (xL (v5.length+2) (v5++[(rd l0 (tn v6)).b,(rd l0 (tn v6)).d]).length) (pp (xL (v5.length+2) (v5++[(rd l0 (tn v6)).b,(rd l0 (tn v6)).d]).length) (pp (xS (v5.length+2) (Zh (Zz v5) 0 v5.length 1 [(ii (rd l0 (tn v6)).b),(ii (rd l0 (tn v6)).d)]) (Zz (v5++[(rd l0 (tn v6)).b,(rd l0 (tn v6)).d]))) (pp (pp (xF (Zh (Zz v5) 0 v5.length 1 [(ii (rd l0 (tn v6)).b),(ii (rd l0 (tn v6)).d)])) nn) (ww o1 (ww o0 (ww o0 (tt k0 nn)))))))))))) (fun k0=>(sl z2d 17 [] ⟨[0],[],rysN1,rysM1⟩ ⟨[],[],[]⟩ [false] (pp (fl v5 nn) (tt k0 nn)))))
 | .h1 v5 v7=>(lb (fun k0=>(lo fun o0=>(lo fun o1=>(sl z2d 20 [] ⟨[2],[],rysN1,rysM1⟩ ⟨[(5,.len (v5++[(rd l1 (tn v7)).b,(rd l1 (tn v7)).d]).length)],[.rowed 1 (v5++[(rd l1 (tn v7)).b,(rd l1 (tn v7)).d]).length (Zz (v5++[(rd l1 (tn v7)).b,(rd l1 (tn v7)).d]))],[]⟩ [true] (pp (xL (v5.length+2) (v5++[(rd l1 (tn v7)).b,(rd l1 (tn v7)).d]).length) (pp (xL (v5.length+2) (v5++[(rd l1 (tn v7)).b,(rd l1 (tn v7)).d]).length) (pp (xS (v5.length+2) (Zh (Zz v5) 0 v5.length 1 [(ii (rd l1 (tn v7)).b),(ii (rd l1 (tn v7)).d)]) (Zz (v5++[(rd l1 (tn v7)).b,(rd l1 (tn v7)).d]))) (pp (pp (xF (Zh (Zz v5) 0 v5.length 1 [(ii (rd l1 (tn v7)).b),(ii (rd l1 (tn v7)).d)])) nn) (ww o1 (ww o0 (ww o0 (tt k0 nn)))))))))))) (fun k0=>(We (sl z2d (C':=⟨⟨48,0,true⟩,(Up prog 166 [1,1,1,1,0] 1),(Zd prog 166 [1,1,1,1,0] 1),none,(Zy prog 5),⟨Ya [(46,(.dat v5.length (Zz v5)))],Uq [] 0,0,[],true⟩,[],.leaf⟩) 13 [] ⟨[],[0],[some [46]],[]⟩ ⟨[(46,.frz v5.length v5.length (Zz v5) (Zz v5))],[],[]⟩ [false] (pp (xZ (z5d 1 1 0 v5.length v5.length (Zz v5)) v5.length (Zz v5)) (pp (xL v5.length v5.length) (pp (xS v5.length (Zz v5) (Zz v5)) (pp (fl v5 nn) (tt k0 nn)))))) (lo fun o0=>(lr 48 3 [1,1,1,1,1,1,1,0] 1 5 [(4,(.dat (z2g (cvT v5)).length (Zz (z2g (cvT v5)))))] (sl z2d 3 [] ⟨[],[],[some [4]],[]⟩ ⟨[],[],[]⟩ [] (pp (pp (xr v5) (xw o0)) nn)))))))
theorem x4h (l0:List R4) (l1:List R4):Xj prog (Zy prog 166) (rysC l0 l1) (Ze prog 166 [(.dat l0.length (Zz l0)),(.dat l1.length (Zz l1))] true []) (y0n l0 l1):=(sl z2d 15 [(3,1,Zz ([]:List Int))] ⟨[0],[],rysN0,rysM0⟩ ⟨[(5,.grow 0 1)],[],[]⟩ [] (pp (fl ([]:List Int) nn) nn))
theorem v2i (l0:List R4) (l1:List R4) (n:Nat) (vs:List AVal) (h:Yv (z1j l0 l1) n (y0n l0 l1)=.ret vs):Ky prog (Zy prog 166) (Ze prog 166 [(.dat l0.length (Zz l0)),(.dat l1.length (Zz l1))] true []) vs:=by have:=Zr (w1p l0 l1) n _ (x4h l0 l1);rwa [h] at this
inductive rcutS where
 | h0 (v5:List Int) (v6:Int)
 | h1 (v5:List Int) (v7:Int)
def u2x (l0:List R6) (l1:List R6):rcutS→Cfg
 | .h0 v5 v6=>⟨⟨52,0,true⟩,none,(Zd prog 125 [1,1,0,1,0,0] 0),none,(Zy prog 5),⟨Ya [(0,(.dat l0.length (Zz l0))),(1,(.dat l1.length (Zz l1))),(5,(.sla 0 1 0 v5.length (.un 1))),(6,(ii v6))],Uq [⟨rows v5.length (Zz v5),3,some ⟨1,v5.length,(Zz v5)⟩⟩] 0,1,[],true⟩,[],.leaf⟩
 | .h1 v5 v7=>⟨⟨52,0,true⟩,none,(Zd prog 125 [1,1,1,0,1,0,0] 0),none,(Zy prog 5),⟨Ya [(1,(.dat l1.length (Zz l1))),(5,(.sla 0 1 0 v5.length (.un 1))),(7,(ii v7))],Uq [⟨rows v5.length (Zz v5),3,some ⟨1,v5.length,(Zz v5)⟩⟩] 0,1,[],true⟩,[],.leaf⟩
def v8o :List (Option (List Nat)):=[some [0,1,5,6]]
def v8q :List (Option (List Nat)):=[]
def v8n :List (Option (List Nat)):=[some [1,5,7]]
def v8p :List (Option (List Nat)):=[]
def Ki (l0:List R6) (l1:List R6):rcutS→Xf rcutS
 | .h0 v5 v6=>(bif (decide (v6<(l0.length:Int))) then (bif ((decide (0≤v6∧v6<(l0.length:Int)))&&true) then (bif (Nat.beq 1 1&&((decide (0+v5.length=v5.length))&&decide ((v5.length+2+1)*(8+1)≤Ur))) then (.to (.h0 (v5++[(rd l0 v6.toNat).c,(rd l0 v6.toNat).f]) (IntKind.wrap .i64 (v6+1)))) else .stuck) else .stuck) else (.to (.h1 v5 0)))
 | .h1 v5 v7=>(bif (decide (v7<(l1.length:Int))) then (bif ((decide (0≤v7∧v7<(l1.length:Int)))&&true) then (bif (Nat.beq 1 1&&((decide (0+v5.length=v5.length))&&decide ((v5.length+2+1)*(8+1)≤Ur))) then (.to (.h1 (v5++[(rd l1 v7.toNat).c,(rd l1 v7.toNat).f]) (IntKind.wrap .i64 (v7+1)))) else .stuck) else .stuck) else (bif (Kw (cvT v5)) then (.ret [(.dat (z2g (cvT v5)).length (Zz (z2g (cvT v5))))]) else .stuck))
def z6d (l0:List R6) (l1:List R6):Xf rcutS:=(.to (.h0 ([]:List Int) 0))
theorem x4z (l0:List R6) (l1:List R6): ∀s,Xj prog (Zy prog 125) (u2x l0 l1) (u2x l0 l1 s) (Ki l0 l1 s)
 | .h0 v5 v6=>(lb (fun k0=>(lo fun o0=>(lo fun o1=>(sl z2d 20 [] ⟨[2],[],v8o,v8q⟩ ⟨[(5,.len (v5++[(rd l0 (tn v6)).c,(rd l0 (tn v6)).f]).length)],[.rowed 1 (v5++[(rd l0 (tn v6)).c,(rd l0 (tn v6)).f]).length (Zz (v5++[(rd l0 (tn v6)).c,(rd l0 (tn v6)).f]))],[]⟩ [true] (pp (xL (v5.length+2) (v5++[(rd l0 (tn v6)).c,(rd l0 (tn v6)).f]).length) (pp (xL (v5.length+2) (v5++[(rd l0 (tn v6)).c,(rd l0 (tn v6)).f]).length) (pp (xS (v5.length+2) (Zh (Zz v5) 0 v5.length 1 [(ii (rd l0 (tn v6)).c),(ii (rd l0 (tn v6)).f)]) (Zz (v5++[(rd l0 (tn v6)).c,(rd l0 (tn v6)).f]))) (pp (pp (xF (Zh (Zz v5) 0 v5.length 1 [(ii (rd l0 (tn v6)).c),(ii (rd l0 (tn v6)).f)])) nn) (ww o1 (ww o0 (ww o0 (tt k0 nn)))))))))))) (fun k0=>(sl z2d 17 [] ⟨[0],[],v8n,v8p⟩ ⟨[],[],[]⟩ [false] (pp (fl v5 nn) (tt k0 nn)))))
 | .h1 v5 v7=>(lb (fun k0=>(lo fun o0=>(lo fun o1=>(sl z2d 20 [] ⟨[2],[],v8n,v8p⟩ ⟨[(5,.len (v5++[(rd l1 (tn v7)).c,(rd l1 (tn v7)).f]).length)],[.rowed 1 (v5++[(rd l1 (tn v7)).c,(rd l1 (tn v7)).f]).length (Zz (v5++[(rd l1 (tn v7)).c,(rd l1 (tn v7)).f]))],[]⟩ [true] (pp (xL (v5.length+2) (v5++[(rd l1 (tn v7)).c,(rd l1 (tn v7)).f]).length) (pp (xL (v5.length+2) (v5++[(rd l1 (tn v7)).c,(rd l1 (tn v7)).f]).length) (pp (xS (v5.length+2) (Zh (Zz v5) 0 v5.length 1 [(ii (rd l1 (tn v7)).c),(ii (rd l1 (tn v7)).f)]) (Zz (v5++[(rd l1 (tn v7)).c,(rd l1 (tn v7)).f]))) (pp (pp (xF (Zh (Zz v5) 0 v5.length 1 [(ii (rd l1 (tn v7)).c),(ii (rd l1 (tn v7)).f)])) nn) (ww o1 (ww o0 (ww o0 (tt k0 nn)))))))))))) (fun k0=>(We (sl z2d (C':=⟨⟨52,0,true⟩,(Up prog 125 [1,1,1,1,0] 1),(Zd prog 125 [1,1,1,1,0] 1),none,(Zy prog 5),⟨Ya [(50,(.dat v5.length (Zz v5)))],Uq [] 0,0,[],true⟩,[],.leaf⟩) 13 [] ⟨[],[0],[some [50]],[]⟩ ⟨[(50,.frz v5.length v5.length (Zz v5) (Zz v5))],[],[]⟩ [false] (pp (xZ (z5d 1 1 0 v5.length v5.length (Zz v5)) v5.length (Zz v5)) (pp (xL v5.length v5.length) (pp (xS v5.length (Zz v5) (Zz v5)) (pp (fl v5 nn) (tt k0 nn)))))) (lo fun o0=>(lr 52 3 [1,1,1,1,1,1,1,0] 1 5 [(4,(.dat (z2g (cvT v5)).length (Zz (z2g (cvT v5)))))] (sl z2d 3 [] ⟨[],[],[some [4]],[]⟩ ⟨[],[],[]⟩ [] (pp (pp (xr v5) (xw o0)) nn)))))))
theorem x1c (l0:List R6) (l1:List R6):Xj prog (Zy prog 125) (u2x l0 l1) (Ze prog 125 [(.dat l0.length (Zz l0)),(.dat l1.length (Zz l1))] true []) (z6d l0 l1):=(sl z2d 15 [(3,1,Zz ([]:List Int))] ⟨[0],[],v8o,v8q⟩ ⟨[(5,.grow 0 1)],[],[]⟩ [] (pp (fl ([]:List Int) nn) nn))
theorem w6w (l0:List R6) (l1:List R6) (n:Nat) (vs:List AVal) (h:Yv (Ki l0 l1) n (z6d l0 l1)=.ret vs):Ky prog (Zy prog 125) (Ze prog 125 [(.dat l0.length (Zz l0)),(.dat l1.length (Zz l1))] true []) vs:=by have:=Zr (x4z l0 l1) n _ (x1c l0 l1);rwa [h] at this
end Go.Am
namespace Go.Am
open Go.Proofs.Tryz
open Go.Proofs
def z2j (l:List R4):List Int:=l.flatMap fun r=>[r.a,r.c]
def z1e (l:List R4):List Int:=l.flatMap fun r=>[r.b,r.d]
def z2i (l:List R6):List Int:=l.flatMap fun r=>[r.c,r.f]
def xsV (l m:List R4):List Int:=z2g (z2j l++z2j m)
def y0e (l m:List R4):Bool:=decide (l.length≤10000∧m.length≤10000)
theorem Qo (l:List R4):(z2j l).length =2*l.length:=by
 induction l with
 | nil=>rfl
 | cons r l ih=>show (_::_::z2j l).length =_;simp only [List.length_cons,ih];omega
theorem y5h (l:List R4) (i:Nat) (h:i<l.length):z2j (l.drop i)=z2j [rd l i]++z2j (l.drop (i+1)):=by rw [Yp h];rfl
theorem v7n (l m:List R4) (hl:l.length≤10000) (hm:m.length≤10000): ∀(k i:Nat) (out:List Int),i+k=m.length→out.length=2*l.length+2*i→ ∃N,Yv (z1k l m) N (.to (.h1 out (i:Int)))=.ret [.dat (z2g (out++z2j (m.drop i))).length (Zz (z2g (out++z2j (m.drop i))))]
 | 0,i,out,h,ho=>by refine ⟨1,?_⟩;have hw:Kw out=true:=decide_eq_true (by omega);rw [Zv,List.drop_eq_nil_of_le (show m.length≤i by omega),show z2j []=[] from rfl,List.append_nil];simp (disch:=omega) only [z1k,Xv,Ye,Zt,Yw,Xh,Yu,Yg,Yk,Yz,Zk,Zi,Qc,Qd,decide_true,Zx,Zs,Zf,Yq,Zj,Nat.zero_add,Bool.and_true,Bool.true_and,cond_true,cond_false,Bool.not_true,Bool.not_false,Zm,Za,Zq,Vc,Xw,hw]
 | k+1,i,out,h,ho=>by obtain ⟨N,hN⟩:=v7n l m hl hm k (i+1) (out++z2j [rd m i]) (by omega) (by rw [List.length_append,Qo];simp;omega);refine ⟨N+1,?_⟩;rw [y5h m i (by omega),←List.append_assoc,Zv];simp (disch:=omega) only [z1k,Xv,Ye,Zt,Yw,Xh,Yu,Yg,Yk,Yz,Zk,Zi,Qc,Qd,decide_true,Zx,Zs,Zf,Yq,Zj,Nat.zero_add,Bool.and_true,Bool.true_and,cond_true,cond_false,Bool.not_true,Bool.not_false,Zm,Za,Zq,Vc,Xw];exact hN
theorem v7o (l m:List R4) (hl:l.length≤10000) (hm:m.length≤10000): ∀(k i:Nat) (out:List Int),i+k=l.length→out.length=2*i→ ∃N,Yv (z1k l m) N (.to (.h0 out (i:Int)))=.ret [.dat (z2g (out++z2j (l.drop i)++z2j m)).length (Zz (z2g (out++z2j (l.drop i)++z2j m)))]
 | 0,i,out,h,ho=>by obtain ⟨N,hN⟩:=v7n l m hl hm m.length 0 out (Nat.zero_add _) (by omega);refine ⟨N+1,?_⟩;rw [Zv,List.drop_eq_nil_of_le (show l.length≤i by omega),show z2j []=[] from rfl,List.append_nil];simp (disch:=omega) only [z1k,Xv,Ye,Zt,Yw,Xh,Yu,Yg,Yk,Yz,Zk,Zi,Qc,Qd,decide_true,Zx,Zs,Zf,Yq,Zj,Nat.zero_add,Bool.and_true,Bool.true_and,cond_true,cond_false,Bool.not_true,Bool.not_false,Zm,Za,Zq,Vc,Xw];exact hN
 | k+1,i,out,h,ho=>by obtain ⟨N,hN⟩:=v7o l m hl hm k (i+1) (out++z2j [rd l i]) (by omega) (by rw [List.length_append,Qo];simp;omega);refine ⟨N+1,?_⟩;rw [y5h l i (by omega),←List.append_assoc,Zv];simp (disch:=omega) only [z1k,Xv,Ye,Zt,Yw,Xh,Yu,Yg,Yk,Yz,Zk,Zi,Qc,Qd,decide_true,Zx,Zs,Zf,Yq,Zj,Nat.zero_add,Bool.and_true,Bool.true_and,cond_true,cond_false,Bool.not_true,Bool.not_false,Zm,Za,Zq,Vc,Xw];exact hN
theorem u2b (l m:List R4) (h:y0e l m=true): ∃N,Yv (z1k l m) N (y0o l m)=.ret [.dat (xsV l m).length (Zz (xsV l m))]:=by
 obtain ⟨h1,h2⟩:=of_decide_eq_true h;have:=v7o l m h1 h2 l.length 0 [] (Nat.zero_add _) rfl
 simpa [y0o,xsV] using this
def ysV (l m:List R4):List Int:=z2g (z1e l++z1e m)
def y0d (l m:List R4):Bool:=decide (l.length≤10000∧m.length≤10000)
theorem Qn (l:List R4):(z1e l).length =2*l.length:=by
 induction l with
 | nil=>rfl
 | cons r l ih=>show (_::_::z1e l).length =_;simp only [List.length_cons,ih];omega
theorem y5g (l:List R4) (i:Nat) (h:i<l.length):z1e (l.drop i)=z1e [rd l i]++z1e (l.drop (i+1)):=by rw [Yp h];rfl
theorem v7l (l m:List R4) (hl:l.length≤10000) (hm:m.length≤10000): ∀(k i:Nat) (out:List Int),i+k=m.length→out.length=2*l.length+2*i→ ∃N,Yv (z1j l m) N (.to (.h1 out (i:Int)))=.ret [.dat (z2g (out++z1e (m.drop i))).length (Zz (z2g (out++z1e (m.drop i))))]
 | 0,i,out,h,ho=>by refine ⟨1,?_⟩;have hw:Kw out=true:=decide_eq_true (by omega);rw [Zv,List.drop_eq_nil_of_le (show m.length≤i by omega),show z1e []=[] from rfl,List.append_nil];simp (disch:=omega) only [z1j,Xv,Ye,Zt,Yw,Xh,Yu,Yg,Yk,Yz,Zk,Zi,Qc,Qd,decide_true,Zx,Zs,Zf,Yq,Zj,Nat.zero_add,Bool.and_true,Bool.true_and,cond_true,cond_false,Bool.not_true,Bool.not_false,Zm,Za,Zq,Vc,Xw,hw]
 | k+1,i,out,h,ho=>by obtain ⟨N,hN⟩:=v7l l m hl hm k (i+1) (out++z1e [rd m i]) (by omega) (by rw [List.length_append,Qn];simp;omega);refine ⟨N+1,?_⟩;rw [y5g m i (by omega),←List.append_assoc,Zv];simp (disch:=omega) only [z1j,Xv,Ye,Zt,Yw,Xh,Yu,Yg,Yk,Yz,Zk,Zi,Qc,Qd,decide_true,Zx,Zs,Zf,Yq,Zj,Nat.zero_add,Bool.and_true,Bool.true_and,cond_true,cond_false,Bool.not_true,Bool.not_false,Zm,Za,Zq,Vc,Xw];exact hN
theorem v7m (l m:List R4) (hl:l.length≤10000) (hm:m.length≤10000): ∀(k i:Nat) (out:List Int),i+k=l.length→out.length=2*i→ ∃N,Yv (z1j l m) N (.to (.h0 out (i:Int)))=.ret [.dat (z2g (out++z1e (l.drop i)++z1e m)).length (Zz (z2g (out++z1e (l.drop i)++z1e m)))]
 | 0,i,out,h,ho=>by obtain ⟨N,hN⟩:=v7l l m hl hm m.length 0 out (Nat.zero_add _) (by omega);refine ⟨N+1,?_⟩;rw [Zv,List.drop_eq_nil_of_le (show l.length≤i by omega),show z1e []=[] from rfl,List.append_nil];simp (disch:=omega) only [z1j,Xv,Ye,Zt,Yw,Xh,Yu,Yg,Yk,Yz,Zk,Zi,Qc,Qd,decide_true,Zx,Zs,Zf,Yq,Zj,Nat.zero_add,Bool.and_true,Bool.true_and,cond_true,cond_false,Bool.not_true,Bool.not_false,Zm,Za,Zq,Vc,Xw];exact hN
 | k+1,i,out,h,ho=>by obtain ⟨N,hN⟩:=v7m l m hl hm k (i+1) (out++z1e [rd l i]) (by omega) (by rw [List.length_append,Qn];simp;omega);refine ⟨N+1,?_⟩;rw [y5g l i (by omega),←List.append_assoc,Zv];simp (disch:=omega) only [z1j,Xv,Ye,Zt,Yw,Xh,Yu,Yg,Yk,Yz,Zk,Zi,Qc,Qd,decide_true,Zx,Zs,Zf,Yq,Zj,Nat.zero_add,Bool.and_true,Bool.true_and,cond_true,cond_false,Bool.not_true,Bool.not_false,Zm,Za,Zq,Vc,Xw];exact hN
theorem u2a (l m:List R4) (h:y0d l m=true): ∃N,Yv (z1j l m) N (y0n l m)=.ret [.dat (ysV l m).length (Zz (ysV l m))]:=by
 obtain ⟨h1,h2⟩:=of_decide_eq_true h;have:=v7m l m h1 h2 l.length 0 [] (Nat.zero_add _) rfl
 simpa [y0n,ysV] using this
def Ws (l m:List R6):List Int:=z2g (z2i l++z2i m)
def z7b (l m:List R6):Bool:=decide (l.length≤10000∧m.length≤10000)
theorem Qi (l:List R6):(z2i l).length =2*l.length:=by
 induction l with
 | nil=>rfl
 | cons r l ih=>show (_::_::z2i l).length =_;simp only [List.length_cons,ih];omega
theorem y5d (l:List R6) (i:Nat) (h:i<l.length):z2i (l.drop i)=z2i [rd l i]++z2i (l.drop (i+1)):=by rw [Yp h];rfl
theorem w6u (l m:List R6) (hl:l.length≤10000) (hm:m.length≤10000): ∀(k i:Nat) (out:List Int),i+k=m.length→out.length=2*l.length+2*i→ ∃N,Yv (Ki l m) N (.to (.h1 out (i:Int)))=.ret [.dat (z2g (out++z2i (m.drop i))).length (Zz (z2g (out++z2i (m.drop i))))]
 | 0,i,out,h,ho=>by refine ⟨1,?_⟩;have hw:Kw out=true:=decide_eq_true (by omega);rw [Zv,List.drop_eq_nil_of_le (show m.length≤i by omega),show z2i []=[] from rfl,List.append_nil];simp (disch:=omega) only [Ki,Xv,Ye,Zt,Yw,Xh,Yu,Yg,Yk,Yz,Zk,Zi,Qc,Qd,decide_true,Zx,Zs,Zf,Yq,Zj,Nat.zero_add,Bool.and_true,Bool.true_and,cond_true,cond_false,Bool.not_true,Bool.not_false,Zm,Za,Zq,Vc,Xw,hw]
 | k+1,i,out,h,ho=>by obtain ⟨N,hN⟩:=w6u l m hl hm k (i+1) (out++z2i [rd m i]) (by omega) (by rw [List.length_append,Qi];simp;omega);refine ⟨N+1,?_⟩;rw [y5d m i (by omega),←List.append_assoc,Zv];simp (disch:=omega) only [Ki,Xv,Ye,Zt,Yw,Xh,Yu,Yg,Yk,Yz,Zk,Zi,Qc,Qd,decide_true,Zx,Zs,Zf,Yq,Zj,Nat.zero_add,Bool.and_true,Bool.true_and,cond_true,cond_false,Bool.not_true,Bool.not_false,Zm,Za,Zq,Vc,Xw];exact hN
theorem w6v (l m:List R6) (hl:l.length≤10000) (hm:m.length≤10000): ∀(k i:Nat) (out:List Int),i+k=l.length→out.length=2*i→ ∃N,Yv (Ki l m) N (.to (.h0 out (i:Int)))=.ret [.dat (z2g (out++z2i (l.drop i)++z2i m)).length (Zz (z2g (out++z2i (l.drop i)++z2i m)))]
 | 0,i,out,h,ho=>by obtain ⟨N,hN⟩:=w6u l m hl hm m.length 0 out (Nat.zero_add _) (by omega);refine ⟨N+1,?_⟩;rw [Zv,List.drop_eq_nil_of_le (show l.length≤i by omega),show z2i []=[] from rfl,List.append_nil];simp (disch:=omega) only [Ki,Xv,Ye,Zt,Yw,Xh,Yu,Yg,Yk,Yz,Zk,Zi,Qc,Qd,decide_true,Zx,Zs,Zf,Yq,Zj,Nat.zero_add,Bool.and_true,Bool.true_and,cond_true,cond_false,Bool.not_true,Bool.not_false,Zm,Za,Zq,Vc,Xw];exact hN
 | k+1,i,out,h,ho=>by obtain ⟨N,hN⟩:=w6v l m hl hm k (i+1) (out++z2i [rd l i]) (by omega) (by rw [List.length_append,Qi];simp;omega);refine ⟨N+1,?_⟩;rw [y5d l i (by omega),←List.append_assoc,Zv];simp (disch:=omega) only [Ki,Xv,Ye,Zt,Yw,Xh,Yu,Yg,Yk,Yz,Zk,Zi,Qc,Qd,decide_true,Zx,Zs,Zf,Yq,Zj,Nat.zero_add,Bool.and_true,Bool.true_and,cond_true,cond_false,Bool.not_true,Bool.not_false,Zm,Za,Zq,Vc,Xw];exact hN
theorem v3g (l m:List R6) (h:z7b l m=true): ∃N,Yv (Ki l m) N (z6d l m)=.ret [.dat (Ws l m).length (Zz (Ws l m))]:=by
 obtain ⟨h1,h2⟩:=of_decide_eq_true h;have:=w6v l m h1 h2 l.length 0 [] (Nat.zero_add _) rfl
 simpa [z6d,Ws] using this
def fXs :List AVal→Option (AVal×Bool)
 | [a0,a1]=>match asL R4 a0,asL R4 a1 with
  | some (L0,g0,n0),some (L1,g1,n1)=>some (.dat (xsV L0 L1).length (Zz (xsV L0 L1)),isT R4 n0 g0&&(isT R4 n1 g1&&(y0e L0 L1)))
  | _,_=>none
 | _=>none
theorem fXs_ok {S:Specs} (hS:Zu prog S):Zu prog (S.with nXs fXs):=by
 refine z3g hS (by kernel_rfl) fun args v h=> ?_;unfold fXs at h;split at h
 ·rename_i a0 a1;split at h
  ·rename_i L0 g0 n0 L1 g1 n1 e0 e1;simp only [Option.some.injEq,Prod.mk.injEq,Bool.and_eq_true] at h;obtain ⟨rfl,ho0,ho1,hw⟩:=h;obtain ⟨N,hN⟩:=u2b L0 L1 hw;exact ⟨_,_,(.cons (asL_le e0 ho0) (.cons (asL_le e1 ho1) .nil)),rfl,v2j L0 L1 N _ hN,3,rfl⟩
  ·cases h
 ·cases h
def fYs :List AVal→Option (AVal×Bool)
 | [a0,a1]=>match asL R4 a0,asL R4 a1 with
  | some (L0,g0,n0),some (L1,g1,n1)=>some (.dat (ysV L0 L1).length (Zz (ysV L0 L1)),isT R4 n0 g0&&(isT R4 n1 g1&&(y0d L0 L1)))
  | _,_=>none
 | _=>none
theorem fYs_ok {S:Specs} (hS:Zu prog S):Zu prog (S.with nYs fYs):=by
 refine z3g hS (by kernel_rfl) fun args v h=> ?_;unfold fYs at h;split at h
 ·rename_i a0 a1;split at h
  ·rename_i L0 g0 n0 L1 g1 n1 e0 e1;simp only [Option.some.injEq,Prod.mk.injEq,Bool.and_eq_true] at h;obtain ⟨rfl,ho0,ho1,hw⟩:=h;obtain ⟨N,hN⟩:=u2a L0 L1 hw;exact ⟨_,_,(.cons (asL_le e0 ho0) (.cons (asL_le e1 ho1) .nil)),rfl,v2i L0 L1 N _ hN,3,rfl⟩
  ·cases h
 ·cases h
def u5y :List AVal→Option (AVal×Bool)
 | [a0,a1]=>match asL R6 a0,asL R6 a1 with
  | some (L0,g0,n0),some (L1,g1,n1)=>some (.dat (Ws L0 L1).length (Zz (Ws L0 L1)),isT R6 n0 g0&&(isT R6 n1 g1&&(z7b L0 L1)))
  | _,_=>none
 | _=>none
theorem v5k {S:Specs} (hS:Zu prog S):Zu prog (S.with nCuts u5y):=by
 refine z3g hS (by kernel_rfl) fun args v h=> ?_;unfold u5y at h;split at h
 ·rename_i a0 a1;split at h
  ·rename_i L0 g0 n0 L1 g1 n1 e0 e1;simp only [Option.some.injEq,Prod.mk.injEq,Bool.and_eq_true] at h;obtain ⟨rfl,ho0,ho1,hw⟩:=h;obtain ⟨N,hN⟩:=v3g L0 L1 hw;exact ⟨_,_,(.cons (asL_le e0 ho0) (.cons (asL_le e1 ho1) .nil)),rfl,w6w L0 L1 N _ hN,3,rfl⟩
  ·cases h
 ·cases h
def T2 :Specs:=((T1.with nXs fXs).with nYs fYs).with nCuts u5y
theorem z8y :Zu prog T2:=v5k (fYs_ok (fXs_ok z2d))
end Go.Am
namespace Go.Am
open Go.Proofs.Tryz
open Go.Proofs
inductive rjoS where
 | h0 (v9:List R4) (v10:List R2) (v11:Int) (v12:Int)
 | h1 (v9:List R4) (v10:List R2) (v11:Int) (v12:Int) (v13:List Bool) (v14:Int)
 | h2 (v9:List R4) (v10:List R2) (v11:Int) (v12:Int) (v15:List R2) (v17:Int)
 | h3 (v9:List R4) (v10:List R2) (v11:Int) (v12:Int) (v16:Int)
abbrev z9f (x0:Int) (l1:List R4) (l2:List R4) (v12:Int) (v14:Int):=(y3f x0 (has4V (cvT l1) (rd (xsV (cvT l1) (cvT l2)) (tn v12)) (rd (ysV (cvT l1) (cvT l2)) (tn v14))) (has4V (cvT l2) (rd (xsV (cvT l1) (cvT l2)) (tn v12)) (rd (ysV (cvT l1) (cvT l2)) (tn v14))))
abbrev y6a (v9:List R4) (v16:Int) (l1:List R4) (l2:List R4) (v12:Int):=(v9.set (0+(tn v16)) (R4.mk (rd v9 (0+(tn v16))).a (rd v9 (0+(tn v16))).b (rd (xsV (cvT l1) (cvT l2)) (tn (wr (v12+1)))) (rd v9 (0+(tn v16))).d))
abbrev y5z (v9:List R4) (l1:List R4) (l2:List R4) (v12:Int) (v15:List R2) (v17:Int):=(v9++[(R4.mk (rd (xsV (cvT l1) (cvT l2)) (tn v12)) (rd v15 (tn v17)).a (rd (xsV (cvT l1) (cvT l2)) (tn (wr (v12+1)))) (rd v15 (tn v17)).b)])
abbrev Kd (l1:List R4) (l2:List R4):=(ysV (cvT l1) (cvT l2))
def x8u (l1:List R4) (l2:List R4):AVal:=(.dat (xsV (cvT l1) (cvT l2)).length (Zz (xsV (cvT l1) (cvT l2))))
def x8t (l1:List R4) (l2:List R4):AVal:=(.dat (Kd l1 l2).length (Zz (Kd l1 l2)))
def rjoC (x0:Int) (l1:List R4) (l2:List R4):rjoS→Cfg
 | .h0 v9 v10 v11 v12=>⟨⟨121,0,true⟩,none,(Zd prog 126 [1,1,1,1,1,0,1,0,0] 0),none,(Zy prog 8),⟨Ya [(0,(ii x0)),(1,(.dat l1.length (Zz l1))),(2,(.dat l2.length (Zz l2))),(7,(x8u l1 l2)),(8,(x8t l1 l2)),(9,(.sla 0 4 0 v9.length (.un 4))),(10,(.dat v10.length (Zz v10))),(11,(ii v11)),(12,(ii v12))],Uq [⟨rows v9.length (Zz v9),88,some ⟨4,v9.length,(Zz v9)⟩⟩] 0,1,[],true⟩,[],.leaf⟩
 | .h1 v9 v10 v11 v12 v13 v14=>⟨⟨121,0,true⟩,none,(Zd prog 126 [1,1,1,1,1,0,1,0,0,1,0,0,1,0,1,0,0] 0),none,(Zy prog 8),⟨Ya [(0,(ii x0)),(1,(.dat l1.length (Zz l1))),(2,(.dat l2.length (Zz l2))),(7,(x8u l1 l2)),(8,(x8t l1 l2)),(9,(.sla 1 4 0 v9.length (.un 4))),(10,(.dat v10.length (Zz v10))),(11,(ii v11)),(12,(ii v12)),(13,(.sla 0 1 0 v13.length (.un 1))),(14,(ii v14))],Uq [⟨rows v13.length (Zz v13),4,some ⟨1,v13.length,(Zz v13)⟩⟩,⟨rows v9.length (Zz v9),88,some ⟨4,v9.length,(Zz v9)⟩⟩] 0,2,[],true⟩,[],.leaf⟩
 | .h2 v9 v10 v11 v12 v15 v17=>⟨⟨121,0,true⟩,none,(Zd prog 126 [1,1,1,1,1,0,1,0,0,1,0,0,1,1,1,1,1,1,0,0] 0),none,(Zy prog 8),⟨Ya [(0,(ii x0)),(1,(.dat l1.length (Zz l1))),(2,(.dat l2.length (Zz l2))),(7,(x8u l1 l2)),(8,(x8t l1 l2)),(9,(.sla 0 4 0 v9.length (.un 4))),(10,(.dat v10.length (Zz v10))),(11,(ii v11)),(12,(ii v12)),(15,(.dat v15.length (Zz v15))),(17,(ii v17))],Uq [⟨rows v9.length (Zz v9),88,some ⟨4,v9.length,(Zz v9)⟩⟩] 0,1,[],true⟩,[],.leaf⟩
 | .h3 v9 v10 v11 v12 v16=>⟨⟨121,0,true⟩,none,(Zd prog 126 [1,1,1,1,1,0,1,0,0,1,0,0,1,1,1,0,1,0,0,1,0,0] 0),none,(Zy prog 8),⟨Ya [(0,(ii x0)),(1,(.dat l1.length (Zz l1))),(2,(.dat l2.length (Zz l2))),(7,(x8u l1 l2)),(8,(x8t l1 l2)),(9,(.sla 0 4 0 v9.length (.un 4))),(10,(.dat v10.length (Zz v10))),(11,(ii v11)),(12,(ii v12)),(16,(ii v16))],Uq [⟨rows v9.length (Zz v9),88,some ⟨4,v9.length,(Zz v9)⟩⟩] 0,1,[],true⟩,[],.leaf⟩
def u2n :List (Option (List Nat)):=[some [0,1,2,7,8,9,10,11,12]]
def u2p :List (Option (List Nat)):=[]
def rjoN1 :List (Option (List Nat)):=[some [0,1,2,7,8,9,10,11,12,13,14]]
def rjoM1 :List (Option (List Nat)):=[]
def u2m :List (Option (List Nat)):=[some [0,1,2,7,8,9,10,11,12,15,17]]
def u2o :List (Option (List Nat)):=[]
def rjoN3 :List (Option (List Nat)):=[some [0,1,2,7,8,9,10,11,12,16]]
def rjoM3 :List (Option (List Nat)):=[]
def Wt (x0:Int) (l1:List R4) (l2:List R4):rjoS→Xf rjoS
 | .h0 v9 v10 v11 v12=>(bif (decide ((IntKind.wrap .i64 (v12+1))<(((xsV (cvT l1) (cvT l2)).length :Nat):Int))) then (.to (.h1 v9 v10 v11 v12 ([]:List Bool) 0)) else (.ret [(.dat v9.length (Zz v9))]))
 | .h1 v9 v10 v11 v12 v13 v14=>(bif (decide (v14<(((ysV (cvT l1) (cvT l2)).length :Nat):Int))) then (bif (Qw (cvT l1) (rd (xsV (cvT l1) (cvT l2)) v12.toNat) (rd (ysV (cvT l1) (cvT l2)) v14.toNat)) then (bif ((decide (0≤v12∧v12<(((xsV (cvT l1) (cvT l2)).length :Nat):Int)))&&true) then (bif ((decide (0≤v14∧v14<(((ysV (cvT l1) (cvT l2)).length :Nat):Int)))&&true) then (bif (Qw (cvT l2) (rd (xsV (cvT l1) (cvT l2)) v12.toNat) (rd (ysV (cvT l1) (cvT l2)) v14.toNat)) then (bif (Nat.beq 1 1&&((decide (0+v13.length=v13.length))&&decide ((v13.length+1+1)*(1+1)≤Ur))) then (.to (.h1 v9 v10 v11 v12 (v13++[(y3f x0 (has4V (cvT l1) (rd (xsV (cvT l1) (cvT l2)) v12.toNat) (rd (ysV (cvT l1) (cvT l2)) v14.toNat)) (has4V (cvT l2) (rd (xsV (cvT l1) (cvT l2)) v12.toNat) (rd (ysV (cvT l1) (cvT l2)) v14.toNat)))]) (IntKind.wrap .i64 (v14+1)))) else .stuck) else .stuck) else .stuck) else .stuck) else .stuck) else (bif (z7e (cvT (ysV (cvT l1) (cvT l2))) (cvT v13)) then (bif (decide (v12>0)) then (bif (Vp (cvT (z9v (cvT (ysV (cvT l1) (cvT l2))) (cvT v13))) (cvT v10)) then (bif (Kj (cvT (z9v (cvT (ysV (cvT l1) (cvT l2))) (cvT v13))) (cvT v10)) then (.to (.h3 v9 v10 v11 v12 v11)) else (.to (.h2 v9 (z9v (cvT (ysV (cvT l1) (cvT l2))) (cvT v13)) (v9.length:Int) v12 (z9v (cvT (ysV (cvT l1) (cvT l2))) (cvT v13)) 0))) else .stuck) else (.to (.h2 v9 (z9v (cvT (ysV (cvT l1) (cvT l2))) (cvT v13)) (v9.length:Int) v12 (z9v (cvT (ysV (cvT l1) (cvT l2))) (cvT v13)) 0))) else .stuck))
 | .h2 v9 v10 v11 v12 v15 v17=>(bif (decide (v17<(v15.length:Int))) then (bif ((decide (0≤v12∧v12<(((xsV (cvT l1) (cvT l2)).length :Nat):Int)))&&true) then (bif ((decide (0≤(IntKind.wrap .i64 (v12+1))∧(IntKind.wrap .i64 (v12+1))<(((xsV (cvT l1) (cvT l2)).length :Nat):Int)))&&true) then (bif ((decide (0≤v17∧v17<(v15.length:Int)))&&true) then (bif (Nat.beq 4 4&&((decide (0+v9.length=v9.length))&&decide ((v9.length+1+1)*(32+1)≤Ur))) then (.to (.h2 (v9++[(R4.mk (rd (xsV (cvT l1) (cvT l2)) v12.toNat) (rd v15 v17.toNat).a (rd (xsV (cvT l1) (cvT l2)) (Int.toNat (IntKind.wrap .i64 (v12+1)))) (rd v15 v17.toNat).b)]) v10 v11 v12 v15 (IntKind.wrap .i64 (v17+1)))) else .stuck) else .stuck) else .stuck) else .stuck) else (.to (.h0 v9 v10 v11 (IntKind.wrap .i64 (v12+1)))))
 | .h3 v9 v10 v11 v12 v16=>(bif (decide (v16<(v9.length:Int))) then (bif ((decide (0≤(IntKind.wrap .i64 (v12+1))∧(IntKind.wrap .i64 (v12+1))<(((xsV (cvT l1) (cvT l2)).length :Nat):Int)))&&true) then (bif ((decide (0≤v16∧v16<(v9.length:Int)))&&true) then (bif (decide ((0+v16.toNat)<v9.length)) then (.to (.h3 (v9.set (0+v16.toNat) (R4.mk (rd v9 (0+v16.toNat)).a (rd v9 (0+v16.toNat)).b (rd (xsV (cvT l1) (cvT l2)) (Int.toNat (IntKind.wrap .i64 (v12+1)))) (rd v9 (0+v16.toNat)).d)) v10 v11 v12 (IntKind.wrap .i64 (v16+1)))) else .stuck) else .stuck) else .stuck) else (.to (.h0 v9 v10 v11 (IntKind.wrap .i64 (v12+1)))))
def y0t (x0:Int) (l1:List R4) (l2:List R4):Xf rjoS:=(bif (y0e (cvT l1) (cvT l2)) then (bif (y0d (cvT l1) (cvT l2)) then (.to (.h0 ([]:List R4) ([]:List R2) 0 0)) else .stuck) else .stuck)
theorem w1w (x0:Int) (l1:List R4) (l2:List R4): ∀s,Xj prog (Zy prog 126) (rjoC x0 l1 l2) (rjoC x0 l1 l2 s) (Wt x0 l1 l2 s)
 | .h0 v9 v10 v11 v12=>(lb (fun k0=>(sl z8y 24 [(4,1,Zz ([]:List Bool))] ⟨[1,0],[],rjoN1,rjoM1⟩ ⟨[(13,.grow 0 1)],[],[]⟩ [true] (pp (fl ([]:List Bool) (fl v9 nn)) (tt k0 nn)))) (fun k0=>(lr 121 3 [1,1,1,1,1,1,1,0] 1 8 [(6,(.dat v9.length (Zz v9)))] (sl z8y 16 [] ⟨[],[0],[some [6]],[]⟩ ⟨[(6,.frz v9.length v9.length (Zz v9) (Zz v9))],[],[]⟩ [false] (pp (xZ (z5d 4 4 0 v9.length v9.length (Zz v9)) v9.length (Zz v9)) (pp (xL v9.length v9.length) (pp (xS v9.length (Zz v9) (Zz v9)) (pp (fl v9 nn) (tt k0 nn)))))))))
 | .h1 v9 v10 v11 v12 v13 v14=>(lb (fun k0=>(lo fun o0=>(lo fun o1=>(lo fun o2=>(lo fun o3=>(lo fun o4=>(sl z8y 20 [] ⟨[3,1],[],rjoN1,rjoM1⟩ ⟨[(13,.len (v13++[(z9f x0 l1 l2 v12 v14)]).length)],[.rowed 1 (v13++[(z9f x0 l1 l2 v12 v14)]).length (Zz (v13++[(z9f x0 l1 l2 v12 v14)])),.keep],[]⟩ [true] (pp (xL (v13.length+1) (v13++[(z9f x0 l1 l2 v12 v14)]).length) (pp (xL (v13.length+1) (v13++[(z9f x0 l1 l2 v12 v14)]).length) (pp (xS (v13.length+1) (Zh (Zz v13) 0 v13.length 1 [(.bool (z9f x0 l1 l2 v12 v14))]) (Zz (v13++[(z9f x0 l1 l2 v12 v14)]))) (pp (pp (xF (Zh (Zz v13) 0 v13.length 1 [(.bool (z9f x0 l1 l2 v12 v14))])) (fl v9 nn)) (ww o4 (pp (pp (xr l2) (xw o3)) (ww o2 (ww o1 (pp (pp (xr l1) (xw o0)) (ww o2 (ww o1 (tt k0 nn))))))))))))))))))) (fun k0=>(We (sl z8y (C':=⟨⟨121,0,true⟩,(Up prog 126 [1,1,1,1,1,0,1,0,0,1,0,0,1,1,0] 2),(Zd prog 126 [1,1,1,1,1,0,1,0,0,1,0,0,1,1,0] 1),none,(Zy prog 8),⟨Ya [(0,(ii x0)),(1,(.dat l1.length (Zz l1))),(2,(.dat l2.length (Zz l2))),(7,(.dat (xsV (cvT l1) (cvT l2)).length (Zz (xsV (cvT l1) (cvT l2))))),(8,(.dat (Kd l1 l2).length (Zz (Kd l1 l2)))),(9,(.sla 0 4 0 v9.length (.un 4))),(10,(.dat v10.length (Zz v10))),(11,(ii v11)),(12,(ii v12)),(62,(.dat (Kd l1 l2).length (Zz (Kd l1 l2)))),(63,(.dat v13.length (Zz v13)))],Uq [⟨rows v9.length (Zz v9),88,some ⟨4,v9.length,(Zz v9)⟩⟩] 0,1,[],true⟩,[],.leaf⟩) 14 [] ⟨[1],[0],[some [0,1,2,7,8,9,10,11,12,62,63]],[]⟩ ⟨[(63,.frz v13.length v13.length (Zz v13) (Zz v13))],[],[]⟩ [false] (pp (xZ (z5d 1 1 0 v13.length v13.length (Zz v13)) v13.length (Zz v13)) (pp (xL v13.length v13.length) (pp (xS v13.length (Zz v13) (Zz v13)) (pp (fl v9 nn) (pp (fl v13 nn) (tt k0 nn))))))) (lo fun aG=>(lb (fun k1=>(lo fun cA=>(lb (fun k2=>(sl z8y 23 [] ⟨[0],[],rjoN3,rjoM3⟩ ⟨[],[],[]⟩ (trs 4 []) (pp (fl v9 nn) (tt k2 (pp (pp (xI R2 (z9v (cvT (Kd l1 l2)) (cvT v13)).length (Zz (z9v (cvT (Kd l1 l2)) (cvT v13)))) (pp (xr v10) (xw cA))) (tt k1 (pp (pp (xI Int (Kd l1 l2).length (Zz (Kd l1 l2))) (pp (xr v13) (xw aG))) nn))))))) (fun k2=>(sl z8y 30 [] ⟨[0],[],u2m,u2o⟩ ⟨[],[],[]⟩ (trs 3 [false]) (pp (fl v9 nn) (tt k2 (pp (pp (xI R2 (z9v (cvT (Kd l1 l2)) (cvT v13)).length (Zz (z9v (cvT (Kd l1 l2)) (cvT v13)))) (pp (xr v10) (xw cA))) (tt k1 (pp (pp (xI Int (Kd l1 l2).length (Zz (Kd l1 l2))) (pp (xr v13) (xw aG))) nn)))))))))) (fun k1=>(sl z8y 30 [] ⟨[0],[],u2m,u2o⟩ ⟨[],[],[]⟩ (bl 4 0) (pp (fl v9 nn) (tt k1 (pp (pp (xI Int (Kd l1 l2).length (Zz (Kd l1 l2))) (pp (xr v13) (xw aG))) nn))))))))))
 | .h2 v9 v10 v11 v12 v15 v17=>(lb (fun k0=>(lo fun o0=>(lo fun o1=>(lo fun o2=>(lo fun o3=>(sl z8y 20 [] ⟨[2],[],u2m,u2o⟩ ⟨[(9,.len (y5z v9 l1 l2 v12 v15 v17).length)],[.rowed 4 (y5z v9 l1 l2 v12 v15 v17).length (Zz (y5z v9 l1 l2 v12 v15 v17))],[]⟩ [true] (pp (xL (v9.length+1) (y5z v9 l1 l2 v12 v15 v17).length) (pp (xL (v9.length+1) (y5z v9 l1 l2 v12 v15 v17).length) (pp (xS (v9.length+1) (Zh (Zz v9) 0 v9.length 4 [(ii (rd (xsV (cvT l1) (cvT l2)) (tn v12))),(ii (rd v15 (tn v17)).a),(ii (rd (xsV (cvT l1) (cvT l2)) (tn (wr (v12+1))))),(ii (rd v15 (tn v17)).b)]) (Zz (y5z v9 l1 l2 v12 v15 v17))) (pp (pp (xF (Zh (Zz v9) 0 v9.length 4 [(ii (rd (xsV (cvT l1) (cvT l2)) (tn v12))),(ii (rd v15 (tn v17)).a),(ii (rd (xsV (cvT l1) (cvT l2)) (tn (wr (v12+1))))),(ii (rd v15 (tn v17)).b)])) nn) (ww o3 (ww o2 (ww o1 (ww o2 (ww o0 (tt k0 nn)))))))))))))))) (fun k0=>(sl z8y 17 [] ⟨[0],[],u2n,u2p⟩ ⟨[],[],[]⟩ [false] (pp (fl v9 nn) (tt k0 nn)))))
 | .h3 v9 v10 v11 v12 v16=>(lb (fun k0=>(lo fun o0=>(lo fun o1=>(lo fun o2=>(sl z8y 31 [] ⟨[0],[],rjoN3,rjoM3⟩ ⟨[(9,.len (y6a v9 v16 l1 l2 v12).length)],[.rowed 4 (y6a v9 v16 l1 l2 v12).length (Zz (y6a v9 v16 l1 l2 v12))],[]⟩ [true] (pp (xL v9.length (y6a v9 v16 l1 l2 v12).length) (pp (xL v9.length (y6a v9 v16 l1 l2 v12).length) (pp (xS v9.length (Xb (Zz v9) (0+(tn v16)) 2 [(ii (rd (xsV (cvT l1) (cvT l2)) (tn (wr (v12+1)))))]) (Zz (y6a v9 v16 l1 l2 v12))) (pp (pp (xF (Xb (Zz v9) (0+(tn v16)) 2 [(ii (rd (xsV (cvT l1) (cvT l2)) (tn (wr (v12+1)))))])) nn) (ww o2 (ww o1 (ww o0 (tt k0 nn))))))))))))) (fun k0=>(sl z8y 17 [] ⟨[0],[],u2n,u2p⟩ ⟨[],[],[]⟩ [false] (pp (fl v9 nn) (tt k0 nn)))))
theorem x4q (x0:Int) (l1:List R4) (l2:List R4):Xj prog (Zy prog 126) (rjoC x0 l1 l2) (Ze prog 126 [(.int .i64 x0),(.dat l1.length (Zz l1)),(.dat l2.length (Zz l2))] true []) (y0t x0 l1 l2):=(lo fun o0=>(lo fun o1=>(sl z8y 34 [(88,4,Zz ([]:List R4))] ⟨[0],[],u2n,u2p⟩ ⟨[(9,.grow 0 4),(10,.list 0 (Zz ([]:List R2)))],[],[]⟩ [] (pp (fl ([]:List R4) nn) (pp (pp (xr l1) (pp (xr l2) (xw o1))) (pp (pp (xr l1) (pp (xr l2) (xw o0))) nn))))))
theorem v2q (x0:Int) (l1:List R4) (l2:List R4) (n:Nat) (vs:List AVal) (h:Yv (Wt x0 l1 l2) n (y0t x0 l1 l2)=.ret vs):Ky prog (Zy prog 126) (Ze prog 126 [(.int .i64 x0),(.dat l1.length (Zz l1)),(.dat l2.length (Zz l2))] true []) vs:=by have:=Zr (w1w x0 l1 l2) n _ (x4q x0 l1 l2);rwa [h] at this
end Go.Am
namespace Go.Am
open Go.Proofs
theorem z0x : ∀(l out:List Int),(l.foldl y3d out).length ≤out.length+l.length
 | [],out=>Nat.le_refl _
 | x::l,out=>Nat.le_trans (z0x l (y3d out x)) (by have:=y3c out x;simp;omega)
theorem z4q (l:List Int):(z2g l).length ≤l.length:=by
 have:=z0x l []
 simpa [z2g] using this
theorem y3u (cuts:List Int) (ins:List Bool): ∀(k i:Nat) (out:List R2),(w4o cuts ins k i out).length ≤out.length+k
 | 0,_,out=>Nat.le_refl _
 | k+1,i,out=>by
  unfold w4o;refine Nat.le_trans (y3u cuts ins k (i+1) _) ?_;cases rd ins i
  ·simp only [cond_false];omega
  ·simp only [cond_true];cases (decide (0<out.length)&&((rd out (out.length - 1)).b == rd cuts i)) <;> simp <;> omega
theorem x7m (cuts:List Int) (ins:List Bool):(z9v cuts ins).length ≤cuts.length:=by have:=y3u cuts ins (cuts.length - 1) 0 [];unfold z9v;simp only [List.length_nil] at this;omega
section
variable (kind:Int) (l m:List R4)
def v5y (x:Int) (y:Int):Bool:=y3f kind (has4V l x y) (has4V m x y)
def x8k (x:Int):List R2:=z9v (ysV l m) ((ysV l m).map (v5y kind l m x))
def v1j (out:List R4) (first:Nat) (x:Int):List R4:=out.take first++(out.drop first).map fun r=>⟨r.a,r.b,x,r.d⟩
def u3c (x x':Int) (s:List R2):List R4:=s.map fun p=>⟨x,p.a,x',p.b⟩
def jF :Nat→Nat→List R4→List R2→Nat→List R4
 | 0,_,out,_,_=>out
 | k+1,i,out,last,first=>
  bif decide (0<i)&&Kj (x8k kind l m (rd (xsV l m) i)) last then jF k (i+1) (v1j out first (rd (xsV l m) (i+1))) last first
  else jF k (i+1) (out++u3c (rd (xsV l m) i) (rd (xsV l m) (i+1)) (x8k kind l m (rd (xsV l m) i))) (x8k kind l m (rd (xsV l m) i)) out.length
def joV :List R4:=jF kind l m ((xsV l m).length - 1) 0 [] [] 0
end
def z0f (_:Int) (l m:List R4):Bool:=decide (l.length≤10000∧m.length≤10000)
theorem Ji (l m:List R4):(xsV l m).length ≤2*l.length+2*m.length:=by refine Nat.le_trans (z4q _) ?_;rw [List.length_append,Qo,Qo];omega
theorem y5e (l m:List R4):(ysV l m).length ≤2*l.length+2*m.length:=by refine Nat.le_trans (z4q _) ?_;rw [List.length_append,Qn,Qn];omega
section
variable (kind:Int) (l m:List R4) (hl:l.length≤10000) (hm:m.length≤10000)
include hl hm
theorem v7y (out:List R4) (last:List R2) (first:Int) (i:Nat) (hi:i+1<(xsV l m).length): ∀(k j:Nat) (acc:List Bool),j+k=(ysV l m).length →acc.length=j→
  ∃n,∀N,Yv (Wt kind l m) (N+n) (.to (.h1 out last first (i:Int) acc (j:Int)))=Yv (Wt kind l m) N (.to (.h1 out last first (i:Int) (acc++((ysV l m).drop j).map (v5y kind l m (rd (xsV l m) i))) ((ysV l m).length :Int)))
 | 0,j,acc,h,ha=>by refine ⟨0,fun N=> ?_⟩;rw [List.drop_eq_nil_of_le (by omega),List.map_nil,List.append_nil,Nat.add_zero];rw [show j=(ysV l m).length by omega]
 | k+1,j,acc,h,ha=>by
  have hx:=Ji l m;have hy:=y5e l m;obtain ⟨n,hn⟩:=v7y out last first i hi k (j+1) (acc++[v5y kind l m (rd (xsV l m) i) (rd (ysV l m) j)]) (by omega) (by simp [ha])
  refine ⟨n+1,fun N=> ?_⟩;have w1: ∀x y,Qw l x y=true:=fun x y=>decide_eq_true (by omega);have w2: ∀x y,Qw m x y=true:=fun x y=>decide_eq_true (by omega);rw [Yp (show j<(ysV l m).length by omega),List.map_cons,←Nat.add_assoc,Zv];simp (disch:=omega) only [Wt,Za,Zq,w1,w2,Zt,Yz,Yg,Yk,Zi,Zk,Zx,Yq,Zj,Nat.zero_add,decide_true,Bool.and_true,Bool.true_and,cond_true];have:=hn N;rw [List.append_assoc] at this;exact this
theorem v7x (last:List R2) (first:Int) (i:Nat) (hi:i+1<(xsV l m).length) (s:List R2) (hs:s.length≤1000000): ∀(k j:Nat) (out:List R4),j+k=s.length→out.length≤10000000000+j→
  ∃n,∀N,Yv (Wt kind l m) (N+n) (.to (.h2 out last first (i:Int) s (j:Int)))=Yv (Wt kind l m) N (.to (.h0 (out++u3c (rd (xsV l m) i) (rd (xsV l m) (i+1)) (s.drop j)) last first ((i+1:Nat):Int)))
 | 0,j,out,h,ho=>by have hx:=Ji l m;refine ⟨1,fun N=> ?_⟩;rw [List.drop_eq_nil_of_le (by omega),Zv];simp (disch:=omega) only [Wt,Za,Zq,Yw,Zk,Zx,cond_false,u3c,List.map_nil,List.append_nil]
 | k+1,j,out,h,ho=>by
  have hx:=Ji l m;obtain ⟨n,hn⟩:=v7x last first i hi s hs k (j+1) (out++u3c (rd (xsV l m) i) (rd (xsV l m) (i+1)) [rd s j]) (by omega) (by simp [u3c];omega)
  refine ⟨n+1,fun N=> ?_⟩;have:=hn N;rw [Yp (show j<s.length by omega),←Nat.add_assoc,Zv];simp (disch:=omega) only [Wt,Za,Zq,Zt,Yz,Yg,Yk,Zi,Zk,Zx,Yq,Zj,Nat.zero_add,decide_true,Bool.and_true,Bool.true_and,cond_true];rw [List.append_assoc] at this;exact this
theorem v5m (out:List R4) (j:Nat) (x:Int) (h:j<out.length):v1j (out.set j ⟨(rd out j).a,(rd out j).b,x,(rd out j).d⟩) (j+1) x=v1j out j x:=by
 have _uhl:=hl;have _uhm:=hm;unfold v1j;rw [Yp h,List.map_cons];have e1:(out.set j ⟨(rd out j).a,(rd out j).b,x,(rd out j).d⟩).take (j+1)=out.take j++[⟨(rd out j).a,(rd out j).b,x,(rd out j).d⟩]:=by
  apply List.ext_getElem
  ·simp;omega
  ·intro n h1 h2;simp only [List.getElem_take,List.getElem_set];by_cases e:j=n
   ·subst e;rw [if_pos rfl,List.getElem_append_right (by simp only [List.length_take];omega)];simp
   ·rw [if_neg e,List.getElem_append_left (by simp at h1 ⊢;omega),List.getElem_take]
 have e2:(out.set j ⟨(rd out j).a,(rd out j).b,x,(rd out j).d⟩).drop (j+1)=out.drop (j+1):=by rw [List.drop_set];rw [if_pos (by omega)]
 rw [e1,e2,List.append_assoc];rfl
theorem v7w (last:List R2) (first:Int) (i:Nat) (hi:i+1<(xsV l m).length): ∀(k j:Nat) (out:List R4),j+k=out.length→out.length≤10000000000→
  ∃n,∀N,Yv (Wt kind l m) (N+n) (.to (.h3 out last first (i:Int) (j:Int)))=Yv (Wt kind l m) N (.to (.h0 (v1j out j (rd (xsV l m) (i+1))) last first ((i+1:Nat):Int)))
 | 0,j,out,h,ho=>by
  have hx:=Ji l m;refine ⟨1,fun N=> ?_⟩;have e:v1j out j (rd (xsV l m) (i+1))=out:=by unfold v1j;rw [List.drop_eq_nil_of_le (by omega),List.map_nil,List.append_nil,List.take_of_length_le (by omega)]
  rw [e,Zv];simp (disch:=omega) only [Wt,Za,Zq,Yw,Zk,Zx,cond_false]
 | k+1,j,out,h,ho=>by
  have hx:=Ji l m;obtain ⟨n,hn⟩:=v7w last first i hi k (j+1) (out.set j ⟨(rd out j).a,(rd out j).b,rd (xsV l m) (i+1),(rd out j).d⟩) (by simp;omega) (by simpa using ho)
  refine ⟨n+1,fun N=> ?_⟩;have:=hn N;rw [v5m l m hl hm out j _ (by omega)] at this;rw [←Nat.add_assoc,Zv];simp (disch:=omega) only [Wt,Za,Zq,Zt,Yz,Yu,Yg,Yk,Zi,Zk,Zx,Yq,Zj,Nat.zero_add,decide_true,Bool.and_true,Bool.true_and,cond_true];exact this
theorem w6h : ∀(k i:Nat) (out:List R4) (last:List R2) (first:Nat),k=(xsV l m).length - 1 - i→i≤(xsV l m).length →out.length≤i*40000→last.length≤40000→first≤out.length→
  ∃n,Yv (Wt kind l m) n (.to (.h0 out last (first:Int) (i:Int)))=.ret [.dat (jF kind l m k i out last first).length (Zz (jF kind l m k i out last first))]
 | 0,i,out,last,first,h,hi,ho,hla,hf=>by have hx:=Ji l m;refine ⟨1,?_⟩;rw [Zv];simp (disch:=omega) only [Wt,Za,Zq,Yw,Zk,Zx,cond_false,Zm,jF]
 | k+1,i,out,last,first,h,hi,ho,hla,hf=>by
  have hx:=Ji l m;have hy:=y5e l m;have hi1:i+1<(xsV l m).length :=by omega
  have hsl:(x8k kind l m (rd (xsV l m) i)).length ≤40000:=Nat.le_trans (x7m _ _) (by omega);have hbig:i*40000≤40000*40000:=Nat.mul_le_mul_right _ (by omega);obtain ⟨n1,h1⟩:=v7y kind l m hl hm out last first i hi1 (ysV l m).length 0 [] (Nat.zero_add _) rfl
  simp only [List.drop_zero,List.nil_append,z5l] at h1;have w3:z7e (ysV l m) ((ysV l m).map (v5y kind l m (rd (xsV l m) i)))=true:=decide_eq_true ⟨by omega,by rw [List.length_map];omega⟩;have w4:Vp (z9v (ysV l m) ((ysV l m).map (v5y kind l m (rd (xsV l m) i)))) last=true:=decide_eq_true (Nat.le_trans hsl (by omega));have hy2:((ysV l m).length :Int)=(((ysV l m).length :Nat):Int):=rfl;unfold jF;rcases Yf (decide (0<i)&&Kj (x8k kind l m (rd (xsV l m) i)) last) with q | q
  ·obtain ⟨n3,h3⟩:=v7w kind l m hl hm last first i hi1 (out.length - first) first out (by omega) (by omega)
   obtain ⟨n0,h0⟩:=w6h k (i+1) (v1j out first (rd (xsV l m) (i+1))) last first (by omega) (by omega) (by simp [v1j];omega) hla (by simp [v1j];omega)
   refine ⟨n0+n3+1+n1+1,?_⟩;rw [q,cond_true,Zv];simp only [Bool.and_eq_true,decide_eq_true_eq] at q;have q2:Kj (z9v (ysV l m) ((ysV l m).map (v5y kind l m (rd (xsV l m) i)))) last=true:=q.2;simp (disch:=omega) only [Wt,Za,Zq,Zt,Zk,Zx,cond_true];have h1':=h1 (n0+n3+1);rw [h1',Zv];simp (disch:=omega) only [Wt,Za,Zq,Yw,Ye,q2,w3,w4,cond_true,cond_false];rw [h3 n0,h0]
  ·obtain ⟨n2,h2⟩:=v7x kind l m hl hm (x8k kind l m (rd (xsV l m) i)) (out.length:Int) i hi1 (x8k kind l m (rd (xsV l m) i)) (by omega) (x8k kind l m (rd (xsV l m) i)).length 0 out (Nat.zero_add _) (by omega);obtain ⟨n0,h0⟩:=w6h k (i+1) (out++u3c (rd (xsV l m) i) (rd (xsV l m) (i+1)) (x8k kind l m (rd (xsV l m) i))) (x8k kind l m (rd (xsV l m) i)) out.length (by omega) (by omega) (by simp [u3c];omega) hsl (by simp);refine ⟨n0+n2+1+n1+1,?_⟩;rw [q,cond_false,Zv];simp (disch:=omega) only [Wt,Za,Zq,Zt,Zk,Zx,cond_true];have h1':=h1 (n0+n2+1);rw [h1',Zv];have h2':=h2 n0;simp only [List.drop_zero,z5l] at h2';by_cases hi0:0<i
   ·rw [decide_eq_true hi0,Bool.true_and] at q;have q2:Kj (z9v (ysV l m) ((ysV l m).map (v5y kind l m (rd (xsV l m) i)))) last=false:=q;simp (disch:=omega) only [Wt,Za,Zq,Yw,Ye,q2,w3,w4,cond_true,cond_false];rw [←h0];exact h2'
   ·simp (disch:=omega) only [Wt,Za,Zq,Yw,Xv,w3,w4,cond_true,cond_false];rw [←h0];exact h2'
end
theorem u2l (kind:Int) (l m:List R4) (h:z0f kind l m=true): ∃N,Yv (Wt kind l m) N (y0t kind l m)=.ret [.dat (joV kind l m).length (Zz (joV kind l m))]:=by obtain ⟨hl,hm⟩:=of_decide_eq_true h;obtain ⟨N,hN⟩:=w6h kind l m hl hm ((xsV l m).length - 1) 0 [] [] 0 rfl (Nat.zero_le _) (Nat.zero_le _) (Nat.zero_le _) (Nat.le_refl _);refine ⟨N,?_⟩;have w1:y0e l m=true:=decide_eq_true ⟨hl,hm⟩;have w2:y0d l m=true:=decide_eq_true ⟨hl,hm⟩;simp only [y0t,Za,Zq,w1,w2,cond_true];exact hN
end Go.Am
namespace Go.Am
open Go.Proofs.Tryz
open Go.Proofs
theorem w9m {P:Program} {S:Specs} (hS:Zu P S) {f:FuncId} {F:List AVal→Option (AVal×Bool)} (hf:(P.funcs[f]?).any (fun fn=>fn.body.isSome)=true)
  (hF: ∀args v,F args=some (v,true)→ ∃bs vs,Wn VLe args bs∧(∀(ρ:Rho) (u:Value),VRel ρ (Ja vs) u→VRel ρ v u)∧Ky P (Zy P f) (Ze P f bs true []) vs∧ ∃d,pf d (Ja vs)=true):Zu P (S.with f F):=
 w0q hS hf fun args v h=>by obtain ⟨bs,vs,h1,h2,h3,d,h4⟩:=hF args v h;exact ⟨vs,h2,x2k h1 h3,d,h4⟩
theorem z4i {cs cs':List AVal} (h:RLe cs cs') (ρ:Rho) (u:Value) (hv:VRel ρ (.tup cs) u):VRel ρ (.tup cs') u:=by
 cases hv with
 | tup _ vs hl hh=>exact .tup cs' vs (by rw [←h.len];exact hl) fun i h1 h2=>h.sound i (by rw [h.len];exact h1) h1 (hh i (by rw [h.len];exact h1) h2)
theorem z4y (α:Type) [Yo α]:VLe .nils (.dat ([]:List α).length (Zz ([]:List α))):=.nild _
def fJo :List AVal→Option (AVal×Bool)
 | [.int .i64 x0,a1,a2]=>match asL R4 a1,asL R4 a2 with
  | some (L1,g1,n1),some (L2,g2,n2)=>some (.dat (joV x0 L1 L2).length (Zz (joV x0 L1 L2)),isT R4 n1 g1&&(isT R4 n2 g2&&(z0f x0 L1 L2)))
  | _,_=>none
 | _=>none
theorem fJo_ok {S:Specs} (hS:Zu prog S):Zu prog (S.with v9d fJo):=by
 refine z3g hS (by kernel_rfl) fun args v h=> ?_;unfold fJo at h;split at h
 ·rename_i x0 a1 a2;split at h
  ·rename_i L1 g1 n1 L2 g2 n2 e1 e2;simp only [Option.some.injEq,Prod.mk.injEq,Bool.and_eq_true] at h;obtain ⟨rfl,ho1,ho2,hw⟩:=h;obtain ⟨N,hN⟩:=u2l x0 L1 L2 hw;exact ⟨_,_,(.cons (.refl _) (.cons (asL_le e1 ho1) (.cons (asL_le e2 ho2) .nil))),rfl,v2q x0 L1 L2 N _ hN,3,rfl⟩
  ·cases h
 ·cases h
def T3 :Specs:=T2.with v9d fJo
theorem z8x :Zu prog T3:=fJo_ok z8y
end Go.Am
namespace Go.Am
open Go.Proofs Go.Sort
def bnd3 (r:R3):Bool:=decide (-1000000000≤r.a∧r.a≤1000000000)
def z9w (l:List R3):Bool:=l.all bnd3
abbrev E3 :={r:R3 // bnd3 r=true}
instance : Inhabited E3:=⟨⟨⟨0,0,0⟩,rfl⟩⟩
def cf3 (x y:E3):Int:=x.1.a - y.1.a
def lt3 (x y:E3):Bool:=decide (cf3 x y<0)
theorem swo3 :SWO lt3 where
 irrefl x:=by unfold lt3 cf3;simp
 trans x y z h1 h2:=by unfold lt3 cf3 at*;simp at*;omega
 ntrans x y z h1 h2:=by unfold lt3 cf3 at*;simp at*;omega
def x0g :(l:List R3)→z9w l=true→List E3
 | [],_=>[]
 | r::l,h=>⟨r,by simp [z9w] at h;exact h.1⟩::x0g l (by simp [z9w] at h ⊢;exact h.2)
theorem y1o : ∀(l:List R3) (h:z9w l=true),(x0g l h).map Subtype.val=l
 | [],_=>rfl
 | r::l,h=>by rw [x0g,List.map_cons,y1o l]
theorem Js (l:List R3) (h:z9w l=true):(x0g l h).length =l.length:=by
 have:=congrArg List.length (y1o l h)
 simpa using this
def Qs (l:List R3):List R3:=if h:z9w l=true then (pdq lt3 (x0g l h).toArray 0 l.length (Lib.bitLen l.length) true true).toList.map Subtype.val else l
theorem Kv (l:List R3) (h:z9w l=true):(Qs l).Perm l∧ ∀i j,i<j→j<(Qs l).length →(rd (Qs l) i).a ≤(rd (Qs l) j).a :=by
 have hp:=pdq_sorts lt3 swo3 (x0g l h).toArray 0 l.length (Lib.bitLen l.length) true true (Nat.zero_le _) (by simp [Js]) (Or.inl rfl);obtain ⟨⟨h1,h2,h3⟩,h4⟩:=hp;have e:Qs l=(pdq lt3 (x0g l h).toArray 0 l.length (Lib.bitLen l.length) true true).toList.map Subtype.val:=by unfold Qs;rw [dif_pos h]
 generalize pdq lt3 (x0g l h).toArray 0 l.length (Lib.bitLen l.length) true true=d at*;have hs:d.size=l.length:=by rw [h1];simp [Js]
 constructor
 ·rw [e];have x1:(d.extract 0 l.length).toList =d.toList:=by rw [←hs];simp
  have x2:((x0g l h).toArray.extract 0 l.length).toList =x0g l h:=by rw [show l.length=(x0g l h).toArray.size by simp [Js]];simp
  rw [x1,x2] at h3;have:=h3.map Subtype.val;rw [y1o] at this;exact this
 ·intro i j hij hj;rw [e] at hj ⊢;have hj':j<d.size:=by simpa using hj
  have:=h4 i j (Nat.zero_le _) hij (by omega);rw [getElem!_pos d i (by omega),getElem!_pos d j hj'] at this;rw [Xu (by simp;omega),Xu hj];simp only [List.getElem_map,Array.getElem_toList];unfold lt3 cf3 at this;have:=of_decide_eq_false this;omega
end Go.Am
namespace Go.Am
open Go.Sort Go.RowKit Go.Proofs Go.Shelf
variable {P:Program} {ρ:Rho}
def valOf :AVal→Value
 | .int k n=>.int k n
 | .bool b=>.bool b
 | _=>.tuple #[]
def x6e :AVal→Bool
 | .int _ _=>true
 | .bool _=>true
 | _=>false
theorem w4u {a:AVal} (h:x6e a=true):VRel ρ a (valOf a):=by
 cases a <;> first
  | exact .int _ _
  | exact .bool _
  | (simp [x6e] at h;done)
theorem w6r {a:AVal} {v:Value} (h:x6e a=true) (hv:VRel ρ a v):v=valOf a:=by
 cases hv <;> first
  | rfl
  | (simp [x6e] at h;done)
class u0l (α:Type) extends Yo α where
 num: ∀a:α,(cells a).all x6e=true
instance : u0l R2 where num _:=rfl
instance : u0l R3 where num _:=rfl
instance : u0l R4 where num _:=rfl
instance : u0l R6 where num _:=rfl
instance {α :Type} [Yo α]:Inhabited α:=⟨Yo.d⟩
section
variable {α:Type} [u0l α]
def y7i (a:α):List Value:=(Yo.cells a).map valOf
theorem y3p (a:α):(y7i a).length =Yo.w α:=by rw [y7i,List.length_map,Yo.len]
theorem w0d (L:List α) (t:Nat) (h:t<L.length*Yo.w α):(flatK y7i (Yo.w α) L.toArray)[t]? =(Yo.cells (rd L (t / Yo.w α)))[t %Yo.w α]?.map valOf:=by
 have hw:=Yo.pos (α:=α);have hq:t / Yo.w α<L.length:=Nat.div_lt_of_lt_mul (by rw [Nat.mul_comm];exact h);have hj:t %Yo.w α<Yo.w α:=Nat.mod_lt _ hw;have hs:t<(flatK y7i (Yo.w α) L.toArray).size :=by rw [size_flatK];exact h
 rw [Array.getElem?_eq_getElem hs,←getElem!_pos (flatK y7i (Yo.w α) L.toArray) t hs,get_flatK y7i (Yo.w α) L.toArray t (by simpa using h)];have e1:L.toArray[t / Yo.w α]! =rd L (t / Yo.w α):=by rw [Xu hq,getElem!_pos L.toArray _ (by simpa using hq)];simp
 rw [e1];have hl:t %Yo.w α<(y7i (rd L (t / Yo.w α))).length :=by rw [y3p];exact hj
 have hl2:t %Yo.w α<(Yo.cells (rd L (t / Yo.w α))).length :=by rw [Yo.len];exact hj
 rw [getElem!_pos (y7i (rd L (t / Yo.w α))) _ hl,List.getElem?_eq_getElem hl2];simp [y7i]
theorem w6c (L:List α) (N t:Nat) (h:t<N*Yo.w α):(rows N (Zz L))[t]? =(Yo.cells (rd L (t / Yo.w α)))[t %Yo.w α]? :=by have hw:=Yo.pos (α:=α);have:=Wh (get:=Zz L) (sz:=Yo.w α) N (fun _ _=>Yo.len _) (t / Yo.w α) (t %Yo.w α) (Nat.div_lt_of_lt_mul (by rw [Nat.mul_comm];exact h)) (Nat.mod_lt _ hw);rw [show t / Yo.w α*Yo.w α+t %Yo.w α=t by rw [Nat.mul_comm];exact Nat.div_add_mod t _] at this;exact this
theorem z0q (L:List α) (N:Nat):(rows N (Zz L)).length =N*Yo.w α:=Yj N fun _ _=>Yo.len _
theorem y3g (w:World) (n blk off:Nat) (d:Array Value) (os:Array Obj) (k:Nat) (hk:k<w.heap.size):
  (grow (putRow id (Go.Sort.ahead w n) blk off d) os).heap[k]? =if k=blk then (w.heap[k]?).map (onCells (putCells id off d)) else w.heap[k]? :=by
 show (((Go.Sort.ahead w n).heap.modify blk (onCells (putCells id off d)))++os)[k]? =_;rw [Array.getElem?_append_left (by simp;exact hk),Array.getElem?_modify];show (if blk=k then _ else _)=_;by_cases h:k=blk
 ·rw [if_pos h.symm,if_pos h];rfl
 ·rw [if_neg (fun e=>h e.symm),if_neg h];rfl
def w0f (α:Type) [Yo α] (srt:List α→List α) (bnd:List α→Bool) (g:FuncId) (args:List AVal) (mem:Mem):Option (AVal×Nat×ABlk×Bool):=match args with
 | [.sla b sz off n cap,.fn f []]=>bif Nat.beq f g then match Yb mem b with
  | some ⟨_,ty,some A⟩=>some (.tup [],b,⟨rows A.n (Zz (srt (lst α n A.get))),ty,some ⟨Yo.w α,A.n,Zz (srt (lst α n A.get))⟩⟩,
    Nat.beq sz (Yo.w α)&&(Nat.beq A.sz (Yo.w α)&&(Nat.beq off 0&&((decide (n=A.n)&&(isT α n A.get&&decide (n<4611686018427387904)))&&bnd (lst α n A.get)))))
  | _=>none
  else none
 | _=>none
theorem w9x {f g:FuncId} {srt:List α→List α} {bnd:List α→Bool} (hsl: ∀L,(srt L).length =L.length)
  (hC: ∀(blk off cap:Nat) (L:List α) (w:World),bnd L=true→HoldsK y7i (Yo.w α) w blk off L.toArray→blk<w.heap.size→L.length<4611686018427387904→
   Calls P f #[.slice (some ⟨blk,off,none⟩) L.length cap,.func (.func g) #[] #[]] w fun e w'=>e=.returned (.tuple #[])∧ ∃n os,w'=sortWorldK y7i (Yo.w α) w blk off n (srt L).toArray os)
  (hN: ∀(p:Option Addr) (cap:Nat) (fv:Value) (w:World),Calls P f #[.slice p 0 cap,fv] w fun e w'=>e=.returned (.tuple #[])∧w'=w):x3h P f (w0f α srt bnd g):=by
 intro args mem v b blk h fB ρ next floor vals w hfl cZ cW
 have hw0:=Yo.pos (α:=α);unfold w0f at h;split at h
 ·rename_i b0 sz off n cap f0;obtain ⟨hfg,h'⟩:=Kr h;clear h;obtain rfl:=Nat.eq_of_beq_eq_true hfg;have h:=h';clear h';split at h
  ·rename_i cells ty A hm;obtain ⟨asz,an,get⟩:=A;simp only [Option.some.injEq,Prod.mk.injEq,Bool.and_eq_true] at h;obtain ⟨rfl,rfl,rfl,h1,h2,h3,⟨h4,h5,h6⟩,h7⟩:=h;have g1:=Nat.eq_of_beq_eq_true h1;have g2:=Nat.eq_of_beq_eq_true h2;have g3:=Nat.eq_of_beq_eq_true h3;have g4:n=an:=of_decide_eq_true h4;have h6:n<4611686018427387904:=of_decide_eq_true h6;have g2:asz=Yo.w α:=g2;subst g1;subst g2;subst g3;subst g4;have h7:bnd (lst α n get.get)=true:=h7;have dE:=x9w h5;have dE: ∀i,i<n→get.get i=Zz (lst α n get.get) i:=dE;have hrows:rows n get.get=rows n (Zz (lst α n get.get)):=z3p n dE;obtain ⟨u,hu,hvals⟩: ∃u,VRel ρ (.sla b0 (Yo.w α) 0 n cap) u∧vals= #[u,.func (.func f0) #[] #[]]:=by
    obtain ⟨vl⟩:=vals;cases cZ with
    | cons q1 q2=>cases q2 with
     | cons q3 q4=>
      cases q4;cases q3 with
      | fn _ _ cvs hl _=>have:cvs= #[]:=Array.eq_empty_of_size_eq_zero (by simpa using hl.symm);subst this;exact ⟨_,q1,rfl⟩
   subst hvals;have hlt:b0<next:=by
    rcases Nat.lt_or_ge b0 next with q | q
    ·exact q
    ·have:=cW.bd b0 q;rw [hm] at this;cases this
   show Calls P f _ w _;have hAget:(Arr.get ⟨Yo.w α,n,get⟩)=get.get:=rfl;rw [hAget] at*;generalize hI:lst α n get.get=I at*;have hIl:I.length=n:=by rw [←hI];exact z8e _ _
   generalize hL:srt I=L;have hLl:L.length=n:=by rw [←hL,hsl,hIl]
   have hnn:ρ b0=none→ ∀cs ty',Yb mem b0≠some ⟨cs,ty',none⟩:=fun _ cs ty' e=>by rw [hm] at e;cases e
   cases hu with
   | sla _ _ _ _ _ l cc e hc cX=>
    have hbk:=cW.blk b0 l _ e hm;obtain ⟨har,_,_⟩:=hbk.arr _ rfl;have har:cells=rows n get.get:=har;rw [hrows] at har;subst har;obtain ⟨cur,el,hh,hsz,dB⟩:=hbk.cells;simp only [z0q] at dB;have htot:=hbk.tot;have hln:=hbk.n;simp only [z0q] at hln;have dW: ∀t,t<n*Yo.w α→cur[l.base+t]? =(Yo.cells (rd I (t / Yo.w α)))[t %Yo.w α]?.map valOf:=fun t ht=>by
     obtain ⟨v,e1,e2⟩:=dB t ht;have hj:t %Yo.w α<Yo.w α:=Nat.mod_lt _ hw0;have hl2:t %Yo.w α<(Yo.cells (rd I (t / Yo.w α))).length :=by rw [Yo.len];exact hj
     have e3:=w6c I n t ht;rw [List.getElem?_eq_getElem (by rw [z0q];exact ht),List.getElem?_eq_getElem hl2] at e3;rw [Option.some.inj e3] at e2;rw [e1,List.getElem?_eq_getElem hl2,Option.map_some,w6r (List.all_eq_true.1 (u0l.num _) _ (List.getElem_mem hl2)) e2]
    have eI:=cW.real b0 l e;have hH:HoldsK y7i (Yo.w α) w l.blk (l.base+0*Yo.w α) I.toArray:=fun j hj=>by
     have hj:j<n*Yo.w α:=(by simpa [hIl] using hj);have hs:j<(flatK y7i (Yo.w α) I.toArray).size :=(by simpa [hIl] using hj);have e1:=w0d I j (by rw [hIl];exact hj);rw [Array.getElem?_eq_getElem hs] at e1;refine ⟨?_,?_⟩
     ·simp only [World.cell?,hh,Nat.zero_mul,Nat.add_zero,id];rw [dW j hj,←e1,getElem!_pos (flatK y7i (Yo.w α) I.toArray) j hs];simp
     ·simp [World.frozen?,hh]
    have dL:=hC l.blk (l.base+0*Yo.w α) cc I w h7 hH eI (by omega);rw [hIl,hL] at dL;refine dL.mono fun e' w' ⟨he,q,os,hw'⟩=>⟨_,he,?_,?_,?_⟩
    ·exact .tup [] #[] rfl fun i h1 h2=>absurd h1 (Nat.not_lt_zero _)
    ·subst hw';refine Rel.setArr ?_ ⟨Yo.w α,n,.flat (Zz L)⟩ rfl hw0 fun _ _=>Yo.len _;refine Rel.rewritten cW e hm (by simp only [z0q]) (fun k hk hne=> ?_) ?_ ?_
     ·exact (y3g _ _ _ _ _ _ _ hk).trans (if_neg hne)
     ·show _≤(((Go.Sort.ahead w q).heap.modify _ _)++os).size;simp only [Array.size_append,Array.size_modify];exact Nat.le_add_right _ _
     ·refine ⟨putCells id (l.base+0*Yo.w α) (flatK y7i (Yo.w α) L.toArray) cur,el,?_,?_,fun i hi=> ?_⟩
      ·refine (y3g _ _ _ _ _ _ _ eI).trans ?_;rw [if_pos rfl,hh];rfl
      ·simp only [putCells,Array.size_mapIdx];exact hsz
      ·rw [z0q] at hi;have hj:i %Yo.w α<Yo.w α:=Nat.mod_lt _ hw0;have hl2:i %Yo.w α<(Yo.cells (rd L (i / Yo.w α))).length :=by rw [Yo.len];exact hj
       have hl3:i %Yo.w α<(Yo.cells (rd I (i / Yo.w α))).length :=by rw [Yo.len];exact hj
       have e1:=w0d L i (by rw [hLl];exact hi);rw [List.getElem?_eq_getElem hl2,Option.map_some] at e1;have hs:i<(flatK y7i (Yo.w α) L.toArray).size :=(by simpa [hLl] using hi);rw [Array.getElem?_eq_getElem hs] at e1;have e3:=w6c L n i hi;rw [List.getElem?_eq_getElem (by rw [z0q];exact hi),List.getElem?_eq_getElem hl2] at e3;refine ⟨valOf (Yo.cells (rd L (i / Yo.w α)))[i %Yo.w α],?_,?_⟩
       ·have hc0:=dW i hi;rw [List.getElem?_eq_getElem hl3,Option.map_some] at hc0;simp only [putCells,Array.getElem?_mapIdx,hc0,Option.map_some,Nat.zero_mul,Nat.add_zero];rw [if_pos ⟨by omega,by omega⟩]
        congr 1
        rw [show l.base+i - l.base=i by omega,id,getElem!_pos (flatK y7i (Yo.w α) L.toArray) i hs];exact Option.some.inj e1
       ·rw [Option.some.inj e3];exact w4u (List.all_eq_true.1 (u0l.num _) _ (List.getElem_mem hl2))
    ·subst hw';refine Ev.rewritten cW _ (fun l' _=>hfl) hnn (fun k hk hne=> ?_) ?_ rfl rfl rfl
     ·exact (y3g _ _ _ _ _ _ _ hk).trans (if_neg (hne l e))
     ·show _≤(((Go.Sort.ahead w q).heap.modify _ _)++os).size;simp only [Array.size_append,Array.size_modify];exact Nat.le_add_right _ _
   | slan=>
    have hI0:I=[]:=List.eq_nil_of_length_eq_zero hIl;have hL0:L=[]:=List.eq_nil_of_length_eq_zero hLl;refine (hN none 0 _ w).mono fun e' w' ⟨he,hw'⟩=>⟨_,he,?_,?_,?_⟩
    ·exact .tup [] #[] rfl fun i h1 h2=>absurd h1 (Nat.not_lt_zero _)
    ·subst hw';refine cW.reblk hm fun l hρ hbk=> ?_;obtain ⟨har,eZ,_⟩:=hbk.arr _ rfl;have har:cells=rows 0 get.get:=har;subst har;exact ⟨hbk.n,hbk.tot,fun B hB=>by obtain rfl:=Option.some.inj hB;exact ⟨rfl,hw0,fun i hi=>absurd hi (Nat.not_lt_zero _)⟩,hbk.cells⟩
    ·subst hw';exact Ev.rewritten cW _ (fun l' _=>hfl) hnn (fun _ _ _=>rfl) (Nat.le_refl _) rfl rfl rfl
  ·cases h
 ·cases h
end
def Specs.withE (S:Specs) (f:FuncId) (F:List AVal→Mem→Option (AVal×Nat×ABlk×Bool)):Specs:=fun g=>bif Nat.beq g f then some (.eff F) else S g
theorem y7t {P:Program} {S:Specs} (hS:Zu P S) {f:FuncId} {F:List AVal→Mem→Option (AVal×Nat×ABlk×Bool)} (hf:(P.funcs[f]?).any (fun fn=>fn.body.isSome)=true) (hF:x3h P f F):Zu P (S.withE f F):=by
 intro g G hg;unfold Specs.withE at hg;cases hgf:Nat.beq g f with
 | false=>rw [hgf] at hg;exact hS g G hg
 | true=>
  rw [hgf] at hg;obtain rfl:Spec.eff F=G:=Option.some.inj hg;obtain rfl:g=f:=Nat.eq_of_beq_eq_true hgf;refine ⟨?_,hF⟩;cases hfn:P.funcs[g]? with
  | none=>rw [hfn] at hf;cases hf
  | some fn=>rw [hfn] at hf;exact ⟨fn,rfl,hf⟩
end Go.Am
namespace Go.Proofs
open Go.Proofs.Tryz
open Go.Shelf
def Tryz.lays189_ren :Go.Shelf.Ren:=⟨fun | 189=>63 | 125=>117 | 257=>116 | 128=>152 | 129=>153 | 294=>143 | 295=>144 | 296=>145 | 297=>146 | 298=>147 | 299=>148 | 216=>149 | 300=>150 | 301=>151 | 328=>176 | 329=>177 | 330=>178 | 331=>179 | 332=>180 | 215=>181 | 343=>194 | n=>n,fun | 28=>93 | 3=>3 | 46=>147 | 0=>0 | 51=>194 | 53=>196 | 4=>4 | 183=>186 | 182=>185 | 131=>191 | 5=>5 | 9=>9 | 218=>224 | 222=>228 | 228=>239 | 229=>91 | n=>n,fun | n=>n⟩
theorem Tryz.lays189 :Go.Proofs.Lays.n189 prog Tryz.lays189_ren:={
 mixed:=by kernel_rfl
 f125:=Tryz.func117.trans (congrArg some (by kernel_rfl))
 f128:=Tryz.func152.trans (congrArg some (by kernel_rfl))
 f129:=Tryz.func153.trans (congrArg some (by kernel_rfl))
 f189:=Tryz.func63.trans (congrArg some (by kernel_rfl))
 f215:=Tryz.func181.trans (congrArg some (by kernel_rfl))
 f216:=Tryz.func149.trans (congrArg some (by kernel_rfl))
 f257:=Tryz.func116.trans (congrArg some (by kernel_rfl))
 f294:=Tryz.func143.trans (congrArg some (by kernel_rfl))
 f295:=Tryz.func144.trans (congrArg some (by kernel_rfl))
 f296:=Tryz.func145.trans (congrArg some (by kernel_rfl))
 f297:=Tryz.func146.trans (congrArg some (by kernel_rfl))
 f298:=Tryz.func147.trans (congrArg some (by kernel_rfl))
 f299:=Tryz.func148.trans (congrArg some (by kernel_rfl))
 f300:=Tryz.func150.trans (congrArg some (by kernel_rfl))
 f301:=Tryz.func151.trans (congrArg some (by kernel_rfl))
 f328:=Tryz.func176.trans (congrArg some (by kernel_rfl))
 f329:=Tryz.func177.trans (congrArg some (by kernel_rfl))
 f330:=Tryz.func178.trans (congrArg some (by kernel_rfl))
 f331:=Tryz.func179.trans (congrArg some (by kernel_rfl))
 f332:=Tryz.func180.trans (congrArg some (by kernel_rfl))
 f343:=Tryz.func194.trans (congrArg some (by kernel_rfl))
 t0:=Tryz.underlying0
 a0:=Tryz.isAgg0
 z0:=Tryz.sizeOf0
 v0:=Tryz.zeroValue0
 t3:=Tryz.underlying3
 a3:=Tryz.isAgg3
 z3:=Tryz.sizeOf3
 v3:=Tryz.zeroValue3
 t4:=Tryz.underlying4
 a4:=Tryz.isAgg4
 z4:=Tryz.sizeOf4
 v4:=Tryz.zeroValue4
 t5:=Tryz.underlying5
 a5:=Tryz.isAgg5
 z5:=Tryz.sizeOf5
 v5:=Tryz.zeroValue5
 t9:=Tryz.underlying9
 a9:=Tryz.isAgg9
 z9:=Tryz.sizeOf9
 v9:=Tryz.zeroValue9
 t28:=Tryz.underlying93
 a28:=Tryz.isAgg93
 z28:=Tryz.sizeOf93
 v28:=Tryz.zeroValue93
 t46:=Tryz.underlying147
 a46:=Tryz.isAgg147
 z46:=Tryz.sizeOf147
 v46:=Tryz.zeroValue147
 t51:=Tryz.underlying194
 a51:=Tryz.isAgg194
 z51:=Tryz.sizeOf194
 v51:=Tryz.zeroValue194
 t53:=Tryz.underlying196
 a53:=Tryz.isAgg196
 z53:=Tryz.sizeOf196
 v53:=Tryz.zeroValue196
 t131:=Tryz.underlying191
 a131:=Tryz.isAgg191
 z131:=Tryz.sizeOf191
 v131:=Tryz.zeroValue191
 t182:=Tryz.underlying185
 a182:=Tryz.isAgg185
 z182:=Tryz.sizeOf185
 v182:=Tryz.zeroValue185
 t183:=Tryz.underlying186
 a183:=Tryz.isAgg186
 z183:=Tryz.sizeOf186
 v183:=Tryz.zeroValue186
 t218:=Tryz.underlying224
 a218:=Tryz.isAgg224
 z218:=Tryz.sizeOf224
 v218:=Tryz.zeroValue224
 t222:=Tryz.underlying228
 a222:=Tryz.isAgg228
 z222:=Tryz.sizeOf228
 v222:=Tryz.zeroValue228
 t228:=Tryz.underlying239
 a228:=Tryz.isAgg239
 z228:=Tryz.sizeOf239
 v228:=Tryz.zeroValue239
 t229:=Tryz.underlying91
 a229:=Tryz.isAgg91
 z229:=Tryz.sizeOf91
 v229:=Tryz.zeroValue91}
open Go.Sort Go.RowKit in
theorem Tryz.slices_Sort_int (blk off cap:Nat) (zs:List Int) (w:World) (hH:Holds (Value.int .i64) w blk off zs.toArray) (eI:blk<w.heap.size) (hsz:zs.length<4611686018427387904):
  Calls prog 63 #[.slice (some ⟨blk,off,none⟩) zs.length cap] w fun e w'=>
   e=.returned (.tuple #[])∧ ∃n os,w'=grow (putRow (Value.int .i64) (Sort.ahead w n) blk off (zs.mergeSort fun x y=>decide (x≤y)).toArray) os:=Any.slices_Sort_int Tryz.lays189 blk off cap zs w hH eI hsz
def Tryz.laysNm220_ren :Go.Shelf.Ren:=⟨fun | 20=>64 | n=>n,fun | 22=>93 | 3=>3 | 4=>4 | 0=>0 | n=>n,fun | n=>n⟩
theorem Tryz.laysNm220 :Go.Proofs.Lays2.n20 prog Tryz.laysNm220_ren:={
 mixed:=by kernel_rfl
 f20:=Tryz.func64.trans (congrArg some (by kernel_rfl))
 t0:=Tryz.underlying0
 a0:=Tryz.isAgg0
 z0:=Tryz.sizeOf0
 v0:=Tryz.zeroValue0
 t3:=Tryz.underlying3
 a3:=Tryz.isAgg3
 z3:=Tryz.sizeOf3
 v3:=Tryz.zeroValue3
 t4:=Tryz.underlying4
 a4:=Tryz.isAgg4
 z4:=Tryz.sizeOf4
 v4:=Tryz.zeroValue4
 t22:=Tryz.underlying93
 a22:=Tryz.isAgg93
 z22:=Tryz.sizeOf93
 v22:=Tryz.zeroValue93
 i3:=by kernel_rfl}
open Go.RowKit Go.Lib Go.Sort in
theorem Tryz.slices_Compact_int (blk off cap:Nat) (zs:List Int) (w:World) (hH:Holds (Value.int .i64) w blk off zs.toArray) (hsz:zs.length≤9223372036854775807) (dC:zs.length≤cap):
  Calls prog 64 #[.slice (some ⟨blk,off,none⟩) zs.length cap] w fun e w'=>e=.returned (.slice (some ⟨blk,off,none⟩) (Lib.compact zs).length cap)∧ ∃q,w'=putRow (Value.int .i64) (Sort.ahead w q) blk off (Lib.compact zs++List.replicate (zs.length - (Lib.compact zs).length) 0).toArray :=Any.slices_Compact_int Tryz.laysNm220 blk off cap zs w hH hsz dC
open Go.RowKit Go.Lib Go.Sort in
theorem Tryz.slices_Compact_int_empty (a:Option Addr) (cap:Nat) (w:World):
  Calls prog 64 #[.slice a 0 cap] w fun e w'=>e=.returned (.slice a 0 cap)∧w'=w:=Any.slices_Compact_int_empty Tryz.laysNm220 a cap w
open Go.RowKit Go.Sort in
theorem Tryz.slices_Sort_int_none (p:Option Addr) (cap:Nat) (w:World):
  Calls prog 63 #[.slice p 0 cap] w fun e w'=>e=.returned (.tuple #[])∧w'=w:=Any.slices_Sort_int_none Tryz.lays189 p cap w
def Tryz.sortEnd_ren :Go.Shelf.Ren:=⟨fun | 6=>200 | 15=>117 | 14=>204 | 28=>152 | 29=>153 | 20=>206 | 21=>207 | 22=>208 | 23=>209 | 24=>210 | 25=>211 | 26=>212 | 27=>213 | 46=>214 | 47=>177 | 48=>178 | 49=>215 | 50=>216 | 57=>217 | n=>n,fun | 22=>248 | 24=>246 | 25=>250 | 3=>3 | 39=>147 | 0=>0 | 53=>194 | 55=>196 | 4=>4 | 46=>186 | 45=>185 | 50=>191 | 5=>5 | 9=>9 | 66=>224 | 70=>228 | 76=>239 | 77=>91 | n=>n,fun | n=>n⟩
theorem Tryz.sortEnd :Go.Proofs.SlLaysF0.n6 prog Tryz.sortEnd_ren:={
 mixed:=by kernel_rfl
 f6:=⟨Tryz.f200.name,by decide,Tryz.func200.trans (congrArg some (by kernel_rfl))⟩
 f14:=⟨Tryz.f204.name,by decide,Tryz.func204.trans (congrArg some (by kernel_rfl))⟩
 f15:=Tryz.func117.trans (congrArg some (by kernel_rfl))
 f20:=⟨Tryz.f206.name,by decide,Tryz.func206.trans (congrArg some (by kernel_rfl))⟩
 f21:=⟨Tryz.f207.name,by decide,Tryz.func207.trans (congrArg some (by kernel_rfl))⟩
 f22:=⟨Tryz.f208.name,by decide,Tryz.func208.trans (congrArg some (by kernel_rfl))⟩
 f23:=⟨Tryz.f209.name,by decide,Tryz.func209.trans (congrArg some (by kernel_rfl))⟩
 f24:=⟨Tryz.f210.name,by decide,Tryz.func210.trans (congrArg some (by kernel_rfl))⟩
 f25:=⟨Tryz.f211.name,by decide,Tryz.func211.trans (congrArg some (by kernel_rfl))⟩
 f26:=⟨Tryz.f212.name,by decide,Tryz.func212.trans (congrArg some (by kernel_rfl))⟩
 f27:=⟨Tryz.f213.name,by decide,Tryz.func213.trans (congrArg some (by kernel_rfl))⟩
 f28:=Tryz.func152.trans (congrArg some (by kernel_rfl))
 f29:=Tryz.func153.trans (congrArg some (by kernel_rfl))
 f46:=⟨Tryz.f214.name,by decide,Tryz.func214.trans (congrArg some (by kernel_rfl))⟩
 f47:=Tryz.func177.trans (congrArg some (by kernel_rfl))
 f48:=Tryz.func178.trans (congrArg some (by kernel_rfl))
 f49:=⟨Tryz.f215.name,by decide,Tryz.func215.trans (congrArg some (by kernel_rfl))⟩
 f50:=⟨Tryz.f216.name,by decide,Tryz.func216.trans (congrArg some (by kernel_rfl))⟩
 f57:=⟨Tryz.f217.name,by decide,Tryz.func217.trans (congrArg some (by kernel_rfl))⟩
 t0:=Tryz.underlying0
 a0:=Tryz.isAgg0
 z0:=Tryz.sizeOf0
 v0:=Tryz.zeroValue0
 t3:=Tryz.underlying3
 a3:=Tryz.isAgg3
 z3:=Tryz.sizeOf3
 v3:=Tryz.zeroValue3
 t4:=Tryz.underlying4
 a4:=Tryz.isAgg4
 z4:=Tryz.sizeOf4
 v4:=Tryz.zeroValue4
 t5:=Tryz.underlying5
 a5:=Tryz.isAgg5
 z5:=Tryz.sizeOf5
 v5:=Tryz.zeroValue5
 t9:=Tryz.underlying9
 a9:=Tryz.isAgg9
 z9:=Tryz.sizeOf9
 v9:=Tryz.zeroValue9
 t22:=Tryz.underlying248
 a22:=Tryz.isAgg248
 z22:=Tryz.sizeOf248
 v22:=Tryz.zeroValue248
 t25:=Tryz.underlying250
 a25:=Tryz.isAgg250
 z25:=Tryz.sizeOf250
 v25:=Tryz.zeroValue250
 t39:=Tryz.underlying147
 a39:=Tryz.isAgg147
 z39:=Tryz.sizeOf147
 v39:=Tryz.zeroValue147
 t45:=Tryz.underlying185
 a45:=Tryz.isAgg185
 z45:=Tryz.sizeOf185
 v45:=Tryz.zeroValue185
 t46:=Tryz.underlying186
 a46:=Tryz.isAgg186
 z46:=Tryz.sizeOf186
 v46:=Tryz.zeroValue186
 t50:=Tryz.underlying191
 a50:=Tryz.isAgg191
 z50:=Tryz.sizeOf191
 v50:=Tryz.zeroValue191
 t53:=Tryz.underlying194
 a53:=Tryz.isAgg194
 z53:=Tryz.sizeOf194
 v53:=Tryz.zeroValue194
 t55:=Tryz.underlying196
 a55:=Tryz.isAgg196
 z55:=Tryz.sizeOf196
 v55:=Tryz.zeroValue196
 t66:=Tryz.underlying224
 a66:=Tryz.isAgg224
 z66:=Tryz.sizeOf224
 v66:=Tryz.zeroValue224
 t70:=Tryz.underlying228
 a70:=Tryz.isAgg228
 z70:=Tryz.sizeOf228
 v70:=Tryz.zeroValue228
 t76:=Tryz.underlying239
 a76:=Tryz.isAgg239
 z76:=Tryz.sizeOf239
 v76:=Tryz.zeroValue239
 t77:=Tryz.underlying91
 a77:=Tryz.isAgg91
 z77:=Tryz.sizeOf91
 v77:=Tryz.zeroValue91}
end Go.Proofs
namespace Go.Proofs
open Go.Proofs.Tryz
open Go.Shelf Go.RowKit Go.Lib Go.Sort
theorem Tryz.cmpEnd (a b c a' b' c':Int) (h: -1000000000≤a∧a≤1000000000) (h': -1000000000≤a'∧a'≤1000000000) (W:World):
  Calls prog 201 #[.agg #[.int .i64 a,.int .i64 b,.int .i64 c],.agg #[.int .i64 a',.int .i64 b',.int .i64 c']] W fun e w'=>e=.returned (.int .i64 (a - a'))∧ ∃q os',w'=grow (W.drewN q) os':=by
 go_enter Tryz.func201,Tryz.ntmps201
 go_wp2
 go_ret
 exact ⟨rfl,0,_,by rw [alloc_eq_grow,alloc_eq_grow,grow_grow];rfl⟩
end Go.Proofs
namespace Go.Am
open Go.Proofs.Tryz
open Go.Proofs
inductive rjsS where
 | h0 (v9:List R6) (v10:List R4) (v11:Int) (v12:Int)
 | h1 (v9:List R6) (v10:List R4) (v11:Int) (v12:Int) (v13:List R4) (v15:Int)
 | h2 (v9:List R6) (v10:List R4) (v11:Int) (v12:Int) (v14:Int)
abbrev x8s (l1:List R6) (l2:List R6) (v12:Int):=(rd (Ws (cvT l1) (cvT l2)) (tn v12))
abbrev y5y (v9:List R6) (v14:Int) (l1:List R6) (l2:List R6) (v12:Int):=(v9.set (0+(tn v14)) (R6.mk (rd v9 (0+(tn v14))).a (rd v9 (0+(tn v14))).b (rd v9 (0+(tn v14))).c (rd v9 (0+(tn v14))).d (rd v9 (0+(tn v14))).e (rd (Ws (cvT l1) (cvT l2)) (tn (wr (v12+1))))))
abbrev y5x (v9:List R6) (v13:List R4) (v15:Int) (l1:List R6) (l2:List R6) (v12:Int):=(v9++[(R6.mk (rd v13 (tn v15)).a (rd v13 (tn v15)).b (x8s l1 l2 v12) (rd v13 (tn v15)).c (rd v13 (tn v15)).d (rd (Ws (cvT l1) (cvT l2)) (tn (wr (v12+1)))))])
abbrev Vu (l1:List R6) (l2:List R6) (v12:Int):=(atV (cvT l1) (x8s l1 l2 v12))
abbrev Vi (l2:List R6) (l1:List R6) (v12:Int):=(atV (cvT l2) (x8s l1 l2 v12))
abbrev v7v (v9:List R6) (v13:List R4) (v15:Int) (l1:List R6) (l2:List R6) (v12:Int):=(Zh (Zz v9) 0 v9.length 6 [(ii (rd v13 (tn v15)).a),(ii (rd v13 (tn v15)).b),(ii (x8s l1 l2 v12)),(ii (rd v13 (tn v15)).c),(ii (rd v13 (tn v15)).d),(ii (rd (Ws (cvT l1) (cvT l2)) (tn (wr (v12+1)))))])
def w6g (l1:List R6) (l2:List R6):AVal:=(.dat (Ws (cvT l1) (cvT l2)).length (Zz (Ws (cvT l1) (cvT l2))))
def rjsC (x0:Int) (l1:List R6) (l2:List R6):rjsS→Cfg
 | .h0 v9 v10 v11 v12=>⟨⟨137,0,true⟩,none,(Zd prog 72 [1,1,1,1,1,0,1,0,0] 0),none,(Zy prog 32),⟨Ya [(0,(ii x0)),(1,(.dat l1.length (Zz l1))),(2,(.dat l2.length (Zz l2))),(8,(w6g l1 l2)),(9,(.sla 0 6 0 v9.length (.un 6))),(10,(.dat v10.length (Zz v10))),(11,(ii v11)),(12,(ii v12))],Uq [⟨rows v9.length (Zz v9),67,some ⟨6,v9.length,(Zz v9)⟩⟩] 0,1,[],true⟩,[],.leaf⟩
 | .h1 v9 v10 v11 v12 v13 v15=>⟨⟨137,0,true⟩,none,(Zd prog 72 [1,1,1,1,1,0,1,0,0,1,0,0,1,1,1,1,1,0,0] 0),none,(Zy prog 32),⟨Ya [(0,(ii x0)),(1,(.dat l1.length (Zz l1))),(2,(.dat l2.length (Zz l2))),(8,(w6g l1 l2)),(9,(.sla 0 6 0 v9.length (.un 6))),(10,(.dat v10.length (Zz v10))),(11,(ii v11)),(12,(ii v12)),(13,(.dat v13.length (Zz v13))),(15,(ii v15))],Uq [⟨rows v9.length (Zz v9),67,some ⟨6,v9.length,(Zz v9)⟩⟩] 0,1,[],true⟩,[],.leaf⟩
 | .h2 v9 v10 v11 v12 v14=>⟨⟨137,0,true⟩,none,(Zd prog 72 [1,1,1,1,1,0,1,0,0,1,0,0,1,1,0,1,0,0,1,0,0] 0),none,(Zy prog 32),⟨Ya [(0,(ii x0)),(1,(.dat l1.length (Zz l1))),(2,(.dat l2.length (Zz l2))),(8,(w6g l1 l2)),(9,(.sla 0 6 0 v9.length (.un 6))),(10,(.dat v10.length (Zz v10))),(11,(ii v11)),(12,(ii v12)),(14,(ii v14))],Uq [⟨rows v9.length (Zz v9),67,some ⟨6,v9.length,(Zz v9)⟩⟩] 0,1,[],true⟩,[],.leaf⟩
def u2i :List (Option (List Nat)):=[some [0,1,2,8,9,10,11,12]]
def u2k :List (Option (List Nat)):=[]
def u2h :List (Option (List Nat)):=[some [0,1,2,8,9,10,11,12,13,15]]
def u2j :List (Option (List Nat)):=[]
def rjsN2 :List (Option (List Nat)):=[some [0,1,2,8,9,10,11,12,14]]
def rjsM2 :List (Option (List Nat)):=[]
def Vm (x0:Int) (l1:List R6) (l2:List R6):rjsS→Xf rjsS
 | .h0 v9 v10 v11 v12=>(bif (decide ((IntKind.wrap .i64 (v12+1))<(((Ws (cvT l1) (cvT l2)).length :Nat):Int))) then (bif (z4d (cvT l1) (rd (Ws (cvT l1) (cvT l2)) v12.toNat)) then (bif ((decide (0≤v12∧v12<(((Ws (cvT l1) (cvT l2)).length :Nat):Int)))&&true) then (bif (z4d (cvT l2) (rd (Ws (cvT l1) (cvT l2)) v12.toNat)) then (bif (z0f x0 (cvT (atV (cvT l1) (rd (Ws (cvT l1) (cvT l2)) v12.toNat))) (cvT (atV (cvT l2) (rd (Ws (cvT l1) (cvT l2)) v12.toNat)))) then (bif (decide ((((joV x0 (cvT (atV (cvT l1) (rd (Ws (cvT l1) (cvT l2)) v12.toNat))) (cvT (atV (cvT l2) (rd (Ws (cvT l1) (cvT l2)) v12.toNat)))).length :Nat):Int)>400)) then (.ret [.nils,(.bool false)]) else (bif (z0f 2 (cvT (atV (cvT l1) (rd (Ws (cvT l1) (cvT l2)) v12.toNat))) ([]:List R4)) then (bif (decide ((((joV 2 (cvT (atV (cvT l1) (rd (Ws (cvT l1) (cvT l2)) v12.toNat))) ([]:List R4)).length :Nat):Int)>400)) then (.ret [.nils,(.bool false)]) else (bif (z0f 2 (cvT (atV (cvT l2) (rd (Ws (cvT l1) (cvT l2)) v12.toNat))) ([]:List R4)) then (bif (decide ((((joV 2 (cvT (atV (cvT l2) (rd (Ws (cvT l1) (cvT l2)) v12.toNat))) ([]:List R4)).length :Nat):Int)>400)) then (.ret [.nils,(.bool false)]) else (bif (decide (v12>0)) then (bif (Wm (cvT (joV x0 (cvT (atV (cvT l1) (rd (Ws (cvT l1) (cvT l2)) v12.toNat))) (cvT (atV (cvT l2) (rd (Ws (cvT l1) (cvT l2)) v12.toNat))))) (cvT v10)) then (bif (Um (cvT (joV x0 (cvT (atV (cvT l1) (rd (Ws (cvT l1) (cvT l2)) v12.toNat))) (cvT (atV (cvT l2) (rd (Ws (cvT l1) (cvT l2)) v12.toNat))))) (cvT v10)) then (.to (.h2 v9 v10 v11 v12 v11)) else (.to (.h1 v9 (joV x0 (cvT (atV (cvT l1) (rd (Ws (cvT l1) (cvT l2)) v12.toNat))) (cvT (atV (cvT l2) (rd (Ws (cvT l1) (cvT l2)) v12.toNat)))) (v9.length:Int) v12 (joV x0 (cvT (atV (cvT l1) (rd (Ws (cvT l1) (cvT l2)) v12.toNat))) (cvT (atV (cvT l2) (rd (Ws (cvT l1) (cvT l2)) v12.toNat)))) 0))) else .stuck) else (.to (.h1 v9 (joV x0 (cvT (atV (cvT l1) (rd (Ws (cvT l1) (cvT l2)) v12.toNat))) (cvT (atV (cvT l2) (rd (Ws (cvT l1) (cvT l2)) v12.toNat)))) (v9.length:Int) v12 (joV x0 (cvT (atV (cvT l1) (rd (Ws (cvT l1) (cvT l2)) v12.toNat))) (cvT (atV (cvT l2) (rd (Ws (cvT l1) (cvT l2)) v12.toNat)))) 0)))) else .stuck)) else .stuck)) else .stuck) else .stuck) else .stuck) else .stuck) else (.ret [(.dat v9.length (Zz v9)),(.bool (decide ((v9.length:Int)≤400)))]))
 | .h1 v9 v10 v11 v12 v13 v15=>(bif (decide (v15<(v13.length:Int))) then (bif ((decide (0≤v12∧v12<(((Ws (cvT l1) (cvT l2)).length :Nat):Int)))&&true) then (bif ((decide (0≤v15∧v15<(v13.length:Int)))&&true) then (bif ((decide (0≤(IntKind.wrap .i64 (v12+1))∧(IntKind.wrap .i64 (v12+1))<(((Ws (cvT l1) (cvT l2)).length :Nat):Int)))&&true) then (bif (Nat.beq 6 6&&((decide (0+v9.length=v9.length))&&decide ((v9.length+1+1)*(48+1)≤Ur))) then (.to (.h1 (v9++[(R6.mk (rd v13 v15.toNat).a (rd v13 v15.toNat).b (rd (Ws (cvT l1) (cvT l2)) v12.toNat) (rd v13 v15.toNat).c (rd v13 v15.toNat).d (rd (Ws (cvT l1) (cvT l2)) (Int.toNat (IntKind.wrap .i64 (v12+1)))))]) v10 v11 v12 v13 (IntKind.wrap .i64 (v15+1)))) else .stuck) else .stuck) else .stuck) else .stuck) else (.to (.h0 v9 v10 v11 (IntKind.wrap .i64 (v12+1)))))
 | .h2 v9 v10 v11 v12 v14=>(bif (decide (v14<(v9.length:Int))) then (bif ((decide (0≤(IntKind.wrap .i64 (v12+1))∧(IntKind.wrap .i64 (v12+1))<(((Ws (cvT l1) (cvT l2)).length :Nat):Int)))&&true) then (bif ((decide (0≤v14∧v14<(v9.length:Int)))&&true) then (bif (decide ((0+v14.toNat)<v9.length)) then (.to (.h2 (v9.set (0+v14.toNat) (R6.mk (rd v9 (0+v14.toNat)).a (rd v9 (0+v14.toNat)).b (rd v9 (0+v14.toNat)).c (rd v9 (0+v14.toNat)).d (rd v9 (0+v14.toNat)).e (rd (Ws (cvT l1) (cvT l2)) (Int.toNat (IntKind.wrap .i64 (v12+1)))))) v10 v11 v12 (IntKind.wrap .i64 (v14+1)))) else .stuck) else .stuck) else .stuck) else (.to (.h0 v9 v10 v11 (IntKind.wrap .i64 (v12+1)))))
def y0s (x0:Int) (l1:List R6) (l2:List R6):Xf rjsS:=(bif (z7b (cvT l1) (cvT l2)) then (.to (.h0 ([]:List R6) ([]:List R4) 0 0)) else .stuck)
theorem w1v (x0:Int) (l1:List R6) (l2:List R6): ∀s,Xj prog (Zy prog 72) (rjsC x0 l1 l2) (rjsC x0 l1 l2 s) (Vm x0 l1 l2 s)
 | .h0 v9 v10 v11 v12=>(lb (fun k0=>(lo fun aG=>(lo fun bB=>(lo fun bZ=>(lo fun cP=>(lb (fun k1=>(lr 137 72 [1,1,1,1,1,0,1,0,0,1,0,0,1,0,1,0,0] 1 32 [(6,.nils),(7,(.bool false))] (sl z8x 50 [] ⟨[],[],[some [6,7]],[]⟩ ⟨[],[],[]⟩ (trs 20 []) (tt k1 (pp (pp (xI R4 (Vu l1 l2 v12).length (Zz (Vu l1 l2 v12))) (pp (xI R4 (Vi l2 l1 v12).length (Zz (Vi l2 l1 v12))) (xw cP))) (pp (pp (xr l2) (xw bZ)) (ww bB (pp (pp (xr l1) (xw aG)) (ww bB (tt k0 nn)))))))))) (fun k1=>(lo fun cA=>(lb (fun k2=>(lr 137 72 [1,1,1,1,1,0,1,0,0,1,0,0,1,0,1,0,0] 1 32 [(6,.nils),(7,(.bool false))] (sl z8x 50 [] ⟨[],[],[some [6,7]],[]⟩ ⟨[],[],[]⟩ (bl 20 1047553) (tt k2 (pp (pp (xI R4 (Vu l1 l2 v12).length (Zz (Vu l1 l2 v12))) (pp (xI R4 0 (fun _=>[])) (xw cA))) (pp (pp (xr l1) (xw aG)) (ww bB (tt k1 (pp (pp (xI R4 (Vu l1 l2 v12).length (Zz (Vu l1 l2 v12))) (pp (xI R4 (Vi l2 l1 v12).length (Zz (Vi l2 l1 v12))) (xw cP))) (pp (pp (xr l2) (xw bZ)) (ww bB (pp (pp (xr l1) (xw aG)) (ww bB (tt k0 nn)))))))))))))) (fun k2=>(lo fun cB=>(lb (fun k3=>(lr 137 72 [1,1,1,1,1,0,1,0,0,1,0,0,1,0,1,0,0] 1 32 [(6,.nils),(7,(.bool false))] (sl z8x 50 [] ⟨[],[],[some [6,7]],[]⟩ ⟨[],[],[]⟩ (bl 20 524289) (tt k3 (pp (pp (xI R4 (Vi l2 l1 v12).length (Zz (Vi l2 l1 v12))) (pp (xI R4 0 (fun _=>[])) (xw cB))) (pp (pp (xr l2) (xw bZ)) (ww bB (tt k2 (pp (pp (xI R4 (Vu l1 l2 v12).length (Zz (Vu l1 l2 v12))) (pp (xI R4 0 (fun _=>[])) (xw cA))) (pp (pp (xr l1) (xw aG)) (ww bB (tt k1 (pp (pp (xI R4 (Vu l1 l2 v12).length (Zz (Vu l1 l2 v12))) (pp (xI R4 (Vi l2 l1 v12).length (Zz (Vi l2 l1 v12))) (xw cP))) (pp (pp (xr l2) (xw bZ)) (ww bB (pp (pp (xr l1) (xw aG)) (ww bB (tt k0 nn)))))))))))))))))) (fun k3=>(lb (fun k4=>(lo fun cM=>(lb (fun k5=>(sl z8x 66 [] ⟨[0],[],rjsN2,rjsM2⟩ ⟨[],[],[]⟩ (bl 24 15728641) (pp (fl v9 nn) (tt k5 (pp (pp (xI R4 (joV x0 (cvT (Vu l1 l2 v12)) (cvT (Vi l2 l1 v12))).length (Zz (joV x0 (cvT (Vu l1 l2 v12)) (cvT (Vi l2 l1 v12))))) (pp (xr v10) (xw cM))) (tt k4 (tt k3 (pp (pp (xI R4 (Vi l2 l1 v12).length (Zz (Vi l2 l1 v12))) (pp (xI R4 0 (fun _=>[])) (xw cB))) (pp (pp (xr l2) (xw bZ)) (ww bB (tt k2 (pp (pp (xI R4 (Vu l1 l2 v12).length (Zz (Vu l1 l2 v12))) (pp (xI R4 0 (fun _=>[])) (xw cA))) (pp (pp (xr l1) (xw aG)) (ww bB (tt k1 (pp (pp (xI R4 (Vu l1 l2 v12).length (Zz (Vu l1 l2 v12))) (pp (xI R4 (Vi l2 l1 v12).length (Zz (Vi l2 l1 v12))) (xw cP))) (pp (pp (xr l2) (xw bZ)) (ww bB (pp (pp (xr l1) (xw aG)) (ww bB (tt k0 nn))))))))))))))))))))) (fun k5=>(sl z8x 73 [] ⟨[0],[],u2h,u2j⟩ ⟨[],[],[]⟩ (bl 24 7340033) (pp (fl v9 nn) (tt k5 (pp (pp (xI R4 (joV x0 (cvT (Vu l1 l2 v12)) (cvT (Vi l2 l1 v12))).length (Zz (joV x0 (cvT (Vu l1 l2 v12)) (cvT (Vi l2 l1 v12))))) (pp (xr v10) (xw cM))) (tt k4 (tt k3 (pp (pp (xI R4 (Vi l2 l1 v12).length (Zz (Vi l2 l1 v12))) (pp (xI R4 0 (fun _=>[])) (xw cB))) (pp (pp (xr l2) (xw bZ)) (ww bB (tt k2 (pp (pp (xI R4 (Vu l1 l2 v12).length (Zz (Vu l1 l2 v12))) (pp (xI R4 0 (fun _=>[])) (xw cA))) (pp (pp (xr l1) (xw aG)) (ww bB (tt k1 (pp (pp (xI R4 (Vu l1 l2 v12).length (Zz (Vu l1 l2 v12))) (pp (xI R4 (Vi l2 l1 v12).length (Zz (Vi l2 l1 v12))) (xw cP))) (pp (pp (xr l2) (xw bZ)) (ww bB (pp (pp (xr l1) (xw aG)) (ww bB (tt k0 nn)))))))))))))))))))))))) (fun k4=>(sl z8x 73 [] ⟨[0],[],u2h,u2j⟩ ⟨[],[],[]⟩ (bl 24 1) (pp (fl v9 nn) (tt k4 (tt k3 (pp (pp (xI R4 (Vi l2 l1 v12).length (Zz (Vi l2 l1 v12))) (pp (xI R4 0 (fun _=>[])) (xw cB))) (pp (pp (xr l2) (xw bZ)) (ww bB (tt k2 (pp (pp (xI R4 (Vu l1 l2 v12).length (Zz (Vu l1 l2 v12))) (pp (xI R4 0 (fun _=>[])) (xw cA))) (pp (pp (xr l1) (xw aG)) (ww bB (tt k1 (pp (pp (xI R4 (Vu l1 l2 v12).length (Zz (Vu l1 l2 v12))) (pp (xI R4 (Vi l2 l1 v12).length (Zz (Vi l2 l1 v12))) (xw cP))) (pp (pp (xr l2) (xw bZ)) (ww bB (pp (pp (xr l1) (xw aG)) (ww bB (tt k0 nn))))))))))))))))))))))))))))))))) (fun k0=>(lr 137 3 [1,1,1,1,1,1,1,0] 1 32 [(6,(.dat v9.length (Zz v9))),(7,(.bool (decide ((v9.length:Int)≤400))))] (sl z8x 20 [] ⟨[],[0],[some [6,7]],[]⟩ ⟨[(6,.frz v9.length v9.length (Zz v9) (Zz v9))],[],[]⟩ [false] (pp (xZ (z5d 6 6 0 v9.length v9.length (Zz v9)) v9.length (Zz v9)) (pp (xL v9.length v9.length) (pp (xS v9.length (Zz v9) (Zz v9)) (pp (fl v9 nn) (tt k0 nn)))))))))
 | .h1 v9 v10 v11 v12 v13 v15=>(lb (fun k0=>(lo fun o0=>(lo fun o1=>(lo fun o2=>(lo fun o3=>(sl z8x 20 [] ⟨[2],[],u2h,u2j⟩ ⟨[(9,.len (y5x v9 v13 v15 l1 l2 v12).length)],[.rowed 6 (y5x v9 v13 v15 l1 l2 v12).length (Zz (y5x v9 v13 v15 l1 l2 v12))],[]⟩ [true] (pp (xL (v9.length+1) (y5x v9 v13 v15 l1 l2 v12).length) (pp (xL (v9.length+1) (y5x v9 v13 v15 l1 l2 v12).length) (pp (xS (v9.length+1) (v7v v9 v13 v15 l1 l2 v12) (Zz (y5x v9 v13 v15 l1 l2 v12))) (pp (pp (xF (v7v v9 v13 v15 l1 l2 v12)) nn) (ww o3 (ww o2 (ww o1 (ww o1 (ww o0 (ww o1 (ww o1 (tt k0 nn)))))))))))))))))) (fun k0=>(sl z8x 17 [] ⟨[0],[],u2i,u2k⟩ ⟨[],[],[]⟩ [false] (pp (fl v9 nn) (tt k0 nn)))))
 | .h2 v9 v10 v11 v12 v14=>(lb (fun k0=>(lo fun o0=>(lo fun o1=>(lo fun o2=>(sl z8x 32 [] ⟨[0],[],rjsN2,rjsM2⟩ ⟨[(9,.len (y5y v9 v14 l1 l2 v12).length)],[.rowed 6 (y5y v9 v14 l1 l2 v12).length (Zz (y5y v9 v14 l1 l2 v12))],[]⟩ [true] (pp (xL v9.length (y5y v9 v14 l1 l2 v12).length) (pp (xL v9.length (y5y v9 v14 l1 l2 v12).length) (pp (xS v9.length (Xb (Zz v9) (0+(tn v14)) 5 [(ii (rd (Ws (cvT l1) (cvT l2)) (tn (wr (v12+1)))))]) (Zz (y5y v9 v14 l1 l2 v12))) (pp (pp (xF (Xb (Zz v9) (0+(tn v14)) 5 [(ii (rd (Ws (cvT l1) (cvT l2)) (tn (wr (v12+1)))))])) nn) (ww o2 (ww o1 (ww o0 (tt k0 nn))))))))))))) (fun k0=>(sl z8x 17 [] ⟨[0],[],u2i,u2k⟩ ⟨[],[],[]⟩ [false] (pp (fl v9 nn) (tt k0 nn)))))
theorem x4p (x0:Int) (l1:List R6) (l2:List R6):Xj prog (Zy prog 72) (rjsC x0 l1 l2) (Ze prog 72 [(.int .i64 x0),(.dat l1.length (Zz l1)),(.dat l2.length (Zz l2))] true []) (y0s x0 l1 l2):=(lo fun o0=>(sl z8x 31 [(67,6,Zz ([]:List R6))] ⟨[0],[],u2i,u2k⟩ ⟨[(9,.grow 0 6),(10,.list 0 (Zz ([]:List R4)))],[],[]⟩ [] (pp (fl ([]:List R6) nn) (pp (pp (xr l1) (pp (xr l2) (xw o0))) nn))))
theorem v2p (x0:Int) (l1:List R6) (l2:List R6) (n:Nat) (vs:List AVal) (h:Yv (Vm x0 l1 l2) n (y0s x0 l1 l2)=.ret vs):Ky prog (Zy prog 72) (Ze prog 72 [(.int .i64 x0),(.dat l1.length (Zz l1)),(.dat l2.length (Zz l2))] true []) vs:=by have:=Zr (w1v x0 l1 l2) n _ (x4p x0 l1 l2);rwa [h] at this
end Go.Am
namespace Go.Am
open Go.Proofs.Tryz
open Go.Proofs
theorem Jo (l m:List R6):(Ws l m).length ≤2*l.length+2*m.length:=by refine Nat.le_trans (z4q _) ?_;rw [List.length_append,Qi,Qi];omega
theorem z1a (l:List R6) (z:Int):(atV l z).length ≤l.length:=by unfold atV;rw [List.length_map];exact List.length_filter_le _ _
def v1i (out:List R6) (first:Nat) (z:Int):List R6:=out.take first++(out.drop first).map fun r=>⟨r.a,r.b,r.c,r.d,r.e,z⟩
def u3b (z z':Int) (s:List R4):List R6:=s.map fun p=>⟨p.a,p.b,z,p.c,p.d,z'⟩
section
variable (kind:Int) (l m:List R6)
def x0f (z:Int):List R4:=joV kind (atV l z) (atV m z)
def z9u (z:Int):Bool:=decide (400<(x0f kind l m z).length)||(decide (400<(joV 2 (atV l z) []).length)||decide (400<(joV 2 (atV m z) []).length))
def jsF :Nat→Nat→List R6→List R4→Nat→Option (List R6)
 | 0,_,out,_,_=>some out
 | k+1,i,out,last,first=>
  bif z9u kind l m (rd (Ws l m) i) then none
  else bif decide (0<i)&&Um (x0f kind l m (rd (Ws l m) i)) last then jsF k (i+1) (v1i out first (rd (Ws l m) (i+1))) last first
  else jsF k (i+1) (out++u3b (rd (Ws l m) i) (rd (Ws l m) (i+1)) (x0f kind l m (rd (Ws l m) i))) (x0f kind l m (rd (Ws l m) i)) out.length
def jsO :Option (List R6):=jsF kind l m ((Ws l m).length - 1) 0 [] [] 0
def x6c :Option (List R6)→List AVal
 | none=>[.nils,.bool false]
 | some out=>[.dat out.length (Zz out),.bool (decide ((out.length:Int)≤400))]
def z5b :List R6:=(jsO kind l m).getD []
def x1z :Bool:=match jsO kind l m with
 | none=>false
 | some out=>decide ((out.length:Int)≤400)
end
def y1e (_:Int) (l m:List R6):Bool:=decide (l.length≤5000∧m.length≤5000)
section
variable (kind:Int) (l m:List R6) (hl:l.length≤5000) (hm:m.length≤5000)
include hl hm
theorem v7u (last:List R4) (first:Int) (i:Nat) (hi:i+1<(Ws l m).length) (s:List R4) (hs:s.length≤1000000): ∀(k j:Nat) (out:List R6),j+k=s.length→out.length≤10000000000+j→
  ∃n,∀N,Yv (Vm kind l m) (N+n) (.to (.h1 out last first (i:Int) s (j:Int)))=Yv (Vm kind l m) N (.to (.h0 (out++u3b (rd (Ws l m) i) (rd (Ws l m) (i+1)) (s.drop j)) last first ((i+1:Nat):Int)))
 | 0,j,out,h,ho=>by have hx:=Jo l m;refine ⟨1,fun N=> ?_⟩;rw [List.drop_eq_nil_of_le (by omega),Zv];simp (disch:=omega) only [Vm,Za,Zq,Yw,Zk,Zx,cond_false,u3b,List.map_nil,List.append_nil]
 | k+1,j,out,h,ho=>by
  have hx:=Jo l m;obtain ⟨n,hn⟩:=v7u last first i hi s hs k (j+1) (out++u3b (rd (Ws l m) i) (rd (Ws l m) (i+1)) [rd s j]) (by omega) (by simp [u3b];omega)
  refine ⟨n+1,fun N=> ?_⟩;have:=hn N;rw [Yp (show j<s.length by omega),←Nat.add_assoc,Zv];simp (disch:=omega) only [Vm,Za,Zq,Zt,Yz,Yg,Yk,Zi,Zk,Zx,Yq,Zj,Nat.zero_add,decide_true,Bool.and_true,Bool.true_and,cond_true];rw [List.append_assoc] at this;exact this
omit hl hm in
theorem v5l (out:List R6) (j:Nat) (x:Int) (h:j<out.length):v1i (out.set j ⟨(rd out j).a,(rd out j).b,(rd out j).c,(rd out j).d,(rd out j).e,x⟩) (j+1) x=v1i out j x:=by
 unfold v1i;rw [Yp h,List.map_cons];have e1:(out.set j ⟨(rd out j).a,(rd out j).b,(rd out j).c,(rd out j).d,(rd out j).e,x⟩).take (j+1)=out.take j++[⟨(rd out j).a,(rd out j).b,(rd out j).c,(rd out j).d,(rd out j).e,x⟩]:=by
  apply List.ext_getElem
  ·simp;omega
  ·intro n h1 h2;simp only [List.getElem_take,List.getElem_set];by_cases e:j=n
   ·subst e;rw [if_pos rfl,List.getElem_append_right (by simp only [List.length_take];omega)];simp
   ·rw [if_neg e,List.getElem_append_left (by simp at h1 ⊢;omega),List.getElem_take]
 have e2:(out.set j ⟨(rd out j).a,(rd out j).b,(rd out j).c,(rd out j).d,(rd out j).e,x⟩).drop (j+1)=out.drop (j+1):=by rw [List.drop_set];rw [if_pos (by omega)]
 rw [e1,e2,List.append_assoc];rfl
theorem v7t (last:List R4) (first:Int) (i:Nat) (hi:i+1<(Ws l m).length): ∀(k j:Nat) (out:List R6),j+k=out.length→out.length≤10000000000→
  ∃n,∀N,Yv (Vm kind l m) (N+n) (.to (.h2 out last first (i:Int) (j:Int)))=Yv (Vm kind l m) N (.to (.h0 (v1i out j (rd (Ws l m) (i+1))) last first ((i+1:Nat):Int)))
 | 0,j,out,h,ho=>by
  have hx:=Jo l m;refine ⟨1,fun N=> ?_⟩;have e:v1i out j (rd (Ws l m) (i+1))=out:=by unfold v1i;rw [List.drop_eq_nil_of_le (by omega),List.map_nil,List.append_nil,List.take_of_length_le (by omega)]
  rw [e,Zv];simp (disch:=omega) only [Vm,Za,Zq,Yw,Zk,Zx,cond_false]
 | k+1,j,out,h,ho=>by
  have hx:=Jo l m;obtain ⟨n,hn⟩:=v7t last first i hi k (j+1) (out.set j ⟨(rd out j).a,(rd out j).b,(rd out j).c,(rd out j).d,(rd out j).e,rd (Ws l m) (i+1)⟩) (by simp;omega) (by simpa using ho)
  refine ⟨n+1,fun N=> ?_⟩;have:=hn N;rw [v5l out j _ (by omega)] at this;rw [←Nat.add_assoc,Zv];simp (disch:=omega) only [Vm,Za,Zq,Zt,Yz,Yu,Yg,Yk,Zi,Zk,Zx,Yq,Zj,Nat.zero_add,decide_true,Bool.and_true,Bool.true_and,cond_true];exact this
theorem w6f : ∀(k i:Nat) (out:List R6) (last:List R4) (first:Nat),k=(Ws l m).length - 1 - i→i≤(Ws l m).length →out.length≤i*400→last.length≤400→first≤out.length→
  ∃n,Yv (Vm kind l m) n (.to (.h0 out last (first:Int) (i:Int)))=.ret (x6c (jsF kind l m k i out last first))
 | 0,i,out,last,first,h,hi,ho,hla,hf=>by have hx:=Jo l m;refine ⟨1,?_⟩;rw [Zv];simp (disch:=omega) only [Vm,Za,Zq,Yw,Zk,Zx,cond_false,Zm,jsF,x6c]
 | k+1,i,out,last,first,h,hi,ho,hla,hf=>by
  have hx:=Jo l m;have hi1:i+1<(Ws l m).length :=by omega
  have hbig:i*400≤20000*400:=Nat.mul_le_mul_right _ (by omega);have a1:=fun z=>z1a l z;have a2:=fun z=>z1a m z;have w1: ∀z,z4d l z=true:=fun z=>decide_eq_true (by omega);have w2: ∀z,z4d m z=true:=fun z=>decide_eq_true (by omega);have w3: ∀k z,z0f k (atV l z) (atV m z)=true:=fun k z=>decide_eq_true (by have:=a1 z;have:=a2 z;omega);have w4: ∀k z,z0f k (atV l z) ([]:List R4)=true:=fun k z=>decide_eq_true (by have:=a1 z;simp;omega);have w5: ∀k z,z0f k (atV m z) ([]:List R4)=true:=fun k z=>decide_eq_true (by have:=a2 z;simp;omega);unfold jsF;have eA:x0f kind l m (rd (Ws l m) i)=joV kind (atV l (rd (Ws l m) i)) (atV m (rd (Ws l m) i)):=rfl;by_cases c1:400<(x0f kind l m (rd (Ws l m) i)).length
  ·refine ⟨1,?_⟩;have hb:z9u kind l m (rd (Ws l m) i)=true:=by unfold z9u;rw [decide_eq_true c1];rfl
   rw [hb,cond_true,Zv];rw [eA] at c1;simp (disch:=omega) only [Vm,Za,Zq,Zt,Ye,Yz,Zk,Zx,Zj,w1,w2,w3,w4,w5,Bool.and_true,cond_true,Zm,x6c]
  by_cases c2:400<(joV 2 (atV l (rd (Ws l m) i)) []).length
  ·refine ⟨1,?_⟩;have hb:z9u kind l m (rd (Ws l m) i)=true:=by unfold z9u;rw [decide_eq_true c2,Bool.true_or,Bool.or_true]
   rw [hb,cond_true,Zv];rw [eA] at c1;simp (disch:=omega) only [Vm,Za,Zq,Zt,Ye,Xv,Yz,Zk,Zx,Zj,w1,w2,w3,w4,w5,Bool.and_true,cond_true,cond_false,Zm,x6c]
  by_cases c3:400<(joV 2 (atV m (rd (Ws l m) i)) []).length
  ·refine ⟨1,?_⟩;have hb:z9u kind l m (rd (Ws l m) i)=true:=by unfold z9u;rw [decide_eq_true c3,Bool.or_true,Bool.or_true]
   rw [hb,cond_true,Zv];rw [eA] at c1;simp (disch:=omega) only [Vm,Za,Zq,Zt,Ye,Xv,Yz,Zk,Zx,Zj,w1,w2,w3,w4,w5,Bool.and_true,cond_true,cond_false,Zm,x6c]
  have hb:z9u kind l m (rd (Ws l m) i)=false:=by unfold z9u;rw [decide_eq_false c1,decide_eq_false c2,decide_eq_false c3];rfl
  rw [hb,cond_false];have w6:Wm (joV kind (atV l (rd (Ws l m) i)) (atV m (rd (Ws l m) i))) last=true:=decide_eq_true (by rw [←eA];omega);rcases Yf (decide (0<i)&&Um (x0f kind l m (rd (Ws l m) i)) last) with q | q
  ·obtain ⟨n3,h3⟩:=v7t kind l m hl hm last first i hi1 (out.length - first) first out (by omega) (by omega)
   obtain ⟨n0,h0⟩:=w6f k (i+1) (v1i out first (rd (Ws l m) (i+1))) last first (by omega) (by omega) (by simp [v1i];omega) hla (by simp [v1i];omega)
   refine ⟨n0+n3+1,?_⟩;rw [q,cond_true,Zv];simp only [Bool.and_eq_true,decide_eq_true_eq] at q;obtain ⟨q1,q2⟩:=q;rw [eA] at c1 q2;simp (disch:=omega) only [Vm,Za,Zq,Zt,Ye,Xv,Yz,Zk,Zx,Zj,w1,w2,w3,w4,w5,w6,q2,Bool.and_true,cond_true,cond_false];rw [h3 n0,h0]
  ·obtain ⟨n2,h2⟩:=v7u kind l m hl hm (x0f kind l m (rd (Ws l m) i)) (out.length:Int) i hi1 (x0f kind l m (rd (Ws l m) i)) (by omega) (x0f kind l m (rd (Ws l m) i)).length 0 out (Nat.zero_add _) (by omega);obtain ⟨n0,h0⟩:=w6f k (i+1) (out++u3b (rd (Ws l m) i) (rd (Ws l m) (i+1)) (x0f kind l m (rd (Ws l m) i))) (x0f kind l m (rd (Ws l m) i)) out.length (by omega) (by omega) (by simp [u3b];omega) (by omega) (by simp);refine ⟨n0+n2+1,?_⟩;rw [q,cond_false,Zv];have h2':=h2 n0;simp only [List.drop_zero,z5l] at h2';have c1':=c1;rw [eA] at c1';by_cases hi0:0<i
   ·rw [decide_eq_true hi0,Bool.true_and,eA] at q;simp (disch:=omega) only [Vm,Za,Zq,Zt,Ye,Xv,Yz,Zk,Zx,Zj,w1,w2,w3,w4,w5,w6,q,Bool.and_true,cond_true,cond_false];rw [←h0];exact h2'
   ·simp (disch:=omega) only [Vm,Za,Zq,Zt,Ye,Xv,Yz,Zk,Zx,Zj,w1,w2,w3,w4,w5,w6,Bool.and_true,cond_true,cond_false];rw [←h0];exact h2'
end
theorem u2g (kind:Int) (l m:List R6) (h:y1e kind l m=true): ∃N,Yv (Vm kind l m) N (y0s kind l m)=.ret (x6c (jsO kind l m)):=by obtain ⟨hl,hm⟩:=of_decide_eq_true h;obtain ⟨N,hN⟩:=w6f kind l m hl hm ((Ws l m).length - 1) 0 [] [] 0 rfl (Nat.zero_le _) (Nat.zero_le _) (Nat.zero_le _) (Nat.le_refl _);refine ⟨N,?_⟩;have w1:z7b l m=true:=decide_eq_true ⟨by omega,by omega⟩;simp only [y0s,Za,Zq,w1,cond_true];exact hN
def fJs :List AVal→Option (AVal×Bool)
 | [.int .i64 x0,a1,a2]=>match asL R6 a1,asL R6 a2 with
  | some (L1,g1,n1),some (L2,g2,n2)=>some (.tup [.dat (z5b x0 L1 L2).length (Zz (z5b x0 L1 L2)),.bool (x1z x0 L1 L2)],isT R6 n1 g1&&(isT R6 n2 g2&&(y1e x0 L1 L2)))
  | _,_=>none
 | _=>none
theorem fJs_ok {S:Specs} (hS:Zu prog S):Zu prog (S.with v9c fJs):=by
 refine w9m hS (by kernel_rfl) fun args v h=> ?_;unfold fJs at h;split at h
 ·rename_i x0 a1 a2;split at h
  ·rename_i L1 g1 n1 L2 g2 n2 e1 e2;simp only [Option.some.injEq,Prod.mk.injEq,Bool.and_eq_true] at h;obtain ⟨rfl,ho1,ho2,hw⟩:=h;obtain ⟨N,hN⟩:=u2g x0 L1 L2 hw;refine ⟨_,x6c (jsO x0 L1 L2),(.cons (.refl _) (.cons (asL_le e1 ho1) (.cons (asL_le e2 ho2) .nil))),?_,v2p x0 L1 L2 N _ hN,3,?_⟩
   ·unfold z5b x1z;cases jsO x0 L1 L2 with
    | none=>exact fun ρ u hu=>z4i (.cons (z4y R6) (RLe.refl _)) ρ u hu
    | some out=>exact fun ρ u hu=>hu
   ·cases jsO x0 L1 L2 <;> rfl
  ·cases h
 ·cases h
def T4 :Specs:=T3.with v9c fJs
theorem T4_ok :Zu prog T4:=fJs_ok z8x
end Go.Am
namespace Go.Am
open Go.Proofs.Tryz
open Go.Proofs Go.Sort Go.Shelf Go.RowKit Go.Lib
def u6g (x:E3):List Value:=y7i x.1
theorem u6f (l:List R3) (h:z9w l=true):Go.Sort.flatK u6g 3 (x0g l h).toArray =Go.Sort.flatK y7i 3 l.toArray:=by
 have hl:=Js l h;unfold Go.Sort.flatK;rw [show (x0g l h).toArray.size =l.toArray.size by simpa using hl];apply Array.ext
 ·simp
 ·intro t h1 h2;simp only [Array.getElem_map,Array.getElem_range];have ht:t<l.length*3:=by simpa using h1
  have hq:t / 3<l.length:=by omega
  congr 1
  rw [getElem!_pos (x0g l h).toArray (t / 3) (by simpa [hl] using hq),getElem!_pos l.toArray (t / 3) (by simpa using hq)];unfold u6g
  congr 1
  have:=y1o l h;have e:=congrArg (fun z:List R3=>z[t / 3]?) this;simp only [List.getElem?_map] at e;rw [List.getElem?_eq_getElem (by rw [hl];exact hq),List.getElem?_eq_getElem hq] at e
  simpa using e
theorem v5e (d:Array E3):Go.Sort.flatK u6g 3 d=Go.Sort.flatK y7i 3 (d.toList.map Subtype.val).toArray :=by
 unfold Go.Sort.flatK;rw [show d.size=(d.toList.map Subtype.val).toArray.size by simp];apply Array.ext
 ·simp
 ·intro t h1 h2;simp only [Array.getElem_map,Array.getElem_range];have ht:t<d.size*3:=by simpa using h1
  have hq:t / 3<d.size:=by omega
  congr 1
  rw [getElem!_pos d (t / 3) hq,getElem!_pos (d.toList.map Subtype.val).toArray (t / 3) (by simpa using hq)];simp [u6g]
theorem z6n (l:List R3):y9d l.length (Qs (cvT l)).length =true:=Wi (by
 rw [Za];by_cases h:z9w l=true
 ·exact (Kv l h).1.length_eq.symm
 ·unfold Qs;rw [dif_neg h])
theorem isAgg3 : ∀w,(isAgg (Tryz.sortEnd_ren.t 24)).run prog w=.ok true w:=fun w=>by rfl
theorem size3 : ∀w,(Go.sizeOf (Tryz.sortEnd_ren.t 24)).run prog w=.ok 3 w:=fun w=>by rfl
theorem w5k :x3h prog v8v (w0f R3 Qs z9w x9k):=by
 refine w9x (fun L=> ?_) (fun blk off cap L w hb hH eI hsz=> ?_) fun p cap fv w=>AnyF.slices_SortFunc_none Tryz.sortEnd p cap fv w
 ·by_cases h:z9w L=true
  ·exact (Kv L h).1.length_eq
  ·unfold Qs;rw [dif_neg h]
 ·have eg: ∀args w,(callFunc 201 args).run prog w=.ok (.enter 201 args) w:=enters_of Tryz.func201 (by kernel_rfl) rfl;have hcmp:CmpLays prog 201 #[] u6g 3 cf3 blk off (x0g L hb).toArray.size w:=fun m os dk _ x y=>by have hx:=of_decide_eq_true x.2;have hy:=of_decide_eq_true y.2;exact Tryz.cmpEnd x.1.a x.1.b x.1.c y.1.a y.1.b y.1.c hx hy _
  have hH':HoldsK u6g 3 w blk off (x0g L hb).toArray :=by unfold HoldsK;rw [u6f L hb];exact hH
  have hcon:=AnyQ.slices_SortFunc_eq Tryz.sortEnd 3 isAgg3 size3 u6g (fun x=>y3p x.1) (fun x v hv=>by
   obtain ⟨a,ha,rfl⟩:=List.mem_map.1 hv;have:x6e a=true:=List.all_eq_true.1 (u0l.num x.1) a ha;cases a <;> first | rfl | (simp [x6e] at this;done)) cf3 swo3 201 #[] blk off cap (x0g L hb).toArray w eg hcmp hH' eI (by simpa [Js] using hsz)
  have hs:(x0g L hb).toArray.size =L.length:=by simp [Js]
  rw [hs] at hcon;refine Calls.mono hcon fun e w' ⟨he,n,os,hw⟩=>⟨he,n,os,?_⟩
  rw [hw];unfold sortWorldK putRowK;rw [v5e];unfold Qs;rw [dif_pos hb];rfl
def Yh (zs:List Int):List Int:=zs.mergeSort fun x y=>decide (x≤y)
theorem w5j :x3h prog nSort (fRow Yh):=
 u6h (fun zs=>List.length_mergeSort zs) (fun blk off cap zs w hH hb hz=>Tryz.slices_Sort_int blk off cap zs w hH hb hz) fun p cap w=>Tryz.slices_Sort_int_none p cap w
def Wz (zs:List Int):List Int:=compact zs++List.replicate (zs.length - (compact zs).length) 0
def w4n (zs:List Int):Nat:=(compact zs).length
theorem Uy (zs:List Int):(Wz zs).length =zs.length:=by have:=compact_length_le zs;simp [Wz];omega
theorem z0w (n:Nat) (c:Nat→Int):y9d n (Wz (Zc n c)).length =true:=Wi (by rw [Uy];simp [Zc])
theorem w8x (w:World):grow w #[]=w:=by simp [grow]
theorem x7i :x3h prog x9l (fCut Wz w4n):=
 u6i (fun zs=>by have:=compact_length_le zs;simp [Wz];omega) (fun zs=>compact_length_le zs)
  (fun blk off cap zs w hH hb hz dC=>(Tryz.slices_Compact_int blk off cap zs w hH (by omega) dC).mono fun e w' ⟨he,q,hw⟩=>⟨he,q, #[],by rw [hw,w8x];rfl⟩)
  fun p cap w=>Tryz.slices_Compact_int_empty p cap w
def T5 :Specs:=((T4.withE v8v (w0f R3 Qs z9w x9k)).withE nSort (fRow Yh)).withE x9l (fCut Wz w4n)
theorem Qz :Zu prog T5:=y7t (y7t (y7t T4_ok (by kernel_rfl) w5k) (by kernel_rfl) w5j) (by kernel_rfl) x7i
end Go.Am
namespace Go.Am
open Go.Proofs.Tryz
open Go.Proofs
-- h2: index into an array (choices [true, true, false, false])
-- h2: index into an array (choices [true, false, true, false, false])
-- h2: index into an array (choices [true, false, false, true, true, false, false])
-- h2: index into an array (choices [true, false, false, true, false, false, false])
-- h2: index into an array (choices [true, false, false, false, false, false])
inductive spmS where
 | h0 (v8:Int)
 | h1 (v3:List R3) (v17:Int)
 | h2 (v5:List R3) (v6:Int) (v7:Int) (aA:Int) (aI:Int) (aN:Int) (aF:Bool) (aC:List R2)
abbrev Vf (aC:List R2) (aN:Int) (v5:List R3) (v7:Int):=(aC++[(R2.mk aN (rd v5 (0+(tn v7))).a)])
abbrev z9d (aC:List R2) (aN:Int) (v5:List R3) (v7:Int):=(Zh (Zz aC) 0 aC.length 2 [(ii aN),(ii (rd v5 (0+(tn v7))).a)])
abbrev y5m (v3:List R3) (l0:List R2) (v17:Int):=(v3++[(R3.mk (rd l0 (tn v17)).a 0 1),(R3.mk (rd l0 (tn v17)).b 0 (-1))])
def v6q (l0:List R2):AFr:=⟨⟨11,0,true⟩,(Up prog 157 [1,1,1,0] 1),(Zd prog 157 [1,1,1,0] 1),none,(Zy prog 15),Ya [(9,(.dat l0.length (Zz l0)))]⟩
def spmC (l0:List R2):spmS→Cfg
 | .h0 v8=>⟨⟨19,0,true⟩,none,(Zd prog 195 [1,0,1,0,0] 0),none,(Zy prog 5),⟨Ya [(0,(.dat l0.length (Zz l0))),(1,(.fn 184 [])),(7,(ii (l0.length:Int))),(8,(ii v8))],Uq [] 0,0,[],true⟩,[⟨⟨9,0,true⟩,(Up prog 183 [1,0] 2),(Zd prog 183 [1,0] 1),none,(Zy prog 5),Ya [(5,(.dat l0.length (Zz l0))),(6,(.fn 184 []))]⟩,⟨⟨11,0,true⟩,(Up prog 157 [1,1,0,0] 1),(Zd prog 157 [1,1,0,0] 1),none,(Zy prog 15),Ya [(0,(.dat l0.length (Zz l0))),(7,(.dat l0.length (Zz l0)))]⟩],.leaf⟩
 | .h1 v3 v17=>⟨⟨38,0,true⟩,none,(Zd prog 197 [1,1,0,1,0,0,1,1,0,0,1,1,0,0] 0),none,(Zy prog 3),⟨Ya [(3,(.sla 7 3 0 v3.length (.un 3))),(4,(ii 0)),(8,(.sl 0 0 2 (.un 1))),(9,(ii 2)),(10,(ii 0)),(15,(.dat l0.length (Zz l0))),(16,(ii (l0.length:Int))),(17,(ii v17))],Uq [⟨[(.dat l0.length (Zz l0)),.nils],180,none⟩,⟨[(.fn 187 [])],213,none⟩,⟨[(ii 0),(ii 0)],142,none⟩,⟨[.nils],180,none⟩,⟨[(ii 0)],3,none⟩,⟨[(.bool false)],4,none⟩,⟨[(.fn 196 [(.ptr 5 0),(.ptr 4 0),(.ptr 3 0)])],242,none⟩,⟨rows v3.length (Zz v3),246,some ⟨3,v3.length,(Zz v3)⟩⟩] 0,8,[],true⟩,[⟨⟨42,0,true⟩,(Up prog 186 [1,1,1,1,1,0,0] 3),(Zd prog 186 [1,1,1,1,1,0,0] 1),none,(Zy prog 8),Ya [(5,(.ptr 1 0)),(6,.nils),(7,(.ptr 2 0)),(8,(.ptr 3 0)),(9,(.ptr 4 0)),(10,(.ptr 5 0)),(11,(.ptr 6 0)),(16,(.sl 0 0 2 (.un 1)))]⟩,(v6q l0)],.leaf⟩
 | .h2 v5 v6 v7 aA aI aN aF aC=>⟨⟨16,0,true⟩,none,(Zd prog 205 [1,0,0] 0),none,[],⟨Ya [(0,(.yld 0)),(5,(.sla 7 3 0 v5.length (.un 3))),(6,(ii v6)),(7,(ii v7))],z9j [(1,⟨[(.fn 187 [])],213,none⟩),(2,⟨[(ii aA),(ii aI)],142,none⟩),(3,⟨[(ii aN)],3,none⟩),(4,⟨[(.bool aF)],4,none⟩),(5,⟨[(.fn 196 [(.ptr 4 0),(.ptr 3 0),(.ptr 6 0)])],242,none⟩),(6,⟨[(.sla 8 2 0 aC.length (.un 2))],180,none⟩),(7,⟨rows v5.length (Zz v5),246,some ⟨3,v5.length,(Zz v5)⟩⟩),(8,⟨rows aC.length (Zz aC),183,some ⟨2,aC.length,(Zz aC)⟩⟩)],9,[],true⟩,[⟨⟨42,0,true⟩,none,(.inRangeFunc 0::(Zd prog 186 [1,1,1,1,1,0,1,0] 1)),none,(Zy prog 8),Ya [(6,.nils),(8,(.ptr 6 0))]⟩,(v6q l0)],(y4p [(0,⟨.ready,none,42,Ya [(5,(.ptr 1 0)),(7,(.ptr 2 0)),(9,(.ptr 3 0)),(10,(.ptr 4 0)),(11,(.ptr 5 0))],[18],(Vy prog 186 [1,1,1,1,1,0,1,0,0]),(Vy prog 186 [1,1,1,1,1,0,1,0,1])⟩)])⟩
def spmN0 :List (Option (List Nat)):=[some [0,1,7,8],some [5,6],some [0,7]]
def spmM0 :List (Option (List Nat)):=[]
def w5f :List (Option (List Nat)):=[some [3,4,8,9,10,15,16,17],some [5,6,7,8,9,10,11,16],some [9]]
def w5g :List (Option (List Nat)):=[]
def y1y :List (Option (List Nat)):=[some [0,5,6,7],some [6,8],some [9]]
def y1z :List (Option (List Nat)):=[some [5,7,9,10,11],none,none,none,none,none,none,none,none]
def Vr (l0:List R2):spmS→Xf spmS
 | .h0 v8=>(bif (decide (v8<(l0.length:Int))) then (bif ((decide (0≤v8∧v8<(l0.length:Int)))&&true) then (bif (decide ((rd l0 v8.toNat).a <(rd l0 v8.toNat).b)) then (bif (decide ((rd l0 v8.toNat).a ≥(-1000000))) then (bif (!(decide ((rd l0 v8.toNat).b ≤1000000))) then (bif (decide (v8≥0)) then (.ret [.nils,(.int .i64 8)]) else (.to (.h1 ([]:List R3) 0))) else (.to (.h0 (IntKind.wrap .i64 (v8+1))))) else (bif (decide (v8≥0)) then (.ret [.nils,(.int .i64 8)]) else (.to (.h1 ([]:List R3) 0)))) else (bif (decide (v8≥0)) then (.ret [.nils,(.int .i64 8)]) else (.to (.h1 ([]:List R3) 0)))) else .stuck) else (.to (.h1 ([]:List R3) 0)))
 | .h1 v3 v17=>(bif (decide (v17<(l0.length:Int))) then (bif ((decide (0≤v17∧v17<(l0.length:Int)))&&true) then (bif (Nat.beq 3 3&&((decide (0+v3.length=v3.length))&&decide ((v3.length+2+1)*(24+1)≤Ur))) then (.to (.h1 (v3++[(R3.mk (rd l0 v17.toNat).a 0 1),(R3.mk (rd l0 v17.toNat).b 0 (-1))]) (IntKind.wrap .i64 (v17+1)))) else .stuck) else .stuck) else (bif (z9w (cvT v3)) then (bif (decide (v3.length<4611686018427387904)) then (bif (decide (v3.length=v3.length)) then (.to (.h2 (Qs (cvT v3)) (v3.length:Int) 0 0 0 0 false ([]:List R2))) else .stuck) else .stuck) else .stuck))
 | .h2 v5 v6 v7 aA aI aN aF aC=>(bif (decide (v7<v6)) then (bif ((decide (0≤v7∧v7<(v5.length:Int)))&&true) then (bif (decide ((0+v7.toNat)<v5.length)) then (bif (!aF) then (bif (decide ((rd v5 (0+v7.toNat)).b =Int.ofNat 0)) then (.to (.h2 v5 v6 (IntKind.wrap .i64 (v7+1)) (IntKind.wrap .i64 (aA+(rd v5 (0+v7.toNat)).c)) aI (rd v5 (0+v7.toNat)).a (w0a (decide ((IntKind.wrap .i64 (aA+(rd v5 (0+v7.toNat)).c))>0)) (decide (aI>0))) aC)) else (bif (decide ((rd v5 (0+v7.toNat)).b =Int.ofNat 1)) then (.to (.h2 v5 v6 (IntKind.wrap .i64 (v7+1)) aA (IntKind.wrap .i64 (aI+(rd v5 (0+v7.toNat)).c)) (rd v5 (0+v7.toNat)).a (w0a (decide (aA>0)) (decide ((IntKind.wrap .i64 (aI+(rd v5 (0+v7.toNat)).c))>0))) aC)) else .stuck)) else (bif (aN == (rd v5 (0+v7.toNat)).a) then (bif (decide ((rd v5 (0+v7.toNat)).b =Int.ofNat 0)) then (.to (.h2 v5 v6 (IntKind.wrap .i64 (v7+1)) (IntKind.wrap .i64 (aA+(rd v5 (0+v7.toNat)).c)) aI (rd v5 (0+v7.toNat)).a (w0a (decide ((IntKind.wrap .i64 (aA+(rd v5 (0+v7.toNat)).c))>0)) (decide (aI>0))) aC)) else (bif (decide ((rd v5 (0+v7.toNat)).b =Int.ofNat 1)) then (.to (.h2 v5 v6 (IntKind.wrap .i64 (v7+1)) aA (IntKind.wrap .i64 (aI+(rd v5 (0+v7.toNat)).c)) (rd v5 (0+v7.toNat)).a (w0a (decide (aA>0)) (decide ((IntKind.wrap .i64 (aI+(rd v5 (0+v7.toNat)).c))>0))) aC)) else .stuck)) else (bif (decide ((aC.length:Int)>0)) then (bif ((decide (0≤(IntKind.wrap .i64 ((aC.length:Int) - 1))∧(IntKind.wrap .i64 ((aC.length:Int) - 1))<(aC.length:Int)))&&true) then (bif (decide ((0+(Int.toNat (IntKind.wrap .i64 ((aC.length:Int) - 1))))<aC.length)) then (bif ((rd aC (0+(Int.toNat (IntKind.wrap .i64 ((aC.length:Int) - 1))))).b == aN) then (bif (decide ((rd v5 (0+v7.toNat)).b =Int.ofNat 0)) then (.to (.h2 v5 v6 (IntKind.wrap .i64 (v7+1)) (IntKind.wrap .i64 (aA+(rd v5 (0+v7.toNat)).c)) aI (rd v5 (0+v7.toNat)).a (w0a (decide ((IntKind.wrap .i64 (aA+(rd v5 (0+v7.toNat)).c))>0)) (decide (aI>0))) (aC.set (0+(Int.toNat (IntKind.wrap .i64 ((aC.length:Int) - 1)))) (R2.mk (rd aC (0+(Int.toNat (IntKind.wrap .i64 ((aC.length:Int) - 1))))).a (rd v5 (0+v7.toNat)).a)))) else (bif (decide ((rd v5 (0+v7.toNat)).b =Int.ofNat 1)) then (.to (.h2 v5 v6 (IntKind.wrap .i64 (v7+1)) aA (IntKind.wrap .i64 (aI+(rd v5 (0+v7.toNat)).c)) (rd v5 (0+v7.toNat)).a (w0a (decide (aA>0)) (decide ((IntKind.wrap .i64 (aI+(rd v5 (0+v7.toNat)).c))>0))) (aC.set (0+(Int.toNat (IntKind.wrap .i64 ((aC.length:Int) - 1)))) (R2.mk (rd aC (0+(Int.toNat (IntKind.wrap .i64 ((aC.length:Int) - 1))))).a (rd v5 (0+v7.toNat)).a)))) else .stuck)) else (bif (Nat.beq 2 2&&((decide (0+aC.length=aC.length))&&decide ((aC.length+1+1)*(16+1)≤Ur))) then (bif (decide ((rd v5 (0+v7.toNat)).b =Int.ofNat 0)) then (.to (.h2 v5 v6 (IntKind.wrap .i64 (v7+1)) (IntKind.wrap .i64 (aA+(rd v5 (0+v7.toNat)).c)) aI (rd v5 (0+v7.toNat)).a (w0a (decide ((IntKind.wrap .i64 (aA+(rd v5 (0+v7.toNat)).c))>0)) (decide (aI>0))) (aC++[(R2.mk aN (rd v5 (0+v7.toNat)).a)]))) else (bif (decide ((rd v5 (0+v7.toNat)).b =Int.ofNat 1)) then (.to (.h2 v5 v6 (IntKind.wrap .i64 (v7+1)) aA (IntKind.wrap .i64 (aI+(rd v5 (0+v7.toNat)).c)) (rd v5 (0+v7.toNat)).a (w0a (decide (aA>0)) (decide ((IntKind.wrap .i64 (aI+(rd v5 (0+v7.toNat)).c))>0))) (aC++[(R2.mk aN (rd v5 (0+v7.toNat)).a)]))) else .stuck)) else .stuck)) else .stuck) else .stuck) else (bif (Nat.beq 2 2&&((decide (0+aC.length=aC.length))&&decide ((aC.length+1+1)*(16+1)≤Ur))) then (bif (decide ((rd v5 (0+v7.toNat)).b =Int.ofNat 0)) then (.to (.h2 v5 v6 (IntKind.wrap .i64 (v7+1)) (IntKind.wrap .i64 (aA+(rd v5 (0+v7.toNat)).c)) aI (rd v5 (0+v7.toNat)).a (w0a (decide ((IntKind.wrap .i64 (aA+(rd v5 (0+v7.toNat)).c))>0)) (decide (aI>0))) (aC++[(R2.mk aN (rd v5 (0+v7.toNat)).a)]))) else (bif (decide ((rd v5 (0+v7.toNat)).b =Int.ofNat 1)) then (.to (.h2 v5 v6 (IntKind.wrap .i64 (v7+1)) aA (IntKind.wrap .i64 (aI+(rd v5 (0+v7.toNat)).c)) (rd v5 (0+v7.toNat)).a (w0a (decide (aA>0)) (decide ((IntKind.wrap .i64 (aI+(rd v5 (0+v7.toNat)).c))>0))) (aC++[(R2.mk aN (rd v5 (0+v7.toNat)).a)]))) else .stuck)) else .stuck)))) else .stuck) else .stuck) else (.ret [(.dat aC.length (Zz aC)),(.int .i64 0)]))
def y0i (l0:List R2):Xf spmS:=(bif (decide ((l0.length:Int)>400)) then (.ret [.nils,(.int .i64 4)]) else (.to (.h0 0)))
theorem w1c (l0:List R2): ∀s,Xj prog (Zy prog 157) (spmC l0) (spmC l0 s) (Vr l0 s)
 | .h0 v8=>(lb (fun k0=>(lo fun aG=>(lb (fun k1=>(lb (fun k2=>(lb (fun k3=>(lb (fun k4=>(lr 11 157 [1,1,0,1,0,0] 1 15 [(2,.nils),(3,(ii 8))] (sl Qz 79 [] ⟨[],[],[some [2,3]],[]⟩ ⟨[],[],[]⟩ (trs 9 []) (tt k4 (tt k3 (tt k2 (tt k1 (ww aG (tt k0 nn))))))))) (fun k4=>(sl Qz 154 [(246,3,Zz ([]:List R3))] ⟨[8,2,3,4,5,6,7,9],[],w5f,w5g⟩ ⟨[(3,.grow 7 3)],[],[]⟩ (trs 8 (bl 2 2)) (pp (fl ([]:List R3) nn) (tt k4 (tt k3 (tt k2 (tt k1 (ww aG (tt k0 nn))))))))))) (fun k3=>(sl Qz 69 [] ⟨[],[],spmN0,spmM0⟩ ⟨[],[],[]⟩ (trs 7 [false]) (tt k3 (tt k2 (tt k1 (ww aG (tt k0 nn))))))))) (fun k2=>(lb (fun k3=>(lr 11 157 [1,1,0,1,0,0] 1 15 [(2,.nils),(3,(ii 8))] (sl Qz 79 [] ⟨[],[],[some [2,3]],[]⟩ ⟨[],[],[]⟩ (trs 4 (bl 5 24)) (tt k3 (tt k2 (tt k1 (ww aG (tt k0 nn)))))))) (fun k3=>(sl Qz 154 [(246,3,Zz ([]:List R3))] ⟨[8,2,3,4,5,6,7,9],[],w5f,w5g⟩ ⟨[(3,.grow 7 3)],[],[]⟩ (trs 4 (bl 6 40)) (pp (fl ([]:List R3) nn) (tt k3 (tt k2 (tt k1 (ww aG (tt k0 nn)))))))))))) (fun k1=>(lb (fun k2=>(lr 11 157 [1,1,0,1,0,0] 1 15 [(2,.nils),(3,(ii 8))] (sl Qz 79 [] ⟨[],[],[some [2,3]],[]⟩ ⟨[],[],[]⟩ (bl 9 385) (tt k2 (tt k1 (ww aG (tt k0 nn))))))) (fun k2=>(sl Qz 154 [(246,3,Zz ([]:List R3))] ⟨[8,2,3,4,5,6,7,9],[],w5f,w5g⟩ ⟨[(3,.grow 7 3)],[],[]⟩ (bl 10 641) (pp (fl ([]:List R3) nn) (tt k2 (tt k1 (ww aG (tt k0 nn)))))))))))) (fun k0=>(sl Qz 98 [(246,3,Zz ([]:List R3))] ⟨[6,0,1,2,3,4,5,7],[],w5f,w5g⟩ ⟨[(3,.grow 7 3)],[],[]⟩ (bl 3 4) (pp (fl ([]:List R3) nn) (tt k0 nn)))))
 | .h1 v3 v17=>(lb (fun k0=>(lo fun o0=>(lo fun o1=>(sl Qz 36 [] ⟨[0,1,2,3,4,5,6,10],[],w5f,w5g⟩ ⟨[(3,.len (y5m v3 l0 v17).length)],(kpB 7 [.rowed 3 (y5m v3 l0 v17).length (Zz (y5m v3 l0 v17))]),[]⟩ [true] (pp (xL (v3.length+2) (y5m v3 l0 v17).length) (pp (xL (v3.length+2) (y5m v3 l0 v17).length) (pp (xS (v3.length+2) (Zh (Zz v3) 0 v3.length 3 [(ii (rd l0 (tn v17)).a),(ii 0),(ii 1),(ii (rd l0 (tn v17)).b),(ii 0),(ii (-1))]) (Zz (y5m v3 l0 v17))) (pp (pp (xF (Zh (Zz v3) 0 v3.length 3 [(ii (rd l0 (tn v17)).a),(ii 0),(ii 1),(ii (rd l0 (tn v17)).b),(ii 0),(ii (-1))])) nn) (ww o1 (ww o0 (tt k0 nn))))))))))) (fun k0=>(lo fun o0=>(lo fun o1=>(lo fun o2=>(sl Qz 92 [(183,2,Zz ([]:List R2))] ⟨[9,1,2,4,5,6,3,7,10],[],y1y,y1z⟩ ⟨[(5,.len (Qs (cvT v3)).length)],(kpB 6 [.cells [.grow 8 2],.rowed 3 (Qs (cvT v3)).length (Zz (Qs (cvT v3))),.keep]),[]⟩ (bl 4 2) (pp (xL v3.length (Qs (cvT v3)).length (by first | exact z6n _ | exact Wi rfl)) (pp (xL v3.length (Qs (cvT v3)).length (by first | exact z6n _ | exact Wi rfl)) (pp (xS v3.length (Zz (Qs (cvT v3))) (Zz (Qs (cvT v3)))) (pp (fl (Qs (cvT v3)) (fl ([]:List R2) nn)) (pp (pp (xG (Nat.beq 3 3)) (pp (xG (Nat.beq 3 3)) (pp (xG (Nat.beq 0 0)) (pp (pp (xG (decide (v3.length=v3.length))) (pp (xr v3) (xG (decide (v3.length<4611686018427387904))))) (xG (z9w (cvT v3))))))) (tt k0 nn))))))))))))
 | .h2 v5 v6 v7 aA aI aN aF aC=>(lb (fun k0=>(lo fun aG=>(lo fun bB=>(lb (fun k1=>(lb (fun k2=>(sl Qz 62 [] ⟨(List.range 9),[],y1y,y1z⟩ ⟨[],[],[]⟩ (trs 5 (bl 3 0)) (pp (fl v5 (fl aC nn)) (ww k2 (tt k1 (ww bB (ww aG (tt k0 nn)))))))) (fun k2=>(lb (fun k3=>(sl Qz 62 [] ⟨(List.range 9),[],y1y,y1z⟩ ⟨[],[],[]⟩ (trs 6 (bl 4 2)) (pp (fl v5 (fl aC nn)) (ww k3 (tt k1 (ww bB (ww aG (tt k0 nn)))))))) (fun k3=>trivial))))) (fun k1=>(lb (fun k2=>(lb (fun k3=>(sl Qz 62 [] ⟨(List.range 9),[],y1y,y1z⟩ ⟨[],[],[]⟩ (bl 8 17) (pp (fl v5 (fl aC nn)) (ww k3 (tt k2 (tt k1 (ww bB (ww aG (tt k0 nn))))))))) (fun k3=>(lb (fun k4=>(sl Qz 62 [] ⟨(List.range 9),[],y1y,y1z⟩ ⟨[],[],[]⟩ (bl 10 177) (pp (fl v5 (fl aC nn)) (ww k4 (tt k2 (tt k1 (ww bB (ww aG (tt k0 nn))))))))) (fun k4=>trivial))))) (fun k2=>(lb (fun k3=>(lo fun bW=>(lo fun cN=>(lb (fun k4=>(lb (fun k5=>(sl Qz 81 [] ⟨(List.range 9),[],y1y,y1z⟩ ⟨[],(kpB 6 [.cells [.len (aC.set (0+(tn (wr ((aC.length:Int) - 1)))) (R2.mk (rd aC (0+(tn (wr ((aC.length:Int) - 1))))).a (rd v5 (0+(tn v7))).a)).length],.keep,.rowed 2 (aC.set (0+(tn (wr ((aC.length:Int) - 1)))) (R2.mk (rd aC (0+(tn (wr ((aC.length:Int) - 1))))).a (rd v5 (0+(tn v7))).a)).length (Zz (aC.set (0+(tn (wr ((aC.length:Int) - 1)))) (R2.mk (rd aC (0+(tn (wr ((aC.length:Int) - 1))))).a (rd v5 (0+(tn v7))).a)))]),[]⟩ (bl 17 16353) (pp (xL aC.length (aC.set (0+(tn (wr ((aC.length:Int) - 1)))) (R2.mk (rd aC (0+(tn (wr ((aC.length:Int) - 1))))).a (rd v5 (0+(tn v7))).a)).length) (pp (xL aC.length (aC.set (0+(tn (wr ((aC.length:Int) - 1)))) (R2.mk (rd aC (0+(tn (wr ((aC.length:Int) - 1))))).a (rd v5 (0+(tn v7))).a)).length) (pp (xS aC.length (Xb (Zz aC) (0+(tn (wr ((aC.length:Int) - 1)))) 1 [(ii (rd v5 (0+(tn v7))).a)]) (Zz (aC.set (0+(tn (wr ((aC.length:Int) - 1)))) (R2.mk (rd aC (0+(tn (wr ((aC.length:Int) - 1))))).a (rd v5 (0+(tn v7))).a)))) (pp (fl v5 (pp (xF (Xb (Zz aC) (0+(tn (wr ((aC.length:Int) - 1)))) 1 [(ii (rd v5 (0+(tn v7))).a)])) nn)) (ww k5 (ww cN (ww bW (tt k4 (ww cN (ww bW (tt k3 (tt k2 (tt k1 (ww bB (ww aG (tt k0 nn)))))))))))))))))) (fun k5=>(lb (fun k6=>(sl Qz 81 [] ⟨(List.range 9),[],y1y,y1z⟩ ⟨[],(kpB 6 [.cells [.len (aC.set (0+(tn (wr ((aC.length:Int) - 1)))) (R2.mk (rd aC (0+(tn (wr ((aC.length:Int) - 1))))).a (rd v5 (0+(tn v7))).a)).length],.keep,.rowed 2 (aC.set (0+(tn (wr ((aC.length:Int) - 1)))) (R2.mk (rd aC (0+(tn (wr ((aC.length:Int) - 1))))).a (rd v5 (0+(tn v7))).a)).length (Zz (aC.set (0+(tn (wr ((aC.length:Int) - 1)))) (R2.mk (rd aC (0+(tn (wr ((aC.length:Int) - 1))))).a (rd v5 (0+(tn v7))).a)))]),[]⟩ (bl 19 98273) (pp (xL aC.length (aC.set (0+(tn (wr ((aC.length:Int) - 1)))) (R2.mk (rd aC (0+(tn (wr ((aC.length:Int) - 1))))).a (rd v5 (0+(tn v7))).a)).length) (pp (xL aC.length (aC.set (0+(tn (wr ((aC.length:Int) - 1)))) (R2.mk (rd aC (0+(tn (wr ((aC.length:Int) - 1))))).a (rd v5 (0+(tn v7))).a)).length) (pp (xS aC.length (Xb (Zz aC) (0+(tn (wr ((aC.length:Int) - 1)))) 1 [(ii (rd v5 (0+(tn v7))).a)]) (Zz (aC.set (0+(tn (wr ((aC.length:Int) - 1)))) (R2.mk (rd aC (0+(tn (wr ((aC.length:Int) - 1))))).a (rd v5 (0+(tn v7))).a)))) (pp (fl v5 (pp (xF (Xb (Zz aC) (0+(tn (wr ((aC.length:Int) - 1)))) 1 [(ii (rd v5 (0+(tn v7))).a)])) nn)) (ww k6 (ww cN (ww bW (tt k4 (ww cN (ww bW (tt k3 (tt k2 (tt k1 (ww bB (ww aG (tt k0 nn)))))))))))))))))) (fun k6=>trivial))))) (fun k4=>(lo fun cM=>(lb (fun k5=>(sl Qz 81 [] ⟨[0,1,2,3,4,5,6,7,12],[],y1y,y1z⟩ ⟨[],(kpB 6 [.cells [.len (Vf aC aN v5 v7).length],.keep,.rowed 2 (Vf aC aN v5 v7).length (Zz (Vf aC aN v5 v7))]),[]⟩ (bl 17 8161) (pp (xL (aC.length+1) (Vf aC aN v5 v7).length) (pp (xL (aC.length+1) (Vf aC aN v5 v7).length) (pp (xS (aC.length+1) (z9d aC aN v5 v7) (Zz (Vf aC aN v5 v7))) (pp (fl v5 (pp (xF (z9d aC aN v5 v7)) nn)) (ww k5 (ww cM (tt k4 (ww cN (ww bW (tt k3 (tt k2 (tt k1 (ww bB (ww aG (tt k0 nn))))))))))))))))) (fun k5=>(lb (fun k6=>(sl Qz 81 [] ⟨[0,1,2,3,4,5,6,7,12],[],y1y,y1z⟩ ⟨[],(kpB 6 [.cells [.len (Vf aC aN v5 v7).length],.keep,.rowed 2 (Vf aC aN v5 v7).length (Zz (Vf aC aN v5 v7))]),[]⟩ (bl 19 90081) (pp (xL (aC.length+1) (Vf aC aN v5 v7).length) (pp (xL (aC.length+1) (Vf aC aN v5 v7).length) (pp (xS (aC.length+1) (z9d aC aN v5 v7) (Zz (Vf aC aN v5 v7))) (pp (fl v5 (pp (xF (z9d aC aN v5 v7)) nn)) (ww k6 (ww cM (tt k4 (ww cN (ww bW (tt k3 (tt k2 (tt k1 (ww bB (ww aG (tt k0 nn))))))))))))))))) (fun k6=>trivial)))))))))) (fun k3=>(lo fun bW=>(lb (fun k4=>(sl Qz 81 [] ⟨[0,1,2,3,4,5,6,7,12],[],y1y,y1z⟩ ⟨[],(kpB 6 [.cells [.len (Vf aC aN v5 v7).length],.keep,.rowed 2 (Vf aC aN v5 v7).length (Zz (Vf aC aN v5 v7))]),[]⟩ (bl 17 1) (pp (xL (aC.length+1) (Vf aC aN v5 v7).length) (pp (xL (aC.length+1) (Vf aC aN v5 v7).length) (pp (xS (aC.length+1) (z9d aC aN v5 v7) (Zz (Vf aC aN v5 v7))) (pp (fl v5 (pp (xF (z9d aC aN v5 v7)) nn)) (ww k4 (ww bW (tt k3 (tt k2 (tt k1 (ww bB (ww aG (tt k0 nn)))))))))))))) (fun k4=>(lb (fun k5=>(sl Qz 81 [] ⟨[0,1,2,3,4,5,6,7,12],[],y1y,y1z⟩ ⟨[],(kpB 6 [.cells [.len (Vf aC aN v5 v7).length],.keep,.rowed 2 (Vf aC aN v5 v7).length (Zz (Vf aC aN v5 v7))]),[]⟩ (bl 19 81921) (pp (xL (aC.length+1) (Vf aC aN v5 v7).length) (pp (xL (aC.length+1) (Vf aC aN v5 v7).length) (pp (xS (aC.length+1) (z9d aC aN v5 v7) (Zz (Vf aC aN v5 v7))) (pp (fl v5 (pp (xF (z9d aC aN v5 v7)) nn)) (ww k5 (ww bW (tt k3 (tt k2 (tt k1 (ww bB (ww aG (tt k0 nn)))))))))))))) (fun k5=>trivial)))))))))))))) (fun k0=>(lr 11 3 [1,1,1,1,1,1,1,0] 1 15 [(2,(.dat aC.length (Zz aC))),(3,(ii 0))] (sl Qz 19 [] ⟨[],[8],[some [2,3]],[]⟩ ⟨[(2,.frz aC.length aC.length (Zz aC) (Zz aC))],[],[]⟩ [false] (pp (xZ (z5d 2 2 0 aC.length aC.length (Zz aC)) aC.length (Zz aC)) (pp (xL aC.length aC.length) (pp (xS aC.length (Zz aC) (Zz aC)) (pp (fl aC nn) (tt k0 nn)))))))))
theorem x3u (l0:List R2):Xj prog (Zy prog 157) (spmC l0) (Ze prog 157 [(.dat l0.length (Zz l0))] true []) (y0i l0):=(lb (fun k0=>(lr 11 157 [1,0,1,0,0] 1 15 [(2,.nils),(3,(ii 4))] (sl Qz 18 [] ⟨[],[],[some [2,3]],[]⟩ ⟨[],[],[]⟩ [true] (tt k0 nn)))) (fun k0=>(sl Qz 41 [] ⟨[],[],spmN0,spmM0⟩ ⟨[],[],[]⟩ [false] (tt k0 nn))))
theorem v1p (l0:List R2) (n:Nat) (vs:List AVal) (h:Yv (Vr l0) n (y0i l0)=.ret vs):Ky prog (Zy prog 157) (Ze prog 157 [(.dat l0.length (Zz l0))] true []) vs:=by have:=Zr (w1c l0) n _ (x3u l0);rwa [h] at this
end Go.Am
namespace Go.Am
open Go.Proofs
def Qr (s:R2):Bool:=decide (s.a<s.b)&&(decide (s.a≥ -1000000)&&decide (s.b≤1000000))
def Je (l:List R2):List R3:=l.flatMap fun s=>[⟨s.a,0,1⟩,⟨s.b,0,-1⟩]
def Vj (out:List R2) (last:Int) (inn:Bool) (at':Int):List R2:=
 bif !inn then out else bif last == at' then out else
 bif decide (0<out.length)&&((rd out (out.length - 1)).b == last) then out.set (out.length - 1) ⟨(rd out (out.length - 1)).a,at'⟩ else out++[⟨last,at'⟩]
def swF :List R3→Int→Int→Bool→List R2→List R2
 | [],_,_,_,out=>out
 | e::r,o,last,inn,out=>swF r (o+e.c) e.a (decide (o+e.c>0)) (Vj out last inn e.a)
def swV (l:List R2):List R2:=swF (Qs (Je l)) 0 0 false []
def Xm (l:List R2):List R2:=bif decide (400<l.length) then [] else bif l.all Qr then swV l else []
def v6r (l:List R2):Int:=bif decide (400<l.length) then 4 else bif l.all Qr then 0 else 8
def y1x (l:List R2):Bool:=true
def x0n (l:List R2):List AVal:=bif decide (400<l.length) then [.nils,.int .i64 4] else bif l.all Qr then [.dat (swV l).length (Zz (swV l)),.int .i64 0] else [.nils,.int .i64 8]
theorem z3h (l:List R2):(Je l).length =2*l.length:=by
 induction l with
 | nil=>rfl
 | cons r l ih=>show (_::_::Je l).length =_;simp only [List.length_cons,ih];omega
theorem z1y (out:List R2) (last:Int) (inn:Bool) (a:Int):(Vj out last inn a).length ≤out.length+1:=by
 unfold Vj;cases inn <;> simp only [Bool.not_true,Bool.not_false,cond_true,cond_false]
 ·omega
 ·cases (last == a) <;> simp only [cond_true,cond_false]
  ·cases (decide (0<out.length)&&((rd out (out.length - 1)).b == last)) <;> simp
  ·omega
theorem y0h (e:R3) (r:List R3) (o last:Int) (inn:Bool) (out:List R2):swF (e::r) o last inn out=swF r (o+e.c) e.a (decide (o+e.c>0)) (Vj out last inn e.a):=rfl
theorem u3e {a:Int} (k:Nat) (h:a=(k:Int)):decide (a=Int.ofNat k)=true:=decide_eq_true h
section
variable (l:List R2) (hl:l.length≤400)
include hl
theorem v6n (L:List R3) (hL:L.length≤800) (hE: ∀i,i<L.length→(rd L i).b =0∧((rd L i).c =1∨(rd L i).c = -1)): ∀(k i:Nat) (o last:Int) (inn:Bool) (out:List R2),i+k=L.length→ -(i:Int)≤o→o≤i→out.length≤i→
  ∃n,Yv (Vr l) n (.to (.h2 L (L.length:Int) (i:Int) o 0 last inn out))=.ret [.dat (swF (L.drop i) o last inn out).length (Zz (swF (L.drop i) o last inn out)),.int .i64 0]
 | 0,i,o,last,inn,out,h,ho1,ho2,hout=>by have _uhl:=hl;refine ⟨1,?_⟩;rw [Zv,List.drop_eq_nil_of_le (by omega)];simp (disch:=omega) only [Vr,Yw,cond_false,Zm,swF]
 | k +1,i,o,last,inn,out,h,ho1,ho2,hout=>by
  obtain ⟨hb,hc⟩:=hE i (by omega);have hcl:=z1y out last inn (rd L i).a;obtain ⟨n,hn⟩:=v6n L hL hE k (i+1) (o+(rd L i).c) (rd L i).a (decide (o+(rd L i).c >0)) (Vj out last inn (rd L i).a) (by omega) (by rcases hc with hc | hc <;> omega) (by rcases hc with hc | hc <;> omega) (by omega);refine ⟨n+1,?_⟩;rw [Yp (show i<L.length by omega),Zv];have hf: ∀b,w0a b (decide ((0:Int)>0))=b:=fun b=>rfl;have hw:IntKind.wrap .i64 (o+(rd L i).c)=o+(rd L i).c :=Zk (by rcases hc with hc | hc <;> omega);rw [y0h];have hf': ∀b,w0a b false=b:=fun b=>rfl;have hz:=u3e 0 hb;unfold Vj at hn ⊢;cases inn with
  | false=>simp only [Bool.not_false,cond_true] at hn ⊢;simp (disch:=omega) only [Vr,Bool.not_false,hz,hw,hf,hf',Zt,Yz,Yu,Zk,Zx,Zj,Nat.zero_add,Bool.and_true,cond_true];exact hn
  | true=>
   simp only [Bool.not_true,cond_false] at hn ⊢;rcases Yf (last == (rd L i).a) with q | q
   ·rw [q] at hn ⊢;simp only [cond_true] at hn ⊢;simp (disch:=omega) only [Vr,Bool.not_true,q,hz,hw,hf,hf',Zt,Yz,Yu,Zk,Zx,Zj,Nat.zero_add,Bool.and_true,cond_true,cond_false];exact hn
   ·rw [q] at hn ⊢;simp only [cond_false] at hn ⊢;by_cases h0:0<out.length
    ·rw [decide_eq_true h0,Bool.true_and] at hn ⊢;rcases Yf ((rd out (out.length - 1)).b == last) with q2 | q2
     ·rw [q2] at hn ⊢;simp only [cond_true] at hn ⊢;simp (disch:=omega) only [Vr,Bool.not_true,q,q2,hz,hw,hf,hf',Zt,Ye,Yz,Yu,Zk,Zx,Zj,Zf,Nat.zero_add,Bool.and_true,cond_true,cond_false];exact hn
     ·rw [q2] at hn ⊢;simp only [cond_false] at hn ⊢;simp (disch:=omega) only [Vr,Bool.not_true,q,q2,hz,hw,hf,hf',Zt,Ye,Yz,Yu,Yk,Zi,Yq,decide_true,Zk,Zx,Zj,Zf,Nat.zero_add,Bool.and_true,Bool.true_and,cond_true,cond_false];exact hn
    ·rw [decide_eq_false h0,Bool.false_and] at hn ⊢;simp only [cond_false] at hn ⊢;simp (disch:=omega) only [Vr,Bool.not_true,q,hz,hw,hf,hf',Zt,Xv,Yz,Yu,Yk,Zi,Yq,decide_true,Zk,Zx,Zj,Nat.zero_add,Bool.and_true,Bool.true_and,cond_true,cond_false];exact hn
theorem w9w (h:l.all Qr=true): ∀e∈Je l,bnd3 e=true∧e.b=0∧(e.c=1∨e.c= -1):=by
 have _uhl:=hl;intro e he;obtain ⟨s,hs,h1⟩:=List.mem_flatMap.1 he;have hv:=List.all_eq_true.1 h s hs;simp only [Qr,Bool.and_eq_true,decide_eq_true_eq] at hv;simp only [List.mem_cons,List.not_mem_nil,or_false] at h1;rcases h1 with rfl | rfl
 ·exact ⟨decide_eq_true (by simp only;omega),rfl,.inl rfl⟩
 ·exact ⟨decide_eq_true (by simp only;omega),rfl,.inr rfl⟩
theorem v6o (hv:l.all Qr=true): ∀(k i:Nat) (acc:List R3),i+k=l.length→acc=Je (l.take i)→ ∃n,Yv (Vr l) n (.to (.h1 acc (i:Int)))=.ret [.dat (swV l).length (Zz (swV l)),.int .i64 0]
 | 0,i,acc,h,ha=>by
  have e:acc=Je l:=by rw [ha,List.take_of_length_le (by omega)]
  subst e;have hle:=z3h l;have dY:=w9w l hl hv;have hb:z9w (Je l)=true:=List.all_eq_true.2 fun e he=>(dY e he).1;obtain ⟨hp,_⟩:=Kv (Je l) hb;have hpl:=hp.length_eq;obtain ⟨n,hn⟩:=v6n l hl (Qs (Je l)) (by omega) (fun i hi=>by
   rw [Xu hi];exact (dY _ (hp.mem_iff.1 (List.getElem_mem hi))).2) (Qs (Je l)).length 0 0 0 false [] (Nat.zero_add _) (by omega) (by omega) (Nat.zero_le _)
  refine ⟨n+1,?_⟩;rw [Zv];simp (disch:=omega) only [Vr,Za,Zq,hb,Yw,Yu,Yk,decide_true,cond_true,cond_false];rw [←hpl];simp only [z5l,List.drop_zero] at hn;exact hn
 | k+1,i,acc,h,ha=>by
  have hle:=z3h (l.take i);have fH:acc.length≤2*i:=by rw [ha,hle];simp;omega
  obtain ⟨n,hn⟩:=v6o hv k (i+1) (acc++Je [rd l i]) (by omega) (by
   rw [ha,List.take_add_one];have:l[i]? =some (rd l i):=by rw [Xu (show i<l.length by omega)];exact List.getElem?_eq_getElem _
   rw [this];simp [Je])
  refine ⟨n+1,?_⟩;rw [Zv];simp (disch:=omega) only [Vr,Zt,Yz,Yg,Yk,Zi,Yq,decide_true,Zk,Zx,Zj,Nat.zero_add,Bool.and_true,Bool.true_and,cond_true];exact hn
theorem v6p : ∀(k i:Nat),i+k=l.length→(∀s∈l.take i,Qr s=true)→ ∃n,Yv (Vr l) n (.to (.h0 (i:Int)))=.ret (bif l.all Qr then [.dat (swV l).length (Zz (swV l)),.int .i64 0] else [.nils,.int .i64 8])
 | 0,i,h,ht=>by have hv:l.all Qr=true:=List.all_eq_true.2 fun s hs=>ht s (by rw [List.take_of_length_le (by omega)];exact hs);obtain ⟨n,hn⟩:=v6o l hl hv l.length 0 [] (Nat.zero_add _) rfl;refine ⟨n+1,?_⟩;rw [Zv,hv,cond_true];simp (disch:=omega) only [Vr,Yw,cond_false];exact hn
 | k+1,i,h,ht=>by
  have hi:i<l.length:=by omega
  rcases Yf (Qr (rd l i)) with q | q
  ·obtain ⟨n,hn⟩:=v6p k (i+1) (by omega) (fun s hs=>by
    rw [List.take_add_one] at hs;have e:l[i]? =some (rd l i):=by rw [Xu hi];exact List.getElem?_eq_getElem _
    rw [e] at hs;simp only [Option.toList_some,List.mem_append,List.mem_singleton] at hs;rcases hs with hs | rfl
    ·exact ht s hs
    ·exact q)
   refine ⟨n+1,?_⟩;rw [Zv];simp only [Qr,Bool.and_eq_true,decide_eq_true_eq] at q;simp (disch:=omega) only [Vr,Zt,Xh,dge_t,Yz,Zk,Zx,Zj,Bool.not_true,Bool.and_true,cond_true,cond_false];exact hn
  ·have hv:l.all Qr=false:=Bool.eq_false_iff.2 fun e=>by have:=List.all_eq_true.1 e (rd l i) (by rw [Xu hi];exact List.getElem_mem hi);rw [this] at q;cases q
   refine ⟨1,?_⟩;rw [Zv,hv,cond_false];unfold Qr at q;rcases Yf (decide ((rd l i).a <(rd l i).b)) with q1 | q1 <;> rcases Yf (decide ((rd l i).a ≥ -1000000)) with q2 | q2 <;> rcases Yf (decide ((rd l i).b ≤1000000)) with q3 | q3 <;>
    rw [q1,q2,q3] at q <;> first
    | (exfalso;revert q;decide)
    | simp (disch:=omega) only [Vr,q1,q2,q3,Zt,dge_t,Yz,Zk,Zx,Zj,Bool.not_true,Bool.not_false,Bool.and_true,cond_true,cond_false,Zm]
end
theorem u1a (l:List R2): ∃n,Yv (Vr l) n (y0i l)=.ret (x0n l):=by
 unfold y0i x0n;by_cases h:400<l.length
 ·refine ⟨0,?_⟩;rw [decide_eq_true h,Ye (show (l.length:Int)>400 by omega)];rfl
 ·obtain ⟨n,hn⟩:=v6p l (by omega) l.length 0 (Nat.zero_add _) (fun s hs=>by simp at hs);refine ⟨n,?_⟩;rw [decide_eq_false h,Xv (show¬(l.length:Int)>400 by omega),cond_false,cond_false];exact hn
end Go.Am
namespace Go.Am
open Go.Proofs.Tryz
open Go.Proofs
def fSpm :List AVal→Option (AVal×Bool)
 | [a1]=>match asL R2 a1 with
  | some (L1,g1,n1)=>some (.tup [.dat (Xm L1).length (Zz (Xm L1)),.int .i64 (v6r L1)],isT R2 n1 g1&&y1x L1)
  | _=>none
 | _=>none
theorem u5c {S:Specs} (hS:Zu prog S):Zu prog (S.with x1o fSpm):=by
 refine w9m hS (by kernel_rfl) fun args v h=> ?_;unfold fSpm at h;split at h
 ·rename_i a1;split at h
  ·rename_i L1 g1 n1 e1;simp only [Option.some.injEq,Prod.mk.injEq,Bool.and_eq_true] at h;obtain ⟨rfl,ho1,hw⟩:=h;obtain ⟨N,hN⟩:=u1a L1;refine ⟨_,x0n L1,(.cons (asL_le e1 ho1) .nil),?_,v1p L1 N _ hN,3,?_⟩
   ·unfold Xm v6r x0n;cases decide (400<L1.length) <;> simp only [cond_true,cond_false]
    ·cases L1.all Qr <;> simp only [cond_true,cond_false]
     ·exact fun ρ u hu=>z4i (.cons (z4y R2) (RLe.refl _)) ρ u hu
     ·exact fun ρ u hu=>hu
    ·exact fun ρ u hu=>z4i (.cons (z4y R2) (RLe.refl _)) ρ u hu
   ·unfold x0n;cases decide (400<L1.length) <;> simp only [cond_true,cond_false]
    ·cases L1.all Qr <;> rfl
    ·rfl
  ·cases h
 ·cases h
def T6 :Specs:=T5.with x1o fSpm
theorem Jd :Zu prog T6:=u5c Qz
end Go.Am
namespace Go.Am
open Go.Proofs Go.Sort Go.Shelf Go.RowKit Go.Lib
theorem y3y {γ:Type} (a b:Bool) (x y:γ):(bif a&&b then x else y)=bif a then (bif b then x else y) else y:=by cases a <;> rfl
theorem z5m {γ:Type} (a:Bool) (x y:γ):(bif !a then x else y)=bif a then y else x:=by cases a <;> rfl
structure Dim (α β:Type) where
 lo:α→Int
 hi:α→Int
 pr:α→β
 put:Int→Int→β→α
 ext:Int→α→α
 mak:List β→List β
 same:List β→List β→Bool
structure Sw (α β:Type) where
 out:List α
 last:List β
 first:Nat
 fin:Int
def Ug (zs:List Int):List Int:=compact (Yh zs)
theorem z8o (zs:List Int):w4n (Yh zs)=(Ug zs).length :=rfl
theorem Xs (zs:List Int):(Yh zs).length =zs.length:=List.length_mergeSort zs
theorem z1w (zs:List Int):(Ug zs).length ≤zs.length:=by have:=compact_length_le (Yh zs);rw [Xs] at this;exact this
theorem z2u (zs:List Int) (i:Nat) (h:i<(Ug zs).length):rd (Wz (Yh zs)) i=rd (Ug zs) i:=by change i<(compact (Yh zs)).length at h;show rd (compact (Yh zs)++_) i=rd (compact (Yh zs)) i;rw [Xu (by rw [List.length_append];exact Nat.lt_add_right _ h),Xu h,List.getElem_append_left h]
theorem Qx (zs:List Int):Zc zs.length (cOf (Zz (Yh zs)))=Yh zs:=by have:=Wg (Yh zs);rw [Xs] at this;exact this
namespace Dim
variable {α β:Type} (D:Dim α β) (l:List α)
def ends :List Int:=l.flatMap fun r=>[D.lo r,D.hi r]
def cuts :List Int:=Ug (D.ends l)
def inn (x:Int):List β:=(l.filter fun r=>decide (D.lo r≤x)&&decide (x<D.hi r)).map D.pr
def sec (x:Int):List β:=D.mak (D.inn l x)
def grow (out:List α) (k:Nat) (x:Int):List α:=out.take k++(out.drop k).map (D.ext x)
def one (x x':Int) (s:Sw α β):Sw α β:=
 bif decide (0<(D.sec l x).length)&&((s.fin == x)&&D.same s.last (D.sec l x)) then ⟨D.grow s.out s.first x',s.last,s.first,x'⟩
 else ⟨s.out++(D.sec l x).map (D.put x x'),D.sec l x,s.out.length,x'⟩
def go :Nat→Nat→Sw α β→Sw α β
 | 0,_,s=>s
 | k+1,i,s=>go k (i+1) (D.one l (rd (D.cuts l) i) (rd (D.cuts l) (i+1)) s)
def out :List α:=(D.go l ((D.cuts l).length - 1) 0 ⟨[],[],0,0⟩).out
theorem ends_length :(D.ends l).length =2*l.length:=by
 induction l with
 | nil=>rfl
 | cons r l ih=>show (_::_::D.ends l).length =_;simp only [List.length_cons,ih];omega
theorem cuts_length :(D.cuts l).length ≤2*l.length:=by have:=z1w (D.ends l);rw [D.ends_length] at this;exact this
theorem ends_append (m:List α):D.ends (l++m)=D.ends l++D.ends m:=by simp [ends]
theorem inn_append (m:List α) (x:Int):D.inn (l++m) x=D.inn l x++D.inn m x:=by simp [inn]
theorem inn_length (x:Int):(D.inn l x).length ≤l.length:=by simpa [inn] using List.length_filter_le _ l
theorem inn_t (r:α) (x:Int) (h1:D.lo r≤x) (h2:x<D.hi r):D.inn [r] x=[D.pr r]:=by simp [inn,h1,h2]
theorem inn_f1 (r:α) (x:Int) (h1: ¬D.lo r≤x):D.inn [r] x=[]:=by simp [inn,h1]
theorem inn_f2 (r:α) (x:Int) (h1: ¬x<D.hi r):D.inn [r] x=[]:=by simp [inn,h1]
theorem grow_nil (out:List α) (k:Nat) (x:Int) (h:out.length≤k):D.grow out k x=out:=by unfold grow;rw [List.drop_eq_nil_of_le h,List.map_nil,List.append_nil,List.take_of_length_le h]
theorem grow_length (out:List α) (k:Nat) (x:Int):(D.grow out k x).length =out.length:=by unfold grow;simp;omega
theorem grow_set [Yo α] (out:List α) (j:Nat) (x:Int) (h:j<out.length):D.grow (out.set j (D.ext x (rd out j))) (j+1) x=D.grow out j x:=by
 unfold grow;rw [Yp h,List.map_cons];have e1:(out.set j (D.ext x (rd out j))).take (j+1)=out.take j++[D.ext x (rd out j)]:=by
  apply List.ext_getElem
  ·simp;omega
  ·intro n h1 h2;simp only [List.getElem_take,List.getElem_set];by_cases e:j=n
   ·subst e;rw [if_pos rfl,List.getElem_append_right (by simp only [List.length_take];omega)];simp
   ·rw [if_neg e,List.getElem_append_left (by simp at h1 ⊢;omega),List.getElem_take]
 have e2:(out.set j (D.ext x (rd out j))).drop (j+1)=out.drop (j+1):=by rw [List.drop_set];rw [if_pos (by omega)]
 rw [e1,e2,List.append_assoc];rfl
theorem one_length (x x':Int) (s:Sw α β):(D.one l x x' s).out.length ≤s.out.length+(D.sec l x).length :=by unfold one;cases (decide (0<(D.sec l x).length)&&((s.fin == x)&&D.same s.last (D.sec l x))) <;> simp [grow_length]
end Dim
end Go.Am
namespace Go.Am
open Go.Proofs.Tryz
open Go.Proofs
inductive vl4S where
def vl4C (aV:Int) (aW:Int) (aX:Int) (bS:Int):vl4S→Cfg
 :=nofun
def x3n (aV:Int) (aW:Int) (aX:Int) (bS:Int):vl4S→Xf vl4S
 :=nofun
def y0g (aV:Int) (aW:Int) (aX:Int) (bS:Int):Xf vl4S:=(bif (decide (aV<aX)) then (bif (decide (aW<bS)) then (bif (decide (aV≥(-1000000))) then (bif (decide (aV≤1000000)) then (bif (decide (aX≥(-1000000))) then (bif (decide (aX≤1000000)) then (bif (decide (aW≥(-1000000))) then (bif (decide (aW≤1000000)) then (bif (decide (bS≥(-1000000))) then (.ret [(.bool (decide (bS≤1000000)))]) else (.ret [(.bool false)])) else (.ret [(.bool false)])) else (.ret [(.bool false)])) else (.ret [(.bool false)])) else (.ret [(.bool false)])) else (.ret [(.bool false)])) else (.ret [(.bool false)])) else (.ret [(.bool false)])) else (.ret [(.bool false)]))
theorem w0s (aV:Int) (aW:Int) (aX:Int) (bS:Int): ∀s,Xj prog (Zy prog 120) (vl4C aV aW aX bS) (vl4C aV aW aX bS s) (x3n aV aW aX bS s)
 :=nofun
theorem x3o (aV:Int) (aW:Int) (aX:Int) (bS:Int):Xj prog (Zy prog 120) (vl4C aV aW aX bS) (Ze prog 120 [(.agg [(.int .i64 aV),(.int .i64 aW),(.int .i64 aX),(.int .i64 bS)])] true []) (y0g aV aW aX bS):=(lb (fun k0=>(lb (fun k1=>(lb (fun k2=>(lb (fun k3=>(lb (fun k4=>(lb (fun k5=>(lb (fun k6=>(lb (fun k7=>(lb (fun k8=>(lr 35 3 [1,1,1,1,1,1,1,0] 1 3 [(2,(.bool (decide (bS≤1000000))))] (sl Jd 101 [] ⟨[],[],[some [2]],[]⟩ ⟨[],[],[]⟩ (trs 25 []) (tt k8 (tt k7 (tt k6 (tt k5 (tt k4 (tt k3 (tt k2 (tt k1 (tt k0 nn)))))))))))) (fun k8=>(lr 35 3 [1,1,1,1,1,1,1,0] 1 3 [(2,(.bool false))] (sl Jd 101 [] ⟨[],[],[some [2]],[]⟩ ⟨[],[],[]⟩ (trs 23 [false,false]) (tt k8 (tt k7 (tt k6 (tt k5 (tt k4 (tt k3 (tt k2 (tt k1 (tt k0 nn)))))))))))))) (fun k7=>(lr 35 3 [1,1,1,1,1,1,1,0] 1 3 [(2,(.bool false))] (sl Jd 86 [] ⟨[],[],[some [2]],[]⟩ ⟨[],[],[]⟩ (trs 20 [false,false,false]) (tt k7 (tt k6 (tt k5 (tt k4 (tt k3 (tt k2 (tt k1 (tt k0 nn))))))))))))) (fun k6=>(lr 35 3 [1,1,1,1,1,1,1,0] 1 3 [(2,(.bool false))] (sl Jd 86 [] ⟨[],[],[some [2]],[]⟩ ⟨[],[],[]⟩ (trs 18 [false,false,false,false,false]) (tt k6 (tt k5 (tt k4 (tt k3 (tt k2 (tt k1 (tt k0 nn)))))))))))) (fun k5=>(lr 35 3 [1,1,1,1,1,1,1,0] 1 3 [(2,(.bool false))] (sl Jd 71 [] ⟨[],[],[some [2]],[]⟩ ⟨[],[],[]⟩ (trs 15 [false,false,false,false,false,false]) (tt k5 (tt k4 (tt k3 (tt k2 (tt k1 (tt k0 nn))))))))))) (fun k4=>(lr 35 3 [1,1,1,1,1,1,1,0] 1 3 [(2,(.bool false))] (sl Jd 71 [] ⟨[],[],[some [2]],[]⟩ ⟨[],[],[]⟩ (trs 13 [false,false,false,false,false,false,false,false]) (tt k4 (tt k3 (tt k2 (tt k1 (tt k0 nn)))))))))) (fun k3=>(lr 35 3 [1,1,1,1,1,1,1,0] 1 3 [(2,(.bool false))] (sl Jd 56 [] ⟨[],[],[some [2]],[]⟩ ⟨[],[],[]⟩ (trs 10 [false,false,false,false,false,false,false,false,false]) (tt k3 (tt k2 (tt k1 (tt k0 nn))))))))) (fun k2=>(lr 35 3 [1,1,1,1,1,1,1,0] 1 3 [(2,(.bool false))] (sl Jd 56 [] ⟨[],[],[some [2]],[]⟩ ⟨[],[],[]⟩ (trs 8 [false,false,false,false,false,false,false,false,false,false,false]) (tt k2 (tt k1 (tt k0 nn)))))))) (fun k1=>(lr 35 3 [1,1,1,1,1,1,1,0] 1 3 [(2,(.bool false))] (sl Jd 41 [] ⟨[],[],[some [2]],[]⟩ ⟨[],[],[]⟩ (trs 5 [false,false,false,false,false,false,false,false,false,false,false,false]) (tt k1 (tt k0 nn))))))) (fun k0=>(lr 35 3 [1,1,1,1,1,1,1,0] 1 3 [(2,(.bool false))] (sl Jd 41 [] ⟨[],[],[some [2]],[]⟩ ⟨[],[],[]⟩ [false,false,false,false,false,false,false,false,false,false,false,false,false,false,false,false,false] (tt k0 nn)))))
theorem v1m (aV:Int) (aW:Int) (aX:Int) (bS:Int) (n:Nat) (vs:List AVal) (h:Yv (x3n aV aW aX bS) n (y0g aV aW aX bS)=.ret vs):Ky prog (Zy prog 120) (Ze prog 120 [(.agg [(.int .i64 aV),(.int .i64 aW),(.int .i64 aX),(.int .i64 bS)])] true []) vs:=by have:=Zr (w0s aV aW aX bS) n _ (x3o aV aW aX bS);rwa [h] at this
inductive madS where
 | h0 (v16:Int) (aA:List Int)
 | h1 (v4:Int) (aK:List R4) (aP:List R2) (aT:Int) (bG:Int) (aU:Nat) (bF:List Int)
 | h2 (v4:Int) (v38:Int) (aK:List R4) (aP:List R2) (aT:Int) (bG:Int) (aU:Nat) (bF:List Int) (aC:Int) (cH:Int) (aM:List R2)
 | h3 (v1:Int) (v2:Int) (v71:List R2) (v72:Int) (v73:Int) (bX:List R2) (aS:Int) (aD:List R4) (bD:List R2) (bE:Int) (aU:Nat) (bF:List Int) (aC:List R2)
 | h4 (v2:Int) (v8:Int) (cJ:Int) (bX:List R2) (aS:Int) (aD:List R4) (bD:List R2) (bE:Int) (bV:Int) (cG:Nat) (cI:List Int) (aM:List R2)
abbrev y6u (aD:List R4) (v8:Int) (v2:Int):=(aD.set (0+(tn v8)) (R4.mk (rd aD (0+(tn v8))).a (rd aD (0+(tn v8))).b v2 (rd aD (0+(tn v8))).d))
abbrev y6t (aA:List Int):=(Wz (Zc aA.length (cOf (Zz (Yh (Zc aA.length (cOf (Zz aA))))))))
def v9x :AFr:=⟨⟨29,0,true⟩,none,(.inRangeFunc 0::(Zd prog 121 [1,1,0,1,0] 1)),none,(Zy prog 15),Ya [(2,.nils),(3,(ii 0)),(4,(.ptr 1 0))]⟩
def v9w :=(y4p [(0,⟨.ready,none,29,Ya [(4,(.ptr 1 0))],[11],(Vy prog 121 [1,1,0,1,0,0]),(Vy prog 121 [1,1,0,1,0,1])⟩)])
abbrev y6s (aM:List R2) (l0:List R4) (v38:Int):=(aM++[(R2.mk (rd l0 (tn v38)).b (rd l0 (tn v38)).d)])
abbrev y6r (aD:List R4) (v1:Int) (v71:List R2) (v73:Int) (v2:Int):=(aD++[(R4.mk v1 (rd v71 (tn v73)).a v2 (rd v71 (tn v73)).b)])
def x1r (l0:List R4):ABlk:=⟨[(.dat l0.length (Zz l0))],99,none⟩
abbrev y6q (aA:List Int) (l0:List R4) (v16:Int):=(aA++[(rd l0 (tn v16)).a,(rd l0 (tn v16)).c])
def madC (l0:List R4):madS→Cfg
 | .h0 v16 aA=>⟨⟨34,0,true⟩,none,(Zd prog 156 [1,1,0,1,0,0,1,1,0,0,1,1,0,0] 0),none,(Zy prog 3),⟨Ya [(1,(.ptr 0 0)),(3,(.ptr 2 0)),(8,(.sl 1 0 1 (.un 1))),(9,(ii 1)),(10,(ii 0)),(14,(.dat l0.length (Zz l0))),(15,(ii (l0.length:Int))),(16,(ii v16))],Uq [⟨[(.sl 1 0 1 (.un 1))],171,none⟩,(x1r l0),⟨[(.sla 4 1 0 aA.length (.un 1))],93,none⟩,⟨[.nils,.nils,(ii 0),(ii 0)],200,none⟩,⟨rows aA.length (Zz aA),3,some ⟨1,aA.length,(Zz aA)⟩⟩] 0,5,[],true⟩,[⟨⟨29,0,true⟩,(Up prog 121 [1,1,0,0] 2),(Zd prog 121 [1,1,0,0] 1),none,(Zy prog 15),Ya [(2,.nils),(3,(ii 0)),(4,(.ptr 3 0)),(9,(.sl 1 0 1 (.un 1)))]⟩],.leaf⟩
 | .h1 v4 aK aP aT bG aU bF=>⟨⟨76,0,true⟩,none,(Zd prog 182 [1,0,0] 0),none,[],⟨Ya [(0,(.yld 0)),(1,(.ptr 2 0)),(2,(.ptr 4 0)),(4,(ii v4))],z9j [(1,⟨[(.sla 6 4 0 aK.length (.un 4)),(.dat aP.length (Zz aP)),(ii aT),(ii bG)],200,none⟩),(2,⟨[(.sla 3 1 0 aU (.un 1))],93,none⟩),(3,⟨rows bF.length (Zz bF),3,some ⟨1,bF.length,(Zz bF)⟩⟩),(4,⟨[(.sl 5 0 1 (.un 1))],171,none⟩),(5,(x1r l0)),(6,⟨rows aK.length (Zz aK),88,some ⟨4,aK.length,(Zz aK)⟩⟩)],7,[],true⟩,[v9x],v9w⟩
 | .h2 v4 v38 aK aP aT bG aU bF aC cH aM=>⟨⟨76,0,true⟩,none,(Zd prog 182 [1,0,0,1,0,0,1,0,1,0,0,1,1,0,0,1,1,0,0] 0),none,[],⟨Ya [(0,(.yld 0)),(1,(.ptr 2 0)),(2,(.ptr 4 0)),(4,(ii v4)),(5,(.ptr 6 0)),(6,(ii 0)),(29,(.sl 5 0 1 (.un 1))),(30,(ii 1)),(31,(ii 0)),(36,(.dat l0.length (Zz l0))),(37,(ii (l0.length:Int))),(38,(ii v38))],z9j [(1,⟨[(.sla 9 4 0 aK.length (.un 4)),(.dat aP.length (Zz aP)),(ii aT),(ii bG)],200,none⟩),(2,⟨[(.sla 3 1 0 aU (.un 1))],93,none⟩),(3,⟨rows bF.length (Zz bF),3,some ⟨1,bF.length,(Zz bF)⟩⟩),(4,⟨[(.sl 5 0 1 (.un 1))],171,none⟩),(5,(x1r l0)),(6,⟨[(ii aC),(ii cH),(.sl 7 0 1 (.ex 1))],205,none⟩),(7,⟨[(.sla 8 2 0 aM.length (.un 2))],180,none⟩),(8,⟨rows aM.length (Zz aM),183,some ⟨2,aM.length,(Zz aM)⟩⟩),(9,⟨rows aK.length (Zz aK),88,some ⟨4,aK.length,(Zz aK)⟩⟩)],10,[],true⟩,[v9x],v9w⟩
 | .h3 v1 v2 v71 v72 v73 bX aS aD bD bE aU bF aC=>⟨⟨94,0,true⟩,none,(Zd prog 158 [1,1,1,0,0] 0),none,[],⟨Ya [(0,(.ptr 0 0)),(1,(ii v1)),(2,(ii v2)),(71,(.dat v71.length (Zz v71))),(72,(ii v72)),(73,(ii v73))],z9j [(0,⟨[(.sla 7 4 0 aD.length (.un 4)),(.dat bD.length (Zz bD)),(ii bE),(ii v2)],200,none⟩),(2,⟨[(.sla 3 1 0 aU (.un 1))],93,none⟩),(3,⟨rows bF.length (Zz bF),3,some ⟨1,bF.length,(Zz bF)⟩⟩),(4,⟨[(.sl 5 0 1 (.un 1))],171,none⟩),(5,(x1r l0)),(6,⟨[(.dat aC.length (Zz aC))],180,none⟩),(7,⟨rows aD.length (Zz aD),88,some ⟨4,aD.length,(Zz aD)⟩⟩)],8,[],true⟩,[⟨⟨29,0,true⟩,(Up prog 121 [1,1,0,1,0,1,0,1] 5),(Zd prog 121 [1,1,0,1,0,1,0,1] 1),(some 1),[],Ya [(4,(.ptr 0 0)),(21,(ii v1)),(23,(ii v2)),(24,(.dat bX.length (Zz bX)))]⟩,⟨⟨76,0,true⟩,(Up prog 182 [1,0,0,1,0,0,1,1,0] 2),(Zd prog 182 [1,0,0,1,0,0,1,1,0] 1),none,[],Ya [(0,(.yld 1)),(1,(.ptr 2 0)),(2,(.ptr 4 0)),(4,(ii aS)),(72,(.yld 1)),(73,(.agg [(ii v1),(ii v2),(.sl 6 0 1 (.ex 1))]))]⟩,⟨⟨29,0,true⟩,none,(.inRangeFunc 1::(Zd prog 121 [1,1,0,1,0] 1)),none,(Zy prog 15),Ya [(2,.nils),(3,(ii 0)),(4,(.ptr 0 0))]⟩],(y4p [(1,⟨.busy,none,29,Ya [(4,(.ptr 0 0))],[11],(Vy prog 121 [1,1,0,1,0,0]),(Vy prog 121 [1,1,0,1,0,1])⟩)])⟩
 | .h4 v2 v8 cJ bX aS aD bD bE bV cG cI aM=>⟨⟨94,0,true⟩,none,(Zd prog 158 [0,1,0,0,1,0,0] 0),none,[],⟨Ya [(0,(.ptr 0 0)),(2,(ii v2)),(8,(ii v8))],z9j [(0,⟨[(.sla 1 4 0 aD.length (.un 4)),(.dat bD.length (Zz bD)),(ii bE),(ii bV)],200,none⟩),(1,⟨rows aD.length (Zz aD),88,some ⟨4,aD.length,(Zz aD)⟩⟩),(3,⟨[(.sla 4 1 0 cG (.un 1))],93,none⟩),(4,⟨rows cI.length (Zz cI),3,some ⟨1,cI.length,(Zz cI)⟩⟩),(5,⟨[(.sl 6 0 1 (.un 1))],171,none⟩),(6,(x1r l0)),(7,⟨[(.dat aM.length (Zz aM))],180,none⟩)],8,[],true⟩,[⟨⟨29,0,true⟩,(Up prog 121 [1,1,0,1,0,1,0,1] 5),(Zd prog 121 [1,1,0,1,0,1,0,1] 1),(some 2),[],Ya [(4,(.ptr 0 0)),(21,(ii cJ)),(23,(ii v2)),(24,(.dat bX.length (Zz bX)))]⟩,⟨⟨76,0,true⟩,(Up prog 182 [1,0,0,1,0,0,1,1,0] 2),(Zd prog 182 [1,0,0,1,0,0,1,1,0] 1),none,[],Ya [(0,(.yld 2)),(1,(.ptr 3 0)),(2,(.ptr 5 0)),(4,(ii aS)),(72,(.yld 2)),(73,(.agg [(ii cJ),(ii v2),(.sl 7 0 1 (.ex 1))]))]⟩,⟨⟨29,0,true⟩,none,(.inRangeFunc 2::(Zd prog 121 [1,1,0,1,0] 1)),none,(Zy prog 15),Ya [(2,.nils),(3,(ii 0)),(4,(.ptr 0 0))]⟩],(y4p [(2,⟨.busy,none,29,Ya [(4,(.ptr 0 0))],[11],(Vy prog 121 [1,1,0,1,0,0]),(Vy prog 121 [1,1,0,1,0,1])⟩)])⟩
def madN0 :List (Option (List Nat)):=[some [1,3,8,9,10,14,15,16],some [2,3,4,9]]
def madM0 :List (Option (List Nat)):=[]
def u4e :List (Option (List Nat)):=[some [0,1,2,4],some [2,3,4]]
def u4f :List (Option (List Nat)):=[some [4],none,none,none,none,none,none]
def v4o :List (Option (List Nat)):=[some [0,1,2,4,5,6,29,30,31,36,37,38],some [2,3,4]]
def v4q :List (Option (List Nat)):=[some [4],none,none,none,none,none,none,none,none,none]
def v4n :List (Option (List Nat)):=[some [0,1,2,71,72,73],some [4,21,23,24],some [0,1,2,4,72,73],some [2,3,4]]
def v4p :List (Option (List Nat)):=[none,some [4],none,none,none,none,none,none]
def madN4 :List (Option (List Nat)):=[some [0,2,8],some [4,21,23,24],some [0,1,2,4,72,73],some [2,3,4]]
def madM4 :List (Option (List Nat)):=[none,none,some [4],none,none,none,none,none]
def Xa (l0:List R4):madS→Xf madS
 | .h0 v16 aA=>(bif (decide (v16<(l0.length:Int))) then (bif ((decide (0≤v16∧v16<(l0.length:Int)))&&true) then (bif (Nat.beq 1 1&&((decide (0+aA.length=aA.length))&&decide ((aA.length+2+1)*(8+1)≤Ur))) then (.to (.h0 (IntKind.wrap .i64 (v16+1)) (aA++[(rd l0 v16.toNat).a,(rd l0 v16.toNat).c]))) else .stuck) else .stuck) else (bif (decide (aA.length<4611686018427387904)) then (bif (decide (aA.length=aA.length)) then (.to (.h1 1 ([]:List R4) ([]:List R2) 0 0 (w4n (Zc aA.length (cOf (Zz (Yh (Zc aA.length (cOf (Zz aA)))))))) (Wz (Zc aA.length (cOf (Zz (Yh (Zc aA.length (cOf (Zz aA)))))))))) else .stuck) else .stuck))
 | .h1 v4 aK aP aT bG aU bF=>(bif (decide (v4<((aU:Nat):Int))) then (bif ((decide (0≤(IntKind.wrap .i64 (v4 - 1))∧(IntKind.wrap .i64 (v4 - 1))<((aU:Nat):Int)))&&true) then (bif (decide ((0+(Int.toNat (IntKind.wrap .i64 (v4 - 1))))<bF.length)) then (bif ((decide (0≤v4∧v4<((aU:Nat):Int)))&&true) then (bif (decide ((0+v4.toNat)<bF.length)) then (.to (.h2 v4 0 aK aP aT bG aU bF (rd bF (0+(Int.toNat (IntKind.wrap .i64 (v4 - 1))))) (rd bF (0+v4.toNat)) ([]:List R2))) else .stuck) else .stuck) else .stuck) else .stuck) else (bif (decide ((aK.length:Int)>400)) then (.ret [.nils,(.int .i64 4)]) else (.ret [(.dat aK.length (Zz aK)),(.int .i64 0)])))
 | .h2 v4 v38 aK aP aT bG aU bF aC cH aM=>(bif (decide (v38<(l0.length:Int))) then (bif ((decide (0≤v38∧v38<(l0.length:Int)))&&true) then (bif (decide ((rd l0 v38.toNat).a ≤aC)) then (bif (decide (aC<(rd l0 v38.toNat).c)) then (bif (Nat.beq 2 2&&((decide (0+aM.length=aM.length))&&decide ((aM.length+1+1)*(16+1)≤Ur))) then (.to (.h2 v4 (IntKind.wrap .i64 (v38+1)) aK aP aT bG aU bF aC cH (aM++[(R2.mk (rd l0 v38.toNat).b (rd l0 v38.toNat).d)]))) else .stuck) else (.to (.h2 v4 (IntKind.wrap .i64 (v38+1)) aK aP aT bG aU bF aC cH aM))) else (.to (.h2 v4 (IntKind.wrap .i64 (v38+1)) aK aP aT bG aU bF aC cH aM))) else .stuck) else (bif (y1x (cvT aM)) then (bif (decide ((((Xm (cvT aM)).length :Nat):Int)>0)) then (bif (bG == aC) then (bif (Vp (cvT aP) (cvT (Xm (cvT aM)))) then (bif (Kj (cvT aP) (cvT (Xm (cvT aM)))) then (.to (.h4 cH aT aC (Xm (cvT aM)) v4 aK aP aT bG aU bF aM)) else (.to (.h3 aC cH (Xm (cvT aM)) (((Xm (cvT aM)).length :Nat):Int) 0 (Xm (cvT aM)) v4 aK (Xm (cvT aM)) (aK.length:Int) aU bF aM))) else .stuck) else (.to (.h3 aC cH (Xm (cvT aM)) (((Xm (cvT aM)).length :Nat):Int) 0 (Xm (cvT aM)) v4 aK (Xm (cvT aM)) (aK.length:Int) aU bF aM))) else (.to (.h3 aC cH (Xm (cvT aM)) (((Xm (cvT aM)).length :Nat):Int) 0 (Xm (cvT aM)) v4 aK (Xm (cvT aM)) (aK.length:Int) aU bF aM))) else .stuck))
 | .h3 v1 v2 v71 v72 v73 bX aS aD bD bE aU bF aC=>(bif (decide (v73<v72)) then (bif ((decide (0≤v73∧v73<(v71.length:Int)))&&true) then (bif (Nat.beq 4 4&&((decide (0+aD.length=aD.length))&&decide ((aD.length+1+1)*(32+1)≤Ur))) then (.to (.h3 v1 v2 v71 v72 (IntKind.wrap .i64 (v73+1)) bX aS (aD++[(R4.mk v1 (rd v71 v73.toNat).a v2 (rd v71 v73.toNat).b)]) bD bE aU bF aC)) else .stuck) else .stuck) else (.to (.h1 (IntKind.wrap .i64 (aS+1)) aD bD bE v2 aU bF)))
 | .h4 v2 v8 cJ bX aS aD bD bE bV cG cI aM=>(bif (decide (v8<(aD.length:Int))) then (bif ((decide (0≤v8∧v8<(aD.length:Int)))&&true) then (bif (decide ((0+v8.toNat)<aD.length)) then (.to (.h4 v2 (IntKind.wrap .i64 (v8+1)) cJ bX aS (aD.set (0+v8.toNat) (R4.mk (rd aD (0+v8.toNat)).a (rd aD (0+v8.toNat)).b v2 (rd aD (0+v8.toNat)).d)) bD bE bV cG cI aM)) else .stuck) else .stuck) else (.to (.h1 (IntKind.wrap .i64 (aS+1)) aD bD bE v2 cG cI)))
def y8z (l0:List R4):Xf madS:=(.to (.h0 0 ([]:List Int)))
theorem w2q (l0:List R4): ∀s,Xj prog (Zy prog 121) (madC l0) (madC l0 s) (Xa l0 s)
 | .h0 v16 aA=>(lb (fun k0=>(lo fun o0=>(lo fun o1=>(sl Jd 32 [] ⟨[0,1,2,3,7],[],madN0,madM0⟩ ⟨[],[.keep,.keep,.cells [.len (y6q aA l0 v16).length],.keep,.rowed 1 (y6q aA l0 v16).length (Zz (y6q aA l0 v16))],[]⟩ [true] (pp (xL (aA.length+2) (y6q aA l0 v16).length) (pp (xL (aA.length+2) (y6q aA l0 v16).length) (pp (xS (aA.length+2) (Zh (Zz aA) 0 aA.length 1 [(ii (rd l0 (tn v16)).a),(ii (rd l0 (tn v16)).c)]) (Zz (y6q aA l0 v16))) (pp (pp (xF (Zh (Zz aA) 0 aA.length 1 [(ii (rd l0 (tn v16)).a),(ii (rd l0 (tn v16)).c)])) nn) (ww o1 (ww o0 (tt k0 nn))))))))))) (fun k0=>(lo fun o0=>(lo fun o1=>(sl Jd 46 [(88,4,Zz ([]:List R4))] ⟨[5,3,2,4,0,1,6],[],u4e,u4f⟩ ⟨[],[.keep,.cells [.grow 6 4,.list 0 (Zz ([]:List R2)),.keep,.keep],.keep,.rowed 1 (y6t aA).length (Zz (y6t aA)),.keep,.keep,.keep],[]⟩ (bl 2 0) (pp (xL aA.length (y6t aA).length (by first | exact z0w _ _ | exact Wi rfl)) (pp (xS aA.length (Zz (y6t aA)) (Zz (y6t aA))) (pp (fl (y6t aA) (fl ([]:List R4) nn)) (pp (pp (xG (Nat.beq 1 1)) (pp (xG (Nat.beq 1 1)) (pp (xG (Nat.beq 0 0)) (pp (xG (decide (aA.length=aA.length))) (pp (xG (isI (Zz (Yh (Zc aA.length (cOf (Zz aA))))))) (xG (decide (aA.length<4611686018427387904)))))))) (pp (pp (xG (Nat.beq 1 1)) (pp (xG (Nat.beq 1 1)) (pp (xG (Nat.beq 0 0)) (pp (xG (decide (aA.length=aA.length))) (pp (xG (isI (Zz aA))) (xG (decide (aA.length<4611686018427387904)))))))) (tt k0 nn)))))))))))
 | .h1 v4 aK aP aT bG aU bF=>(lb (fun k0=>(lo fun o0=>(lo fun o1=>(lo fun o2=>(lo fun o3=>(sl Jd 48 [(183,2,Zz ([]:List R2))] ⟨[0,1,2,3,4,5,7,8,9,6],[],v4o,v4q⟩ ⟨[],(kpB 7 [.cells [.grow 8 2],.keep,.keep]),[]⟩ (trs 3 []) (pp (fl bF (fl ([]:List R2) (fl aK nn))) (ww o3 (ww o2 (ww o1 (ww o0 (tt k0 nn)))))))))))) (fun k0=>(lb (fun k1=>(lr 29 3 [1,1,1,1,1,1,1,0] 1 15 [(2,.nils),(3,(ii 4))] (sl Jd 43 [] ⟨[],[],[some [2,3]],[]⟩ ⟨[],[],[]⟩ (bl 2 2) (tt k1 (tt k0 nn))))) (fun k1=>(lr 29 3 [1,1,1,1,1,1,1,0] 1 15 [(2,(.dat aK.length (Zz aK))),(3,(ii 0))] (sl Jd 48 [] ⟨[],[6],[some [2,3]],[]⟩ ⟨[(2,.frz aK.length aK.length (Zz aK) (Zz aK))],[],[]⟩ (bl 2 0) (pp (xZ (z5d 4 4 0 aK.length aK.length (Zz aK)) aK.length (Zz aK)) (pp (xL aK.length aK.length) (pp (xS aK.length (Zz aK) (Zz aK)) (pp (fl aK nn) (tt k1 (tt k0 nn))))))))))))
 | .h2 v4 v38 aK aP aT bG aU bF aC cH aM=>(lb (fun k0=>(lo fun aG=>(lb (fun k1=>(lb (fun k2=>(lo fun o0=>(sl Jd 39 [] ⟨[0,1,2,3,4,5,6,7,12,9],[],v4o,v4q⟩ ⟨[],(kpB 7 [.cells [.len (y6s aM l0 v38).length],.rowed 2 (y6s aM l0 v38).length (Zz (y6s aM l0 v38)),.keep]),[]⟩ (trs 7 []) (pp (xL (aM.length+1) (y6s aM l0 v38).length) (pp (xL (aM.length+1) (y6s aM l0 v38).length) (pp (xS (aM.length+1) (Zh (Zz aM) 0 aM.length 2 [(ii (rd l0 (tn v38)).b),(ii (rd l0 (tn v38)).d)]) (Zz (y6s aM l0 v38))) (pp (fl bF (pp (xF (Zh (Zz aM) 0 aM.length 2 [(ii (rd l0 (tn v38)).b),(ii (rd l0 (tn v38)).d)])) (fl aK nn))) (ww o0 (tt k2 (tt k1 (ww aG (tt k0 nn)))))))))))) (fun k2=>(sl Jd 39 [] ⟨(List.range 10),[],v4o,v4q⟩ ⟨[],[],[]⟩ (trs 6 [false]) (pp (fl bF (fl aM (fl aK nn))) (tt k2 (tt k1 (ww aG (tt k0 nn))))))))) (fun k1=>(sl Jd 39 [] ⟨(List.range 10),[],v4o,v4q⟩ ⟨[],[],[]⟩ (bl 7 1) (pp (fl bF (fl aM (fl aK nn))) (tt k1 (ww aG (tt k0 nn))))))))) (fun k0=>(We (sl Jd (C':=⟨⟨29,0,true⟩,(Up prog 121 [1,1,0,1,0,1,0,0] 4),(Zd prog 121 [1,1,0,1,0,1,0,0] 1),(some 0),[],⟨Ya [(4,(.ptr 1 0)),(5,(.ptr 3 0)),(16,(.dat aM.length (Zz aM)))],z9j [(1,⟨[(.sla 2 4 0 aK.length (.un 4)),(.dat aP.length (Zz aP)),(ii aT),(ii bG)],200,none⟩),(2,⟨rows aK.length (Zz aK),88,some ⟨4,aK.length,(Zz aK)⟩⟩),(3,⟨[(ii aC),(ii cH),(.sl 4 0 1 (.ex 1))],205,none⟩),(4,⟨[(.dat aM.length (Zz aM))],180,none⟩),(5,⟨[(.sla 6 1 0 aU (.un 1))],93,none⟩),(6,⟨rows bF.length (Zz bF),3,some ⟨1,bF.length,(Zz bF)⟩⟩),(7,⟨[(.sl 8 0 1 (.un 1))],171,none⟩),(8,⟨[(.dat l0.length (Zz l0))],99,none⟩)],9,[],true⟩,[⟨⟨76,0,true⟩,(Up prog 182 [1,0,0,1,0,0,1,1,0] 2),(Zd prog 182 [1,0,0,1,0,0,1,1,0] 1),none,[],Ya [(0,(.yld 0)),(1,(.ptr 5 0)),(2,(.ptr 7 0)),(4,(ii v4)),(72,(.yld 0)),(73,(.agg [(ii aC),(ii cH),(.sl 4 0 1 (.ex 1))]))]⟩,⟨⟨29,0,true⟩,none,(.inRangeFunc 0::(Zd prog 121 [1,1,0,1,0] 1)),none,(Zy prog 15),Ya [(2,.nils),(3,(ii 0)),(4,(.ptr 1 0))]⟩],(y4p [(0,⟨.busy,none,29,Ya [(4,(.ptr 1 0))],[11],(Vy prog 121 [1,1,0,1,0,0]),(Vy prog 121 [1,1,0,1,0,1])⟩)])⟩) 37 [] ⟨[0,1,9,10,7,2,3,4,5],[8],[some [4,5,16],some [0,1,2,4,72,73],some [2,3,4]],[some [4],none,none,none,none,none,none,none,none]⟩ ⟨[(16,.frz aM.length aM.length (Zz aM) (Zz aM))],[.keep,.keep,.keep,.keep,.cells [.frz aM.length aM.length (Zz aM) (Zz aM)],.keep,.keep,.keep,.keep],[]⟩ (bl 2 0) (pp (xZ (z5d 2 2 0 aM.length aM.length (Zz aM)) aM.length (Zz aM)) (pp (xL aM.length aM.length) (pp (xS aM.length (Zz aM) (Zz aM)) (pp (xZ (z5d 2 2 0 aM.length aM.length (Zz aM)) aM.length (Zz aM)) (pp (xL aM.length aM.length) (pp (xS aM.length (Zz aM) (Zz aM)) (pp (fl aK (fl bF nn)) (pp (fl aM nn) (tt k0 nn)))))))))) (lo fun aG=>(lb (fun k1=>(lb (fun k2=>(lo fun cB=>(lb (fun k3=>(sl Jd 49 [] ⟨[1,2,0,5,6,7,8,4],[],madN4,madM4⟩ ⟨[],[],[]⟩ (trs 13 []) (pp (fl aK (fl bF nn)) (tt k3 (pp (pp (xr aP) (pp (xI R2 (Xm (cvT aM)).length (Zz (Xm (cvT aM)))) (xw cB))) (tt k2 (tt k1 (pp (pp (xr aM) (xw aG)) nn)))))))) (fun k3=>(sl Jd 69 [] ⟨[1,0,5,6,7,8,4,2],[],v4n,v4p⟩ ⟨[],[],[]⟩ (trs 12 [false]) (pp (fl bF (fl aK nn)) (tt k3 (pp (pp (xr aP) (pp (xI R2 (Xm (cvT aM)).length (Zz (Xm (cvT aM)))) (xw cB))) (tt k2 (tt k1 (pp (pp (xr aM) (xw aG)) nn))))))))))) (fun k2=>(sl Jd 69 [] ⟨[1,0,5,6,7,8,4,2],[],v4n,v4p⟩ ⟨[],[],[]⟩ (trs 6 (bl 7 0)) (pp (fl bF (fl aK nn)) (tt k2 (tt k1 (pp (pp (xr aM) (xw aG)) nn)))))))) (fun k1=>(sl Jd 69 [] ⟨[1,0,5,6,7,8,4,2],[],v4n,v4p⟩ ⟨[],[],[]⟩ (bl 13 0) (pp (fl bF (fl aK nn)) (tt k1 (pp (pp (xr aM) (xw aG)) nn))))))))))
 | .h3 v1 v2 v71 v72 v73 bX aS aD bD bE aU bF aC=>(lb (fun k0=>(lo fun o0=>(lo fun o1=>(sl Jd 23 [] ⟨[0,1,2,3,4,5,6,10],[],v4n,v4p⟩ ⟨[],[.cells [.len (y6r aD v1 v71 v73 v2).length,.keep,.keep,.keep],.keep,.keep,.keep,.keep,.keep,.keep,.rowed 4 (y6r aD v1 v71 v73 v2).length (Zz (y6r aD v1 v71 v73 v2))],[]⟩ [true] (pp (xL (aD.length+1) (y6r aD v1 v71 v73 v2).length) (pp (xL (aD.length+1) (y6r aD v1 v71 v73 v2).length) (pp (xS (aD.length+1) (Zh (Zz aD) 0 aD.length 4 [(ii v1),(ii (rd v71 (tn v73)).a),(ii v2),(ii (rd v71 (tn v73)).b)]) (Zz (y6r aD v1 v71 v73 v2))) (pp (fl bF (pp (xF (Zh (Zz aD) 0 aD.length 4 [(ii v1),(ii (rd v71 (tn v73)).a),(ii v2),(ii (rd v71 (tn v73)).b)])) nn)) (ww o1 (ww o0 (tt k0 nn))))))))))) (fun k0=>(sl Jd 22 [] ⟨[1,0,2,3,4,5,7],[],u4e,u4f⟩ ⟨[],[],[]⟩ (bl 2 0) (pp (fl bF (fl aD nn)) (tt k0 nn)))))
 | .h4 v2 v8 cJ bX aS aD bD bE bV cG cI aM=>(lb (fun k0=>(lo fun o0=>(lo fun o1=>(sl Jd 33 [] ⟨(List.range 8),[],madN4,madM4⟩ ⟨[],[.cells [.len (y6u aD v8 v2).length,.keep,.keep,.keep],.rowed 4 (y6u aD v8 v2).length (Zz (y6u aD v8 v2)),.keep,.keep,.keep,.keep,.keep,.keep],[]⟩ [true] (pp (xL aD.length (y6u aD v8 v2).length) (pp (xL aD.length (y6u aD v8 v2).length) (pp (xS aD.length (Xb (Zz aD) (0+(tn v8)) 2 [(ii v2)]) (Zz (y6u aD v8 v2))) (pp (pp (xF (Xb (Zz aD) (0+(tn v8)) 2 [(ii v2)])) (fl cI nn)) (ww o1 (ww o0 (tt k0 nn))))))))))) (fun k0=>(sl Jd 36 [] ⟨[2,0,3,4,5,6,1],[],u4e,u4f⟩ ⟨[],[],[]⟩ (bl 2 0) (pp (fl cI (fl aD nn)) (tt k0 nn)))))
theorem x5t (l0:List R4):Xj prog (Zy prog 121) (madC l0) (Ze prog 121 [(.dat l0.length (Zz l0))] true []) (y8z l0):=(sl Jd 56 [(3,1,Zz ([]:List Int))] ⟨[2,1,3,0,4],[],madN0,madM0⟩ ⟨[],[.keep,.keep,.cells [.grow 4 1],.keep,.keep],[]⟩ [true] (pp (fl ([]:List Int) nn) nn))
theorem v4m (l0:List R4) (n:Nat) (vs:List AVal) (h:Yv (Xa l0) n (y8z l0)=.ret vs):Ky prog (Zy prog 121) (Ze prog 121 [(.dat l0.length (Zz l0))] true []) vs:=by have:=Zr (w2q l0) n _ (x5t l0);rwa [h] at this
end Go.Am
end
