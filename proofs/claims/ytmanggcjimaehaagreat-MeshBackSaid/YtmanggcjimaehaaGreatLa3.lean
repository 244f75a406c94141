/- A part of a proof: several texts in one. -/
import Derived.Test.YtmanggcjimaehaaGreatLa2
import Derived.Sort.AssemblyPlain
import Derived.Lib.BitFns
import Derived.Shelf.GgSortFunc.InsertionK
import Derived.Shelf.Sort.Plain
import Derived.Ground.Names2Prog
import Derived.Shelf.Slices.CompactI
import Derived.Shelf.Slices.SearchI
import Derived.Shelf.Slices.Cells
import Derived.Shelf.Slices.In.SortNone
import Derived.Shelf.SlSortCmp.WholeK
import Derived.Ground.SlsfProg
import Derived.Test.YtmanggcjimaehaaGreatProg
import Derived.Shelf.SlSortCmp.NoneTotal
set_option maxRecDepth 1000000
set_option maxHeartbeats 8000000
set_option linter.unusedVariables false
set_option linter.unusedSimpArgs false
noncomputable section
namespace Go.Am
open Go.Proofs.Tryz
open Go.Proofs
inductive rsortS where
 | h0 (v3:List Int) (v4:Int)
 | h1 (v3:List Int) (v4:Int) (v5:Int)
abbrev Uo (v3:List Int) (v5:Int) (l0:List Int) (v4:Int):=((w9o (v3++[0]) (0+(tn (wr (v5+1)))) (Nat.min ((v3.length+1) - (tn v5)) ((v3.length+1) - (tn (wr (v5+1))))) (z2v (v3++[0]) (0+(tn v5)) ((v3.length+1) - (tn v5)))).set (0+(tn v5)) (rd l0 (tn v4)))
abbrev Ky (v3:List Int):=(Zf (Zz v3) 0 v3.length 1 [(ii 0)])
abbrev y0k (v3:List Int) (v5:Int):=(Nat.min ((v3.length+1) - (tn v5)) ((v3.length+1) - (tn (wr (v5+1)))))
def w5j (l0:List Int):rsortS→Cfg
 | .h0 v3 v4=>⟨⟨63,0,true⟩,none,(Zc prog 70 [1,1,0,1,0,0] 0),none,(Zy prog 3),⟨Yb [(0,(.dat l0.length (Zz l0))),(3,(.sla 0 1 0 v3.length (.un 1))),(4,(ii v4))],Ug [⟨rows v3.length (Zz v3),3,some ⟨1,v3.length,(Zz v3)⟩⟩] 0,1,[],true⟩,[],.leaf⟩
 | .h1 v3 v4 v5=>⟨⟨63,0,true⟩,none,(Zc prog 70 [1,1,0,1,0,0,1,0,0,1,0,0,0] 0),none,(Zy prog 3),⟨Yb [(0,(.dat l0.length (Zz l0))),(3,(.sla 0 1 0 v3.length (.un 1))),(4,(ii v4)),(5,(ii v5))],Ug [⟨rows v3.length (Zz v3),3,some ⟨1,v3.length,(Zz v3)⟩⟩] 0,1,[],true⟩,[],.leaf⟩
def y7y :List (Option (List Nat)):=[some [0,3,4]]
def y7z :List (Option (List Nat)):=[]
def w5h :List (Option (List Nat)):=[some [0,3,4,5]]
def w5i :List (Option (List Nat)):=[]
def Vg (l0:List Int):rsortS→Xn rsortS
 | .h0 v3 v4=>(bif (decide (v4<(l0.length:Int))) then (.to (.h1 v3 v4 (v3.length:Int))) else (.ret [(.dat v3.length (Zz v3))]))
 | .h1 v3 v4 v5=>(bif (decide (v5>0)) then (bif ((decide (0≤(IntKind.wrap .i64 (v5 - 1))∧(IntKind.wrap .i64 (v5 - 1))<(v3.length:Int)))&&true) then (bif (decide ((0+(Int.toNat (IntKind.wrap .i64 (v5 - 1))))<v3.length)) then (bif ((decide (0≤v4∧v4<(l0.length:Int)))&&true) then (bif (decide ((rd v3 (0+(Int.toNat (IntKind.wrap .i64 (v5 - 1)))))>(rd l0 v4.toNat))) then (.to (.h1 v3 v4 (IntKind.wrap .i64 (v5 - 1)))) else (bif ((rd v3 (0+(Int.toNat (IntKind.wrap .i64 (v5 - 1))))) == (rd l0 v4.toNat)) then (.to (.h0 v3 (IntKind.wrap .i64 (v4+1)))) else (bif (Nat.beq 1 1&&((decide (0+v3.length=v3.length))&&decide ((v3.length+1+1)*(8+1)≤Ur))) then (bif (true&&((decide (0≤(IntKind.wrap .i64 (v5+1))))&&(decide ((v3.length+1)≤(v3.length+1))&&decide ((Int.toNat (IntKind.wrap .i64 (v5+1)))≤(v3.length+1))))) then (bif (true&&((decide (0≤v5))&&(decide ((v3.length+1)≤(v3.length+1))&&decide (v5.toNat≤(v3.length+1))))) then (bif (decide ((0+v5.toNat)+((v3.length+1) - v5.toNat)≤(v3.length+1))) then (bif (decide ((0+(Int.toNat (IntKind.wrap .i64 (v5+1))))+((v3.length+1) - (Int.toNat (IntKind.wrap .i64 (v5+1))))≤(v3.length+1))) then (bif ((decide (0≤v5∧v5<(((v3.length+1):Nat):Int)))&&true) then (bif (decide ((0+v5.toNat)<(v3.length+1))) then (.to (.h0 ((w9o (v3++[0]) (0+(Int.toNat (IntKind.wrap .i64 (v5+1)))) (Nat.min ((v3.length+1) - v5.toNat) ((v3.length+1) - (Int.toNat (IntKind.wrap .i64 (v5+1))))) (z2v (v3++[0]) (0+v5.toNat) ((v3.length+1) - v5.toNat))).set (0+v5.toNat) (rd l0 v4.toNat)) (IntKind.wrap .i64 (v4+1)))) else .stuck) else .stuck) else .stuck) else .stuck) else .stuck) else .stuck) else .stuck))) else .stuck) else .stuck) else .stuck) else (bif (Nat.beq 1 1&&((decide (0+v3.length=v3.length))&&decide ((v3.length+1+1)*(8+1)≤Ur))) then (bif (true&&((decide (0≤(IntKind.wrap .i64 (v5+1))))&&(decide ((v3.length+1)≤(v3.length+1))&&decide ((Int.toNat (IntKind.wrap .i64 (v5+1)))≤(v3.length+1))))) then (bif (true&&((decide (0≤v5))&&(decide ((v3.length+1)≤(v3.length+1))&&decide (v5.toNat≤(v3.length+1))))) then (bif (decide ((0+v5.toNat)+((v3.length+1) - v5.toNat)≤(v3.length+1))) then (bif (decide ((0+(Int.toNat (IntKind.wrap .i64 (v5+1))))+((v3.length+1) - (Int.toNat (IntKind.wrap .i64 (v5+1))))≤(v3.length+1))) then (bif ((decide (0≤v4∧v4<(l0.length:Int)))&&true) then (bif ((decide (0≤v5∧v5<(((v3.length+1):Nat):Int)))&&true) then (bif (decide ((0+v5.toNat)<(v3.length+1))) then (.to (.h0 ((w9o (v3++[0]) (0+(Int.toNat (IntKind.wrap .i64 (v5+1)))) (Nat.min ((v3.length+1) - v5.toNat) ((v3.length+1) - (Int.toNat (IntKind.wrap .i64 (v5+1))))) (z2v (v3++[0]) (0+v5.toNat) ((v3.length+1) - v5.toNat))).set (0+v5.toNat) (rd l0 v4.toNat)) (IntKind.wrap .i64 (v4+1)))) else .stuck) else .stuck) else .stuck) else .stuck) else .stuck) else .stuck) else .stuck) else .stuck))
def z3m (l0:List Int):Xn rsortS:=(.to (.h0 ([]:List Int) 0))
theorem x0i (l0:List Int): ∀s,Xk prog (Zy prog 70) (w5j l0) (w5j l0 s) (Vg l0 s)
 | .h0 v3 v4=>(lb (fun k0=>(sl Zp 21 [] ⟨[0],[],w5h,w5i⟩ ⟨[],[],[]⟩ [true] (pp (fl v3 nn) (tt k0 nn)))) (fun k0=>(lr 63 3 [1,1,1,1,1,1,1,0] 1 3 [(2,(.dat v3.length (Zz v3)))] (sl Zp 15 [] ⟨[],[0],[some [2]],[]⟩ ⟨[(2,.frz v3.length v3.length (Zz v3) (Zz v3))],[],[]⟩ [false] (pp (xZ (z5c 1 1 0 v3.length v3.length (Zz v3)) v3.length (Zz v3)) (pp (xL v3.length v3.length) (pp (xS v3.length (Zz v3) (Zz v3)) (pp (fl v3 nn) (tt k0 nn)))))))))
 | .h1 v3 v4 v5=>(lb (fun k0=>(lo fun aG=>(lo fun bA=>(lo fun bW=>(lb (fun k1=>(sl Zp 13 [] ⟨[0],[],w5h,w5i⟩ ⟨[],[],[]⟩ (trs 11 []) (pp (fl v3 nn) (tt k1 (ww bW (ww bA (ww aG (tt k0 nn)))))))) (fun k1=>(lb (fun k2=>(sl Zp 16 [] ⟨[0],[],y7y,y7z⟩ ⟨[],[],[]⟩ (trs 10 (bl 12 4094)) (pp (fl v3 nn) (tt k2 (ww bW (ww bA (ww aG (tt k0 (tt k1 (ww bW (ww bA (ww aG (tt k0 nn))))))))))))) (fun k2=>(lo fun o0=>(lo fun o1=>(lo fun o2=>(lo fun o3=>(lo fun o4=>(lo fun o5=>(lo fun o6=>(sl Zp 36 [] ⟨[2],[],y7y,y7z⟩ ⟨[(3,.len (Uo v3 v5 l0 v4).length)],[.rowed 1 (Uo v3 v5 l0 v4).length (Zz (Uo v3 v5 l0 v4))],[]⟩ (trs 10 (bl 12 2046)) (pp (xL (v3.length+1) (Uo v3 v5 l0 v4).length) (pp (xL (v3.length+1) (Uo v3 v5 l0 v4).length) (pp (xS (v3.length+1) (Xc (Uu (Ky v3) (0+(tn (wr (v5+1)))) (y0k v3 v5) (fun k=>(Ky v3) ((0+(tn v5))+k))) (0+(tn v5)) 0 [(ii (rd l0 (tn v4)))]) (Zz (Uo v3 v5 l0 v4))) (pp (pp (xF (Xc (Uu (Ky v3) (0+(tn (wr (v5+1)))) (y0k v3 v5) (fun k=>(Ky v3) ((0+(tn v5))+k))) (0+(tn v5)) 0 [(ii (rd l0 (tn v4)))])) nn) (ww o6 (ww o5 (ww bW (pp (pp (xG (Nat.beq 1 1)) (pp (xG (Nat.beq 1 1)) (pp (xw o4) (pp (xG (Nat.beq 1 1)) (pp (xG (Nat.beq 1 1)) (pp (xG (decide ((0+(tn v5))+((v3.length+1) - (tn v5))≤(v3.length+1)))) (xG (x2b 1 ((v3.length+1) - (tn v5)) (fun k=>(Ky v3) ((0+(tn v5))+k)))))))))) (ww o2 (ww o1 (ww o0 (tt k2 (ww bW (ww bA (ww aG (tt k0 (tt k1 (ww bW (ww bA (ww aG (tt k0 nn))))))))))))))))))))))))))))))))))))) (fun k0=>(lo fun o0=>(lo fun o1=>(lo fun o2=>(lo fun o3=>(lo fun o4=>(lo fun o5=>(lo fun o6=>(lo fun o7=>(sl Zp 36 [] ⟨[2],[],y7y,y7z⟩ ⟨[(3,.len (Uo v3 v5 l0 v4).length)],[.rowed 1 (Uo v3 v5 l0 v4).length (Zz (Uo v3 v5 l0 v4))],[]⟩ (bl 22 0) (pp (xL (v3.length+1) (Uo v3 v5 l0 v4).length) (pp (xL (v3.length+1) (Uo v3 v5 l0 v4).length) (pp (xS (v3.length+1) (Xc (Uu (Ky v3) (0+(tn (wr (v5+1)))) (y0k v3 v5) (fun k=>(Ky v3) ((0+(tn v5))+k))) (0+(tn v5)) 0 [(ii (rd l0 (tn v4)))]) (Zz (Uo v3 v5 l0 v4))) (pp (pp (xF (Xc (Uu (Ky v3) (0+(tn (wr (v5+1)))) (y0k v3 v5) (fun k=>(Ky v3) ((0+(tn v5))+k))) (0+(tn v5)) 0 [(ii (rd l0 (tn v4)))])) nn) (ww o7 (ww o6 (ww o5 (pp (pp (xG (Nat.beq 1 1)) (pp (xG (Nat.beq 1 1)) (pp (xw o4) (pp (xG (Nat.beq 1 1)) (pp (xG (Nat.beq 1 1)) (pp (xG (decide ((0+(tn v5))+((v3.length+1) - (tn v5))≤(v3.length+1)))) (xG (x2b 1 ((v3.length+1) - (tn v5)) (fun k=>(Ky v3) ((0+(tn v5))+k)))))))))) (ww o2 (ww o1 (ww o0 (tt k0 (tt k0 nn))))))))))))))))))))))))
theorem y7x (l0:List Int):Xk prog (Zy prog 70) (w5j l0) (Zd prog 70 [(.dat l0.length (Zz l0))] true []) (z3m l0):=(sl Zp 15 [(3,1,Zz ([]:List Int))] ⟨[0],[],y7y,y7z⟩ ⟨[(3,.grow 0 1)],[],[]⟩ [] (pp (fl ([]:List Int) nn) nn))
theorem w1g (l0:List Int) (n:Nat) (vs:List AVal) (h:Yj (Vg l0) n (z3m l0)=.ret vs):Kz prog (Zy prog 70) (Zd prog 70 [(.dat l0.length (Zz l0))] true []) vs:=by have:=Zo (x0i l0) n _ (y7x l0);rwa [h] at this
inductive rcanS where
 | h0 (v5:List R2) (v6:Int)
def u2e (l0:List Int) (l1:List Bool):rcanS→Cfg
 | .h0 v5 v6=>⟨⟨61,0,true⟩,none,(Zc prog 142 [1,1,0,1,0,0] 0),none,(Zy prog 5),⟨Yb [(0,(.dat l0.length (Zz l0))),(1,(.dat l1.length (Zz l1))),(5,(.sla 0 2 0 v5.length (.un 2))),(6,(ii v6))],Ug [⟨rows v5.length (Zz v5),183,some ⟨2,v5.length,(Zz v5)⟩⟩] 0,1,[],true⟩,[],.leaf⟩
def x0v :List (Option (List Nat)):=[some [0,1,5,6]]
def x0w :List (Option (List Nat)):=[]
def Ki (l0:List Int) (l1:List Bool):rcanS→Xn rcanS
 | .h0 v5 v6=>(bif (decide ((IntKind.wrap .i64 (v6+1))<(l0.length:Int))) then (bif ((decide (0≤v6∧v6<(l1.length:Int)))&&true) then (bif (!(rd l1 v6.toNat)) then (.to (.h0 v5 (IntKind.wrap .i64 (v6+1)))) else (bif (decide ((v5.length:Int)>0)) then (bif ((decide (0≤(IntKind.wrap .i64 ((v5.length:Int) - 1))∧(IntKind.wrap .i64 ((v5.length:Int) - 1))<(v5.length:Int)))&&true) then (bif (decide ((0+(Int.toNat (IntKind.wrap .i64 ((v5.length:Int) - 1))))<v5.length)) then (bif ((decide (0≤v6∧v6<(l0.length:Int)))&&true) then (bif ((rd v5 (0+(Int.toNat (IntKind.wrap .i64 ((v5.length:Int) - 1))))).b == (rd l0 v6.toNat)) then (bif ((decide (0≤(IntKind.wrap .i64 (v6+1))∧(IntKind.wrap .i64 (v6+1))<(l0.length:Int)))&&true) then (.to (.h0 (v5.set (0+(Int.toNat (IntKind.wrap .i64 ((v5.length:Int) - 1)))) (R2.mk (rd v5 (0+(Int.toNat (IntKind.wrap .i64 ((v5.length:Int) - 1))))).a (rd l0 (Int.toNat (IntKind.wrap .i64 (v6+1)))))) (IntKind.wrap .i64 (v6+1)))) else .stuck) else (bif ((decide (0≤(IntKind.wrap .i64 (v6+1))∧(IntKind.wrap .i64 (v6+1))<(l0.length:Int)))&&true) then (bif (Nat.beq 2 2&&((decide (0+v5.length=v5.length))&&decide ((v5.length+1+1)*(16+1)≤Ur))) then (.to (.h0 (v5++[(R2.mk (rd l0 v6.toNat) (rd l0 (Int.toNat (IntKind.wrap .i64 (v6+1)))))]) (IntKind.wrap .i64 (v6+1)))) else .stuck) else .stuck)) else .stuck) else .stuck) else .stuck) else (bif ((decide (0≤v6∧v6<(l0.length:Int)))&&true) then (bif ((decide (0≤(IntKind.wrap .i64 (v6+1))∧(IntKind.wrap .i64 (v6+1))<(l0.length:Int)))&&true) then (bif (Nat.beq 2 2&&((decide (0+v5.length=v5.length))&&decide ((v5.length+1+1)*(16+1)≤Ur))) then (.to (.h0 (v5++[(R2.mk (rd l0 v6.toNat) (rd l0 (Int.toNat (IntKind.wrap .i64 (v6+1)))))]) (IntKind.wrap .i64 (v6+1)))) else .stuck) else .stuck) else .stuck))) else .stuck) else (.ret [(.dat v5.length (Zz v5))]))
def z6e (l0:List Int) (l1:List Bool):Xn rcanS:=(.to (.h0 ([]:List R2) 0))
theorem x4p (l0:List Int) (l1:List Bool): ∀s,Xk prog (Zy prog 142) (u2e l0 l1) (u2e l0 l1 s) (Ki l0 l1 s)
 | .h0 v5 v6=>(lb (fun k0=>(lo fun aG=>(lb (fun k1=>(sl Zp 30 [] ⟨[0],[],x0v,x0w⟩ ⟨[],[],[]⟩ (bl 2 3) (pp (fl v5 nn) (tt k1 (ww aG (tt k0 nn)))))) (fun k1=>(lb (fun k2=>(lo fun bY=>(lo fun cQ=>(lo fun cR=>(lb (fun k3=>(lo fun o0=>(sl Zp 53 [] ⟨[0],[],x0v,x0w⟩ ⟨[(5,.len (v5.set (0+(tn (wr ((v5.length:Int) - 1)))) (R2.mk (rd v5 (0+(tn (wr ((v5.length:Int) - 1))))).a (rd l0 (tn (wr (v6+1)))))).length)],[.rowed 2 (v5.set (0+(tn (wr ((v5.length:Int) - 1)))) (R2.mk (rd v5 (0+(tn (wr ((v5.length:Int) - 1))))).a (rd l0 (tn (wr (v6+1)))))).length (Zz (v5.set (0+(tn (wr ((v5.length:Int) - 1)))) (R2.mk (rd v5 (0+(tn (wr ((v5.length:Int) - 1))))).a (rd l0 (tn (wr (v6+1)))))))],[]⟩ (bl 14 16381) (pp (xL v5.length (v5.set (0+(tn (wr ((v5.length:Int) - 1)))) (R2.mk (rd v5 (0+(tn (wr ((v5.length:Int) - 1))))).a (rd l0 (tn (wr (v6+1)))))).length) (pp (xL v5.length (v5.set (0+(tn (wr ((v5.length:Int) - 1)))) (R2.mk (rd v5 (0+(tn (wr ((v5.length:Int) - 1))))).a (rd l0 (tn (wr (v6+1)))))).length) (pp (xS v5.length (Xc (Zz v5) (0+(tn (wr ((v5.length:Int) - 1)))) 1 [(ii (rd l0 (tn (wr (v6+1)))))]) (Zz (v5.set (0+(tn (wr ((v5.length:Int) - 1)))) (R2.mk (rd v5 (0+(tn (wr ((v5.length:Int) - 1))))).a (rd l0 (tn (wr (v6+1)))))))) (pp (pp (xF (Xc (Zz v5) (0+(tn (wr ((v5.length:Int) - 1)))) 1 [(ii (rd l0 (tn (wr (v6+1)))))])) nn) (ww cQ (ww bY (ww o0 (tt k3 (ww cR (ww cQ (ww bY (tt k2 (tt k1 (ww aG (tt k0 nn)))))))))))))))))) (fun k3=>(lo fun o0=>(lo fun o1=>(sl Zp 41 [] ⟨[2],[],x0v,x0w⟩ ⟨[(5,.len (v5++[(R2.mk (rd l0 (tn v6)) (rd l0 (tn (wr (v6+1)))))]).length)],[.rowed 2 (v5++[(R2.mk (rd l0 (tn v6)) (rd l0 (tn (wr (v6+1)))))]).length (Zz (v5++[(R2.mk (rd l0 (tn v6)) (rd l0 (tn (wr (v6+1)))))]))],[]⟩ (bl 14 8189) (pp (xL (v5.length+1) (v5++[(R2.mk (rd l0 (tn v6)) (rd l0 (tn (wr (v6+1)))))]).length) (pp (xL (v5.length+1) (v5++[(R2.mk (rd l0 (tn v6)) (rd l0 (tn (wr (v6+1)))))]).length) (pp (xS (v5.length+1) (Zf (Zz v5) 0 v5.length 2 [(ii (rd l0 (tn v6))),(ii (rd l0 (tn (wr (v6+1)))))]) (Zz (v5++[(R2.mk (rd l0 (tn v6)) (rd l0 (tn (wr (v6+1)))))]))) (pp (pp (xF (Zf (Zz v5) 0 v5.length 2 [(ii (rd l0 (tn v6))),(ii (rd l0 (tn (wr (v6+1)))))])) nn) (ww o1 (ww o0 (ww cR (tt k3 (ww cR (ww cQ (ww bY (tt k2 (tt k1 (ww aG (tt k0 nn)))))))))))))))))))))))) (fun k2=>(lo fun o0=>(lo fun o1=>(lo fun o2=>(sl Zp 41 [] ⟨[2],[],x0v,x0w⟩ ⟨[(5,.len (v5++[(R2.mk (rd l0 (tn v6)) (rd l0 (tn (wr (v6+1)))))]).length)],[.rowed 2 (v5++[(R2.mk (rd l0 (tn v6)) (rd l0 (tn (wr (v6+1)))))]).length (Zz (v5++[(R2.mk (rd l0 (tn v6)) (rd l0 (tn (wr (v6+1)))))]))],[]⟩ (bl 14 1) (pp (xL (v5.length+1) (v5++[(R2.mk (rd l0 (tn v6)) (rd l0 (tn (wr (v6+1)))))]).length) (pp (xL (v5.length+1) (v5++[(R2.mk (rd l0 (tn v6)) (rd l0 (tn (wr (v6+1)))))]).length) (pp (xS (v5.length+1) (Zf (Zz v5) 0 v5.length 2 [(ii (rd l0 (tn v6))),(ii (rd l0 (tn (wr (v6+1)))))]) (Zz (v5++[(R2.mk (rd l0 (tn v6)) (rd l0 (tn (wr (v6+1)))))]))) (pp (pp (xF (Zf (Zz v5) 0 v5.length 2 [(ii (rd l0 (tn v6))),(ii (rd l0 (tn (wr (v6+1)))))])) nn) (ww o2 (ww o1 (ww o0 (tt k2 (tt k1 (ww aG (tt k0 nn))))))))))))))))))))) (fun k0=>(lr 61 3 [1,1,1,1,1,1,1,0] 1 5 [(4,(.dat v5.length (Zz v5)))] (sl Zp 16 [] ⟨[],[0],[some [4]],[]⟩ ⟨[(4,.frz v5.length v5.length (Zz v5) (Zz v5))],[],[]⟩ [false] (pp (xZ (z5c 2 2 0 v5.length v5.length (Zz v5)) v5.length (Zz v5)) (pp (xL v5.length v5.length) (pp (xS v5.length (Zz v5) (Zz v5)) (pp (fl v5 nn) (tt k0 nn)))))))))
theorem x0u (l0:List Int) (l1:List Bool):Xk prog (Zy prog 142) (u2e l0 l1) (Zd prog 142 [(.dat l0.length (Zz l0)),(.dat l1.length (Zz l1))] true []) (z6e l0 l1):=(sl Zp 15 [(183,2,Zz ([]:List R2))] ⟨[0],[],x0v,x0w⟩ ⟨[(5,.grow 0 2)],[],[]⟩ [] (pp (fl ([]:List R2) nn) nn))
theorem w6k (l0:List Int) (l1:List Bool) (n:Nat) (vs:List AVal) (h:Yj (Ki l0 l1) n (z6e l0 l1)=.ret vs):Kz prog (Zy prog 142) (Zd prog 142 [(.dat l0.length (Zz l0)),(.dat l1.length (Zz l1))] true []) vs:=by have:=Zo (x4p l0 l1) n _ (x0u l0 l1);rwa [h] at this
inductive rsmS where
 | h0 (v5:Int)
def rsmC (l0:List R2) (l1:List R2):rsmS→Cfg
 | .h0 v5=>⟨⟨26,0,true⟩,none,(Zc prog 169 [1,1,0,1,0,0] 0),none,(Zy prog 5),⟨Yb [(0,(.dat l0.length (Zz l0))),(1,(.dat l1.length (Zz l1))),(5,(ii v5))],Ug [] 0,0,[],true⟩,[],.leaf⟩
def rsmN0 :List (Option (List Nat)):=[some [0,1,5]]
def rsmM0 :List (Option (List Nat)):=[]
def z4r (l0:List R2) (l1:List R2):rsmS→Xn rsmS
 | .h0 v5=>(bif (decide (v5<(l0.length:Int))) then (bif ((decide (0≤v5∧v5<(l0.length:Int)))&&true) then (bif ((decide (0≤v5∧v5<(l1.length:Int)))&&true) then (bif (!(((rd l0 v5.toNat).a == (rd l1 v5.toNat).a)&&(((rd l0 v5.toNat).b == (rd l1 v5.toNat).b)&&true))) then (.ret [(.bool false)]) else (.to (.h0 (IntKind.wrap .i64 (v5+1))))) else .stuck) else .stuck) else (.ret [(.bool true)]))
def z5t (l0:List R2) (l1:List R2):Xn rsmS:=(bif ((l0.length:Int) != (l1.length:Int)) then (.ret [(.bool false)]) else (.to (.h0 0)))
theorem w1h (l0:List R2) (l1:List R2): ∀s,Xk prog (Zy prog 169) (rsmC l0 l1) (rsmC l0 l1 s) (z4r l0 l1 s)
 | .h0 v5=>(lb (fun k0=>(lo fun aG=>(lo fun bA=>(lb (fun k1=>(lr 26 169 [1,1,0,1,0,0,1,0,0,1,0,0] 1 5 [(4,(.bool false))] (sl Zp 19 [] ⟨[],[],[some [4]],[]⟩ ⟨[],[],[]⟩ (bl 2 3) (tt k1 (ww bA (ww aG (tt k0 nn))))))) (fun k1=>(sl Zp 23 [] ⟨[],[],rsmN0,rsmM0⟩ ⟨[],[],[]⟩ (bl 2 1) (tt k1 (ww bA (ww aG (tt k0 nn)))))))))) (fun k0=>(lr 26 3 [1,1,1,1,1,1,1,0] 1 5 [(4,(.bool true))] (sl Zp 14 [] ⟨[],[],[some [4]],[]⟩ ⟨[],[],[]⟩ [false] (tt k0 nn)))))
theorem x3y (l0:List R2) (l1:List R2):Xk prog (Zy prog 169) (rsmC l0 l1) (Zd prog 169 [(.dat l0.length (Zz l0)),(.dat l1.length (Zz l1))] true []) (z5t l0 l1):=(lb (fun k0=>(lr 26 169 [1,0,1,0,0] 1 5 [(4,(.bool false))] (sl Zp 18 [] ⟨[],[],[some [4]],[]⟩ ⟨[],[],[]⟩ [true] (tt k0 nn)))) (fun k0=>(sl Zp 22 [] ⟨[],[],rsmN0,rsmM0⟩ ⟨[],[],[]⟩ [false] (tt k0 nn))))
theorem v1t (l0:List R2) (l1:List R2) (n:Nat) (vs:List AVal) (h:Yj (z4r l0 l1) n (z5t l0 l1)=.ret vs):Kz prog (Zy prog 169) (Zd prog 169 [(.dat l0.length (Zz l0)),(.dat l1.length (Zz l1))] true []) vs:=by have:=Zo (w1h l0 l1) n _ (x3y l0 l1);rwa [h] at this
inductive rhasS where
 | h0 (v7:Int)
def u1v (l0:List R4) (x1:Int) (x2:Int):rhasS→Cfg
 | .h0 v7=>⟨⟨48,0,true⟩,none,(Zc prog 168 [1,0,1,0,0] 0),none,(Zy prog 8),⟨Yb [(0,(.dat l0.length (Zz l0))),(1,(ii x1)),(2,(ii x2)),(7,(ii v7))],Ug [] 0,0,[],true⟩,[],.leaf⟩
def x0l :List (Option (List Nat)):=[some [0,1,2,7]]
def x0m :List (Option (List Nat)):=[]
def z3p (l0:List R4) (x1:Int) (x2:Int):rhasS→Xn rhasS
 | .h0 v7=>(bif (decide (v7<(l0.length:Int))) then (bif ((decide (0≤v7∧v7<(l0.length:Int)))&&true) then (bif (decide ((rd l0 v7.toNat).a ≤x1)) then (bif (decide (x1<(rd l0 v7.toNat).c)) then (bif (decide ((rd l0 v7.toNat).b ≤x2)) then (bif (decide (x2<(rd l0 v7.toNat).d)) then (.ret [(.bool true)]) else (.to (.h0 (IntKind.wrap .i64 (v7+1))))) else (.to (.h0 (IntKind.wrap .i64 (v7+1))))) else (.to (.h0 (IntKind.wrap .i64 (v7+1))))) else (.to (.h0 (IntKind.wrap .i64 (v7+1))))) else .stuck) else (.ret [(.bool false)]))
def z5x (l0:List R4) (x1:Int) (x2:Int):Xn rhasS:=(.to (.h0 0))
theorem x4g (l0:List R4) (x1:Int) (x2:Int): ∀s,Xk prog (Zy prog 168) (u1v l0 x1 x2) (u1v l0 x1 x2 s) (z3p l0 x1 x2 s)
 | .h0 v7=>(lb (fun k0=>(lo fun aG=>(lb (fun k1=>(lb (fun k2=>(lb (fun k3=>(lb (fun k4=>(lr 48 168 [1,0,1,0,0,1,0,0,1,0,0] 1 8 [(6,(.bool true))] (sl Zp 54 [] ⟨[],[],[some [6]],[]⟩ ⟨[],[],[]⟩ (trs 23 []) (tt k4 (ww aG (tt k3 (ww aG (tt k2 (ww aG (tt k1 (ww aG (tt k0 nn)))))))))))) (fun k4=>(sl Zp 58 [] ⟨[],[],x0l,x0m⟩ ⟨[],[],[]⟩ (trs 22 [false]) (tt k4 (ww aG (tt k3 (ww aG (tt k2 (ww aG (tt k1 (ww aG (tt k0 nn))))))))))))) (fun k3=>(sl Zp 58 [] ⟨[],[],x0l,x0m⟩ ⟨[],[],[]⟩ (trs 15 (bl 8 0)) (tt k3 (ww aG (tt k2 (ww aG (tt k1 (ww aG (tt k0 nn))))))))))) (fun k2=>(sl Zp 58 [] ⟨[],[],x0l,x0m⟩ ⟨[],[],[]⟩ (trs 8 (bl 15 0)) (tt k2 (ww aG (tt k1 (ww aG (tt k0 nn))))))))) (fun k1=>(sl Zp 58 [] ⟨[],[],x0l,x0m⟩ ⟨[],[],[]⟩ (bl 23 1) (tt k1 (ww aG (tt k0 nn)))))))) (fun k0=>(lr 48 3 [1,1,1,1,1,1,1,0] 1 8 [(6,(.bool false))] (sl Zp 14 [] ⟨[],[],[some [6]],[]⟩ ⟨[],[],[]⟩ [false] (tt k0 nn)))))
theorem x0k (l0:List R4) (x1:Int) (x2:Int):Xk prog (Zy prog 168) (u1v l0 x1 x2) (Zd prog 168 [(.dat l0.length (Zz l0)),(.int .i64 x1),(.int .i64 x2)] true []) (z5x l0 x1 x2):=(sl Zp 11 [] ⟨[],[],x0l,x0m⟩ ⟨[],[],[]⟩ [] nn)
theorem w5t (l0:List R4) (x1:Int) (x2:Int) (n:Nat) (vs:List AVal) (h:Yj (z3p l0 x1 x2) n (z5x l0 x1 x2)=.ret vs):Kz prog (Zy prog 168) (Zd prog 168 [(.dat l0.length (Zz l0)),(.int .i64 x1),(.int .i64 x2)] true []) vs:=by have:=Zo (x4g l0 x1 x2) n _ (x0k l0 x1 x2);rwa [h] at this
inductive rsrS where
 | h0 (v5:Int)
def rsrC (l0:List R4) (l1:List R4):rsrS→Cfg
 | .h0 v5=>⟨⟨26,0,true⟩,none,(Zc prog 128 [1,1,0,1,0,0] 0),none,(Zy prog 5),⟨Yb [(0,(.dat l0.length (Zz l0))),(1,(.dat l1.length (Zz l1))),(5,(ii v5))],Ug [] 0,0,[],true⟩,[],.leaf⟩
def rsrN0 :List (Option (List Nat)):=[some [0,1,5]]
def rsrM0 :List (Option (List Nat)):=[]
def z4q (l0:List R4) (l1:List R4):rsrS→Xn rsrS
 | .h0 v5=>(bif (decide (v5<(l0.length:Int))) then (bif ((decide (0≤v5∧v5<(l0.length:Int)))&&true) then (bif ((decide (0≤v5∧v5<(l1.length:Int)))&&true) then (bif (!(((rd l0 v5.toNat).a == (rd l1 v5.toNat).a)&&(((rd l0 v5.toNat).b == (rd l1 v5.toNat).b)&&(((rd l0 v5.toNat).c == (rd l1 v5.toNat).c)&&(((rd l0 v5.toNat).d == (rd l1 v5.toNat).d)&&true))))) then (.ret [(.bool false)]) else (.to (.h0 (IntKind.wrap .i64 (v5+1))))) else .stuck) else .stuck) else (.ret [(.bool true)]))
def z5s (l0:List R4) (l1:List R4):Xn rsrS:=(bif ((l0.length:Int) != (l1.length:Int)) then (.ret [(.bool false)]) else (.to (.h0 0)))
theorem w1f (l0:List R4) (l1:List R4): ∀s,Xk prog (Zy prog 128) (rsrC l0 l1) (rsrC l0 l1 s) (z4q l0 l1 s)
 | .h0 v5=>(lb (fun k0=>(lo fun aG=>(lo fun bA=>(lb (fun k1=>(lr 26 128 [1,1,0,1,0,0,1,0,0,1,0,0] 1 5 [(4,(.bool false))] (sl Zp 19 [] ⟨[],[],[some [4]],[]⟩ ⟨[],[],[]⟩ (bl 2 3) (tt k1 (ww bA (ww aG (tt k0 nn))))))) (fun k1=>(sl Zp 23 [] ⟨[],[],rsrN0,rsrM0⟩ ⟨[],[],[]⟩ (bl 2 1) (tt k1 (ww bA (ww aG (tt k0 nn)))))))))) (fun k0=>(lr 26 3 [1,1,1,1,1,1,1,0] 1 5 [(4,(.bool true))] (sl Zp 14 [] ⟨[],[],[some [4]],[]⟩ ⟨[],[],[]⟩ [false] (tt k0 nn)))))
theorem x3x (l0:List R4) (l1:List R4):Xk prog (Zy prog 128) (rsrC l0 l1) (Zd prog 128 [(.dat l0.length (Zz l0)),(.dat l1.length (Zz l1))] true []) (z5s l0 l1):=(lb (fun k0=>(lr 26 128 [1,0,1,0,0] 1 5 [(4,(.bool false))] (sl Zp 18 [] ⟨[],[],[some [4]],[]⟩ ⟨[],[],[]⟩ [true] (tt k0 nn)))) (fun k0=>(sl Zp 22 [] ⟨[],[],rsrN0,rsrM0⟩ ⟨[],[],[]⟩ [false] (tt k0 nn))))
theorem v1s (l0:List R4) (l1:List R4) (n:Nat) (vs:List AVal) (h:Yj (z4q l0 l1) n (z5s l0 l1)=.ret vs):Kz prog (Zy prog 128) (Zd prog 128 [(.dat l0.length (Zz l0)),(.dat l1.length (Zz l1))] true []) vs:=by have:=Zo (w1f l0 l1) n _ (x3x l0 l1);rwa [h] at this
inductive rsbS where
 | h0 (v5:Int)
def rsbC (l0:List R6) (l1:List R6):rsbS→Cfg
 | .h0 v5=>⟨⟨26,0,true⟩,none,(Zc prog 20 [1,1,0,1,0,0] 0),none,(Zy prog 5),⟨Yb [(0,(.dat l0.length (Zz l0))),(1,(.dat l1.length (Zz l1))),(5,(ii v5))],Ug [] 0,0,[],true⟩,[],.leaf⟩
def rsbN0 :List (Option (List Nat)):=[some [0,1,5]]
def rsbM0 :List (Option (List Nat)):=[]
def z4s (l0:List R6) (l1:List R6):rsbS→Xn rsbS
 | .h0 v5=>(bif (decide (v5<(l0.length:Int))) then (bif ((decide (0≤v5∧v5<(l0.length:Int)))&&true) then (bif ((decide (0≤v5∧v5<(l1.length:Int)))&&true) then (bif (!((((rd l0 v5.toNat).a == (rd l1 v5.toNat).a)&&(((rd l0 v5.toNat).b == (rd l1 v5.toNat).b)&&(((rd l0 v5.toNat).c == (rd l1 v5.toNat).c)&&true)))&&((((rd l0 v5.toNat).d == (rd l1 v5.toNat).d)&&(((rd l0 v5.toNat).e == (rd l1 v5.toNat).e)&&(((rd l0 v5.toNat).f == (rd l1 v5.toNat).f)&&true)))&&true))) then (.ret [(.bool false)]) else (.to (.h0 (IntKind.wrap .i64 (v5+1))))) else .stuck) else .stuck) else (.ret [(.bool true)]))
def z5u (l0:List R6) (l1:List R6):Xn rsbS:=(bif ((l0.length:Int) != (l1.length:Int)) then (.ret [(.bool false)]) else (.to (.h0 0)))
theorem w1i (l0:List R6) (l1:List R6): ∀s,Xk prog (Zy prog 20) (rsbC l0 l1) (rsbC l0 l1 s) (z4s l0 l1 s)
 | .h0 v5=>(lb (fun k0=>(lo fun aG=>(lo fun bA=>(lb (fun k1=>(lr 26 20 [1,1,0,1,0,0,1,0,0,1,0,0] 1 5 [(4,(.bool false))] (sl Zp 19 [] ⟨[],[],[some [4]],[]⟩ ⟨[],[],[]⟩ (bl 2 3) (tt k1 (ww bA (ww aG (tt k0 nn))))))) (fun k1=>(sl Zp 23 [] ⟨[],[],rsbN0,rsbM0⟩ ⟨[],[],[]⟩ (bl 2 1) (tt k1 (ww bA (ww aG (tt k0 nn)))))))))) (fun k0=>(lr 26 3 [1,1,1,1,1,1,1,0] 1 5 [(4,(.bool true))] (sl Zp 14 [] ⟨[],[],[some [4]],[]⟩ ⟨[],[],[]⟩ [false] (tt k0 nn)))))
theorem x3z (l0:List R6) (l1:List R6):Xk prog (Zy prog 20) (rsbC l0 l1) (Zd prog 20 [(.dat l0.length (Zz l0)),(.dat l1.length (Zz l1))] true []) (z5u l0 l1):=(lb (fun k0=>(lr 26 20 [1,0,1,0,0] 1 5 [(4,(.bool false))] (sl Zp 18 [] ⟨[],[],[some [4]],[]⟩ ⟨[],[],[]⟩ [true] (tt k0 nn)))) (fun k0=>(sl Zp 22 [] ⟨[],[],rsbN0,rsbM0⟩ ⟨[],[],[]⟩ [false] (tt k0 nn))))
theorem v1u (l0:List R6) (l1:List R6) (n:Nat) (vs:List AVal) (h:Yj (z4s l0 l1) n (z5u l0 l1)=.ret vs):Kz prog (Zy prog 20) (Zd prog 20 [(.dat l0.length (Zz l0)),(.dat l1.length (Zz l1))] true []) vs:=by have:=Zo (w1i l0 l1) n _ (x3z l0 l1);rwa [h] at this
inductive ratS where
 | h0 (v5:List R4) (v6:Int)
def ratC (l0:List R6) (x1:Int):ratS→Cfg
 | .h0 v5 v6=>⟨⟨60,0,true⟩,none,(Zc prog 127 [1,1,0,1,0,0] 0),none,(Zy prog 5),⟨Yb [(0,(.dat l0.length (Zz l0))),(1,(ii x1)),(5,(.sla 0 4 0 v5.length (.un 4))),(6,(ii v6))],Ug [⟨rows v5.length (Zz v5),88,some ⟨4,v5.length,(Zz v5)⟩⟩] 0,1,[],true⟩,[],.leaf⟩
def v2s :List (Option (List Nat)):=[some [0,1,5,6]]
def v2t :List (Option (List Nat)):=[]
def z4t (l0:List R6) (x1:Int):ratS→Xn ratS
 | .h0 v5 v6=>(bif (decide (v6<(l0.length:Int))) then (bif ((decide (0≤v6∧v6<(l0.length:Int)))&&true) then (bif (decide ((rd l0 v6.toNat).c ≤x1)) then (bif (decide (x1<(rd l0 v6.toNat).f)) then (bif (Nat.beq 4 4&&((decide (0+v5.length=v5.length))&&decide ((v5.length+1+1)*(32+1)≤Ur))) then (.to (.h0 (v5++[(R4.mk (rd l0 v6.toNat).a (rd l0 v6.toNat).b (rd l0 v6.toNat).d (rd l0 v6.toNat).e)]) (IntKind.wrap .i64 (v6+1)))) else .stuck) else (.to (.h0 v5 (IntKind.wrap .i64 (v6+1))))) else (.to (.h0 v5 (IntKind.wrap .i64 (v6+1))))) else .stuck) else (.ret [(.dat v5.length (Zz v5))]))
def y0q (l0:List R6) (x1:Int):Xn ratS:=(.to (.h0 ([]:List R4) 0))
theorem w1r (l0:List R6) (x1:Int): ∀s,Xk prog (Zy prog 127) (ratC l0 x1) (ratC l0 x1 s) (z4t l0 x1 s)
 | .h0 v5 v6=>(lb (fun k0=>(lo fun aG=>(lb (fun k1=>(lb (fun k2=>(lo fun o0=>(sl Zp 42 [] ⟨[2],[],v2s,v2t⟩ ⟨[(5,.len (v5++[(R4.mk (rd l0 (tn v6)).a (rd l0 (tn v6)).b (rd l0 (tn v6)).d (rd l0 (tn v6)).e)]).length)],[.rowed 4 (v5++[(R4.mk (rd l0 (tn v6)).a (rd l0 (tn v6)).b (rd l0 (tn v6)).d (rd l0 (tn v6)).e)]).length (Zz (v5++[(R4.mk (rd l0 (tn v6)).a (rd l0 (tn v6)).b (rd l0 (tn v6)).d (rd l0 (tn v6)).e)]))],[]⟩ (trs 10 []) (pp (xL (v5.length+1) (v5++[(R4.mk (rd l0 (tn v6)).a (rd l0 (tn v6)).b (rd l0 (tn v6)).d (rd l0 (tn v6)).e)]).length) (pp (xL (v5.length+1) (v5++[(R4.mk (rd l0 (tn v6)).a (rd l0 (tn v6)).b (rd l0 (tn v6)).d (rd l0 (tn v6)).e)]).length) (pp (xS (v5.length+1) (Zf (Zz v5) 0 v5.length 4 [(ii (rd l0 (tn v6)).a),(ii (rd l0 (tn v6)).b),(ii (rd l0 (tn v6)).d),(ii (rd l0 (tn v6)).e)]) (Zz (v5++[(R4.mk (rd l0 (tn v6)).a (rd l0 (tn v6)).b (rd l0 (tn v6)).d (rd l0 (tn v6)).e)]))) (pp (pp (xF (Zf (Zz v5) 0 v5.length 4 [(ii (rd l0 (tn v6)).a),(ii (rd l0 (tn v6)).b),(ii (rd l0 (tn v6)).d),(ii (rd l0 (tn v6)).e)])) nn) (ww o0 (ww aG (ww aG (ww aG (ww aG (tt k2 (ww aG (tt k1 (ww aG (tt k0 nn))))))))))))))))) (fun k2=>(sl Zp 42 [] ⟨[0],[],v2s,v2t⟩ ⟨[],[],[]⟩ (trs 9 [false]) (pp (fl v5 nn) (tt k2 (ww aG (tt k1 (ww aG (tt k0 nn)))))))))) (fun k1=>(sl Zp 42 [] ⟨[0],[],v2s,v2t⟩ ⟨[],[],[]⟩ (bl 10 1) (pp (fl v5 nn) (tt k1 (ww aG (tt k0 nn))))))))) (fun k0=>(lr 60 3 [1,1,1,1,1,1,1,0] 1 5 [(4,(.dat v5.length (Zz v5)))] (sl Zp 15 [] ⟨[],[0],[some [4]],[]⟩ ⟨[(4,.frz v5.length v5.length (Zz v5) (Zz v5))],[],[]⟩ [false] (pp (xZ (z5c 4 4 0 v5.length v5.length (Zz v5)) v5.length (Zz v5)) (pp (xL v5.length v5.length) (pp (xS v5.length (Zz v5) (Zz v5)) (pp (fl v5 nn) (tt k0 nn)))))))))
theorem x4q (l0:List R6) (x1:Int):Xk prog (Zy prog 127) (ratC l0 x1) (Zd prog 127 [(.dat l0.length (Zz l0)),(.int .i64 x1)] true []) (y0q l0 x1):=(sl Zp 15 [(88,4,Zz ([]:List R4))] ⟨[0],[],v2s,v2t⟩ ⟨[(5,.grow 0 4)],[],[]⟩ [] (pp (fl ([]:List R4) nn) nn))
theorem v2r (l0:List R6) (x1:Int) (n:Nat) (vs:List AVal) (h:Yj (z4t l0 x1) n (y0q l0 x1)=.ret vs):Kz prog (Zy prog 127) (Zd prog 127 [(.dat l0.length (Zz l0)),(.int .i64 x1)] true []) vs:=by have:=Zo (w1r l0 x1) n _ (x4q l0 x1);rwa [h] at this
inductive eqaS where
 | h0 (v13:Int)
def eqaC (l0:List R2) (l1:List R2):eqaS→Cfg
 | .h0 v13=>⟨⟨26,0,true⟩,none,(Zc prog 188 [1,1,0,1,0,0] 0),none,(Zy prog 5),⟨Yb [(0,(.dat l0.length (Zz l0))),(1,(.dat l1.length (Zz l1))),(12,(ii (l0.length:Int))),(13,(ii v13))],Ug [] 0,0,[],true⟩,[],.leaf⟩
def eqaN0 :List (Option (List Nat)):=[some [0,1,12,13]]
def eqaM0 :List (Option (List Nat)):=[]
def z5h (l0:List R2) (l1:List R2):eqaS→Xn eqaS
 | .h0 v13=>(bif (decide (v13<(l0.length:Int))) then (bif ((decide (0≤v13∧v13<(l0.length:Int)))&&true) then (bif ((decide (0≤v13∧v13<(l1.length:Int)))&&true) then (bif (!(((rd l0 v13.toNat).a == (rd l1 v13.toNat).a)&&(((rd l0 v13.toNat).b == (rd l1 v13.toNat).b)&&true))) then (.ret [(.bool false)]) else (.to (.h0 (IntKind.wrap .i64 (v13+1))))) else .stuck) else .stuck) else (.ret [(.bool true)]))
def z6s (l0:List R2) (l1:List R2):Xn eqaS:=(bif ((l0.length:Int) != (l1.length:Int)) then (.ret [(.bool false)]) else (.to (.h0 0)))
theorem w3b (l0:List R2) (l1:List R2): ∀s,Xk prog (Zy prog 188) (eqaC l0 l1) (eqaC l0 l1 s) (z5h l0 l1 s)
 | .h0 v13=>(lb (fun k0=>(lo fun aG=>(lo fun bA=>(lb (fun k1=>(lr 26 188 [1,1,0,1,0,0,1,1,0,0,1,1,0,0] 1 5 [(4,(.bool false))] (sl Zp 21 [] ⟨[],[],[some [4]],[]⟩ ⟨[],[],[]⟩ (bl 2 3) (tt k1 (ww bA (ww aG (tt k0 nn))))))) (fun k1=>(sl Zp 24 [] ⟨[],[],eqaN0,eqaM0⟩ ⟨[],[],[]⟩ (bl 2 1) (tt k1 (ww bA (ww aG (tt k0 nn)))))))))) (fun k0=>(lr 26 3 [1,1,1,1,1,1,1,0] 1 5 [(4,(.bool true))] (sl Zp 11 [] ⟨[],[],[some [4]],[]⟩ ⟨[],[],[]⟩ [false] (tt k0 nn)))))
theorem x6k (l0:List R2) (l1:List R2):Xk prog (Zy prog 188) (eqaC l0 l1) (Zd prog 188 [(.dat l0.length (Zz l0)),(.dat l1.length (Zz l1))] true []) (z6s l0 l1):=(lb (fun k0=>(lr 26 188 [1,0,1,0,0] 1 5 [(4,(.bool false))] (sl Zp 18 [] ⟨[],[],[some [4]],[]⟩ ⟨[],[],[]⟩ [true] (tt k0 nn)))) (fun k0=>(sl Zp 24 [] ⟨[],[],eqaN0,eqaM0⟩ ⟨[],[],[]⟩ [false] (tt k0 nn))))
theorem v4z (l0:List R2) (l1:List R2) (n:Nat) (vs:List AVal) (h:Yj (z5h l0 l1) n (z6s l0 l1)=.ret vs):Kz prog (Zy prog 188) (Zd prog 188 [(.dat l0.length (Zz l0)),(.dat l1.length (Zz l1))] true []) vs:=by have:=Zo (w3b l0 l1) n _ (x6k l0 l1);rwa [h] at this
inductive eqbS where
 | h0 (v13:Int)
def eqbC (l0:List R4) (l1:List R4):eqbS→Cfg
 | .h0 v13=>⟨⟨26,0,true⟩,none,(Zc prog 172 [1,1,0,1,0,0] 0),none,(Zy prog 5),⟨Yb [(0,(.dat l0.length (Zz l0))),(1,(.dat l1.length (Zz l1))),(12,(ii (l0.length:Int))),(13,(ii v13))],Ug [] 0,0,[],true⟩,[],.leaf⟩
def eqbN0 :List (Option (List Nat)):=[some [0,1,12,13]]
def eqbM0 :List (Option (List Nat)):=[]
def z5g (l0:List R4) (l1:List R4):eqbS→Xn eqbS
 | .h0 v13=>(bif (decide (v13<(l0.length:Int))) then (bif ((decide (0≤v13∧v13<(l0.length:Int)))&&true) then (bif ((decide (0≤v13∧v13<(l1.length:Int)))&&true) then (bif (!(((rd l0 v13.toNat).a == (rd l1 v13.toNat).a)&&(((rd l0 v13.toNat).b == (rd l1 v13.toNat).b)&&(((rd l0 v13.toNat).c == (rd l1 v13.toNat).c)&&(((rd l0 v13.toNat).d == (rd l1 v13.toNat).d)&&true))))) then (.ret [(.bool false)]) else (.to (.h0 (IntKind.wrap .i64 (v13+1))))) else .stuck) else .stuck) else (.ret [(.bool true)]))
def z6r (l0:List R4) (l1:List R4):Xn eqbS:=(bif ((l0.length:Int) != (l1.length:Int)) then (.ret [(.bool false)]) else (.to (.h0 0)))
theorem w3a (l0:List R4) (l1:List R4): ∀s,Xk prog (Zy prog 172) (eqbC l0 l1) (eqbC l0 l1 s) (z5g l0 l1 s)
 | .h0 v13=>(lb (fun k0=>(lo fun aG=>(lo fun bA=>(lb (fun k1=>(lr 26 172 [1,1,0,1,0,0,1,1,0,0,1,1,0,0] 1 5 [(4,(.bool false))] (sl Zp 21 [] ⟨[],[],[some [4]],[]⟩ ⟨[],[],[]⟩ (bl 2 3) (tt k1 (ww bA (ww aG (tt k0 nn))))))) (fun k1=>(sl Zp 24 [] ⟨[],[],eqbN0,eqbM0⟩ ⟨[],[],[]⟩ (bl 2 1) (tt k1 (ww bA (ww aG (tt k0 nn)))))))))) (fun k0=>(lr 26 3 [1,1,1,1,1,1,1,0] 1 5 [(4,(.bool true))] (sl Zp 11 [] ⟨[],[],[some [4]],[]⟩ ⟨[],[],[]⟩ [false] (tt k0 nn)))))
theorem x6j (l0:List R4) (l1:List R4):Xk prog (Zy prog 172) (eqbC l0 l1) (Zd prog 172 [(.dat l0.length (Zz l0)),(.dat l1.length (Zz l1))] true []) (z6r l0 l1):=(lb (fun k0=>(lr 26 172 [1,0,1,0,0] 1 5 [(4,(.bool false))] (sl Zp 18 [] ⟨[],[],[some [4]],[]⟩ ⟨[],[],[]⟩ [true] (tt k0 nn)))) (fun k0=>(sl Zp 24 [] ⟨[],[],eqbN0,eqbM0⟩ ⟨[],[],[]⟩ [false] (tt k0 nn))))
theorem v4y (l0:List R4) (l1:List R4) (n:Nat) (vs:List AVal) (h:Yj (z5g l0 l1) n (z6r l0 l1)=.ret vs):Kz prog (Zy prog 172) (Zd prog 172 [(.dat l0.length (Zz l0)),(.dat l1.length (Zz l1))] true []) vs:=by have:=Zo (w3a l0 l1) n _ (x6j l0 l1);rwa [h] at this
inductive eqcS where
 | h0 (v13:Int)
def eqcC (l0:List R6) (l1:List R6):eqcS→Cfg
 | .h0 v13=>⟨⟨26,0,true⟩,none,(Zc prog 99 [1,1,0,1,0,0] 0),none,(Zy prog 5),⟨Yb [(0,(.dat l0.length (Zz l0))),(1,(.dat l1.length (Zz l1))),(12,(ii (l0.length:Int))),(13,(ii v13))],Ug [] 0,0,[],true⟩,[],.leaf⟩
def eqcN0 :List (Option (List Nat)):=[some [0,1,12,13]]
def eqcM0 :List (Option (List Nat)):=[]
def z5f (l0:List R6) (l1:List R6):eqcS→Xn eqcS
 | .h0 v13=>(bif (decide (v13<(l0.length:Int))) then (bif ((decide (0≤v13∧v13<(l0.length:Int)))&&true) then (bif ((decide (0≤v13∧v13<(l1.length:Int)))&&true) then (bif (!((((rd l0 v13.toNat).a == (rd l1 v13.toNat).a)&&(((rd l0 v13.toNat).b == (rd l1 v13.toNat).b)&&(((rd l0 v13.toNat).c == (rd l1 v13.toNat).c)&&true)))&&((((rd l0 v13.toNat).d == (rd l1 v13.toNat).d)&&(((rd l0 v13.toNat).e == (rd l1 v13.toNat).e)&&(((rd l0 v13.toNat).f == (rd l1 v13.toNat).f)&&true)))&&true))) then (.ret [(.bool false)]) else (.to (.h0 (IntKind.wrap .i64 (v13+1))))) else .stuck) else .stuck) else (.ret [(.bool true)]))
def z6q (l0:List R6) (l1:List R6):Xn eqcS:=(bif ((l0.length:Int) != (l1.length:Int)) then (.ret [(.bool false)]) else (.to (.h0 0)))
theorem w2z (l0:List R6) (l1:List R6): ∀s,Xk prog (Zy prog 99) (eqcC l0 l1) (eqcC l0 l1 s) (z5f l0 l1 s)
 | .h0 v13=>(lb (fun k0=>(lo fun aG=>(lo fun bA=>(lb (fun k1=>(lr 26 99 [1,1,0,1,0,0,1,1,0,0,1,1,0,0] 1 5 [(4,(.bool false))] (sl Zp 21 [] ⟨[],[],[some [4]],[]⟩ ⟨[],[],[]⟩ (bl 2 3) (tt k1 (ww bA (ww aG (tt k0 nn))))))) (fun k1=>(sl Zp 24 [] ⟨[],[],eqcN0,eqcM0⟩ ⟨[],[],[]⟩ (bl 2 1) (tt k1 (ww bA (ww aG (tt k0 nn)))))))))) (fun k0=>(lr 26 3 [1,1,1,1,1,1,1,0] 1 5 [(4,(.bool true))] (sl Zp 11 [] ⟨[],[],[some [4]],[]⟩ ⟨[],[],[]⟩ [false] (tt k0 nn)))))
theorem x6i (l0:List R6) (l1:List R6):Xk prog (Zy prog 99) (eqcC l0 l1) (Zd prog 99 [(.dat l0.length (Zz l0)),(.dat l1.length (Zz l1))] true []) (z6q l0 l1):=(lb (fun k0=>(lr 26 99 [1,0,1,0,0] 1 5 [(4,(.bool false))] (sl Zp 18 [] ⟨[],[],[some [4]],[]⟩ ⟨[],[],[]⟩ [true] (tt k0 nn)))) (fun k0=>(sl Zp 24 [] ⟨[],[],eqcN0,eqcM0⟩ ⟨[],[],[]⟩ [false] (tt k0 nn))))
theorem v4x (l0:List R6) (l1:List R6) (n:Nat) (vs:List AVal) (h:Yj (z5f l0 l1) n (z6q l0 l1)=.ret vs):Kz prog (Zy prog 99) (Zd prog 99 [(.dat l0.length (Zz l0)),(.dat l1.length (Zz l1))] true []) vs:=by have:=Zo (w2z l0 l1) n _ (x6i l0 l1);rwa [h] at this
inductive holS where
def holC (x0:Int) (x1:Bool) (x2:Bool):holS→Cfg
 :=nofun
def x5w (x0:Int) (x1:Bool) (x2:Bool):holS→Xn holS
 :=nofun
def y1b (x0:Int) (x1:Bool) (x2:Bool):Xn holS:=(bif (x0 == 1) then (bif x1 then (.ret [(.bool x2)]) else (.ret [(.bool false)])) else (bif (x0 == 2) then (bif x1 then (.ret [(.bool true)]) else (.ret [(.bool x2)])) else (bif x1 then (.ret [(.bool (!x2))]) else (.ret [(.bool false)]))))
theorem w2n (x0:Int) (x1:Bool) (x2:Bool): ∀s,Xk prog (Zy prog 167) (holC x0 x1 x2) (holC x0 x1 x2 s) (x5w x0 x1 x2 s)
 :=nofun
theorem x5x (x0:Int) (x1:Bool) (x2:Bool):Xk prog (Zy prog 167) (holC x0 x1 x2) (Zd prog 167 [(.int .i64 x0),(.bool x1),(.bool x2)] true []) (y1b x0 x1 x2):=(lb (fun k0=>(lb (fun k1=>(lr 24 167 [1,0,1,0,0] 1 8 [(6,(.bool x2))] (sl Zp 19 [] ⟨[],[],[some [6]],[]⟩ ⟨[],[],[]⟩ [true,true] (tt k1 (tt k0 nn))))) (fun k1=>(lr 24 167 [1,0,1,0,0] 1 8 [(6,(.bool false))] (sl Zp 19 [] ⟨[],[],[some [6]],[]⟩ ⟨[],[],[]⟩ [true,false] (tt k1 (tt k0 nn))))))) (fun k0=>(lb (fun k1=>(lb (fun k2=>(lr 24 167 [1,1,0,1,0,0] 1 8 [(6,(.bool true))] (sl Zp 27 [] ⟨[],[],[some [6]],[]⟩ ⟨[],[],[]⟩ [false,true,true] (tt k2 (tt k1 (tt k0 nn)))))) (fun k2=>(lr 24 167 [1,1,0,1,0,0] 1 8 [(6,(.bool x2))] (sl Zp 27 [] ⟨[],[],[some [6]],[]⟩ ⟨[],[],[]⟩ [false,true,false] (tt k2 (tt k1 (tt k0 nn)))))))) (fun k1=>(lb (fun k2=>(lr 24 3 [1,1,1,1,1,1,1,0] 1 8 [(6,(.bool (!x2)))] (sl Zp 29 [] ⟨[],[],[some [6]],[]⟩ ⟨[],[],[]⟩ [false,false,true,true] (tt k2 (tt k1 (tt k0 nn)))))) (fun k2=>(lr 24 3 [1,1,1,1,1,1,1,0] 1 8 [(6,(.bool false))] (sl Zp 29 [] ⟨[],[],[some [6]],[]⟩ ⟨[],[],[]⟩ [false,false,false,false] (tt k2 (tt k1 (tt k0 nn)))))))))))
theorem v4j (x0:Int) (x1:Bool) (x2:Bool) (n:Nat) (vs:List AVal) (h:Yj (x5w x0 x1 x2) n (y1b x0 x1 x2)=.ret vs):Kz prog (Zy prog 167) (Zd prog 167 [(.int .i64 x0),(.bool x1),(.bool x2)] true []) vs:=by have:=Zo (w2n x0 x1 x2) n _ (x5x x0 x1 x2);rwa [h] at this
inductive fstS where
def fstC (x0:Bool) (x1:Bool):fstS→Cfg
 :=nofun
def x5z (x0:Bool) (x1:Bool):fstS→Xn fstS
 :=nofun
def y9a (x0:Bool) (x1:Bool):Xn fstS:=(.ret [(.bool x0)])
theorem w2p (x0:Bool) (x1:Bool): ∀s,Xk prog (Zy prog 187) (fstC x0 x1) (fstC x0 x1 s) (x5z x0 x1 s)
 :=nofun
theorem x6a (x0:Bool) (x1:Bool):Xk prog (Zy prog 187) (fstC x0 x1) (Zd prog 187 [(.bool x0),(.bool x1)] true []) (y9a x0 x1):=(lr 6 3 [1,1,1,1,1,1,1,0] 1 5 [(4,(.bool x0))] (sl Zp 9 [] ⟨[],[],[some [4]],[]⟩ ⟨[],[],[]⟩ [] nn))
theorem v4k (x0:Bool) (x1:Bool) (n:Nat) (vs:List AVal) (h:Yj (x5z x0 x1) n (y9a x0 x1)=.ret vs):Kz prog (Zy prog 187) (Zd prog 187 [(.bool x0),(.bool x1)] true []) vs:=by have:=Zo (w2p x0 x1) n _ (x6a x0 x1);rwa [h] at this
end Go.Am
namespace Go.Am
theorem Zs {a b:Int} (h:a<b):decide (a<b)=true:=decide_eq_true h
theorem Yw {a b:Int} (h: ¬a<b):decide (a<b)=false:=decide_eq_false h
theorem Xh {a b:Int} (h:a≤b):decide (a≤b)=true:=decide_eq_true h
theorem x6m {a b:Int} (h: ¬a≤b):decide (a≤b)=false:=decide_eq_false h
theorem Yf {a b:Int} (h:a>b):decide (a>b)=true:=decide_eq_true h
theorem Xu {a b:Int} (h: ¬a>b):decide (a>b)=false:=decide_eq_false h
theorem dge_t {a b:Int} (h:a≥b):decide (a≥b)=true:=decide_eq_true h
theorem Yv {a b:Nat} (h:a<b):decide (a<b)=true:=decide_eq_true h
theorem Ya {a b:Nat} (h:a≤b):decide (a≤b)=true:=decide_eq_true h
theorem Yk {a b:Nat} (h:a=b):decide (a=b)=true:=decide_eq_true h
theorem Zt {a b:Int} (h:0≤a∧a<b):decide (0≤a∧a<b)=true:=decide_eq_true h
theorem Zh {a:Nat} (h:a≤1099511627776):decide (a≤Ur)=true:=decide_eq_true h
theorem Zq {n:Int} (h: -9223372036854775808≤n∧n≤9223372036854775807):IntKind.wrap .i64 n=n:=w_in h.1 h.2
theorem z5j :((0:Nat):Int)=0:=rfl
theorem Zx (i:Nat):(i:Int)+1=((i+1:Nat):Int):=rfl
theorem Zr (i:Nat):((i+1:Nat):Int) - 1=(i:Int):=by omega
theorem Qg {a b:Int} (h:a≠b):(a != b)=true:=by simp [h]
theorem Qa {a b:Int} (h:a=b):(a != b)=false:=by simp [h]
theorem Yp (n:Nat):Nat.beq n n=true:=Nat.beq_refl n
theorem Zj (n:Nat):Int.toNat (n:Int)=n:=Int.toNat_natCast n
theorem Yh (b:Bool):b=true∨b=false:=by cases b <;> simp
theorem Yg {α:Type} [Yr α] {L:List α} {i:Nat} (h:i<L.length):L.drop i=rd L i::L.drop (i+1):=by rw [Xj h];exact List.drop_eq_getElem_cons h
theorem z3e {P:Program} {S:Specs} (hS:Zu P S) {f:FuncId} {F:List AVal→Option (AVal×Bool)} (hf:(P.funcs[f]?).any (fun fn=>fn.body.isSome)=true)
  (hF: ∀args v,F args=some (v,true)→ ∃bs vs,Wo VLe args bs∧Jg vs=v∧Kz P (Zy P f) (Zd P f bs true []) vs∧ ∃d,pf d v=true):Zu P (S.with f F):=w0d hS hf hF
end Go.Am
namespace Go.Am
open Go.Proofs
def x4t (out:List Int) (x:Int):Nat→Nat
 | 0=>0
 | k+1=>bif decide (rd out k>x) then x4t out x k else k+1
def y2z (out:List Int) (x:Int):List Int:=
 match x4t out x out.length with
 | 0=>x::out
 | k+1=>bif rd out k == x then out else out.take (k+1)++x::out.drop (k+1)
def z2c (l:List Int):List Int:=l.foldl y2z []
def Kx (l:List Int):Bool:=decide (l.length≤100000)
theorem y2y (out:List Int) (x:Int):(y2z out x).length ≤out.length+1:=by
 unfold y2z;split
 ·simp
 ·rename_i k _;cases (rd out k == x) <;> simp <;> omega
theorem x1r (out:List Int) (x:Int) (k:Nat) (hk:k≤out.length):
  (w9o (out++[0]) (k+1) (Nat.min (out.length+1 - k) (out.length+1 - (k+1))) (z2v (out++[0]) k (out.length+1 - k))).set k x=out.take k++x::out.drop k:=by
 have hm:Nat.min (out.length+1 - k) (out.length+1 - (k+1))=out.length - k:=by show min _ _=_;omega
 rw [hm];apply List.ext_getElem
 ·simp [Us];omega
 ·intro i h1 h2;have hi:i<out.length+1:=by simpa [Us] using h1
  rw [←Xj h1,←Xj h2];rw [v7s (by simpa [Us] using hi)];by_cases e:i=k
  ·subst e;rw [if_pos rfl,Vt (by simp only [List.length_take];omega),Xj (by simp;omega)];simp [Nat.min_eq_left hk]
  ·rw [if_neg e,w6d (by simpa using hi)];by_cases h:i<k
   ·rw [v5l (show¬k+1≤i by omega),Bool.false_and,cond_false,Uf (by omega),Uf (by simp;omega)];rw [Xj (by omega),Xj (by simp;omega),List.getElem_take]
   ·rw [w9w (show k+1≤i by omega),w9w (show i+1≤k+1+(out.length - k) by omega),Bool.true_and,cond_true,y8d (by omega),Uf (by omega)];rw [Vt (by simp;omega),Xj (by omega),Xj (by simp;omega)];obtain ⟨j,rfl⟩: ∃j,i=k+1+j:=⟨i - k - 1,by omega⟩
    simp only [List.length_take,Nat.min_eq_left hk];rw [List.getElem_cons,dif_neg (by omega),List.getElem_drop]
    congr 1
theorem x8c (l:List Int) (out:List Int) (i:Nat) (hi:i<l.length) (hl:l.length≤100000) (ho:out.length≤i): ∀(k N:Nat),k≤out.length→
  (x4t out (rd l i) out.length=x4t out (rd l i) k)→ ∃m,∀N,Yj (Vg l) (N+m) (.to (.h1 out (i:Int) (k:Int)))=Yj (Vg l) N (.to (.h0 (y2z out (rd l i)) ((i+1:Nat):Int)))
 | 0,N,hk,hp=>by
  refine ⟨1,fun N=> ?_⟩;have hins:y2z out (rd l i)=(w9o (out++[0]) (0+1) (Nat.min (out.length+1 - 0) (out.length+1 - (0+1))) (z2v (out++[0]) 0 (out.length+1 - 0))).set 0 (rd l i):=by rw [x1r out _ 0 (Nat.zero_le _)];unfold y2z;rw [hp];rfl
  rw [hins,Zv];simp (disch:=omega) only [Vg,Zh,decide_true,Xu,Zs,Xh,Yv,Ya,Yk,Zt,Zq,Zx,Yp,Zj,Nat.zero_add,Bool.and_true,Bool.true_and,cond_true,cond_false]
 | k+1,N,hk,hp=>by
  rcases Yh (decide (rd out k>rd l i)) with h | h
  ·have hp':x4t out (rd l i) out.length=x4t out (rd l i) k:=by rw [hp];conv=>lhs;unfold x4t;rw [h,cond_true]
   obtain ⟨m,hm⟩:=x8c l out i hi hl ho k N (by omega) hp';refine ⟨m+1,fun N=> ?_⟩;rw [←hm N,←Nat.add_assoc,Zv];simp (disch:=omega) only [Vg,Zr,h,Zh,decide_true,Yf,Zs,Xh,Yv,Ya,Yk,Zt,Zq,Zx,Yp,Zj,Nat.zero_add,Bool.and_true,Bool.true_and,cond_true,cond_false]
  ·have hpk:x4t out (rd l i) out.length=k+1:=by rw [hp];unfold x4t;rw [h];rfl
   refine ⟨1,fun N=> ?_⟩;rw [Zv];rcases Yh (rd out k == rd l i) with q | q
   ·have hins:y2z out (rd l i)=out:=by unfold y2z;rw [hpk];simp only [q,cond_true]
    rw [hins];simp (disch:=omega) only [Vg,Zr,h,q,Zh,decide_true,Yf,Zs,Xh,Yv,Ya,Yk,Zt,Zq,Zx,Yp,Zj,Nat.zero_add,Bool.and_true,Bool.true_and,cond_true,cond_false]
   ·have hins:y2z out (rd l i)=(w9o (out++[0]) (k+1+1) (Nat.min (out.length+1 - (k+1)) (out.length+1 - (k+1+1))) (z2v (out++[0]) (k+1) (out.length+1 - (k+1)))).set (k+1) (rd l i):=by rw [x1r out _ (k+1) hk];unfold y2z;rw [hpk];simp only [q,cond_false]
    rw [hins];simp (disch:=omega) only [Vg,Zr,h,q,Zh,decide_true,Yf,Zs,Xh,Yv,Ya,Yk,Zt,Zq,Zx,Yp,Zj,Nat.zero_add,Bool.and_true,Bool.true_and,cond_true,cond_false]
theorem x8d (l:List Int) (hl:l.length≤100000): ∀(k i:Nat) (out:List Int),i+k=l.length→out.length≤i→ ∃m,Yj (Vg l) m (.to (.h0 out (i:Int)))=.ret [.dat ((l.drop i).foldl y2z out).length (Zz ((l.drop i).foldl y2z out))]
 | 0,i,out,h,ho=>by refine ⟨1,?_⟩;rw [Zv];simp (disch:=omega) only [Vg,Yw,cond_false];rw [List.drop_eq_nil_of_le (by omega)];rfl
 | k+1,i,out,h,ho=>by obtain ⟨m1,h1⟩:=x8c l out i (by omega) hl ho out.length 0 (Nat.le_refl _) rfl;obtain ⟨m2,h2⟩:=x8d l hl k (i+1) (y2z out (rd l i)) (by omega) (Nat.le_trans (y2y _ _) (by omega));refine ⟨m2+m1+1,?_⟩;rw [Zv];simp (disch:=omega) only [Vg,Zs,cond_true];rw [h1 m2,h2,Yg (show i<l.length by omega)];rfl
theorem w5g (l:List Int) (h:Kx l=true): ∃N,Yj (Vg l) N (z3m l)=.ret [.dat (z2c l).length (Zz (z2c l))]:=by
 have:=x8d l (of_decide_eq_true h) l.length 0 [] (by omega) (Nat.le_refl _)
 simpa [z3m,z2c] using this
end Go.Am
namespace Go.Am
open Go.Proofs
theorem Ze (n:Nat):Int.toNat ((n:Int) - 1)=n - 1:=by omega
theorem v2w (x y:R2):((x.a == y.a)&&(x.b == y.b))=decide (x=y):=by obtain ⟨a,b⟩:=x;obtain ⟨c,d⟩:=y;rw [Bool.eq_iff_iff];simp
theorem v2v (x y:R4):((x.a == y.a)&&((x.b == y.b)&&((x.c == y.c)&&(x.d == y.d))))=decide (x=y):=by obtain ⟨a,b,c,d⟩:=x;obtain ⟨e,f,g,h⟩:=y;rw [Bool.eq_iff_iff];simp
theorem v2u (x y:R6):(((x.a == y.a)&&((x.b == y.b)&&(x.c == y.c)))&&((x.d == y.d)&&((x.e == y.e)&&(x.f == y.f))))=decide (x=y):=by obtain ⟨a,b,c,d,e,f⟩:=x;obtain ⟨a',b',c',d',e',f'⟩:=y;rw [Bool.eq_iff_iff];simp [and_assoc]
def Ku (l m:List R2):Bool:=decide (l=m)
def Um (l m:List R4):Bool:=decide (l=m)
def Up (l m:List R6):Bool:=decide (l=m)
def Vp (l m:List R2):Bool:=decide (l.length≤1000000)
def Wk (l m:List R4):Bool:=decide (l.length≤1000000)
def Wb (l m:List R6):Bool:=decide (l.length≤1000000)
theorem z3x {α:Type} [DecidableEq α] (x y:α) (l m:List α):decide (x::l=y::m)=(decide (x=y)&&decide (l=m)):=by rw [←Bool.decide_and];congr 1;simp
theorem v6w (l m:List R2) (hl:l.length≤1000000) (hm:l.length=m.length): ∀(k i:Nat),i+k=l.length→ ∃N,Yj (z4r l m) N (.to (.h0 (i:Int)))=.ret [.bool (decide (l.drop i=m.drop i))]
 | 0,i,h=>by refine ⟨1,?_⟩;rw [Zv,List.drop_eq_nil_of_le (show l.length≤i by omega),List.drop_eq_nil_of_le (show m.length≤i by omega)];simp (disch:=omega) only [z4r,Xu,Yf,Zs,Yw,Xh,Yv,Ya,Yk,Zt,Zq,Zh,Qg,Qa,decide_true,Zx,Zr,Ze,Yp,Zj,Nat.zero_add,Bool.and_true,Bool.true_and,cond_true,cond_false,Bool.not_true,Bool.not_false,Zm]
 | k+1,i,h=>by
  obtain ⟨N,hN⟩:=v6w l m hl hm k (i+1) (by omega);refine ⟨N+1,?_⟩;rw [Zv,Yg (show i<l.length by omega),Yg (show i<m.length by omega),z3x];rcases Yh (decide (rd l i=rd m i)) with q | q
  ·simp (disch:=omega) only [z4r,v2w,q,Xu,Yf,Zs,Yw,Xh,Yv,Ya,Yk,Zt,Zq,Zh,Qg,Qa,decide_true,Zx,Zr,Ze,Yp,Zj,Nat.zero_add,Bool.and_true,Bool.true_and,cond_true,cond_false,Bool.not_true,Bool.not_false,Zm];exact hN
  ·simp (disch:=omega) only [z4r,v2w,q,Xu,Yf,Zs,Yw,Xh,Yv,Ya,Yk,Zt,Zq,Zh,Qg,Qa,decide_true,Zx,Zr,Ze,Yp,Zj,Nat.zero_add,Bool.and_true,Bool.true_and,cond_true,cond_false,Bool.not_true,Bool.not_false,Zm,Bool.false_and]
theorem u1j (l m:List R2) (h:Vp l m=true): ∃N,Yj (z4r l m) N (z5t l m)=.ret [.bool (Ku l m)]:=by
 have hl:l.length≤1000000:=of_decide_eq_true h;by_cases hm:l.length=m.length
 ·obtain ⟨N,hN⟩:=v6w l m hl hm l.length 0 (Nat.zero_add _);refine ⟨N,?_⟩;unfold z5t;rw [Qa (show (l.length:Int)=(m.length:Nat) by omega)];exact hN
 ·refine ⟨0,?_⟩;unfold z5t;rw [Qg (show (l.length:Int)≠(m.length:Nat) by omega)];have:Ku l m=false:=decide_eq_false fun e=>hm (by rw [e]);rw [this];rfl
theorem v6v (l m:List R4) (hl:l.length≤1000000) (hm:l.length=m.length): ∀(k i:Nat),i+k=l.length→ ∃N,Yj (z4q l m) N (.to (.h0 (i:Int)))=.ret [.bool (decide (l.drop i=m.drop i))]
 | 0,i,h=>by refine ⟨1,?_⟩;rw [Zv,List.drop_eq_nil_of_le (show l.length≤i by omega),List.drop_eq_nil_of_le (show m.length≤i by omega)];simp (disch:=omega) only [z4q,Xu,Yf,Zs,Yw,Xh,Yv,Ya,Yk,Zt,Zq,Zh,Qg,Qa,decide_true,Zx,Zr,Ze,Yp,Zj,Nat.zero_add,Bool.and_true,Bool.true_and,cond_true,cond_false,Bool.not_true,Bool.not_false,Zm]
 | k+1,i,h=>by
  obtain ⟨N,hN⟩:=v6v l m hl hm k (i+1) (by omega);refine ⟨N+1,?_⟩;rw [Zv,Yg (show i<l.length by omega),Yg (show i<m.length by omega),z3x];rcases Yh (decide (rd l i=rd m i)) with q | q
  ·simp (disch:=omega) only [z4q,v2v,q,Xu,Yf,Zs,Yw,Xh,Yv,Ya,Yk,Zt,Zq,Zh,Qg,Qa,decide_true,Zx,Zr,Ze,Yp,Zj,Nat.zero_add,Bool.and_true,Bool.true_and,cond_true,cond_false,Bool.not_true,Bool.not_false,Zm];exact hN
  ·simp (disch:=omega) only [z4q,v2v,q,Xu,Yf,Zs,Yw,Xh,Yv,Ya,Yk,Zt,Zq,Zh,Qg,Qa,decide_true,Zx,Zr,Ze,Yp,Zj,Nat.zero_add,Bool.and_true,Bool.true_and,cond_true,cond_false,Bool.not_true,Bool.not_false,Zm,Bool.false_and]
theorem u1i (l m:List R4) (h:Wk l m=true): ∃N,Yj (z4q l m) N (z5s l m)=.ret [.bool (Um l m)]:=by
 have hl:l.length≤1000000:=of_decide_eq_true h;by_cases hm:l.length=m.length
 ·obtain ⟨N,hN⟩:=v6v l m hl hm l.length 0 (Nat.zero_add _);refine ⟨N,?_⟩;unfold z5s;rw [Qa (show (l.length:Int)=(m.length:Nat) by omega)];exact hN
 ·refine ⟨0,?_⟩;unfold z5s;rw [Qg (show (l.length:Int)≠(m.length:Nat) by omega)];have:Um l m=false:=decide_eq_false fun e=>hm (by rw [e]);rw [this];rfl
theorem v6x (l m:List R6) (hl:l.length≤1000000) (hm:l.length=m.length): ∀(k i:Nat),i+k=l.length→ ∃N,Yj (z4s l m) N (.to (.h0 (i:Int)))=.ret [.bool (decide (l.drop i=m.drop i))]
 | 0,i,h=>by refine ⟨1,?_⟩;rw [Zv,List.drop_eq_nil_of_le (show l.length≤i by omega),List.drop_eq_nil_of_le (show m.length≤i by omega)];simp (disch:=omega) only [z4s,Xu,Yf,Zs,Yw,Xh,Yv,Ya,Yk,Zt,Zq,Zh,Qg,Qa,decide_true,Zx,Zr,Ze,Yp,Zj,Nat.zero_add,Bool.and_true,Bool.true_and,cond_true,cond_false,Bool.not_true,Bool.not_false,Zm]
 | k+1,i,h=>by
  obtain ⟨N,hN⟩:=v6x l m hl hm k (i+1) (by omega);refine ⟨N+1,?_⟩;rw [Zv,Yg (show i<l.length by omega),Yg (show i<m.length by omega),z3x];rcases Yh (decide (rd l i=rd m i)) with q | q
  ·simp (disch:=omega) only [z4s,v2u,q,Xu,Yf,Zs,Yw,Xh,Yv,Ya,Yk,Zt,Zq,Zh,Qg,Qa,decide_true,Zx,Zr,Ze,Yp,Zj,Nat.zero_add,Bool.and_true,Bool.true_and,cond_true,cond_false,Bool.not_true,Bool.not_false,Zm];exact hN
  ·simp (disch:=omega) only [z4s,v2u,q,Xu,Yf,Zs,Yw,Xh,Yv,Ya,Yk,Zt,Zq,Zh,Qg,Qa,decide_true,Zx,Zr,Ze,Yp,Zj,Nat.zero_add,Bool.and_true,Bool.true_and,cond_true,cond_false,Bool.not_true,Bool.not_false,Zm,Bool.false_and]
theorem u1k (l m:List R6) (h:Wb l m=true): ∃N,Yj (z4s l m) N (z5u l m)=.ret [.bool (Up l m)]:=by
 have hl:l.length≤1000000:=of_decide_eq_true h;by_cases hm:l.length=m.length
 ·obtain ⟨N,hN⟩:=v6x l m hl hm l.length 0 (Nat.zero_add _);refine ⟨N,?_⟩;unfold z5u;rw [Qa (show (l.length:Int)=(m.length:Nat) by omega)];exact hN
 ·refine ⟨0,?_⟩;unfold z5u;rw [Qg (show (l.length:Int)≠(m.length:Nat) by omega)];have:Up l m=false:=decide_eq_false fun e=>hm (by rw [e]);rw [this];rfl
theorem v9j (l m:List R2) (hl:l.length≤1000000) (hm:l.length=m.length): ∀(k i:Nat),i+k=l.length→ ∃N,Yj (z5h l m) N (.to (.h0 (i:Int)))=.ret [.bool (decide (l.drop i=m.drop i))]
 | 0,i,h=>by refine ⟨1,?_⟩;rw [Zv,List.drop_eq_nil_of_le (show l.length≤i by omega),List.drop_eq_nil_of_le (show m.length≤i by omega)];simp (disch:=omega) only [z5h,Xu,Yf,Zs,Yw,Xh,Yv,Ya,Yk,Zt,Zq,Zh,Qg,Qa,decide_true,Zx,Zr,Ze,Yp,Zj,Nat.zero_add,Bool.and_true,Bool.true_and,cond_true,cond_false,Bool.not_true,Bool.not_false,Zm]
 | k+1,i,h=>by
  obtain ⟨N,hN⟩:=v9j l m hl hm k (i+1) (by omega);refine ⟨N+1,?_⟩;rw [Zv,Yg (show i<l.length by omega),Yg (show i<m.length by omega),z3x];rcases Yh (decide (rd l i=rd m i)) with q | q
  ·simp (disch:=omega) only [z5h,v2w,q,Xu,Yf,Zs,Yw,Xh,Yv,Ya,Yk,Zt,Zq,Zh,Qg,Qa,decide_true,Zx,Zr,Ze,Yp,Zj,Nat.zero_add,Bool.and_true,Bool.true_and,cond_true,cond_false,Bool.not_true,Bool.not_false,Zm];exact hN
  ·simp (disch:=omega) only [z5h,v2w,q,Xu,Yf,Zs,Yw,Xh,Yv,Ya,Yk,Zt,Zq,Zh,Qg,Qa,decide_true,Zx,Zr,Ze,Yp,Zj,Nat.zero_add,Bool.and_true,Bool.true_and,cond_true,cond_false,Bool.not_true,Bool.not_false,Zm,Bool.false_and]
theorem u5g (l m:List R2) (h:Vp l m=true): ∃N,Yj (z5h l m) N (z6s l m)=.ret [.bool (Ku l m)]:=by
 have hl:l.length≤1000000:=of_decide_eq_true h;by_cases hm:l.length=m.length
 ·obtain ⟨N,hN⟩:=v9j l m hl hm l.length 0 (Nat.zero_add _);refine ⟨N,?_⟩;unfold z6s;rw [Qa (show (l.length:Int)=(m.length:Nat) by omega)];exact hN
 ·refine ⟨0,?_⟩;unfold z6s;rw [Qg (show (l.length:Int)≠(m.length:Nat) by omega)];have:Ku l m=false:=decide_eq_false fun e=>hm (by rw [e]);rw [this];rfl
theorem v9i (l m:List R4) (hl:l.length≤1000000) (hm:l.length=m.length): ∀(k i:Nat),i+k=l.length→ ∃N,Yj (z5g l m) N (.to (.h0 (i:Int)))=.ret [.bool (decide (l.drop i=m.drop i))]
 | 0,i,h=>by refine ⟨1,?_⟩;rw [Zv,List.drop_eq_nil_of_le (show l.length≤i by omega),List.drop_eq_nil_of_le (show m.length≤i by omega)];simp (disch:=omega) only [z5g,Xu,Yf,Zs,Yw,Xh,Yv,Ya,Yk,Zt,Zq,Zh,Qg,Qa,decide_true,Zx,Zr,Ze,Yp,Zj,Nat.zero_add,Bool.and_true,Bool.true_and,cond_true,cond_false,Bool.not_true,Bool.not_false,Zm]
 | k+1,i,h=>by
  obtain ⟨N,hN⟩:=v9i l m hl hm k (i+1) (by omega);refine ⟨N+1,?_⟩;rw [Zv,Yg (show i<l.length by omega),Yg (show i<m.length by omega),z3x];rcases Yh (decide (rd l i=rd m i)) with q | q
  ·simp (disch:=omega) only [z5g,v2v,q,Xu,Yf,Zs,Yw,Xh,Yv,Ya,Yk,Zt,Zq,Zh,Qg,Qa,decide_true,Zx,Zr,Ze,Yp,Zj,Nat.zero_add,Bool.and_true,Bool.true_and,cond_true,cond_false,Bool.not_true,Bool.not_false,Zm];exact hN
  ·simp (disch:=omega) only [z5g,v2v,q,Xu,Yf,Zs,Yw,Xh,Yv,Ya,Yk,Zt,Zq,Zh,Qg,Qa,decide_true,Zx,Zr,Ze,Yp,Zj,Nat.zero_add,Bool.and_true,Bool.true_and,cond_true,cond_false,Bool.not_true,Bool.not_false,Zm,Bool.false_and]
theorem u5f (l m:List R4) (h:Wk l m=true): ∃N,Yj (z5g l m) N (z6r l m)=.ret [.bool (Um l m)]:=by
 have hl:l.length≤1000000:=of_decide_eq_true h;by_cases hm:l.length=m.length
 ·obtain ⟨N,hN⟩:=v9i l m hl hm l.length 0 (Nat.zero_add _);refine ⟨N,?_⟩;unfold z6r;rw [Qa (show (l.length:Int)=(m.length:Nat) by omega)];exact hN
 ·refine ⟨0,?_⟩;unfold z6r;rw [Qg (show (l.length:Int)≠(m.length:Nat) by omega)];have:Um l m=false:=decide_eq_false fun e=>hm (by rw [e]);rw [this];rfl
theorem v9h (l m:List R6) (hl:l.length≤1000000) (hm:l.length=m.length): ∀(k i:Nat),i+k=l.length→ ∃N,Yj (z5f l m) N (.to (.h0 (i:Int)))=.ret [.bool (decide (l.drop i=m.drop i))]
 | 0,i,h=>by refine ⟨1,?_⟩;rw [Zv,List.drop_eq_nil_of_le (show l.length≤i by omega),List.drop_eq_nil_of_le (show m.length≤i by omega)];simp (disch:=omega) only [z5f,Xu,Yf,Zs,Yw,Xh,Yv,Ya,Yk,Zt,Zq,Zh,Qg,Qa,decide_true,Zx,Zr,Ze,Yp,Zj,Nat.zero_add,Bool.and_true,Bool.true_and,cond_true,cond_false,Bool.not_true,Bool.not_false,Zm]
 | k+1,i,h=>by
  obtain ⟨N,hN⟩:=v9h l m hl hm k (i+1) (by omega);refine ⟨N+1,?_⟩;rw [Zv,Yg (show i<l.length by omega),Yg (show i<m.length by omega),z3x];rcases Yh (decide (rd l i=rd m i)) with q | q
  ·simp (disch:=omega) only [z5f,v2u,q,Xu,Yf,Zs,Yw,Xh,Yv,Ya,Yk,Zt,Zq,Zh,Qg,Qa,decide_true,Zx,Zr,Ze,Yp,Zj,Nat.zero_add,Bool.and_true,Bool.true_and,cond_true,cond_false,Bool.not_true,Bool.not_false,Zm];exact hN
  ·simp (disch:=omega) only [z5f,v2u,q,Xu,Yf,Zs,Yw,Xh,Yv,Ya,Yk,Zt,Zq,Zh,Qg,Qa,decide_true,Zx,Zr,Ze,Yp,Zj,Nat.zero_add,Bool.and_true,Bool.true_and,cond_true,cond_false,Bool.not_true,Bool.not_false,Zm,Bool.false_and]
theorem u5e (l m:List R6) (h:Wb l m=true): ∃N,Yj (z5f l m) N (z6q l m)=.ret [.bool (Up l m)]:=by
 have hl:l.length≤1000000:=of_decide_eq_true h;by_cases hm:l.length=m.length
 ·obtain ⟨N,hN⟩:=v9h l m hl hm l.length 0 (Nat.zero_add _);refine ⟨N,?_⟩;unfold z6q;rw [Qa (show (l.length:Int)=(m.length:Nat) by omega)];exact hN
 ·refine ⟨0,?_⟩;unfold z6q;rw [Qg (show (l.length:Int)≠(m.length:Nat) by omega)];have:Up l m=false:=decide_eq_false fun e=>hm (by rw [e]);rw [this];rfl
def in4 (x y:Int) (r:R4):Bool:=decide (r.a≤x)&&(decide (x<r.c)&&(decide (r.b≤y)&&decide (y<r.d)))
def has4V (l:List R4) (x y:Int):Bool:=l.any (in4 x y)
def Qx (l:List R4) (x y:Int):Bool:=decide (l.length≤1000000)
theorem w5s (l:List R4) (x y:Int) (hl:l.length≤1000000): ∀(k i:Nat),i+k=l.length→ ∃N,Yj (z3p l x y) N (.to (.h0 (i:Int)))=.ret [.bool ((l.drop i).any (in4 x y))]
 | 0,i,h=>by refine ⟨1,?_⟩;rw [Zv,List.drop_eq_nil_of_le (show l.length≤i by omega)];simp (disch:=omega) only [z3p,Xu,Yf,Zs,Yw,Xh,Yv,Ya,Yk,Zt,Zq,Zh,Qg,Qa,decide_true,Zx,Zr,Ze,Yp,Zj,Nat.zero_add,Bool.and_true,Bool.true_and,cond_true,cond_false,Bool.not_true,Bool.not_false,Zm];rfl
 | k+1,i,h=>by
  obtain ⟨N,hN⟩:=w5s l x y hl k (i+1) (by omega);refine ⟨N+1,?_⟩;rw [Zv,Yg (show i<l.length by omega),List.any_cons];unfold in4 at hN ⊢;rcases Yh (decide ((rd l i).a ≤x)) with q1 | q1 <;> rcases Yh (decide (x<(rd l i).c)) with q2 | q2 <;> rcases Yh (decide ((rd l i).b ≤y)) with q3 | q3 <;> rcases Yh (decide (y<(rd l i).d)) with q4 | q4 <;>
   simp (disch:=omega) only [z3p,q1,q2,q3,q4,Xu,Yf,Zs,Yw,Xh,Yv,Ya,Yk,Zt,Zq,Zh,Qg,Qa,decide_true,Zx,Zr,Ze,Yp,Zj,Nat.zero_add,Bool.and_true,Bool.true_and,cond_true,cond_false,Bool.not_true,Bool.not_false,Zm,Bool.false_and,Bool.and_false,Bool.false_or,Bool.true_or] <;> exact hN
theorem v2a (l:List R4) (x y:Int) (h:Qx l x y=true): ∃N,Yj (z3p l x y) N (z5x l x y)=.ret [.bool (has4V l x y)]:=by
 have:=w5s l x y (of_decide_eq_true h) l.length 0 (Nat.zero_add _)
 simpa [z5x,has4V] using this
def on6 (z:Int) (b:R6):Bool:=decide (b.c≤z)&&decide (z<b.f)
def u3s (b:R6):R4:=⟨b.a,b.b,b.d,b.e⟩
def atV (l:List R6) (z:Int):List R4:=(l.filter (on6 z)).map u3s
def z4b (l:List R6) (z:Int):Bool:=decide (l.length≤1000000)
theorem w6l (l:List R6) (z:Int) (hl:l.length≤1000000): ∀(k i:Nat) (out:List R4),i+k=l.length→out.length≤i→ ∃N,Yj (z4t l z) N (.to (.h0 out (i:Int)))=.ret [.dat (out++atV (l.drop i) z).length (Zz (out++atV (l.drop i) z))]
 | 0,i,out,h,ho=>by refine ⟨1,?_⟩;rw [Zv,List.drop_eq_nil_of_le (show l.length≤i by omega)];simp (disch:=omega) only [z4t,Xu,Yf,Zs,Yw,Xh,Yv,Ya,Yk,Zt,Zq,Zh,Qg,Qa,decide_true,Zx,Zr,Ze,Yp,Zj,Nat.zero_add,Bool.and_true,Bool.true_and,cond_true,cond_false,Bool.not_true,Bool.not_false,Zm,atV,List.filter_nil,List.map_nil,List.append_nil]
 | k+1,i,out,h,ho=>by
  rw [Yg (show i<l.length by omega)];have e:atV (rd l i::l.drop (i+1)) z=(bif on6 z (rd l i) then [u3s (rd l i)] else [])++atV (l.drop (i+1)) z:=by unfold atV;rw [List.filter_cons];cases on6 z (rd l i) <;> rfl
  rw [e,←List.append_assoc];rcases Yh (decide ((rd l i).c ≤z)) with q1 | q1 <;> rcases Yh (decide (z<(rd l i).f)) with q2 | q2
  ·obtain ⟨N,hN⟩:=w6l l z hl k (i+1) (out++[u3s (rd l i)]) (by omega) (by simp;omega);refine ⟨N+1,?_⟩;rw [Zv];simp (disch:=omega) only [z4t,q1,q2,on6,Xu,Yf,Zs,Yw,Xh,Yv,Ya,Yk,Zt,Zq,Zh,Qg,Qa,decide_true,Zx,Zr,Ze,Yp,Zj,Nat.zero_add,Bool.and_true,Bool.true_and,cond_true,cond_false,Bool.not_true,Bool.not_false,Zm];exact hN
  all_goals
   obtain ⟨N,hN⟩:=w6l l z hl k (i+1) out (by omega) (by omega);refine ⟨N+1,?_⟩;rw [Zv];simp (disch:=omega) only [z4t,q1,q2,on6,Xu,Yf,Zs,Yw,Xh,Yv,Ya,Yk,Zt,Zq,Zh,Qg,Qa,decide_true,Zx,Zr,Ze,Yp,Zj,Nat.zero_add,Bool.and_true,Bool.true_and,cond_true,cond_false,Bool.not_true,Bool.not_false,Zm,Bool.false_and,Bool.and_false,List.append_nil];exact hN
theorem u2f (l:List R6) (z:Int) (h:z4b l z=true): ∃N,Yj (z4t l z) N (y0q l z)=.ret [.dat (atV l z).length (Zz (atV l z))]:=by
 have:=w6l l z (of_decide_eq_true h) l.length 0 [] (Nat.zero_add _) (Nat.le_refl _)
 simpa [y0q] using this
def w3y (cuts:List Int) (ins:List Bool):Nat→Nat→List R2→List R2
 | 0,_,out=>out
 | k+1,i,out=>w3y cuts ins k (i+1) (bif rd ins i then (bif decide (0<out.length)&&((rd out (out.length - 1)).b == rd cuts i) then out.set (out.length - 1) ⟨(rd out (out.length - 1)).a,rd cuts (i+1)⟩ else out++[⟨rd cuts i,rd cuts (i+1)⟩]) else out)
def z9q (cuts:List Int) (ins:List Bool):List R2:=w3y cuts ins (cuts.length - 1) 0 []
def z7b (cuts:List Int) (ins:List Bool):Bool:=decide (cuts.length≤1000000∧cuts.length≤ins.length+1)
theorem y8e (cuts:List Int) (ins:List Bool) (hl:cuts.length≤1000000) (hi:cuts.length≤ins.length+1): ∀(k i:Nat) (out:List R2),k=cuts.length - 1 - i→i≤cuts.length→out.length≤i→ ∃N,Yj (Ki cuts ins) N (.to (.h0 out (i:Int)))=.ret [.dat (w3y cuts ins k i out).length (Zz (w3y cuts ins k i out))]
 | 0,i,out,h,hi2,ho=>by refine ⟨1,?_⟩;rw [Zv];simp (disch:=omega) only [Ki,Xu,Yf,Zs,Yw,Xh,Yv,Ya,Yk,Zt,Zq,Zh,Qg,Qa,decide_true,Zx,Zr,Ze,Yp,Zj,Nat.zero_add,Bool.and_true,Bool.true_and,cond_true,cond_false,Bool.not_true,Bool.not_false,Zm,w3y]
 | k+1,i,out,h,hi2,ho=>by
  unfold w3y;rcases Yh (rd ins i) with q | q
  ·rcases Yh (decide (0<out.length)&&((rd out (out.length - 1)).b == rd cuts i)) with q2 | q2
   ·obtain ⟨N,hN⟩:=y8e cuts ins hl hi k (i+1) (out.set (out.length - 1) ⟨(rd out (out.length - 1)).a,rd cuts (i+1)⟩) (by omega) (by omega) (by simp;omega);refine ⟨N+1,?_⟩;rw [Zv,q,q2];simp only [Bool.and_eq_true,decide_eq_true_eq] at q2;simp (disch:=omega) only [Ki,q,q2.2,Xu,Yf,Zs,Yw,Xh,Yv,Ya,Yk,Zt,Zq,Zh,Qg,Qa,decide_true,Zx,Zr,Ze,Yp,Zj,Nat.zero_add,Bool.and_true,Bool.true_and,cond_true,cond_false,Bool.not_true,Bool.not_false,Zm];exact hN
   ·obtain ⟨N,hN⟩:=y8e cuts ins hl hi k (i+1) (out++[⟨rd cuts i,rd cuts (i+1)⟩]) (by omega) (by omega) (by simp;omega);refine ⟨N+1,?_⟩;rw [Zv,q,q2];by_cases h0:0<out.length
    ·rw [decide_eq_true h0,Bool.true_and] at q2;simp (disch:=omega) only [Ki,q,q2,Xu,Yf,Zs,Yw,Xh,Yv,Ya,Yk,Zt,Zq,Zh,Qg,Qa,decide_true,Zx,Zr,Ze,Yp,Zj,Nat.zero_add,Bool.and_true,Bool.true_and,cond_true,cond_false,Bool.not_true,Bool.not_false,Zm];exact hN
    ·simp (disch:=omega) only [Ki,q,Xu,Yf,Zs,Yw,Xh,Yv,Ya,Yk,Zt,Zq,Zh,Qg,Qa,decide_true,Zx,Zr,Ze,Yp,Zj,Nat.zero_add,Bool.and_true,Bool.true_and,cond_true,cond_false,Bool.not_true,Bool.not_false,Zm];exact hN
  ·obtain ⟨N,hN⟩:=y8e cuts ins hl hi k (i+1) out (by omega) (by omega) (by omega);refine ⟨N+1,?_⟩;rw [Zv,q];simp (disch:=omega) only [Ki,q,Xu,Yf,Zs,Yw,Xh,Yv,Ya,Yk,Zt,Zq,Zh,Qg,Qa,decide_true,Zx,Zr,Ze,Yp,Zj,Nat.zero_add,Bool.and_true,Bool.true_and,cond_true,cond_false,Bool.not_true,Bool.not_false,Zm];exact hN
theorem v2q (cuts:List Int) (ins:List Bool) (h:z7b cuts ins=true): ∃N,Yj (Ki cuts ins) N (z6e cuts ins)=.ret [.dat (z9q cuts ins).length (Zz (z9q cuts ins))]:=by
 obtain ⟨h1,h2⟩:=of_decide_eq_true h;have:=y8e cuts ins h1 h2 (cuts.length - 1) 0 [] (by omega) (Nat.zero_le _) (Nat.le_refl _)
 simpa [z6e,z9q] using this
end Go.Am
namespace Go.Am
abbrev w6y :Nat:=70
abbrev v8n :Nat:=142
abbrev v8e :Nat:=169
abbrev v8k :Nat:=167
abbrev nHas4 :Nat:=168
abbrev v8d :Nat:=128
abbrev nXs :Nat:=165
abbrev nYs :Nat:=166
abbrev v8j :Nat:=126
abbrev v8c :Nat:=20
abbrev nAt :Nat:=127
abbrev nCuts :Nat:=125
abbrev v8i :Nat:=72
abbrev w7b :Nat:=53
abbrev nEq2 :Nat:=188
abbrev nEq4 :Nat:=172
abbrev nEq6 :Nat:=99
abbrev v8b :Nat:=200
abbrev x8x :Nat:=201
abbrev nSort :Nat:=63
abbrev x8y :Nat:=64
abbrev nFst :Nat:=187
abbrev x1e :Nat:=157
abbrev x8w :Nat:=65
abbrev w7a :Nat:=121
abbrev x8u :Nat:=120
abbrev x8t :Nat:=94
abbrev x1f :Nat:=51
abbrev x8s :Nat:=191
abbrev nSpU1 :Nat:=164
abbrev nSpE1 :Nat:=170
abbrev nSpD1 :Nat:=163
abbrev nSpU :Nat:=124
abbrev nSpE :Nat:=129
abbrev nSpD :Nat:=123
abbrev x8v :Nat:=189
abbrev nRgU :Nat:=67
abbrev nRgE :Nat:=79
abbrev nRgD :Nat:=66
abbrev w6z :Nat:=47
abbrev nSHas :Nat:=43
-- not there: gambrel/gambrelref39.Floor
abbrev nMCut :Nat:=141
abbrev w7e :Nat:=101
abbrev v8g :Nat:=52
abbrev nMOf :Nat:=15
abbrev w7d :Nat:=17
abbrev v8f :Nat:=58
abbrev w7c :Nat:=22
abbrev w7f :Nat:=24
abbrev v8h :Nat:=73
abbrev x8z :Nat:=36
abbrev v8l :Nat:=37
abbrev nMv1 :Nat:=105
abbrev nMv2 :Nat:=106
abbrev nMv3 :Nat:=107
abbrev nMv4 :Nat:=108
abbrev nMv5 :Nat:=109
abbrev nMv6 :Nat:=110
abbrev nMv7 :Nat:=111
abbrev nMv8 :Nat:=112
abbrev nMv9 :Nat:=113
end Go.Am
namespace Go.Am
open Go.Proofs.Tryz
open Go.Proofs
def y3b (k:Int) (a b:Bool):Bool:=bif k == 1 then a&&b else bif k == 2 then a||b else a&& !b
def x9o (a b:Bool):Bool:=a
theorem u3p (k:Int) (a b:Bool): ∃N,Yj (x5w k a b) N (y1b k a b)=.ret [.bool (y3b k a b)]:=by
 refine ⟨0,?_⟩;unfold y1b y3b;cases a <;> cases b <;> rcases Yh (k == 1) with q | q <;> rcases Yh (k == 2) with q2 | q2 <;> rw [q] <;> (try rw [q2]) <;> rfl
theorem u3q (a b:Bool): ∃N,Yj (x5z a b) N (y9a a b)=.ret [.bool (x9o a b)]:=⟨0,rfl⟩
def fSrt :List AVal→Option (AVal×Bool)
 | [a0]=>match asL Int a0 with
  | some (L0,g0,n0)=>some (.dat (z2c L0).length (Zz (z2c L0)),isT Int n0 g0&&(Kx L0))
  | _=>none
 | _=>none
theorem u4d {S:Specs} (hS:Zu prog S):Zu prog (S.with w6y fSrt):=by
 refine z3e hS (by kernel_rfl) fun args v h=> ?_;unfold fSrt at h;split at h
 ·rename_i a0;split at h
  ·rename_i L0 g0 n0 e0;simp only [Option.some.injEq,Prod.mk.injEq,Bool.and_eq_true] at h;obtain ⟨rfl,ho0,hw⟩:=h;obtain ⟨N,hN⟩:=w5g L0 hw;exact ⟨_,_,(.cons (asL_le e0 ho0) .nil),rfl,w1g L0 N _ hN,3,rfl⟩
  ·cases h
 ·cases h
def fCan :List AVal→Option (AVal×Bool)
 | [a0,a1]=>match asL Int a0,asL Bool a1 with
  | some (L0,g0,n0),some (L1,g1,n1)=>some (.dat (z9q L0 L1).length (Zz (z9q L0 L1)),isT Int n0 g0&&(isT Bool n1 g1&&(z7b L0 L1)))
  | _,_=>none
 | _=>none
theorem u5c {S:Specs} (hS:Zu prog S):Zu prog (S.with v8n fCan):=by
 refine z3e hS (by kernel_rfl) fun args v h=> ?_;unfold fCan at h;split at h
 ·rename_i a0 a1;split at h
  ·rename_i L0 g0 n0 L1 g1 n1 e0 e1;simp only [Option.some.injEq,Prod.mk.injEq,Bool.and_eq_true] at h;obtain ⟨rfl,ho0,ho1,hw⟩:=h;obtain ⟨N,hN⟩:=v2q L0 L1 hw;exact ⟨_,_,(.cons (asL_le e0 ho0) (.cons (asL_le e1 ho1) .nil)),rfl,w6k L0 L1 N _ hN,3,rfl⟩
  ·cases h
 ·cases h
def y6y :List AVal→Option (AVal×Bool)
 | [a0,a1]=>match asL R2 a0,asL R2 a1 with
  | some (L0,g0,n0),some (L1,g1,n1)=>some (.bool (Ku L0 L1),isT R2 n0 g0&&(isT R2 n1 g1&&(Vp L0 L1)))
  | _,_=>none
 | _=>none
theorem w8x {S:Specs} (hS:Zu prog S):Zu prog (S.with v8e y6y):=by
 refine z3e hS (by kernel_rfl) fun args v h=> ?_;unfold y6y at h;split at h
 ·rename_i a0 a1;split at h
  ·rename_i L0 g0 n0 L1 g1 n1 e0 e1;simp only [Option.some.injEq,Prod.mk.injEq,Bool.and_eq_true] at h;obtain ⟨rfl,ho0,ho1,hw⟩:=h;obtain ⟨N,hN⟩:=u1j L0 L1 hw;exact ⟨_,_,(.cons (asL_le e0 ho0) (.cons (asL_le e1 ho1) .nil)),rfl,v1t L0 L1 N _ hN,3,rfl⟩
  ·cases h
 ·cases h
def y6x :List AVal→Option (AVal×Bool)
 | [a0,a1]=>match asL R4 a0,asL R4 a1 with
  | some (L0,g0,n0),some (L1,g1,n1)=>some (.bool (Um L0 L1),isT R4 n0 g0&&(isT R4 n1 g1&&(Wk L0 L1)))
  | _,_=>none
 | _=>none
theorem w8w {S:Specs} (hS:Zu prog S):Zu prog (S.with v8d y6x):=by
 refine z3e hS (by kernel_rfl) fun args v h=> ?_;unfold y6x at h;split at h
 ·rename_i a0 a1;split at h
  ·rename_i L0 g0 n0 L1 g1 n1 e0 e1;simp only [Option.some.injEq,Prod.mk.injEq,Bool.and_eq_true] at h;obtain ⟨rfl,ho0,ho1,hw⟩:=h;obtain ⟨N,hN⟩:=u1i L0 L1 hw;exact ⟨_,_,(.cons (asL_le e0 ho0) (.cons (asL_le e1 ho1) .nil)),rfl,v1s L0 L1 N _ hN,3,rfl⟩
  ·cases h
 ·cases h
def y6w :List AVal→Option (AVal×Bool)
 | [a0,a1]=>match asL R6 a0,asL R6 a1 with
  | some (L0,g0,n0),some (L1,g1,n1)=>some (.bool (Up L0 L1),isT R6 n0 g0&&(isT R6 n1 g1&&(Wb L0 L1)))
  | _,_=>none
 | _=>none
theorem w8v {S:Specs} (hS:Zu prog S):Zu prog (S.with v8c y6w):=by
 refine z3e hS (by kernel_rfl) fun args v h=> ?_;unfold y6w at h;split at h
 ·rename_i a0 a1;split at h
  ·rename_i L0 g0 n0 L1 g1 n1 e0 e1;simp only [Option.some.injEq,Prod.mk.injEq,Bool.and_eq_true] at h;obtain ⟨rfl,ho0,ho1,hw⟩:=h;obtain ⟨N,hN⟩:=u1k L0 L1 hw;exact ⟨_,_,(.cons (asL_le e0 ho0) (.cons (asL_le e1 ho1) .nil)),rfl,v1u L0 L1 N _ hN,3,rfl⟩
  ·cases h
 ·cases h
def u4v :List AVal→Option (AVal×Bool)
 | [a0,.int .i64 x1,.int .i64 x2]=>match asL R4 a0 with
  | some (L0,g0,n0)=>some (.bool (has4V L0 x1 x2),isT R4 n0 g0&&(Qx L0 x1 x2))
  | _=>none
 | _=>none
theorem v4r {S:Specs} (hS:Zu prog S):Zu prog (S.with nHas4 u4v):=by
 refine z3e hS (by kernel_rfl) fun args v h=> ?_;unfold u4v at h;split at h
 ·rename_i a0 x1 x2;split at h
  ·rename_i L0 g0 n0 e0;simp only [Option.some.injEq,Prod.mk.injEq,Bool.and_eq_true] at h;obtain ⟨rfl,ho0,hw⟩:=h;obtain ⟨N,hN⟩:=v2a L0 x1 x2 hw;exact ⟨_,_,(.cons (asL_le e0 ho0) (.cons (.refl _) (.cons (.refl _) .nil))),rfl,w5t L0 x1 x2 N _ hN,3,rfl⟩
  ·cases h
 ·cases h
def fAt :List AVal→Option (AVal×Bool)
 | [a0,.int .i64 x1]=>match asL R6 a0 with
  | some (L0,g0,n0)=>some (.dat (atV L0 x1).length (Zz (atV L0 x1)),isT R6 n0 g0&&(z4b L0 x1))
  | _=>none
 | _=>none
theorem fAt_ok {S:Specs} (hS:Zu prog S):Zu prog (S.with nAt fAt):=by
 refine z3e hS (by kernel_rfl) fun args v h=> ?_;unfold fAt at h;split at h
 ·rename_i a0 x1;split at h
  ·rename_i L0 g0 n0 e0;simp only [Option.some.injEq,Prod.mk.injEq,Bool.and_eq_true] at h;obtain ⟨rfl,ho0,hw⟩:=h;obtain ⟨N,hN⟩:=u2f L0 x1 hw;exact ⟨_,_,(.cons (asL_le e0 ho0) (.cons (.refl _) .nil)),rfl,v2r L0 x1 N _ hN,3,rfl⟩
  ·cases h
 ·cases h
def w9a :List AVal→Option (AVal×Bool)
 | [.int .i64 x0,.bool b1,.bool b2]=>some (.bool (y3b x0 b1 b2),true)
 | _=>none
theorem w8z {S:Specs} (hS:Zu prog S):Zu prog (S.with v8k w9a):=by
 refine z3e hS (by kernel_rfl) fun args v h=> ?_;unfold w9a at h;split at h
 ·rename_i x0 b1 b2;simp only [Option.some.injEq,Prod.mk.injEq,and_true] at h;subst h;obtain ⟨N,hN⟩:=u3p x0 b1 b2;exact ⟨_,_,(.cons (.refl _) (.cons (.refl _) (.cons (.refl _) .nil))),rfl,v4j x0 b1 b2 N _ hN,3,rfl⟩
 ·cases h
def fFst :List AVal→Option (AVal×Bool)
 | [.bool b0,.bool b1]=>some (.bool (x9o b0 b1),true)
 | _=>none
theorem u4w {S:Specs} (hS:Zu prog S):Zu prog (S.with nFst fFst):=by
 refine z3e hS (by kernel_rfl) fun args v h=> ?_;unfold fFst at h;split at h
 ·rename_i b0 b1;simp only [Option.some.injEq,Prod.mk.injEq,and_true] at h;subst h;obtain ⟨N,hN⟩:=u3q b0 b1;exact ⟨_,_,(.cons (.refl _) (.cons (.refl _) .nil)),rfl,v4k b0 b1 N _ hN,3,rfl⟩
 ·cases h
theorem w2x {S:Specs} (hS:Zu prog S):Zu prog (S.with nEq2 y6y):=by
 refine z3e hS (by kernel_rfl) fun args v h=> ?_;unfold y6y at h;split at h
 ·rename_i a0 a1;split at h
  ·rename_i L0 g0 n0 L1 g1 n1 e0 e1;simp only [Option.some.injEq,Prod.mk.injEq,Bool.and_eq_true] at h;obtain ⟨rfl,ho0,ho1,hw⟩:=h;obtain ⟨N,hN⟩:=u5g L0 L1 hw;exact ⟨_,_,(.cons (asL_le e0 ho0) (.cons (asL_le e1 ho1) .nil)),rfl,v4z L0 L1 N _ hN,3,rfl⟩
  ·cases h
 ·cases h
theorem w2w {S:Specs} (hS:Zu prog S):Zu prog (S.with nEq4 y6x):=by
 refine z3e hS (by kernel_rfl) fun args v h=> ?_;unfold y6x at h;split at h
 ·rename_i a0 a1;split at h
  ·rename_i L0 g0 n0 L1 g1 n1 e0 e1;simp only [Option.some.injEq,Prod.mk.injEq,Bool.and_eq_true] at h;obtain ⟨rfl,ho0,ho1,hw⟩:=h;obtain ⟨N,hN⟩:=u5f L0 L1 hw;exact ⟨_,_,(.cons (asL_le e0 ho0) (.cons (asL_le e1 ho1) .nil)),rfl,v4y L0 L1 N _ hN,3,rfl⟩
  ·cases h
 ·cases h
theorem w2v {S:Specs} (hS:Zu prog S):Zu prog (S.with nEq6 y6w):=by
 refine z3e hS (by kernel_rfl) fun args v h=> ?_;unfold y6w at h;split at h
 ·rename_i a0 a1;split at h
  ·rename_i L0 g0 n0 L1 g1 n1 e0 e1;simp only [Option.some.injEq,Prod.mk.injEq,Bool.and_eq_true] at h;obtain ⟨rfl,ho0,ho1,hw⟩:=h;obtain ⟨N,hN⟩:=u5e L0 L1 hw;exact ⟨_,_,(.cons (asL_le e0 ho0) (.cons (asL_le e1 ho1) .nil)),rfl,v4x L0 L1 N _ hN,3,rfl⟩
  ·cases h
 ·cases h
def T1 :Specs:=((((((((((((noSpecs.with w6y fSrt).with v8n fCan).with v8e y6y).with v8d y6x).with v8c y6w).with nHas4 u4v).with nAt fAt).with v8k w9a).with nFst fFst).with nEq2 y6y).with nEq4 y6x).with nEq6 y6w)
theorem z1z :Zu prog T1:=w2v (w2w (w2x (u4w (w8z (fAt_ok (v4r (w8v (w8w (w8x (u5c (u4d Zp)))))))))))
end Go.Am
namespace Go.Am
open Go.Proofs.Tryz
open Go.Proofs
inductive rxsS where
 | h0 (v5:List Int) (v6:Int)
 | h1 (v5:List Int) (v7:Int)
def rxsC (l0:List R4) (l1:List R4):rxsS→Cfg
 | .h0 v5 v6=>⟨⟨48,0,true⟩,none,(Zc prog 165 [1,1,0,1,0,0] 0),none,(Zy prog 5),⟨Yb [(0,(.dat l0.length (Zz l0))),(1,(.dat l1.length (Zz l1))),(5,(.sla 0 1 0 v5.length (.un 1))),(6,(ii v6))],Ug [⟨rows v5.length (Zz v5),3,some ⟨1,v5.length,(Zz v5)⟩⟩] 0,1,[],true⟩,[],.leaf⟩
 | .h1 v5 v7=>⟨⟨48,0,true⟩,none,(Zc prog 165 [1,1,1,0,1,0,0] 0),none,(Zy prog 5),⟨Yb [(1,(.dat l1.length (Zz l1))),(5,(.sla 0 1 0 v5.length (.un 1))),(7,(ii v7))],Ug [⟨rows v5.length (Zz v5),3,some ⟨1,v5.length,(Zz v5)⟩⟩] 0,1,[],true⟩,[],.leaf⟩
def rxsN0 :List (Option (List Nat)):=[some [0,1,5,6]]
def rxsM0 :List (Option (List Nat)):=[]
def rxsN1 :List (Option (List Nat)):=[some [1,5,7]]
def rxsM1 :List (Option (List Nat)):=[]
def z1g (l0:List R4) (l1:List R4):rxsS→Xn rxsS
 | .h0 v5 v6=>(bif (decide (v6<(l0.length:Int))) then (bif ((decide (0≤v6∧v6<(l0.length:Int)))&&true) then (bif (Nat.beq 1 1&&((decide (0+v5.length=v5.length))&&decide ((v5.length+2+1)*(8+1)≤Ur))) then (.to (.h0 (v5++[(rd l0 v6.toNat).a,(rd l0 v6.toNat).c]) (IntKind.wrap .i64 (v6+1)))) else .stuck) else .stuck) else (.to (.h1 v5 0)))
 | .h1 v5 v7=>(bif (decide (v7<(l1.length:Int))) then (bif ((decide (0≤v7∧v7<(l1.length:Int)))&&true) then (bif (Nat.beq 1 1&&((decide (0+v5.length=v5.length))&&decide ((v5.length+2+1)*(8+1)≤Ur))) then (.to (.h1 (v5++[(rd l1 v7.toNat).a,(rd l1 v7.toNat).c]) (IntKind.wrap .i64 (v7+1)))) else .stuck) else .stuck) else (bif (Kx (cvT v5)) then (.ret [(.dat (z2c (cvT v5)).length (Zz (z2c (cvT v5))))]) else .stuck))
def y0j (l0:List R4) (l1:List R4):Xn rxsS:=(.to (.h0 ([]:List Int) 0))
theorem w1e (l0:List R4) (l1:List R4): ∀s,Xk prog (Zy prog 165) (rxsC l0 l1) (rxsC l0 l1 s) (z1g l0 l1 s)
 | .h0 v5 v6=>(lb (fun k0=>(lo fun o0=>(lo fun o1=>(sl z1z 20 [] ⟨[2],[],rxsN0,rxsM0⟩ ⟨[(5,.len (v5++[(rd l0 (tn v6)).a,(rd l0 (tn v6)).c]).length)],[.rowed 1 (v5++[(rd l0 (tn v6)).a,(rd l0 (tn v6)).c]).length (Zz (v5++[(rd l0 (tn v6)).a,(rd l0 (tn v6)).c]))],[]⟩ [true] (pp (xL (v5.length+2) (v5++[(rd l0 (tn v6)).a,(rd l0 (tn v6)).c]).length) (pp (xL (v5.length+2) (v5++[(rd l0 (tn v6)).a,(rd l0 (tn v6)).c]).length) (pp (xS (v5.length+2) (Zf (Zz v5) 0 v5.length 1 [(ii (rd l0 (tn v6)).a),(ii (rd l0 (tn v6)).c)]) (Zz (v5++[(rd l0 (tn v6)).a,(rd l0 (tn v6)).c]))) (pp (pp (xF (Zf (Zz v5) 0 v5.length 1 [(ii (rd l0 (tn v6)).a),(ii (rd l0 (tn v6)).c)])) nn) (ww o1 (ww o0 (ww o0 (tt k0 nn)))))))))))) (fun k0=>(sl z1z 17 [] ⟨[0],[],rxsN1,rxsM1⟩ ⟨[],[],[]⟩ [false] (pp (fl v5 nn) (tt k0 nn)))))
 | .h1 v5 v7=>(lb (fun k0=>(lo fun o0=>(lo fun o1=>(sl z1z 20 [] ⟨[2],[],rxsN1,rxsM1⟩ ⟨[(5,.len (v5++[(rd l1 (tn v7)).a,(rd l1 (tn v7)).c]).length)],[.rowed 1 (v5++[(rd l1 (tn v7)).a,(rd l1 (tn v7)).c]).length (Zz (v5++[(rd l1 (tn v7)).a,(rd l1 (tn v7)).c]))],[]⟩ [true] (pp (xL (v5.length+2) (v5++[(rd l1 (tn v7)).a,(rd l1 (tn v7)).c]).length) (pp (xL (v5.length+2) (v5++[(rd l1 (tn v7)).a,(rd l1 (tn v7)).c]).length) (pp (xS (v5.length+2) (Zf (Zz v5) 0 v5.length 1 [(ii (rd l1 (tn v7)).a),(ii (rd l1 (tn v7)).c)]) (Zz (v5++[(rd l1 (tn v7)).a,(rd l1 (tn v7)).c]))) (pp (pp (xF (Zf (Zz v5) 0 v5.length 1 [(ii (rd l1 (tn v7)).a),(ii (rd l1 (tn v7)).c)])) nn) (ww o1 (ww o0 (ww o0 (tt k0 nn)))))))))))) (fun k0=>(Wd (sl z1z (C':=⟨⟨48,0,true⟩,(Uq prog 165 [1,1,1,1,0] 1),(Zc prog 165 [1,1,1,1,0] 1),none,(Zy prog 5),⟨Yb [(46,(.dat v5.length (Zz v5)))],Ug [] 0,0,[],true⟩,[],.leaf⟩) 13 [] ⟨[],[0],[some [46]],[]⟩ ⟨[(46,.frz v5.length v5.length (Zz v5) (Zz v5))],[],[]⟩ [false] (pp (xZ (z5c 1 1 0 v5.length v5.length (Zz v5)) v5.length (Zz v5)) (pp (xL v5.length v5.length) (pp (xS v5.length (Zz v5) (Zz v5)) (pp (fl v5 nn) (tt k0 nn)))))) (lo fun o0=>(lr 48 3 [1,1,1,1,1,1,1,0] 1 5 [(4,(.dat (z2c (cvT v5)).length (Zz (z2c (cvT v5)))))] (sl z1z 3 [] ⟨[],[],[some [4]],[]⟩ ⟨[],[],[]⟩ [] (pp (pp (xr v5) (xw o0)) nn)))))))
theorem x3w (l0:List R4) (l1:List R4):Xk prog (Zy prog 165) (rxsC l0 l1) (Zd prog 165 [(.dat l0.length (Zz l0)),(.dat l1.length (Zz l1))] true []) (y0j l0 l1):=(sl z1z 15 [(3,1,Zz ([]:List Int))] ⟨[0],[],rxsN0,rxsM0⟩ ⟨[(5,.grow 0 1)],[],[]⟩ [] (pp (fl ([]:List Int) nn) nn))
theorem v1r (l0:List R4) (l1:List R4) (n:Nat) (vs:List AVal) (h:Yj (z1g l0 l1) n (y0j l0 l1)=.ret vs):Kz prog (Zy prog 165) (Zd prog 165 [(.dat l0.length (Zz l0)),(.dat l1.length (Zz l1))] true []) vs:=by have:=Zo (w1e l0 l1) n _ (x3w l0 l1);rwa [h] at this
inductive rysS where
 | h0 (v5:List Int) (v6:Int)
 | h1 (v5:List Int) (v7:Int)
def rysC (l0:List R4) (l1:List R4):rysS→Cfg
 | .h0 v5 v6=>⟨⟨48,0,true⟩,none,(Zc prog 166 [1,1,0,1,0,0] 0),none,(Zy prog 5),⟨Yb [(0,(.dat l0.length (Zz l0))),(1,(.dat l1.length (Zz l1))),(5,(.sla 0 1 0 v5.length (.un 1))),(6,(ii v6))],Ug [⟨rows v5.length (Zz v5),3,some ⟨1,v5.length,(Zz v5)⟩⟩] 0,1,[],true⟩,[],.leaf⟩
 | .h1 v5 v7=>⟨⟨48,0,true⟩,none,(Zc prog 166 [1,1,1,0,1,0,0] 0),none,(Zy prog 5),⟨Yb [(1,(.dat l1.length (Zz l1))),(5,(.sla 0 1 0 v5.length (.un 1))),(7,(ii v7))],Ug [⟨rows v5.length (Zz v5),3,some ⟨1,v5.length,(Zz v5)⟩⟩] 0,1,[],true⟩,[],.leaf⟩
def rysN0 :List (Option (List Nat)):=[some [0,1,5,6]]
def rysM0 :List (Option (List Nat)):=[]
def rysN1 :List (Option (List Nat)):=[some [1,5,7]]
def rysM1 :List (Option (List Nat)):=[]
def z1f (l0:List R4) (l1:List R4):rysS→Xn rysS
 | .h0 v5 v6=>(bif (decide (v6<(l0.length:Int))) then (bif ((decide (0≤v6∧v6<(l0.length:Int)))&&true) then (bif (Nat.beq 1 1&&((decide (0+v5.length=v5.length))&&decide ((v5.length+2+1)*(8+1)≤Ur))) then (.to (.h0 (v5++[(rd l0 v6.toNat).b,(rd l0 v6.toNat).d]) (IntKind.wrap .i64 (v6+1)))) else .stuck) else .stuck) else (.to (.h1 v5 0)))
 | .h1 v5 v7=>(bif (decide (v7<(l1.length:Int))) then (bif ((decide (0≤v7∧v7<(l1.length:Int)))&&true) then (bif (Nat.beq 1 1&&((decide (0+v5.length=v5.length))&&decide ((v5.length+2+1)*(8+1)≤Ur))) then (.to (.h1 (v5++[(rd l1 v7.toNat).b,(rd l1 v7.toNat).d]) (IntKind.wrap .i64 (v7+1)))) else .stuck) else .stuck) else (bif (Kx (cvT v5)) then (.ret [(.dat (z2c (cvT v5)).length (Zz (z2c (cvT v5))))]) else .stuck))
def y0i (l0:List R4) (l1:List R4):Xn rysS:=(.to (.h0 ([]:List Int) 0))
theorem w1d (l0:List R4) (l1:List R4): ∀s,Xk prog (Zy prog 166) (rysC l0 l1) (rysC l0 l1 s) (z1f l0 l1 s)
 | .h0 v5 v6=>(lb (fun k0=>(lo fun o0=>(lo fun o1=>(sl z1z 20 [] ⟨[2],[],rysN0,rysM0⟩ ⟨[(5,.len (v5++[(rd l0 (tn v6)).b,(rd l0 (tn v6)).d]).length)],[.rowed 1 (v5++[(rd l0 (tn v6)).b,(rd l0 (tn v6)).d]).length (Zz (v5++[(rd l0 (tn v6)).b,(rd l0 (tn v6)).d]))],[]⟩ [true] (pp (xL (v5.length+2) (v5++[(rd l0 (tn v6)).b,(rd l0 (tn v6)).d]).length) (pp (xL (v5.length+2) (v5++[(rd l0 (tn v6)).b,(rd l0 (tn v6)).d]).length) (pp (xS (v5.length+2) (Zf (Zz v5) 0 v5.length 1 [(ii (rd l0 (tn v6)).b),(ii (rd l0 (tn v6)).d)]) (Zz (v5++[(rd l0 (tn v6)).b,(rd l0 (tn v6)).d]))) (pp (pp (xF (Zf (Zz v5) 0 v5.length 1 [(ii (rd l0 (tn v6)).b),(ii (rd l0 (tn v6)).d)])) nn) (ww o1 (ww o0 (ww o0 (tt k0 nn)))))))))))) (fun k0=>(sl z1z 17 [] ⟨[0],[],rysN1,rysM1⟩ ⟨[],[],[]⟩ [false] (pp (fl v5 nn) (tt k0 nn)))))
 | .h1 v5 v7=>(lb (fun k0=>(lo fun o0=>(lo fun o1=>(sl z1z 20 [] ⟨[2],[],rysN1,rysM1⟩ ⟨[(5,.len (v5++[(rd l1 (tn v7)).b,(rd l1 (tn v7)).d]).length)],[.rowed 1 (v5++[(rd l1 (tn v7)).b,(rd l1 (tn v7)).d]).length (Zz (v5++[(rd l1 (tn v7)).b,(rd l1 (tn v7)).d]))],[]⟩ [true] (pp (xL (v5.length+2) (v5++[(rd l1 (tn v7)).b,(rd l1 (tn v7)).d]).length) (pp (xL (v5.length+2) (v5++[(rd l1 (tn v7)).b,(rd l1 (tn v7)).d]).length) (pp (xS (v5.length+2) (Zf (Zz v5) 0 v5.length 1 [(ii (rd l1 (tn v7)).b),(ii (rd l1 (tn v7)).d)]) (Zz (v5++[(rd l1 (tn v7)).b,(rd l1 (tn v7)).d]))) (pp (pp (xF (Zf (Zz v5) 0 v5.length 1 [(ii (rd l1 (tn v7)).b),(ii (rd l1 (tn v7)).d)])) nn) (ww o1 (ww o0 (ww o0 (tt k0 nn)))))))))))) (fun k0=>(Wd (sl z1z (C':=⟨⟨48,0,true⟩,(Uq prog 166 [1,1,1,1,0] 1),(Zc prog 166 [1,1,1,1,0] 1),none,(Zy prog 5),⟨Yb [(46,(.dat v5.length (Zz v5)))],Ug [] 0,0,[],true⟩,[],.leaf⟩) 13 [] ⟨[],[0],[some [46]],[]⟩ ⟨[(46,.frz v5.length v5.length (Zz v5) (Zz v5))],[],[]⟩ [false] (pp (xZ (z5c 1 1 0 v5.length v5.length (Zz v5)) v5.length (Zz v5)) (pp (xL v5.length v5.length) (pp (xS v5.length (Zz v5) (Zz v5)) (pp (fl v5 nn) (tt k0 nn)))))) (lo fun o0=>(lr 48 3 [1,1,1,1,1,1,1,0] 1 5 [(4,(.dat (z2c (cvT v5)).length (Zz (z2c (cvT v5)))))] (sl z1z 3 [] ⟨[],[],[some [4]],[]⟩ ⟨[],[],[]⟩ [] (pp (pp (xr v5) (xw o0)) nn)))))))
theorem x3v (l0:List R4) (l1:List R4):Xk prog (Zy prog 166) (rysC l0 l1) (Zd prog 166 [(.dat l0.length (Zz l0)),(.dat l1.length (Zz l1))] true []) (y0i l0 l1):=(sl z1z 15 [(3,1,Zz ([]:List Int))] ⟨[0],[],rysN0,rysM0⟩ ⟨[(5,.grow 0 1)],[],[]⟩ [] (pp (fl ([]:List Int) nn) nn))
theorem v1q (l0:List R4) (l1:List R4) (n:Nat) (vs:List AVal) (h:Yj (z1f l0 l1) n (y0i l0 l1)=.ret vs):Kz prog (Zy prog 166) (Zd prog 166 [(.dat l0.length (Zz l0)),(.dat l1.length (Zz l1))] true []) vs:=by have:=Zo (w1d l0 l1) n _ (x3v l0 l1);rwa [h] at this
inductive rcutS where
 | h0 (v5:List Int) (v6:Int)
 | h1 (v5:List Int) (v7:Int)
def u2c (l0:List R6) (l1:List R6):rcutS→Cfg
 | .h0 v5 v6=>⟨⟨52,0,true⟩,none,(Zc prog 125 [1,1,0,1,0,0] 0),none,(Zy prog 5),⟨Yb [(0,(.dat l0.length (Zz l0))),(1,(.dat l1.length (Zz l1))),(5,(.sla 0 1 0 v5.length (.un 1))),(6,(ii v6))],Ug [⟨rows v5.length (Zz v5),3,some ⟨1,v5.length,(Zz v5)⟩⟩] 0,1,[],true⟩,[],.leaf⟩
 | .h1 v5 v7=>⟨⟨52,0,true⟩,none,(Zc prog 125 [1,1,1,0,1,0,0] 0),none,(Zy prog 5),⟨Yb [(1,(.dat l1.length (Zz l1))),(5,(.sla 0 1 0 v5.length (.un 1))),(7,(ii v7))],Ug [⟨rows v5.length (Zz v5),3,some ⟨1,v5.length,(Zz v5)⟩⟩] 0,1,[],true⟩,[],.leaf⟩
def v7u :List (Option (List Nat)):=[some [0,1,5,6]]
def v7w :List (Option (List Nat)):=[]
def v7t :List (Option (List Nat)):=[some [1,5,7]]
def v7v :List (Option (List Nat)):=[]
def Kh (l0:List R6) (l1:List R6):rcutS→Xn rcutS
 | .h0 v5 v6=>(bif (decide (v6<(l0.length:Int))) then (bif ((decide (0≤v6∧v6<(l0.length:Int)))&&true) then (bif (Nat.beq 1 1&&((decide (0+v5.length=v5.length))&&decide ((v5.length+2+1)*(8+1)≤Ur))) then (.to (.h0 (v5++[(rd l0 v6.toNat).c,(rd l0 v6.toNat).f]) (IntKind.wrap .i64 (v6+1)))) else .stuck) else .stuck) else (.to (.h1 v5 0)))
 | .h1 v5 v7=>(bif (decide (v7<(l1.length:Int))) then (bif ((decide (0≤v7∧v7<(l1.length:Int)))&&true) then (bif (Nat.beq 1 1&&((decide (0+v5.length=v5.length))&&decide ((v5.length+2+1)*(8+1)≤Ur))) then (.to (.h1 (v5++[(rd l1 v7.toNat).c,(rd l1 v7.toNat).f]) (IntKind.wrap .i64 (v7+1)))) else .stuck) else .stuck) else (bif (Kx (cvT v5)) then (.ret [(.dat (z2c (cvT v5)).length (Zz (z2c (cvT v5))))]) else .stuck))
def z6c (l0:List R6) (l1:List R6):Xn rcutS:=(.to (.h0 ([]:List Int) 0))
theorem x4n (l0:List R6) (l1:List R6): ∀s,Xk prog (Zy prog 125) (u2c l0 l1) (u2c l0 l1 s) (Kh l0 l1 s)
 | .h0 v5 v6=>(lb (fun k0=>(lo fun o0=>(lo fun o1=>(sl z1z 20 [] ⟨[2],[],v7u,v7w⟩ ⟨[(5,.len (v5++[(rd l0 (tn v6)).c,(rd l0 (tn v6)).f]).length)],[.rowed 1 (v5++[(rd l0 (tn v6)).c,(rd l0 (tn v6)).f]).length (Zz (v5++[(rd l0 (tn v6)).c,(rd l0 (tn v6)).f]))],[]⟩ [true] (pp (xL (v5.length+2) (v5++[(rd l0 (tn v6)).c,(rd l0 (tn v6)).f]).length) (pp (xL (v5.length+2) (v5++[(rd l0 (tn v6)).c,(rd l0 (tn v6)).f]).length) (pp (xS (v5.length+2) (Zf (Zz v5) 0 v5.length 1 [(ii (rd l0 (tn v6)).c),(ii (rd l0 (tn v6)).f)]) (Zz (v5++[(rd l0 (tn v6)).c,(rd l0 (tn v6)).f]))) (pp (pp (xF (Zf (Zz v5) 0 v5.length 1 [(ii (rd l0 (tn v6)).c),(ii (rd l0 (tn v6)).f)])) nn) (ww o1 (ww o0 (ww o0 (tt k0 nn)))))))))))) (fun k0=>(sl z1z 17 [] ⟨[0],[],v7t,v7v⟩ ⟨[],[],[]⟩ [false] (pp (fl v5 nn) (tt k0 nn)))))
 | .h1 v5 v7=>(lb (fun k0=>(lo fun o0=>(lo fun o1=>(sl z1z 20 [] ⟨[2],[],v7t,v7v⟩ ⟨[(5,.len (v5++[(rd l1 (tn v7)).c,(rd l1 (tn v7)).f]).length)],[.rowed 1 (v5++[(rd l1 (tn v7)).c,(rd l1 (tn v7)).f]).length (Zz (v5++[(rd l1 (tn v7)).c,(rd l1 (tn v7)).f]))],[]⟩ [true] (pp (xL (v5.length+2) (v5++[(rd l1 (tn v7)).c,(rd l1 (tn v7)).f]).length) (pp (xL (v5.length+2) (v5++[(rd l1 (tn v7)).c,(rd l1 (tn v7)).f]).length) (pp (xS (v5.length+2) (Zf (Zz v5) 0 v5.length 1 [(ii (rd l1 (tn v7)).c),(ii (rd l1 (tn v7)).f)]) (Zz (v5++[(rd l1 (tn v7)).c,(rd l1 (tn v7)).f]))) (pp (pp (xF (Zf (Zz v5) 0 v5.length 1 [(ii (rd l1 (tn v7)).c),(ii (rd l1 (tn v7)).f)])) nn) (ww o1 (ww o0 (ww o0 (tt k0 nn)))))))))))) (fun k0=>(Wd (sl z1z (C':=⟨⟨52,0,true⟩,(Uq prog 125 [1,1,1,1,0] 1),(Zc prog 125 [1,1,1,1,0] 1),none,(Zy prog 5),⟨Yb [(50,(.dat v5.length (Zz v5)))],Ug [] 0,0,[],true⟩,[],.leaf⟩) 13 [] ⟨[],[0],[some [50]],[]⟩ ⟨[(50,.frz v5.length v5.length (Zz v5) (Zz v5))],[],[]⟩ [false] (pp (xZ (z5c 1 1 0 v5.length v5.length (Zz v5)) v5.length (Zz v5)) (pp (xL v5.length v5.length) (pp (xS v5.length (Zz v5) (Zz v5)) (pp (fl v5 nn) (tt k0 nn)))))) (lo fun o0=>(lr 52 3 [1,1,1,1,1,1,1,0] 1 5 [(4,(.dat (z2c (cvT v5)).length (Zz (z2c (cvT v5)))))] (sl z1z 3 [] ⟨[],[],[some [4]],[]⟩ ⟨[],[],[]⟩ [] (pp (pp (xr v5) (xw o0)) nn)))))))
theorem x0s (l0:List R6) (l1:List R6):Xk prog (Zy prog 125) (u2c l0 l1) (Zd prog 125 [(.dat l0.length (Zz l0)),(.dat l1.length (Zz l1))] true []) (z6c l0 l1):=(sl z1z 15 [(3,1,Zz ([]:List Int))] ⟨[0],[],v7u,v7w⟩ ⟨[(5,.grow 0 1)],[],[]⟩ [] (pp (fl ([]:List Int) nn) nn))
theorem w6g (l0:List R6) (l1:List R6) (n:Nat) (vs:List AVal) (h:Yj (Kh l0 l1) n (z6c l0 l1)=.ret vs):Kz prog (Zy prog 125) (Zd prog 125 [(.dat l0.length (Zz l0)),(.dat l1.length (Zz l1))] true []) vs:=by have:=Zo (x4n l0 l1) n _ (x0s l0 l1);rwa [h] at this
end Go.Am
namespace Go.Am
open Go.Proofs.Tryz
open Go.Proofs
def z2f (l:List R4):List Int:=l.flatMap fun r=>[r.a,r.c]
def z1a (l:List R4):List Int:=l.flatMap fun r=>[r.b,r.d]
def z2e (l:List R6):List Int:=l.flatMap fun r=>[r.c,r.f]
def xsV (l m:List R4):List Int:=z2c (z2f l++z2f m)
def z9z (l m:List R4):Bool:=decide (l.length≤10000∧m.length≤10000)
theorem Qf (l:List R4):(z2f l).length =2*l.length:=by
 induction l with
 | nil=>rfl
 | cons r l ih=>show (_::_::z2f l).length =_;simp only [List.length_cons,ih];omega
theorem y5c (l:List R4) (i:Nat) (h:i<l.length):z2f (l.drop i)=z2f [rd l i]++z2f (l.drop (i+1)):=by rw [Yg h];rfl
theorem v6t (l m:List R4) (hl:l.length≤10000) (hm:m.length≤10000): ∀(k i:Nat) (out:List Int),i+k=m.length→out.length=2*l.length+2*i→ ∃N,Yj (z1g l m) N (.to (.h1 out (i:Int)))=.ret [.dat (z2c (out++z2f (m.drop i))).length (Zz (z2c (out++z2f (m.drop i))))]
 | 0,i,out,h,ho=>by refine ⟨1,?_⟩;have hw:Kx out=true:=decide_eq_true (by omega);rw [Zv,List.drop_eq_nil_of_le (show m.length≤i by omega),show z2f []=[] from rfl,List.append_nil];simp (disch:=omega) only [z1g,Xu,Yf,Zs,Yw,Xh,Yv,Ya,Yk,Zt,Zq,Zh,Qg,Qa,decide_true,Zx,Zr,Ze,Yp,Zj,Nat.zero_add,Bool.and_true,Bool.true_and,cond_true,cond_false,Bool.not_true,Bool.not_false,Zm,Za,Zk,Vc,Xv,hw]
 | k+1,i,out,h,ho=>by obtain ⟨N,hN⟩:=v6t l m hl hm k (i+1) (out++z2f [rd m i]) (by omega) (by rw [List.length_append,Qf];simp;omega);refine ⟨N+1,?_⟩;rw [y5c m i (by omega),←List.append_assoc,Zv];simp (disch:=omega) only [z1g,Xu,Yf,Zs,Yw,Xh,Yv,Ya,Yk,Zt,Zq,Zh,Qg,Qa,decide_true,Zx,Zr,Ze,Yp,Zj,Nat.zero_add,Bool.and_true,Bool.true_and,cond_true,cond_false,Bool.not_true,Bool.not_false,Zm,Za,Zk,Vc,Xv];exact hN
theorem v6u (l m:List R4) (hl:l.length≤10000) (hm:m.length≤10000): ∀(k i:Nat) (out:List Int),i+k=l.length→out.length=2*i→ ∃N,Yj (z1g l m) N (.to (.h0 out (i:Int)))=.ret [.dat (z2c (out++z2f (l.drop i)++z2f m)).length (Zz (z2c (out++z2f (l.drop i)++z2f m)))]
 | 0,i,out,h,ho=>by obtain ⟨N,hN⟩:=v6t l m hl hm m.length 0 out (Nat.zero_add _) (by omega);refine ⟨N+1,?_⟩;rw [Zv,List.drop_eq_nil_of_le (show l.length≤i by omega),show z2f []=[] from rfl,List.append_nil];simp (disch:=omega) only [z1g,Xu,Yf,Zs,Yw,Xh,Yv,Ya,Yk,Zt,Zq,Zh,Qg,Qa,decide_true,Zx,Zr,Ze,Yp,Zj,Nat.zero_add,Bool.and_true,Bool.true_and,cond_true,cond_false,Bool.not_true,Bool.not_false,Zm,Za,Zk,Vc,Xv];exact hN
 | k+1,i,out,h,ho=>by obtain ⟨N,hN⟩:=v6u l m hl hm k (i+1) (out++z2f [rd l i]) (by omega) (by rw [List.length_append,Qf];simp;omega);refine ⟨N+1,?_⟩;rw [y5c l i (by omega),←List.append_assoc,Zv];simp (disch:=omega) only [z1g,Xu,Yf,Zs,Yw,Xh,Yv,Ya,Yk,Zt,Zq,Zh,Qg,Qa,decide_true,Zx,Zr,Ze,Yp,Zj,Nat.zero_add,Bool.and_true,Bool.true_and,cond_true,cond_false,Bool.not_true,Bool.not_false,Zm,Za,Zk,Vc,Xv];exact hN
theorem u1g (l m:List R4) (h:z9z l m=true): ∃N,Yj (z1g l m) N (y0j l m)=.ret [.dat (xsV l m).length (Zz (xsV l m))]:=by
 obtain ⟨h1,h2⟩:=of_decide_eq_true h;have:=v6u l m h1 h2 l.length 0 [] (Nat.zero_add _) rfl
 simpa [y0j,xsV] using this
def ysV (l m:List R4):List Int:=z2c (z1a l++z1a m)
def z9y (l m:List R4):Bool:=decide (l.length≤10000∧m.length≤10000)
theorem Qe (l:List R4):(z1a l).length =2*l.length:=by
 induction l with
 | nil=>rfl
 | cons r l ih=>show (_::_::z1a l).length =_;simp only [List.length_cons,ih];omega
theorem y5b (l:List R4) (i:Nat) (h:i<l.length):z1a (l.drop i)=z1a [rd l i]++z1a (l.drop (i+1)):=by rw [Yg h];rfl
theorem v6r (l m:List R4) (hl:l.length≤10000) (hm:m.length≤10000): ∀(k i:Nat) (out:List Int),i+k=m.length→out.length=2*l.length+2*i→ ∃N,Yj (z1f l m) N (.to (.h1 out (i:Int)))=.ret [.dat (z2c (out++z1a (m.drop i))).length (Zz (z2c (out++z1a (m.drop i))))]
 | 0,i,out,h,ho=>by refine ⟨1,?_⟩;have hw:Kx out=true:=decide_eq_true (by omega);rw [Zv,List.drop_eq_nil_of_le (show m.length≤i by omega),show z1a []=[] from rfl,List.append_nil];simp (disch:=omega) only [z1f,Xu,Yf,Zs,Yw,Xh,Yv,Ya,Yk,Zt,Zq,Zh,Qg,Qa,decide_true,Zx,Zr,Ze,Yp,Zj,Nat.zero_add,Bool.and_true,Bool.true_and,cond_true,cond_false,Bool.not_true,Bool.not_false,Zm,Za,Zk,Vc,Xv,hw]
 | k+1,i,out,h,ho=>by obtain ⟨N,hN⟩:=v6r l m hl hm k (i+1) (out++z1a [rd m i]) (by omega) (by rw [List.length_append,Qe];simp;omega);refine ⟨N+1,?_⟩;rw [y5b m i (by omega),←List.append_assoc,Zv];simp (disch:=omega) only [z1f,Xu,Yf,Zs,Yw,Xh,Yv,Ya,Yk,Zt,Zq,Zh,Qg,Qa,decide_true,Zx,Zr,Ze,Yp,Zj,Nat.zero_add,Bool.and_true,Bool.true_and,cond_true,cond_false,Bool.not_true,Bool.not_false,Zm,Za,Zk,Vc,Xv];exact hN
theorem v6s (l m:List R4) (hl:l.length≤10000) (hm:m.length≤10000): ∀(k i:Nat) (out:List Int),i+k=l.length→out.length=2*i→ ∃N,Yj (z1f l m) N (.to (.h0 out (i:Int)))=.ret [.dat (z2c (out++z1a (l.drop i)++z1a m)).length (Zz (z2c (out++z1a (l.drop i)++z1a m)))]
 | 0,i,out,h,ho=>by obtain ⟨N,hN⟩:=v6r l m hl hm m.length 0 out (Nat.zero_add _) (by omega);refine ⟨N+1,?_⟩;rw [Zv,List.drop_eq_nil_of_le (show l.length≤i by omega),show z1a []=[] from rfl,List.append_nil];simp (disch:=omega) only [z1f,Xu,Yf,Zs,Yw,Xh,Yv,Ya,Yk,Zt,Zq,Zh,Qg,Qa,decide_true,Zx,Zr,Ze,Yp,Zj,Nat.zero_add,Bool.and_true,Bool.true_and,cond_true,cond_false,Bool.not_true,Bool.not_false,Zm,Za,Zk,Vc,Xv];exact hN
 | k+1,i,out,h,ho=>by obtain ⟨N,hN⟩:=v6s l m hl hm k (i+1) (out++z1a [rd l i]) (by omega) (by rw [List.length_append,Qe];simp;omega);refine ⟨N+1,?_⟩;rw [y5b l i (by omega),←List.append_assoc,Zv];simp (disch:=omega) only [z1f,Xu,Yf,Zs,Yw,Xh,Yv,Ya,Yk,Zt,Zq,Zh,Qg,Qa,decide_true,Zx,Zr,Ze,Yp,Zj,Nat.zero_add,Bool.and_true,Bool.true_and,cond_true,cond_false,Bool.not_true,Bool.not_false,Zm,Za,Zk,Vc,Xv];exact hN
theorem u1f (l m:List R4) (h:z9y l m=true): ∃N,Yj (z1f l m) N (y0i l m)=.ret [.dat (ysV l m).length (Zz (ysV l m))]:=by
 obtain ⟨h1,h2⟩:=of_decide_eq_true h;have:=v6s l m h1 h2 l.length 0 [] (Nat.zero_add _) rfl
 simpa [y0i,ysV] using this
def Wt (l m:List R6):List Int:=z2c (z2e l++z2e m)
def z6y (l m:List R6):Bool:=decide (l.length≤10000∧m.length≤10000)
theorem Qd (l:List R6):(z2e l).length =2*l.length:=by
 induction l with
 | nil=>rfl
 | cons r l ih=>show (_::_::z2e l).length =_;simp only [List.length_cons,ih];omega
theorem y4y (l:List R6) (i:Nat) (h:i<l.length):z2e (l.drop i)=z2e [rd l i]++z2e (l.drop (i+1)):=by rw [Yg h];rfl
theorem w6e (l m:List R6) (hl:l.length≤10000) (hm:m.length≤10000): ∀(k i:Nat) (out:List Int),i+k=m.length→out.length=2*l.length+2*i→ ∃N,Yj (Kh l m) N (.to (.h1 out (i:Int)))=.ret [.dat (z2c (out++z2e (m.drop i))).length (Zz (z2c (out++z2e (m.drop i))))]
 | 0,i,out,h,ho=>by refine ⟨1,?_⟩;have hw:Kx out=true:=decide_eq_true (by omega);rw [Zv,List.drop_eq_nil_of_le (show m.length≤i by omega),show z2e []=[] from rfl,List.append_nil];simp (disch:=omega) only [Kh,Xu,Yf,Zs,Yw,Xh,Yv,Ya,Yk,Zt,Zq,Zh,Qg,Qa,decide_true,Zx,Zr,Ze,Yp,Zj,Nat.zero_add,Bool.and_true,Bool.true_and,cond_true,cond_false,Bool.not_true,Bool.not_false,Zm,Za,Zk,Vc,Xv,hw]
 | k+1,i,out,h,ho=>by obtain ⟨N,hN⟩:=w6e l m hl hm k (i+1) (out++z2e [rd m i]) (by omega) (by rw [List.length_append,Qd];simp;omega);refine ⟨N+1,?_⟩;rw [y4y m i (by omega),←List.append_assoc,Zv];simp (disch:=omega) only [Kh,Xu,Yf,Zs,Yw,Xh,Yv,Ya,Yk,Zt,Zq,Zh,Qg,Qa,decide_true,Zx,Zr,Ze,Yp,Zj,Nat.zero_add,Bool.and_true,Bool.true_and,cond_true,cond_false,Bool.not_true,Bool.not_false,Zm,Za,Zk,Vc,Xv];exact hN
theorem w6f (l m:List R6) (hl:l.length≤10000) (hm:m.length≤10000): ∀(k i:Nat) (out:List Int),i+k=l.length→out.length=2*i→ ∃N,Yj (Kh l m) N (.to (.h0 out (i:Int)))=.ret [.dat (z2c (out++z2e (l.drop i)++z2e m)).length (Zz (z2c (out++z2e (l.drop i)++z2e m)))]
 | 0,i,out,h,ho=>by obtain ⟨N,hN⟩:=w6e l m hl hm m.length 0 out (Nat.zero_add _) (by omega);refine ⟨N+1,?_⟩;rw [Zv,List.drop_eq_nil_of_le (show l.length≤i by omega),show z2e []=[] from rfl,List.append_nil];simp (disch:=omega) only [Kh,Xu,Yf,Zs,Yw,Xh,Yv,Ya,Yk,Zt,Zq,Zh,Qg,Qa,decide_true,Zx,Zr,Ze,Yp,Zj,Nat.zero_add,Bool.and_true,Bool.true_and,cond_true,cond_false,Bool.not_true,Bool.not_false,Zm,Za,Zk,Vc,Xv];exact hN
 | k+1,i,out,h,ho=>by obtain ⟨N,hN⟩:=w6f l m hl hm k (i+1) (out++z2e [rd l i]) (by omega) (by rw [List.length_append,Qd];simp;omega);refine ⟨N+1,?_⟩;rw [y4y l i (by omega),←List.append_assoc,Zv];simp (disch:=omega) only [Kh,Xu,Yf,Zs,Yw,Xh,Yv,Ya,Yk,Zt,Zq,Zh,Qg,Qa,decide_true,Zx,Zr,Ze,Yp,Zj,Nat.zero_add,Bool.and_true,Bool.true_and,cond_true,cond_false,Bool.not_true,Bool.not_false,Zm,Za,Zk,Vc,Xv];exact hN
theorem v2o (l m:List R6) (h:z6y l m=true): ∃N,Yj (Kh l m) N (z6c l m)=.ret [.dat (Wt l m).length (Zz (Wt l m))]:=by
 obtain ⟨h1,h2⟩:=of_decide_eq_true h;have:=w6f l m h1 h2 l.length 0 [] (Nat.zero_add _) rfl
 simpa [z6c,Wt] using this
def fXs :List AVal→Option (AVal×Bool)
 | [a0,a1]=>match asL R4 a0,asL R4 a1 with
  | some (L0,g0,n0),some (L1,g1,n1)=>some (.dat (xsV L0 L1).length (Zz (xsV L0 L1)),isT R4 n0 g0&&(isT R4 n1 g1&&(z9z L0 L1)))
  | _,_=>none
 | _=>none
theorem fXs_ok {S:Specs} (hS:Zu prog S):Zu prog (S.with nXs fXs):=by
 refine z3e hS (by kernel_rfl) fun args v h=> ?_;unfold fXs at h;split at h
 ·rename_i a0 a1;split at h
  ·rename_i L0 g0 n0 L1 g1 n1 e0 e1;simp only [Option.some.injEq,Prod.mk.injEq,Bool.and_eq_true] at h;obtain ⟨rfl,ho0,ho1,hw⟩:=h;obtain ⟨N,hN⟩:=u1g L0 L1 hw;exact ⟨_,_,(.cons (asL_le e0 ho0) (.cons (asL_le e1 ho1) .nil)),rfl,v1r L0 L1 N _ hN,3,rfl⟩
  ·cases h
 ·cases h
def fYs :List AVal→Option (AVal×Bool)
 | [a0,a1]=>match asL R4 a0,asL R4 a1 with
  | some (L0,g0,n0),some (L1,g1,n1)=>some (.dat (ysV L0 L1).length (Zz (ysV L0 L1)),isT R4 n0 g0&&(isT R4 n1 g1&&(z9y L0 L1)))
  | _,_=>none
 | _=>none
theorem fYs_ok {S:Specs} (hS:Zu prog S):Zu prog (S.with nYs fYs):=by
 refine z3e hS (by kernel_rfl) fun args v h=> ?_;unfold fYs at h;split at h
 ·rename_i a0 a1;split at h
  ·rename_i L0 g0 n0 L1 g1 n1 e0 e1;simp only [Option.some.injEq,Prod.mk.injEq,Bool.and_eq_true] at h;obtain ⟨rfl,ho0,ho1,hw⟩:=h;obtain ⟨N,hN⟩:=u1f L0 L1 hw;exact ⟨_,_,(.cons (asL_le e0 ho0) (.cons (asL_le e1 ho1) .nil)),rfl,v1q L0 L1 N _ hN,3,rfl⟩
  ·cases h
 ·cases h
def u5a :List AVal→Option (AVal×Bool)
 | [a0,a1]=>match asL R6 a0,asL R6 a1 with
  | some (L0,g0,n0),some (L1,g1,n1)=>some (.dat (Wt L0 L1).length (Zz (Wt L0 L1)),isT R6 n0 g0&&(isT R6 n1 g1&&(z6y L0 L1)))
  | _,_=>none
 | _=>none
theorem v4s {S:Specs} (hS:Zu prog S):Zu prog (S.with nCuts u5a):=by
 refine z3e hS (by kernel_rfl) fun args v h=> ?_;unfold u5a at h;split at h
 ·rename_i a0 a1;split at h
  ·rename_i L0 g0 n0 L1 g1 n1 e0 e1;simp only [Option.some.injEq,Prod.mk.injEq,Bool.and_eq_true] at h;obtain ⟨rfl,ho0,ho1,hw⟩:=h;obtain ⟨N,hN⟩:=v2o L0 L1 hw;exact ⟨_,_,(.cons (asL_le e0 ho0) (.cons (asL_le e1 ho1) .nil)),rfl,w6g L0 L1 N _ hN,3,rfl⟩
  ·cases h
 ·cases h
def T2 :Specs:=((T1.with nXs fXs).with nYs fYs).with nCuts u5a
theorem z8t :Zu prog T2:=v4s (fYs_ok (fXs_ok z1z))
end Go.Am
namespace Go.Am
open Go.Proofs.Tryz
open Go.Proofs
inductive rjoS where
 | h0 (v9:List R4) (v10:List R2) (v11:Int) (v12:Int)
 | h1 (v9:List R4) (v10:List R2) (v11:Int) (v12:Int) (v13:List Bool) (v14:Int)
 | h2 (v9:List R4) (v10:List R2) (v11:Int) (v12:Int) (v15:List R2) (v17:Int)
 | h3 (v9:List R4) (v10:List R2) (v11:Int) (v12:Int) (v16:Int)
abbrev z9a (x0:Int) (l1:List R4) (l2:List R4) (v12:Int) (v14:Int):=(y3b x0 (has4V (cvT l1) (rd (xsV (cvT l1) (cvT l2)) (tn v12)) (rd (ysV (cvT l1) (cvT l2)) (tn v14))) (has4V (cvT l2) (rd (xsV (cvT l1) (cvT l2)) (tn v12)) (rd (ysV (cvT l1) (cvT l2)) (tn v14))))
abbrev y5v (v9:List R4) (v16:Int) (l1:List R4) (l2:List R4) (v12:Int):=(v9.set (0+(tn v16)) (R4.mk (rd v9 (0+(tn v16))).a (rd v9 (0+(tn v16))).b (rd (xsV (cvT l1) (cvT l2)) (tn (wr (v12+1)))) (rd v9 (0+(tn v16))).d))
abbrev y5u (v9:List R4) (l1:List R4) (l2:List R4) (v12:Int) (v15:List R2) (v17:Int):=(v9++[(R4.mk (rd (xsV (cvT l1) (cvT l2)) (tn v12)) (rd v15 (tn v17)).a (rd (xsV (cvT l1) (cvT l2)) (tn (wr (v12+1)))) (rd v15 (tn v17)).b)])
abbrev Kc (l1:List R4) (l2:List R4):=(ysV (cvT l1) (cvT l2))
def x8h (l1:List R4) (l2:List R4):AVal:=(.dat (xsV (cvT l1) (cvT l2)).length (Zz (xsV (cvT l1) (cvT l2))))
def x8g (l1:List R4) (l2:List R4):AVal:=(.dat (Kc l1 l2).length (Zz (Kc l1 l2)))
def rjoC (x0:Int) (l1:List R4) (l2:List R4):rjoS→Cfg
 | .h0 v9 v10 v11 v12=>⟨⟨121,0,true⟩,none,(Zc prog 126 [1,1,1,1,1,0,1,0,0] 0),none,(Zy prog 8),⟨Yb [(0,(ii x0)),(1,(.dat l1.length (Zz l1))),(2,(.dat l2.length (Zz l2))),(7,(x8h l1 l2)),(8,(x8g l1 l2)),(9,(.sla 0 4 0 v9.length (.un 4))),(10,(.dat v10.length (Zz v10))),(11,(ii v11)),(12,(ii v12))],Ug [⟨rows v9.length (Zz v9),88,some ⟨4,v9.length,(Zz v9)⟩⟩] 0,1,[],true⟩,[],.leaf⟩
 | .h1 v9 v10 v11 v12 v13 v14=>⟨⟨121,0,true⟩,none,(Zc prog 126 [1,1,1,1,1,0,1,0,0,1,0,0,1,0,1,0,0] 0),none,(Zy prog 8),⟨Yb [(0,(ii x0)),(1,(.dat l1.length (Zz l1))),(2,(.dat l2.length (Zz l2))),(7,(x8h l1 l2)),(8,(x8g l1 l2)),(9,(.sla 1 4 0 v9.length (.un 4))),(10,(.dat v10.length (Zz v10))),(11,(ii v11)),(12,(ii v12)),(13,(.sla 0 1 0 v13.length (.un 1))),(14,(ii v14))],Ug [⟨rows v13.length (Zz v13),4,some ⟨1,v13.length,(Zz v13)⟩⟩,⟨rows v9.length (Zz v9),88,some ⟨4,v9.length,(Zz v9)⟩⟩] 0,2,[],true⟩,[],.leaf⟩
 | .h2 v9 v10 v11 v12 v15 v17=>⟨⟨121,0,true⟩,none,(Zc prog 126 [1,1,1,1,1,0,1,0,0,1,0,0,1,1,1,1,1,1,0,0] 0),none,(Zy prog 8),⟨Yb [(0,(ii x0)),(1,(.dat l1.length (Zz l1))),(2,(.dat l2.length (Zz l2))),(7,(x8h l1 l2)),(8,(x8g l1 l2)),(9,(.sla 0 4 0 v9.length (.un 4))),(10,(.dat v10.length (Zz v10))),(11,(ii v11)),(12,(ii v12)),(15,(.dat v15.length (Zz v15))),(17,(ii v17))],Ug [⟨rows v9.length (Zz v9),88,some ⟨4,v9.length,(Zz v9)⟩⟩] 0,1,[],true⟩,[],.leaf⟩
 | .h3 v9 v10 v11 v12 v16=>⟨⟨121,0,true⟩,none,(Zc prog 126 [1,1,1,1,1,0,1,0,0,1,0,0,1,1,1,0,1,0,0,1,0,0] 0),none,(Zy prog 8),⟨Yb [(0,(ii x0)),(1,(.dat l1.length (Zz l1))),(2,(.dat l2.length (Zz l2))),(7,(x8h l1 l2)),(8,(x8g l1 l2)),(9,(.sla 0 4 0 v9.length (.un 4))),(10,(.dat v10.length (Zz v10))),(11,(ii v11)),(12,(ii v12)),(16,(ii v16))],Ug [⟨rows v9.length (Zz v9),88,some ⟨4,v9.length,(Zz v9)⟩⟩] 0,1,[],true⟩,[],.leaf⟩
def u1s :List (Option (List Nat)):=[some [0,1,2,7,8,9,10,11,12]]
def u1u :List (Option (List Nat)):=[]
def rjoN1 :List (Option (List Nat)):=[some [0,1,2,7,8,9,10,11,12,13,14]]
def rjoM1 :List (Option (List Nat)):=[]
def u1r :List (Option (List Nat)):=[some [0,1,2,7,8,9,10,11,12,15,17]]
def u1t :List (Option (List Nat)):=[]
def rjoN3 :List (Option (List Nat)):=[some [0,1,2,7,8,9,10,11,12,16]]
def rjoM3 :List (Option (List Nat)):=[]
def Vz (x0:Int) (l1:List R4) (l2:List R4):rjoS→Xn rjoS
 | .h0 v9 v10 v11 v12=>(bif (decide ((IntKind.wrap .i64 (v12+1))<(((xsV (cvT l1) (cvT l2)).length :Nat):Int))) then (.to (.h1 v9 v10 v11 v12 ([]:List Bool) 0)) else (.ret [(.dat v9.length (Zz v9))]))
 | .h1 v9 v10 v11 v12 v13 v14=>(bif (decide (v14<(((ysV (cvT l1) (cvT l2)).length :Nat):Int))) then (bif (Qx (cvT l1) (rd (xsV (cvT l1) (cvT l2)) v12.toNat) (rd (ysV (cvT l1) (cvT l2)) v14.toNat)) then (bif ((decide (0≤v12∧v12<(((xsV (cvT l1) (cvT l2)).length :Nat):Int)))&&true) then (bif ((decide (0≤v14∧v14<(((ysV (cvT l1) (cvT l2)).length :Nat):Int)))&&true) then (bif (Qx (cvT l2) (rd (xsV (cvT l1) (cvT l2)) v12.toNat) (rd (ysV (cvT l1) (cvT l2)) v14.toNat)) then (bif (Nat.beq 1 1&&((decide (0+v13.length=v13.length))&&decide ((v13.length+1+1)*(1+1)≤Ur))) then (.to (.h1 v9 v10 v11 v12 (v13++[(y3b x0 (has4V (cvT l1) (rd (xsV (cvT l1) (cvT l2)) v12.toNat) (rd (ysV (cvT l1) (cvT l2)) v14.toNat)) (has4V (cvT l2) (rd (xsV (cvT l1) (cvT l2)) v12.toNat) (rd (ysV (cvT l1) (cvT l2)) v14.toNat)))]) (IntKind.wrap .i64 (v14+1)))) else .stuck) else .stuck) else .stuck) else .stuck) else .stuck) else (bif (z7b (cvT (ysV (cvT l1) (cvT l2))) (cvT v13)) then (bif (decide (v12>0)) then (bif (Vp (cvT (z9q (cvT (ysV (cvT l1) (cvT l2))) (cvT v13))) (cvT v10)) then (bif (Ku (cvT (z9q (cvT (ysV (cvT l1) (cvT l2))) (cvT v13))) (cvT v10)) then (.to (.h3 v9 v10 v11 v12 v11)) else (.to (.h2 v9 (z9q (cvT (ysV (cvT l1) (cvT l2))) (cvT v13)) (v9.length:Int) v12 (z9q (cvT (ysV (cvT l1) (cvT l2))) (cvT v13)) 0))) else .stuck) else (.to (.h2 v9 (z9q (cvT (ysV (cvT l1) (cvT l2))) (cvT v13)) (v9.length:Int) v12 (z9q (cvT (ysV (cvT l1) (cvT l2))) (cvT v13)) 0))) else .stuck))
 | .h2 v9 v10 v11 v12 v15 v17=>(bif (decide (v17<(v15.length:Int))) then (bif ((decide (0≤v12∧v12<(((xsV (cvT l1) (cvT l2)).length :Nat):Int)))&&true) then (bif ((decide (0≤(IntKind.wrap .i64 (v12+1))∧(IntKind.wrap .i64 (v12+1))<(((xsV (cvT l1) (cvT l2)).length :Nat):Int)))&&true) then (bif ((decide (0≤v17∧v17<(v15.length:Int)))&&true) then (bif (Nat.beq 4 4&&((decide (0+v9.length=v9.length))&&decide ((v9.length+1+1)*(32+1)≤Ur))) then (.to (.h2 (v9++[(R4.mk (rd (xsV (cvT l1) (cvT l2)) v12.toNat) (rd v15 v17.toNat).a (rd (xsV (cvT l1) (cvT l2)) (Int.toNat (IntKind.wrap .i64 (v12+1)))) (rd v15 v17.toNat).b)]) v10 v11 v12 v15 (IntKind.wrap .i64 (v17+1)))) else .stuck) else .stuck) else .stuck) else .stuck) else (.to (.h0 v9 v10 v11 (IntKind.wrap .i64 (v12+1)))))
 | .h3 v9 v10 v11 v12 v16=>(bif (decide (v16<(v9.length:Int))) then (bif ((decide (0≤(IntKind.wrap .i64 (v12+1))∧(IntKind.wrap .i64 (v12+1))<(((xsV (cvT l1) (cvT l2)).length :Nat):Int)))&&true) then (bif ((decide (0≤v16∧v16<(v9.length:Int)))&&true) then (bif (decide ((0+v16.toNat)<v9.length)) then (.to (.h3 (v9.set (0+v16.toNat) (R4.mk (rd v9 (0+v16.toNat)).a (rd v9 (0+v16.toNat)).b (rd (xsV (cvT l1) (cvT l2)) (Int.toNat (IntKind.wrap .i64 (v12+1)))) (rd v9 (0+v16.toNat)).d)) v10 v11 v12 (IntKind.wrap .i64 (v16+1)))) else .stuck) else .stuck) else .stuck) else (.to (.h0 v9 v10 v11 (IntKind.wrap .i64 (v12+1)))))
def y0o (x0:Int) (l1:List R4) (l2:List R4):Xn rjoS:=(bif (z9z (cvT l1) (cvT l2)) then (bif (z9y (cvT l1) (cvT l2)) then (.to (.h0 ([]:List R4) ([]:List R2) 0 0)) else .stuck) else .stuck)
theorem w1k (x0:Int) (l1:List R4) (l2:List R4): ∀s,Xk prog (Zy prog 126) (rjoC x0 l1 l2) (rjoC x0 l1 l2 s) (Vz x0 l1 l2 s)
 | .h0 v9 v10 v11 v12=>(lb (fun k0=>(sl z8t 24 [(4,1,Zz ([]:List Bool))] ⟨[1,0],[],rjoN1,rjoM1⟩ ⟨[(13,.grow 0 1)],[],[]⟩ [true] (pp (fl ([]:List Bool) (fl v9 nn)) (tt k0 nn)))) (fun k0=>(lr 121 3 [1,1,1,1,1,1,1,0] 1 8 [(6,(.dat v9.length (Zz v9)))] (sl z8t 16 [] ⟨[],[0],[some [6]],[]⟩ ⟨[(6,.frz v9.length v9.length (Zz v9) (Zz v9))],[],[]⟩ [false] (pp (xZ (z5c 4 4 0 v9.length v9.length (Zz v9)) v9.length (Zz v9)) (pp (xL v9.length v9.length) (pp (xS v9.length (Zz v9) (Zz v9)) (pp (fl v9 nn) (tt k0 nn)))))))))
 | .h1 v9 v10 v11 v12 v13 v14=>(lb (fun k0=>(lo fun o0=>(lo fun o1=>(lo fun o2=>(lo fun o3=>(lo fun o4=>(sl z8t 20 [] ⟨[3,1],[],rjoN1,rjoM1⟩ ⟨[(13,.len (v13++[(z9a x0 l1 l2 v12 v14)]).length)],[.rowed 1 (v13++[(z9a x0 l1 l2 v12 v14)]).length (Zz (v13++[(z9a x0 l1 l2 v12 v14)])),.keep],[]⟩ [true] (pp (xL (v13.length+1) (v13++[(z9a x0 l1 l2 v12 v14)]).length) (pp (xL (v13.length+1) (v13++[(z9a x0 l1 l2 v12 v14)]).length) (pp (xS (v13.length+1) (Zf (Zz v13) 0 v13.length 1 [(.bool (z9a x0 l1 l2 v12 v14))]) (Zz (v13++[(z9a x0 l1 l2 v12 v14)]))) (pp (pp (xF (Zf (Zz v13) 0 v13.length 1 [(.bool (z9a x0 l1 l2 v12 v14))])) (fl v9 nn)) (ww o4 (pp (pp (xr l2) (xw o3)) (ww o2 (ww o1 (pp (pp (xr l1) (xw o0)) (ww o2 (ww o1 (tt k0 nn))))))))))))))))))) (fun k0=>(Wd (sl z8t (C':=⟨⟨121,0,true⟩,(Uq prog 126 [1,1,1,1,1,0,1,0,0,1,0,0,1,1,0] 2),(Zc prog 126 [1,1,1,1,1,0,1,0,0,1,0,0,1,1,0] 1),none,(Zy prog 8),⟨Yb [(0,(ii x0)),(1,(.dat l1.length (Zz l1))),(2,(.dat l2.length (Zz l2))),(7,(.dat (xsV (cvT l1) (cvT l2)).length (Zz (xsV (cvT l1) (cvT l2))))),(8,(.dat (Kc l1 l2).length (Zz (Kc l1 l2)))),(9,(.sla 0 4 0 v9.length (.un 4))),(10,(.dat v10.length (Zz v10))),(11,(ii v11)),(12,(ii v12)),(62,(.dat (Kc l1 l2).length (Zz (Kc l1 l2)))),(63,(.dat v13.length (Zz v13)))],Ug [⟨rows v9.length (Zz v9),88,some ⟨4,v9.length,(Zz v9)⟩⟩] 0,1,[],true⟩,[],.leaf⟩) 14 [] ⟨[1],[0],[some [0,1,2,7,8,9,10,11,12,62,63]],[]⟩ ⟨[(63,.frz v13.length v13.length (Zz v13) (Zz v13))],[],[]⟩ [false] (pp (xZ (z5c 1 1 0 v13.length v13.length (Zz v13)) v13.length (Zz v13)) (pp (xL v13.length v13.length) (pp (xS v13.length (Zz v13) (Zz v13)) (pp (fl v9 nn) (pp (fl v13 nn) (tt k0 nn))))))) (lo fun aG=>(lb (fun k1=>(lo fun bX=>(lb (fun k2=>(sl z8t 23 [] ⟨[0],[],rjoN3,rjoM3⟩ ⟨[],[],[]⟩ (trs 4 []) (pp (fl v9 nn) (tt k2 (pp (pp (xI R2 (z9q (cvT (Kc l1 l2)) (cvT v13)).length (Zz (z9q (cvT (Kc l1 l2)) (cvT v13)))) (pp (xr v10) (xw bX))) (tt k1 (pp (pp (xI Int (Kc l1 l2).length (Zz (Kc l1 l2))) (pp (xr v13) (xw aG))) nn))))))) (fun k2=>(sl z8t 30 [] ⟨[0],[],u1r,u1t⟩ ⟨[],[],[]⟩ (trs 3 [false]) (pp (fl v9 nn) (tt k2 (pp (pp (xI R2 (z9q (cvT (Kc l1 l2)) (cvT v13)).length (Zz (z9q (cvT (Kc l1 l2)) (cvT v13)))) (pp (xr v10) (xw bX))) (tt k1 (pp (pp (xI Int (Kc l1 l2).length (Zz (Kc l1 l2))) (pp (xr v13) (xw aG))) nn)))))))))) (fun k1=>(sl z8t 30 [] ⟨[0],[],u1r,u1t⟩ ⟨[],[],[]⟩ (bl 4 0) (pp (fl v9 nn) (tt k1 (pp (pp (xI Int (Kc l1 l2).length (Zz (Kc l1 l2))) (pp (xr v13) (xw aG))) nn))))))))))
 | .h2 v9 v10 v11 v12 v15 v17=>(lb (fun k0=>(lo fun o0=>(lo fun o1=>(lo fun o2=>(lo fun o3=>(sl z8t 20 [] ⟨[2],[],u1r,u1t⟩ ⟨[(9,.len (y5u v9 l1 l2 v12 v15 v17).length)],[.rowed 4 (y5u v9 l1 l2 v12 v15 v17).length (Zz (y5u v9 l1 l2 v12 v15 v17))],[]⟩ [true] (pp (xL (v9.length+1) (y5u v9 l1 l2 v12 v15 v17).length) (pp (xL (v9.length+1) (y5u v9 l1 l2 v12 v15 v17).length) (pp (xS (v9.length+1) (Zf (Zz v9) 0 v9.length 4 [(ii (rd (xsV (cvT l1) (cvT l2)) (tn v12))),(ii (rd v15 (tn v17)).a),(ii (rd (xsV (cvT l1) (cvT l2)) (tn (wr (v12+1))))),(ii (rd v15 (tn v17)).b)]) (Zz (y5u v9 l1 l2 v12 v15 v17))) (pp (pp (xF (Zf (Zz v9) 0 v9.length 4 [(ii (rd (xsV (cvT l1) (cvT l2)) (tn v12))),(ii (rd v15 (tn v17)).a),(ii (rd (xsV (cvT l1) (cvT l2)) (tn (wr (v12+1))))),(ii (rd v15 (tn v17)).b)])) nn) (ww o3 (ww o2 (ww o1 (ww o2 (ww o0 (tt k0 nn)))))))))))))))) (fun k0=>(sl z8t 17 [] ⟨[0],[],u1s,u1u⟩ ⟨[],[],[]⟩ [false] (pp (fl v9 nn) (tt k0 nn)))))
 | .h3 v9 v10 v11 v12 v16=>(lb (fun k0=>(lo fun o0=>(lo fun o1=>(lo fun o2=>(sl z8t 31 [] ⟨[0],[],rjoN3,rjoM3⟩ ⟨[(9,.len (y5v v9 v16 l1 l2 v12).length)],[.rowed 4 (y5v v9 v16 l1 l2 v12).length (Zz (y5v v9 v16 l1 l2 v12))],[]⟩ [true] (pp (xL v9.length (y5v v9 v16 l1 l2 v12).length) (pp (xL v9.length (y5v v9 v16 l1 l2 v12).length) (pp (xS v9.length (Xc (Zz v9) (0+(tn v16)) 2 [(ii (rd (xsV (cvT l1) (cvT l2)) (tn (wr (v12+1)))))]) (Zz (y5v v9 v16 l1 l2 v12))) (pp (pp (xF (Xc (Zz v9) (0+(tn v16)) 2 [(ii (rd (xsV (cvT l1) (cvT l2)) (tn (wr (v12+1)))))])) nn) (ww o2 (ww o1 (ww o0 (tt k0 nn))))))))))))) (fun k0=>(sl z8t 17 [] ⟨[0],[],u1s,u1u⟩ ⟨[],[],[]⟩ [false] (pp (fl v9 nn) (tt k0 nn)))))
theorem x4e (x0:Int) (l1:List R4) (l2:List R4):Xk prog (Zy prog 126) (rjoC x0 l1 l2) (Zd prog 126 [(.int .i64 x0),(.dat l1.length (Zz l1)),(.dat l2.length (Zz l2))] true []) (y0o x0 l1 l2):=(lo fun o0=>(lo fun o1=>(sl z8t 34 [(88,4,Zz ([]:List R4))] ⟨[0],[],u1s,u1u⟩ ⟨[(9,.grow 0 4),(10,.list 0 (Zz ([]:List R2)))],[],[]⟩ [] (pp (fl ([]:List R4) nn) (pp (pp (xr l1) (pp (xr l2) (xw o1))) (pp (pp (xr l1) (pp (xr l2) (xw o0))) nn))))))
theorem v1y (x0:Int) (l1:List R4) (l2:List R4) (n:Nat) (vs:List AVal) (h:Yj (Vz x0 l1 l2) n (y0o x0 l1 l2)=.ret vs):Kz prog (Zy prog 126) (Zd prog 126 [(.int .i64 x0),(.dat l1.length (Zz l1)),(.dat l2.length (Zz l2))] true []) vs:=by have:=Zo (w1k x0 l1 l2) n _ (x4e x0 l1 l2);rwa [h] at this
end Go.Am
namespace Go.Am
open Go.Proofs
theorem z0t : ∀(l out:List Int),(l.foldl y2z out).length ≤out.length+l.length
 | [],out=>Nat.le_refl _
 | x::l,out=>Nat.le_trans (z0t l (y2z out x)) (by have:=y2y out x;simp;omega)
theorem z4n (l:List Int):(z2c l).length ≤l.length:=by
 have:=z0t l []
 simpa [z2c] using this
theorem y3r (cuts:List Int) (ins:List Bool): ∀(k i:Nat) (out:List R2),(w3y cuts ins k i out).length ≤out.length+k
 | 0,_,out=>Nat.le_refl _
 | k+1,i,out=>by
  unfold w3y;refine Nat.le_trans (y3r cuts ins k (i+1) _) ?_;cases rd ins i
  ·simp only [cond_false];omega
  ·simp only [cond_true];cases (decide (0<out.length)&&((rd out (out.length - 1)).b == rd cuts i)) <;> simp <;> omega
theorem x7a (cuts:List Int) (ins:List Bool):(z9q cuts ins).length ≤cuts.length:=by have:=y3r cuts ins (cuts.length - 1) 0 [];unfold z9q;simp only [List.length_nil] at this;omega
section
variable (kind:Int) (l m:List R4)
def v5g (x:Int) (y:Int):Bool:=y3b kind (has4V l x y) (has4V m x y)
def x7y (x:Int):List R2:=z9q (ysV l m) ((ysV l m).map (v5g kind l m x))
def v0r (out:List R4) (first:Nat) (x:Int):List R4:=out.take first++(out.drop first).map fun r=>⟨r.a,r.b,x,r.d⟩
def u2h (x x':Int) (s:List R2):List R4:=s.map fun p=>⟨x,p.a,x',p.b⟩
def jF :Nat→Nat→List R4→List R2→Nat→List R4
 | 0,_,out,_,_=>out
 | k+1,i,out,last,first=>
  bif decide (0<i)&&Ku (x7y kind l m (rd (xsV l m) i)) last then jF k (i+1) (v0r out first (rd (xsV l m) (i+1))) last first
  else jF k (i+1) (out++u2h (rd (xsV l m) i) (rd (xsV l m) (i+1)) (x7y kind l m (rd (xsV l m) i))) (x7y kind l m (rd (xsV l m) i)) out.length
def joV :List R4:=jF kind l m ((xsV l m).length - 1) 0 [] [] 0
end
def z0a (_:Int) (l m:List R4):Bool:=decide (l.length≤10000∧m.length≤10000)
theorem Ji (l m:List R4):(xsV l m).length ≤2*l.length+2*m.length:=by refine Nat.le_trans (z4n _) ?_;rw [List.length_append,Qf,Qf];omega
theorem y4z (l m:List R4):(ysV l m).length ≤2*l.length+2*m.length:=by refine Nat.le_trans (z4n _) ?_;rw [List.length_append,Qe,Qe];omega
section
variable (kind:Int) (l m:List R4) (hl:l.length≤10000) (hm:m.length≤10000)
include hl hm
theorem v7e (out:List R4) (last:List R2) (first:Int) (i:Nat) (hi:i+1<(xsV l m).length): ∀(k j:Nat) (acc:List Bool),j+k=(ysV l m).length →acc.length=j→
  ∃n,∀N,Yj (Vz kind l m) (N+n) (.to (.h1 out last first (i:Int) acc (j:Int)))=Yj (Vz kind l m) N (.to (.h1 out last first (i:Int) (acc++((ysV l m).drop j).map (v5g kind l m (rd (xsV l m) i))) ((ysV l m).length :Int)))
 | 0,j,acc,h,ha=>by refine ⟨0,fun N=> ?_⟩;rw [List.drop_eq_nil_of_le (by omega),List.map_nil,List.append_nil,Nat.add_zero];rw [show j=(ysV l m).length by omega]
 | k+1,j,acc,h,ha=>by
  have hx:=Ji l m;have hy:=y4z l m;obtain ⟨n,hn⟩:=v7e out last first i hi k (j+1) (acc++[v5g kind l m (rd (xsV l m) i) (rd (ysV l m) j)]) (by omega) (by simp [ha])
  refine ⟨n+1,fun N=> ?_⟩;have w1: ∀x y,Qx l x y=true:=fun x y=>decide_eq_true (by omega);have w2: ∀x y,Qx m x y=true:=fun x y=>decide_eq_true (by omega);rw [Yg (show j<(ysV l m).length by omega),List.map_cons,←Nat.add_assoc,Zv];simp (disch:=omega) only [Vz,Za,Zk,w1,w2,Zs,Zt,Ya,Yk,Zh,Zq,Zx,Yp,Zj,Nat.zero_add,decide_true,Bool.and_true,Bool.true_and,cond_true];have:=hn N;rw [List.append_assoc] at this;exact this
theorem v7d (last:List R2) (first:Int) (i:Nat) (hi:i+1<(xsV l m).length) (s:List R2) (hs:s.length≤1000000): ∀(k j:Nat) (out:List R4),j+k=s.length→out.length≤10000000000+j→
  ∃n,∀N,Yj (Vz kind l m) (N+n) (.to (.h2 out last first (i:Int) s (j:Int)))=Yj (Vz kind l m) N (.to (.h0 (out++u2h (rd (xsV l m) i) (rd (xsV l m) (i+1)) (s.drop j)) last first ((i+1:Nat):Int)))
 | 0,j,out,h,ho=>by have hx:=Ji l m;refine ⟨1,fun N=> ?_⟩;rw [List.drop_eq_nil_of_le (by omega),Zv];simp (disch:=omega) only [Vz,Za,Zk,Yw,Zq,Zx,cond_false,u2h,List.map_nil,List.append_nil]
 | k+1,j,out,h,ho=>by
  have hx:=Ji l m;obtain ⟨n,hn⟩:=v7d last first i hi s hs k (j+1) (out++u2h (rd (xsV l m) i) (rd (xsV l m) (i+1)) [rd s j]) (by omega) (by simp [u2h];omega)
  refine ⟨n+1,fun N=> ?_⟩;have:=hn N;rw [Yg (show j<s.length by omega),←Nat.add_assoc,Zv];simp (disch:=omega) only [Vz,Za,Zk,Zs,Zt,Ya,Yk,Zh,Zq,Zx,Yp,Zj,Nat.zero_add,decide_true,Bool.and_true,Bool.true_and,cond_true];rw [List.append_assoc] at this;exact this
theorem v4u (out:List R4) (j:Nat) (x:Int) (h:j<out.length):v0r (out.set j ⟨(rd out j).a,(rd out j).b,x,(rd out j).d⟩) (j+1) x=v0r out j x:=by
 have _uhl:=hl;have _uhm:=hm;unfold v0r;rw [Yg h,List.map_cons];have e1:(out.set j ⟨(rd out j).a,(rd out j).b,x,(rd out j).d⟩).take (j+1)=out.take j++[⟨(rd out j).a,(rd out j).b,x,(rd out j).d⟩]:=by
  apply List.ext_getElem
  ·simp;omega
  ·intro n h1 h2;simp only [List.getElem_take,List.getElem_set];by_cases e:j=n
   ·subst e;rw [if_pos rfl,List.getElem_append_right (by simp only [List.length_take];omega)];simp
   ·rw [if_neg e,List.getElem_append_left (by simp at h1 ⊢;omega),List.getElem_take]
 have e2:(out.set j ⟨(rd out j).a,(rd out j).b,x,(rd out j).d⟩).drop (j+1)=out.drop (j+1):=by rw [List.drop_set];rw [if_pos (by omega)]
 rw [e1,e2,List.append_assoc];rfl
theorem v7c (last:List R2) (first:Int) (i:Nat) (hi:i+1<(xsV l m).length): ∀(k j:Nat) (out:List R4),j+k=out.length→out.length≤10000000000→
  ∃n,∀N,Yj (Vz kind l m) (N+n) (.to (.h3 out last first (i:Int) (j:Int)))=Yj (Vz kind l m) N (.to (.h0 (v0r out j (rd (xsV l m) (i+1))) last first ((i+1:Nat):Int)))
 | 0,j,out,h,ho=>by
  have hx:=Ji l m;refine ⟨1,fun N=> ?_⟩;have e:v0r out j (rd (xsV l m) (i+1))=out:=by unfold v0r;rw [List.drop_eq_nil_of_le (by omega),List.map_nil,List.append_nil,List.take_of_length_le (by omega)]
  rw [e,Zv];simp (disch:=omega) only [Vz,Za,Zk,Yw,Zq,Zx,cond_false]
 | k+1,j,out,h,ho=>by
  have hx:=Ji l m;obtain ⟨n,hn⟩:=v7c last first i hi k (j+1) (out.set j ⟨(rd out j).a,(rd out j).b,rd (xsV l m) (i+1),(rd out j).d⟩) (by simp;omega) (by simpa using ho)
  refine ⟨n+1,fun N=> ?_⟩;have:=hn N;rw [v4u l m hl hm out j _ (by omega)] at this;rw [←Nat.add_assoc,Zv];simp (disch:=omega) only [Vz,Za,Zk,Zs,Zt,Yv,Ya,Yk,Zh,Zq,Zx,Yp,Zj,Nat.zero_add,decide_true,Bool.and_true,Bool.true_and,cond_true];exact this
theorem w5r : ∀(k i:Nat) (out:List R4) (last:List R2) (first:Nat),k=(xsV l m).length - 1 - i→i≤(xsV l m).length →out.length≤i*40000→last.length≤40000→first≤out.length→
  ∃n,Yj (Vz kind l m) n (.to (.h0 out last (first:Int) (i:Int)))=.ret [.dat (jF kind l m k i out last first).length (Zz (jF kind l m k i out last first))]
 | 0,i,out,last,first,h,hi,ho,hla,hf=>by have hx:=Ji l m;refine ⟨1,?_⟩;rw [Zv];simp (disch:=omega) only [Vz,Za,Zk,Yw,Zq,Zx,cond_false,Zm,jF]
 | k+1,i,out,last,first,h,hi,ho,hla,hf=>by
  have hx:=Ji l m;have hy:=y4z l m;have hi1:i+1<(xsV l m).length :=by omega
  have hsl:(x7y kind l m (rd (xsV l m) i)).length ≤40000:=Nat.le_trans (x7a _ _) (by omega);have hbig:i*40000≤40000*40000:=Nat.mul_le_mul_right _ (by omega);obtain ⟨n1,h1⟩:=v7e kind l m hl hm out last first i hi1 (ysV l m).length 0 [] (Nat.zero_add _) rfl
  simp only [List.drop_zero,List.nil_append,z5j] at h1;have w3:z7b (ysV l m) ((ysV l m).map (v5g kind l m (rd (xsV l m) i)))=true:=decide_eq_true ⟨by omega,by rw [List.length_map];omega⟩;have w4:Vp (z9q (ysV l m) ((ysV l m).map (v5g kind l m (rd (xsV l m) i)))) last=true:=decide_eq_true (Nat.le_trans hsl (by omega));have hy2:((ysV l m).length :Int)=(((ysV l m).length :Nat):Int):=rfl;unfold jF;rcases Yh (decide (0<i)&&Ku (x7y kind l m (rd (xsV l m) i)) last) with q | q
  ·obtain ⟨n3,h3⟩:=v7c kind l m hl hm last first i hi1 (out.length - first) first out (by omega) (by omega)
   obtain ⟨n0,h0⟩:=w5r k (i+1) (v0r out first (rd (xsV l m) (i+1))) last first (by omega) (by omega) (by simp [v0r];omega) hla (by simp [v0r];omega)
   refine ⟨n0+n3+1+n1+1,?_⟩;rw [q,cond_true,Zv];simp only [Bool.and_eq_true,decide_eq_true_eq] at q;have q2:Ku (z9q (ysV l m) ((ysV l m).map (v5g kind l m (rd (xsV l m) i)))) last=true:=q.2;simp (disch:=omega) only [Vz,Za,Zk,Zs,Zq,Zx,cond_true];have h1':=h1 (n0+n3+1);rw [h1',Zv];simp (disch:=omega) only [Vz,Za,Zk,Yw,Yf,q2,w3,w4,cond_true,cond_false];rw [h3 n0,h0]
  ·obtain ⟨n2,h2⟩:=v7d kind l m hl hm (x7y kind l m (rd (xsV l m) i)) (out.length:Int) i hi1 (x7y kind l m (rd (xsV l m) i)) (by omega) (x7y kind l m (rd (xsV l m) i)).length 0 out (Nat.zero_add _) (by omega);obtain ⟨n0,h0⟩:=w5r k (i+1) (out++u2h (rd (xsV l m) i) (rd (xsV l m) (i+1)) (x7y kind l m (rd (xsV l m) i))) (x7y kind l m (rd (xsV l m) i)) out.length (by omega) (by omega) (by simp [u2h];omega) hsl (by simp);refine ⟨n0+n2+1+n1+1,?_⟩;rw [q,cond_false,Zv];simp (disch:=omega) only [Vz,Za,Zk,Zs,Zq,Zx,cond_true];have h1':=h1 (n0+n2+1);rw [h1',Zv];have h2':=h2 n0;simp only [List.drop_zero,z5j] at h2';by_cases hi0:0<i
   ·rw [decide_eq_true hi0,Bool.true_and] at q;have q2:Ku (z9q (ysV l m) ((ysV l m).map (v5g kind l m (rd (xsV l m) i)))) last=false:=q;simp (disch:=omega) only [Vz,Za,Zk,Yw,Yf,q2,w3,w4,cond_true,cond_false];rw [←h0];exact h2'
   ·simp (disch:=omega) only [Vz,Za,Zk,Yw,Xu,w3,w4,cond_true,cond_false];rw [←h0];exact h2'
end
theorem u1q (kind:Int) (l m:List R4) (h:z0a kind l m=true): ∃N,Yj (Vz kind l m) N (y0o kind l m)=.ret [.dat (joV kind l m).length (Zz (joV kind l m))]:=by obtain ⟨hl,hm⟩:=of_decide_eq_true h;obtain ⟨N,hN⟩:=w5r kind l m hl hm ((xsV l m).length - 1) 0 [] [] 0 rfl (Nat.zero_le _) (Nat.zero_le _) (Nat.zero_le _) (Nat.le_refl _);refine ⟨N,?_⟩;have w1:z9z l m=true:=decide_eq_true ⟨hl,hm⟩;have w2:z9y l m=true:=decide_eq_true ⟨hl,hm⟩;simp only [y0o,Za,Zk,w1,w2,cond_true];exact hN
end Go.Am
namespace Go.Am
open Go.Proofs.Tryz
open Go.Proofs
theorem w8t {P:Program} {S:Specs} (hS:Zu P S) {f:FuncId} {F:List AVal→Option (AVal×Bool)} (hf:(P.funcs[f]?).any (fun fn=>fn.body.isSome)=true)
  (hF: ∀args v,F args=some (v,true)→ ∃bs vs,Wo VLe args bs∧(∀(ρ:Rho) (u:Value),Yz ρ (Jg vs) u→Yz ρ v u)∧Kz P (Zy P f) (Zd P f bs true []) vs∧ ∃d,pf d (Jg vs)=true):Zu P (S.with f F):=
 w0e hS hf fun args v h=>by obtain ⟨bs,vs,h1,h2,h3,d,h4⟩:=hF args v h;exact ⟨vs,h2,x1y h1 h3,d,h4⟩
theorem z4g {cs cs':List AVal} (h:RLe cs cs') (ρ:Rho) (u:Value) (hv:Yz ρ (.tup cs) u):Yz ρ (.tup cs') u:=by
 cases hv with
 | tup _ vs hl hh=>exact .tup cs' vs (by rw [←h.len];exact hl) fun i h1 h2=>h.sound i (by rw [h.len];exact h1) h1 (hh i (by rw [h.len];exact h1) h2)
theorem z4w (α:Type) [Yr α]:VLe .nils (.dat ([]:List α).length (Zz ([]:List α))):=.nild _
def fJo :List AVal→Option (AVal×Bool)
 | [.int .i64 x0,a1,a2]=>match asL R4 a1,asL R4 a2 with
  | some (L1,g1,n1),some (L2,g2,n2)=>some (.dat (joV x0 L1 L2).length (Zz (joV x0 L1 L2)),isT R4 n1 g1&&(isT R4 n2 g2&&(z0a x0 L1 L2)))
  | _,_=>none
 | _=>none
theorem fJo_ok {S:Specs} (hS:Zu prog S):Zu prog (S.with v8j fJo):=by
 refine z3e hS (by kernel_rfl) fun args v h=> ?_;unfold fJo at h;split at h
 ·rename_i x0 a1 a2;split at h
  ·rename_i L1 g1 n1 L2 g2 n2 e1 e2;simp only [Option.some.injEq,Prod.mk.injEq,Bool.and_eq_true] at h;obtain ⟨rfl,ho1,ho2,hw⟩:=h;obtain ⟨N,hN⟩:=u1q x0 L1 L2 hw;exact ⟨_,_,(.cons (.refl _) (.cons (asL_le e1 ho1) (.cons (asL_le e2 ho2) .nil))),rfl,v1y x0 L1 L2 N _ hN,3,rfl⟩
  ·cases h
 ·cases h
def T3 :Specs:=T2.with v8j fJo
theorem z8s :Zu prog T3:=fJo_ok z8t
end Go.Am
namespace Go.Am
open Go.Proofs Go.Sort
def bnd3 (r:R3):Bool:=decide (-1000000000≤r.a∧r.a≤1000000000)
def z9r (l:List R3):Bool:=l.all bnd3
abbrev E3 :={r:R3 // bnd3 r=true}
instance : Inhabited E3:=⟨⟨⟨0,0,0⟩,rfl⟩⟩
def cf3 (x y:E3):Int:=x.1.a - y.1.a
def lt3 (x y:E3):Bool:=decide (cf3 x y<0)
theorem swo3 :SWO lt3 where
 irrefl x:=by unfold lt3 cf3;simp
 trans x y z h1 h2:=by unfold lt3 cf3 at*;simp at*;omega
 ntrans x y z h1 h2:=by unfold lt3 cf3 at*;simp at*;omega
def y9x :(l:List R3)→z9r l=true→List E3
 | [],_=>[]
 | r::l,h=>⟨r,by simp [z9r] at h;exact h.1⟩::y9x l (by simp [z9r] at h ⊢;exact h.2)
theorem y1i : ∀(l:List R3) (h:z9r l=true),(y9x l h).map Subtype.val=l
 | [],_=>rfl
 | r::l,h=>by rw [y9x,List.map_cons,y1i l]
theorem Jr (l:List R3) (h:z9r l=true):(y9x l h).length =l.length:=by
 have:=congrArg List.length (y1i l h)
 simpa using this
def Qi (l:List R3):List R3:=if h:z9r l=true then (pdq lt3 (y9x l h).toArray 0 l.length (Lib.bitLen l.length) true true).toList.map Subtype.val else l
theorem Kw (l:List R3) (h:z9r l=true):(Qi l).Perm l∧ ∀i j,i<j→j<(Qi l).length →(rd (Qi l) i).a ≤(rd (Qi l) j).a :=by
 have hp:=pdq_sorts lt3 swo3 (y9x l h).toArray 0 l.length (Lib.bitLen l.length) true true (Nat.zero_le _) (by simp [Jr]) (Or.inl rfl);obtain ⟨⟨h1,h2,h3⟩,h4⟩:=hp;have e:Qi l=(pdq lt3 (y9x l h).toArray 0 l.length (Lib.bitLen l.length) true true).toList.map Subtype.val:=by unfold Qi;rw [dif_pos h]
 generalize pdq lt3 (y9x l h).toArray 0 l.length (Lib.bitLen l.length) true true=d at*;have hs:d.size=l.length:=by rw [h1];simp [Jr]
 constructor
 ·rw [e];have x1:(d.extract 0 l.length).toList =d.toList:=by rw [←hs];simp
  have x2:((y9x l h).toArray.extract 0 l.length).toList =y9x l h:=by rw [show l.length=(y9x l h).toArray.size by simp [Jr]];simp
  rw [x1,x2] at h3;have:=h3.map Subtype.val;rw [y1i] at this;exact this
 ·intro i j hij hj;rw [e] at hj ⊢;have hj':j<d.size:=by simpa using hj
  have:=h4 i j (Nat.zero_le _) hij (by omega);rw [getElem!_pos d i (by omega),getElem!_pos d j hj'] at this;rw [Xj (by simp;omega),Xj hj];simp only [List.getElem_map,Array.getElem_toList];unfold lt3 cf3 at this;have:=of_decide_eq_false this;omega
end Go.Am
namespace Go.Am
open Go.Sort Go.RowKit Go.Proofs Go.Shelf
variable {P:Program} {ρ:Rho}
def valOf :AVal→Value
 | .int k n=>.int k n
 | .bool b=>.bool b
 | _=>.tuple #[]
def x5t :AVal→Bool
 | .int _ _=>true
 | .bool _=>true
 | _=>false
theorem w4e {a:AVal} (h:x5t a=true):Yz ρ a (valOf a):=by
 cases a <;> first
  | exact .int _ _
  | exact .bool _
  | (simp [x5t] at h;done)
theorem w6b {a:AVal} {v:Value} (h:x5t a=true) (hv:Yz ρ a v):v=valOf a:=by
 cases hv <;> first
  | rfl
  | (simp [x5t] at h;done)
class v9q (α:Type) extends Yr α where
 num: ∀a:α,(cells a).all x5t=true
instance : v9q R2 where num _:=rfl
instance : v9q R3 where num _:=rfl
instance : v9q R4 where num _:=rfl
instance : v9q R6 where num _:=rfl
instance {α :Type} [Yr α]:Inhabited α:=⟨Yr.d⟩
section
variable {α:Type} [v9q α]
def y7c (a:α):List Value:=(Yr.cells a).map valOf
theorem y3l (a:α):(y7c a).length =Yr.w α:=by rw [y7c,List.length_map,Yr.len]
theorem x9r (L:List α) (t:Nat) (h:t<L.length*Yr.w α):(flatK y7c (Yr.w α) L.toArray)[t]? =(Yr.cells (rd L (t / Yr.w α)))[t %Yr.w α]?.map valOf:=by
 have hw:=Yr.pos (α:=α);have hq:t / Yr.w α<L.length:=Nat.div_lt_of_lt_mul (by rw [Nat.mul_comm];exact h);have hj:t %Yr.w α<Yr.w α:=Nat.mod_lt _ hw;have hs:t<(flatK y7c (Yr.w α) L.toArray).size :=by rw [size_flatK];exact h
 rw [Array.getElem?_eq_getElem hs,←getElem!_pos (flatK y7c (Yr.w α) L.toArray) t hs,get_flatK y7c (Yr.w α) L.toArray t (by simpa using h)];have e1:L.toArray[t / Yr.w α]! =rd L (t / Yr.w α):=by rw [Xj hq,getElem!_pos L.toArray _ (by simpa using hq)];simp
 rw [e1];have hl:t %Yr.w α<(y7c (rd L (t / Yr.w α))).length :=by rw [y3l];exact hj
 have hl2:t %Yr.w α<(Yr.cells (rd L (t / Yr.w α))).length :=by rw [Yr.len];exact hj
 rw [getElem!_pos (y7c (rd L (t / Yr.w α))) _ hl,List.getElem?_eq_getElem hl2];simp [y7c]
theorem w5m (L:List α) (N t:Nat) (h:t<N*Yr.w α):(rows N (Zz L))[t]? =(Yr.cells (rd L (t / Yr.w α)))[t %Yr.w α]? :=by have hw:=Yr.pos (α:=α);have:=Wh (get:=Zz L) (sz:=Yr.w α) N (fun _ _=>Yr.len _) (t / Yr.w α) (t %Yr.w α) (Nat.div_lt_of_lt_mul (by rw [Nat.mul_comm];exact h)) (Nat.mod_lt _ hw);rw [show t / Yr.w α*Yr.w α+t %Yr.w α=t by rw [Nat.mul_comm];exact Nat.div_add_mod t _] at this;exact this
theorem z0m (L:List α) (N:Nat):(rows N (Zz L)).length =N*Yr.w α:=Yu N fun _ _=>Yr.len _
theorem y3c (w:World) (n blk off:Nat) (d:Array Value) (os:Array Obj) (k:Nat) (hk:k<w.heap.size):
  (grow (putRow id (Go.Sort.ahead w n) blk off d) os).heap[k]? =if k=blk then (w.heap[k]?).map (onCells (putCells id off d)) else w.heap[k]? :=by
 show (((Go.Sort.ahead w n).heap.modify blk (onCells (putCells id off d)))++os)[k]? =_;rw [Array.getElem?_append_left (by simp;exact hk),Array.getElem?_modify];show (if blk=k then _ else _)=_;by_cases h:k=blk
 ·rw [if_pos h.symm,if_pos h];rfl
 ·rw [if_neg (fun e=>h e.symm),if_neg h];rfl
def x9t (α:Type) [Yr α] (srt:List α→List α) (bnd:List α→Bool) (g:FuncId) (args:List AVal) (mem:Mem):Option (AVal×Nat×ABlk×Bool):=match args with
 | [.sla b sz off n cap,.fn f []]=>bif Nat.beq f g then match Yc mem b with
  | some ⟨_,ty,some A⟩=>some (.tup [],b,⟨rows A.n (Zz (srt (lst α n A.get))),ty,some ⟨Yr.w α,A.n,Zz (srt (lst α n A.get))⟩⟩,
    Nat.beq sz (Yr.w α)&&(Nat.beq A.sz (Yr.w α)&&(Nat.beq off 0&&((decide (n=A.n)&&(isT α n A.get&&decide (n<4611686018427387904)))&&bnd (lst α n A.get)))))
  | _=>none
  else none
 | _=>none
theorem w9e {f g:FuncId} {srt:List α→List α} {bnd:List α→Bool} (hsl: ∀L,(srt L).length =L.length)
  (hC: ∀(blk off cap:Nat) (L:List α) (w:World),bnd L=true→HoldsK y7c (Yr.w α) w blk off L.toArray→blk<w.heap.size→L.length<4611686018427387904→
   Calls P f #[.slice (some ⟨blk,off,none⟩) L.length cap,.func (.func g) #[] #[]] w fun e w'=>e=.returned (.tuple #[])∧ ∃n os,w'=sortWorldK y7c (Yr.w α) w blk off n (srt L).toArray os)
  (hN: ∀(p:Option Addr) (cap:Nat) (fv:Value) (w:World),Calls P f #[.slice p 0 cap,fv] w fun e w'=>e=.returned (.tuple #[])∧w'=w):x2v P f (x9t α srt bnd g):=by
 intro args mem v b blk h fA ρ next floor vals w hfl cY cU
 have hw0:=Yr.pos (α:=α);unfold x9t at h;split at h
 ·rename_i b0 sz off n cap f0;obtain ⟨hfg,h'⟩:=Ko h;clear h;obtain rfl:=Nat.eq_of_beq_eq_true hfg;have h:=h';clear h';split at h
  ·rename_i cells ty A hm;obtain ⟨asz,an,get⟩:=A;simp only [Option.some.injEq,Prod.mk.injEq,Bool.and_eq_true] at h;obtain ⟨rfl,rfl,rfl,h1,h2,h3,⟨h4,h5,h6⟩,h7⟩:=h;have g1:=Nat.eq_of_beq_eq_true h1;have g2:=Nat.eq_of_beq_eq_true h2;have g3:=Nat.eq_of_beq_eq_true h3;have g4:n=an:=of_decide_eq_true h4;have h6:n<4611686018427387904:=of_decide_eq_true h6;have g2:asz=Yr.w α:=g2;subst g1;subst g2;subst g3;subst g4;have h7:bnd (lst α n get.get)=true:=h7;have dD:=x9k h5;have dD: ∀i,i<n→get.get i=Zz (lst α n get.get) i:=dD;have hrows:rows n get.get=rows n (Zz (lst α n get.get)):=z3n n dD;obtain ⟨u,hu,hvals⟩: ∃u,Yz ρ (.sla b0 (Yr.w α) 0 n cap) u∧vals= #[u,.func (.func f0) #[] #[]]:=by
    obtain ⟨vl⟩:=vals;cases cY with
    | cons q1 q2=>cases q2 with
     | cons q3 q4=>
      cases q4;cases q3 with
      | fn _ _ cvs hl _=>have:cvs= #[]:=Array.eq_empty_of_size_eq_zero (by simpa using hl.symm);subst this;exact ⟨_,q1,rfl⟩
   subst hvals;have hlt:b0<next:=by
    rcases Nat.lt_or_ge b0 next with q | q
    ·exact q
    ·have:=cU.bd b0 q;rw [hm] at this;cases this
   show Calls P f _ w _;have hAget:(Arr.get ⟨Yr.w α,n,get⟩)=get.get:=rfl;rw [hAget] at*;generalize hI:lst α n get.get=I at*;have hIl:I.length=n:=by rw [←hI];exact z7z _ _
   generalize hL:srt I=L;have hLl:L.length=n:=by rw [←hL,hsl,hIl]
   have hnn:ρ b0=none→ ∀cs ty',Yc mem b0≠some ⟨cs,ty',none⟩:=fun _ cs ty' e=>by rw [hm] at e;cases e
   cases hu with
   | sla _ _ _ _ _ l cc e hc cW=>
    have hbk:=cU.blk b0 l _ e hm;obtain ⟨har,_,_⟩:=hbk.arr _ rfl;have har:cells=rows n get.get:=har;rw [hrows] at har;subst har;obtain ⟨cur,el,hh,hsz,dA⟩:=hbk.cells;simp only [z0m] at dA;have htot:=hbk.tot;have hln:=hbk.n;simp only [z0m] at hln;have dV: ∀t,t<n*Yr.w α→cur[l.base+t]? =(Yr.cells (rd I (t / Yr.w α)))[t %Yr.w α]?.map valOf:=fun t ht=>by
     obtain ⟨v,e1,e2⟩:=dA t ht;have hj:t %Yr.w α<Yr.w α:=Nat.mod_lt _ hw0;have hl2:t %Yr.w α<(Yr.cells (rd I (t / Yr.w α))).length :=by rw [Yr.len];exact hj
     have e3:=w5m I n t ht;rw [List.getElem?_eq_getElem (by rw [z0m];exact ht),List.getElem?_eq_getElem hl2] at e3;rw [Option.some.inj e3] at e2;rw [e1,List.getElem?_eq_getElem hl2,Option.map_some,w6b (List.all_eq_true.1 (v9q.num _) _ (List.getElem_mem hl2)) e2]
    have eH:=cU.real b0 l e;have hH:HoldsK y7c (Yr.w α) w l.blk (l.base+0*Yr.w α) I.toArray:=fun j hj=>by
     have hj:j<n*Yr.w α:=(by simpa [hIl] using hj);have hs:j<(flatK y7c (Yr.w α) I.toArray).size :=(by simpa [hIl] using hj);have e1:=x9r I j (by rw [hIl];exact hj);rw [Array.getElem?_eq_getElem hs] at e1;refine ⟨?_,?_⟩
     ·simp only [World.cell?,hh,Nat.zero_mul,Nat.add_zero,id];rw [dV j hj,←e1,getElem!_pos (flatK y7c (Yr.w α) I.toArray) j hs];simp
     ·simp [World.frozen?,hh]
    have dK:=hC l.blk (l.base+0*Yr.w α) cc I w h7 hH eH (by omega);rw [hIl,hL] at dK;refine dK.mono fun e' w' ⟨he,q,os,hw'⟩=>⟨_,he,?_,?_,?_⟩
    ·exact .tup [] #[] rfl fun i h1 h2=>absurd h1 (Nat.not_lt_zero _)
    ·subst hw';refine Rel.setArr ?_ ⟨Yr.w α,n,.flat (Zz L)⟩ rfl hw0 fun _ _=>Yr.len _;refine Rel.rewritten cU e hm (by simp only [z0m]) (fun k hk hne=> ?_) ?_ ?_
     ·exact (y3c _ _ _ _ _ _ _ hk).trans (if_neg hne)
     ·show _≤(((Go.Sort.ahead w q).heap.modify _ _)++os).size;simp only [Array.size_append,Array.size_modify];exact Nat.le_add_right _ _
     ·refine ⟨putCells id (l.base+0*Yr.w α) (flatK y7c (Yr.w α) L.toArray) cur,el,?_,?_,fun i hi=> ?_⟩
      ·refine (y3c _ _ _ _ _ _ _ eH).trans ?_;rw [if_pos rfl,hh];rfl
      ·simp only [putCells,Array.size_mapIdx];exact hsz
      ·rw [z0m] at hi;have hj:i %Yr.w α<Yr.w α:=Nat.mod_lt _ hw0;have hl2:i %Yr.w α<(Yr.cells (rd L (i / Yr.w α))).length :=by rw [Yr.len];exact hj
       have hl3:i %Yr.w α<(Yr.cells (rd I (i / Yr.w α))).length :=by rw [Yr.len];exact hj
       have e1:=x9r L i (by rw [hLl];exact hi);rw [List.getElem?_eq_getElem hl2,Option.map_some] at e1;have hs:i<(flatK y7c (Yr.w α) L.toArray).size :=(by simpa [hLl] using hi);rw [Array.getElem?_eq_getElem hs] at e1;have e3:=w5m L n i hi;rw [List.getElem?_eq_getElem (by rw [z0m];exact hi),List.getElem?_eq_getElem hl2] at e3;refine ⟨valOf (Yr.cells (rd L (i / Yr.w α)))[i %Yr.w α],?_,?_⟩
       ·have hc0:=dV i hi;rw [List.getElem?_eq_getElem hl3,Option.map_some] at hc0;simp only [putCells,Array.getElem?_mapIdx,hc0,Option.map_some,Nat.zero_mul,Nat.add_zero];rw [if_pos ⟨by omega,by omega⟩]
        congr 1
        rw [show l.base+i - l.base=i by omega,id,getElem!_pos (flatK y7c (Yr.w α) L.toArray) i hs];exact Option.some.inj e1
       ·rw [Option.some.inj e3];exact w4e (List.all_eq_true.1 (v9q.num _) _ (List.getElem_mem hl2))
    ·subst hw';refine Ev.rewritten cU _ (fun l' _=>hfl) hnn (fun k hk hne=> ?_) ?_ rfl rfl rfl
     ·exact (y3c _ _ _ _ _ _ _ hk).trans (if_neg (hne l e))
     ·show _≤(((Go.Sort.ahead w q).heap.modify _ _)++os).size;simp only [Array.size_append,Array.size_modify];exact Nat.le_add_right _ _
   | slan=>
    have hI0:I=[]:=List.eq_nil_of_length_eq_zero hIl;have hL0:L=[]:=List.eq_nil_of_length_eq_zero hLl;refine (hN none 0 _ w).mono fun e' w' ⟨he,hw'⟩=>⟨_,he,?_,?_,?_⟩
    ·exact .tup [] #[] rfl fun i h1 h2=>absurd h1 (Nat.not_lt_zero _)
    ·subst hw';refine cU.reblk hm fun l hρ hbk=> ?_;obtain ⟨har,eY,_⟩:=hbk.arr _ rfl;have har:cells=rows 0 get.get:=har;subst har;exact ⟨hbk.n,hbk.tot,fun B hB=>by obtain rfl:=Option.some.inj hB;exact ⟨rfl,hw0,fun i hi=>absurd hi (Nat.not_lt_zero _)⟩,hbk.cells⟩
    ·subst hw';exact Ev.rewritten cU _ (fun l' _=>hfl) hnn (fun _ _ _=>rfl) (Nat.le_refl _) rfl rfl rfl
  ·cases h
 ·cases h
end
def Specs.withE (S:Specs) (f:FuncId) (F:List AVal→Mem→Option (AVal×Nat×ABlk×Bool)):Specs:=fun g=>bif Nat.beq g f then some (.eff F) else S g
theorem y7l {P:Program} {S:Specs} (hS:Zu P S) {f:FuncId} {F:List AVal→Mem→Option (AVal×Nat×ABlk×Bool)} (hf:(P.funcs[f]?).any (fun fn=>fn.body.isSome)=true) (hF:x2v P f F):Zu P (S.withE f F):=by
 intro g G hg;unfold Specs.withE at hg;cases hgf:Nat.beq g f with
 | false=>rw [hgf] at hg;exact hS g G hg
 | true=>
  rw [hgf] at hg;obtain rfl:Spec.eff F=G:=Option.some.inj hg;obtain rfl:g=f:=Nat.eq_of_beq_eq_true hgf;refine ⟨?_,hF⟩;cases hfn:P.funcs[g]? with
  | none=>rw [hfn] at hf;cases hf
  | some fn=>rw [hfn] at hf;exact ⟨fn,rfl,hf⟩
end Go.Am
namespace Go.Proofs
open Go.Proofs.Tryz
open Go.Shelf
def Tryz.lays189_ren :Go.Shelf.Ren:=⟨fun | 189=>63 | 125=>117 | 257=>116 | 128=>152 | 129=>153 | 294=>143 | 295=>144 | 296=>145 | 297=>146 | 298=>147 | 299=>148 | 216=>149 | 300=>150 | 301=>151 | 328=>176 | 329=>177 | 330=>178 | 331=>179 | 332=>180 | 215=>181 | 343=>194 | n=>n,fun | 28=>93 | 3=>3 | 46=>147 | 0=>0 | 51=>194 | 53=>196 | 4=>4 | 183=>186 | 182=>185 | 131=>191 | 5=>5 | 9=>9 | 218=>224 | 222=>228 | 228=>239 | 229=>91 | n=>n,fun | n=>n⟩
theorem Tryz.lays189 :Go.Proofs.Lays.n189 prog Tryz.lays189_ren:={
 mixed:=by kernel_rfl
 f125:=Tryz.func117.trans (congrArg some (by kernel_rfl))
 f128:=Tryz.func152.trans (congrArg some (by kernel_rfl))
 f129:=Tryz.func153.trans (congrArg some (by kernel_rfl))
 f189:=Tryz.func63.trans (congrArg some (by kernel_rfl))
 f215:=Tryz.func181.trans (congrArg some (by kernel_rfl))
 f216:=Tryz.func149.trans (congrArg some (by kernel_rfl))
 f257:=Tryz.func116.trans (congrArg some (by kernel_rfl))
 f294:=Tryz.func143.trans (congrArg some (by kernel_rfl))
 f295:=Tryz.func144.trans (congrArg some (by kernel_rfl))
 f296:=Tryz.func145.trans (congrArg some (by kernel_rfl))
 f297:=Tryz.func146.trans (congrArg some (by kernel_rfl))
 f298:=Tryz.func147.trans (congrArg some (by kernel_rfl))
 f299:=Tryz.func148.trans (congrArg some (by kernel_rfl))
 f300:=Tryz.func150.trans (congrArg some (by kernel_rfl))
 f301:=Tryz.func151.trans (congrArg some (by kernel_rfl))
 f328:=Tryz.func176.trans (congrArg some (by kernel_rfl))
 f329:=Tryz.func177.trans (congrArg some (by kernel_rfl))
 f330:=Tryz.func178.trans (congrArg some (by kernel_rfl))
 f331:=Tryz.func179.trans (congrArg some (by kernel_rfl))
 f332:=Tryz.func180.trans (congrArg some (by kernel_rfl))
 f343:=Tryz.func194.trans (congrArg some (by kernel_rfl))
 t0:=Tryz.underlying0
 a0:=Tryz.isAgg0
 z0:=Tryz.sizeOf0
 v0:=Tryz.zeroValue0
 t3:=Tryz.underlying3
 a3:=Tryz.isAgg3
 z3:=Tryz.sizeOf3
 v3:=Tryz.zeroValue3
 t4:=Tryz.underlying4
 a4:=Tryz.isAgg4
 z4:=Tryz.sizeOf4
 v4:=Tryz.zeroValue4
 t5:=Tryz.underlying5
 a5:=Tryz.isAgg5
 z5:=Tryz.sizeOf5
 v5:=Tryz.zeroValue5
 t9:=Tryz.underlying9
 a9:=Tryz.isAgg9
 z9:=Tryz.sizeOf9
 v9:=Tryz.zeroValue9
 t28:=Tryz.underlying93
 a28:=Tryz.isAgg93
 z28:=Tryz.sizeOf93
 v28:=Tryz.zeroValue93
 t46:=Tryz.underlying147
 a46:=Tryz.isAgg147
 z46:=Tryz.sizeOf147
 v46:=Tryz.zeroValue147
 t51:=Tryz.underlying194
 a51:=Tryz.isAgg194
 z51:=Tryz.sizeOf194
 v51:=Tryz.zeroValue194
 t53:=Tryz.underlying196
 a53:=Tryz.isAgg196
 z53:=Tryz.sizeOf196
 v53:=Tryz.zeroValue196
 t131:=Tryz.underlying191
 a131:=Tryz.isAgg191
 z131:=Tryz.sizeOf191
 v131:=Tryz.zeroValue191
 t182:=Tryz.underlying185
 a182:=Tryz.isAgg185
 z182:=Tryz.sizeOf185
 v182:=Tryz.zeroValue185
 t183:=Tryz.underlying186
 a183:=Tryz.isAgg186
 z183:=Tryz.sizeOf186
 v183:=Tryz.zeroValue186
 t218:=Tryz.underlying224
 a218:=Tryz.isAgg224
 z218:=Tryz.sizeOf224
 v218:=Tryz.zeroValue224
 t222:=Tryz.underlying228
 a222:=Tryz.isAgg228
 z222:=Tryz.sizeOf228
 v222:=Tryz.zeroValue228
 t228:=Tryz.underlying239
 a228:=Tryz.isAgg239
 z228:=Tryz.sizeOf239
 v228:=Tryz.zeroValue239
 t229:=Tryz.underlying91
 a229:=Tryz.isAgg91
 z229:=Tryz.sizeOf91
 v229:=Tryz.zeroValue91}
open Go.Sort Go.RowKit in
theorem Tryz.slices_Sort_int (blk off cap:Nat) (zs:List Int) (w:World) (hH:Holds (Value.int .i64) w blk off zs.toArray) (eH:blk<w.heap.size) (hsz:zs.length<4611686018427387904):
  Calls prog 63 #[.slice (some ⟨blk,off,none⟩) zs.length cap] w fun e w'=>
   e=.returned (.tuple #[])∧ ∃n os,w'=grow (putRow (Value.int .i64) (Sort.ahead w n) blk off (zs.mergeSort fun x y=>decide (x≤y)).toArray) os:=Any.slices_Sort_int Tryz.lays189 blk off cap zs w hH eH hsz
def Tryz.laysNm220_ren :Go.Shelf.Ren:=⟨fun | 20=>64 | n=>n,fun | 22=>93 | 3=>3 | 4=>4 | 0=>0 | n=>n,fun | n=>n⟩
theorem Tryz.laysNm220 :Go.Proofs.Lays2.n20 prog Tryz.laysNm220_ren:={
 mixed:=by kernel_rfl
 f20:=Tryz.func64.trans (congrArg some (by kernel_rfl))
 t0:=Tryz.underlying0
 a0:=Tryz.isAgg0
 z0:=Tryz.sizeOf0
 v0:=Tryz.zeroValue0
 t3:=Tryz.underlying3
 a3:=Tryz.isAgg3
 z3:=Tryz.sizeOf3
 v3:=Tryz.zeroValue3
 t4:=Tryz.underlying4
 a4:=Tryz.isAgg4
 z4:=Tryz.sizeOf4
 v4:=Tryz.zeroValue4
 t22:=Tryz.underlying93
 a22:=Tryz.isAgg93
 z22:=Tryz.sizeOf93
 v22:=Tryz.zeroValue93
 i3:=by kernel_rfl}
open Go.RowKit Go.Lib Go.Sort in
theorem Tryz.slices_Compact_int (blk off cap:Nat) (zs:List Int) (w:World) (hH:Holds (Value.int .i64) w blk off zs.toArray) (hsz:zs.length≤9223372036854775807) (dB:zs.length≤cap):
  Calls prog 64 #[.slice (some ⟨blk,off,none⟩) zs.length cap] w fun e w'=>e=.returned (.slice (some ⟨blk,off,none⟩) (Lib.compact zs).length cap)∧ ∃q,w'=putRow (Value.int .i64) (Sort.ahead w q) blk off (Lib.compact zs++List.replicate (zs.length - (Lib.compact zs).length) 0).toArray :=Any.slices_Compact_int Tryz.laysNm220 blk off cap zs w hH hsz dB
open Go.RowKit Go.Lib Go.Sort in
theorem Tryz.slices_Compact_int_empty (a:Option Addr) (cap:Nat) (w:World):
  Calls prog 64 #[.slice a 0 cap] w fun e w'=>e=.returned (.slice a 0 cap)∧w'=w:=Any.slices_Compact_int_empty Tryz.laysNm220 a cap w
open Go.RowKit Go.Sort in
theorem Tryz.slices_Sort_int_none (p:Option Addr) (cap:Nat) (w:World):
  Calls prog 63 #[.slice p 0 cap] w fun e w'=>e=.returned (.tuple #[])∧w'=w:=Any.slices_Sort_int_none Tryz.lays189 p cap w
def Tryz.sortEnd_ren :Go.Shelf.Ren:=⟨fun | 6=>200 | 15=>117 | 14=>204 | 28=>152 | 29=>153 | 20=>206 | 21=>207 | 22=>208 | 23=>209 | 24=>210 | 25=>211 | 26=>212 | 27=>213 | 46=>214 | 47=>177 | 48=>178 | 49=>215 | 50=>216 | 57=>217 | n=>n,fun | 22=>248 | 24=>246 | 25=>250 | 3=>3 | 39=>147 | 0=>0 | 53=>194 | 55=>196 | 4=>4 | 46=>186 | 45=>185 | 50=>191 | 5=>5 | 9=>9 | 66=>224 | 70=>228 | 76=>239 | 77=>91 | n=>n,fun | n=>n⟩
theorem Tryz.sortEnd :Go.Proofs.SlLaysF0.n6 prog Tryz.sortEnd_ren:={
 mixed:=by kernel_rfl
 f6:=⟨Tryz.f200.name,by decide,Tryz.func200.trans (congrArg some (by kernel_rfl))⟩
 f14:=⟨Tryz.f204.name,by decide,Tryz.func204.trans (congrArg some (by kernel_rfl))⟩
 f15:=Tryz.func117.trans (congrArg some (by kernel_rfl))
 f20:=⟨Tryz.f206.name,by decide,Tryz.func206.trans (congrArg some (by kernel_rfl))⟩
 f21:=⟨Tryz.f207.name,by decide,Tryz.func207.trans (congrArg some (by kernel_rfl))⟩
 f22:=⟨Tryz.f208.name,by decide,Tryz.func208.trans (congrArg some (by kernel_rfl))⟩
 f23:=⟨Tryz.f209.name,by decide,Tryz.func209.trans (congrArg some (by kernel_rfl))⟩
 f24:=⟨Tryz.f210.name,by decide,Tryz.func210.trans (congrArg some (by kernel_rfl))⟩
 f25:=⟨Tryz.f211.name,by decide,Tryz.func211.trans (congrArg some (by kernel_rfl))⟩
 f26:=⟨Tryz.f212.name,by decide,Tryz.func212.trans (congrArg some (by kernel_rfl))⟩
 f27:=⟨Tryz.f213.name,by decide,Tryz.func213.trans (congrArg some (by kernel_rfl))⟩
 f28:=Tryz.func152.trans (congrArg some (by kernel_rfl))
 f29:=Tryz.func153.trans (congrArg some (by kernel_rfl))
 f46:=⟨Tryz.f214.name,by decide,Tryz.func214.trans (congrArg some (by kernel_rfl))⟩
 f47:=Tryz.func177.trans (congrArg some (by kernel_rfl))
 f48:=Tryz.func178.trans (congrArg some (by kernel_rfl))
 f49:=⟨Tryz.f215.name,by decide,Tryz.func215.trans (congrArg some (by kernel_rfl))⟩
 f50:=⟨Tryz.f216.name,by decide,Tryz.func216.trans (congrArg some (by kernel_rfl))⟩
 f57:=⟨Tryz.f217.name,by decide,Tryz.func217.trans (congrArg some (by kernel_rfl))⟩
 t0:=Tryz.underlying0
 a0:=Tryz.isAgg0
 z0:=Tryz.sizeOf0
 v0:=Tryz.zeroValue0
 t3:=Tryz.underlying3
 a3:=Tryz.isAgg3
 z3:=Tryz.sizeOf3
 v3:=Tryz.zeroValue3
 t4:=Tryz.underlying4
 a4:=Tryz.isAgg4
 z4:=Tryz.sizeOf4
 v4:=Tryz.zeroValue4
 t5:=Tryz.underlying5
 a5:=Tryz.isAgg5
 z5:=Tryz.sizeOf5
 v5:=Tryz.zeroValue5
 t9:=Tryz.underlying9
 a9:=Tryz.isAgg9
 z9:=Tryz.sizeOf9
 v9:=Tryz.zeroValue9
 t22:=Tryz.underlying248
 a22:=Tryz.isAgg248
 z22:=Tryz.sizeOf248
 v22:=Tryz.zeroValue248
 t25:=Tryz.underlying250
 a25:=Tryz.isAgg250
 z25:=Tryz.sizeOf250
 v25:=Tryz.zeroValue250
 t39:=Tryz.underlying147
 a39:=Tryz.isAgg147
 z39:=Tryz.sizeOf147
 v39:=Tryz.zeroValue147
 t45:=Tryz.underlying185
 a45:=Tryz.isAgg185
 z45:=Tryz.sizeOf185
 v45:=Tryz.zeroValue185
 t46:=Tryz.underlying186
 a46:=Tryz.isAgg186
 z46:=Tryz.sizeOf186
 v46:=Tryz.zeroValue186
 t50:=Tryz.underlying191
 a50:=Tryz.isAgg191
 z50:=Tryz.sizeOf191
 v50:=Tryz.zeroValue191
 t53:=Tryz.underlying194
 a53:=Tryz.isAgg194
 z53:=Tryz.sizeOf194
 v53:=Tryz.zeroValue194
 t55:=Tryz.underlying196
 a55:=Tryz.isAgg196
 z55:=Tryz.sizeOf196
 v55:=Tryz.zeroValue196
 t66:=Tryz.underlying224
 a66:=Tryz.isAgg224
 z66:=Tryz.sizeOf224
 v66:=Tryz.zeroValue224
 t70:=Tryz.underlying228
 a70:=Tryz.isAgg228
 z70:=Tryz.sizeOf228
 v70:=Tryz.zeroValue228
 t76:=Tryz.underlying239
 a76:=Tryz.isAgg239
 z76:=Tryz.sizeOf239
 v76:=Tryz.zeroValue239
 t77:=Tryz.underlying91
 a77:=Tryz.isAgg91
 z77:=Tryz.sizeOf91
 v77:=Tryz.zeroValue91}
end Go.Proofs
namespace Go.Proofs
open Go.Proofs.Tryz
open Go.Shelf Go.RowKit Go.Lib Go.Sort
theorem Tryz.cmpEnd (a b c a' b' c':Int) (h: -1000000000≤a∧a≤1000000000) (h': -1000000000≤a'∧a'≤1000000000) (W:World):
  Calls prog 201 #[.agg #[.int .i64 a,.int .i64 b,.int .i64 c],.agg #[.int .i64 a',.int .i64 b',.int .i64 c']] W fun e w'=>e=.returned (.int .i64 (a - a'))∧ ∃q os',w'=grow (W.drewN q) os':=by
 go_enter Tryz.func201,Tryz.ntmps201
 go_wp2
 go_ret
 exact ⟨rfl,0,_,by rw [alloc_eq_grow,alloc_eq_grow,grow_grow];rfl⟩
end Go.Proofs
namespace Go.Am
open Go.Proofs.Tryz
open Go.Proofs
inductive rjsS where
 | h0 (v9:List R6) (v10:List R4) (v11:Int) (v12:Int)
 | h1 (v9:List R6) (v10:List R4) (v11:Int) (v12:Int) (v13:List R4) (v15:Int)
 | h2 (v9:List R6) (v10:List R4) (v11:Int) (v12:Int) (v14:Int)
abbrev x8f (l1:List R6) (l2:List R6) (v12:Int):=(rd (Wt (cvT l1) (cvT l2)) (tn v12))
abbrev y5t (v9:List R6) (v14:Int) (l1:List R6) (l2:List R6) (v12:Int):=(v9.set (0+(tn v14)) (R6.mk (rd v9 (0+(tn v14))).a (rd v9 (0+(tn v14))).b (rd v9 (0+(tn v14))).c (rd v9 (0+(tn v14))).d (rd v9 (0+(tn v14))).e (rd (Wt (cvT l1) (cvT l2)) (tn (wr (v12+1))))))
abbrev y5s (v9:List R6) (v13:List R4) (v15:Int) (l1:List R6) (l2:List R6) (v12:Int):=(v9++[(R6.mk (rd v13 (tn v15)).a (rd v13 (tn v15)).b (x8f l1 l2 v12) (rd v13 (tn v15)).c (rd v13 (tn v15)).d (rd (Wt (cvT l1) (cvT l2)) (tn (wr (v12+1)))))])
abbrev Vj (l1:List R6) (l2:List R6) (v12:Int):=(atV (cvT l1) (x8f l1 l2 v12))
abbrev Vi (l2:List R6) (l1:List R6) (v12:Int):=(atV (cvT l2) (x8f l1 l2 v12))
abbrev v7b (v9:List R6) (v13:List R4) (v15:Int) (l1:List R6) (l2:List R6) (v12:Int):=(Zf (Zz v9) 0 v9.length 6 [(ii (rd v13 (tn v15)).a),(ii (rd v13 (tn v15)).b),(ii (x8f l1 l2 v12)),(ii (rd v13 (tn v15)).c),(ii (rd v13 (tn v15)).d),(ii (rd (Wt (cvT l1) (cvT l2)) (tn (wr (v12+1)))))])
def w5q (l1:List R6) (l2:List R6):AVal:=(.dat (Wt (cvT l1) (cvT l2)).length (Zz (Wt (cvT l1) (cvT l2))))
def rjsC (x0:Int) (l1:List R6) (l2:List R6):rjsS→Cfg
 | .h0 v9 v10 v11 v12=>⟨⟨137,0,true⟩,none,(Zc prog 72 [1,1,1,1,1,0,1,0,0] 0),none,(Zy prog 32),⟨Yb [(0,(ii x0)),(1,(.dat l1.length (Zz l1))),(2,(.dat l2.length (Zz l2))),(8,(w5q l1 l2)),(9,(.sla 0 6 0 v9.length (.un 6))),(10,(.dat v10.length (Zz v10))),(11,(ii v11)),(12,(ii v12))],Ug [⟨rows v9.length (Zz v9),67,some ⟨6,v9.length,(Zz v9)⟩⟩] 0,1,[],true⟩,[],.leaf⟩
 | .h1 v9 v10 v11 v12 v13 v15=>⟨⟨137,0,true⟩,none,(Zc prog 72 [1,1,1,1,1,0,1,0,0,1,0,0,1,1,1,1,1,0,0] 0),none,(Zy prog 32),⟨Yb [(0,(ii x0)),(1,(.dat l1.length (Zz l1))),(2,(.dat l2.length (Zz l2))),(8,(w5q l1 l2)),(9,(.sla 0 6 0 v9.length (.un 6))),(10,(.dat v10.length (Zz v10))),(11,(ii v11)),(12,(ii v12)),(13,(.dat v13.length (Zz v13))),(15,(ii v15))],Ug [⟨rows v9.length (Zz v9),67,some ⟨6,v9.length,(Zz v9)⟩⟩] 0,1,[],true⟩,[],.leaf⟩
 | .h2 v9 v10 v11 v12 v14=>⟨⟨137,0,true⟩,none,(Zc prog 72 [1,1,1,1,1,0,1,0,0,1,0,0,1,1,0,1,0,0,1,0,0] 0),none,(Zy prog 32),⟨Yb [(0,(ii x0)),(1,(.dat l1.length (Zz l1))),(2,(.dat l2.length (Zz l2))),(8,(w5q l1 l2)),(9,(.sla 0 6 0 v9.length (.un 6))),(10,(.dat v10.length (Zz v10))),(11,(ii v11)),(12,(ii v12)),(14,(ii v14))],Ug [⟨rows v9.length (Zz v9),67,some ⟨6,v9.length,(Zz v9)⟩⟩] 0,1,[],true⟩,[],.leaf⟩
def u1n :List (Option (List Nat)):=[some [0,1,2,8,9,10,11,12]]
def u1p :List (Option (List Nat)):=[]
def u1m :List (Option (List Nat)):=[some [0,1,2,8,9,10,11,12,13,15]]
def u1o :List (Option (List Nat)):=[]
def rjsN2 :List (Option (List Nat)):=[some [0,1,2,8,9,10,11,12,14]]
def rjsM2 :List (Option (List Nat)):=[]
def Vm (x0:Int) (l1:List R6) (l2:List R6):rjsS→Xn rjsS
 | .h0 v9 v10 v11 v12=>(bif (decide ((IntKind.wrap .i64 (v12+1))<(((Wt (cvT l1) (cvT l2)).length :Nat):Int))) then (bif (z4b (cvT l1) (rd (Wt (cvT l1) (cvT l2)) v12.toNat)) then (bif ((decide (0≤v12∧v12<(((Wt (cvT l1) (cvT l2)).length :Nat):Int)))&&true) then (bif (z4b (cvT l2) (rd (Wt (cvT l1) (cvT l2)) v12.toNat)) then (bif (z0a x0 (cvT (atV (cvT l1) (rd (Wt (cvT l1) (cvT l2)) v12.toNat))) (cvT (atV (cvT l2) (rd (Wt (cvT l1) (cvT l2)) v12.toNat)))) then (bif (decide ((((joV x0 (cvT (atV (cvT l1) (rd (Wt (cvT l1) (cvT l2)) v12.toNat))) (cvT (atV (cvT l2) (rd (Wt (cvT l1) (cvT l2)) v12.toNat)))).length :Nat):Int)>400)) then (.ret [.nils,(.bool false)]) else (bif (z0a 2 (cvT (atV (cvT l1) (rd (Wt (cvT l1) (cvT l2)) v12.toNat))) ([]:List R4)) then (bif (decide ((((joV 2 (cvT (atV (cvT l1) (rd (Wt (cvT l1) (cvT l2)) v12.toNat))) ([]:List R4)).length :Nat):Int)>400)) then (.ret [.nils,(.bool false)]) else (bif (z0a 2 (cvT (atV (cvT l2) (rd (Wt (cvT l1) (cvT l2)) v12.toNat))) ([]:List R4)) then (bif (decide ((((joV 2 (cvT (atV (cvT l2) (rd (Wt (cvT l1) (cvT l2)) v12.toNat))) ([]:List R4)).length :Nat):Int)>400)) then (.ret [.nils,(.bool false)]) else (bif (decide (v12>0)) then (bif (Wk (cvT (joV x0 (cvT (atV (cvT l1) (rd (Wt (cvT l1) (cvT l2)) v12.toNat))) (cvT (atV (cvT l2) (rd (Wt (cvT l1) (cvT l2)) v12.toNat))))) (cvT v10)) then (bif (Um (cvT (joV x0 (cvT (atV (cvT l1) (rd (Wt (cvT l1) (cvT l2)) v12.toNat))) (cvT (atV (cvT l2) (rd (Wt (cvT l1) (cvT l2)) v12.toNat))))) (cvT v10)) then (.to (.h2 v9 v10 v11 v12 v11)) else (.to (.h1 v9 (joV x0 (cvT (atV (cvT l1) (rd (Wt (cvT l1) (cvT l2)) v12.toNat))) (cvT (atV (cvT l2) (rd (Wt (cvT l1) (cvT l2)) v12.toNat)))) (v9.length:Int) v12 (joV x0 (cvT (atV (cvT l1) (rd (Wt (cvT l1) (cvT l2)) v12.toNat))) (cvT (atV (cvT l2) (rd (Wt (cvT l1) (cvT l2)) v12.toNat)))) 0))) else .stuck) else (.to (.h1 v9 (joV x0 (cvT (atV (cvT l1) (rd (Wt (cvT l1) (cvT l2)) v12.toNat))) (cvT (atV (cvT l2) (rd (Wt (cvT l1) (cvT l2)) v12.toNat)))) (v9.length:Int) v12 (joV x0 (cvT (atV (cvT l1) (rd (Wt (cvT l1) (cvT l2)) v12.toNat))) (cvT (atV (cvT l2) (rd (Wt (cvT l1) (cvT l2)) v12.toNat)))) 0)))) else .stuck)) else .stuck)) else .stuck) else .stuck) else .stuck) else .stuck) else (.ret [(.dat v9.length (Zz v9)),(.bool (decide ((v9.length:Int)≤400)))]))
 | .h1 v9 v10 v11 v12 v13 v15=>(bif (decide (v15<(v13.length:Int))) then (bif ((decide (0≤v12∧v12<(((Wt (cvT l1) (cvT l2)).length :Nat):Int)))&&true) then (bif ((decide (0≤v15∧v15<(v13.length:Int)))&&true) then (bif ((decide (0≤(IntKind.wrap .i64 (v12+1))∧(IntKind.wrap .i64 (v12+1))<(((Wt (cvT l1) (cvT l2)).length :Nat):Int)))&&true) then (bif (Nat.beq 6 6&&((decide (0+v9.length=v9.length))&&decide ((v9.length+1+1)*(48+1)≤Ur))) then (.to (.h1 (v9++[(R6.mk (rd v13 v15.toNat).a (rd v13 v15.toNat).b (rd (Wt (cvT l1) (cvT l2)) v12.toNat) (rd v13 v15.toNat).c (rd v13 v15.toNat).d (rd (Wt (cvT l1) (cvT l2)) (Int.toNat (IntKind.wrap .i64 (v12+1)))))]) v10 v11 v12 v13 (IntKind.wrap .i64 (v15+1)))) else .stuck) else .stuck) else .stuck) else .stuck) else (.to (.h0 v9 v10 v11 (IntKind.wrap .i64 (v12+1)))))
 | .h2 v9 v10 v11 v12 v14=>(bif (decide (v14<(v9.length:Int))) then (bif ((decide (0≤(IntKind.wrap .i64 (v12+1))∧(IntKind.wrap .i64 (v12+1))<(((Wt (cvT l1) (cvT l2)).length :Nat):Int)))&&true) then (bif ((decide (0≤v14∧v14<(v9.length:Int)))&&true) then (bif (decide ((0+v14.toNat)<v9.length)) then (.to (.h2 (v9.set (0+v14.toNat) (R6.mk (rd v9 (0+v14.toNat)).a (rd v9 (0+v14.toNat)).b (rd v9 (0+v14.toNat)).c (rd v9 (0+v14.toNat)).d (rd v9 (0+v14.toNat)).e (rd (Wt (cvT l1) (cvT l2)) (Int.toNat (IntKind.wrap .i64 (v12+1)))))) v10 v11 v12 (IntKind.wrap .i64 (v14+1)))) else .stuck) else .stuck) else .stuck) else (.to (.h0 v9 v10 v11 (IntKind.wrap .i64 (v12+1)))))
def y0n (x0:Int) (l1:List R6) (l2:List R6):Xn rjsS:=(bif (z6y (cvT l1) (cvT l2)) then (.to (.h0 ([]:List R6) ([]:List R4) 0 0)) else .stuck)
theorem w1j (x0:Int) (l1:List R6) (l2:List R6): ∀s,Xk prog (Zy prog 72) (rjsC x0 l1 l2) (rjsC x0 l1 l2 s) (Vm x0 l1 l2 s)
 | .h0 v9 v10 v11 v12=>(lb (fun k0=>(lo fun aG=>(lo fun bA=>(lo fun bW=>(lo fun cO=>(lb (fun k1=>(lr 137 72 [1,1,1,1,1,0,1,0,0,1,0,0,1,0,1,0,0] 1 32 [(6,.nils),(7,(.bool false))] (sl z8s 50 [] ⟨[],[],[some [6,7]],[]⟩ ⟨[],[],[]⟩ (trs 20 []) (tt k1 (pp (pp (xI R4 (Vj l1 l2 v12).length (Zz (Vj l1 l2 v12))) (pp (xI R4 (Vi l2 l1 v12).length (Zz (Vi l2 l1 v12))) (xw cO))) (pp (pp (xr l2) (xw bW)) (ww bA (pp (pp (xr l1) (xw aG)) (ww bA (tt k0 nn)))))))))) (fun k1=>(lo fun bX=>(lb (fun k2=>(lr 137 72 [1,1,1,1,1,0,1,0,0,1,0,0,1,0,1,0,0] 1 32 [(6,.nils),(7,(.bool false))] (sl z8s 50 [] ⟨[],[],[some [6,7]],[]⟩ ⟨[],[],[]⟩ (bl 20 1047553) (tt k2 (pp (pp (xI R4 (Vj l1 l2 v12).length (Zz (Vj l1 l2 v12))) (pp (xI R4 0 (fun _=>[])) (xw bX))) (pp (pp (xr l1) (xw aG)) (ww bA (tt k1 (pp (pp (xI R4 (Vj l1 l2 v12).length (Zz (Vj l1 l2 v12))) (pp (xI R4 (Vi l2 l1 v12).length (Zz (Vi l2 l1 v12))) (xw cO))) (pp (pp (xr l2) (xw bW)) (ww bA (pp (pp (xr l1) (xw aG)) (ww bA (tt k0 nn)))))))))))))) (fun k2=>(lo fun bY=>(lb (fun k3=>(lr 137 72 [1,1,1,1,1,0,1,0,0,1,0,0,1,0,1,0,0] 1 32 [(6,.nils),(7,(.bool false))] (sl z8s 50 [] ⟨[],[],[some [6,7]],[]⟩ ⟨[],[],[]⟩ (bl 20 524289) (tt k3 (pp (pp (xI R4 (Vi l2 l1 v12).length (Zz (Vi l2 l1 v12))) (pp (xI R4 0 (fun _=>[])) (xw bY))) (pp (pp (xr l2) (xw bW)) (ww bA (tt k2 (pp (pp (xI R4 (Vj l1 l2 v12).length (Zz (Vj l1 l2 v12))) (pp (xI R4 0 (fun _=>[])) (xw bX))) (pp (pp (xr l1) (xw aG)) (ww bA (tt k1 (pp (pp (xI R4 (Vj l1 l2 v12).length (Zz (Vj l1 l2 v12))) (pp (xI R4 (Vi l2 l1 v12).length (Zz (Vi l2 l1 v12))) (xw cO))) (pp (pp (xr l2) (xw bW)) (ww bA (pp (pp (xr l1) (xw aG)) (ww bA (tt k0 nn)))))))))))))))))) (fun k3=>(lb (fun k4=>(lo fun cM=>(lb (fun k5=>(sl z8s 66 [] ⟨[0],[],rjsN2,rjsM2⟩ ⟨[],[],[]⟩ (bl 24 15728641) (pp (fl v9 nn) (tt k5 (pp (pp (xI R4 (joV x0 (cvT (Vj l1 l2 v12)) (cvT (Vi l2 l1 v12))).length (Zz (joV x0 (cvT (Vj l1 l2 v12)) (cvT (Vi l2 l1 v12))))) (pp (xr v10) (xw cM))) (tt k4 (tt k3 (pp (pp (xI R4 (Vi l2 l1 v12).length (Zz (Vi l2 l1 v12))) (pp (xI R4 0 (fun _=>[])) (xw bY))) (pp (pp (xr l2) (xw bW)) (ww bA (tt k2 (pp (pp (xI R4 (Vj l1 l2 v12).length (Zz (Vj l1 l2 v12))) (pp (xI R4 0 (fun _=>[])) (xw bX))) (pp (pp (xr l1) (xw aG)) (ww bA (tt k1 (pp (pp (xI R4 (Vj l1 l2 v12).length (Zz (Vj l1 l2 v12))) (pp (xI R4 (Vi l2 l1 v12).length (Zz (Vi l2 l1 v12))) (xw cO))) (pp (pp (xr l2) (xw bW)) (ww bA (pp (pp (xr l1) (xw aG)) (ww bA (tt k0 nn))))))))))))))))))))) (fun k5=>(sl z8s 73 [] ⟨[0],[],u1m,u1o⟩ ⟨[],[],[]⟩ (bl 24 7340033) (pp (fl v9 nn) (tt k5 (pp (pp (xI R4 (joV x0 (cvT (Vj l1 l2 v12)) (cvT (Vi l2 l1 v12))).length (Zz (joV x0 (cvT (Vj l1 l2 v12)) (cvT (Vi l2 l1 v12))))) (pp (xr v10) (xw cM))) (tt k4 (tt k3 (pp (pp (xI R4 (Vi l2 l1 v12).length (Zz (Vi l2 l1 v12))) (pp (xI R4 0 (fun _=>[])) (xw bY))) (pp (pp (xr l2) (xw bW)) (ww bA (tt k2 (pp (pp (xI R4 (Vj l1 l2 v12).length (Zz (Vj l1 l2 v12))) (pp (xI R4 0 (fun _=>[])) (xw bX))) (pp (pp (xr l1) (xw aG)) (ww bA (tt k1 (pp (pp (xI R4 (Vj l1 l2 v12).length (Zz (Vj l1 l2 v12))) (pp (xI R4 (Vi l2 l1 v12).length (Zz (Vi l2 l1 v12))) (xw cO))) (pp (pp (xr l2) (xw bW)) (ww bA (pp (pp (xr l1) (xw aG)) (ww bA (tt k0 nn)))))))))))))))))))))))) (fun k4=>(sl z8s 73 [] ⟨[0],[],u1m,u1o⟩ ⟨[],[],[]⟩ (bl 24 1) (pp (fl v9 nn) (tt k4 (tt k3 (pp (pp (xI R4 (Vi l2 l1 v12).length (Zz (Vi l2 l1 v12))) (pp (xI R4 0 (fun _=>[])) (xw bY))) (pp (pp (xr l2) (xw bW)) (ww bA (tt k2 (pp (pp (xI R4 (Vj l1 l2 v12).length (Zz (Vj l1 l2 v12))) (pp (xI R4 0 (fun _=>[])) (xw bX))) (pp (pp (xr l1) (xw aG)) (ww bA (tt k1 (pp (pp (xI R4 (Vj l1 l2 v12).length (Zz (Vj l1 l2 v12))) (pp (xI R4 (Vi l2 l1 v12).length (Zz (Vi l2 l1 v12))) (xw cO))) (pp (pp (xr l2) (xw bW)) (ww bA (pp (pp (xr l1) (xw aG)) (ww bA (tt k0 nn))))))))))))))))))))))))))))))))) (fun k0=>(lr 137 3 [1,1,1,1,1,1,1,0] 1 32 [(6,(.dat v9.length (Zz v9))),(7,(.bool (decide ((v9.length:Int)≤400))))] (sl z8s 20 [] ⟨[],[0],[some [6,7]],[]⟩ ⟨[(6,.frz v9.length v9.length (Zz v9) (Zz v9))],[],[]⟩ [false] (pp (xZ (z5c 6 6 0 v9.length v9.length (Zz v9)) v9.length (Zz v9)) (pp (xL v9.length v9.length) (pp (xS v9.length (Zz v9) (Zz v9)) (pp (fl v9 nn) (tt k0 nn)))))))))
 | .h1 v9 v10 v11 v12 v13 v15=>(lb (fun k0=>(lo fun o0=>(lo fun o1=>(lo fun o2=>(lo fun o3=>(sl z8s 20 [] ⟨[2],[],u1m,u1o⟩ ⟨[(9,.len (y5s v9 v13 v15 l1 l2 v12).length)],[.rowed 6 (y5s v9 v13 v15 l1 l2 v12).length (Zz (y5s v9 v13 v15 l1 l2 v12))],[]⟩ [true] (pp (xL (v9.length+1) (y5s v9 v13 v15 l1 l2 v12).length) (pp (xL (v9.length+1) (y5s v9 v13 v15 l1 l2 v12).length) (pp (xS (v9.length+1) (v7b v9 v13 v15 l1 l2 v12) (Zz (y5s v9 v13 v15 l1 l2 v12))) (pp (pp (xF (v7b v9 v13 v15 l1 l2 v12)) nn) (ww o3 (ww o2 (ww o1 (ww o1 (ww o0 (ww o1 (ww o1 (tt k0 nn)))))))))))))))))) (fun k0=>(sl z8s 17 [] ⟨[0],[],u1n,u1p⟩ ⟨[],[],[]⟩ [false] (pp (fl v9 nn) (tt k0 nn)))))
 | .h2 v9 v10 v11 v12 v14=>(lb (fun k0=>(lo fun o0=>(lo fun o1=>(lo fun o2=>(sl z8s 32 [] ⟨[0],[],rjsN2,rjsM2⟩ ⟨[(9,.len (y5t v9 v14 l1 l2 v12).length)],[.rowed 6 (y5t v9 v14 l1 l2 v12).length (Zz (y5t v9 v14 l1 l2 v12))],[]⟩ [true] (pp (xL v9.length (y5t v9 v14 l1 l2 v12).length) (pp (xL v9.length (y5t v9 v14 l1 l2 v12).length) (pp (xS v9.length (Xc (Zz v9) (0+(tn v14)) 5 [(ii (rd (Wt (cvT l1) (cvT l2)) (tn (wr (v12+1)))))]) (Zz (y5t v9 v14 l1 l2 v12))) (pp (pp (xF (Xc (Zz v9) (0+(tn v14)) 5 [(ii (rd (Wt (cvT l1) (cvT l2)) (tn (wr (v12+1)))))])) nn) (ww o2 (ww o1 (ww o0 (tt k0 nn))))))))))))) (fun k0=>(sl z8s 17 [] ⟨[0],[],u1n,u1p⟩ ⟨[],[],[]⟩ [false] (pp (fl v9 nn) (tt k0 nn)))))
theorem x4d (x0:Int) (l1:List R6) (l2:List R6):Xk prog (Zy prog 72) (rjsC x0 l1 l2) (Zd prog 72 [(.int .i64 x0),(.dat l1.length (Zz l1)),(.dat l2.length (Zz l2))] true []) (y0n x0 l1 l2):=(lo fun o0=>(sl z8s 31 [(67,6,Zz ([]:List R6))] ⟨[0],[],u1n,u1p⟩ ⟨[(9,.grow 0 6),(10,.list 0 (Zz ([]:List R4)))],[],[]⟩ [] (pp (fl ([]:List R6) nn) (pp (pp (xr l1) (pp (xr l2) (xw o0))) nn))))
theorem v1x (x0:Int) (l1:List R6) (l2:List R6) (n:Nat) (vs:List AVal) (h:Yj (Vm x0 l1 l2) n (y0n x0 l1 l2)=.ret vs):Kz prog (Zy prog 72) (Zd prog 72 [(.int .i64 x0),(.dat l1.length (Zz l1)),(.dat l2.length (Zz l2))] true []) vs:=by have:=Zo (w1j x0 l1 l2) n _ (x4d x0 l1 l2);rwa [h] at this
end Go.Am
namespace Go.Am
open Go.Proofs.Tryz
open Go.Proofs
theorem Jo (l m:List R6):(Wt l m).length ≤2*l.length+2*m.length:=by refine Nat.le_trans (z4n _) ?_;rw [List.length_append,Qd,Qd];omega
theorem z0w (l:List R6) (z:Int):(atV l z).length ≤l.length:=by unfold atV;rw [List.length_map];exact List.length_filter_le _ _
def v0q (out:List R6) (first:Nat) (z:Int):List R6:=out.take first++(out.drop first).map fun r=>⟨r.a,r.b,r.c,r.d,r.e,z⟩
def u2g (z z':Int) (s:List R4):List R6:=s.map fun p=>⟨p.a,p.b,z,p.c,p.d,z'⟩
section
variable (kind:Int) (l m:List R6)
def y9w (z:Int):List R4:=joV kind (atV l z) (atV m z)
def z9p (z:Int):Bool:=decide (400<(y9w kind l m z).length)||(decide (400<(joV 2 (atV l z) []).length)||decide (400<(joV 2 (atV m z) []).length))
def jsF :Nat→Nat→List R6→List R4→Nat→Option (List R6)
 | 0,_,out,_,_=>some out
 | k+1,i,out,last,first=>
  bif z9p kind l m (rd (Wt l m) i) then none
  else bif decide (0<i)&&Um (y9w kind l m (rd (Wt l m) i)) last then jsF k (i+1) (v0q out first (rd (Wt l m) (i+1))) last first
  else jsF k (i+1) (out++u2g (rd (Wt l m) i) (rd (Wt l m) (i+1)) (y9w kind l m (rd (Wt l m) i))) (y9w kind l m (rd (Wt l m) i)) out.length
def jsO :Option (List R6):=jsF kind l m ((Wt l m).length - 1) 0 [] [] 0
def x5r :Option (List R6)→List AVal
 | none=>[.nils,.bool false]
 | some out=>[.dat out.length (Zz out),.bool (decide ((out.length:Int)≤400))]
def z4z :List R6:=(jsO kind l m).getD []
def x1o :Bool:=match jsO kind l m with
 | none=>false
 | some out=>decide ((out.length:Int)≤400)
end
def y0z (_:Int) (l m:List R6):Bool:=decide (l.length≤5000∧m.length≤5000)
section
variable (kind:Int) (l m:List R6) (hl:l.length≤5000) (hm:m.length≤5000)
include hl hm
theorem v7a (last:List R4) (first:Int) (i:Nat) (hi:i+1<(Wt l m).length) (s:List R4) (hs:s.length≤1000000): ∀(k j:Nat) (out:List R6),j+k=s.length→out.length≤10000000000+j→
  ∃n,∀N,Yj (Vm kind l m) (N+n) (.to (.h1 out last first (i:Int) s (j:Int)))=Yj (Vm kind l m) N (.to (.h0 (out++u2g (rd (Wt l m) i) (rd (Wt l m) (i+1)) (s.drop j)) last first ((i+1:Nat):Int)))
 | 0,j,out,h,ho=>by have hx:=Jo l m;refine ⟨1,fun N=> ?_⟩;rw [List.drop_eq_nil_of_le (by omega),Zv];simp (disch:=omega) only [Vm,Za,Zk,Yw,Zq,Zx,cond_false,u2g,List.map_nil,List.append_nil]
 | k+1,j,out,h,ho=>by
  have hx:=Jo l m;obtain ⟨n,hn⟩:=v7a last first i hi s hs k (j+1) (out++u2g (rd (Wt l m) i) (rd (Wt l m) (i+1)) [rd s j]) (by omega) (by simp [u2g];omega)
  refine ⟨n+1,fun N=> ?_⟩;have:=hn N;rw [Yg (show j<s.length by omega),←Nat.add_assoc,Zv];simp (disch:=omega) only [Vm,Za,Zk,Zs,Zt,Ya,Yk,Zh,Zq,Zx,Yp,Zj,Nat.zero_add,decide_true,Bool.and_true,Bool.true_and,cond_true];rw [List.append_assoc] at this;exact this
omit hl hm in
theorem v4t (out:List R6) (j:Nat) (x:Int) (h:j<out.length):v0q (out.set j ⟨(rd out j).a,(rd out j).b,(rd out j).c,(rd out j).d,(rd out j).e,x⟩) (j+1) x=v0q out j x:=by
 unfold v0q;rw [Yg h,List.map_cons];have e1:(out.set j ⟨(rd out j).a,(rd out j).b,(rd out j).c,(rd out j).d,(rd out j).e,x⟩).take (j+1)=out.take j++[⟨(rd out j).a,(rd out j).b,(rd out j).c,(rd out j).d,(rd out j).e,x⟩]:=by
  apply List.ext_getElem
  ·simp;omega
  ·intro n h1 h2;simp only [List.getElem_take,List.getElem_set];by_cases e:j=n
   ·subst e;rw [if_pos rfl,List.getElem_append_right (by simp only [List.length_take];omega)];simp
   ·rw [if_neg e,List.getElem_append_left (by simp at h1 ⊢;omega),List.getElem_take]
 have e2:(out.set j ⟨(rd out j).a,(rd out j).b,(rd out j).c,(rd out j).d,(rd out j).e,x⟩).drop (j+1)=out.drop (j+1):=by rw [List.drop_set];rw [if_pos (by omega)]
 rw [e1,e2,List.append_assoc];rfl
theorem v6z (last:List R4) (first:Int) (i:Nat) (hi:i+1<(Wt l m).length): ∀(k j:Nat) (out:List R6),j+k=out.length→out.length≤10000000000→
  ∃n,∀N,Yj (Vm kind l m) (N+n) (.to (.h2 out last first (i:Int) (j:Int)))=Yj (Vm kind l m) N (.to (.h0 (v0q out j (rd (Wt l m) (i+1))) last first ((i+1:Nat):Int)))
 | 0,j,out,h,ho=>by
  have hx:=Jo l m;refine ⟨1,fun N=> ?_⟩;have e:v0q out j (rd (Wt l m) (i+1))=out:=by unfold v0q;rw [List.drop_eq_nil_of_le (by omega),List.map_nil,List.append_nil,List.take_of_length_le (by omega)]
  rw [e,Zv];simp (disch:=omega) only [Vm,Za,Zk,Yw,Zq,Zx,cond_false]
 | k+1,j,out,h,ho=>by
  have hx:=Jo l m;obtain ⟨n,hn⟩:=v6z last first i hi k (j+1) (out.set j ⟨(rd out j).a,(rd out j).b,(rd out j).c,(rd out j).d,(rd out j).e,rd (Wt l m) (i+1)⟩) (by simp;omega) (by simpa using ho)
  refine ⟨n+1,fun N=> ?_⟩;have:=hn N;rw [v4t out j _ (by omega)] at this;rw [←Nat.add_assoc,Zv];simp (disch:=omega) only [Vm,Za,Zk,Zs,Zt,Yv,Ya,Yk,Zh,Zq,Zx,Yp,Zj,Nat.zero_add,decide_true,Bool.and_true,Bool.true_and,cond_true];exact this
theorem w5p : ∀(k i:Nat) (out:List R6) (last:List R4) (first:Nat),k=(Wt l m).length - 1 - i→i≤(Wt l m).length →out.length≤i*400→last.length≤400→first≤out.length→
  ∃n,Yj (Vm kind l m) n (.to (.h0 out last (first:Int) (i:Int)))=.ret (x5r (jsF kind l m k i out last first))
 | 0,i,out,last,first,h,hi,ho,hla,hf=>by have hx:=Jo l m;refine ⟨1,?_⟩;rw [Zv];simp (disch:=omega) only [Vm,Za,Zk,Yw,Zq,Zx,cond_false,Zm,jsF,x5r]
 | k+1,i,out,last,first,h,hi,ho,hla,hf=>by
  have hx:=Jo l m;have hi1:i+1<(Wt l m).length :=by omega
  have hbig:i*400≤20000*400:=Nat.mul_le_mul_right _ (by omega);have a1:=fun z=>z0w l z;have a2:=fun z=>z0w m z;have w1: ∀z,z4b l z=true:=fun z=>decide_eq_true (by omega);have w2: ∀z,z4b m z=true:=fun z=>decide_eq_true (by omega);have w3: ∀k z,z0a k (atV l z) (atV m z)=true:=fun k z=>decide_eq_true (by have:=a1 z;have:=a2 z;omega);have w4: ∀k z,z0a k (atV l z) ([]:List R4)=true:=fun k z=>decide_eq_true (by have:=a1 z;simp;omega);have w5: ∀k z,z0a k (atV m z) ([]:List R4)=true:=fun k z=>decide_eq_true (by have:=a2 z;simp;omega);unfold jsF;have dZ:y9w kind l m (rd (Wt l m) i)=joV kind (atV l (rd (Wt l m) i)) (atV m (rd (Wt l m) i)):=rfl;by_cases c1:400<(y9w kind l m (rd (Wt l m) i)).length
  ·refine ⟨1,?_⟩;have hb:z9p kind l m (rd (Wt l m) i)=true:=by unfold z9p;rw [decide_eq_true c1];rfl
   rw [hb,cond_true,Zv];rw [dZ] at c1;simp (disch:=omega) only [Vm,Za,Zk,Zs,Yf,Zt,Zq,Zx,Zj,w1,w2,w3,w4,w5,Bool.and_true,cond_true,Zm,x5r]
  by_cases c2:400<(joV 2 (atV l (rd (Wt l m) i)) []).length
  ·refine ⟨1,?_⟩;have hb:z9p kind l m (rd (Wt l m) i)=true:=by unfold z9p;rw [decide_eq_true c2,Bool.true_or,Bool.or_true]
   rw [hb,cond_true,Zv];rw [dZ] at c1;simp (disch:=omega) only [Vm,Za,Zk,Zs,Yf,Xu,Zt,Zq,Zx,Zj,w1,w2,w3,w4,w5,Bool.and_true,cond_true,cond_false,Zm,x5r]
  by_cases c3:400<(joV 2 (atV m (rd (Wt l m) i)) []).length
  ·refine ⟨1,?_⟩;have hb:z9p kind l m (rd (Wt l m) i)=true:=by unfold z9p;rw [decide_eq_true c3,Bool.or_true,Bool.or_true]
   rw [hb,cond_true,Zv];rw [dZ] at c1;simp (disch:=omega) only [Vm,Za,Zk,Zs,Yf,Xu,Zt,Zq,Zx,Zj,w1,w2,w3,w4,w5,Bool.and_true,cond_true,cond_false,Zm,x5r]
  have hb:z9p kind l m (rd (Wt l m) i)=false:=by unfold z9p;rw [decide_eq_false c1,decide_eq_false c2,decide_eq_false c3];rfl
  rw [hb,cond_false];have w6:Wk (joV kind (atV l (rd (Wt l m) i)) (atV m (rd (Wt l m) i))) last=true:=decide_eq_true (by rw [←dZ];omega);rcases Yh (decide (0<i)&&Um (y9w kind l m (rd (Wt l m) i)) last) with q | q
  ·obtain ⟨n3,h3⟩:=v6z kind l m hl hm last first i hi1 (out.length - first) first out (by omega) (by omega)
   obtain ⟨n0,h0⟩:=w5p k (i+1) (v0q out first (rd (Wt l m) (i+1))) last first (by omega) (by omega) (by simp [v0q];omega) hla (by simp [v0q];omega)
   refine ⟨n0+n3+1,?_⟩;rw [q,cond_true,Zv];simp only [Bool.and_eq_true,decide_eq_true_eq] at q;obtain ⟨q1,q2⟩:=q;rw [dZ] at c1 q2;simp (disch:=omega) only [Vm,Za,Zk,Zs,Yf,Xu,Zt,Zq,Zx,Zj,w1,w2,w3,w4,w5,w6,q2,Bool.and_true,cond_true,cond_false];rw [h3 n0,h0]
  ·obtain ⟨n2,h2⟩:=v7a kind l m hl hm (y9w kind l m (rd (Wt l m) i)) (out.length:Int) i hi1 (y9w kind l m (rd (Wt l m) i)) (by omega) (y9w kind l m (rd (Wt l m) i)).length 0 out (Nat.zero_add _) (by omega);obtain ⟨n0,h0⟩:=w5p k (i+1) (out++u2g (rd (Wt l m) i) (rd (Wt l m) (i+1)) (y9w kind l m (rd (Wt l m) i))) (y9w kind l m (rd (Wt l m) i)) out.length (by omega) (by omega) (by simp [u2g];omega) (by omega) (by simp);refine ⟨n0+n2+1,?_⟩;rw [q,cond_false,Zv];have h2':=h2 n0;simp only [List.drop_zero,z5j] at h2';have c1':=c1;rw [dZ] at c1';by_cases hi0:0<i
   ·rw [decide_eq_true hi0,Bool.true_and,dZ] at q;simp (disch:=omega) only [Vm,Za,Zk,Zs,Yf,Xu,Zt,Zq,Zx,Zj,w1,w2,w3,w4,w5,w6,q,Bool.and_true,cond_true,cond_false];rw [←h0];exact h2'
   ·simp (disch:=omega) only [Vm,Za,Zk,Zs,Yf,Xu,Zt,Zq,Zx,Zj,w1,w2,w3,w4,w5,w6,Bool.and_true,cond_true,cond_false];rw [←h0];exact h2'
end
theorem u1l (kind:Int) (l m:List R6) (h:y0z kind l m=true): ∃N,Yj (Vm kind l m) N (y0n kind l m)=.ret (x5r (jsO kind l m)):=by obtain ⟨hl,hm⟩:=of_decide_eq_true h;obtain ⟨N,hN⟩:=w5p kind l m hl hm ((Wt l m).length - 1) 0 [] [] 0 rfl (Nat.zero_le _) (Nat.zero_le _) (Nat.zero_le _) (Nat.le_refl _);refine ⟨N,?_⟩;have w1:z6y l m=true:=decide_eq_true ⟨by omega,by omega⟩;simp only [y0n,Za,Zk,w1,cond_true];exact hN
def fJs :List AVal→Option (AVal×Bool)
 | [.int .i64 x0,a1,a2]=>match asL R6 a1,asL R6 a2 with
  | some (L1,g1,n1),some (L2,g2,n2)=>some (.tup [.dat (z4z x0 L1 L2).length (Zz (z4z x0 L1 L2)),.bool (x1o x0 L1 L2)],isT R6 n1 g1&&(isT R6 n2 g2&&(y0z x0 L1 L2)))
  | _,_=>none
 | _=>none
theorem fJs_ok {S:Specs} (hS:Zu prog S):Zu prog (S.with v8i fJs):=by
 refine w8t hS (by kernel_rfl) fun args v h=> ?_;unfold fJs at h;split at h
 ·rename_i x0 a1 a2;split at h
  ·rename_i L1 g1 n1 L2 g2 n2 e1 e2;simp only [Option.some.injEq,Prod.mk.injEq,Bool.and_eq_true] at h;obtain ⟨rfl,ho1,ho2,hw⟩:=h;obtain ⟨N,hN⟩:=u1l x0 L1 L2 hw;refine ⟨_,x5r (jsO x0 L1 L2),(.cons (.refl _) (.cons (asL_le e1 ho1) (.cons (asL_le e2 ho2) .nil))),?_,v1x x0 L1 L2 N _ hN,3,?_⟩
   ·unfold z4z x1o;cases jsO x0 L1 L2 with
    | none=>exact fun ρ u hu=>z4g (.cons (z4w R6) (RLe.refl _)) ρ u hu
    | some out=>exact fun ρ u hu=>hu
   ·cases jsO x0 L1 L2 <;> rfl
  ·cases h
 ·cases h
def T4 :Specs:=T3.with v8i fJs
theorem T4_ok :Zu prog T4:=fJs_ok z8s
end Go.Am
namespace Go.Am
open Go.Proofs.Tryz
open Go.Proofs Go.Sort Go.Shelf Go.RowKit Go.Lib
def u5i (x:E3):List Value:=y7c x.1
theorem u5h (l:List R3) (h:z9r l=true):Go.Sort.flatK u5i 3 (y9x l h).toArray =Go.Sort.flatK y7c 3 l.toArray:=by
 have hl:=Jr l h;unfold Go.Sort.flatK;rw [show (y9x l h).toArray.size =l.toArray.size by simpa using hl];apply Array.ext
 ·simp
 ·intro t h1 h2;simp only [Array.getElem_map,Array.getElem_range];have ht:t<l.length*3:=by simpa using h1
  have hq:t / 3<l.length:=by omega
  congr 1
  rw [getElem!_pos (y9x l h).toArray (t / 3) (by simpa [hl] using hq),getElem!_pos l.toArray (t / 3) (by simpa using hq)];unfold u5i
  congr 1
  have:=y1i l h;have e:=congrArg (fun z:List R3=>z[t / 3]?) this;simp only [List.getElem?_map] at e;rw [List.getElem?_eq_getElem (by rw [hl];exact hq),List.getElem?_eq_getElem hq] at e
  simpa using e
theorem v4m (d:Array E3):Go.Sort.flatK u5i 3 d=Go.Sort.flatK y7c 3 (d.toList.map Subtype.val).toArray :=by
 unfold Go.Sort.flatK;rw [show d.size=(d.toList.map Subtype.val).toArray.size by simp];apply Array.ext
 ·simp
 ·intro t h1 h2;simp only [Array.getElem_map,Array.getElem_range];have ht:t<d.size*3:=by simpa using h1
  have hq:t / 3<d.size:=by omega
  congr 1
  rw [getElem!_pos d (t / 3) hq,getElem!_pos (d.toList.map Subtype.val).toArray (t / 3) (by simpa using hq)];simp [u5i]
theorem z6l (l:List R3):y8t l.length (Qi (cvT l)).length =true:=Wi (by
 rw [Za];by_cases h:z9r l=true
 ·exact (Kw l h).1.length_eq.symm
 ·unfold Qi;rw [dif_neg h])
theorem isAgg3 : ∀w,(isAgg (Tryz.sortEnd_ren.t 24)).run prog w=.ok true w:=fun w=>by rfl
theorem size3 : ∀w,(Go.sizeOf (Tryz.sortEnd_ren.t 24)).run prog w=.ok 3 w:=fun w=>by rfl
theorem w4u :x2v prog v8b (x9t R3 Qi z9r x8x):=by
 refine w9e (fun L=> ?_) (fun blk off cap L w hb hH eH hsz=> ?_) fun p cap fv w=>AnyF.slices_SortFunc_none Tryz.sortEnd p cap fv w
 ·by_cases h:z9r L=true
  ·exact (Kw L h).1.length_eq
  ·unfold Qi;rw [dif_neg h]
 ·have eg: ∀args w,(callFunc 201 args).run prog w=.ok (.enter 201 args) w:=enters_of Tryz.func201 (by kernel_rfl) rfl;have hcmp:CmpLays prog 201 #[] u5i 3 cf3 blk off (y9x L hb).toArray.size w:=fun m os dk _ x y=>by have hx:=of_decide_eq_true x.2;have hy:=of_decide_eq_true y.2;exact Tryz.cmpEnd x.1.a x.1.b x.1.c y.1.a y.1.b y.1.c hx hy _
  have hH':HoldsK u5i 3 w blk off (y9x L hb).toArray :=by unfold HoldsK;rw [u5h L hb];exact hH
  have hcon:=AnyQ.slices_SortFunc_eq Tryz.sortEnd 3 isAgg3 size3 u5i (fun x=>y3l x.1) (fun x v hv=>by
   obtain ⟨a,ha,rfl⟩:=List.mem_map.1 hv;have:x5t a=true:=List.all_eq_true.1 (v9q.num x.1) a ha;cases a <;> first | rfl | (simp [x5t] at this;done)) cf3 swo3 201 #[] blk off cap (y9x L hb).toArray w eg hcmp hH' eH (by simpa [Jr] using hsz)
  have hs:(y9x L hb).toArray.size =L.length:=by simp [Jr]
  rw [hs] at hcon;refine Calls.mono hcon fun e w' ⟨he,n,os,hw⟩=>⟨he,n,os,?_⟩
  rw [hw];unfold sortWorldK putRowK;rw [v4m];unfold Qi;rw [dif_pos hb];rfl
def Yi (zs:List Int):List Int:=zs.mergeSort fun x y=>decide (x≤y)
theorem w4t :x2v prog nSort (fRow Yi):=
 u5j (fun zs=>List.length_mergeSort zs) (fun blk off cap zs w hH hb hz=>Tryz.slices_Sort_int blk off cap zs w hH hb hz) fun p cap w=>Tryz.slices_Sort_int_none p cap w
def Xt (zs:List Int):List Int:=compact zs++List.replicate (zs.length - (compact zs).length) 0
def w3x (zs:List Int):Nat:=(compact zs).length
theorem Uy (zs:List Int):(Xt zs).length =zs.length:=by have:=compact_length_le zs;simp [Xt];omega
theorem z0s (n:Nat) (c:Nat→Int):y8t n (Xt (Zb n c)).length =true:=Wi (by rw [Uy];simp [Zb])
theorem w8f (w:World):grow w #[]=w:=by simp [grow]
theorem x6w :x2v prog x8y (fCut Xt w3x):=
 u5k (fun zs=>by have:=compact_length_le zs;simp [Xt];omega) (fun zs=>compact_length_le zs)
  (fun blk off cap zs w hH hb hz dB=>(Tryz.slices_Compact_int blk off cap zs w hH (by omega) dB).mono fun e w' ⟨he,q,hw⟩=>⟨he,q, #[],by rw [hw,w8f];rfl⟩)
  fun p cap w=>Tryz.slices_Compact_int_empty p cap w
def T5 :Specs:=((T4.withE v8b (x9t R3 Qi z9r x8x)).withE nSort (fRow Yi)).withE x8y (fCut Xt w3x)
theorem Kt :Zu prog T5:=y7l (y7l (y7l T4_ok (by kernel_rfl) w4u) (by kernel_rfl) w4t) (by kernel_rfl) x6w
end Go.Am
namespace Go.Am
open Go.Proofs.Tryz
open Go.Proofs
-- h2: index into an array (choices [true, true, false, false])
-- h2: index into an array (choices [true, false, true, false, false])
-- h2: index into an array (choices [true, false, false, true, true, false, false])
-- h2: index into an array (choices [true, false, false, true, false, false, false])
-- h2: index into an array (choices [true, false, false, false, false, false])
inductive spmS where
 | h0 (v8:Int)
 | h1 (v3:List R3) (v17:Int)
 | h2 (v5:List R3) (v6:Int) (v7:Int) (aA:Int) (aI:Int) (aM:Int) (aF:Bool) (aC:List R2)
abbrev Vf (aC:List R2) (aM:Int) (v5:List R3) (v7:Int):=(aC++[(R2.mk aM (rd v5 (0+(tn v7))).a)])
abbrev z8y (aC:List R2) (aM:Int) (v5:List R3) (v7:Int):=(Zf (Zz aC) 0 aC.length 2 [(ii aM),(ii (rd v5 (0+(tn v7))).a)])
abbrev y5h (v3:List R3) (l0:List R2) (v17:Int):=(v3++[(R3.mk (rd l0 (tn v17)).a 0 1),(R3.mk (rd l0 (tn v17)).b 0 (-1))])
def v5x (l0:List R2):AFr:=⟨⟨11,0,true⟩,(Uq prog 157 [1,1,1,0] 1),(Zc prog 157 [1,1,1,0] 1),none,(Zy prog 15),Yb [(9,(.dat l0.length (Zz l0)))]⟩
def spmC (l0:List R2):spmS→Cfg
 | .h0 v8=>⟨⟨19,0,true⟩,none,(Zc prog 195 [1,0,1,0,0] 0),none,(Zy prog 5),⟨Yb [(0,(.dat l0.length (Zz l0))),(1,(.fn 184 [])),(7,(ii (l0.length:Int))),(8,(ii v8))],Ug [] 0,0,[],true⟩,[⟨⟨9,0,true⟩,(Uq prog 183 [1,0] 2),(Zc prog 183 [1,0] 1),none,(Zy prog 5),Yb [(5,(.dat l0.length (Zz l0))),(6,(.fn 184 []))]⟩,⟨⟨11,0,true⟩,(Uq prog 157 [1,1,0,0] 1),(Zc prog 157 [1,1,0,0] 1),none,(Zy prog 15),Yb [(0,(.dat l0.length (Zz l0))),(7,(.dat l0.length (Zz l0)))]⟩],.leaf⟩
 | .h1 v3 v17=>⟨⟨38,0,true⟩,none,(Zc prog 197 [1,1,0,1,0,0,1,1,0,0,1,1,0,0] 0),none,(Zy prog 3),⟨Yb [(3,(.sla 7 3 0 v3.length (.un 3))),(4,(ii 0)),(8,(.sl 0 0 2 (.un 1))),(9,(ii 2)),(10,(ii 0)),(15,(.dat l0.length (Zz l0))),(16,(ii (l0.length:Int))),(17,(ii v17))],Ug [⟨[(.dat l0.length (Zz l0)),.nils],180,none⟩,⟨[(.fn 187 [])],213,none⟩,⟨[(ii 0),(ii 0)],142,none⟩,⟨[.nils],180,none⟩,⟨[(ii 0)],3,none⟩,⟨[(.bool false)],4,none⟩,⟨[(.fn 196 [(.ptr 5 0),(.ptr 4 0),(.ptr 3 0)])],242,none⟩,⟨rows v3.length (Zz v3),246,some ⟨3,v3.length,(Zz v3)⟩⟩] 0,8,[],true⟩,[⟨⟨42,0,true⟩,(Uq prog 186 [1,1,1,1,1,0,0] 3),(Zc prog 186 [1,1,1,1,1,0,0] 1),none,(Zy prog 8),Yb [(5,(.ptr 1 0)),(6,.nils),(7,(.ptr 2 0)),(8,(.ptr 3 0)),(9,(.ptr 4 0)),(10,(.ptr 5 0)),(11,(.ptr 6 0)),(16,(.sl 0 0 2 (.un 1)))]⟩,(v5x l0)],.leaf⟩
 | .h2 v5 v6 v7 aA aI aM aF aC=>⟨⟨16,0,true⟩,none,(Zc prog 205 [1,0,0] 0),none,[],⟨Yb [(0,(.yld 0)),(5,(.sla 7 3 0 v5.length (.un 3))),(6,(ii v6)),(7,(ii v7))],z9e [(1,⟨[(.fn 187 [])],213,none⟩),(2,⟨[(ii aA),(ii aI)],142,none⟩),(3,⟨[(ii aM)],3,none⟩),(4,⟨[(.bool aF)],4,none⟩),(5,⟨[(.fn 196 [(.ptr 4 0),(.ptr 3 0),(.ptr 6 0)])],242,none⟩),(6,⟨[(.sla 8 2 0 aC.length (.un 2))],180,none⟩),(7,⟨rows v5.length (Zz v5),246,some ⟨3,v5.length,(Zz v5)⟩⟩),(8,⟨rows aC.length (Zz aC),183,some ⟨2,aC.length,(Zz aC)⟩⟩)],9,[],true⟩,[⟨⟨42,0,true⟩,none,(.inRangeFunc 0::(Zc prog 186 [1,1,1,1,1,0,1,0] 1)),none,(Zy prog 8),Yb [(6,.nils),(8,(.ptr 6 0))]⟩,(v5x l0)],(y4m [(0,⟨.ready,none,42,Yb [(5,(.ptr 1 0)),(7,(.ptr 2 0)),(9,(.ptr 3 0)),(10,(.ptr 4 0)),(11,(.ptr 5 0))],[18],(Vx prog 186 [1,1,1,1,1,0,1,0,0]),(Vx prog 186 [1,1,1,1,1,0,1,0,1])⟩)])⟩
def spmN0 :List (Option (List Nat)):=[some [0,1,7,8],some [5,6],some [0,7]]
def spmM0 :List (Option (List Nat)):=[]
def w4p :List (Option (List Nat)):=[some [3,4,8,9,10,15,16,17],some [5,6,7,8,9,10,11,16],some [9]]
def w4q :List (Option (List Nat)):=[]
def y1t :List (Option (List Nat)):=[some [0,5,6,7],some [6,8],some [9]]
def y1u :List (Option (List Nat)):=[some [5,7,9,10,11],none,none,none,none,none,none,none,none]
def Vr (l0:List R2):spmS→Xn spmS
 | .h0 v8=>(bif (decide (v8<(l0.length:Int))) then (bif ((decide (0≤v8∧v8<(l0.length:Int)))&&true) then (bif (decide ((rd l0 v8.toNat).a <(rd l0 v8.toNat).b)) then (bif (decide ((rd l0 v8.toNat).a ≥(-1000000))) then (bif (!(decide ((rd l0 v8.toNat).b ≤1000000))) then (bif (decide (v8≥0)) then (.ret [.nils,(.int .i64 8)]) else (.to (.h1 ([]:List R3) 0))) else (.to (.h0 (IntKind.wrap .i64 (v8+1))))) else (bif (decide (v8≥0)) then (.ret [.nils,(.int .i64 8)]) else (.to (.h1 ([]:List R3) 0)))) else (bif (decide (v8≥0)) then (.ret [.nils,(.int .i64 8)]) else (.to (.h1 ([]:List R3) 0)))) else .stuck) else (.to (.h1 ([]:List R3) 0)))
 | .h1 v3 v17=>(bif (decide (v17<(l0.length:Int))) then (bif ((decide (0≤v17∧v17<(l0.length:Int)))&&true) then (bif (Nat.beq 3 3&&((decide (0+v3.length=v3.length))&&decide ((v3.length+2+1)*(24+1)≤Ur))) then (.to (.h1 (v3++[(R3.mk (rd l0 v17.toNat).a 0 1),(R3.mk (rd l0 v17.toNat).b 0 (-1))]) (IntKind.wrap .i64 (v17+1)))) else .stuck) else .stuck) else (bif (z9r (cvT v3)) then (bif (decide (v3.length<4611686018427387904)) then (bif (decide (v3.length=v3.length)) then (.to (.h2 (Qi (cvT v3)) (v3.length:Int) 0 0 0 0 false ([]:List R2))) else .stuck) else .stuck) else .stuck))
 | .h2 v5 v6 v7 aA aI aM aF aC=>(bif (decide (v7<v6)) then (bif ((decide (0≤v7∧v7<(v5.length:Int)))&&true) then (bif (decide ((0+v7.toNat)<v5.length)) then (bif (!aF) then (bif (decide ((rd v5 (0+v7.toNat)).b =Int.ofNat 0)) then (.to (.h2 v5 v6 (IntKind.wrap .i64 (v7+1)) (IntKind.wrap .i64 (aA+(rd v5 (0+v7.toNat)).c)) aI (rd v5 (0+v7.toNat)).a (x9o (decide ((IntKind.wrap .i64 (aA+(rd v5 (0+v7.toNat)).c))>0)) (decide (aI>0))) aC)) else (bif (decide ((rd v5 (0+v7.toNat)).b =Int.ofNat 1)) then (.to (.h2 v5 v6 (IntKind.wrap .i64 (v7+1)) aA (IntKind.wrap .i64 (aI+(rd v5 (0+v7.toNat)).c)) (rd v5 (0+v7.toNat)).a (x9o (decide (aA>0)) (decide ((IntKind.wrap .i64 (aI+(rd v5 (0+v7.toNat)).c))>0))) aC)) else .stuck)) else (bif (aM == (rd v5 (0+v7.toNat)).a) then (bif (decide ((rd v5 (0+v7.toNat)).b =Int.ofNat 0)) then (.to (.h2 v5 v6 (IntKind.wrap .i64 (v7+1)) (IntKind.wrap .i64 (aA+(rd v5 (0+v7.toNat)).c)) aI (rd v5 (0+v7.toNat)).a (x9o (decide ((IntKind.wrap .i64 (aA+(rd v5 (0+v7.toNat)).c))>0)) (decide (aI>0))) aC)) else (bif (decide ((rd v5 (0+v7.toNat)).b =Int.ofNat 1)) then (.to (.h2 v5 v6 (IntKind.wrap .i64 (v7+1)) aA (IntKind.wrap .i64 (aI+(rd v5 (0+v7.toNat)).c)) (rd v5 (0+v7.toNat)).a (x9o (decide (aA>0)) (decide ((IntKind.wrap .i64 (aI+(rd v5 (0+v7.toNat)).c))>0))) aC)) else .stuck)) else (bif (decide ((aC.length:Int)>0)) then (bif ((decide (0≤(IntKind.wrap .i64 ((aC.length:Int) - 1))∧(IntKind.wrap .i64 ((aC.length:Int) - 1))<(aC.length:Int)))&&true) then (bif (decide ((0+(Int.toNat (IntKind.wrap .i64 ((aC.length:Int) - 1))))<aC.length)) then (bif ((rd aC (0+(Int.toNat (IntKind.wrap .i64 ((aC.length:Int) - 1))))).b == aM) then (bif (decide ((rd v5 (0+v7.toNat)).b =Int.ofNat 0)) then (.to (.h2 v5 v6 (IntKind.wrap .i64 (v7+1)) (IntKind.wrap .i64 (aA+(rd v5 (0+v7.toNat)).c)) aI (rd v5 (0+v7.toNat)).a (x9o (decide ((IntKind.wrap .i64 (aA+(rd v5 (0+v7.toNat)).c))>0)) (decide (aI>0))) (aC.set (0+(Int.toNat (IntKind.wrap .i64 ((aC.length:Int) - 1)))) (R2.mk (rd aC (0+(Int.toNat (IntKind.wrap .i64 ((aC.length:Int) - 1))))).a (rd v5 (0+v7.toNat)).a)))) else (bif (decide ((rd v5 (0+v7.toNat)).b =Int.ofNat 1)) then (.to (.h2 v5 v6 (IntKind.wrap .i64 (v7+1)) aA (IntKind.wrap .i64 (aI+(rd v5 (0+v7.toNat)).c)) (rd v5 (0+v7.toNat)).a (x9o (decide (aA>0)) (decide ((IntKind.wrap .i64 (aI+(rd v5 (0+v7.toNat)).c))>0))) (aC.set (0+(Int.toNat (IntKind.wrap .i64 ((aC.length:Int) - 1)))) (R2.mk (rd aC (0+(Int.toNat (IntKind.wrap .i64 ((aC.length:Int) - 1))))).a (rd v5 (0+v7.toNat)).a)))) else .stuck)) else (bif (Nat.beq 2 2&&((decide (0+aC.length=aC.length))&&decide ((aC.length+1+1)*(16+1)≤Ur))) then (bif (decide ((rd v5 (0+v7.toNat)).b =Int.ofNat 0)) then (.to (.h2 v5 v6 (IntKind.wrap .i64 (v7+1)) (IntKind.wrap .i64 (aA+(rd v5 (0+v7.toNat)).c)) aI (rd v5 (0+v7.toNat)).a (x9o (decide ((IntKind.wrap .i64 (aA+(rd v5 (0+v7.toNat)).c))>0)) (decide (aI>0))) (aC++[(R2.mk aM (rd v5 (0+v7.toNat)).a)]))) else (bif (decide ((rd v5 (0+v7.toNat)).b =Int.ofNat 1)) then (.to (.h2 v5 v6 (IntKind.wrap .i64 (v7+1)) aA (IntKind.wrap .i64 (aI+(rd v5 (0+v7.toNat)).c)) (rd v5 (0+v7.toNat)).a (x9o (decide (aA>0)) (decide ((IntKind.wrap .i64 (aI+(rd v5 (0+v7.toNat)).c))>0))) (aC++[(R2.mk aM (rd v5 (0+v7.toNat)).a)]))) else .stuck)) else .stuck)) else .stuck) else .stuck) else (bif (Nat.beq 2 2&&((decide (0+aC.length=aC.length))&&decide ((aC.length+1+1)*(16+1)≤Ur))) then (bif (decide ((rd v5 (0+v7.toNat)).b =Int.ofNat 0)) then (.to (.h2 v5 v6 (IntKind.wrap .i64 (v7+1)) (IntKind.wrap .i64 (aA+(rd v5 (0+v7.toNat)).c)) aI (rd v5 (0+v7.toNat)).a (x9o (decide ((IntKind.wrap .i64 (aA+(rd v5 (0+v7.toNat)).c))>0)) (decide (aI>0))) (aC++[(R2.mk aM (rd v5 (0+v7.toNat)).a)]))) else (bif (decide ((rd v5 (0+v7.toNat)).b =Int.ofNat 1)) then (.to (.h2 v5 v6 (IntKind.wrap .i64 (v7+1)) aA (IntKind.wrap .i64 (aI+(rd v5 (0+v7.toNat)).c)) (rd v5 (0+v7.toNat)).a (x9o (decide (aA>0)) (decide ((IntKind.wrap .i64 (aI+(rd v5 (0+v7.toNat)).c))>0))) (aC++[(R2.mk aM (rd v5 (0+v7.toNat)).a)]))) else .stuck)) else .stuck)))) else .stuck) else .stuck) else (.ret [(.dat aC.length (Zz aC)),(.int .i64 0)]))
def y0d (l0:List R2):Xn spmS:=(bif (decide ((l0.length:Int)>400)) then (.ret [.nils,(.int .i64 4)]) else (.to (.h0 0)))
theorem w0q (l0:List R2): ∀s,Xk prog (Zy prog 157) (spmC l0) (spmC l0 s) (Vr l0 s)
 | .h0 v8=>(lb (fun k0=>(lo fun aG=>(lb (fun k1=>(lb (fun k2=>(lb (fun k3=>(lb (fun k4=>(lr 11 157 [1,1,0,1,0,0] 1 15 [(2,.nils),(3,(ii 8))] (sl Kt 79 [] ⟨[],[],[some [2,3]],[]⟩ ⟨[],[],[]⟩ (trs 9 []) (tt k4 (tt k3 (tt k2 (tt k1 (ww aG (tt k0 nn))))))))) (fun k4=>(sl Kt 154 [(246,3,Zz ([]:List R3))] ⟨[8,2,3,4,5,6,7,9],[],w4p,w4q⟩ ⟨[(3,.grow 7 3)],[],[]⟩ (trs 8 (bl 2 2)) (pp (fl ([]:List R3) nn) (tt k4 (tt k3 (tt k2 (tt k1 (ww aG (tt k0 nn))))))))))) (fun k3=>(sl Kt 69 [] ⟨[],[],spmN0,spmM0⟩ ⟨[],[],[]⟩ (trs 7 [false]) (tt k3 (tt k2 (tt k1 (ww aG (tt k0 nn))))))))) (fun k2=>(lb (fun k3=>(lr 11 157 [1,1,0,1,0,0] 1 15 [(2,.nils),(3,(ii 8))] (sl Kt 79 [] ⟨[],[],[some [2,3]],[]⟩ ⟨[],[],[]⟩ (trs 4 (bl 5 24)) (tt k3 (tt k2 (tt k1 (ww aG (tt k0 nn)))))))) (fun k3=>(sl Kt 154 [(246,3,Zz ([]:List R3))] ⟨[8,2,3,4,5,6,7,9],[],w4p,w4q⟩ ⟨[(3,.grow 7 3)],[],[]⟩ (trs 4 (bl 6 40)) (pp (fl ([]:List R3) nn) (tt k3 (tt k2 (tt k1 (ww aG (tt k0 nn)))))))))))) (fun k1=>(lb (fun k2=>(lr 11 157 [1,1,0,1,0,0] 1 15 [(2,.nils),(3,(ii 8))] (sl Kt 79 [] ⟨[],[],[some [2,3]],[]⟩ ⟨[],[],[]⟩ (bl 9 385) (tt k2 (tt k1 (ww aG (tt k0 nn))))))) (fun k2=>(sl Kt 154 [(246,3,Zz ([]:List R3))] ⟨[8,2,3,4,5,6,7,9],[],w4p,w4q⟩ ⟨[(3,.grow 7 3)],[],[]⟩ (bl 10 641) (pp (fl ([]:List R3) nn) (tt k2 (tt k1 (ww aG (tt k0 nn)))))))))))) (fun k0=>(sl Kt 98 [(246,3,Zz ([]:List R3))] ⟨[6,0,1,2,3,4,5,7],[],w4p,w4q⟩ ⟨[(3,.grow 7 3)],[],[]⟩ (bl 3 4) (pp (fl ([]:List R3) nn) (tt k0 nn)))))
 | .h1 v3 v17=>(lb (fun k0=>(lo fun o0=>(lo fun o1=>(sl Kt 36 [] ⟨[0,1,2,3,4,5,6,10],[],w4p,w4q⟩ ⟨[(3,.len (y5h v3 l0 v17).length)],(kpB 7 [.rowed 3 (y5h v3 l0 v17).length (Zz (y5h v3 l0 v17))]),[]⟩ [true] (pp (xL (v3.length+2) (y5h v3 l0 v17).length) (pp (xL (v3.length+2) (y5h v3 l0 v17).length) (pp (xS (v3.length+2) (Zf (Zz v3) 0 v3.length 3 [(ii (rd l0 (tn v17)).a),(ii 0),(ii 1),(ii (rd l0 (tn v17)).b),(ii 0),(ii (-1))]) (Zz (y5h v3 l0 v17))) (pp (pp (xF (Zf (Zz v3) 0 v3.length 3 [(ii (rd l0 (tn v17)).a),(ii 0),(ii 1),(ii (rd l0 (tn v17)).b),(ii 0),(ii (-1))])) nn) (ww o1 (ww o0 (tt k0 nn))))))))))) (fun k0=>(lo fun o0=>(lo fun o1=>(lo fun o2=>(sl Kt 92 [(183,2,Zz ([]:List R2))] ⟨[9,1,2,4,5,6,3,7,10],[],y1t,y1u⟩ ⟨[(5,.len (Qi (cvT v3)).length)],(kpB 6 [.cells [.grow 8 2],.rowed 3 (Qi (cvT v3)).length (Zz (Qi (cvT v3))),.keep]),[]⟩ (bl 4 2) (pp (xL v3.length (Qi (cvT v3)).length (by first | exact z6l _ | exact Wi rfl)) (pp (xL v3.length (Qi (cvT v3)).length (by first | exact z6l _ | exact Wi rfl)) (pp (xS v3.length (Zz (Qi (cvT v3))) (Zz (Qi (cvT v3)))) (pp (fl (Qi (cvT v3)) (fl ([]:List R2) nn)) (pp (pp (xG (Nat.beq 3 3)) (pp (xG (Nat.beq 3 3)) (pp (xG (Nat.beq 0 0)) (pp (pp (xG (decide (v3.length=v3.length))) (pp (xr v3) (xG (decide (v3.length<4611686018427387904))))) (xG (z9r (cvT v3))))))) (tt k0 nn))))))))))))
 | .h2 v5 v6 v7 aA aI aM aF aC=>(lb (fun k0=>(lo fun aG=>(lo fun bA=>(lb (fun k1=>(lb (fun k2=>(sl Kt 62 [] ⟨(List.range 9),[],y1t,y1u⟩ ⟨[],[],[]⟩ (trs 5 (bl 3 0)) (pp (fl v5 (fl aC nn)) (ww k2 (tt k1 (ww bA (ww aG (tt k0 nn)))))))) (fun k2=>(lb (fun k3=>(sl Kt 62 [] ⟨(List.range 9),[],y1t,y1u⟩ ⟨[],[],[]⟩ (trs 6 (bl 4 2)) (pp (fl v5 (fl aC nn)) (ww k3 (tt k1 (ww bA (ww aG (tt k0 nn)))))))) (fun k3=>trivial))))) (fun k1=>(lb (fun k2=>(lb (fun k3=>(sl Kt 62 [] ⟨(List.range 9),[],y1t,y1u⟩ ⟨[],[],[]⟩ (bl 8 17) (pp (fl v5 (fl aC nn)) (ww k3 (tt k2 (tt k1 (ww bA (ww aG (tt k0 nn))))))))) (fun k3=>(lb (fun k4=>(sl Kt 62 [] ⟨(List.range 9),[],y1t,y1u⟩ ⟨[],[],[]⟩ (bl 10 177) (pp (fl v5 (fl aC nn)) (ww k4 (tt k2 (tt k1 (ww bA (ww aG (tt k0 nn))))))))) (fun k4=>trivial))))) (fun k2=>(lb (fun k3=>(lo fun bS=>(lo fun cN=>(lb (fun k4=>(lb (fun k5=>(sl Kt 81 [] ⟨(List.range 9),[],y1t,y1u⟩ ⟨[],(kpB 6 [.cells [.len (aC.set (0+(tn (wr ((aC.length:Int) - 1)))) (R2.mk (rd aC (0+(tn (wr ((aC.length:Int) - 1))))).a (rd v5 (0+(tn v7))).a)).length],.keep,.rowed 2 (aC.set (0+(tn (wr ((aC.length:Int) - 1)))) (R2.mk (rd aC (0+(tn (wr ((aC.length:Int) - 1))))).a (rd v5 (0+(tn v7))).a)).length (Zz (aC.set (0+(tn (wr ((aC.length:Int) - 1)))) (R2.mk (rd aC (0+(tn (wr ((aC.length:Int) - 1))))).a (rd v5 (0+(tn v7))).a)))]),[]⟩ (bl 17 16353) (pp (xL aC.length (aC.set (0+(tn (wr ((aC.length:Int) - 1)))) (R2.mk (rd aC (0+(tn (wr ((aC.length:Int) - 1))))).a (rd v5 (0+(tn v7))).a)).length) (pp (xL aC.length (aC.set (0+(tn (wr ((aC.length:Int) - 1)))) (R2.mk (rd aC (0+(tn (wr ((aC.length:Int) - 1))))).a (rd v5 (0+(tn v7))).a)).length) (pp (xS aC.length (Xc (Zz aC) (0+(tn (wr ((aC.length:Int) - 1)))) 1 [(ii (rd v5 (0+(tn v7))).a)]) (Zz (aC.set (0+(tn (wr ((aC.length:Int) - 1)))) (R2.mk (rd aC (0+(tn (wr ((aC.length:Int) - 1))))).a (rd v5 (0+(tn v7))).a)))) (pp (fl v5 (pp (xF (Xc (Zz aC) (0+(tn (wr ((aC.length:Int) - 1)))) 1 [(ii (rd v5 (0+(tn v7))).a)])) nn)) (ww k5 (ww cN (ww bS (tt k4 (ww cN (ww bS (tt k3 (tt k2 (tt k1 (ww bA (ww aG (tt k0 nn)))))))))))))))))) (fun k5=>(lb (fun k6=>(sl Kt 81 [] ⟨(List.range 9),[],y1t,y1u⟩ ⟨[],(kpB 6 [.cells [.len (aC.set (0+(tn (wr ((aC.length:Int) - 1)))) (R2.mk (rd aC (0+(tn (wr ((aC.length:Int) - 1))))).a (rd v5 (0+(tn v7))).a)).length],.keep,.rowed 2 (aC.set (0+(tn (wr ((aC.length:Int) - 1)))) (R2.mk (rd aC (0+(tn (wr ((aC.length:Int) - 1))))).a (rd v5 (0+(tn v7))).a)).length (Zz (aC.set (0+(tn (wr ((aC.length:Int) - 1)))) (R2.mk (rd aC (0+(tn (wr ((aC.length:Int) - 1))))).a (rd v5 (0+(tn v7))).a)))]),[]⟩ (bl 19 98273) (pp (xL aC.length (aC.set (0+(tn (wr ((aC.length:Int) - 1)))) (R2.mk (rd aC (0+(tn (wr ((aC.length:Int) - 1))))).a (rd v5 (0+(tn v7))).a)).length) (pp (xL aC.length (aC.set (0+(tn (wr ((aC.length:Int) - 1)))) (R2.mk (rd aC (0+(tn (wr ((aC.length:Int) - 1))))).a (rd v5 (0+(tn v7))).a)).length) (pp (xS aC.length (Xc (Zz aC) (0+(tn (wr ((aC.length:Int) - 1)))) 1 [(ii (rd v5 (0+(tn v7))).a)]) (Zz (aC.set (0+(tn (wr ((aC.length:Int) - 1)))) (R2.mk (rd aC (0+(tn (wr ((aC.length:Int) - 1))))).a (rd v5 (0+(tn v7))).a)))) (pp (fl v5 (pp (xF (Xc (Zz aC) (0+(tn (wr ((aC.length:Int) - 1)))) 1 [(ii (rd v5 (0+(tn v7))).a)])) nn)) (ww k6 (ww cN (ww bS (tt k4 (ww cN (ww bS (tt k3 (tt k2 (tt k1 (ww bA (ww aG (tt k0 nn)))))))))))))))))) (fun k6=>trivial))))) (fun k4=>(lo fun cM=>(lb (fun k5=>(sl Kt 81 [] ⟨[0,1,2,3,4,5,6,7,12],[],y1t,y1u⟩ ⟨[],(kpB 6 [.cells [.len (Vf aC aM v5 v7).length],.keep,.rowed 2 (Vf aC aM v5 v7).length (Zz (Vf aC aM v5 v7))]),[]⟩ (bl 17 8161) (pp (xL (aC.length+1) (Vf aC aM v5 v7).length) (pp (xL (aC.length+1) (Vf aC aM v5 v7).length) (pp (xS (aC.length+1) (z8y aC aM v5 v7) (Zz (Vf aC aM v5 v7))) (pp (fl v5 (pp (xF (z8y aC aM v5 v7)) nn)) (ww k5 (ww cM (tt k4 (ww cN (ww bS (tt k3 (tt k2 (tt k1 (ww bA (ww aG (tt k0 nn))))))))))))))))) (fun k5=>(lb (fun k6=>(sl Kt 81 [] ⟨[0,1,2,3,4,5,6,7,12],[],y1t,y1u⟩ ⟨[],(kpB 6 [.cells [.len (Vf aC aM v5 v7).length],.keep,.rowed 2 (Vf aC aM v5 v7).length (Zz (Vf aC aM v5 v7))]),[]⟩ (bl 19 90081) (pp (xL (aC.length+1) (Vf aC aM v5 v7).length) (pp (xL (aC.length+1) (Vf aC aM v5 v7).length) (pp (xS (aC.length+1) (z8y aC aM v5 v7) (Zz (Vf aC aM v5 v7))) (pp (fl v5 (pp (xF (z8y aC aM v5 v7)) nn)) (ww k6 (ww cM (tt k4 (ww cN (ww bS (tt k3 (tt k2 (tt k1 (ww bA (ww aG (tt k0 nn))))))))))))))))) (fun k6=>trivial)))))))))) (fun k3=>(lo fun bS=>(lb (fun k4=>(sl Kt 81 [] ⟨[0,1,2,3,4,5,6,7,12],[],y1t,y1u⟩ ⟨[],(kpB 6 [.cells [.len (Vf aC aM v5 v7).length],.keep,.rowed 2 (Vf aC aM v5 v7).length (Zz (Vf aC aM v5 v7))]),[]⟩ (bl 17 1) (pp (xL (aC.length+1) (Vf aC aM v5 v7).length) (pp (xL (aC.length+1) (Vf aC aM v5 v7).length) (pp (xS (aC.length+1) (z8y aC aM v5 v7) (Zz (Vf aC aM v5 v7))) (pp (fl v5 (pp (xF (z8y aC aM v5 v7)) nn)) (ww k4 (ww bS (tt k3 (tt k2 (tt k1 (ww bA (ww aG (tt k0 nn)))))))))))))) (fun k4=>(lb (fun k5=>(sl Kt 81 [] ⟨[0,1,2,3,4,5,6,7,12],[],y1t,y1u⟩ ⟨[],(kpB 6 [.cells [.len (Vf aC aM v5 v7).length],.keep,.rowed 2 (Vf aC aM v5 v7).length (Zz (Vf aC aM v5 v7))]),[]⟩ (bl 19 81921) (pp (xL (aC.length+1) (Vf aC aM v5 v7).length) (pp (xL (aC.length+1) (Vf aC aM v5 v7).length) (pp (xS (aC.length+1) (z8y aC aM v5 v7) (Zz (Vf aC aM v5 v7))) (pp (fl v5 (pp (xF (z8y aC aM v5 v7)) nn)) (ww k5 (ww bS (tt k3 (tt k2 (tt k1 (ww bA (ww aG (tt k0 nn)))))))))))))) (fun k5=>trivial)))))))))))))) (fun k0=>(lr 11 3 [1,1,1,1,1,1,1,0] 1 15 [(2,(.dat aC.length (Zz aC))),(3,(ii 0))] (sl Kt 19 [] ⟨[],[8],[some [2,3]],[]⟩ ⟨[(2,.frz aC.length aC.length (Zz aC) (Zz aC))],[],[]⟩ [false] (pp (xZ (z5c 2 2 0 aC.length aC.length (Zz aC)) aC.length (Zz aC)) (pp (xL aC.length aC.length) (pp (xS aC.length (Zz aC) (Zz aC)) (pp (fl aC nn) (tt k0 nn)))))))))
theorem x3i (l0:List R2):Xk prog (Zy prog 157) (spmC l0) (Zd prog 157 [(.dat l0.length (Zz l0))] true []) (y0d l0):=(lb (fun k0=>(lr 11 157 [1,0,1,0,0] 1 15 [(2,.nils),(3,(ii 4))] (sl Kt 18 [] ⟨[],[],[some [2,3]],[]⟩ ⟨[],[],[]⟩ [true] (tt k0 nn)))) (fun k0=>(sl Kt 41 [] ⟨[],[],spmN0,spmM0⟩ ⟨[],[],[]⟩ [false] (tt k0 nn))))
theorem v0x (l0:List R2) (n:Nat) (vs:List AVal) (h:Yj (Vr l0) n (y0d l0)=.ret vs):Kz prog (Zy prog 157) (Zd prog 157 [(.dat l0.length (Zz l0))] true []) vs:=by have:=Zo (w0q l0) n _ (x3i l0);rwa [h] at this
end Go.Am
namespace Go.Am
open Go.Proofs
def Qh (s:R2):Bool:=decide (s.a<s.b)&&(decide (s.a≥ -1000000)&&decide (s.b≤1000000))
def Je (l:List R2):List R3:=l.flatMap fun s=>[⟨s.a,0,1⟩,⟨s.b,0,-1⟩]
def Vk (out:List R2) (last:Int) (inn:Bool) (at':Int):List R2:=
 bif !inn then out else bif last == at' then out else
 bif decide (0<out.length)&&((rd out (out.length - 1)).b == last) then out.set (out.length - 1) ⟨(rd out (out.length - 1)).a,at'⟩ else out++[⟨last,at'⟩]
def swF :List R3→Int→Int→Bool→List R2→List R2
 | [],_,_,_,out=>out
 | e::r,o,last,inn,out=>swF r (o+e.c) e.a (decide (o+e.c>0)) (Vk out last inn e.a)
def swV (l:List R2):List R2:=swF (Qi (Je l)) 0 0 false []
def Xg (l:List R2):List R2:=bif decide (400<l.length) then [] else bif l.all Qh then swV l else []
def v5y (l:List R2):Int:=bif decide (400<l.length) then 4 else bif l.all Qh then 0 else 8
def y1s (l:List R2):Bool:=true
def x0e (l:List R2):List AVal:=bif decide (400<l.length) then [.nils,.int .i64 4] else bif l.all Qh then [.dat (swV l).length (Zz (swV l)),.int .i64 0] else [.nils,.int .i64 8]
theorem z3f (l:List R2):(Je l).length =2*l.length:=by
 induction l with
 | nil=>rfl
 | cons r l ih=>show (_::_::Je l).length =_;simp only [List.length_cons,ih];omega
theorem z1u (out:List R2) (last:Int) (inn:Bool) (a:Int):(Vk out last inn a).length ≤out.length+1:=by
 unfold Vk;cases inn <;> simp only [Bool.not_true,Bool.not_false,cond_true,cond_false]
 ·omega
 ·cases (last == a) <;> simp only [cond_true,cond_false]
  ·cases (decide (0<out.length)&&((rd out (out.length - 1)).b == last)) <;> simp
  ·omega
theorem y0c (e:R3) (r:List R3) (o last:Int) (inn:Bool) (out:List R2):swF (e::r) o last inn out=swF r (o+e.c) e.a (decide (o+e.c>0)) (Vk out last inn e.a):=rfl
theorem u2j {a:Int} (k:Nat) (h:a=(k:Int)):decide (a=Int.ofNat k)=true:=decide_eq_true h
section
variable (l:List R2) (hl:l.length≤400)
include hl
theorem v5u (L:List R3) (hL:L.length≤800) (hE: ∀i,i<L.length→(rd L i).b =0∧((rd L i).c =1∨(rd L i).c = -1)): ∀(k i:Nat) (o last:Int) (inn:Bool) (out:List R2),i+k=L.length→ -(i:Int)≤o→o≤i→out.length≤i→
  ∃n,Yj (Vr l) n (.to (.h2 L (L.length:Int) (i:Int) o 0 last inn out))=.ret [.dat (swF (L.drop i) o last inn out).length (Zz (swF (L.drop i) o last inn out)),.int .i64 0]
 | 0,i,o,last,inn,out,h,ho1,ho2,hout=>by have _uhl:=hl;refine ⟨1,?_⟩;rw [Zv,List.drop_eq_nil_of_le (by omega)];simp (disch:=omega) only [Vr,Yw,cond_false,Zm,swF]
 | k +1,i,o,last,inn,out,h,ho1,ho2,hout=>by
  obtain ⟨hb,hc⟩:=hE i (by omega);have hcl:=z1u out last inn (rd L i).a;obtain ⟨n,hn⟩:=v5u L hL hE k (i+1) (o+(rd L i).c) (rd L i).a (decide (o+(rd L i).c >0)) (Vk out last inn (rd L i).a) (by omega) (by rcases hc with hc | hc <;> omega) (by rcases hc with hc | hc <;> omega) (by omega);refine ⟨n+1,?_⟩;rw [Yg (show i<L.length by omega),Zv];have hf: ∀b,x9o b (decide ((0:Int)>0))=b:=fun b=>rfl;have hw:IntKind.wrap .i64 (o+(rd L i).c)=o+(rd L i).c :=Zq (by rcases hc with hc | hc <;> omega);rw [y0c];have hf': ∀b,x9o b false=b:=fun b=>rfl;have hz:=u2j 0 hb;unfold Vk at hn ⊢;cases inn with
  | false=>simp only [Bool.not_false,cond_true] at hn ⊢;simp (disch:=omega) only [Vr,Bool.not_false,hz,hw,hf,hf',Zs,Zt,Yv,Zq,Zx,Zj,Nat.zero_add,Bool.and_true,cond_true];exact hn
  | true=>
   simp only [Bool.not_true,cond_false] at hn ⊢;rcases Yh (last == (rd L i).a) with q | q
   ·rw [q] at hn ⊢;simp only [cond_true] at hn ⊢;simp (disch:=omega) only [Vr,Bool.not_true,q,hz,hw,hf,hf',Zs,Zt,Yv,Zq,Zx,Zj,Nat.zero_add,Bool.and_true,cond_true,cond_false];exact hn
   ·rw [q] at hn ⊢;simp only [cond_false] at hn ⊢;by_cases h0:0<out.length
    ·rw [decide_eq_true h0,Bool.true_and] at hn ⊢;rcases Yh ((rd out (out.length - 1)).b == last) with q2 | q2
     ·rw [q2] at hn ⊢;simp only [cond_true] at hn ⊢;simp (disch:=omega) only [Vr,Bool.not_true,q,q2,hz,hw,hf,hf',Zs,Yf,Zt,Yv,Zq,Zx,Zj,Ze,Nat.zero_add,Bool.and_true,cond_true,cond_false];exact hn
     ·rw [q2] at hn ⊢;simp only [cond_false] at hn ⊢;simp (disch:=omega) only [Vr,Bool.not_true,q,q2,hz,hw,hf,hf',Zs,Yf,Zt,Yv,Yk,Zh,Yp,decide_true,Zq,Zx,Zj,Ze,Nat.zero_add,Bool.and_true,Bool.true_and,cond_true,cond_false];exact hn
    ·rw [decide_eq_false h0,Bool.false_and] at hn ⊢;simp only [cond_false] at hn ⊢;simp (disch:=omega) only [Vr,Bool.not_true,q,hz,hw,hf,hf',Zs,Xu,Zt,Yv,Yk,Zh,Yp,decide_true,Zq,Zx,Zj,Nat.zero_add,Bool.and_true,Bool.true_and,cond_true,cond_false];exact hn
theorem w9d (h:l.all Qh=true): ∀e∈Je l,bnd3 e=true∧e.b=0∧(e.c=1∨e.c= -1):=by
 have _uhl:=hl;intro e he;obtain ⟨s,hs,h1⟩:=List.mem_flatMap.1 he;have hv:=List.all_eq_true.1 h s hs;simp only [Qh,Bool.and_eq_true,decide_eq_true_eq] at hv;simp only [List.mem_cons,List.not_mem_nil,or_false] at h1;rcases h1 with rfl | rfl
 ·exact ⟨decide_eq_true (by simp only;omega),rfl,.inl rfl⟩
 ·exact ⟨decide_eq_true (by simp only;omega),rfl,.inr rfl⟩
theorem v5v (hv:l.all Qh=true): ∀(k i:Nat) (acc:List R3),i+k=l.length→acc=Je (l.take i)→ ∃n,Yj (Vr l) n (.to (.h1 acc (i:Int)))=.ret [.dat (swV l).length (Zz (swV l)),.int .i64 0]
 | 0,i,acc,h,ha=>by
  have e:acc=Je l:=by rw [ha,List.take_of_length_le (by omega)]
  subst e;have hle:=z3f l;have dX:=w9d l hl hv;have hb:z9r (Je l)=true:=List.all_eq_true.2 fun e he=>(dX e he).1;obtain ⟨hp,_⟩:=Kw (Je l) hb;have hpl:=hp.length_eq;obtain ⟨n,hn⟩:=v5u l hl (Qi (Je l)) (by omega) (fun i hi=>by
   rw [Xj hi];exact (dX _ (hp.mem_iff.1 (List.getElem_mem hi))).2) (Qi (Je l)).length 0 0 0 false [] (Nat.zero_add _) (by omega) (by omega) (Nat.zero_le _)
  refine ⟨n+1,?_⟩;rw [Zv];simp (disch:=omega) only [Vr,Za,Zk,hb,Yw,Yv,Yk,decide_true,cond_true,cond_false];rw [←hpl];simp only [z5j,List.drop_zero] at hn;exact hn
 | k+1,i,acc,h,ha=>by
  have hle:=z3f (l.take i);have fG:acc.length≤2*i:=by rw [ha,hle];simp;omega
  obtain ⟨n,hn⟩:=v5v hv k (i+1) (acc++Je [rd l i]) (by omega) (by
   rw [ha,List.take_add_one];have:l[i]? =some (rd l i):=by rw [Xj (show i<l.length by omega)];exact List.getElem?_eq_getElem _
   rw [this];simp [Je])
  refine ⟨n+1,?_⟩;rw [Zv];simp (disch:=omega) only [Vr,Zs,Zt,Ya,Yk,Zh,Yp,decide_true,Zq,Zx,Zj,Nat.zero_add,Bool.and_true,Bool.true_and,cond_true];exact hn
theorem v5w : ∀(k i:Nat),i+k=l.length→(∀s∈l.take i,Qh s=true)→ ∃n,Yj (Vr l) n (.to (.h0 (i:Int)))=.ret (bif l.all Qh then [.dat (swV l).length (Zz (swV l)),.int .i64 0] else [.nils,.int .i64 8])
 | 0,i,h,ht=>by have hv:l.all Qh=true:=List.all_eq_true.2 fun s hs=>ht s (by rw [List.take_of_length_le (by omega)];exact hs);obtain ⟨n,hn⟩:=v5v l hl hv l.length 0 [] (Nat.zero_add _) rfl;refine ⟨n+1,?_⟩;rw [Zv,hv,cond_true];simp (disch:=omega) only [Vr,Yw,cond_false];exact hn
 | k+1,i,h,ht=>by
  have hi:i<l.length:=by omega
  rcases Yh (Qh (rd l i)) with q | q
  ·obtain ⟨n,hn⟩:=v5w k (i+1) (by omega) (fun s hs=>by
    rw [List.take_add_one] at hs;have e:l[i]? =some (rd l i):=by rw [Xj hi];exact List.getElem?_eq_getElem _
    rw [e] at hs;simp only [Option.toList_some,List.mem_append,List.mem_singleton] at hs;rcases hs with hs | rfl
    ·exact ht s hs
    ·exact q)
   refine ⟨n+1,?_⟩;rw [Zv];simp only [Qh,Bool.and_eq_true,decide_eq_true_eq] at q;simp (disch:=omega) only [Vr,Zs,Xh,dge_t,Zt,Zq,Zx,Zj,Bool.not_true,Bool.and_true,cond_true,cond_false];exact hn
  ·have hv:l.all Qh=false:=Bool.eq_false_iff.2 fun e=>by have:=List.all_eq_true.1 e (rd l i) (by rw [Xj hi];exact List.getElem_mem hi);rw [this] at q;cases q
   refine ⟨1,?_⟩;rw [Zv,hv,cond_false];unfold Qh at q;rcases Yh (decide ((rd l i).a <(rd l i).b)) with q1 | q1 <;> rcases Yh (decide ((rd l i).a ≥ -1000000)) with q2 | q2 <;> rcases Yh (decide ((rd l i).b ≤1000000)) with q3 | q3 <;>
    rw [q1,q2,q3] at q <;> first
    | (exfalso;revert q;decide)
    | simp (disch:=omega) only [Vr,q1,q2,q3,Zs,dge_t,Zt,Zq,Zx,Zj,Bool.not_true,Bool.not_false,Bool.and_true,cond_true,cond_false,Zm]
end
theorem u0f (l:List R2): ∃n,Yj (Vr l) n (y0d l)=.ret (x0e l):=by
 unfold y0d x0e;by_cases h:400<l.length
 ·refine ⟨0,?_⟩;rw [decide_eq_true h,Yf (show (l.length:Int)>400 by omega)];rfl
 ·obtain ⟨n,hn⟩:=v5w l (by omega) l.length 0 (Nat.zero_add _) (fun s hs=>by simp at hs);refine ⟨n,?_⟩;rw [decide_eq_false h,Xu (show¬(l.length:Int)>400 by omega),cond_false,cond_false];exact hn
end Go.Am
namespace Go.Am
open Go.Proofs.Tryz
open Go.Proofs
def fSpm :List AVal→Option (AVal×Bool)
 | [a1]=>match asL R2 a1 with
  | some (L1,g1,n1)=>some (.tup [.dat (Xg L1).length (Zz (Xg L1)),.int .i64 (v5y L1)],isT R2 n1 g1&&y1s L1)
  | _=>none
 | _=>none
theorem u4e {S:Specs} (hS:Zu prog S):Zu prog (S.with x1e fSpm):=by
 refine w8t hS (by kernel_rfl) fun args v h=> ?_;unfold fSpm at h;split at h
 ·rename_i a1;split at h
  ·rename_i L1 g1 n1 e1;simp only [Option.some.injEq,Prod.mk.injEq,Bool.and_eq_true] at h;obtain ⟨rfl,ho1,hw⟩:=h;obtain ⟨N,hN⟩:=u0f L1;refine ⟨_,x0e L1,(.cons (asL_le e1 ho1) .nil),?_,v0x L1 N _ hN,3,?_⟩
   ·unfold Xg v5y x0e;cases decide (400<L1.length) <;> simp only [cond_true,cond_false]
    ·cases L1.all Qh <;> simp only [cond_true,cond_false]
     ·exact fun ρ u hu=>z4g (.cons (z4w R2) (RLe.refl _)) ρ u hu
     ·exact fun ρ u hu=>hu
    ·exact fun ρ u hu=>z4g (.cons (z4w R2) (RLe.refl _)) ρ u hu
   ·unfold x0e;cases decide (400<L1.length) <;> simp only [cond_true,cond_false]
    ·cases L1.all Qh <;> rfl
    ·rfl
  ·cases h
 ·cases h
def T6 :Specs:=T5.with x1e fSpm
theorem Jd :Zu prog T6:=u4e Kt
end Go.Am
namespace Go.Am
open Go.Proofs Go.Sort Go.Shelf Go.RowKit Go.Lib
theorem y3v {γ:Type} (a b:Bool) (x y:γ):(bif a&&b then x else y)=bif a then (bif b then x else y) else y:=by cases a <;> rfl
theorem z5k {γ:Type} (a:Bool) (x y:γ):(bif !a then x else y)=bif a then y else x:=by cases a <;> rfl
structure Dim (α β:Type) where
 lo:α→Int
 hi:α→Int
 pr:α→β
 put:Int→Int→β→α
 ext:Int→α→α
 mak:List β→List β
 same:List β→List β→Bool
structure Sw (α β:Type) where
 out:List α
 last:List β
 first:Nat
 fin:Int
def Ue (zs:List Int):List Int:=compact (Yi zs)
theorem z8j (zs:List Int):w3x (Yi zs)=(Ue zs).length :=rfl
theorem Xr (zs:List Int):(Yi zs).length =zs.length:=List.length_mergeSort zs
theorem z1s (zs:List Int):(Ue zs).length ≤zs.length:=by have:=compact_length_le (Yi zs);rw [Xr] at this;exact this
theorem z2r (zs:List Int) (i:Nat) (h:i<(Ue zs).length):rd (Xt (Yi zs)) i=rd (Ue zs) i:=by change i<(compact (Yi zs)).length at h;show rd (compact (Yi zs)++_) i=rd (compact (Yi zs)) i;rw [Xj (by rw [List.length_append];exact Nat.lt_add_right _ h),Xj h,List.getElem_append_left h]
theorem Qy (zs:List Int):Zb zs.length (cOf (Zz (Yi zs)))=Yi zs:=by have:=Wq (Yi zs);rw [Xr] at this;exact this
namespace Dim
variable {α β:Type} (D:Dim α β) (l:List α)
def ends :List Int:=l.flatMap fun r=>[D.lo r,D.hi r]
def cuts :List Int:=Ue (D.ends l)
def inn (x:Int):List β:=(l.filter fun r=>decide (D.lo r≤x)&&decide (x<D.hi r)).map D.pr
def sec (x:Int):List β:=D.mak (D.inn l x)
def grow (out:List α) (k:Nat) (x:Int):List α:=out.take k++(out.drop k).map (D.ext x)
def one (x x':Int) (s:Sw α β):Sw α β:=
 bif decide (0<(D.sec l x).length)&&((s.fin == x)&&D.same s.last (D.sec l x)) then ⟨D.grow s.out s.first x',s.last,s.first,x'⟩
 else ⟨s.out++(D.sec l x).map (D.put x x'),D.sec l x,s.out.length,x'⟩
def go :Nat→Nat→Sw α β→Sw α β
 | 0,_,s=>s
 | k+1,i,s=>go k (i+1) (D.one l (rd (D.cuts l) i) (rd (D.cuts l) (i+1)) s)
def out :List α:=(D.go l ((D.cuts l).length - 1) 0 ⟨[],[],0,0⟩).out
theorem ends_length :(D.ends l).length =2*l.length:=by
 induction l with
 | nil=>rfl
 | cons r l ih=>show (_::_::D.ends l).length =_;simp only [List.length_cons,ih];omega
theorem cuts_length :(D.cuts l).length ≤2*l.length:=by have:=z1s (D.ends l);rw [D.ends_length] at this;exact this
theorem ends_append (m:List α):D.ends (l++m)=D.ends l++D.ends m:=by simp [ends]
theorem inn_append (m:List α) (x:Int):D.inn (l++m) x=D.inn l x++D.inn m x:=by simp [inn]
theorem inn_length (x:Int):(D.inn l x).length ≤l.length:=by simpa [inn] using List.length_filter_le _ l
theorem inn_t (r:α) (x:Int) (h1:D.lo r≤x) (h2:x<D.hi r):D.inn [r] x=[D.pr r]:=by simp [inn,h1,h2]
theorem inn_f1 (r:α) (x:Int) (h1: ¬D.lo r≤x):D.inn [r] x=[]:=by simp [inn,h1]
theorem inn_f2 (r:α) (x:Int) (h1: ¬x<D.hi r):D.inn [r] x=[]:=by simp [inn,h1]
theorem grow_nil (out:List α) (k:Nat) (x:Int) (h:out.length≤k):D.grow out k x=out:=by unfold grow;rw [List.drop_eq_nil_of_le h,List.map_nil,List.append_nil,List.take_of_length_le h]
theorem grow_length (out:List α) (k:Nat) (x:Int):(D.grow out k x).length =out.length:=by unfold grow;simp;omega
theorem grow_set [Yr α] (out:List α) (j:Nat) (x:Int) (h:j<out.length):D.grow (out.set j (D.ext x (rd out j))) (j+1) x=D.grow out j x:=by
 unfold grow;rw [Yg h,List.map_cons];have e1:(out.set j (D.ext x (rd out j))).take (j+1)=out.take j++[D.ext x (rd out j)]:=by
  apply List.ext_getElem
  ·simp;omega
  ·intro n h1 h2;simp only [List.getElem_take,List.getElem_set];by_cases e:j=n
   ·subst e;rw [if_pos rfl,List.getElem_append_right (by simp only [List.length_take];omega)];simp
   ·rw [if_neg e,List.getElem_append_left (by simp at h1 ⊢;omega),List.getElem_take]
 have e2:(out.set j (D.ext x (rd out j))).drop (j+1)=out.drop (j+1):=by rw [List.drop_set];rw [if_pos (by omega)]
 rw [e1,e2,List.append_assoc];rfl
theorem one_length (x x':Int) (s:Sw α β):(D.one l x x' s).out.length ≤s.out.length+(D.sec l x).length :=by unfold one;cases (decide (0<(D.sec l x).length)&&((s.fin == x)&&D.same s.last (D.sec l x))) <;> simp [grow_length]
end Dim
end Go.Am
namespace Go.Am
open Go.Proofs.Tryz
open Go.Proofs
inductive vl4S where
def vl4C (aT:Int) (aU:Int) (aV:Int) (bP:Int):vl4S→Cfg
 :=nofun
def x3b (aT:Int) (aU:Int) (aV:Int) (bP:Int):vl4S→Xn vl4S
 :=nofun
def y0b (aT:Int) (aU:Int) (aV:Int) (bP:Int):Xn vl4S:=(bif (decide (aT<aV)) then (bif (decide (aU<bP)) then (bif (decide (aT≥(-1000000))) then (bif (decide (aT≤1000000)) then (bif (decide (aV≥(-1000000))) then (bif (decide (aV≤1000000)) then (bif (decide (aU≥(-1000000))) then (bif (decide (aU≤1000000)) then (bif (decide (bP≥(-1000000))) then (.ret [(.bool (decide (bP≤1000000)))]) else (.ret [(.bool false)])) else (.ret [(.bool false)])) else (.ret [(.bool false)])) else (.ret [(.bool false)])) else (.ret [(.bool false)])) else (.ret [(.bool false)])) else (.ret [(.bool false)])) else (.ret [(.bool false)])) else (.ret [(.bool false)]))
theorem w0g (aT:Int) (aU:Int) (aV:Int) (bP:Int): ∀s,Xk prog (Zy prog 120) (vl4C aT aU aV bP) (vl4C aT aU aV bP s) (x3b aT aU aV bP s)
 :=nofun
theorem x3c (aT:Int) (aU:Int) (aV:Int) (bP:Int):Xk prog (Zy prog 120) (vl4C aT aU aV bP) (Zd prog 120 [(.agg [(.int .i64 aT),(.int .i64 aU),(.int .i64 aV),(.int .i64 bP)])] true []) (y0b aT aU aV bP):=(lb (fun k0=>(lb (fun k1=>(lb (fun k2=>(lb (fun k3=>(lb (fun k4=>(lb (fun k5=>(lb (fun k6=>(lb (fun k7=>(lb (fun k8=>(lr 35 3 [1,1,1,1,1,1,1,0] 1 3 [(2,(.bool (decide (bP≤1000000))))] (sl Jd 101 [] ⟨[],[],[some [2]],[]⟩ ⟨[],[],[]⟩ (trs 25 []) (tt k8 (tt k7 (tt k6 (tt k5 (tt k4 (tt k3 (tt k2 (tt k1 (tt k0 nn)))))))))))) (fun k8=>(lr 35 3 [1,1,1,1,1,1,1,0] 1 3 [(2,(.bool false))] (sl Jd 101 [] ⟨[],[],[some [2]],[]⟩ ⟨[],[],[]⟩ (trs 23 [false,false]) (tt k8 (tt k7 (tt k6 (tt k5 (tt k4 (tt k3 (tt k2 (tt k1 (tt k0 nn)))))))))))))) (fun k7=>(lr 35 3 [1,1,1,1,1,1,1,0] 1 3 [(2,(.bool false))] (sl Jd 86 [] ⟨[],[],[some [2]],[]⟩ ⟨[],[],[]⟩ (trs 20 [false,false,false]) (tt k7 (tt k6 (tt k5 (tt k4 (tt k3 (tt k2 (tt k1 (tt k0 nn))))))))))))) (fun k6=>(lr 35 3 [1,1,1,1,1,1,1,0] 1 3 [(2,(.bool false))] (sl Jd 86 [] ⟨[],[],[some [2]],[]⟩ ⟨[],[],[]⟩ (trs 18 [false,false,false,false,false]) (tt k6 (tt k5 (tt k4 (tt k3 (tt k2 (tt k1 (tt k0 nn)))))))))))) (fun k5=>(lr 35 3 [1,1,1,1,1,1,1,0] 1 3 [(2,(.bool false))] (sl Jd 71 [] ⟨[],[],[some [2]],[]⟩ ⟨[],[],[]⟩ (trs 15 [false,false,false,false,false,false]) (tt k5 (tt k4 (tt k3 (tt k2 (tt k1 (tt k0 nn))))))))))) (fun k4=>(lr 35 3 [1,1,1,1,1,1,1,0] 1 3 [(2,(.bool false))] (sl Jd 71 [] ⟨[],[],[some [2]],[]⟩ ⟨[],[],[]⟩ (trs 13 [false,false,false,false,false,false,false,false]) (tt k4 (tt k3 (tt k2 (tt k1 (tt k0 nn)))))))))) (fun k3=>(lr 35 3 [1,1,1,1,1,1,1,0] 1 3 [(2,(.bool false))] (sl Jd 56 [] ⟨[],[],[some [2]],[]⟩ ⟨[],[],[]⟩ (trs 10 [false,false,false,false,false,false,false,false,false]) (tt k3 (tt k2 (tt k1 (tt k0 nn))))))))) (fun k2=>(lr 35 3 [1,1,1,1,1,1,1,0] 1 3 [(2,(.bool false))] (sl Jd 56 [] ⟨[],[],[some [2]],[]⟩ ⟨[],[],[]⟩ (trs 8 [false,false,false,false,false,false,false,false,false,false,false]) (tt k2 (tt k1 (tt k0 nn)))))))) (fun k1=>(lr 35 3 [1,1,1,1,1,1,1,0] 1 3 [(2,(.bool false))] (sl Jd 41 [] ⟨[],[],[some [2]],[]⟩ ⟨[],[],[]⟩ (trs 5 [false,false,false,false,false,false,false,false,false,false,false,false]) (tt k1 (tt k0 nn))))))) (fun k0=>(lr 35 3 [1,1,1,1,1,1,1,0] 1 3 [(2,(.bool false))] (sl Jd 41 [] ⟨[],[],[some [2]],[]⟩ ⟨[],[],[]⟩ [false,false,false,false,false,false,false,false,false,false,false,false,false,false,false,false,false] (tt k0 nn)))))
theorem v0u (aT:Int) (aU:Int) (aV:Int) (bP:Int) (n:Nat) (vs:List AVal) (h:Yj (x3b aT aU aV bP) n (y0b aT aU aV bP)=.ret vs):Kz prog (Zy prog 120) (Zd prog 120 [(.agg [(.int .i64 aT),(.int .i64 aU),(.int .i64 aV),(.int .i64 bP)])] true []) vs:=by have:=Zo (w0g aT aU aV bP) n _ (x3c aT aU aV bP);rwa [h] at this
inductive madS where
 | h0 (v16:Int) (aA:List Int)
 | h1 (v4:Int) (aN:List R4) (aX:List R2) (bF:Int) (bG:Int) (aS:Nat) (bE:List Int)
 | h2 (v4:Int) (v38:Int) (aN:List R4) (aX:List R2) (bF:Int) (bG:Int) (aS:Nat) (bE:List Int) (aC:Int) (cH:Int) (aL:List R2)
 | h3 (v1:Int) (v2:Int) (v71:List R2) (v72:Int) (v73:Int) (bT:List R2) (aR:Int) (aD:List R4) (bC:List R2) (bD:Int) (aS:Nat) (bE:List Int) (aC:List R2)
 | h4 (v2:Int) (v8:Int) (cJ:Int) (bT:List R2) (aR:Int) (aD:List R4) (bC:List R2) (bD:Int) (bR:Int) (cG:Nat) (cI:List Int) (aL:List R2)
abbrev y6o (aD:List R4) (v8:Int) (v2:Int):=(aD.set (0+(tn v8)) (R4.mk (rd aD (0+(tn v8))).a (rd aD (0+(tn v8))).b v2 (rd aD (0+(tn v8))).d))
abbrev y6n (aA:List Int):=(Xt (Zb aA.length (cOf (Zz (Yi (Zb aA.length (cOf (Zz aA))))))))
def v9c :AFr:=⟨⟨29,0,true⟩,none,(.inRangeFunc 0::(Zc prog 121 [1,1,0,1,0] 1)),none,(Zy prog 15),Yb [(2,.nils),(3,(ii 0)),(4,(.ptr 1 0))]⟩
def v9b :=(y4m [(0,⟨.ready,none,29,Yb [(4,(.ptr 1 0))],[11],(Vx prog 121 [1,1,0,1,0,0]),(Vx prog 121 [1,1,0,1,0,1])⟩)])
abbrev y6m (aL:List R2) (l0:List R4) (v38:Int):=(aL++[(R2.mk (rd l0 (tn v38)).b (rd l0 (tn v38)).d)])
abbrev y6l (aD:List R4) (v1:Int) (v71:List R2) (v73:Int) (v2:Int):=(aD++[(R4.mk v1 (rd v71 (tn v73)).a v2 (rd v71 (tn v73)).b)])
def x1g (l0:List R4):ABlk:=⟨[(.dat l0.length (Zz l0))],99,none⟩
abbrev y6k (aA:List Int) (l0:List R4) (v16:Int):=(aA++[(rd l0 (tn v16)).a,(rd l0 (tn v16)).c])
def madC (l0:List R4):madS→Cfg
 | .h0 v16 aA=>⟨⟨34,0,true⟩,none,(Zc prog 156 [1,1,0,1,0,0,1,1,0,0,1,1,0,0] 0),none,(Zy prog 3),⟨Yb [(1,(.ptr 0 0)),(3,(.ptr 2 0)),(8,(.sl 1 0 1 (.un 1))),(9,(ii 1)),(10,(ii 0)),(14,(.dat l0.length (Zz l0))),(15,(ii (l0.length:Int))),(16,(ii v16))],Ug [⟨[(.sl 1 0 1 (.un 1))],171,none⟩,(x1g l0),⟨[(.sla 4 1 0 aA.length (.un 1))],93,none⟩,⟨[.nils,.nils,(ii 0),(ii 0)],200,none⟩,⟨rows aA.length (Zz aA),3,some ⟨1,aA.length,(Zz aA)⟩⟩] 0,5,[],true⟩,[⟨⟨29,0,true⟩,(Uq prog 121 [1,1,0,0] 2),(Zc prog 121 [1,1,0,0] 1),none,(Zy prog 15),Yb [(2,.nils),(3,(ii 0)),(4,(.ptr 3 0)),(9,(.sl 1 0 1 (.un 1)))]⟩],.leaf⟩
 | .h1 v4 aN aX bF bG aS bE=>⟨⟨76,0,true⟩,none,(Zc prog 182 [1,0,0] 0),none,[],⟨Yb [(0,(.yld 0)),(1,(.ptr 2 0)),(2,(.ptr 4 0)),(4,(ii v4))],z9e [(1,⟨[(.sla 6 4 0 aN.length (.un 4)),(.dat aX.length (Zz aX)),(ii bF),(ii bG)],200,none⟩),(2,⟨[(.sla 3 1 0 aS (.un 1))],93,none⟩),(3,⟨rows bE.length (Zz bE),3,some ⟨1,bE.length,(Zz bE)⟩⟩),(4,⟨[(.sl 5 0 1 (.un 1))],171,none⟩),(5,(x1g l0)),(6,⟨rows aN.length (Zz aN),88,some ⟨4,aN.length,(Zz aN)⟩⟩)],7,[],true⟩,[v9c],v9b⟩
 | .h2 v4 v38 aN aX bF bG aS bE aC cH aL=>⟨⟨76,0,true⟩,none,(Zc prog 182 [1,0,0,1,0,0,1,0,1,0,0,1,1,0,0,1,1,0,0] 0),none,[],⟨Yb [(0,(.yld 0)),(1,(.ptr 2 0)),(2,(.ptr 4 0)),(4,(ii v4)),(5,(.ptr 6 0)),(6,(ii 0)),(29,(.sl 5 0 1 (.un 1))),(30,(ii 1)),(31,(ii 0)),(36,(.dat l0.length (Zz l0))),(37,(ii (l0.length:Int))),(38,(ii v38))],z9e [(1,⟨[(.sla 9 4 0 aN.length (.un 4)),(.dat aX.length (Zz aX)),(ii bF),(ii bG)],200,none⟩),(2,⟨[(.sla 3 1 0 aS (.un 1))],93,none⟩),(3,⟨rows bE.length (Zz bE),3,some ⟨1,bE.length,(Zz bE)⟩⟩),(4,⟨[(.sl 5 0 1 (.un 1))],171,none⟩),(5,(x1g l0)),(6,⟨[(ii aC),(ii cH),(.sl 7 0 1 (.ex 1))],205,none⟩),(7,⟨[(.sla 8 2 0 aL.length (.un 2))],180,none⟩),(8,⟨rows aL.length (Zz aL),183,some ⟨2,aL.length,(Zz aL)⟩⟩),(9,⟨rows aN.length (Zz aN),88,some ⟨4,aN.length,(Zz aN)⟩⟩)],10,[],true⟩,[v9c],v9b⟩
 | .h3 v1 v2 v71 v72 v73 bT aR aD bC bD aS bE aC=>⟨⟨94,0,true⟩,none,(Zc prog 158 [1,1,1,0,0] 0),none,[],⟨Yb [(0,(.ptr 0 0)),(1,(ii v1)),(2,(ii v2)),(71,(.dat v71.length (Zz v71))),(72,(ii v72)),(73,(ii v73))],z9e [(0,⟨[(.sla 7 4 0 aD.length (.un 4)),(.dat bC.length (Zz bC)),(ii bD),(ii v2)],200,none⟩),(2,⟨[(.sla 3 1 0 aS (.un 1))],93,none⟩),(3,⟨rows bE.length (Zz bE),3,some ⟨1,bE.length,(Zz bE)⟩⟩),(4,⟨[(.sl 5 0 1 (.un 1))],171,none⟩),(5,(x1g l0)),(6,⟨[(.dat aC.length (Zz aC))],180,none⟩),(7,⟨rows aD.length (Zz aD),88,some ⟨4,aD.length,(Zz aD)⟩⟩)],8,[],true⟩,[⟨⟨29,0,true⟩,(Uq prog 121 [1,1,0,1,0,1,0,1] 5),(Zc prog 121 [1,1,0,1,0,1,0,1] 1),(some 1),[],Yb [(4,(.ptr 0 0)),(21,(ii v1)),(23,(ii v2)),(24,(.dat bT.length (Zz bT)))]⟩,⟨⟨76,0,true⟩,(Uq prog 182 [1,0,0,1,0,0,1,1,0] 2),(Zc prog 182 [1,0,0,1,0,0,1,1,0] 1),none,[],Yb [(0,(.yld 1)),(1,(.ptr 2 0)),(2,(.ptr 4 0)),(4,(ii aR)),(72,(.yld 1)),(73,(.agg [(ii v1),(ii v2),(.sl 6 0 1 (.ex 1))]))]⟩,⟨⟨29,0,true⟩,none,(.inRangeFunc 1::(Zc prog 121 [1,1,0,1,0] 1)),none,(Zy prog 15),Yb [(2,.nils),(3,(ii 0)),(4,(.ptr 0 0))]⟩],(y4m [(1,⟨.busy,none,29,Yb [(4,(.ptr 0 0))],[11],(Vx prog 121 [1,1,0,1,0,0]),(Vx prog 121 [1,1,0,1,0,1])⟩)])⟩
 | .h4 v2 v8 cJ bT aR aD bC bD bR cG cI aL=>⟨⟨94,0,true⟩,none,(Zc prog 158 [0,1,0,0,1,0,0] 0),none,[],⟨Yb [(0,(.ptr 0 0)),(2,(ii v2)),(8,(ii v8))],z9e [(0,⟨[(.sla 1 4 0 aD.length (.un 4)),(.dat bC.length (Zz bC)),(ii bD),(ii bR)],200,none⟩),(1,⟨rows aD.length (Zz aD),88,some ⟨4,aD.length,(Zz aD)⟩⟩),(3,⟨[(.sla 4 1 0 cG (.un 1))],93,none⟩),(4,⟨rows cI.length (Zz cI),3,some ⟨1,cI.length,(Zz cI)⟩⟩),(5,⟨[(.sl 6 0 1 (.un 1))],171,none⟩),(6,(x1g l0)),(7,⟨[(.dat aL.length (Zz aL))],180,none⟩)],8,[],true⟩,[⟨⟨29,0,true⟩,(Uq prog 121 [1,1,0,1,0,1,0,1] 5),(Zc prog 121 [1,1,0,1,0,1,0,1] 1),(some 2),[],Yb [(4,(.ptr 0 0)),(21,(ii cJ)),(23,(ii v2)),(24,(.dat bT.length (Zz bT)))]⟩,⟨⟨76,0,true⟩,(Uq prog 182 [1,0,0,1,0,0,1,1,0] 2),(Zc prog 182 [1,0,0,1,0,0,1,1,0] 1),none,[],Yb [(0,(.yld 2)),(1,(.ptr 3 0)),(2,(.ptr 5 0)),(4,(ii aR)),(72,(.yld 2)),(73,(.agg [(ii cJ),(ii v2),(.sl 7 0 1 (.ex 1))]))]⟩,⟨⟨29,0,true⟩,none,(.inRangeFunc 2::(Zc prog 121 [1,1,0,1,0] 1)),none,(Zy prog 15),Yb [(2,.nils),(3,(ii 0)),(4,(.ptr 0 0))]⟩],(y4m [(2,⟨.busy,none,29,Yb [(4,(.ptr 0 0))],[11],(Vx prog 121 [1,1,0,1,0,0]),(Vx prog 121 [1,1,0,1,0,1])⟩)])⟩
def madN0 :List (Option (List Nat)):=[some [1,3,8,9,10,14,15,16],some [2,3,4,9]]
def madM0 :List (Option (List Nat)):=[]
def u3h :List (Option (List Nat)):=[some [0,1,2,4],some [2,3,4]]
def u3i :List (Option (List Nat)):=[some [4],none,none,none,none,none,none]
def v3w :List (Option (List Nat)):=[some [0,1,2,4,5,6,29,30,31,36,37,38],some [2,3,4]]
def v3y :List (Option (List Nat)):=[some [4],none,none,none,none,none,none,none,none,none]
def v3v :List (Option (List Nat)):=[some [0,1,2,71,72,73],some [4,21,23,24],some [0,1,2,4,72,73],some [2,3,4]]
def v3x :List (Option (List Nat)):=[none,some [4],none,none,none,none,none,none]
def madN4 :List (Option (List Nat)):=[some [0,2,8],some [4,21,23,24],some [0,1,2,4,72,73],some [2,3,4]]
def madM4 :List (Option (List Nat)):=[none,none,some [4],none,none,none,none,none]
def Xb (l0:List R4):madS→Xn madS
 | .h0 v16 aA=>(bif (decide (v16<(l0.length:Int))) then (bif ((decide (0≤v16∧v16<(l0.length:Int)))&&true) then (bif (Nat.beq 1 1&&((decide (0+aA.length=aA.length))&&decide ((aA.length+2+1)*(8+1)≤Ur))) then (.to (.h0 (IntKind.wrap .i64 (v16+1)) (aA++[(rd l0 v16.toNat).a,(rd l0 v16.toNat).c]))) else .stuck) else .stuck) else (bif (decide (aA.length<4611686018427387904)) then (bif (decide (aA.length=aA.length)) then (.to (.h1 1 ([]:List R4) ([]:List R2) 0 0 (w3x (Zb aA.length (cOf (Zz (Yi (Zb aA.length (cOf (Zz aA)))))))) (Xt (Zb aA.length (cOf (Zz (Yi (Zb aA.length (cOf (Zz aA)))))))))) else .stuck) else .stuck))
 | .h1 v4 aN aX bF bG aS bE=>(bif (decide (v4<((aS:Nat):Int))) then (bif ((decide (0≤(IntKind.wrap .i64 (v4 - 1))∧(IntKind.wrap .i64 (v4 - 1))<((aS:Nat):Int)))&&true) then (bif (decide ((0+(Int.toNat (IntKind.wrap .i64 (v4 - 1))))<bE.length)) then (bif ((decide (0≤v4∧v4<((aS:Nat):Int)))&&true) then (bif (decide ((0+v4.toNat)<bE.length)) then (.to (.h2 v4 0 aN aX bF bG aS bE (rd bE (0+(Int.toNat (IntKind.wrap .i64 (v4 - 1))))) (rd bE (0+v4.toNat)) ([]:List R2))) else .stuck) else .stuck) else .stuck) else .stuck) else (bif (decide ((aN.length:Int)>400)) then (.ret [.nils,(.int .i64 4)]) else (.ret [(.dat aN.length (Zz aN)),(.int .i64 0)])))
 | .h2 v4 v38 aN aX bF bG aS bE aC cH aL=>(bif (decide (v38<(l0.length:Int))) then (bif ((decide (0≤v38∧v38<(l0.length:Int)))&&true) then (bif (decide ((rd l0 v38.toNat).a ≤aC)) then (bif (decide (aC<(rd l0 v38.toNat).c)) then (bif (Nat.beq 2 2&&((decide (0+aL.length=aL.length))&&decide ((aL.length+1+1)*(16+1)≤Ur))) then (.to (.h2 v4 (IntKind.wrap .i64 (v38+1)) aN aX bF bG aS bE aC cH (aL++[(R2.mk (rd l0 v38.toNat).b (rd l0 v38.toNat).d)]))) else .stuck) else (.to (.h2 v4 (IntKind.wrap .i64 (v38+1)) aN aX bF bG aS bE aC cH aL))) else (.to (.h2 v4 (IntKind.wrap .i64 (v38+1)) aN aX bF bG aS bE aC cH aL))) else .stuck) else (bif (y1s (cvT aL)) then (bif (decide ((((Xg (cvT aL)).length :Nat):Int)>0)) then (bif (bG == aC) then (bif (Vp (cvT aX) (cvT (Xg (cvT aL)))) then (bif (Ku (cvT aX) (cvT (Xg (cvT aL)))) then (.to (.h4 cH bF aC (Xg (cvT aL)) v4 aN aX bF bG aS bE aL)) else (.to (.h3 aC cH (Xg (cvT aL)) (((Xg (cvT aL)).length :Nat):Int) 0 (Xg (cvT aL)) v4 aN (Xg (cvT aL)) (aN.length:Int) aS bE aL))) else .stuck) else (.to (.h3 aC cH (Xg (cvT aL)) (((Xg (cvT aL)).length :Nat):Int) 0 (Xg (cvT aL)) v4 aN (Xg (cvT aL)) (aN.length:Int) aS bE aL))) else (.to (.h3 aC cH (Xg (cvT aL)) (((Xg (cvT aL)).length :Nat):Int) 0 (Xg (cvT aL)) v4 aN (Xg (cvT aL)) (aN.length:Int) aS bE aL))) else .stuck))
 | .h3 v1 v2 v71 v72 v73 bT aR aD bC bD aS bE aC=>(bif (decide (v73<v72)) then (bif ((decide (0≤v73∧v73<(v71.length:Int)))&&true) then (bif (Nat.beq 4 4&&((decide (0+aD.length=aD.length))&&decide ((aD.length+1+1)*(32+1)≤Ur))) then (.to (.h3 v1 v2 v71 v72 (IntKind.wrap .i64 (v73+1)) bT aR (aD++[(R4.mk v1 (rd v71 v73.toNat).a v2 (rd v71 v73.toNat).b)]) bC bD aS bE aC)) else .stuck) else .stuck) else (.to (.h1 (IntKind.wrap .i64 (aR+1)) aD bC bD v2 aS bE)))
 | .h4 v2 v8 cJ bT aR aD bC bD bR cG cI aL=>(bif (decide (v8<(aD.length:Int))) then (bif ((decide (0≤v8∧v8<(aD.length:Int)))&&true) then (bif (decide ((0+v8.toNat)<aD.length)) then (.to (.h4 v2 (IntKind.wrap .i64 (v8+1)) cJ bT aR (aD.set (0+v8.toNat) (R4.mk (rd aD (0+v8.toNat)).a (rd aD (0+v8.toNat)).b v2 (rd aD (0+v8.toNat)).d)) bC bD bR cG cI aL)) else .stuck) else .stuck) else (.to (.h1 (IntKind.wrap .i64 (aR+1)) aD bC bD v2 cG cI)))
def y8p (l0:List R4):Xn madS:=(.to (.h0 0 ([]:List Int)))
theorem w2c (l0:List R4): ∀s,Xk prog (Zy prog 121) (madC l0) (madC l0 s) (Xb l0 s)
 | .h0 v16 aA=>(lb (fun k0=>(lo fun o0=>(lo fun o1=>(sl Jd 32 [] ⟨[0,1,2,3,7],[],madN0,madM0⟩ ⟨[],[.keep,.keep,.cells [.len (y6k aA l0 v16).length],.keep,.rowed 1 (y6k aA l0 v16).length (Zz (y6k aA l0 v16))],[]⟩ [true] (pp (xL (aA.length+2) (y6k aA l0 v16).length) (pp (xL (aA.length+2) (y6k aA l0 v16).length) (pp (xS (aA.length+2) (Zf (Zz aA) 0 aA.length 1 [(ii (rd l0 (tn v16)).a),(ii (rd l0 (tn v16)).c)]) (Zz (y6k aA l0 v16))) (pp (pp (xF (Zf (Zz aA) 0 aA.length 1 [(ii (rd l0 (tn v16)).a),(ii (rd l0 (tn v16)).c)])) nn) (ww o1 (ww o0 (tt k0 nn))))))))))) (fun k0=>(lo fun o0=>(lo fun o1=>(sl Jd 46 [(88,4,Zz ([]:List R4))] ⟨[5,3,2,4,0,1,6],[],u3h,u3i⟩ ⟨[],[.keep,.cells [.grow 6 4,.list 0 (Zz ([]:List R2)),.keep,.keep],.keep,.rowed 1 (y6n aA).length (Zz (y6n aA)),.keep,.keep,.keep],[]⟩ (bl 2 0) (pp (xL aA.length (y6n aA).length (by first | exact z0s _ _ | exact Wi rfl)) (pp (xS aA.length (Zz (y6n aA)) (Zz (y6n aA))) (pp (fl (y6n aA) (fl ([]:List R4) nn)) (pp (pp (xG (Nat.beq 1 1)) (pp (xG (Nat.beq 1 1)) (pp (xG (Nat.beq 0 0)) (pp (xG (decide (aA.length=aA.length))) (pp (xG (isI (Zz (Yi (Zb aA.length (cOf (Zz aA))))))) (xG (decide (aA.length<4611686018427387904)))))))) (pp (pp (xG (Nat.beq 1 1)) (pp (xG (Nat.beq 1 1)) (pp (xG (Nat.beq 0 0)) (pp (xG (decide (aA.length=aA.length))) (pp (xG (isI (Zz aA))) (xG (decide (aA.length<4611686018427387904)))))))) (tt k0 nn)))))))))))
 | .h1 v4 aN aX bF bG aS bE=>(lb (fun k0=>(lo fun o0=>(lo fun o1=>(lo fun o2=>(lo fun o3=>(sl Jd 48 [(183,2,Zz ([]:List R2))] ⟨[0,1,2,3,4,5,7,8,9,6],[],v3w,v3y⟩ ⟨[],(kpB 7 [.cells [.grow 8 2],.keep,.keep]),[]⟩ (trs 3 []) (pp (fl bE (fl ([]:List R2) (fl aN nn))) (ww o3 (ww o2 (ww o1 (ww o0 (tt k0 nn)))))))))))) (fun k0=>(lb (fun k1=>(lr 29 3 [1,1,1,1,1,1,1,0] 1 15 [(2,.nils),(3,(ii 4))] (sl Jd 43 [] ⟨[],[],[some [2,3]],[]⟩ ⟨[],[],[]⟩ (bl 2 2) (tt k1 (tt k0 nn))))) (fun k1=>(lr 29 3 [1,1,1,1,1,1,1,0] 1 15 [(2,(.dat aN.length (Zz aN))),(3,(ii 0))] (sl Jd 48 [] ⟨[],[6],[some [2,3]],[]⟩ ⟨[(2,.frz aN.length aN.length (Zz aN) (Zz aN))],[],[]⟩ (bl 2 0) (pp (xZ (z5c 4 4 0 aN.length aN.length (Zz aN)) aN.length (Zz aN)) (pp (xL aN.length aN.length) (pp (xS aN.length (Zz aN) (Zz aN)) (pp (fl aN nn) (tt k1 (tt k0 nn))))))))))))
 | .h2 v4 v38 aN aX bF bG aS bE aC cH aL=>(lb (fun k0=>(lo fun aG=>(lb (fun k1=>(lb (fun k2=>(lo fun o0=>(sl Jd 39 [] ⟨[0,1,2,3,4,5,6,7,12,9],[],v3w,v3y⟩ ⟨[],(kpB 7 [.cells [.len (y6m aL l0 v38).length],.rowed 2 (y6m aL l0 v38).length (Zz (y6m aL l0 v38)),.keep]),[]⟩ (trs 7 []) (pp (xL (aL.length+1) (y6m aL l0 v38).length) (pp (xL (aL.length+1) (y6m aL l0 v38).length) (pp (xS (aL.length+1) (Zf (Zz aL) 0 aL.length 2 [(ii (rd l0 (tn v38)).b),(ii (rd l0 (tn v38)).d)]) (Zz (y6m aL l0 v38))) (pp (fl bE (pp (xF (Zf (Zz aL) 0 aL.length 2 [(ii (rd l0 (tn v38)).b),(ii (rd l0 (tn v38)).d)])) (fl aN nn))) (ww o0 (tt k2 (tt k1 (ww aG (tt k0 nn)))))))))))) (fun k2=>(sl Jd 39 [] ⟨(List.range 10),[],v3w,v3y⟩ ⟨[],[],[]⟩ (trs 6 [false]) (pp (fl bE (fl aL (fl aN nn))) (tt k2 (tt k1 (ww aG (tt k0 nn))))))))) (fun k1=>(sl Jd 39 [] ⟨(List.range 10),[],v3w,v3y⟩ ⟨[],[],[]⟩ (bl 7 1) (pp (fl bE (fl aL (fl aN nn))) (tt k1 (ww aG (tt k0 nn))))))))) (fun k0=>(Wd (sl Jd (C':=⟨⟨29,0,true⟩,(Uq prog 121 [1,1,0,1,0,1,0,0] 4),(Zc prog 121 [1,1,0,1,0,1,0,0] 1),(some 0),[],⟨Yb [(4,(.ptr 1 0)),(5,(.ptr 3 0)),(16,(.dat aL.length (Zz aL)))],z9e [(1,⟨[(.sla 2 4 0 aN.length (.un 4)),(.dat aX.length (Zz aX)),(ii bF),(ii bG)],200,none⟩),(2,⟨rows aN.length (Zz aN),88,some ⟨4,aN.length,(Zz aN)⟩⟩),(3,⟨[(ii aC),(ii cH),(.sl 4 0 1 (.ex 1))],205,none⟩),(4,⟨[(.dat aL.length (Zz aL))],180,none⟩),(5,⟨[(.sla 6 1 0 aS (.un 1))],93,none⟩),(6,⟨rows bE.length (Zz bE),3,some ⟨1,bE.length,(Zz bE)⟩⟩),(7,⟨[(.sl 8 0 1 (.un 1))],171,none⟩),(8,⟨[(.dat l0.length (Zz l0))],99,none⟩)],9,[],true⟩,[⟨⟨76,0,true⟩,(Uq prog 182 [1,0,0,1,0,0,1,1,0] 2),(Zc prog 182 [1,0,0,1,0,0,1,1,0] 1),none,[],Yb [(0,(.yld 0)),(1,(.ptr 5 0)),(2,(.ptr 7 0)),(4,(ii v4)),(72,(.yld 0)),(73,(.agg [(ii aC),(ii cH),(.sl 4 0 1 (.ex 1))]))]⟩,⟨⟨29,0,true⟩,none,(.inRangeFunc 0::(Zc prog 121 [1,1,0,1,0] 1)),none,(Zy prog 15),Yb [(2,.nils),(3,(ii 0)),(4,(.ptr 1 0))]⟩],(y4m [(0,⟨.busy,none,29,Yb [(4,(.ptr 1 0))],[11],(Vx prog 121 [1,1,0,1,0,0]),(Vx prog 121 [1,1,0,1,0,1])⟩)])⟩) 37 [] ⟨[0,1,9,10,7,2,3,4,5],[8],[some [4,5,16],some [0,1,2,4,72,73],some [2,3,4]],[some [4],none,none,none,none,none,none,none,none]⟩ ⟨[(16,.frz aL.length aL.length (Zz aL) (Zz aL))],[.keep,.keep,.keep,.keep,.cells [.frz aL.length aL.length (Zz aL) (Zz aL)],.keep,.keep,.keep,.keep],[]⟩ (bl 2 0) (pp (xZ (z5c 2 2 0 aL.length aL.length (Zz aL)) aL.length (Zz aL)) (pp (xL aL.length aL.length) (pp (xS aL.length (Zz aL) (Zz aL)) (pp (xZ (z5c 2 2 0 aL.length aL.length (Zz aL)) aL.length (Zz aL)) (pp (xL aL.length aL.length) (pp (xS aL.length (Zz aL) (Zz aL)) (pp (fl aN (fl bE nn)) (pp (fl aL nn) (tt k0 nn)))))))))) (lo fun aG=>(lb (fun k1=>(lb (fun k2=>(lo fun bY=>(lb (fun k3=>(sl Jd 49 [] ⟨[1,2,0,5,6,7,8,4],[],madN4,madM4⟩ ⟨[],[],[]⟩ (trs 13 []) (pp (fl aN (fl bE nn)) (tt k3 (pp (pp (xr aX) (pp (xI R2 (Xg (cvT aL)).length (Zz (Xg (cvT aL)))) (xw bY))) (tt k2 (tt k1 (pp (pp (xr aL) (xw aG)) nn)))))))) (fun k3=>(sl Jd 69 [] ⟨[1,0,5,6,7,8,4,2],[],v3v,v3x⟩ ⟨[],[],[]⟩ (trs 12 [false]) (pp (fl bE (fl aN nn)) (tt k3 (pp (pp (xr aX) (pp (xI R2 (Xg (cvT aL)).length (Zz (Xg (cvT aL)))) (xw bY))) (tt k2 (tt k1 (pp (pp (xr aL) (xw aG)) nn))))))))))) (fun k2=>(sl Jd 69 [] ⟨[1,0,5,6,7,8,4,2],[],v3v,v3x⟩ ⟨[],[],[]⟩ (trs 6 (bl 7 0)) (pp (fl bE (fl aN nn)) (tt k2 (tt k1 (pp (pp (xr aL) (xw aG)) nn)))))))) (fun k1=>(sl Jd 69 [] ⟨[1,0,5,6,7,8,4,2],[],v3v,v3x⟩ ⟨[],[],[]⟩ (bl 13 0) (pp (fl bE (fl aN nn)) (tt k1 (pp (pp (xr aL) (xw aG)) nn))))))))))
 | .h3 v1 v2 v71 v72 v73 bT aR aD bC bD aS bE aC=>(lb (fun k0=>(lo fun o0=>(lo fun o1=>(sl Jd 23 [] ⟨[0,1,2,3,4,5,6,10],[],v3v,v3x⟩ ⟨[],[.cells [.len (y6l aD v1 v71 v73 v2).length,.keep,.keep,.keep],.keep,.keep,.keep,.keep,.keep,.keep,.rowed 4 (y6l aD v1 v71 v73 v2).length (Zz (y6l aD v1 v71 v73 v2))],[]⟩ [true] (pp (xL (aD.length+1) (y6l aD v1 v71 v73 v2).length) (pp (xL (aD.length+1) (y6l aD v1 v71 v73 v2).length) (pp (xS (aD.length+1) (Zf (Zz aD) 0 aD.length 4 [(ii v1),(ii (rd v71 (tn v73)).a),(ii v2),(ii (rd v71 (tn v73)).b)]) (Zz (y6l aD v1 v71 v73 v2))) (pp (fl bE (pp (xF (Zf (Zz aD) 0 aD.length 4 [(ii v1),(ii (rd v71 (tn v73)).a),(ii v2),(ii (rd v71 (tn v73)).b)])) nn)) (ww o1 (ww o0 (tt k0 nn))))))))))) (fun k0=>(sl Jd 22 [] ⟨[1,0,2,3,4,5,7],[],u3h,u3i⟩ ⟨[],[],[]⟩ (bl 2 0) (pp (fl bE (fl aD nn)) (tt k0 nn)))))
 | .h4 v2 v8 cJ bT aR aD bC bD bR cG cI aL=>(lb (fun k0=>(lo fun o0=>(lo fun o1=>(sl Jd 33 [] ⟨(List.range 8),[],madN4,madM4⟩ ⟨[],[.cells [.len (y6o aD v8 v2).length,.keep,.keep,.keep],.rowed 4 (y6o aD v8 v2).length (Zz (y6o aD v8 v2)),.keep,.keep,.keep,.keep,.keep,.keep],[]⟩ [true] (pp (xL aD.length (y6o aD v8 v2).length) (pp (xL aD.length (y6o aD v8 v2).length) (pp (xS aD.length (Xc (Zz aD) (0+(tn v8)) 2 [(ii v2)]) (Zz (y6o aD v8 v2))) (pp (pp (xF (Xc (Zz aD) (0+(tn v8)) 2 [(ii v2)])) (fl cI nn)) (ww o1 (ww o0 (tt k0 nn))))))))))) (fun k0=>(sl Jd 36 [] ⟨[2,0,3,4,5,6,1],[],u3h,u3i⟩ ⟨[],[],[]⟩ (bl 2 0) (pp (fl cI (fl aD nn)) (tt k0 nn)))))
theorem x5i (l0:List R4):Xk prog (Zy prog 121) (madC l0) (Zd prog 121 [(.dat l0.length (Zz l0))] true []) (y8p l0):=(sl Jd 56 [(3,1,Zz ([]:List Int))] ⟨[2,1,3,0,4],[],madN0,madM0⟩ ⟨[],[.keep,.keep,.cells [.grow 4 1],.keep,.keep],[]⟩ [true] (pp (fl ([]:List Int) nn) nn))
theorem v3u (l0:List R4) (n:Nat) (vs:List AVal) (h:Yj (Xb l0) n (y8p l0)=.ret vs):Kz prog (Zy prog 121) (Zd prog 121 [(.dat l0.length (Zz l0))] true []) vs:=by have:=Zo (w2c l0) n _ (x5i l0);rwa [h] at this
end Go.Am
end
