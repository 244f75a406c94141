/- A part of a proof: several texts in one. -/
import Derived.Test.YtmanggcjimaehaaGreatLg2
import Derived.Sort.AssemblyPlain
import Derived.Lib.BitFns
import Derived.Shelf.GgSortFunc.InsertionK
import Derived.Shelf.Sort.Plain
import Derived.Ground.Names2Prog
import Derived.Shelf.Slices.CompactI
import Derived.Shelf.Slices.SearchI
import Derived.Shelf.Slices.Cells
import Derived.Shelf.Slices.In.SortNone
import Derived.Shelf.SlSortCmp.WholeK
import Derived.Ground.SlsfProg
import Derived.Test.YtmanggcjimaehaaGreatProg
import Derived.Shelf.SlSortCmp.NoneTotal
set_option maxRecDepth 1000000
set_option maxHeartbeats 8000000
set_option linter.unusedVariables false
set_option linter.unusedSimpArgs false
noncomputable section
namespace Go.Am
open IntKind (wrap)
open Go.Proofs.Tryz
open Go.Proofs
inductive rsortS where
 | h0 (v3:List Int) (v4:Int)
 | h1 (v3:List Int) (v4:Int) (v5:Int)
abbrev Jg (v3:List Int) (v5:Int) (l0:List Int) (v4:Int):=((v3c (v3++[0]) (0+(tn (wr (v5+1)))) (Nat.min ((v3.length+1) - (tn v5)) ((v3.length+1) - (tn (wr (v5+1))))) (Jj (v3++[0]) (0+(tn v5)) ((v3.length+1) - (tn v5)))).set (0+(tn v5)) (rd l0 (tn v4)))
abbrev Kh (v3:List Int):=(Zi (Zz v3) 0 v3.length 1 [(ii 0)])
abbrev y1r (v3:List Int) (v5:Int):=(Nat.min ((v3.length+1) - (tn v5)) ((v3.length+1) - (tn (wr (v5+1)))))
def w8t (l0:List Int):rsortS→Cfg
 | .h0 v3 v4=>⟨⟨63,0,true⟩,none,(Zd prog 70 [1,1,0,1,0,0] 0),none,(Zy prog 3),⟨Yd [(0,(.dat l0.length (Zz l0))),(3,(.sla 0 1 0 v3.length (.un 1))),(4,(ii v4))],Uy [⟨rows v3.length (Zz v3),3,some ⟨1,v3.length,(Zz v3)⟩⟩] 0,1,[],true⟩,[],.leaf⟩
 | .h1 v3 v4 v5=>⟨⟨63,0,true⟩,none,(Zd prog 70 [1,1,0,1,0,0,1,0,0,1,0,0,0] 0),none,(Zy prog 3),⟨Yd [(0,(.dat l0.length (Zz l0))),(3,(.sla 0 1 0 v3.length (.un 1))),(4,(ii v4)),(5,(ii v5))],Uy [⟨rows v3.length (Zz v3),3,some ⟨1,v3.length,(Zz v3)⟩⟩] 0,1,[],true⟩,[],.leaf⟩
def y9x :List (Option (List Nat)):=[some [0,3,4]]
def y9y :List (Option (List Nat)):=[]
def w8r :List (Option (List Nat)):=[some [0,3,4,5]]
def w8s :List (Option (List Nat)):=[]
def Vs (l0:List Int):rsortS→Xf rsortS
 | .h0 v3 v4=>(bif (decide (v4<(l0.length:Int))) then (.to (.h1 v3 v4 (v3.length:Int))) else (.ret [(.dat v3.length (Zz v3))]))
 | .h1 v3 v4 v5=>(bif (decide (v5>0)) then (bif ((decide (0≤(wrap .i64 (v5 - 1))∧(wrap .i64 (v5 - 1))<(v3.length:Int)))&&true) then (bif (decide ((0+(Int.toNat (wrap .i64 (v5 - 1))))<v3.length)) then (bif ((decide (0≤v4∧v4<(l0.length:Int)))&&true) then (bif (decide ((rd v3 (0+(Int.toNat (wrap .i64 (v5 - 1)))))>(rd l0 v4.toNat))) then (.to (.h1 v3 v4 (wrap .i64 (v5 - 1)))) else (bif ((rd v3 (0+(Int.toNat (wrap .i64 (v5 - 1))))) == (rd l0 v4.toNat)) then (.to (.h0 v3 (wrap .i64 (v4+1)))) else (bif (Nat.beq 1 1&&((decide (0+v3.length=v3.length))&&decide ((v3.length+1+1)*(8+1)≤Ju))) then (bif (true&&((decide (0≤(wrap .i64 (v5+1))))&&(decide ((v3.length+1)≤(v3.length+1))&&decide ((Int.toNat (wrap .i64 (v5+1)))≤(v3.length+1))))) then (bif (true&&((decide (0≤v5))&&(decide ((v3.length+1)≤(v3.length+1))&&decide (v5.toNat≤(v3.length+1))))) then (bif (decide ((0+v5.toNat)+((v3.length+1) - v5.toNat)≤(v3.length+1))) then (bif (decide ((0+(Int.toNat (wrap .i64 (v5+1))))+((v3.length+1) - (Int.toNat (wrap .i64 (v5+1))))≤(v3.length+1))) then (bif ((decide (0≤v5∧v5<(((v3.length+1):Nat):Int)))&&true) then (bif (decide ((0+v5.toNat)<(v3.length+1))) then (.to (.h0 ((v3c (v3++[0]) (0+(Int.toNat (wrap .i64 (v5+1)))) (Nat.min ((v3.length+1) - v5.toNat) ((v3.length+1) - (Int.toNat (wrap .i64 (v5+1))))) (Jj (v3++[0]) (0+v5.toNat) ((v3.length+1) - v5.toNat))).set (0+v5.toNat) (rd l0 v4.toNat)) (wrap .i64 (v4+1)))) else .stuck) else .stuck) else .stuck) else .stuck) else .stuck) else .stuck) else .stuck))) else .stuck) else .stuck) else .stuck) else (bif (Nat.beq 1 1&&((decide (0+v3.length=v3.length))&&decide ((v3.length+1+1)*(8+1)≤Ju))) then (bif (true&&((decide (0≤(wrap .i64 (v5+1))))&&(decide ((v3.length+1)≤(v3.length+1))&&decide ((Int.toNat (wrap .i64 (v5+1)))≤(v3.length+1))))) then (bif (true&&((decide (0≤v5))&&(decide ((v3.length+1)≤(v3.length+1))&&decide (v5.toNat≤(v3.length+1))))) then (bif (decide ((0+v5.toNat)+((v3.length+1) - v5.toNat)≤(v3.length+1))) then (bif (decide ((0+(Int.toNat (wrap .i64 (v5+1))))+((v3.length+1) - (Int.toNat (wrap .i64 (v5+1))))≤(v3.length+1))) then (bif ((decide (0≤v4∧v4<(l0.length:Int)))&&true) then (bif ((decide (0≤v5∧v5<(((v3.length+1):Nat):Int)))&&true) then (bif (decide ((0+v5.toNat)<(v3.length+1))) then (.to (.h0 ((v3c (v3++[0]) (0+(Int.toNat (wrap .i64 (v5+1)))) (Nat.min ((v3.length+1) - v5.toNat) ((v3.length+1) - (Int.toNat (wrap .i64 (v5+1))))) (Jj (v3++[0]) (0+v5.toNat) ((v3.length+1) - v5.toNat))).set (0+v5.toNat) (rd l0 v4.toNat)) (wrap .i64 (v4+1)))) else .stuck) else .stuck) else .stuck) else .stuck) else .stuck) else .stuck) else .stuck) else .stuck))
def z4r (l0:List Int):Xf rsortS:=(.to (.h0 ([]:List Int) 0))
theorem x2i (l0:List Int): ∀s,Xq prog (Zy prog 70) (w8t l0) (w8t l0 s) (Vs l0 s)
 | .h0 v3 v4=>(lb (fun k0=>(sl Zm 21 [] ⟨[0],[],w8r,w8s⟩ ⟨[],[],[]⟩ [true] (pp (fl v3 nn) (tt k0 nn)))) (fun k0=>(lr 63 3 [1,1,1,1,1,1,1,0] 1 3 [(2,(.dat v3.length (Zz v3)))] (sl Zm 15 [] ⟨[],[0],[some [2]],[]⟩ ⟨[(2,.frz v3.length v3.length (Zz v3) (Zz v3))],[],[]⟩ [false] (pp (xZ (z6i 1 1 0 v3.length v3.length (Zz v3)) v3.length (Zz v3)) (pp (xL v3.length v3.length) (pp (xS v3.length (Zz v3) (Zz v3)) (pp (fl v3 nn) (tt k0 nn)))))))))
 | .h1 v3 v4 v5=>(lb (fun k0=>(lo fun aG=>(lo fun bA=>(lo fun bZ=>(lb (fun k1=>(sl Zm 13 [] ⟨[0],[],w8r,w8s⟩ ⟨[],[],[]⟩ (trs 11 []) (pp (fl v3 nn) (tt k1 (ww bZ (ww bA (ww aG (tt k0 nn)))))))) (fun k1=>(lb (fun k2=>(sl Zm 16 [] ⟨[0],[],y9x,y9y⟩ ⟨[],[],[]⟩ (trs 10 (bl 12 4094)) (pp (fl v3 nn) (tt k2 (ww bZ (ww bA (ww aG (tt k0 (tt k1 (ww bZ (ww bA (ww aG (tt k0 nn))))))))))))) (fun k2=>(lo fun o0=>(lo fun o1=>(lo fun o2=>(lo fun o3=>(lo fun o4=>(lo fun o5=>(lo fun o6=>(sl Zm 36 [] ⟨[2],[],y9x,y9y⟩ ⟨[(3,.len (Jg v3 v5 l0 v4).length)],[.rowed 1 (Jg v3 v5 l0 v4).length (Zz (Jg v3 v5 l0 v4))],[]⟩ (trs 10 (bl 12 2046)) (pp (xL (v3.length+1) (Jg v3 v5 l0 v4).length) (pp (xL (v3.length+1) (Jg v3 v5 l0 v4).length) (pp (xS (v3.length+1) (Xn (Jy (Kh v3) (0+(tn (wr (v5+1)))) (y1r v3 v5) (fun k=>(Kh v3) ((0+(tn v5))+k))) (0+(tn v5)) 0 [(ii (rd l0 (tn v4)))]) (Zz (Jg v3 v5 l0 v4))) (pp (pp (xF (Xn (Jy (Kh v3) (0+(tn (wr (v5+1)))) (y1r v3 v5) (fun k=>(Kh v3) ((0+(tn v5))+k))) (0+(tn v5)) 0 [(ii (rd l0 (tn v4)))])) nn) (ww o6 (ww o5 (ww bZ (pp (pp (xG (Nat.beq 1 1)) (pp (xG (Nat.beq 1 1)) (pp (xw o4) (pp (xG (Nat.beq 1 1)) (pp (xG (Nat.beq 1 1)) (pp (xG (decide ((0+(tn v5))+((v3.length+1) - (tn v5))≤(v3.length+1)))) (xG (y5a 1 ((v3.length+1) - (tn v5)) (fun k=>(Kh v3) ((0+(tn v5))+k)))))))))) (ww o2 (ww o1 (ww o0 (tt k2 (ww bZ (ww bA (ww aG (tt k0 (tt k1 (ww bZ (ww bA (ww aG (tt k0 nn))))))))))))))))))))))))))))))))))))) (fun k0=>(lo fun o0=>(lo fun o1=>(lo fun o2=>(lo fun o3=>(lo fun o4=>(lo fun o5=>(lo fun o6=>(lo fun o7=>(sl Zm 36 [] ⟨[2],[],y9x,y9y⟩ ⟨[(3,.len (Jg v3 v5 l0 v4).length)],[.rowed 1 (Jg v3 v5 l0 v4).length (Zz (Jg v3 v5 l0 v4))],[]⟩ (bl 22 0) (pp (xL (v3.length+1) (Jg v3 v5 l0 v4).length) (pp (xL (v3.length+1) (Jg v3 v5 l0 v4).length) (pp (xS (v3.length+1) (Xn (Jy (Kh v3) (0+(tn (wr (v5+1)))) (y1r v3 v5) (fun k=>(Kh v3) ((0+(tn v5))+k))) (0+(tn v5)) 0 [(ii (rd l0 (tn v4)))]) (Zz (Jg v3 v5 l0 v4))) (pp (pp (xF (Xn (Jy (Kh v3) (0+(tn (wr (v5+1)))) (y1r v3 v5) (fun k=>(Kh v3) ((0+(tn v5))+k))) (0+(tn v5)) 0 [(ii (rd l0 (tn v4)))])) nn) (ww o7 (ww o6 (ww o5 (pp (pp (xG (Nat.beq 1 1)) (pp (xG (Nat.beq 1 1)) (pp (xw o4) (pp (xG (Nat.beq 1 1)) (pp (xG (Nat.beq 1 1)) (pp (xG (decide ((0+(tn v5))+((v3.length+1) - (tn v5))≤(v3.length+1)))) (xG (y5a 1 ((v3.length+1) - (tn v5)) (fun k=>(Kh v3) ((0+(tn v5))+k)))))))))) (ww o2 (ww o1 (ww o0 (tt k0 (tt k0 nn))))))))))))))))))))))))
theorem y9w (l0:List Int):Xq prog (Zy prog 70) (w8t l0) (Zc prog 70 [(.dat l0.length (Zz l0))] true []) (z4r l0):=(sl Zm 15 [(3,1,Zz ([]:List Int))] ⟨[0],[],y9x,y9y⟩ ⟨[(3,.grow 0 1)],[],[]⟩ [] (pp (fl ([]:List Int) nn) nn))
theorem w4a (l0:List Int) (n:Nat) (vs:List AVal) (h:Yj (Vs l0) n (z4r l0)=.ret vs):Kv prog (Zy prog 70) (Zc prog 70 [(.dat l0.length (Zz l0))] true []) vs:=by have:=Zn (x2i l0) n _ (y9w l0);rwa [h] at this
inductive rcanS where
 | h0 (v5:List R2) (v6:Int)
def u6q (l0:List Int) (l1:List Bool):rcanS→Cfg
 | .h0 v5 v6=>⟨⟨61,0,true⟩,none,(Zd prog 142 [1,1,0,1,0,0] 0),none,(Zy prog 5),⟨Yd [(0,(.dat l0.length (Zz l0))),(1,(.dat l1.length (Zz l1))),(5,(.sla 0 2 0 v5.length (.un 2))),(6,(ii v6))],Uy [⟨rows v5.length (Zz v5),183,some ⟨2,v5.length,(Zz v5)⟩⟩] 0,1,[],true⟩,[],.leaf⟩
def x2v :List (Option (List Nat)):=[some [0,1,5,6]]
def x2w :List (Option (List Nat)):=[]
def Qf (l0:List Int) (l1:List Bool):rcanS→Xf rcanS
 | .h0 v5 v6=>(bif (decide ((wrap .i64 (v6+1))<(l0.length:Int))) then (bif ((decide (0≤v6∧v6<(l1.length:Int)))&&true) then (bif (!(rd l1 v6.toNat)) then (.to (.h0 v5 (wrap .i64 (v6+1)))) else (bif (decide ((v5.length:Int)>0)) then (bif ((decide (0≤(wrap .i64 ((v5.length:Int) - 1))∧(wrap .i64 ((v5.length:Int) - 1))<(v5.length:Int)))&&true) then (bif (decide ((0+(Int.toNat (wrap .i64 ((v5.length:Int) - 1))))<v5.length)) then (bif ((decide (0≤v6∧v6<(l0.length:Int)))&&true) then (bif ((rd v5 (0+(Int.toNat (wrap .i64 ((v5.length:Int) - 1))))).b == (rd l0 v6.toNat)) then (bif ((decide (0≤(wrap .i64 (v6+1))∧(wrap .i64 (v6+1))<(l0.length:Int)))&&true) then (.to (.h0 (v5.set (0+(Int.toNat (wrap .i64 ((v5.length:Int) - 1)))) (R2.mk (rd v5 (0+(Int.toNat (wrap .i64 ((v5.length:Int) - 1))))).a (rd l0 (Int.toNat (wrap .i64 (v6+1)))))) (wrap .i64 (v6+1)))) else .stuck) else (bif ((decide (0≤(wrap .i64 (v6+1))∧(wrap .i64 (v6+1))<(l0.length:Int)))&&true) then (bif (Nat.beq 2 2&&((decide (0+v5.length=v5.length))&&decide ((v5.length+1+1)*(16+1)≤Ju))) then (.to (.h0 (v5++[(R2.mk (rd l0 v6.toNat) (rd l0 (Int.toNat (wrap .i64 (v6+1)))))]) (wrap .i64 (v6+1)))) else .stuck) else .stuck)) else .stuck) else .stuck) else .stuck) else (bif ((decide (0≤v6∧v6<(l0.length:Int)))&&true) then (bif ((decide (0≤(wrap .i64 (v6+1))∧(wrap .i64 (v6+1))<(l0.length:Int)))&&true) then (bif (Nat.beq 2 2&&((decide (0+v5.length=v5.length))&&decide ((v5.length+1+1)*(16+1)≤Ju))) then (.to (.h0 (v5++[(R2.mk (rd l0 v6.toNat) (rd l0 (Int.toNat (wrap .i64 (v6+1)))))]) (wrap .i64 (v6+1)))) else .stuck) else .stuck) else .stuck))) else .stuck) else (.ret [(.dat v5.length (Zz v5))]))
def z7i (l0:List Int) (l1:List Bool):Xf rcanS:=(.to (.h0 ([]:List R2) 0))
theorem x6s (l0:List Int) (l1:List Bool): ∀s,Xq prog (Zy prog 142) (u6q l0 l1) (u6q l0 l1 s) (Qf l0 l1 s)
 | .h0 v5 v6=>(lb (fun k0=>(lo fun aG=>(lb (fun k1=>(sl Zm 30 [] ⟨[0],[],x2v,x2w⟩ ⟨[],[],[]⟩ (bl 2 3) (pp (fl v5 nn) (tt k1 (ww aG (tt k0 nn)))))) (fun k1=>(lb (fun k2=>(lo fun cG=>(lo fun cS=>(lo fun cT=>(lb (fun k3=>(lo fun o0=>(sl Zm 53 [] ⟨[0],[],x2v,x2w⟩ ⟨[(5,.len (v5.set (0+(tn (wr ((v5.length:Int) - 1)))) (R2.mk (rd v5 (0+(tn (wr ((v5.length:Int) - 1))))).a (rd l0 (tn (wr (v6+1)))))).length)],[.rowed 2 (v5.set (0+(tn (wr ((v5.length:Int) - 1)))) (R2.mk (rd v5 (0+(tn (wr ((v5.length:Int) - 1))))).a (rd l0 (tn (wr (v6+1)))))).length (Zz (v5.set (0+(tn (wr ((v5.length:Int) - 1)))) (R2.mk (rd v5 (0+(tn (wr ((v5.length:Int) - 1))))).a (rd l0 (tn (wr (v6+1)))))))],[]⟩ (bl 14 16381) (pp (xL v5.length (v5.set (0+(tn (wr ((v5.length:Int) - 1)))) (R2.mk (rd v5 (0+(tn (wr ((v5.length:Int) - 1))))).a (rd l0 (tn (wr (v6+1)))))).length) (pp (xL v5.length (v5.set (0+(tn (wr ((v5.length:Int) - 1)))) (R2.mk (rd v5 (0+(tn (wr ((v5.length:Int) - 1))))).a (rd l0 (tn (wr (v6+1)))))).length) (pp (xS v5.length (Xn (Zz v5) (0+(tn (wr ((v5.length:Int) - 1)))) 1 [(ii (rd l0 (tn (wr (v6+1)))))]) (Zz (v5.set (0+(tn (wr ((v5.length:Int) - 1)))) (R2.mk (rd v5 (0+(tn (wr ((v5.length:Int) - 1))))).a (rd l0 (tn (wr (v6+1)))))))) (pp (pp (xF (Xn (Zz v5) (0+(tn (wr ((v5.length:Int) - 1)))) 1 [(ii (rd l0 (tn (wr (v6+1)))))])) nn) (ww cS (ww cG (ww o0 (tt k3 (ww cT (ww cS (ww cG (tt k2 (tt k1 (ww aG (tt k0 nn)))))))))))))))))) (fun k3=>(lo fun o0=>(lo fun o1=>(sl Zm 41 [] ⟨[2],[],x2v,x2w⟩ ⟨[(5,.len (v5++[(R2.mk (rd l0 (tn v6)) (rd l0 (tn (wr (v6+1)))))]).length)],[.rowed 2 (v5++[(R2.mk (rd l0 (tn v6)) (rd l0 (tn (wr (v6+1)))))]).length (Zz (v5++[(R2.mk (rd l0 (tn v6)) (rd l0 (tn (wr (v6+1)))))]))],[]⟩ (bl 14 8189) (pp (xL (v5.length+1) (v5++[(R2.mk (rd l0 (tn v6)) (rd l0 (tn (wr (v6+1)))))]).length) (pp (xL (v5.length+1) (v5++[(R2.mk (rd l0 (tn v6)) (rd l0 (tn (wr (v6+1)))))]).length) (pp (xS (v5.length+1) (Zi (Zz v5) 0 v5.length 2 [(ii (rd l0 (tn v6))),(ii (rd l0 (tn (wr (v6+1)))))]) (Zz (v5++[(R2.mk (rd l0 (tn v6)) (rd l0 (tn (wr (v6+1)))))]))) (pp (pp (xF (Zi (Zz v5) 0 v5.length 2 [(ii (rd l0 (tn v6))),(ii (rd l0 (tn (wr (v6+1)))))])) nn) (ww o1 (ww o0 (ww cT (tt k3 (ww cT (ww cS (ww cG (tt k2 (tt k1 (ww aG (tt k0 nn)))))))))))))))))))))))) (fun k2=>(lo fun o0=>(lo fun o1=>(lo fun o2=>(sl Zm 41 [] ⟨[2],[],x2v,x2w⟩ ⟨[(5,.len (v5++[(R2.mk (rd l0 (tn v6)) (rd l0 (tn (wr (v6+1)))))]).length)],[.rowed 2 (v5++[(R2.mk (rd l0 (tn v6)) (rd l0 (tn (wr (v6+1)))))]).length (Zz (v5++[(R2.mk (rd l0 (tn v6)) (rd l0 (tn (wr (v6+1)))))]))],[]⟩ (bl 14 1) (pp (xL (v5.length+1) (v5++[(R2.mk (rd l0 (tn v6)) (rd l0 (tn (wr (v6+1)))))]).length) (pp (xL (v5.length+1) (v5++[(R2.mk (rd l0 (tn v6)) (rd l0 (tn (wr (v6+1)))))]).length) (pp (xS (v5.length+1) (Zi (Zz v5) 0 v5.length 2 [(ii (rd l0 (tn v6))),(ii (rd l0 (tn (wr (v6+1)))))]) (Zz (v5++[(R2.mk (rd l0 (tn v6)) (rd l0 (tn (wr (v6+1)))))]))) (pp (pp (xF (Zi (Zz v5) 0 v5.length 2 [(ii (rd l0 (tn v6))),(ii (rd l0 (tn (wr (v6+1)))))])) nn) (ww o2 (ww o1 (ww o0 (tt k2 (tt k1 (ww aG (tt k0 nn))))))))))))))))))))) (fun k0=>(lr 61 3 [1,1,1,1,1,1,1,0] 1 5 [(4,(.dat v5.length (Zz v5)))] (sl Zm 16 [] ⟨[],[0],[some [4]],[]⟩ ⟨[(4,.frz v5.length v5.length (Zz v5) (Zz v5))],[],[]⟩ [false] (pp (xZ (z6i 2 2 0 v5.length v5.length (Zz v5)) v5.length (Zz v5)) (pp (xL v5.length v5.length) (pp (xS v5.length (Zz v5) (Zz v5)) (pp (fl v5 nn) (tt k0 nn)))))))))
theorem x2u (l0:List Int) (l1:List Bool):Xq prog (Zy prog 142) (u6q l0 l1) (Zc prog 142 [(.dat l0.length (Zz l0)),(.dat l1.length (Zz l1))] true []) (z7i l0 l1):=(sl Zm 15 [(183,2,Zz ([]:List R2))] ⟨[0],[],x2v,x2w⟩ ⟨[(5,.grow 0 2)],[],[]⟩ [] (pp (fl ([]:List R2) nn) nn))
theorem w9s (l0:List Int) (l1:List Bool) (n:Nat) (vs:List AVal) (h:Yj (Qf l0 l1) n (z7i l0 l1)=.ret vs):Kv prog (Zy prog 142) (Zc prog 142 [(.dat l0.length (Zz l0)),(.dat l1.length (Zz l1))] true []) vs:=by have:=Zn (x6s l0 l1) n _ (x2u l0 l1);rwa [h] at this
inductive rsmS where
 | h0 (v5:Int)
def rsmC (l0:List R2) (l1:List R2):rsmS→Cfg
 | .h0 v5=>⟨⟨26,0,true⟩,none,(Zd prog 169 [1,1,0,1,0,0] 0),none,(Zy prog 5),⟨Yd [(0,(.dat l0.length (Zz l0))),(1,(.dat l1.length (Zz l1))),(5,(ii v5))],Uy [] 0,0,[],true⟩,[],.leaf⟩
def rsmN0 :List (Option (List Nat)):=[some [0,1,5]]
def rsmM0 :List (Option (List Nat)):=[]
def z6a (l0:List R2) (l1:List R2):rsmS→Xf rsmS
 | .h0 v5=>(bif (decide (v5<(l0.length:Int))) then (bif ((decide (0≤v5∧v5<(l0.length:Int)))&&true) then (bif ((decide (0≤v5∧v5<(l1.length:Int)))&&true) then (bif (!(((rd l0 v5.toNat).a == (rd l1 v5.toNat).a)&&(((rd l0 v5.toNat).b == (rd l1 v5.toNat).b)&&true))) then (.ret [(.bool false)]) else (.to (.h0 (wrap .i64 (v5+1))))) else .stuck) else .stuck) else (.ret [(.bool true)]))
def z6x (l0:List R2) (l1:List R2):Xf rsmS:=(bif ((l0.length:Int) != (l1.length:Int)) then (.ret [(.bool false)]) else (.to (.h0 0)))
theorem w4b (l0:List R2) (l1:List R2): ∀s,Xq prog (Zy prog 169) (rsmC l0 l1) (rsmC l0 l1 s) (z6a l0 l1 s)
 | .h0 v5=>(lb (fun k0=>(lo fun aG=>(lo fun bA=>(lb (fun k1=>(lr 26 169 [1,1,0,1,0,0,1,0,0,1,0,0] 1 5 [(4,(.bool false))] (sl Zm 19 [] ⟨[],[],[some [4]],[]⟩ ⟨[],[],[]⟩ (bl 2 3) (tt k1 (ww bA (ww aG (tt k0 nn))))))) (fun k1=>(sl Zm 23 [] ⟨[],[],rsmN0,rsmM0⟩ ⟨[],[],[]⟩ (bl 2 1) (tt k1 (ww bA (ww aG (tt k0 nn)))))))))) (fun k0=>(lr 26 3 [1,1,1,1,1,1,1,0] 1 5 [(4,(.bool true))] (sl Zm 14 [] ⟨[],[],[some [4]],[]⟩ ⟨[],[],[]⟩ [false] (tt k0 nn)))))
theorem x6b (l0:List R2) (l1:List R2):Xq prog (Zy prog 169) (rsmC l0 l1) (Zc prog 169 [(.dat l0.length (Zz l0)),(.dat l1.length (Zz l1))] true []) (z6x l0 l1):=(lb (fun k0=>(lr 26 169 [1,0,1,0,0] 1 5 [(4,(.bool false))] (sl Zm 18 [] ⟨[],[],[some [4]],[]⟩ ⟨[],[],[]⟩ [true] (tt k0 nn)))) (fun k0=>(sl Zm 22 [] ⟨[],[],rsmN0,rsmM0⟩ ⟨[],[],[]⟩ [false] (tt k0 nn))))
theorem v5i (l0:List R2) (l1:List R2) (n:Nat) (vs:List AVal) (h:Yj (z6a l0 l1) n (z6x l0 l1)=.ret vs):Kv prog (Zy prog 169) (Zc prog 169 [(.dat l0.length (Zz l0)),(.dat l1.length (Zz l1))] true []) vs:=by have:=Zn (w4b l0 l1) n _ (x6b l0 l1);rwa [h] at this
inductive rhasS where
 | h0 (v7:Int)
def u6g (l0:List R4) (x1:Int) (x2:Int):rhasS→Cfg
 | .h0 v7=>⟨⟨48,0,true⟩,none,(Zd prog 168 [1,0,1,0,0] 0),none,(Zy prog 8),⟨Yd [(0,(.dat l0.length (Zz l0))),(1,(ii x1)),(2,(ii x2)),(7,(ii v7))],Uy [] 0,0,[],true⟩,[],.leaf⟩
def x2l :List (Option (List Nat)):=[some [0,1,2,7]]
def x2m :List (Option (List Nat)):=[]
def z4u (l0:List R4) (x1:Int) (x2:Int):rhasS→Xf rhasS
 | .h0 v7=>(bif (decide (v7<(l0.length:Int))) then (bif ((decide (0≤v7∧v7<(l0.length:Int)))&&true) then (bif (decide ((rd l0 v7.toNat).a ≤x1)) then (bif (decide (x1<(rd l0 v7.toNat).c)) then (bif (decide ((rd l0 v7.toNat).b ≤x2)) then (bif (decide (x2<(rd l0 v7.toNat).d)) then (.ret [(.bool true)]) else (.to (.h0 (wrap .i64 (v7+1))))) else (.to (.h0 (wrap .i64 (v7+1))))) else (.to (.h0 (wrap .i64 (v7+1))))) else (.to (.h0 (wrap .i64 (v7+1))))) else .stuck) else (.ret [(.bool false)]))
def z7b (l0:List R4) (x1:Int) (x2:Int):Xf rhasS:=(.to (.h0 0))
theorem x6j (l0:List R4) (x1:Int) (x2:Int): ∀s,Xq prog (Zy prog 168) (u6g l0 x1 x2) (u6g l0 x1 x2 s) (z4u l0 x1 x2 s)
 | .h0 v7=>(lb (fun k0=>(lo fun aG=>(lb (fun k1=>(lb (fun k2=>(lb (fun k3=>(lb (fun k4=>(lr 48 168 [1,0,1,0,0,1,0,0,1,0,0] 1 8 [(6,(.bool true))] (sl Zm 54 [] ⟨[],[],[some [6]],[]⟩ ⟨[],[],[]⟩ (trs 23 []) (tt k4 (ww aG (tt k3 (ww aG (tt k2 (ww aG (tt k1 (ww aG (tt k0 nn)))))))))))) (fun k4=>(sl Zm 58 [] ⟨[],[],x2l,x2m⟩ ⟨[],[],[]⟩ (trs 22 [false]) (tt k4 (ww aG (tt k3 (ww aG (tt k2 (ww aG (tt k1 (ww aG (tt k0 nn))))))))))))) (fun k3=>(sl Zm 58 [] ⟨[],[],x2l,x2m⟩ ⟨[],[],[]⟩ (trs 15 (bl 8 0)) (tt k3 (ww aG (tt k2 (ww aG (tt k1 (ww aG (tt k0 nn))))))))))) (fun k2=>(sl Zm 58 [] ⟨[],[],x2l,x2m⟩ ⟨[],[],[]⟩ (trs 8 (bl 15 0)) (tt k2 (ww aG (tt k1 (ww aG (tt k0 nn))))))))) (fun k1=>(sl Zm 58 [] ⟨[],[],x2l,x2m⟩ ⟨[],[],[]⟩ (bl 23 1) (tt k1 (ww aG (tt k0 nn)))))))) (fun k0=>(lr 48 3 [1,1,1,1,1,1,1,0] 1 8 [(6,(.bool false))] (sl Zm 14 [] ⟨[],[],[some [6]],[]⟩ ⟨[],[],[]⟩ [false] (tt k0 nn)))))
theorem x2k (l0:List R4) (x1:Int) (x2:Int):Xq prog (Zy prog 168) (u6g l0 x1 x2) (Zc prog 168 [(.dat l0.length (Zz l0)),(.int .i64 x1),(.int .i64 x2)] true []) (z7b l0 x1 x2):=(sl Zm 11 [] ⟨[],[],x2l,x2m⟩ ⟨[],[],[]⟩ [] nn)
theorem w9c (l0:List R4) (x1:Int) (x2:Int) (n:Nat) (vs:List AVal) (h:Yj (z4u l0 x1 x2) n (z7b l0 x1 x2)=.ret vs):Kv prog (Zy prog 168) (Zc prog 168 [(.dat l0.length (Zz l0)),(.int .i64 x1),(.int .i64 x2)] true []) vs:=by have:=Zn (x6j l0 x1 x2) n _ (x2k l0 x1 x2);rwa [h] at this
inductive rsrS where
 | h0 (v5:Int)
def rsrC (l0:List R4) (l1:List R4):rsrS→Cfg
 | .h0 v5=>⟨⟨26,0,true⟩,none,(Zd prog 128 [1,1,0,1,0,0] 0),none,(Zy prog 5),⟨Yd [(0,(.dat l0.length (Zz l0))),(1,(.dat l1.length (Zz l1))),(5,(ii v5))],Uy [] 0,0,[],true⟩,[],.leaf⟩
def rsrN0 :List (Option (List Nat)):=[some [0,1,5]]
def rsrM0 :List (Option (List Nat)):=[]
def z5z (l0:List R4) (l1:List R4):rsrS→Xf rsrS
 | .h0 v5=>(bif (decide (v5<(l0.length:Int))) then (bif ((decide (0≤v5∧v5<(l0.length:Int)))&&true) then (bif ((decide (0≤v5∧v5<(l1.length:Int)))&&true) then (bif (!(((rd l0 v5.toNat).a == (rd l1 v5.toNat).a)&&(((rd l0 v5.toNat).b == (rd l1 v5.toNat).b)&&(((rd l0 v5.toNat).c == (rd l1 v5.toNat).c)&&(((rd l0 v5.toNat).d == (rd l1 v5.toNat).d)&&true))))) then (.ret [(.bool false)]) else (.to (.h0 (wrap .i64 (v5+1))))) else .stuck) else .stuck) else (.ret [(.bool true)]))
def z6w (l0:List R4) (l1:List R4):Xf rsrS:=(bif ((l0.length:Int) != (l1.length:Int)) then (.ret [(.bool false)]) else (.to (.h0 0)))
theorem w3z (l0:List R4) (l1:List R4): ∀s,Xq prog (Zy prog 128) (rsrC l0 l1) (rsrC l0 l1 s) (z5z l0 l1 s)
 | .h0 v5=>(lb (fun k0=>(lo fun aG=>(lo fun bA=>(lb (fun k1=>(lr 26 128 [1,1,0,1,0,0,1,0,0,1,0,0] 1 5 [(4,(.bool false))] (sl Zm 19 [] ⟨[],[],[some [4]],[]⟩ ⟨[],[],[]⟩ (bl 2 3) (tt k1 (ww bA (ww aG (tt k0 nn))))))) (fun k1=>(sl Zm 23 [] ⟨[],[],rsrN0,rsrM0⟩ ⟨[],[],[]⟩ (bl 2 1) (tt k1 (ww bA (ww aG (tt k0 nn)))))))))) (fun k0=>(lr 26 3 [1,1,1,1,1,1,1,0] 1 5 [(4,(.bool true))] (sl Zm 14 [] ⟨[],[],[some [4]],[]⟩ ⟨[],[],[]⟩ [false] (tt k0 nn)))))
theorem x6a (l0:List R4) (l1:List R4):Xq prog (Zy prog 128) (rsrC l0 l1) (Zc prog 128 [(.dat l0.length (Zz l0)),(.dat l1.length (Zz l1))] true []) (z6w l0 l1):=(lb (fun k0=>(lr 26 128 [1,0,1,0,0] 1 5 [(4,(.bool false))] (sl Zm 18 [] ⟨[],[],[some [4]],[]⟩ ⟨[],[],[]⟩ [true] (tt k0 nn)))) (fun k0=>(sl Zm 22 [] ⟨[],[],rsrN0,rsrM0⟩ ⟨[],[],[]⟩ [false] (tt k0 nn))))
theorem v5h (l0:List R4) (l1:List R4) (n:Nat) (vs:List AVal) (h:Yj (z5z l0 l1) n (z6w l0 l1)=.ret vs):Kv prog (Zy prog 128) (Zc prog 128 [(.dat l0.length (Zz l0)),(.dat l1.length (Zz l1))] true []) vs:=by have:=Zn (w3z l0 l1) n _ (x6a l0 l1);rwa [h] at this
inductive rsbS where
 | h0 (v5:Int)
def rsbC (l0:List R6) (l1:List R6):rsbS→Cfg
 | .h0 v5=>⟨⟨26,0,true⟩,none,(Zd prog 20 [1,1,0,1,0,0] 0),none,(Zy prog 5),⟨Yd [(0,(.dat l0.length (Zz l0))),(1,(.dat l1.length (Zz l1))),(5,(ii v5))],Uy [] 0,0,[],true⟩,[],.leaf⟩
def rsbN0 :List (Option (List Nat)):=[some [0,1,5]]
def rsbM0 :List (Option (List Nat)):=[]
def z6b (l0:List R6) (l1:List R6):rsbS→Xf rsbS
 | .h0 v5=>(bif (decide (v5<(l0.length:Int))) then (bif ((decide (0≤v5∧v5<(l0.length:Int)))&&true) then (bif ((decide (0≤v5∧v5<(l1.length:Int)))&&true) then (bif (!((((rd l0 v5.toNat).a == (rd l1 v5.toNat).a)&&(((rd l0 v5.toNat).b == (rd l1 v5.toNat).b)&&(((rd l0 v5.toNat).c == (rd l1 v5.toNat).c)&&true)))&&((((rd l0 v5.toNat).d == (rd l1 v5.toNat).d)&&(((rd l0 v5.toNat).e == (rd l1 v5.toNat).e)&&(((rd l0 v5.toNat).f == (rd l1 v5.toNat).f)&&true)))&&true))) then (.ret [(.bool false)]) else (.to (.h0 (wrap .i64 (v5+1))))) else .stuck) else .stuck) else (.ret [(.bool true)]))
def z6y (l0:List R6) (l1:List R6):Xf rsbS:=(bif ((l0.length:Int) != (l1.length:Int)) then (.ret [(.bool false)]) else (.to (.h0 0)))
theorem w4c (l0:List R6) (l1:List R6): ∀s,Xq prog (Zy prog 20) (rsbC l0 l1) (rsbC l0 l1 s) (z6b l0 l1 s)
 | .h0 v5=>(lb (fun k0=>(lo fun aG=>(lo fun bA=>(lb (fun k1=>(lr 26 20 [1,1,0,1,0,0,1,0,0,1,0,0] 1 5 [(4,(.bool false))] (sl Zm 19 [] ⟨[],[],[some [4]],[]⟩ ⟨[],[],[]⟩ (bl 2 3) (tt k1 (ww bA (ww aG (tt k0 nn))))))) (fun k1=>(sl Zm 23 [] ⟨[],[],rsbN0,rsbM0⟩ ⟨[],[],[]⟩ (bl 2 1) (tt k1 (ww bA (ww aG (tt k0 nn)))))))))) (fun k0=>(lr 26 3 [1,1,1,1,1,1,1,0] 1 5 [(4,(.bool true))] (sl Zm 14 [] ⟨[],[],[some [4]],[]⟩ ⟨[],[],[]⟩ [false] (tt k0 nn)))))
theorem x6c (l0:List R6) (l1:List R6):Xq prog (Zy prog 20) (rsbC l0 l1) (Zc prog 20 [(.dat l0.length (Zz l0)),(.dat l1.length (Zz l1))] true []) (z6y l0 l1):=(lb (fun k0=>(lr 26 20 [1,0,1,0,0] 1 5 [(4,(.bool false))] (sl Zm 18 [] ⟨[],[],[some [4]],[]⟩ ⟨[],[],[]⟩ [true] (tt k0 nn)))) (fun k0=>(sl Zm 22 [] ⟨[],[],rsbN0,rsbM0⟩ ⟨[],[],[]⟩ [false] (tt k0 nn))))
theorem v5j (l0:List R6) (l1:List R6) (n:Nat) (vs:List AVal) (h:Yj (z6b l0 l1) n (z6y l0 l1)=.ret vs):Kv prog (Zy prog 20) (Zc prog 20 [(.dat l0.length (Zz l0)),(.dat l1.length (Zz l1))] true []) vs:=by have:=Zn (w4c l0 l1) n _ (x6c l0 l1);rwa [h] at this
inductive ratS where
 | h0 (v5:List R4) (v6:Int)
def ratC (l0:List R6) (x1:Int):ratS→Cfg
 | .h0 v5 v6=>⟨⟨60,0,true⟩,none,(Zd prog 127 [1,1,0,1,0,0] 0),none,(Zy prog 5),⟨Yd [(0,(.dat l0.length (Zz l0))),(1,(ii x1)),(5,(.sla 0 4 0 v5.length (.un 4))),(6,(ii v6))],Uy [⟨rows v5.length (Zz v5),88,some ⟨4,v5.length,(Zz v5)⟩⟩] 0,1,[],true⟩,[],.leaf⟩
def v6i :List (Option (List Nat)):=[some [0,1,5,6]]
def v6j :List (Option (List Nat)):=[]
def z6e (l0:List R6) (x1:Int):ratS→Xf ratS
 | .h0 v5 v6=>(bif (decide (v6<(l0.length:Int))) then (bif ((decide (0≤v6∧v6<(l0.length:Int)))&&true) then (bif (decide ((rd l0 v6.toNat).c ≤x1)) then (bif (decide (x1<(rd l0 v6.toNat).f)) then (bif (Nat.beq 4 4&&((decide (0+v5.length=v5.length))&&decide ((v5.length+1+1)*(32+1)≤Ju))) then (.to (.h0 (v5++[(R4.mk (rd l0 v6.toNat).a (rd l0 v6.toNat).b (rd l0 v6.toNat).d (rd l0 v6.toNat).e)]) (wrap .i64 (v6+1)))) else .stuck) else (.to (.h0 v5 (wrap .i64 (v6+1))))) else (.to (.h0 v5 (wrap .i64 (v6+1))))) else .stuck) else (.ret [(.dat v5.length (Zz v5))]))
def y1y (l0:List R6) (x1:Int):Xf ratS:=(.to (.h0 ([]:List R4) 0))
theorem w4l (l0:List R6) (x1:Int): ∀s,Xq prog (Zy prog 127) (ratC l0 x1) (ratC l0 x1 s) (z6e l0 x1 s)
 | .h0 v5 v6=>(lb (fun k0=>(lo fun aG=>(lb (fun k1=>(lb (fun k2=>(lo fun o0=>(sl Zm 42 [] ⟨[2],[],v6i,v6j⟩ ⟨[(5,.len (v5++[(R4.mk (rd l0 (tn v6)).a (rd l0 (tn v6)).b (rd l0 (tn v6)).d (rd l0 (tn v6)).e)]).length)],[.rowed 4 (v5++[(R4.mk (rd l0 (tn v6)).a (rd l0 (tn v6)).b (rd l0 (tn v6)).d (rd l0 (tn v6)).e)]).length (Zz (v5++[(R4.mk (rd l0 (tn v6)).a (rd l0 (tn v6)).b (rd l0 (tn v6)).d (rd l0 (tn v6)).e)]))],[]⟩ (trs 10 []) (pp (xL (v5.length+1) (v5++[(R4.mk (rd l0 (tn v6)).a (rd l0 (tn v6)).b (rd l0 (tn v6)).d (rd l0 (tn v6)).e)]).length) (pp (xL (v5.length+1) (v5++[(R4.mk (rd l0 (tn v6)).a (rd l0 (tn v6)).b (rd l0 (tn v6)).d (rd l0 (tn v6)).e)]).length) (pp (xS (v5.length+1) (Zi (Zz v5) 0 v5.length 4 [(ii (rd l0 (tn v6)).a),(ii (rd l0 (tn v6)).b),(ii (rd l0 (tn v6)).d),(ii (rd l0 (tn v6)).e)]) (Zz (v5++[(R4.mk (rd l0 (tn v6)).a (rd l0 (tn v6)).b (rd l0 (tn v6)).d (rd l0 (tn v6)).e)]))) (pp (pp (xF (Zi (Zz v5) 0 v5.length 4 [(ii (rd l0 (tn v6)).a),(ii (rd l0 (tn v6)).b),(ii (rd l0 (tn v6)).d),(ii (rd l0 (tn v6)).e)])) nn) (ww o0 (ww aG (ww aG (ww aG (ww aG (tt k2 (ww aG (tt k1 (ww aG (tt k0 nn))))))))))))))))) (fun k2=>(sl Zm 42 [] ⟨[0],[],v6i,v6j⟩ ⟨[],[],[]⟩ (trs 9 [false]) (pp (fl v5 nn) (tt k2 (ww aG (tt k1 (ww aG (tt k0 nn)))))))))) (fun k1=>(sl Zm 42 [] ⟨[0],[],v6i,v6j⟩ ⟨[],[],[]⟩ (bl 10 1) (pp (fl v5 nn) (tt k1 (ww aG (tt k0 nn))))))))) (fun k0=>(lr 60 3 [1,1,1,1,1,1,1,0] 1 5 [(4,(.dat v5.length (Zz v5)))] (sl Zm 15 [] ⟨[],[0],[some [4]],[]⟩ ⟨[(4,.frz v5.length v5.length (Zz v5) (Zz v5))],[],[]⟩ [false] (pp (xZ (z6i 4 4 0 v5.length v5.length (Zz v5)) v5.length (Zz v5)) (pp (xL v5.length v5.length) (pp (xS v5.length (Zz v5) (Zz v5)) (pp (fl v5 nn) (tt k0 nn)))))))))
theorem x6t (l0:List R6) (x1:Int):Xq prog (Zy prog 127) (ratC l0 x1) (Zc prog 127 [(.dat l0.length (Zz l0)),(.int .i64 x1)] true []) (y1y l0 x1):=(sl Zm 15 [(88,4,Zz ([]:List R4))] ⟨[0],[],v6i,v6j⟩ ⟨[(5,.grow 0 4)],[],[]⟩ [] (pp (fl ([]:List R4) nn) nn))
theorem v6h (l0:List R6) (x1:Int) (n:Nat) (vs:List AVal) (h:Yj (z6e l0 x1) n (y1y l0 x1)=.ret vs):Kv prog (Zy prog 127) (Zc prog 127 [(.dat l0.length (Zz l0)),(.int .i64 x1)] true []) vs:=by have:=Zn (w4l l0 x1) n _ (x6t l0 x1);rwa [h] at this
inductive eqaS where
 | h0 (v13:Int)
def eqaC (l0:List R2) (l1:List R2):eqaS→Cfg
 | .h0 v13=>⟨⟨26,0,true⟩,none,(Zd prog 188 [1,1,0,1,0,0] 0),none,(Zy prog 5),⟨Yd [(0,(.dat l0.length (Zz l0))),(1,(.dat l1.length (Zz l1))),(12,(ii (l0.length:Int))),(13,(ii v13))],Uy [] 0,0,[],true⟩,[],.leaf⟩
def eqaN0 :List (Option (List Nat)):=[some [0,1,12,13]]
def eqaM0 :List (Option (List Nat)):=[]
def z6n (l0:List R2) (l1:List R2):eqaS→Xf eqaS
 | .h0 v13=>(bif (decide (v13<(l0.length:Int))) then (bif ((decide (0≤v13∧v13<(l0.length:Int)))&&true) then (bif ((decide (0≤v13∧v13<(l1.length:Int)))&&true) then (bif (!(((rd l0 v13.toNat).a == (rd l1 v13.toNat).a)&&(((rd l0 v13.toNat).b == (rd l1 v13.toNat).b)&&true))) then (.ret [(.bool false)]) else (.to (.h0 (wrap .i64 (v13+1))))) else .stuck) else .stuck) else (.ret [(.bool true)]))
def z7z (l0:List R2) (l1:List R2):Xf eqaS:=(bif ((l0.length:Int) != (l1.length:Int)) then (.ret [(.bool false)]) else (.to (.h0 0)))
theorem w6b (l0:List R2) (l1:List R2): ∀s,Xq prog (Zy prog 188) (eqaC l0 l1) (eqaC l0 l1 s) (z6n l0 l1 s)
 | .h0 v13=>(lb (fun k0=>(lo fun aG=>(lo fun bA=>(lb (fun k1=>(lr 26 188 [1,1,0,1,0,0,1,1,0,0,1,1,0,0] 1 5 [(4,(.bool false))] (sl Zm 21 [] ⟨[],[],[some [4]],[]⟩ ⟨[],[],[]⟩ (bl 2 3) (tt k1 (ww bA (ww aG (tt k0 nn))))))) (fun k1=>(sl Zm 24 [] ⟨[],[],eqaN0,eqaM0⟩ ⟨[],[],[]⟩ (bl 2 1) (tt k1 (ww bA (ww aG (tt k0 nn)))))))))) (fun k0=>(lr 26 3 [1,1,1,1,1,1,1,0] 1 5 [(4,(.bool true))] (sl Zm 11 [] ⟨[],[],[some [4]],[]⟩ ⟨[],[],[]⟩ [false] (tt k0 nn)))))
theorem x8s (l0:List R2) (l1:List R2):Xq prog (Zy prog 188) (eqaC l0 l1) (Zc prog 188 [(.dat l0.length (Zz l0)),(.dat l1.length (Zz l1))] true []) (z7z l0 l1):=(lb (fun k0=>(lr 26 188 [1,0,1,0,0] 1 5 [(4,(.bool false))] (sl Zm 18 [] ⟨[],[],[some [4]],[]⟩ ⟨[],[],[]⟩ [true] (tt k0 nn)))) (fun k0=>(sl Zm 24 [] ⟨[],[],eqaN0,eqaM0⟩ ⟨[],[],[]⟩ [false] (tt k0 nn))))
theorem v8x (l0:List R2) (l1:List R2) (n:Nat) (vs:List AVal) (h:Yj (z6n l0 l1) n (z7z l0 l1)=.ret vs):Kv prog (Zy prog 188) (Zc prog 188 [(.dat l0.length (Zz l0)),(.dat l1.length (Zz l1))] true []) vs:=by have:=Zn (w6b l0 l1) n _ (x8s l0 l1);rwa [h] at this
inductive eqbS where
 | h0 (v13:Int)
def eqbC (l0:List R4) (l1:List R4):eqbS→Cfg
 | .h0 v13=>⟨⟨26,0,true⟩,none,(Zd prog 172 [1,1,0,1,0,0] 0),none,(Zy prog 5),⟨Yd [(0,(.dat l0.length (Zz l0))),(1,(.dat l1.length (Zz l1))),(12,(ii (l0.length:Int))),(13,(ii v13))],Uy [] 0,0,[],true⟩,[],.leaf⟩
def eqbN0 :List (Option (List Nat)):=[some [0,1,12,13]]
def eqbM0 :List (Option (List Nat)):=[]
def z6m (l0:List R4) (l1:List R4):eqbS→Xf eqbS
 | .h0 v13=>(bif (decide (v13<(l0.length:Int))) then (bif ((decide (0≤v13∧v13<(l0.length:Int)))&&true) then (bif ((decide (0≤v13∧v13<(l1.length:Int)))&&true) then (bif (!(((rd l0 v13.toNat).a == (rd l1 v13.toNat).a)&&(((rd l0 v13.toNat).b == (rd l1 v13.toNat).b)&&(((rd l0 v13.toNat).c == (rd l1 v13.toNat).c)&&(((rd l0 v13.toNat).d == (rd l1 v13.toNat).d)&&true))))) then (.ret [(.bool false)]) else (.to (.h0 (wrap .i64 (v13+1))))) else .stuck) else .stuck) else (.ret [(.bool true)]))
def z7y (l0:List R4) (l1:List R4):Xf eqbS:=(bif ((l0.length:Int) != (l1.length:Int)) then (.ret [(.bool false)]) else (.to (.h0 0)))
theorem w6a (l0:List R4) (l1:List R4): ∀s,Xq prog (Zy prog 172) (eqbC l0 l1) (eqbC l0 l1 s) (z6m l0 l1 s)
 | .h0 v13=>(lb (fun k0=>(lo fun aG=>(lo fun bA=>(lb (fun k1=>(lr 26 172 [1,1,0,1,0,0,1,1,0,0,1,1,0,0] 1 5 [(4,(.bool false))] (sl Zm 21 [] ⟨[],[],[some [4]],[]⟩ ⟨[],[],[]⟩ (bl 2 3) (tt k1 (ww bA (ww aG (tt k0 nn))))))) (fun k1=>(sl Zm 24 [] ⟨[],[],eqbN0,eqbM0⟩ ⟨[],[],[]⟩ (bl 2 1) (tt k1 (ww bA (ww aG (tt k0 nn)))))))))) (fun k0=>(lr 26 3 [1,1,1,1,1,1,1,0] 1 5 [(4,(.bool true))] (sl Zm 11 [] ⟨[],[],[some [4]],[]⟩ ⟨[],[],[]⟩ [false] (tt k0 nn)))))
theorem x8r (l0:List R4) (l1:List R4):Xq prog (Zy prog 172) (eqbC l0 l1) (Zc prog 172 [(.dat l0.length (Zz l0)),(.dat l1.length (Zz l1))] true []) (z7y l0 l1):=(lb (fun k0=>(lr 26 172 [1,0,1,0,0] 1 5 [(4,(.bool false))] (sl Zm 18 [] ⟨[],[],[some [4]],[]⟩ ⟨[],[],[]⟩ [true] (tt k0 nn)))) (fun k0=>(sl Zm 24 [] ⟨[],[],eqbN0,eqbM0⟩ ⟨[],[],[]⟩ [false] (tt k0 nn))))
theorem v8w (l0:List R4) (l1:List R4) (n:Nat) (vs:List AVal) (h:Yj (z6m l0 l1) n (z7y l0 l1)=.ret vs):Kv prog (Zy prog 172) (Zc prog 172 [(.dat l0.length (Zz l0)),(.dat l1.length (Zz l1))] true []) vs:=by have:=Zn (w6a l0 l1) n _ (x8r l0 l1);rwa [h] at this
inductive eqcS where
 | h0 (v13:Int)
def eqcC (l0:List R6) (l1:List R6):eqcS→Cfg
 | .h0 v13=>⟨⟨26,0,true⟩,none,(Zd prog 99 [1,1,0,1,0,0] 0),none,(Zy prog 5),⟨Yd [(0,(.dat l0.length (Zz l0))),(1,(.dat l1.length (Zz l1))),(12,(ii (l0.length:Int))),(13,(ii v13))],Uy [] 0,0,[],true⟩,[],.leaf⟩
def eqcN0 :List (Option (List Nat)):=[some [0,1,12,13]]
def eqcM0 :List (Option (List Nat)):=[]
def z6l (l0:List R6) (l1:List R6):eqcS→Xf eqcS
 | .h0 v13=>(bif (decide (v13<(l0.length:Int))) then (bif ((decide (0≤v13∧v13<(l0.length:Int)))&&true) then (bif ((decide (0≤v13∧v13<(l1.length:Int)))&&true) then (bif (!((((rd l0 v13.toNat).a == (rd l1 v13.toNat).a)&&(((rd l0 v13.toNat).b == (rd l1 v13.toNat).b)&&(((rd l0 v13.toNat).c == (rd l1 v13.toNat).c)&&true)))&&((((rd l0 v13.toNat).d == (rd l1 v13.toNat).d)&&(((rd l0 v13.toNat).e == (rd l1 v13.toNat).e)&&(((rd l0 v13.toNat).f == (rd l1 v13.toNat).f)&&true)))&&true))) then (.ret [(.bool false)]) else (.to (.h0 (wrap .i64 (v13+1))))) else .stuck) else .stuck) else (.ret [(.bool true)]))
def z7x (l0:List R6) (l1:List R6):Xf eqcS:=(bif ((l0.length:Int) != (l1.length:Int)) then (.ret [(.bool false)]) else (.to (.h0 0)))
theorem w5z (l0:List R6) (l1:List R6): ∀s,Xq prog (Zy prog 99) (eqcC l0 l1) (eqcC l0 l1 s) (z6l l0 l1 s)
 | .h0 v13=>(lb (fun k0=>(lo fun aG=>(lo fun bA=>(lb (fun k1=>(lr 26 99 [1,1,0,1,0,0,1,1,0,0,1,1,0,0] 1 5 [(4,(.bool false))] (sl Zm 21 [] ⟨[],[],[some [4]],[]⟩ ⟨[],[],[]⟩ (bl 2 3) (tt k1 (ww bA (ww aG (tt k0 nn))))))) (fun k1=>(sl Zm 24 [] ⟨[],[],eqcN0,eqcM0⟩ ⟨[],[],[]⟩ (bl 2 1) (tt k1 (ww bA (ww aG (tt k0 nn)))))))))) (fun k0=>(lr 26 3 [1,1,1,1,1,1,1,0] 1 5 [(4,(.bool true))] (sl Zm 11 [] ⟨[],[],[some [4]],[]⟩ ⟨[],[],[]⟩ [false] (tt k0 nn)))))
theorem x8q (l0:List R6) (l1:List R6):Xq prog (Zy prog 99) (eqcC l0 l1) (Zc prog 99 [(.dat l0.length (Zz l0)),(.dat l1.length (Zz l1))] true []) (z7x l0 l1):=(lb (fun k0=>(lr 26 99 [1,0,1,0,0] 1 5 [(4,(.bool false))] (sl Zm 18 [] ⟨[],[],[some [4]],[]⟩ ⟨[],[],[]⟩ [true] (tt k0 nn)))) (fun k0=>(sl Zm 24 [] ⟨[],[],eqcN0,eqcM0⟩ ⟨[],[],[]⟩ [false] (tt k0 nn))))
theorem v8v (l0:List R6) (l1:List R6) (n:Nat) (vs:List AVal) (h:Yj (z6l l0 l1) n (z7x l0 l1)=.ret vs):Kv prog (Zy prog 99) (Zc prog 99 [(.dat l0.length (Zz l0)),(.dat l1.length (Zz l1))] true []) vs:=by have:=Zn (w5z l0 l1) n _ (x8q l0 l1);rwa [h] at this
inductive holS where
def holC (x0:Int) (x1:Bool) (x2:Bool):holS→Cfg
 :=nofun
def x8e (x0:Int) (x1:Bool) (x2:Bool):holS→Xf holS
 :=nofun
def y2n (x0:Int) (x1:Bool) (x2:Bool):Xf holS:=(bif (x0 == 1) then (bif x1 then (.ret [(.bool x2)]) else (.ret [(.bool false)])) else (bif (x0 == 2) then (bif x1 then (.ret [(.bool true)]) else (.ret [(.bool x2)])) else (bif x1 then (.ret [(.bool (!x2))]) else (.ret [(.bool false)]))))
theorem w5o (x0:Int) (x1:Bool) (x2:Bool): ∀s,Xq prog (Zy prog 167) (holC x0 x1 x2) (holC x0 x1 x2 s) (x8e x0 x1 x2 s)
 :=nofun
theorem x8f (x0:Int) (x1:Bool) (x2:Bool):Xq prog (Zy prog 167) (holC x0 x1 x2) (Zc prog 167 [(.int .i64 x0),(.bool x1),(.bool x2)] true []) (y2n x0 x1 x2):=(lb (fun k0=>(lb (fun k1=>(lr 24 167 [1,0,1,0,0] 1 8 [(6,(.bool x2))] (sl Zm 19 [] ⟨[],[],[some [6]],[]⟩ ⟨[],[],[]⟩ [true,true] (tt k1 (tt k0 nn))))) (fun k1=>(lr 24 167 [1,0,1,0,0] 1 8 [(6,(.bool false))] (sl Zm 19 [] ⟨[],[],[some [6]],[]⟩ ⟨[],[],[]⟩ [true,false] (tt k1 (tt k0 nn))))))) (fun k0=>(lb (fun k1=>(lb (fun k2=>(lr 24 167 [1,1,0,1,0,0] 1 8 [(6,(.bool true))] (sl Zm 27 [] ⟨[],[],[some [6]],[]⟩ ⟨[],[],[]⟩ [false,true,true] (tt k2 (tt k1 (tt k0 nn)))))) (fun k2=>(lr 24 167 [1,1,0,1,0,0] 1 8 [(6,(.bool x2))] (sl Zm 27 [] ⟨[],[],[some [6]],[]⟩ ⟨[],[],[]⟩ [false,true,false] (tt k2 (tt k1 (tt k0 nn)))))))) (fun k1=>(lb (fun k2=>(lr 24 3 [1,1,1,1,1,1,1,0] 1 8 [(6,(.bool (!x2)))] (sl Zm 29 [] ⟨[],[],[some [6]],[]⟩ ⟨[],[],[]⟩ [false,false,true,true] (tt k2 (tt k1 (tt k0 nn)))))) (fun k2=>(lr 24 3 [1,1,1,1,1,1,1,0] 1 8 [(6,(.bool false))] (sl Zm 29 [] ⟨[],[],[some [6]],[]⟩ ⟨[],[],[]⟩ [false,false,false,false] (tt k2 (tt k1 (tt k0 nn)))))))))))
theorem v8h (x0:Int) (x1:Bool) (x2:Bool) (n:Nat) (vs:List AVal) (h:Yj (x8e x0 x1 x2) n (y2n x0 x1 x2)=.ret vs):Kv prog (Zy prog 167) (Zc prog 167 [(.int .i64 x0),(.bool x1),(.bool x2)] true []) vs:=by have:=Zn (w5o x0 x1 x2) n _ (x8f x0 x1 x2);rwa [h] at this
inductive fstS where
def fstC (x0:Bool) (x1:Bool):fstS→Cfg
 :=nofun
def x8h (x0:Bool) (x1:Bool):fstS→Xf fstS
 :=nofun
def x0z (x0:Bool) (x1:Bool):Xf fstS:=(.ret [(.bool x0)])
theorem w5q (x0:Bool) (x1:Bool): ∀s,Xq prog (Zy prog 187) (fstC x0 x1) (fstC x0 x1 s) (x8h x0 x1 s)
 :=nofun
theorem x8i (x0:Bool) (x1:Bool):Xq prog (Zy prog 187) (fstC x0 x1) (Zc prog 187 [(.bool x0),(.bool x1)] true []) (x0z x0 x1):=(lr 6 3 [1,1,1,1,1,1,1,0] 1 5 [(4,(.bool x0))] (sl Zm 9 [] ⟨[],[],[some [4]],[]⟩ ⟨[],[],[]⟩ [] nn))
theorem v8i (x0:Bool) (x1:Bool) (n:Nat) (vs:List AVal) (h:Yj (x8h x0 x1) n (x0z x0 x1)=.ret vs):Kv prog (Zy prog 187) (Zc prog 187 [(.bool x0),(.bool x1)] true []) vs:=by have:=Zn (w5q x0 x1) n _ (x8i x0 x1);rwa [h] at this
theorem Zs {a b:Int} (h:a<b):decide (a<b)=true:=Ah h
theorem Yw {a b:Int} (h: ¬a<b):decide (a<b)=false:=Ay h
theorem Wy {a b:Int} (h:a≤b):decide (a≤b)=true:=Ah h
theorem x8u {a b:Int} (h: ¬a≤b):decide (a≤b)=false:=Ay h
theorem Yo {a b:Int} (h:a>b):decide (a>b)=true:=Ah h
theorem Xb {a b:Int} (h: ¬a>b):decide (a>b)=false:=Ay h
theorem dge_t {a b:Int} (h:a≥b):decide (a≥b)=true:=Ah h
theorem Yk {a b:Nat} (h:a<b):decide (a<b)=true:=Ah h
theorem Yc {a b:Nat} (h:a≤b):decide (a≤b)=true:=Ah h
theorem Yp {a b:Nat} (h:a=b):decide (a=b)=true:=Ah h
theorem Zt {a b:Int} (h:0≤a∧a<b):decide (0≤a∧a<b)=true:=Ah h
theorem Zf {a:Nat} (h:a≤1099511627776):decide (a≤Ju)=true:=Ah h
theorem Zp {n:Int} (h: -9223372036854775808≤n∧n≤9223372036854775807):wrap .i64 n=n:=w_in h.1 h.2
theorem z2z :((0:Nat):Int)=0:=rfl
theorem Zx (i:Nat):(i:Int)+1=((i+1:Nat):Int):=rfl
theorem Zo (i:Nat):((i+1:Nat):Int) - 1=(i:Int):=by omega
theorem z0h {a b:Int} (h:a≠b):(a != b)=true:=by simp [h]
theorem z0i {a b:Int} (h:a=b):(a != b)=false:=by simp [h]
theorem Ya (n:Nat):Nat.beq n n=true:=BY n
theorem Zk (n:Nat):Int.toNat (n:Int)=n:=Int.toNat_natCast n
theorem Ye (b:Bool):b=true∨b=false:=by cases b <;> simp
theorem Ym {α:Type} [Ys α] {L:List α} {i:Nat} (h:i<L.length):L.drop i=rd L i::L.drop (i+1):=by rw [Xp h];exact Cj h
theorem z3m {P:Program} {S:Specs} (hS:Zj P S) {f:FuncId} {F:List AVal→Option (AVal×Bool)} (hf:(P.funcs[f]?).any (fun fn=>fn.body.isSome)=true)
  (hF: ∀args v,F args=some (v,true)→ ∃bs vs,Vu VLe args bs∧Jt vs=v∧Kv P (Zy P f) (Zc P f bs true []) vs∧ ∃d,pf d v=true):Zj P (S.with f F):=w2x hS hf hF
def x6v (out:List Int) (x:Int):Nat→Nat
 | 0=>0
 | k+1=>bif decide (rd out k>x) then x6v out x k else k+1
def y4k (out:List Int) (x:Int):List Int:=
 match x6v out x out.length with
 | 0=>x::out
 | k+1=>bif rd out k == x then out else out.take (k+1)++x::out.drop (k+1)
def z3h (l:List Int):List Int:=l.foldl y4k []
def Ki (l:List Int):Bool:=decide (l.length≤100000)
theorem y4j (out:List Int) (x:Int):(y4k out x).length ≤out.length+1:=by
 unfold y4k;split
 ·simp
 ·rename_i k _;cases (rd out k == x) <;> simp <;> omega
theorem x3t (out:List Int) (x:Int) (k:Nat) (hk:k≤out.length):
  (v3c (out++[0]) (k+1) (Nat.min (out.length+1 - k) (out.length+1 - (k+1))) (Jj (out++[0]) k (out.length+1 - k))).set k x=out.take k++x::out.drop k:=by
 have hm:Nat.min (out.length+1 - k) (out.length+1 - (k+1))=out.length - k:=by show min _ _=_;omega
 rw [hm];apply B9
 ·simp [Jb];omega
 ·intro i h1 h2;have hi:i<out.length+1:=by simpa [Jb] using h1
  rw [←Xp h1,←Xp h2];rw [u1s (by simpa [Jb] using hi)];by_cases e:i=k
  ·subst e;rw [Aw rfl,Un (by simp only [Bl];omega),Xp (by simp;omega)];simp [Nat.min_eq_left hk]
  ·rw [At e,w9l (by simpa using hi)];by_cases h:i<k
   ·rw [v9h (show¬k+1≤i by omega),BC,Aa,Jk (by omega),Jk (by simp;omega)];rw [Xp (by omega),Xp (by simp;omega),Bh]
   ·rw [w6k (show k+1≤i by omega),w6k (show i+1≤k+1+(out.length - k) by omega),Al,Ab,x0c (by omega),Jk (by omega)];rw [Un (by simp;omega),Xp (by omega),Xp (by simp;omega)];obtain ⟨j,rfl⟩: ∃j,i=k+1+j:=⟨i - k - 1,by omega⟩
    simp only [Bl,Nat.min_eq_left hk];rw [List.getElem_cons,dif_neg (by omega),Cq]
    congr 1
theorem w0k (l:List Int) (out:List Int) (i:Nat) (hi:i<l.length) (hl:l.length≤100000) (ho:out.length≤i): ∀(k N:Nat),k≤out.length→
  (x6v out (rd l i) out.length=x6v out (rd l i) k)→ ∃m,∀N,Yj (Vs l) (N+m) (.to (.h1 out (i:Int) (k:Int)))=Yj (Vs l) N (.to (.h0 (y4k out (rd l i)) ((i+1:Nat):Int)))
 | 0,N,hk,hp=>by
  refine ⟨1,fun N=> ?_⟩;have hins:y4k out (rd l i)=(v3c (out++[0]) (0+1) (Nat.min (out.length+1 - 0) (out.length+1 - (0+1))) (Jj (out++[0]) 0 (out.length+1 - 0))).set 0 (rd l i):=by rw [x3t out _ 0 (AJ _)];unfold y4k;rw [hp];rfl
  rw [hins,Zv];simp (disch:=omega) only [Vs,Zf,Av,Xb,Zs,Wy,Yk,Yc,Yp,Zt,Zp,Zx,Ya,Zk,Ag,Ai,Al,Ab,Aa]
 | k+1,N,hk,hp=>by
  rcases Ye (decide (rd out k>rd l i)) with h | h
  ·have hp':x6v out (rd l i) out.length=x6v out (rd l i) k:=by rw [hp];conv=>lhs;unfold x6v;rw [h,Ab]
   obtain ⟨m,hm⟩:=w0k l out i hi hl ho k N (by omega) hp';refine ⟨m+1,fun N=> ?_⟩;rw [←hm N,←AD,Zv];simp (disch:=omega) only [Vs,Zo,h,Zf,Av,Yo,Zs,Wy,Yk,Yc,Yp,Zt,Zp,Zx,Ya,Zk,Ag,Ai,Al,Ab,Aa]
  ·have hpk:x6v out (rd l i) out.length=k+1:=by rw [hp];unfold x6v;rw [h];rfl
   refine ⟨1,fun N=> ?_⟩;rw [Zv];rcases Ye (rd out k == rd l i) with q | q
   ·have hins:y4k out (rd l i)=out:=by unfold y4k;rw [hpk];simp only [q,Ab]
    rw [hins];simp (disch:=omega) only [Vs,Zo,h,q,Zf,Av,Yo,Zs,Wy,Yk,Yc,Yp,Zt,Zp,Zx,Ya,Zk,Ag,Ai,Al,Ab,Aa]
   ·have hins:y4k out (rd l i)=(v3c (out++[0]) (k+1+1) (Nat.min (out.length+1 - (k+1)) (out.length+1 - (k+1+1))) (Jj (out++[0]) (k+1) (out.length+1 - (k+1)))).set (k+1) (rd l i):=by rw [x3t out _ (k+1) hk];unfold y4k;rw [hpk];simp only [q,Aa]
    rw [hins];simp (disch:=omega) only [Vs,Zo,h,q,Zf,Av,Yo,Zs,Wy,Yk,Yc,Yp,Zt,Zp,Zx,Ya,Zk,Ag,Ai,Al,Ab,Aa]
theorem w0l (l:List Int) (hl:l.length≤100000): ∀(k i:Nat) (out:List Int),i+k=l.length→out.length≤i→ ∃m,Yj (Vs l) m (.to (.h0 out (i:Int)))=.ret [.dat ((l.drop i).foldl y4k out).length (Zz ((l.drop i).foldl y4k out))]
 | 0,i,out,h,ho=>by refine ⟨1,?_⟩;rw [Zv];simp (disch:=omega) only [Vs,Yw,Aa];rw [Au (by omega)];rfl
 | k+1,i,out,h,ho=>by obtain ⟨m1,h1⟩:=w0k l out i (by omega) hl ho out.length 0 (An _) rfl;obtain ⟨m2,h2⟩:=w0l l hl k (i+1) (y4k out (rd l i)) (by omega) (AF (y4j _ _) (by omega));refine ⟨m2+m1+1,?_⟩;rw [Zv];simp (disch:=omega) only [Vs,Zs,Ab];rw [h1 m2,h2,Ym (show i<l.length by omega)];rfl
theorem w8q (l:List Int) (h:Ki l=true): ∃N,Yj (Vs l) N (z4r l)=.ret [.dat (z3h l).length (Zz (z3h l))]:=by
 have:=w0l l (AE h) l.length 0 [] (by omega) (An _)
 simpa [z4r,z3h] using this
theorem Ze (n:Nat):Int.toNat ((n:Int) - 1)=n - 1:=by omega
theorem v6m (x y:R2):((x.a == y.a)&&(x.b == y.b))=decide (x=y):=by obtain ⟨a,b⟩:=x;obtain ⟨c,d⟩:=y;rw [Bool.eq_iff_iff];simp
theorem v6l (x y:R4):((x.a == y.a)&&((x.b == y.b)&&((x.c == y.c)&&(x.d == y.d))))=decide (x=y):=by obtain ⟨a,b,c,d⟩:=x;obtain ⟨e,f,g,h⟩:=y;rw [Bool.eq_iff_iff];simp
theorem v6k (x y:R6):(((x.a == y.a)&&((x.b == y.b)&&(x.c == y.c)))&&((x.d == y.d)&&((x.e == y.e)&&(x.f == y.f))))=decide (x=y):=by obtain ⟨a,b,c,d,e,f⟩:=x;obtain ⟨a',b',c',d',e',f'⟩:=y;rw [Bool.eq_iff_iff];simp [and_assoc]
def Ko (l m:List R2):Bool:=decide (l=m)
def Jh (l m:List R4):Bool:=decide (l=m)
def Kk (l m:List R6):Bool:=decide (l=m)
def Vn (l m:List R2):Bool:=decide (l.length≤1000000)
def Wb (l m:List R4):Bool:=decide (l.length≤1000000)
def Vi (l m:List R6):Bool:=decide (l.length≤1000000)
theorem z5c {α:Type} [DecidableEq α] (x y:α) (l m:List α):decide (x::l=y::m)=(decide (x=y)&&decide (l=m)):=by rw [←Bool.decide_and];congr 1;simp
theorem u0x (l m:List R2) (hl:l.length≤1000000) (hm:l.length=m.length): ∀(k i:Nat),i+k=l.length→ ∃N,Yj (z6a l m) N (.to (.h0 (i:Int)))=.ret [.bool (decide (l.drop i=m.drop i))]
 | 0,i,h=>by refine ⟨1,?_⟩;rw [Zv,Au (show l.length≤i by omega),Au (show m.length≤i by omega)];simp (disch:=omega) only [z6a,Xb,Yo,Zs,Yw,Wy,Yk,Yc,Yp,Zt,Zp,Zf,z0h,z0i,Av,Zx,Zo,Ze,Ya,Zk,Ag,Ai,Al,Ab,Aa,AG,AK,Zg]
 | k+1,i,h=>by
  obtain ⟨N,hN⟩:=u0x l m hl hm k (i+1) (by omega);refine ⟨N+1,?_⟩;rw [Zv,Ym (show i<l.length by omega),Ym (show i<m.length by omega),z5c];rcases Ye (decide (rd l i=rd m i)) with q | q
  ·simp (disch:=omega) only [z6a,v6m,q,Xb,Yo,Zs,Yw,Wy,Yk,Yc,Yp,Zt,Zp,Zf,z0h,z0i,Av,Zx,Zo,Ze,Ya,Zk,Ag,Ai,Al,Ab,Aa,AG,AK,Zg];exact hN
  ·simp (disch:=omega) only [z6a,v6m,q,Xb,Yo,Zs,Yw,Wy,Yk,Yc,Yp,Zt,Zp,Zf,z0h,z0i,Av,Zx,Zo,Ze,Ya,Zk,Ag,Ai,Al,Ab,Aa,AG,AK,Zg,BC]
theorem u5t (l m:List R2) (h:Vn l m=true): ∃N,Yj (z6a l m) N (z6x l m)=.ret [.bool (Ko l m)]:=by
 have hl:l.length≤1000000:=AE h;by_cases hm:l.length=m.length
 ·obtain ⟨N,hN⟩:=u0x l m hl hm l.length 0 (Ag _);refine ⟨N,?_⟩;unfold z6x;rw [z0i (show (l.length:Int)=(m.length:Nat) by omega)];exact hN
 ·refine ⟨0,?_⟩;unfold z6x;rw [z0h (show (l.length:Int)≠(m.length:Nat) by omega)];have:Ko l m=false:=Ay fun e=>hm (by rw [e]);rw [this];rfl
theorem u0w (l m:List R4) (hl:l.length≤1000000) (hm:l.length=m.length): ∀(k i:Nat),i+k=l.length→ ∃N,Yj (z5z l m) N (.to (.h0 (i:Int)))=.ret [.bool (decide (l.drop i=m.drop i))]
 | 0,i,h=>by refine ⟨1,?_⟩;rw [Zv,Au (show l.length≤i by omega),Au (show m.length≤i by omega)];simp (disch:=omega) only [z5z,Xb,Yo,Zs,Yw,Wy,Yk,Yc,Yp,Zt,Zp,Zf,z0h,z0i,Av,Zx,Zo,Ze,Ya,Zk,Ag,Ai,Al,Ab,Aa,AG,AK,Zg]
 | k+1,i,h=>by
  obtain ⟨N,hN⟩:=u0w l m hl hm k (i+1) (by omega);refine ⟨N+1,?_⟩;rw [Zv,Ym (show i<l.length by omega),Ym (show i<m.length by omega),z5c];rcases Ye (decide (rd l i=rd m i)) with q | q
  ·simp (disch:=omega) only [z5z,v6l,q,Xb,Yo,Zs,Yw,Wy,Yk,Yc,Yp,Zt,Zp,Zf,z0h,z0i,Av,Zx,Zo,Ze,Ya,Zk,Ag,Ai,Al,Ab,Aa,AG,AK,Zg];exact hN
  ·simp (disch:=omega) only [z5z,v6l,q,Xb,Yo,Zs,Yw,Wy,Yk,Yc,Yp,Zt,Zp,Zf,z0h,z0i,Av,Zx,Zo,Ze,Ya,Zk,Ag,Ai,Al,Ab,Aa,AG,AK,Zg,BC]
theorem u5s (l m:List R4) (h:Wb l m=true): ∃N,Yj (z5z l m) N (z6w l m)=.ret [.bool (Jh l m)]:=by
 have hl:l.length≤1000000:=AE h;by_cases hm:l.length=m.length
 ·obtain ⟨N,hN⟩:=u0w l m hl hm l.length 0 (Ag _);refine ⟨N,?_⟩;unfold z6w;rw [z0i (show (l.length:Int)=(m.length:Nat) by omega)];exact hN
 ·refine ⟨0,?_⟩;unfold z6w;rw [z0h (show (l.length:Int)≠(m.length:Nat) by omega)];have:Jh l m=false:=Ay fun e=>hm (by rw [e]);rw [this];rfl
theorem u0y (l m:List R6) (hl:l.length≤1000000) (hm:l.length=m.length): ∀(k i:Nat),i+k=l.length→ ∃N,Yj (z6b l m) N (.to (.h0 (i:Int)))=.ret [.bool (decide (l.drop i=m.drop i))]
 | 0,i,h=>by refine ⟨1,?_⟩;rw [Zv,Au (show l.length≤i by omega),Au (show m.length≤i by omega)];simp (disch:=omega) only [z6b,Xb,Yo,Zs,Yw,Wy,Yk,Yc,Yp,Zt,Zp,Zf,z0h,z0i,Av,Zx,Zo,Ze,Ya,Zk,Ag,Ai,Al,Ab,Aa,AG,AK,Zg]
 | k+1,i,h=>by
  obtain ⟨N,hN⟩:=u0y l m hl hm k (i+1) (by omega);refine ⟨N+1,?_⟩;rw [Zv,Ym (show i<l.length by omega),Ym (show i<m.length by omega),z5c];rcases Ye (decide (rd l i=rd m i)) with q | q
  ·simp (disch:=omega) only [z6b,v6k,q,Xb,Yo,Zs,Yw,Wy,Yk,Yc,Yp,Zt,Zp,Zf,z0h,z0i,Av,Zx,Zo,Ze,Ya,Zk,Ag,Ai,Al,Ab,Aa,AG,AK,Zg];exact hN
  ·simp (disch:=omega) only [z6b,v6k,q,Xb,Yo,Zs,Yw,Wy,Yk,Yc,Yp,Zt,Zp,Zf,z0h,z0i,Av,Zx,Zo,Ze,Ya,Zk,Ag,Ai,Al,Ab,Aa,AG,AK,Zg,BC]
theorem u5u (l m:List R6) (h:Vi l m=true): ∃N,Yj (z6b l m) N (z6y l m)=.ret [.bool (Kk l m)]:=by
 have hl:l.length≤1000000:=AE h;by_cases hm:l.length=m.length
 ·obtain ⟨N,hN⟩:=u0y l m hl hm l.length 0 (Ag _);refine ⟨N,?_⟩;unfold z6y;rw [z0i (show (l.length:Int)=(m.length:Nat) by omega)];exact hN
 ·refine ⟨0,?_⟩;unfold z6y;rw [z0h (show (l.length:Int)≠(m.length:Nat) by omega)];have:Kk l m=false:=Ay fun e=>hm (by rw [e]);rw [this];rfl
theorem u3y (l m:List R2) (hl:l.length≤1000000) (hm:l.length=m.length): ∀(k i:Nat),i+k=l.length→ ∃N,Yj (z6n l m) N (.to (.h0 (i:Int)))=.ret [.bool (decide (l.drop i=m.drop i))]
 | 0,i,h=>by refine ⟨1,?_⟩;rw [Zv,Au (show l.length≤i by omega),Au (show m.length≤i by omega)];simp (disch:=omega) only [z6n,Xb,Yo,Zs,Yw,Wy,Yk,Yc,Yp,Zt,Zp,Zf,z0h,z0i,Av,Zx,Zo,Ze,Ya,Zk,Ag,Ai,Al,Ab,Aa,AG,AK,Zg]
 | k+1,i,h=>by
  obtain ⟨N,hN⟩:=u3y l m hl hm k (i+1) (by omega);refine ⟨N+1,?_⟩;rw [Zv,Ym (show i<l.length by omega),Ym (show i<m.length by omega),z5c];rcases Ye (decide (rd l i=rd m i)) with q | q
  ·simp (disch:=omega) only [z6n,v6m,q,Xb,Yo,Zs,Yw,Wy,Yk,Yc,Yp,Zt,Zp,Zf,z0h,z0i,Av,Zx,Zo,Ze,Ya,Zk,Ag,Ai,Al,Ab,Aa,AG,AK,Zg];exact hN
  ·simp (disch:=omega) only [z6n,v6m,q,Xb,Yo,Zs,Yw,Wy,Yk,Yc,Yp,Zt,Zp,Zf,z0h,z0i,Av,Zx,Zo,Ze,Ya,Zk,Ag,Ai,Al,Ab,Aa,AG,AK,Zg,BC]
theorem u9w (l m:List R2) (h:Vn l m=true): ∃N,Yj (z6n l m) N (z7z l m)=.ret [.bool (Ko l m)]:=by
 have hl:l.length≤1000000:=AE h;by_cases hm:l.length=m.length
 ·obtain ⟨N,hN⟩:=u3y l m hl hm l.length 0 (Ag _);refine ⟨N,?_⟩;unfold z7z;rw [z0i (show (l.length:Int)=(m.length:Nat) by omega)];exact hN
 ·refine ⟨0,?_⟩;unfold z7z;rw [z0h (show (l.length:Int)≠(m.length:Nat) by omega)];have:Ko l m=false:=Ay fun e=>hm (by rw [e]);rw [this];rfl
theorem u3x (l m:List R4) (hl:l.length≤1000000) (hm:l.length=m.length): ∀(k i:Nat),i+k=l.length→ ∃N,Yj (z6m l m) N (.to (.h0 (i:Int)))=.ret [.bool (decide (l.drop i=m.drop i))]
 | 0,i,h=>by refine ⟨1,?_⟩;rw [Zv,Au (show l.length≤i by omega),Au (show m.length≤i by omega)];simp (disch:=omega) only [z6m,Xb,Yo,Zs,Yw,Wy,Yk,Yc,Yp,Zt,Zp,Zf,z0h,z0i,Av,Zx,Zo,Ze,Ya,Zk,Ag,Ai,Al,Ab,Aa,AG,AK,Zg]
 | k+1,i,h=>by
  obtain ⟨N,hN⟩:=u3x l m hl hm k (i+1) (by omega);refine ⟨N+1,?_⟩;rw [Zv,Ym (show i<l.length by omega),Ym (show i<m.length by omega),z5c];rcases Ye (decide (rd l i=rd m i)) with q | q
  ·simp (disch:=omega) only [z6m,v6l,q,Xb,Yo,Zs,Yw,Wy,Yk,Yc,Yp,Zt,Zp,Zf,z0h,z0i,Av,Zx,Zo,Ze,Ya,Zk,Ag,Ai,Al,Ab,Aa,AG,AK,Zg];exact hN
  ·simp (disch:=omega) only [z6m,v6l,q,Xb,Yo,Zs,Yw,Wy,Yk,Yc,Yp,Zt,Zp,Zf,z0h,z0i,Av,Zx,Zo,Ze,Ya,Zk,Ag,Ai,Al,Ab,Aa,AG,AK,Zg,BC]
theorem u9v (l m:List R4) (h:Wb l m=true): ∃N,Yj (z6m l m) N (z7y l m)=.ret [.bool (Jh l m)]:=by
 have hl:l.length≤1000000:=AE h;by_cases hm:l.length=m.length
 ·obtain ⟨N,hN⟩:=u3x l m hl hm l.length 0 (Ag _);refine ⟨N,?_⟩;unfold z7y;rw [z0i (show (l.length:Int)=(m.length:Nat) by omega)];exact hN
 ·refine ⟨0,?_⟩;unfold z7y;rw [z0h (show (l.length:Int)≠(m.length:Nat) by omega)];have:Jh l m=false:=Ay fun e=>hm (by rw [e]);rw [this];rfl
theorem u3w (l m:List R6) (hl:l.length≤1000000) (hm:l.length=m.length): ∀(k i:Nat),i+k=l.length→ ∃N,Yj (z6l l m) N (.to (.h0 (i:Int)))=.ret [.bool (decide (l.drop i=m.drop i))]
 | 0,i,h=>by refine ⟨1,?_⟩;rw [Zv,Au (show l.length≤i by omega),Au (show m.length≤i by omega)];simp (disch:=omega) only [z6l,Xb,Yo,Zs,Yw,Wy,Yk,Yc,Yp,Zt,Zp,Zf,z0h,z0i,Av,Zx,Zo,Ze,Ya,Zk,Ag,Ai,Al,Ab,Aa,AG,AK,Zg]
 | k+1,i,h=>by
  obtain ⟨N,hN⟩:=u3w l m hl hm k (i+1) (by omega);refine ⟨N+1,?_⟩;rw [Zv,Ym (show i<l.length by omega),Ym (show i<m.length by omega),z5c];rcases Ye (decide (rd l i=rd m i)) with q | q
  ·simp (disch:=omega) only [z6l,v6k,q,Xb,Yo,Zs,Yw,Wy,Yk,Yc,Yp,Zt,Zp,Zf,z0h,z0i,Av,Zx,Zo,Ze,Ya,Zk,Ag,Ai,Al,Ab,Aa,AG,AK,Zg];exact hN
  ·simp (disch:=omega) only [z6l,v6k,q,Xb,Yo,Zs,Yw,Wy,Yk,Yc,Yp,Zt,Zp,Zf,z0h,z0i,Av,Zx,Zo,Ze,Ya,Zk,Ag,Ai,Al,Ab,Aa,AG,AK,Zg,BC]
theorem u9u (l m:List R6) (h:Vi l m=true): ∃N,Yj (z6l l m) N (z7x l m)=.ret [.bool (Kk l m)]:=by
 have hl:l.length≤1000000:=AE h;by_cases hm:l.length=m.length
 ·obtain ⟨N,hN⟩:=u3w l m hl hm l.length 0 (Ag _);refine ⟨N,?_⟩;unfold z7x;rw [z0i (show (l.length:Int)=(m.length:Nat) by omega)];exact hN
 ·refine ⟨0,?_⟩;unfold z7x;rw [z0h (show (l.length:Int)≠(m.length:Nat) by omega)];have:Kk l m=false:=Ay fun e=>hm (by rw [e]);rw [this];rfl
def in4 (x y:Int) (r:R4):Bool:=decide (r.a≤x)&&(decide (x<r.c)&&(decide (r.b≤y)&&decide (y<r.d)))
def x0x (l:List R4) (x y:Int):Bool:=l.any (in4 x y)
def z0b (l:List R4) (x y:Int):Bool:=decide (l.length≤1000000)
theorem w9b (l:List R4) (x y:Int) (hl:l.length≤1000000): ∀(k i:Nat),i+k=l.length→ ∃N,Yj (z4u l x y) N (.to (.h0 (i:Int)))=.ret [.bool ((l.drop i).any (in4 x y))]
 | 0,i,h=>by refine ⟨1,?_⟩;rw [Zv,Au (show l.length≤i by omega)];simp (disch:=omega) only [z4u,Xb,Yo,Zs,Yw,Wy,Yk,Yc,Yp,Zt,Zp,Zf,z0h,z0i,Av,Zx,Zo,Ze,Ya,Zk,Ag,Ai,Al,Ab,Aa,AG,AK,Zg];rfl
 | k+1,i,h=>by
  obtain ⟨N,hN⟩:=w9b l x y hl k (i+1) (by omega);refine ⟨N+1,?_⟩;rw [Zv,Ym (show i<l.length by omega),List.any_cons];unfold in4 at hN ⊢;rcases Ye (decide ((rd l i).a ≤x)) with q1 | q1 <;> rcases Ye (decide (x<(rd l i).c)) with q2 | q2 <;> rcases Ye (decide ((rd l i).b ≤y)) with q3 | q3 <;> rcases Ye (decide (y<(rd l i).d)) with q4 | q4 <;>
   simp (disch:=omega) only [z4u,q1,q2,q3,q4,Xb,Yo,Zs,Yw,Wy,Yk,Yc,Yp,Zt,Zp,Zf,z0h,z0i,Av,Zx,Zo,Ze,Ya,Zk,Ag,Ai,Al,Ab,Aa,AG,AK,Zg,BC,Bool.and_false,Bool.false_or,Bool.true_or] <;> exact hN
theorem v5q (l:List R4) (x y:Int) (h:z0b l x y=true): ∃N,Yj (z4u l x y) N (z7b l x y)=.ret [.bool (x0x l x y)]:=by
 have:=w9b l x y (AE h) l.length 0 (Ag _)
 simpa [z7b,x0x] using this
def on6 (z:Int) (b:R6):Bool:=decide (b.c≤z)&&decide (z<b.f)
def u8h (b:R6):R4:=⟨b.a,b.b,b.d,b.e⟩
def atV (l:List R6) (z:Int):List R4:=(l.filter (on6 z)).map u8h
def z5g (l:List R6) (z:Int):Bool:=decide (l.length≤1000000)
theorem w9t (l:List R6) (z:Int) (hl:l.length≤1000000): ∀(k i:Nat) (out:List R4),i+k=l.length→out.length≤i→ ∃N,Yj (z6e l z) N (.to (.h0 out (i:Int)))=.ret [.dat (out++atV (l.drop i) z).length (Zz (out++atV (l.drop i) z))]
 | 0,i,out,h,ho=>by refine ⟨1,?_⟩;rw [Zv,Au (show l.length≤i by omega)];simp (disch:=omega) only [z6e,Xb,Yo,Zs,Yw,Wy,Yk,Yc,Yp,Zt,Zp,Zf,z0h,z0i,Av,Zx,Zo,Ze,Ya,Zk,Ag,Ai,Al,Ab,Aa,AG,AK,Zg,atV,List.filter_nil,Bg,AA]
 | k+1,i,out,h,ho=>by
  rw [Ym (show i<l.length by omega)];have e:atV (rd l i::l.drop (i+1)) z=(bif on6 z (rd l i) then [u8h (rd l i)] else [])++atV (l.drop (i+1)) z:=by unfold atV;rw [A9];cases on6 z (rd l i) <;> rfl
  rw [e,←AL];rcases Ye (decide ((rd l i).c ≤z)) with q1 | q1 <;> rcases Ye (decide (z<(rd l i).f)) with q2 | q2
  ·obtain ⟨N,hN⟩:=w9t l z hl k (i+1) (out++[u8h (rd l i)]) (by omega) (by simp;omega);refine ⟨N+1,?_⟩;rw [Zv];simp (disch:=omega) only [z6e,q1,q2,on6,Xb,Yo,Zs,Yw,Wy,Yk,Yc,Yp,Zt,Zp,Zf,z0h,z0i,Av,Zx,Zo,Ze,Ya,Zk,Ag,Ai,Al,Ab,Aa,AG,AK,Zg];exact hN
  all_goals
   obtain ⟨N,hN⟩:=w9t l z hl k (i+1) out (by omega) (by omega);refine ⟨N+1,?_⟩;rw [Zv];simp (disch:=omega) only [z6e,q1,q2,on6,Xb,Yo,Zs,Yw,Wy,Yk,Yc,Yp,Zt,Zp,Zf,z0h,z0i,Av,Zx,Zo,Ze,Ya,Zk,Ag,Ai,Al,Ab,Aa,AG,AK,Zg,BC,Bool.and_false,AA];exact hN
theorem u6r (l:List R6) (z:Int) (h:z5g l z=true): ∃N,Yj (z6e l z) N (y1y l z)=.ret [.dat (atV l z).length (Zz (atV l z))]:=by
 have:=w9t l z (AE h) l.length 0 [] (Ag _) (An _)
 simpa [y1y] using this
def u4d (cuts:List Int) (ins:List Bool):Nat→Nat→List R2→List R2
 | 0,_,out=>out
 | k+1,i,out=>u4d cuts ins k (i+1) (bif rd ins i then (bif decide (0<out.length)&&((rd out (out.length - 1)).b == rd cuts i) then out.set (out.length - 1) ⟨(rd out (out.length - 1)).a,rd cuts (i+1)⟩ else out++[⟨rd cuts i,rd cuts (i+1)⟩]) else out)
def y6l (cuts:List Int) (ins:List Bool):List R2:=u4d cuts ins (cuts.length - 1) 0 []
def z8i (cuts:List Int) (ins:List Bool):Bool:=decide (cuts.length≤1000000∧cuts.length≤ins.length+1)
theorem x0d (cuts:List Int) (ins:List Bool) (hl:cuts.length≤1000000) (hi:cuts.length≤ins.length+1): ∀(k i:Nat) (out:List R2),k=cuts.length - 1 - i→i≤cuts.length→out.length≤i→ ∃N,Yj (Qf cuts ins) N (.to (.h0 out (i:Int)))=.ret [.dat (u4d cuts ins k i out).length (Zz (u4d cuts ins k i out))]
 | 0,i,out,h,hi2,ho=>by refine ⟨1,?_⟩;rw [Zv];simp (disch:=omega) only [Qf,Xb,Yo,Zs,Yw,Wy,Yk,Yc,Yp,Zt,Zp,Zf,z0h,z0i,Av,Zx,Zo,Ze,Ya,Zk,Ag,Ai,Al,Ab,Aa,AG,AK,Zg,u4d]
 | k+1,i,out,h,hi2,ho=>by
  unfold u4d;rcases Ye (rd ins i) with q | q
  ·rcases Ye (decide (0<out.length)&&((rd out (out.length - 1)).b == rd cuts i)) with q2 | q2
   ·obtain ⟨N,hN⟩:=x0d cuts ins hl hi k (i+1) (out.set (out.length - 1) ⟨(rd out (out.length - 1)).a,rd cuts (i+1)⟩) (by omega) (by omega) (by simp;omega);refine ⟨N+1,?_⟩;rw [Zv,q,q2];simp only [Ac,Aq] at q2;simp (disch:=omega) only [Qf,q,q2.2,Xb,Yo,Zs,Yw,Wy,Yk,Yc,Yp,Zt,Zp,Zf,z0h,z0i,Av,Zx,Zo,Ze,Ya,Zk,Ag,Ai,Al,Ab,Aa,AG,AK,Zg];exact hN
   ·obtain ⟨N,hN⟩:=x0d cuts ins hl hi k (i+1) (out++[⟨rd cuts i,rd cuts (i+1)⟩]) (by omega) (by omega) (by simp;omega);refine ⟨N+1,?_⟩;rw [Zv,q,q2];by_cases h0:0<out.length
    ·rw [Ah h0,Al] at q2;simp (disch:=omega) only [Qf,q,q2,Xb,Yo,Zs,Yw,Wy,Yk,Yc,Yp,Zt,Zp,Zf,z0h,z0i,Av,Zx,Zo,Ze,Ya,Zk,Ag,Ai,Al,Ab,Aa,AG,AK,Zg];exact hN
    ·simp (disch:=omega) only [Qf,q,Xb,Yo,Zs,Yw,Wy,Yk,Yc,Yp,Zt,Zp,Zf,z0h,z0i,Av,Zx,Zo,Ze,Ya,Zk,Ag,Ai,Al,Ab,Aa,AG,AK,Zg];exact hN
  ·obtain ⟨N,hN⟩:=x0d cuts ins hl hi k (i+1) out (by omega) (by omega) (by omega);refine ⟨N+1,?_⟩;rw [Zv,q];simp (disch:=omega) only [Qf,q,Xb,Yo,Zs,Yw,Wy,Yk,Yc,Yp,Zt,Zp,Zf,z0h,z0i,Av,Zx,Zo,Ze,Ya,Zk,Ag,Ai,Al,Ab,Aa,AG,AK,Zg];exact hN
theorem v6g (cuts:List Int) (ins:List Bool) (h:z8i cuts ins=true): ∃N,Yj (Qf cuts ins) N (z7i cuts ins)=.ret [.dat (y6l cuts ins).length (Zz (y6l cuts ins))]:=by
 obtain ⟨h1,h2⟩:=AE h;have:=x0d cuts ins h1 h2 (cuts.length - 1) 0 [] (by omega) (AJ _) (An _)
 simpa [z7i,y6l] using this
abbrev v0k :Nat:=70
abbrev u2u :Nat:=142
abbrev u2j :Nat:=169
abbrev u2r :Nat:=167
abbrev nHas4 :Nat:=168
abbrev u2i :Nat:=128
abbrev nXs :Nat:=165
abbrev nYs :Nat:=166
abbrev u2q :Nat:=126
abbrev u2h :Nat:=20
abbrev nAt :Nat:=127
abbrev nCuts :Nat:=125
abbrev u2p :Nat:=72
abbrev v0n :Nat:=53
abbrev nEq2 :Nat:=188
abbrev nEq4 :Nat:=172
abbrev nEq6 :Nat:=99
abbrev u2g :Nat:=200
abbrev w1e :Nat:=201
abbrev nSort :Nat:=63
abbrev w1f :Nat:=64
abbrev nFst :Nat:=187
abbrev x3g :Nat:=157
abbrev w1d :Nat:=65
abbrev v0m :Nat:=121
abbrev w1b :Nat:=120
abbrev w1a :Nat:=94
abbrev x3h :Nat:=51
abbrev w0z :Nat:=191
abbrev nSpU1 :Nat:=164
abbrev nSpE1 :Nat:=170
abbrev nSpD1 :Nat:=163
abbrev nSpU :Nat:=124
abbrev nSpE :Nat:=129
abbrev nSpD :Nat:=123
abbrev w1c :Nat:=189
abbrev nRgU :Nat:=67
abbrev nRgE :Nat:=79
abbrev nRgD :Nat:=66
abbrev v0l :Nat:=47
abbrev nSHas :Nat:=43
-- not there: gambrel/gambrelref39.Floor
abbrev nMCut :Nat:=141
abbrev v0p :Nat:=101
abbrev u2m :Nat:=52
abbrev nMOf :Nat:=15
abbrev v0o :Nat:=17
abbrev u2l :Nat:=58
abbrev x0h :Nat:=22
abbrev v0q :Nat:=24
abbrev u2o :Nat:=45
abbrev u2k :Nat:=91
abbrev nMVol :Nat:=46
abbrev u2n :Nat:=73
abbrev w1g :Nat:=36
abbrev u2t :Nat:=42
abbrev u2s :Nat:=37
abbrev nMv1 :Nat:=105
abbrev nMv2 :Nat:=106
abbrev nMv3 :Nat:=107
abbrev nMv4 :Nat:=108
abbrev nMv5 :Nat:=109
abbrev nMv6 :Nat:=110
abbrev nMv7 :Nat:=111
abbrev nMv8 :Nat:=112
abbrev nMv9 :Nat:=113
def y8p (k:Int) (a b:Bool):Bool:=bif k == 1 then a&&b else bif k == 2 then a||b else a&& !b
def w2g (a b:Bool):Bool:=a
theorem u8e (k:Int) (a b:Bool): ∃N,Yj (x8e k a b) N (y2n k a b)=.ret [.bool (y8p k a b)]:=by
 refine ⟨0,?_⟩;unfold y2n y8p;cases a <;> cases b <;> rcases Ye (k == 1) with q | q <;> rcases Ye (k == 2) with q2 | q2 <;> rw [q] <;> (try rw [q2]) <;> rfl
theorem u8f (a b:Bool): ∃N,Yj (x8h a b) N (x0z a b)=.ret [.bool (w2g a b)]:=⟨0,rfl⟩
def fSrt :List AVal→Option (AVal×Bool)
 | [a0]=>match asL Int a0 with
  | some (L0,g0,n0)=>some (.dat (z3h L0).length (Zz (z3h L0)),isT Int n0 g0&&(Ki L0))
  | _=>none
 | _=>none
theorem u8p {S:Specs} (hS:Zj prog S):Zj prog (S.with v0k fSrt):=by
 refine z3m hS (by kernel_rfl) fun args v h=> ?_;unfold fSrt at h;split at h
 ·rename_i a0;split at h
  ·rename_i L0 g0 n0 e0;simp only [Ae,Ad,Ac] at h;obtain ⟨rfl,ho0,hw⟩:=h;obtain ⟨N,hN⟩:=w8q L0 hw;exact ⟨_,_,(.cons (Yr e0 ho0) .nil),rfl,w4a L0 N _ hN,3,rfl⟩
  ·cases h
 ·cases h
def fCan :List AVal→Option (AVal×Bool)
 | [a0,a1]=>match asL Int a0,asL Bool a1 with
  | some (L0,g0,n0),some (L1,g1,n1)=>some (.dat (y6l L0 L1).length (Zz (y6l L0 L1)),isT Int n0 g0&&(isT Bool n1 g1&&(z8i L0 L1)))
  | _,_=>none
 | _=>none
theorem u9s {S:Specs} (hS:Zj prog S):Zj prog (S.with u2u fCan):=by
 refine z3m hS (by kernel_rfl) fun args v h=> ?_;unfold fCan at h;split at h
 ·rename_i a0 a1;split at h
  ·rename_i L0 g0 n0 L1 g1 n1 e0 e1;simp only [Ae,Ad,Ac] at h;obtain ⟨rfl,ho0,ho1,hw⟩:=h;obtain ⟨N,hN⟩:=v6g L0 L1 hw;exact ⟨_,_,(.cons (Yr e0 ho0) (.cons (Yr e1 ho1) .nil)),rfl,w9s L0 L1 N _ hN,3,rfl⟩
  ·cases h
 ·cases h
def y8v :List AVal→Option (AVal×Bool)
 | [a0,a1]=>match asL R2 a0,asL R2 a1 with
  | some (L0,g0,n0),some (L1,g1,n1)=>some (.bool (Ko L0 L1),isT R2 n0 g0&&(isT R2 n1 g1&&(Vn L0 L1)))
  | _,_=>none
 | _=>none
theorem v2m {S:Specs} (hS:Zj prog S):Zj prog (S.with u2j y8v):=by
 refine z3m hS (by kernel_rfl) fun args v h=> ?_;unfold y8v at h;split at h
 ·rename_i a0 a1;split at h
  ·rename_i L0 g0 n0 L1 g1 n1 e0 e1;simp only [Ae,Ad,Ac] at h;obtain ⟨rfl,ho0,ho1,hw⟩:=h;obtain ⟨N,hN⟩:=u5t L0 L1 hw;exact ⟨_,_,(.cons (Yr e0 ho0) (.cons (Yr e1 ho1) .nil)),rfl,v5i L0 L1 N _ hN,3,rfl⟩
  ·cases h
 ·cases h
def y8u :List AVal→Option (AVal×Bool)
 | [a0,a1]=>match asL R4 a0,asL R4 a1 with
  | some (L0,g0,n0),some (L1,g1,n1)=>some (.bool (Jh L0 L1),isT R4 n0 g0&&(isT R4 n1 g1&&(Wb L0 L1)))
  | _,_=>none
 | _=>none
theorem v2l {S:Specs} (hS:Zj prog S):Zj prog (S.with u2i y8u):=by
 refine z3m hS (by kernel_rfl) fun args v h=> ?_;unfold y8u at h;split at h
 ·rename_i a0 a1;split at h
  ·rename_i L0 g0 n0 L1 g1 n1 e0 e1;simp only [Ae,Ad,Ac] at h;obtain ⟨rfl,ho0,ho1,hw⟩:=h;obtain ⟨N,hN⟩:=u5s L0 L1 hw;exact ⟨_,_,(.cons (Yr e0 ho0) (.cons (Yr e1 ho1) .nil)),rfl,v5h L0 L1 N _ hN,3,rfl⟩
  ·cases h
 ·cases h
def y8t :List AVal→Option (AVal×Bool)
 | [a0,a1]=>match asL R6 a0,asL R6 a1 with
  | some (L0,g0,n0),some (L1,g1,n1)=>some (.bool (Kk L0 L1),isT R6 n0 g0&&(isT R6 n1 g1&&(Vi L0 L1)))
  | _,_=>none
 | _=>none
theorem v2k {S:Specs} (hS:Zj prog S):Zj prog (S.with u2h y8t):=by
 refine z3m hS (by kernel_rfl) fun args v h=> ?_;unfold y8t at h;split at h
 ·rename_i a0 a1;split at h
  ·rename_i L0 g0 n0 L1 g1 n1 e0 e1;simp only [Ae,Ad,Ac] at h;obtain ⟨rfl,ho0,ho1,hw⟩:=h;obtain ⟨N,hN⟩:=u5u L0 L1 hw;exact ⟨_,_,(.cons (Yr e0 ho0) (.cons (Yr e1 ho1) .nil)),rfl,v5j L0 L1 N _ hN,3,rfl⟩
  ·cases h
 ·cases h
def u9l :List AVal→Option (AVal×Bool)
 | [a0,.int .i64 x1,.int .i64 x2]=>match asL R4 a0 with
  | some (L0,g0,n0)=>some (.bool (x0x L0 x1 x2),isT R4 n0 g0&&(z0b L0 x1 x2))
  | _=>none
 | _=>none
theorem v8q {S:Specs} (hS:Zj prog S):Zj prog (S.with nHas4 u9l):=by
 refine z3m hS (by kernel_rfl) fun args v h=> ?_;unfold u9l at h;split at h
 ·rename_i a0 x1 x2;split at h
  ·rename_i L0 g0 n0 e0;simp only [Ae,Ad,Ac] at h;obtain ⟨rfl,ho0,hw⟩:=h;obtain ⟨N,hN⟩:=v5q L0 x1 x2 hw;exact ⟨_,_,(.cons (Yr e0 ho0) (.cons (.refl _) (.cons (.refl _) .nil))),rfl,w9c L0 x1 x2 N _ hN,3,rfl⟩
  ·cases h
 ·cases h
def fAt :List AVal→Option (AVal×Bool)
 | [a0,.int .i64 x1]=>match asL R6 a0 with
  | some (L0,g0,n0)=>some (.dat (atV L0 x1).length (Zz (atV L0 x1)),isT R6 n0 g0&&(z5g L0 x1))
  | _=>none
 | _=>none
theorem fAt_ok {S:Specs} (hS:Zj prog S):Zj prog (S.with nAt fAt):=by
 refine z3m hS (by kernel_rfl) fun args v h=> ?_;unfold fAt at h;split at h
 ·rename_i a0 x1;split at h
  ·rename_i L0 g0 n0 e0;simp only [Ae,Ad,Ac] at h;obtain ⟨rfl,ho0,hw⟩:=h;obtain ⟨N,hN⟩:=u6r L0 x1 hw;exact ⟨_,_,(.cons (Yr e0 ho0) (.cons (.refl _) .nil)),rfl,v6h L0 x1 N _ hN,3,rfl⟩
  ·cases h
 ·cases h
def v2p :List AVal→Option (AVal×Bool)
 | [.int .i64 x0,.bool b1,.bool b2]=>some (.bool (y8p x0 b1 b2),true)
 | _=>none
theorem v2o {S:Specs} (hS:Zj prog S):Zj prog (S.with u2r v2p):=by
 refine z3m hS (by kernel_rfl) fun args v h=> ?_;unfold v2p at h;split at h
 ·rename_i x0 b1 b2;simp only [Ae,Ad,Cp] at h;subst h;obtain ⟨N,hN⟩:=u8e x0 b1 b2;exact ⟨_,_,(.cons (.refl _) (.cons (.refl _) (.cons (.refl _) .nil))),rfl,v8h x0 b1 b2 N _ hN,3,rfl⟩
 ·cases h
def fFst :List AVal→Option (AVal×Bool)
 | [.bool b0,.bool b1]=>some (.bool (w2g b0 b1),true)
 | _=>none
theorem u9m {S:Specs} (hS:Zj prog S):Zj prog (S.with nFst fFst):=by
 refine z3m hS (by kernel_rfl) fun args v h=> ?_;unfold fFst at h;split at h
 ·rename_i b0 b1;simp only [Ae,Ad,Cp] at h;subst h;obtain ⟨N,hN⟩:=u8f b0 b1;exact ⟨_,_,(.cons (.refl _) (.cons (.refl _) .nil)),rfl,v8i b0 b1 N _ hN,3,rfl⟩
 ·cases h
theorem w5x {S:Specs} (hS:Zj prog S):Zj prog (S.with nEq2 y8v):=by
 refine z3m hS (by kernel_rfl) fun args v h=> ?_;unfold y8v at h;split at h
 ·rename_i a0 a1;split at h
  ·rename_i L0 g0 n0 L1 g1 n1 e0 e1;simp only [Ae,Ad,Ac] at h;obtain ⟨rfl,ho0,ho1,hw⟩:=h;obtain ⟨N,hN⟩:=u9w L0 L1 hw;exact ⟨_,_,(.cons (Yr e0 ho0) (.cons (Yr e1 ho1) .nil)),rfl,v8x L0 L1 N _ hN,3,rfl⟩
  ·cases h
 ·cases h
theorem w5w {S:Specs} (hS:Zj prog S):Zj prog (S.with nEq4 y8u):=by
 refine z3m hS (by kernel_rfl) fun args v h=> ?_;unfold y8u at h;split at h
 ·rename_i a0 a1;split at h
  ·rename_i L0 g0 n0 L1 g1 n1 e0 e1;simp only [Ae,Ad,Ac] at h;obtain ⟨rfl,ho0,ho1,hw⟩:=h;obtain ⟨N,hN⟩:=u9v L0 L1 hw;exact ⟨_,_,(.cons (Yr e0 ho0) (.cons (Yr e1 ho1) .nil)),rfl,v8w L0 L1 N _ hN,3,rfl⟩
  ·cases h
 ·cases h
theorem w5v {S:Specs} (hS:Zj prog S):Zj prog (S.with nEq6 y8t):=by
 refine z3m hS (by kernel_rfl) fun args v h=> ?_;unfold y8t at h;split at h
 ·rename_i a0 a1;split at h
  ·rename_i L0 g0 n0 L1 g1 n1 e0 e1;simp only [Ae,Ad,Ac] at h;obtain ⟨rfl,ho0,ho1,hw⟩:=h;obtain ⟨N,hN⟩:=u9u L0 L1 hw;exact ⟨_,_,(.cons (Yr e0 ho0) (.cons (Yr e1 ho1) .nil)),rfl,v8v L0 L1 N _ hN,3,rfl⟩
  ·cases h
 ·cases h
def T1 :Specs:=((((((((((((noSpecs.with v0k fSrt).with u2u fCan).with u2j y8v).with u2i y8u).with u2h y8t).with nHas4 u9l).with nAt fAt).with u2r v2p).with nFst fFst).with nEq2 y8v).with nEq4 y8u).with nEq6 y8t)
theorem z3e :Zj prog T1:=w5v (w5w (w5x (u9m (v2o (fAt_ok (v8q (v2k (v2l (v2m (u9s (u8p Zm)))))))))))
inductive rxsS where
 | h0 (v5:List Int) (v6:Int)
 | h1 (v5:List Int) (v7:Int)
def rxsC (l0:List R4) (l1:List R4):rxsS→Cfg
 | .h0 v5 v6=>⟨⟨48,0,true⟩,none,(Zd prog 165 [1,1,0,1,0,0] 0),none,(Zy prog 5),⟨Yd [(0,(.dat l0.length (Zz l0))),(1,(.dat l1.length (Zz l1))),(5,(.sla 0 1 0 v5.length (.un 1))),(6,(ii v6))],Uy [⟨rows v5.length (Zz v5),3,some ⟨1,v5.length,(Zz v5)⟩⟩] 0,1,[],true⟩,[],.leaf⟩
 | .h1 v5 v7=>⟨⟨48,0,true⟩,none,(Zd prog 165 [1,1,1,0,1,0,0] 0),none,(Zy prog 5),⟨Yd [(1,(.dat l1.length (Zz l1))),(5,(.sla 0 1 0 v5.length (.un 1))),(7,(ii v7))],Uy [⟨rows v5.length (Zz v5),3,some ⟨1,v5.length,(Zz v5)⟩⟩] 0,1,[],true⟩,[],.leaf⟩
def rxsN0 :List (Option (List Nat)):=[some [0,1,5,6]]
def rxsM0 :List (Option (List Nat)):=[]
def rxsN1 :List (Option (List Nat)):=[some [1,5,7]]
def rxsM1 :List (Option (List Nat)):=[]
def z2i (l0:List R4) (l1:List R4):rxsS→Xf rxsS
 | .h0 v5 v6=>(bif (decide (v6<(l0.length:Int))) then (bif ((decide (0≤v6∧v6<(l0.length:Int)))&&true) then (bif (Nat.beq 1 1&&((decide (0+v5.length=v5.length))&&decide ((v5.length+2+1)*(8+1)≤Ju))) then (.to (.h0 (v5++[(rd l0 v6.toNat).a,(rd l0 v6.toNat).c]) (wrap .i64 (v6+1)))) else .stuck) else .stuck) else (.to (.h1 v5 0)))
 | .h1 v5 v7=>(bif (decide (v7<(l1.length:Int))) then (bif ((decide (0≤v7∧v7<(l1.length:Int)))&&true) then (bif (Nat.beq 1 1&&((decide (0+v5.length=v5.length))&&decide ((v5.length+2+1)*(8+1)≤Ju))) then (.to (.h1 (v5++[(rd l1 v7.toNat).a,(rd l1 v7.toNat).c]) (wrap .i64 (v7+1)))) else .stuck) else .stuck) else (bif (Ki (cvT v5)) then (.ret [(.dat (z3h (cvT v5)).length (Zz (z3h (cvT v5))))]) else .stuck))
def y1q (l0:List R4) (l1:List R4):Xf rxsS:=(.to (.h0 ([]:List Int) 0))
theorem w3y (l0:List R4) (l1:List R4): ∀s,Xq prog (Zy prog 165) (rxsC l0 l1) (rxsC l0 l1 s) (z2i l0 l1 s)
 | .h0 v5 v6=>(lb (fun k0=>(lo fun o0=>(lo fun o1=>(sl z3e 20 [] ⟨[2],[],rxsN0,rxsM0⟩ ⟨[(5,.len (v5++[(rd l0 (tn v6)).a,(rd l0 (tn v6)).c]).length)],[.rowed 1 (v5++[(rd l0 (tn v6)).a,(rd l0 (tn v6)).c]).length (Zz (v5++[(rd l0 (tn v6)).a,(rd l0 (tn v6)).c]))],[]⟩ [true] (pp (xL (v5.length+2) (v5++[(rd l0 (tn v6)).a,(rd l0 (tn v6)).c]).length) (pp (xL (v5.length+2) (v5++[(rd l0 (tn v6)).a,(rd l0 (tn v6)).c]).length) (pp (xS (v5.length+2) (Zi (Zz v5) 0 v5.length 1 [(ii (rd l0 (tn v6)).a),(ii (rd l0 (tn v6)).c)]) (Zz (v5++[(rd l0 (tn v6)).a,(rd l0 (tn v6)).c]))) (pp (pp (xF (Zi (Zz v5) 0 v5.length 1 [(ii (rd l0 (tn v6)).a),(ii (rd l0 (tn v6)).c)])) nn) (ww o1 (ww o0 (ww o0 (tt k0 nn)))))))))))) (fun k0=>(sl z3e 17 [] ⟨[0],[],rxsN1,rxsM1⟩ ⟨[],[],[]⟩ [false] (pp (fl v5 nn) (tt k0 nn)))))
 | .h1 v5 v7=>(lb (fun k0=>(lo fun o0=>(lo fun o1=>(sl z3e 20 [] ⟨[2],[],rxsN1,rxsM1⟩ ⟨[(5,.len (v5++[(rd l1 (tn v7)).a,(rd l1 (tn v7)).c]).length)],[.rowed 1 (v5++[(rd l1 (tn v7)).a,(rd l1 (tn v7)).c]).length (Zz (v5++[(rd l1 (tn v7)).a,(rd l1 (tn v7)).c]))],[]⟩ [true] (pp (xL (v5.length+2) (v5++[(rd l1 (tn v7)).a,(rd l1 (tn v7)).c]).length) (pp (xL (v5.length+2) (v5++[(rd l1 (tn v7)).a,(rd l1 (tn v7)).c]).length) (pp (xS (v5.length+2) (Zi (Zz v5) 0 v5.length 1 [(ii (rd l1 (tn v7)).a),(ii (rd l1 (tn v7)).c)]) (Zz (v5++[(rd l1 (tn v7)).a,(rd l1 (tn v7)).c]))) (pp (pp (xF (Zi (Zz v5) 0 v5.length 1 [(ii (rd l1 (tn v7)).a),(ii (rd l1 (tn v7)).c)])) nn) (ww o1 (ww o0 (ww o0 (tt k0 nn)))))))))))) (fun k0=>(Xa (sl z3e (C':=⟨⟨48,0,true⟩,(Up prog 165 [1,1,1,1,0] 1),(Zd prog 165 [1,1,1,1,0] 1),none,(Zy prog 5),⟨Yd [(46,(.dat v5.length (Zz v5)))],Uy [] 0,0,[],true⟩,[],.leaf⟩) 13 [] ⟨[],[0],[some [46]],[]⟩ ⟨[(46,.frz v5.length v5.length (Zz v5) (Zz v5))],[],[]⟩ [false] (pp (xZ (z6i 1 1 0 v5.length v5.length (Zz v5)) v5.length (Zz v5)) (pp (xL v5.length v5.length) (pp (xS v5.length (Zz v5) (Zz v5)) (pp (fl v5 nn) (tt k0 nn)))))) (lo fun o0=>(lr 48 3 [1,1,1,1,1,1,1,0] 1 5 [(4,(.dat (z3h (cvT v5)).length (Zz (z3h (cvT v5)))))] (sl z3e 3 [] ⟨[],[],[some [4]],[]⟩ ⟨[],[],[]⟩ [] (pp (pp (xr v5) (xw o0)) nn)))))))
theorem x5z (l0:List R4) (l1:List R4):Xq prog (Zy prog 165) (rxsC l0 l1) (Zc prog 165 [(.dat l0.length (Zz l0)),(.dat l1.length (Zz l1))] true []) (y1q l0 l1):=(sl z3e 15 [(3,1,Zz ([]:List Int))] ⟨[0],[],rxsN0,rxsM0⟩ ⟨[(5,.grow 0 1)],[],[]⟩ [] (pp (fl ([]:List Int) nn) nn))
theorem v5g (l0:List R4) (l1:List R4) (n:Nat) (vs:List AVal) (h:Yj (z2i l0 l1) n (y1q l0 l1)=.ret vs):Kv prog (Zy prog 165) (Zc prog 165 [(.dat l0.length (Zz l0)),(.dat l1.length (Zz l1))] true []) vs:=by have:=Zn (w3y l0 l1) n _ (x5z l0 l1);rwa [h] at this
inductive rysS where
 | h0 (v5:List Int) (v6:Int)
 | h1 (v5:List Int) (v7:Int)
def rysC (l0:List R4) (l1:List R4):rysS→Cfg
 | .h0 v5 v6=>⟨⟨48,0,true⟩,none,(Zd prog 166 [1,1,0,1,0,0] 0),none,(Zy prog 5),⟨Yd [(0,(.dat l0.length (Zz l0))),(1,(.dat l1.length (Zz l1))),(5,(.sla 0 1 0 v5.length (.un 1))),(6,(ii v6))],Uy [⟨rows v5.length (Zz v5),3,some ⟨1,v5.length,(Zz v5)⟩⟩] 0,1,[],true⟩,[],.leaf⟩
 | .h1 v5 v7=>⟨⟨48,0,true⟩,none,(Zd prog 166 [1,1,1,0,1,0,0] 0),none,(Zy prog 5),⟨Yd [(1,(.dat l1.length (Zz l1))),(5,(.sla 0 1 0 v5.length (.un 1))),(7,(ii v7))],Uy [⟨rows v5.length (Zz v5),3,some ⟨1,v5.length,(Zz v5)⟩⟩] 0,1,[],true⟩,[],.leaf⟩
def rysN0 :List (Option (List Nat)):=[some [0,1,5,6]]
def rysM0 :List (Option (List Nat)):=[]
def rysN1 :List (Option (List Nat)):=[some [1,5,7]]
def rysM1 :List (Option (List Nat)):=[]
def z2h (l0:List R4) (l1:List R4):rysS→Xf rysS
 | .h0 v5 v6=>(bif (decide (v6<(l0.length:Int))) then (bif ((decide (0≤v6∧v6<(l0.length:Int)))&&true) then (bif (Nat.beq 1 1&&((decide (0+v5.length=v5.length))&&decide ((v5.length+2+1)*(8+1)≤Ju))) then (.to (.h0 (v5++[(rd l0 v6.toNat).b,(rd l0 v6.toNat).d]) (wrap .i64 (v6+1)))) else .stuck) else .stuck) else (.to (.h1 v5 0)))
 | .h1 v5 v7=>(bif (decide (v7<(l1.length:Int))) then (bif ((decide (0≤v7∧v7<(l1.length:Int)))&&true) then (bif (Nat.beq 1 1&&((decide (0+v5.length=v5.length))&&decide ((v5.length+2+1)*(8+1)≤Ju))) then (.to (.h1 (v5++[(rd l1 v7.toNat).b,(rd l1 v7.toNat).d]) (wrap .i64 (v7+1)))) else .stuck) else .stuck) else (bif (Ki (cvT v5)) then (.ret [(.dat (z3h (cvT v5)).length (Zz (z3h (cvT v5))))]) else .stuck))
def y1p (l0:List R4) (l1:List R4):Xf rysS:=(.to (.h0 ([]:List Int) 0))
theorem w3x (l0:List R4) (l1:List R4): ∀s,Xq prog (Zy prog 166) (rysC l0 l1) (rysC l0 l1 s) (z2h l0 l1 s)
 | .h0 v5 v6=>(lb (fun k0=>(lo fun o0=>(lo fun o1=>(sl z3e 20 [] ⟨[2],[],rysN0,rysM0⟩ ⟨[(5,.len (v5++[(rd l0 (tn v6)).b,(rd l0 (tn v6)).d]).length)],[.rowed 1 (v5++[(rd l0 (tn v6)).b,(rd l0 (tn v6)).d]).length (Zz (v5++[(rd l0 (tn v6)).b,(rd l0 (tn v6)).d]))],[]⟩ [true] (pp (xL (v5.length+2) (v5++[(rd l0 (tn v6)).b,(rd l0 (tn v6)).d]).length) (pp (xL (v5.length+2) (v5++[(rd l0 (tn v6)).b,(rd l0 (tn v6)).d]).length) (pp (xS (v5.length+2) (Zi (Zz v5) 0 v5.length 1 [(ii (rd l0 (tn v6)).b),(ii (rd l0 (tn v6)).d)]) (Zz (v5++[(rd l0 (tn v6)).b,(rd l0 (tn v6)).d]))) (pp (pp (xF (Zi (Zz v5) 0 v5.length 1 [(ii (rd l0 (tn v6)).b),(ii (rd l0 (tn v6)).d)])) nn) (ww o1 (ww o0 (ww o0 (tt k0 nn)))))))))))) (fun k0=>(sl z3e 17 [] ⟨[0],[],rysN1,rysM1⟩ ⟨[],[],[]⟩ [false] (pp (fl v5 nn) (tt k0 nn)))))
 | .h1 v5 v7=>(lb (fun k0=>(lo fun o0=>(lo fun o1=>(sl z3e 20 [] ⟨[2],[],rysN1,rysM1⟩ ⟨[(5,.len (v5++[(rd l1 (tn v7)).b,(rd l1 (tn v7)).d]).length)],[.rowed 1 (v5++[(rd l1 (tn v7)).b,(rd l1 (tn v7)).d]).length (Zz (v5++[(rd l1 (tn v7)).b,(rd l1 (tn v7)).d]))],[]⟩ [true] (pp (xL (v5.length+2) (v5++[(rd l1 (tn v7)).b,(rd l1 (tn v7)).d]).length) (pp (xL (v5.length+2) (v5++[(rd l1 (tn v7)).b,(rd l1 (tn v7)).d]).length) (pp (xS (v5.length+2) (Zi (Zz v5) 0 v5.length 1 [(ii (rd l1 (tn v7)).b),(ii (rd l1 (tn v7)).d)]) (Zz (v5++[(rd l1 (tn v7)).b,(rd l1 (tn v7)).d]))) (pp (pp (xF (Zi (Zz v5) 0 v5.length 1 [(ii (rd l1 (tn v7)).b),(ii (rd l1 (tn v7)).d)])) nn) (ww o1 (ww o0 (ww o0 (tt k0 nn)))))))))))) (fun k0=>(Xa (sl z3e (C':=⟨⟨48,0,true⟩,(Up prog 166 [1,1,1,1,0] 1),(Zd prog 166 [1,1,1,1,0] 1),none,(Zy prog 5),⟨Yd [(46,(.dat v5.length (Zz v5)))],Uy [] 0,0,[],true⟩,[],.leaf⟩) 13 [] ⟨[],[0],[some [46]],[]⟩ ⟨[(46,.frz v5.length v5.length (Zz v5) (Zz v5))],[],[]⟩ [false] (pp (xZ (z6i 1 1 0 v5.length v5.length (Zz v5)) v5.length (Zz v5)) (pp (xL v5.length v5.length) (pp (xS v5.length (Zz v5) (Zz v5)) (pp (fl v5 nn) (tt k0 nn)))))) (lo fun o0=>(lr 48 3 [1,1,1,1,1,1,1,0] 1 5 [(4,(.dat (z3h (cvT v5)).length (Zz (z3h (cvT v5)))))] (sl z3e 3 [] ⟨[],[],[some [4]],[]⟩ ⟨[],[],[]⟩ [] (pp (pp (xr v5) (xw o0)) nn)))))))
theorem x5y (l0:List R4) (l1:List R4):Xq prog (Zy prog 166) (rysC l0 l1) (Zc prog 166 [(.dat l0.length (Zz l0)),(.dat l1.length (Zz l1))] true []) (y1p l0 l1):=(sl z3e 15 [(3,1,Zz ([]:List Int))] ⟨[0],[],rysN0,rysM0⟩ ⟨[(5,.grow 0 1)],[],[]⟩ [] (pp (fl ([]:List Int) nn) nn))
theorem v5f (l0:List R4) (l1:List R4) (n:Nat) (vs:List AVal) (h:Yj (z2h l0 l1) n (y1p l0 l1)=.ret vs):Kv prog (Zy prog 166) (Zc prog 166 [(.dat l0.length (Zz l0)),(.dat l1.length (Zz l1))] true []) vs:=by have:=Zn (w3x l0 l1) n _ (x5y l0 l1);rwa [h] at this
inductive rcutS where
 | h0 (v5:List Int) (v6:Int)
 | h1 (v5:List Int) (v7:Int)
def u6o (l0:List R6) (l1:List R6):rcutS→Cfg
 | .h0 v5 v6=>⟨⟨52,0,true⟩,none,(Zd prog 125 [1,1,0,1,0,0] 0),none,(Zy prog 5),⟨Yd [(0,(.dat l0.length (Zz l0))),(1,(.dat l1.length (Zz l1))),(5,(.sla 0 1 0 v5.length (.un 1))),(6,(ii v6))],Uy [⟨rows v5.length (Zz v5),3,some ⟨1,v5.length,(Zz v5)⟩⟩] 0,1,[],true⟩,[],.leaf⟩
 | .h1 v5 v7=>⟨⟨52,0,true⟩,none,(Zd prog 125 [1,1,1,0,1,0,0] 0),none,(Zy prog 5),⟨Yd [(1,(.dat l1.length (Zz l1))),(5,(.sla 0 1 0 v5.length (.un 1))),(7,(ii v7))],Uy [⟨rows v5.length (Zz v5),3,some ⟨1,v5.length,(Zz v5)⟩⟩] 0,1,[],true⟩,[],.leaf⟩
def u1u :List (Option (List Nat)):=[some [0,1,5,6]]
def u1w :List (Option (List Nat)):=[]
def u1t :List (Option (List Nat)):=[some [1,5,7]]
def u1v :List (Option (List Nat)):=[]
def Qe (l0:List R6) (l1:List R6):rcutS→Xf rcutS
 | .h0 v5 v6=>(bif (decide (v6<(l0.length:Int))) then (bif ((decide (0≤v6∧v6<(l0.length:Int)))&&true) then (bif (Nat.beq 1 1&&((decide (0+v5.length=v5.length))&&decide ((v5.length+2+1)*(8+1)≤Ju))) then (.to (.h0 (v5++[(rd l0 v6.toNat).c,(rd l0 v6.toNat).f]) (wrap .i64 (v6+1)))) else .stuck) else .stuck) else (.to (.h1 v5 0)))
 | .h1 v5 v7=>(bif (decide (v7<(l1.length:Int))) then (bif ((decide (0≤v7∧v7<(l1.length:Int)))&&true) then (bif (Nat.beq 1 1&&((decide (0+v5.length=v5.length))&&decide ((v5.length+2+1)*(8+1)≤Ju))) then (.to (.h1 (v5++[(rd l1 v7.toNat).c,(rd l1 v7.toNat).f]) (wrap .i64 (v7+1)))) else .stuck) else .stuck) else (bif (Ki (cvT v5)) then (.ret [(.dat (z3h (cvT v5)).length (Zz (z3h (cvT v5))))]) else .stuck))
def z7g (l0:List R6) (l1:List R6):Xf rcutS:=(.to (.h0 ([]:List Int) 0))
theorem x6q (l0:List R6) (l1:List R6): ∀s,Xq prog (Zy prog 125) (u6o l0 l1) (u6o l0 l1 s) (Qe l0 l1 s)
 | .h0 v5 v6=>(lb (fun k0=>(lo fun o0=>(lo fun o1=>(sl z3e 20 [] ⟨[2],[],u1u,u1w⟩ ⟨[(5,.len (v5++[(rd l0 (tn v6)).c,(rd l0 (tn v6)).f]).length)],[.rowed 1 (v5++[(rd l0 (tn v6)).c,(rd l0 (tn v6)).f]).length (Zz (v5++[(rd l0 (tn v6)).c,(rd l0 (tn v6)).f]))],[]⟩ [true] (pp (xL (v5.length+2) (v5++[(rd l0 (tn v6)).c,(rd l0 (tn v6)).f]).length) (pp (xL (v5.length+2) (v5++[(rd l0 (tn v6)).c,(rd l0 (tn v6)).f]).length) (pp (xS (v5.length+2) (Zi (Zz v5) 0 v5.length 1 [(ii (rd l0 (tn v6)).c),(ii (rd l0 (tn v6)).f)]) (Zz (v5++[(rd l0 (tn v6)).c,(rd l0 (tn v6)).f]))) (pp (pp (xF (Zi (Zz v5) 0 v5.length 1 [(ii (rd l0 (tn v6)).c),(ii (rd l0 (tn v6)).f)])) nn) (ww o1 (ww o0 (ww o0 (tt k0 nn)))))))))))) (fun k0=>(sl z3e 17 [] ⟨[0],[],u1t,u1v⟩ ⟨[],[],[]⟩ [false] (pp (fl v5 nn) (tt k0 nn)))))
 | .h1 v5 v7=>(lb (fun k0=>(lo fun o0=>(lo fun o1=>(sl z3e 20 [] ⟨[2],[],u1t,u1v⟩ ⟨[(5,.len (v5++[(rd l1 (tn v7)).c,(rd l1 (tn v7)).f]).length)],[.rowed 1 (v5++[(rd l1 (tn v7)).c,(rd l1 (tn v7)).f]).length (Zz (v5++[(rd l1 (tn v7)).c,(rd l1 (tn v7)).f]))],[]⟩ [true] (pp (xL (v5.length+2) (v5++[(rd l1 (tn v7)).c,(rd l1 (tn v7)).f]).length) (pp (xL (v5.length+2) (v5++[(rd l1 (tn v7)).c,(rd l1 (tn v7)).f]).length) (pp (xS (v5.length+2) (Zi (Zz v5) 0 v5.length 1 [(ii (rd l1 (tn v7)).c),(ii (rd l1 (tn v7)).f)]) (Zz (v5++[(rd l1 (tn v7)).c,(rd l1 (tn v7)).f]))) (pp (pp (xF (Zi (Zz v5) 0 v5.length 1 [(ii (rd l1 (tn v7)).c),(ii (rd l1 (tn v7)).f)])) nn) (ww o1 (ww o0 (ww o0 (tt k0 nn)))))))))))) (fun k0=>(Xa (sl z3e (C':=⟨⟨52,0,true⟩,(Up prog 125 [1,1,1,1,0] 1),(Zd prog 125 [1,1,1,1,0] 1),none,(Zy prog 5),⟨Yd [(50,(.dat v5.length (Zz v5)))],Uy [] 0,0,[],true⟩,[],.leaf⟩) 13 [] ⟨[],[0],[some [50]],[]⟩ ⟨[(50,.frz v5.length v5.length (Zz v5) (Zz v5))],[],[]⟩ [false] (pp (xZ (z6i 1 1 0 v5.length v5.length (Zz v5)) v5.length (Zz v5)) (pp (xL v5.length v5.length) (pp (xS v5.length (Zz v5) (Zz v5)) (pp (fl v5 nn) (tt k0 nn)))))) (lo fun o0=>(lr 52 3 [1,1,1,1,1,1,1,0] 1 5 [(4,(.dat (z3h (cvT v5)).length (Zz (z3h (cvT v5)))))] (sl z3e 3 [] ⟨[],[],[some [4]],[]⟩ ⟨[],[],[]⟩ [] (pp (pp (xr v5) (xw o0)) nn)))))))
theorem x2s (l0:List R6) (l1:List R6):Xq prog (Zy prog 125) (u6o l0 l1) (Zc prog 125 [(.dat l0.length (Zz l0)),(.dat l1.length (Zz l1))] true []) (z7g l0 l1):=(sl z3e 15 [(3,1,Zz ([]:List Int))] ⟨[0],[],u1u,u1w⟩ ⟨[(5,.grow 0 1)],[],[]⟩ [] (pp (fl ([]:List Int) nn) nn))
theorem w9o (l0:List R6) (l1:List R6) (n:Nat) (vs:List AVal) (h:Yj (Qe l0 l1) n (z7g l0 l1)=.ret vs):Kv prog (Zy prog 125) (Zc prog 125 [(.dat l0.length (Zz l0)),(.dat l1.length (Zz l1))] true []) vs:=by have:=Zn (x6q l0 l1) n _ (x2s l0 l1);rwa [h] at this
def z3r (l:List R4):List Int:=l.flatMap fun r=>[r.a,r.c]
def z3q (l:List R4):List Int:=l.flatMap fun r=>[r.b,r.d]
def z3p (l:List R6):List Int:=l.flatMap fun r=>[r.c,r.f]
def xsV (l m:List R4):List Int:=z3h (z3r l++z3r m)
def y1f (l m:List R4):Bool:=decide (l.length≤10000∧m.length≤10000)
theorem z0o (l:List R4):(z3r l).length =2*l.length:=by
 induction l with
 | nil=>rfl
 | cons r l ih=>show (_::_::z3r l).length =_;simp only [AV,ih];omega
theorem y6t (l:List R4) (i:Nat) (h:i<l.length):z3r (l.drop i)=z3r [rd l i]++z3r (l.drop (i+1)):=by rw [Ym h];rfl
theorem u0u (l m:List R4) (hl:l.length≤10000) (hm:m.length≤10000): ∀(k i:Nat) (out:List Int),i+k=m.length→out.length=2*l.length+2*i→ ∃N,Yj (z2i l m) N (.to (.h1 out (i:Int)))=.ret [.dat (z3h (out++z3r (m.drop i))).length (Zz (z3h (out++z3r (m.drop i))))]
 | 0,i,out,h,ho=>by refine ⟨1,?_⟩;have hw:Ki out=true:=Ah (by omega);rw [Zv,Au (show m.length≤i by omega),show z3r []=[] from rfl,AA];simp (disch:=omega) only [z2i,Xb,Yo,Zs,Yw,Wy,Yk,Yc,Yp,Zt,Zp,Zf,z0h,z0i,Av,Zx,Zo,Ze,Ya,Zk,Ag,Ai,Al,Ab,Aa,AG,AK,Zg,Za,Zq,Uw,Xw,hw]
 | k+1,i,out,h,ho=>by obtain ⟨N,hN⟩:=u0u l m hl hm k (i+1) (out++z3r [rd m i]) (by omega) (by rw [Az,z0o];simp;omega);refine ⟨N+1,?_⟩;rw [y6t m i (by omega),←AL,Zv];simp (disch:=omega) only [z2i,Xb,Yo,Zs,Yw,Wy,Yk,Yc,Yp,Zt,Zp,Zf,z0h,z0i,Av,Zx,Zo,Ze,Ya,Zk,Ag,Ai,Al,Ab,Aa,AG,AK,Zg,Za,Zq,Uw,Xw];exact hN
theorem u0v (l m:List R4) (hl:l.length≤10000) (hm:m.length≤10000): ∀(k i:Nat) (out:List Int),i+k=l.length→out.length=2*i→ ∃N,Yj (z2i l m) N (.to (.h0 out (i:Int)))=.ret [.dat (z3h (out++z3r (l.drop i)++z3r m)).length (Zz (z3h (out++z3r (l.drop i)++z3r m)))]
 | 0,i,out,h,ho=>by obtain ⟨N,hN⟩:=u0u l m hl hm m.length 0 out (Ag _) (by omega);refine ⟨N+1,?_⟩;rw [Zv,Au (show l.length≤i by omega),show z3r []=[] from rfl,AA];simp (disch:=omega) only [z2i,Xb,Yo,Zs,Yw,Wy,Yk,Yc,Yp,Zt,Zp,Zf,z0h,z0i,Av,Zx,Zo,Ze,Ya,Zk,Ag,Ai,Al,Ab,Aa,AG,AK,Zg,Za,Zq,Uw,Xw];exact hN
 | k+1,i,out,h,ho=>by obtain ⟨N,hN⟩:=u0v l m hl hm k (i+1) (out++z3r [rd l i]) (by omega) (by rw [Az,z0o];simp;omega);refine ⟨N+1,?_⟩;rw [y6t l i (by omega),←AL,Zv];simp (disch:=omega) only [z2i,Xb,Yo,Zs,Yw,Wy,Yk,Yc,Yp,Zt,Zp,Zf,z0h,z0i,Av,Zx,Zo,Ze,Ya,Zk,Ag,Ai,Al,Ab,Aa,AG,AK,Zg,Za,Zq,Uw,Xw];exact hN
theorem u5q (l m:List R4) (h:y1f l m=true): ∃N,Yj (z2i l m) N (y1q l m)=.ret [.dat (xsV l m).length (Zz (xsV l m))]:=by
 obtain ⟨h1,h2⟩:=AE h;have:=u0v l m h1 h2 l.length 0 [] (Ag _) rfl
 simpa [y1q,xsV] using this
def ysV (l m:List R4):List Int:=z3h (z3q l++z3q m)
def y1e (l m:List R4):Bool:=decide (l.length≤10000∧m.length≤10000)
theorem z0n (l:List R4):(z3q l).length =2*l.length:=by
 induction l with
 | nil=>rfl
 | cons r l ih=>show (_::_::z3q l).length =_;simp only [AV,ih];omega
theorem y6s (l:List R4) (i:Nat) (h:i<l.length):z3q (l.drop i)=z3q [rd l i]++z3q (l.drop (i+1)):=by rw [Ym h];rfl
theorem u0s (l m:List R4) (hl:l.length≤10000) (hm:m.length≤10000): ∀(k i:Nat) (out:List Int),i+k=m.length→out.length=2*l.length+2*i→ ∃N,Yj (z2h l m) N (.to (.h1 out (i:Int)))=.ret [.dat (z3h (out++z3q (m.drop i))).length (Zz (z3h (out++z3q (m.drop i))))]
 | 0,i,out,h,ho=>by refine ⟨1,?_⟩;have hw:Ki out=true:=Ah (by omega);rw [Zv,Au (show m.length≤i by omega),show z3q []=[] from rfl,AA];simp (disch:=omega) only [z2h,Xb,Yo,Zs,Yw,Wy,Yk,Yc,Yp,Zt,Zp,Zf,z0h,z0i,Av,Zx,Zo,Ze,Ya,Zk,Ag,Ai,Al,Ab,Aa,AG,AK,Zg,Za,Zq,Uw,Xw,hw]
 | k+1,i,out,h,ho=>by obtain ⟨N,hN⟩:=u0s l m hl hm k (i+1) (out++z3q [rd m i]) (by omega) (by rw [Az,z0n];simp;omega);refine ⟨N+1,?_⟩;rw [y6s m i (by omega),←AL,Zv];simp (disch:=omega) only [z2h,Xb,Yo,Zs,Yw,Wy,Yk,Yc,Yp,Zt,Zp,Zf,z0h,z0i,Av,Zx,Zo,Ze,Ya,Zk,Ag,Ai,Al,Ab,Aa,AG,AK,Zg,Za,Zq,Uw,Xw];exact hN
theorem u0t (l m:List R4) (hl:l.length≤10000) (hm:m.length≤10000): ∀(k i:Nat) (out:List Int),i+k=l.length→out.length=2*i→ ∃N,Yj (z2h l m) N (.to (.h0 out (i:Int)))=.ret [.dat (z3h (out++z3q (l.drop i)++z3q m)).length (Zz (z3h (out++z3q (l.drop i)++z3q m)))]
 | 0,i,out,h,ho=>by obtain ⟨N,hN⟩:=u0s l m hl hm m.length 0 out (Ag _) (by omega);refine ⟨N+1,?_⟩;rw [Zv,Au (show l.length≤i by omega),show z3q []=[] from rfl,AA];simp (disch:=omega) only [z2h,Xb,Yo,Zs,Yw,Wy,Yk,Yc,Yp,Zt,Zp,Zf,z0h,z0i,Av,Zx,Zo,Ze,Ya,Zk,Ag,Ai,Al,Ab,Aa,AG,AK,Zg,Za,Zq,Uw,Xw];exact hN
 | k+1,i,out,h,ho=>by obtain ⟨N,hN⟩:=u0t l m hl hm k (i+1) (out++z3q [rd l i]) (by omega) (by rw [Az,z0n];simp;omega);refine ⟨N+1,?_⟩;rw [y6s l i (by omega),←AL,Zv];simp (disch:=omega) only [z2h,Xb,Yo,Zs,Yw,Wy,Yk,Yc,Yp,Zt,Zp,Zf,z0h,z0i,Av,Zx,Zo,Ze,Ya,Zk,Ag,Ai,Al,Ab,Aa,AG,AK,Zg,Za,Zq,Uw,Xw];exact hN
theorem u5p (l m:List R4) (h:y1e l m=true): ∃N,Yj (z2h l m) N (y1p l m)=.ret [.dat (ysV l m).length (Zz (ysV l m))]:=by
 obtain ⟨h1,h2⟩:=AE h;have:=u0t l m h1 h2 l.length 0 [] (Ag _) rfl
 simpa [y1p,ysV] using this
def Va (l m:List R6):List Int:=z3h (z3p l++z3p m)
def z8f (l m:List R6):Bool:=decide (l.length≤10000∧m.length≤10000)
theorem z0m (l:List R6):(z3p l).length =2*l.length:=by
 induction l with
 | nil=>rfl
 | cons r l ih=>show (_::_::z3p l).length =_;simp only [AV,ih];omega
theorem y6p (l:List R6) (i:Nat) (h:i<l.length):z3p (l.drop i)=z3p [rd l i]++z3p (l.drop (i+1)):=by rw [Ym h];rfl
theorem w9m (l m:List R6) (hl:l.length≤10000) (hm:m.length≤10000): ∀(k i:Nat) (out:List Int),i+k=m.length→out.length=2*l.length+2*i→ ∃N,Yj (Qe l m) N (.to (.h1 out (i:Int)))=.ret [.dat (z3h (out++z3p (m.drop i))).length (Zz (z3h (out++z3p (m.drop i))))]
 | 0,i,out,h,ho=>by refine ⟨1,?_⟩;have hw:Ki out=true:=Ah (by omega);rw [Zv,Au (show m.length≤i by omega),show z3p []=[] from rfl,AA];simp (disch:=omega) only [Qe,Xb,Yo,Zs,Yw,Wy,Yk,Yc,Yp,Zt,Zp,Zf,z0h,z0i,Av,Zx,Zo,Ze,Ya,Zk,Ag,Ai,Al,Ab,Aa,AG,AK,Zg,Za,Zq,Uw,Xw,hw]
 | k+1,i,out,h,ho=>by obtain ⟨N,hN⟩:=w9m l m hl hm k (i+1) (out++z3p [rd m i]) (by omega) (by rw [Az,z0m];simp;omega);refine ⟨N+1,?_⟩;rw [y6p m i (by omega),←AL,Zv];simp (disch:=omega) only [Qe,Xb,Yo,Zs,Yw,Wy,Yk,Yc,Yp,Zt,Zp,Zf,z0h,z0i,Av,Zx,Zo,Ze,Ya,Zk,Ag,Ai,Al,Ab,Aa,AG,AK,Zg,Za,Zq,Uw,Xw];exact hN
theorem w9n (l m:List R6) (hl:l.length≤10000) (hm:m.length≤10000): ∀(k i:Nat) (out:List Int),i+k=l.length→out.length=2*i→ ∃N,Yj (Qe l m) N (.to (.h0 out (i:Int)))=.ret [.dat (z3h (out++z3p (l.drop i)++z3p m)).length (Zz (z3h (out++z3p (l.drop i)++z3p m)))]
 | 0,i,out,h,ho=>by obtain ⟨N,hN⟩:=w9m l m hl hm m.length 0 out (Ag _) (by omega);refine ⟨N+1,?_⟩;rw [Zv,Au (show l.length≤i by omega),show z3p []=[] from rfl,AA];simp (disch:=omega) only [Qe,Xb,Yo,Zs,Yw,Wy,Yk,Yc,Yp,Zt,Zp,Zf,z0h,z0i,Av,Zx,Zo,Ze,Ya,Zk,Ag,Ai,Al,Ab,Aa,AG,AK,Zg,Za,Zq,Uw,Xw];exact hN
 | k+1,i,out,h,ho=>by obtain ⟨N,hN⟩:=w9n l m hl hm k (i+1) (out++z3p [rd l i]) (by omega) (by rw [Az,z0m];simp;omega);refine ⟨N+1,?_⟩;rw [y6p l i (by omega),←AL,Zv];simp (disch:=omega) only [Qe,Xb,Yo,Zs,Yw,Wy,Yk,Yc,Yp,Zt,Zp,Zf,z0h,z0i,Av,Zx,Zo,Ze,Ya,Zk,Ag,Ai,Al,Ab,Aa,AG,AK,Zg,Za,Zq,Uw,Xw];exact hN
theorem v6e (l m:List R6) (h:z8f l m=true): ∃N,Yj (Qe l m) N (z7g l m)=.ret [.dat (Va l m).length (Zz (Va l m))]:=by
 obtain ⟨h1,h2⟩:=AE h;have:=w9n l m h1 h2 l.length 0 [] (Ag _) rfl
 simpa [z7g,Va] using this
def fXs :List AVal→Option (AVal×Bool)
 | [a0,a1]=>match asL R4 a0,asL R4 a1 with
  | some (L0,g0,n0),some (L1,g1,n1)=>some (.dat (xsV L0 L1).length (Zz (xsV L0 L1)),isT R4 n0 g0&&(isT R4 n1 g1&&(y1f L0 L1)))
  | _,_=>none
 | _=>none
theorem fXs_ok {S:Specs} (hS:Zj prog S):Zj prog (S.with nXs fXs):=by
 refine z3m hS (by kernel_rfl) fun args v h=> ?_;unfold fXs at h;split at h
 ·rename_i a0 a1;split at h
  ·rename_i L0 g0 n0 L1 g1 n1 e0 e1;simp only [Ae,Ad,Ac] at h;obtain ⟨rfl,ho0,ho1,hw⟩:=h;obtain ⟨N,hN⟩:=u5q L0 L1 hw;exact ⟨_,_,(.cons (Yr e0 ho0) (.cons (Yr e1 ho1) .nil)),rfl,v5g L0 L1 N _ hN,3,rfl⟩
  ·cases h
 ·cases h
def fYs :List AVal→Option (AVal×Bool)
 | [a0,a1]=>match asL R4 a0,asL R4 a1 with
  | some (L0,g0,n0),some (L1,g1,n1)=>some (.dat (ysV L0 L1).length (Zz (ysV L0 L1)),isT R4 n0 g0&&(isT R4 n1 g1&&(y1e L0 L1)))
  | _,_=>none
 | _=>none
theorem fYs_ok {S:Specs} (hS:Zj prog S):Zj prog (S.with nYs fYs):=by
 refine z3m hS (by kernel_rfl) fun args v h=> ?_;unfold fYs at h;split at h
 ·rename_i a0 a1;split at h
  ·rename_i L0 g0 n0 L1 g1 n1 e0 e1;simp only [Ae,Ad,Ac] at h;obtain ⟨rfl,ho0,ho1,hw⟩:=h;obtain ⟨N,hN⟩:=u5p L0 L1 hw;exact ⟨_,_,(.cons (Yr e0 ho0) (.cons (Yr e1 ho1) .nil)),rfl,v5f L0 L1 N _ hN,3,rfl⟩
  ·cases h
 ·cases h
def u9q :List AVal→Option (AVal×Bool)
 | [a0,a1]=>match asL R6 a0,asL R6 a1 with
  | some (L0,g0,n0),some (L1,g1,n1)=>some (.dat (Va L0 L1).length (Zz (Va L0 L1)),isT R6 n0 g0&&(isT R6 n1 g1&&(z8f L0 L1)))
  | _,_=>none
 | _=>none
theorem v8r {S:Specs} (hS:Zj prog S):Zj prog (S.with nCuts u9q):=by
 refine z3m hS (by kernel_rfl) fun args v h=> ?_;unfold u9q at h;split at h
 ·rename_i a0 a1;split at h
  ·rename_i L0 g0 n0 L1 g1 n1 e0 e1;simp only [Ae,Ad,Ac] at h;obtain ⟨rfl,ho0,ho1,hw⟩:=h;obtain ⟨N,hN⟩:=v6e L0 L1 hw;exact ⟨_,_,(.cons (Yr e0 ho0) (.cons (Yr e1 ho1) .nil)),rfl,w9o L0 L1 N _ hN,3,rfl⟩
  ·cases h
 ·cases h
def T2 :Specs:=((T1.with nXs fXs).with nYs fYs).with nCuts u9q
theorem z9x :Zj prog T2:=v8r (fYs_ok (fXs_ok z3e))
inductive rjoS where
 | h0 (v9:List R4) (v10:List R2) (v11:Int) (v12:Int)
 | h1 (v9:List R4) (v10:List R2) (v11:Int) (v12:Int) (v13:List Bool) (v14:Int)
 | h2 (v9:List R4) (v10:List R2) (v11:Int) (v12:Int) (v15:List R2) (v17:Int)
 | h3 (v9:List R4) (v10:List R2) (v11:Int) (v12:Int) (v16:Int)
abbrev y0f (x0:Int) (l1:List R4) (l2:List R4) (v12:Int) (v14:Int):=(y8p x0 (x0x (cvT l1) (rd (xsV (cvT l1) (cvT l2)) (tn v12)) (rd (ysV (cvT l1) (cvT l2)) (tn v14))) (x0x (cvT l2) (rd (xsV (cvT l1) (cvT l2)) (tn v12)) (rd (ysV (cvT l1) (cvT l2)) (tn v14))))
abbrev y7o (v9:List R4) (v16:Int) (l1:List R4) (l2:List R4) (v12:Int):=(v9.set (0+(tn v16)) (R4.mk (rd v9 (0+(tn v16))).a (rd v9 (0+(tn v16))).b (rd (xsV (cvT l1) (cvT l2)) (tn (wr (v12+1)))) (rd v9 (0+(tn v16))).d))
abbrev y7n (v9:List R4) (l1:List R4) (l2:List R4) (v12:Int) (v15:List R2) (v17:Int):=(v9++[(R4.mk (rd (xsV (cvT l1) (cvT l2)) (tn v12)) (rd v15 (tn v17)).a (rd (xsV (cvT l1) (cvT l2)) (tn (wr (v12+1)))) (rd v15 (tn v17)).b)])
abbrev Qm (l1:List R4) (l2:List R4):=(ysV (cvT l1) (cvT l2))
def w0p (l1:List R4) (l2:List R4):AVal:=(.dat (xsV (cvT l1) (cvT l2)).length (Zz (xsV (cvT l1) (cvT l2))))
def w0o (l1:List R4) (l2:List R4):AVal:=(.dat (Qm l1 l2).length (Zz (Qm l1 l2)))
def rjoC (x0:Int) (l1:List R4) (l2:List R4):rjoS→Cfg
 | .h0 v9 v10 v11 v12=>⟨⟨121,0,true⟩,none,(Zd prog 126 [1,1,1,1,1,0,1,0,0] 0),none,(Zy prog 8),⟨Yd [(0,(ii x0)),(1,(.dat l1.length (Zz l1))),(2,(.dat l2.length (Zz l2))),(7,(w0p l1 l2)),(8,(w0o l1 l2)),(9,(.sla 0 4 0 v9.length (.un 4))),(10,(.dat v10.length (Zz v10))),(11,(ii v11)),(12,(ii v12))],Uy [⟨rows v9.length (Zz v9),88,some ⟨4,v9.length,(Zz v9)⟩⟩] 0,1,[],true⟩,[],.leaf⟩
 | .h1 v9 v10 v11 v12 v13 v14=>⟨⟨121,0,true⟩,none,(Zd prog 126 [1,1,1,1,1,0,1,0,0,1,0,0,1,0,1,0,0] 0),none,(Zy prog 8),⟨Yd [(0,(ii x0)),(1,(.dat l1.length (Zz l1))),(2,(.dat l2.length (Zz l2))),(7,(w0p l1 l2)),(8,(w0o l1 l2)),(9,(.sla 1 4 0 v9.length (.un 4))),(10,(.dat v10.length (Zz v10))),(11,(ii v11)),(12,(ii v12)),(13,(.sla 0 1 0 v13.length (.un 1))),(14,(ii v14))],Uy [⟨rows v13.length (Zz v13),4,some ⟨1,v13.length,(Zz v13)⟩⟩,⟨rows v9.length (Zz v9),88,some ⟨4,v9.length,(Zz v9)⟩⟩] 0,2,[],true⟩,[],.leaf⟩
 | .h2 v9 v10 v11 v12 v15 v17=>⟨⟨121,0,true⟩,none,(Zd prog 126 [1,1,1,1,1,0,1,0,0,1,0,0,1,1,1,1,1,1,0,0] 0),none,(Zy prog 8),⟨Yd [(0,(ii x0)),(1,(.dat l1.length (Zz l1))),(2,(.dat l2.length (Zz l2))),(7,(w0p l1 l2)),(8,(w0o l1 l2)),(9,(.sla 0 4 0 v9.length (.un 4))),(10,(.dat v10.length (Zz v10))),(11,(ii v11)),(12,(ii v12)),(15,(.dat v15.length (Zz v15))),(17,(ii v17))],Uy [⟨rows v9.length (Zz v9),88,some ⟨4,v9.length,(Zz v9)⟩⟩] 0,1,[],true⟩,[],.leaf⟩
 | .h3 v9 v10 v11 v12 v16=>⟨⟨121,0,true⟩,none,(Zd prog 126 [1,1,1,1,1,0,1,0,0,1,0,0,1,1,1,0,1,0,0,1,0,0] 0),none,(Zy prog 8),⟨Yd [(0,(ii x0)),(1,(.dat l1.length (Zz l1))),(2,(.dat l2.length (Zz l2))),(7,(w0p l1 l2)),(8,(w0o l1 l2)),(9,(.sla 0 4 0 v9.length (.un 4))),(10,(.dat v10.length (Zz v10))),(11,(ii v11)),(12,(ii v12)),(16,(ii v16))],Uy [⟨rows v9.length (Zz v9),88,some ⟨4,v9.length,(Zz v9)⟩⟩] 0,1,[],true⟩,[],.leaf⟩
def u6d :List (Option (List Nat)):=[some [0,1,2,7,8,9,10,11,12]]
def u6f :List (Option (List Nat)):=[]
def rjoN1 :List (Option (List Nat)):=[some [0,1,2,7,8,9,10,11,12,13,14]]
def rjoM1 :List (Option (List Nat)):=[]
def u6c :List (Option (List Nat)):=[some [0,1,2,7,8,9,10,11,12,15,17]]
def u6e :List (Option (List Nat)):=[]
def rjoN3 :List (Option (List Nat)):=[some [0,1,2,7,8,9,10,11,12,16]]
def rjoM3 :List (Option (List Nat)):=[]
def Vm (x0:Int) (l1:List R4) (l2:List R4):rjoS→Xf rjoS
 | .h0 v9 v10 v11 v12=>(bif (decide ((wrap .i64 (v12+1))<(((xsV (cvT l1) (cvT l2)).length :Nat):Int))) then (.to (.h1 v9 v10 v11 v12 ([]:List Bool) 0)) else (.ret [(.dat v9.length (Zz v9))]))
 | .h1 v9 v10 v11 v12 v13 v14=>(bif (decide (v14<(((ysV (cvT l1) (cvT l2)).length :Nat):Int))) then (bif (z0b (cvT l1) (rd (xsV (cvT l1) (cvT l2)) v12.toNat) (rd (ysV (cvT l1) (cvT l2)) v14.toNat)) then (bif ((decide (0≤v12∧v12<(((xsV (cvT l1) (cvT l2)).length :Nat):Int)))&&true) then (bif ((decide (0≤v14∧v14<(((ysV (cvT l1) (cvT l2)).length :Nat):Int)))&&true) then (bif (z0b (cvT l2) (rd (xsV (cvT l1) (cvT l2)) v12.toNat) (rd (ysV (cvT l1) (cvT l2)) v14.toNat)) then (bif (Nat.beq 1 1&&((decide (0+v13.length=v13.length))&&decide ((v13.length+1+1)*(1+1)≤Ju))) then (.to (.h1 v9 v10 v11 v12 (v13++[(y8p x0 (x0x (cvT l1) (rd (xsV (cvT l1) (cvT l2)) v12.toNat) (rd (ysV (cvT l1) (cvT l2)) v14.toNat)) (x0x (cvT l2) (rd (xsV (cvT l1) (cvT l2)) v12.toNat) (rd (ysV (cvT l1) (cvT l2)) v14.toNat)))]) (wrap .i64 (v14+1)))) else .stuck) else .stuck) else .stuck) else .stuck) else .stuck) else (bif (z8i (cvT (ysV (cvT l1) (cvT l2))) (cvT v13)) then (bif (decide (v12>0)) then (bif (Vn (cvT (y6l (cvT (ysV (cvT l1) (cvT l2))) (cvT v13))) (cvT v10)) then (bif (Ko (cvT (y6l (cvT (ysV (cvT l1) (cvT l2))) (cvT v13))) (cvT v10)) then (.to (.h3 v9 v10 v11 v12 v11)) else (.to (.h2 v9 (y6l (cvT (ysV (cvT l1) (cvT l2))) (cvT v13)) (v9.length:Int) v12 (y6l (cvT (ysV (cvT l1) (cvT l2))) (cvT v13)) 0))) else .stuck) else (.to (.h2 v9 (y6l (cvT (ysV (cvT l1) (cvT l2))) (cvT v13)) (v9.length:Int) v12 (y6l (cvT (ysV (cvT l1) (cvT l2))) (cvT v13)) 0))) else .stuck))
 | .h2 v9 v10 v11 v12 v15 v17=>(bif (decide (v17<(v15.length:Int))) then (bif ((decide (0≤v12∧v12<(((xsV (cvT l1) (cvT l2)).length :Nat):Int)))&&true) then (bif ((decide (0≤(wrap .i64 (v12+1))∧(wrap .i64 (v12+1))<(((xsV (cvT l1) (cvT l2)).length :Nat):Int)))&&true) then (bif ((decide (0≤v17∧v17<(v15.length:Int)))&&true) then (bif (Nat.beq 4 4&&((decide (0+v9.length=v9.length))&&decide ((v9.length+1+1)*(32+1)≤Ju))) then (.to (.h2 (v9++[(R4.mk (rd (xsV (cvT l1) (cvT l2)) v12.toNat) (rd v15 v17.toNat).a (rd (xsV (cvT l1) (cvT l2)) (Int.toNat (wrap .i64 (v12+1)))) (rd v15 v17.toNat).b)]) v10 v11 v12 v15 (wrap .i64 (v17+1)))) else .stuck) else .stuck) else .stuck) else .stuck) else (.to (.h0 v9 v10 v11 (wrap .i64 (v12+1)))))
 | .h3 v9 v10 v11 v12 v16=>(bif (decide (v16<(v9.length:Int))) then (bif ((decide (0≤(wrap .i64 (v12+1))∧(wrap .i64 (v12+1))<(((xsV (cvT l1) (cvT l2)).length :Nat):Int)))&&true) then (bif ((decide (0≤v16∧v16<(v9.length:Int)))&&true) then (bif (decide ((0+v16.toNat)<v9.length)) then (.to (.h3 (v9.set (0+v16.toNat) (R4.mk (rd v9 (0+v16.toNat)).a (rd v9 (0+v16.toNat)).b (rd (xsV (cvT l1) (cvT l2)) (Int.toNat (wrap .i64 (v12+1)))) (rd v9 (0+v16.toNat)).d)) v10 v11 v12 (wrap .i64 (v16+1)))) else .stuck) else .stuck) else .stuck) else (.to (.h0 v9 v10 v11 (wrap .i64 (v12+1)))))
def y1v (x0:Int) (l1:List R4) (l2:List R4):Xf rjoS:=(bif (y1f (cvT l1) (cvT l2)) then (bif (y1e (cvT l1) (cvT l2)) then (.to (.h0 ([]:List R4) ([]:List R2) 0 0)) else .stuck) else .stuck)
theorem w4e (x0:Int) (l1:List R4) (l2:List R4): ∀s,Xq prog (Zy prog 126) (rjoC x0 l1 l2) (rjoC x0 l1 l2 s) (Vm x0 l1 l2 s)
 | .h0 v9 v10 v11 v12=>(lb (fun k0=>(sl z9x 24 [(4,1,Zz ([]:List Bool))] ⟨[1,0],[],rjoN1,rjoM1⟩ ⟨[(13,.grow 0 1)],[],[]⟩ [true] (pp (fl ([]:List Bool) (fl v9 nn)) (tt k0 nn)))) (fun k0=>(lr 121 3 [1,1,1,1,1,1,1,0] 1 8 [(6,(.dat v9.length (Zz v9)))] (sl z9x 16 [] ⟨[],[0],[some [6]],[]⟩ ⟨[(6,.frz v9.length v9.length (Zz v9) (Zz v9))],[],[]⟩ [false] (pp (xZ (z6i 4 4 0 v9.length v9.length (Zz v9)) v9.length (Zz v9)) (pp (xL v9.length v9.length) (pp (xS v9.length (Zz v9) (Zz v9)) (pp (fl v9 nn) (tt k0 nn)))))))))
 | .h1 v9 v10 v11 v12 v13 v14=>(lb (fun k0=>(lo fun o0=>(lo fun o1=>(lo fun o2=>(lo fun o3=>(lo fun o4=>(sl z9x 20 [] ⟨[3,1],[],rjoN1,rjoM1⟩ ⟨[(13,.len (v13++[(y0f x0 l1 l2 v12 v14)]).length)],[.rowed 1 (v13++[(y0f x0 l1 l2 v12 v14)]).length (Zz (v13++[(y0f x0 l1 l2 v12 v14)])),.keep],[]⟩ [true] (pp (xL (v13.length+1) (v13++[(y0f x0 l1 l2 v12 v14)]).length) (pp (xL (v13.length+1) (v13++[(y0f x0 l1 l2 v12 v14)]).length) (pp (xS (v13.length+1) (Zi (Zz v13) 0 v13.length 1 [(.bool (y0f x0 l1 l2 v12 v14))]) (Zz (v13++[(y0f x0 l1 l2 v12 v14)]))) (pp (pp (xF (Zi (Zz v13) 0 v13.length 1 [(.bool (y0f x0 l1 l2 v12 v14))])) (fl v9 nn)) (ww o4 (pp (pp (xr l2) (xw o3)) (ww o2 (ww o1 (pp (pp (xr l1) (xw o0)) (ww o2 (ww o1 (tt k0 nn))))))))))))))))))) (fun k0=>(Xa (sl z9x (C':=⟨⟨121,0,true⟩,(Up prog 126 [1,1,1,1,1,0,1,0,0,1,0,0,1,1,0] 2),(Zd prog 126 [1,1,1,1,1,0,1,0,0,1,0,0,1,1,0] 1),none,(Zy prog 8),⟨Yd [(0,(ii x0)),(1,(.dat l1.length (Zz l1))),(2,(.dat l2.length (Zz l2))),(7,(.dat (xsV (cvT l1) (cvT l2)).length (Zz (xsV (cvT l1) (cvT l2))))),(8,(.dat (Qm l1 l2).length (Zz (Qm l1 l2)))),(9,(.sla 0 4 0 v9.length (.un 4))),(10,(.dat v10.length (Zz v10))),(11,(ii v11)),(12,(ii v12)),(62,(.dat (Qm l1 l2).length (Zz (Qm l1 l2)))),(63,(.dat v13.length (Zz v13)))],Uy [⟨rows v9.length (Zz v9),88,some ⟨4,v9.length,(Zz v9)⟩⟩] 0,1,[],true⟩,[],.leaf⟩) 14 [] ⟨[1],[0],[some [0,1,2,7,8,9,10,11,12,62,63]],[]⟩ ⟨[(63,.frz v13.length v13.length (Zz v13) (Zz v13))],[],[]⟩ [false] (pp (xZ (z6i 1 1 0 v13.length v13.length (Zz v13)) v13.length (Zz v13)) (pp (xL v13.length v13.length) (pp (xS v13.length (Zz v13) (Zz v13)) (pp (fl v9 nn) (pp (fl v13 nn) (tt k0 nn))))))) (lo fun aG=>(lb (fun k1=>(lo fun bT=>(lb (fun k2=>(sl z9x 23 [] ⟨[0],[],rjoN3,rjoM3⟩ ⟨[],[],[]⟩ (trs 4 []) (pp (fl v9 nn) (tt k2 (pp (pp (xI R2 (y6l (cvT (Qm l1 l2)) (cvT v13)).length (Zz (y6l (cvT (Qm l1 l2)) (cvT v13)))) (pp (xr v10) (xw bT))) (tt k1 (pp (pp (xI Int (Qm l1 l2).length (Zz (Qm l1 l2))) (pp (xr v13) (xw aG))) nn))))))) (fun k2=>(sl z9x 30 [] ⟨[0],[],u6c,u6e⟩ ⟨[],[],[]⟩ (trs 3 [false]) (pp (fl v9 nn) (tt k2 (pp (pp (xI R2 (y6l (cvT (Qm l1 l2)) (cvT v13)).length (Zz (y6l (cvT (Qm l1 l2)) (cvT v13)))) (pp (xr v10) (xw bT))) (tt k1 (pp (pp (xI Int (Qm l1 l2).length (Zz (Qm l1 l2))) (pp (xr v13) (xw aG))) nn)))))))))) (fun k1=>(sl z9x 30 [] ⟨[0],[],u6c,u6e⟩ ⟨[],[],[]⟩ (bl 4 0) (pp (fl v9 nn) (tt k1 (pp (pp (xI Int (Qm l1 l2).length (Zz (Qm l1 l2))) (pp (xr v13) (xw aG))) nn))))))))))
 | .h2 v9 v10 v11 v12 v15 v17=>(lb (fun k0=>(lo fun o0=>(lo fun o1=>(lo fun o2=>(lo fun o3=>(sl z9x 20 [] ⟨[2],[],u6c,u6e⟩ ⟨[(9,.len (y7n v9 l1 l2 v12 v15 v17).length)],[.rowed 4 (y7n v9 l1 l2 v12 v15 v17).length (Zz (y7n v9 l1 l2 v12 v15 v17))],[]⟩ [true] (pp (xL (v9.length+1) (y7n v9 l1 l2 v12 v15 v17).length) (pp (xL (v9.length+1) (y7n v9 l1 l2 v12 v15 v17).length) (pp (xS (v9.length+1) (Zi (Zz v9) 0 v9.length 4 [(ii (rd (xsV (cvT l1) (cvT l2)) (tn v12))),(ii (rd v15 (tn v17)).a),(ii (rd (xsV (cvT l1) (cvT l2)) (tn (wr (v12+1))))),(ii (rd v15 (tn v17)).b)]) (Zz (y7n v9 l1 l2 v12 v15 v17))) (pp (pp (xF (Zi (Zz v9) 0 v9.length 4 [(ii (rd (xsV (cvT l1) (cvT l2)) (tn v12))),(ii (rd v15 (tn v17)).a),(ii (rd (xsV (cvT l1) (cvT l2)) (tn (wr (v12+1))))),(ii (rd v15 (tn v17)).b)])) nn) (ww o3 (ww o2 (ww o1 (ww o2 (ww o0 (tt k0 nn)))))))))))))))) (fun k0=>(sl z9x 17 [] ⟨[0],[],u6d,u6f⟩ ⟨[],[],[]⟩ [false] (pp (fl v9 nn) (tt k0 nn)))))
 | .h3 v9 v10 v11 v12 v16=>(lb (fun k0=>(lo fun o0=>(lo fun o1=>(lo fun o2=>(sl z9x 31 [] ⟨[0],[],rjoN3,rjoM3⟩ ⟨[(9,.len (y7o v9 v16 l1 l2 v12).length)],[.rowed 4 (y7o v9 v16 l1 l2 v12).length (Zz (y7o v9 v16 l1 l2 v12))],[]⟩ [true] (pp (xL v9.length (y7o v9 v16 l1 l2 v12).length) (pp (xL v9.length (y7o v9 v16 l1 l2 v12).length) (pp (xS v9.length (Xn (Zz v9) (0+(tn v16)) 2 [(ii (rd (xsV (cvT l1) (cvT l2)) (tn (wr (v12+1)))))]) (Zz (y7o v9 v16 l1 l2 v12))) (pp (pp (xF (Xn (Zz v9) (0+(tn v16)) 2 [(ii (rd (xsV (cvT l1) (cvT l2)) (tn (wr (v12+1)))))])) nn) (ww o2 (ww o1 (ww o0 (tt k0 nn))))))))))))) (fun k0=>(sl z9x 17 [] ⟨[0],[],u6d,u6f⟩ ⟨[],[],[]⟩ [false] (pp (fl v9 nn) (tt k0 nn)))))
theorem x6h (x0:Int) (l1:List R4) (l2:List R4):Xq prog (Zy prog 126) (rjoC x0 l1 l2) (Zc prog 126 [(.int .i64 x0),(.dat l1.length (Zz l1)),(.dat l2.length (Zz l2))] true []) (y1v x0 l1 l2):=(lo fun o0=>(lo fun o1=>(sl z9x 34 [(88,4,Zz ([]:List R4))] ⟨[0],[],u6d,u6f⟩ ⟨[(9,.grow 0 4),(10,.list 0 (Zz ([]:List R2)))],[],[]⟩ [] (pp (fl ([]:List R4) nn) (pp (pp (xr l1) (pp (xr l2) (xw o1))) (pp (pp (xr l1) (pp (xr l2) (xw o0))) nn))))))
theorem v5o (x0:Int) (l1:List R4) (l2:List R4) (n:Nat) (vs:List AVal) (h:Yj (Vm x0 l1 l2) n (y1v x0 l1 l2)=.ret vs):Kv prog (Zy prog 126) (Zc prog 126 [(.int .i64 x0),(.dat l1.length (Zz l1)),(.dat l2.length (Zz l2))] true []) vs:=by have:=Zn (w4e x0 l1 l2) n _ (x6h x0 l1 l2);rwa [h] at this
theorem z1x : ∀(l out:List Int),(l.foldl y4k out).length ≤out.length+l.length
 | [],out=>An _
 | x::l,out=>AF (z1x l (y4k out x)) (by have:=y4j out x;simp;omega)
theorem z5w (l:List Int):(z3h l).length ≤l.length:=by
 have:=z1x l []
 simpa [z3h] using this
theorem y5d (cuts:List Int) (ins:List Bool): ∀(k i:Nat) (out:List R2),(u4d cuts ins k i out).length ≤out.length+k
 | 0,_,out=>An _
 | k+1,i,out=>by
  unfold u4d;refine AF (y5d cuts ins k (i+1) _) ?_;cases rd ins i
  ·simp only [Aa];omega
  ·simp only [Ab];cases (decide (0<out.length)&&((rd out (out.length - 1)).b == rd cuts i)) <;> simp <;> omega
theorem x9i (cuts:List Int) (ins:List Bool):(y6l cuts ins).length ≤cuts.length:=by have:=y5d cuts ins (cuts.length - 1) 0 [];unfold y6l;simp only [BV] at this;omega
section
variable (kind:Int) (l m:List R4)
def j0f (x:Int) (y:Int):Bool:=y8p kind (x0x l x y) (x0x m x y)
def v4e (x:Int):List R2:=y6l (ysV l m) ((ysV l m).map (j0f kind l m x))
def v4g (out:List R4) (first:Nat) (x:Int):List R4:=out.take first++(out.drop first).map fun r=>⟨r.a,r.b,x,r.d⟩
def u6u (x x':Int) (s:List R2):List R4:=s.map fun p=>⟨x,p.a,x',p.b⟩
def jF :Nat→Nat→List R4→List R2→Nat→List R4
 | 0,_,out,_,_=>out
 | k+1,i,out,last,first=>
  bif decide (0<i)&&Ko (v4e kind l m (rd (xsV l m) i)) last then jF k (i+1) (v4g out first (rd (xsV l m) (i+1))) last first
  else jF k (i+1) (out++u6u (rd (xsV l m) i) (rd (xsV l m) (i+1)) (v4e kind l m (rd (xsV l m) i))) (v4e kind l m (rd (xsV l m) i)) out.length
def joV :List R4:=jF kind l m ((xsV l m).length - 1) 0 [] [] 0
end
def z0y (_:Int) (l m:List R4):Bool:=decide (l.length≤10000∧m.length≤10000)
theorem Kp (l m:List R4):(xsV l m).length ≤2*l.length+2*m.length:=by refine AF (z5w _) ?_;rw [Az,z0o,z0o];omega
theorem y6q (l m:List R4):(ysV l m).length ≤2*l.length+2*m.length:=by refine AF (z5w _) ?_;rw [Az,z0n,z0n];omega
section
variable (kind:Int) (l m:List R4) (hl:l.length≤10000) (hm:m.length≤10000)
include hl hm
theorem u1f (out:List R4) (last:List R2) (first:Int) (i:Nat) (hi:i+1<(xsV l m).length): ∀(k j:Nat) (acc:List Bool),j+k=(ysV l m).length →acc.length=j→
  ∃n,∀N,Yj (Vm kind l m) (N+n) (.to (.h1 out last first (i:Int) acc (j:Int)))=Yj (Vm kind l m) N (.to (.h1 out last first (i:Int) (acc++((ysV l m).drop j).map (j0f kind l m (rd (xsV l m) i))) ((ysV l m).length :Int)))
 | 0,j,acc,h,ha=>by refine ⟨0,fun N=> ?_⟩;rw [Au (by omega),Bg,AA,A4];rw [show j=(ysV l m).length by omega]
 | k+1,j,acc,h,ha=>by
  have hx:=Kp l m;have hy:=y6q l m;obtain ⟨n,hn⟩:=u1f out last first i hi k (j+1) (acc++[j0f kind l m (rd (xsV l m) i) (rd (ysV l m) j)]) (by omega) (by simp [ha])
  refine ⟨n+1,fun N=> ?_⟩;have w1: ∀x y,z0b l x y=true:=fun x y=>Ah (by omega);have w2: ∀x y,z0b m x y=true:=fun x y=>Ah (by omega);rw [Ym (show j<(ysV l m).length by omega),AW,←AD,Zv];simp (disch:=omega) only [Vm,Za,Zq,w1,w2,Zs,Zt,Yc,Yp,Zf,Zp,Zx,Ya,Zk,Ag,Av,Ai,Al,Ab];have:=hn N;rw [AL] at this;exact this
theorem u1e (last:List R2) (first:Int) (i:Nat) (hi:i+1<(xsV l m).length) (s:List R2) (hs:s.length≤1000000): ∀(k j:Nat) (out:List R4),j+k=s.length→out.length≤10000000000+j→
  ∃n,∀N,Yj (Vm kind l m) (N+n) (.to (.h2 out last first (i:Int) s (j:Int)))=Yj (Vm kind l m) N (.to (.h0 (out++u6u (rd (xsV l m) i) (rd (xsV l m) (i+1)) (s.drop j)) last first ((i+1:Nat):Int)))
 | 0,j,out,h,ho=>by have hx:=Kp l m;refine ⟨1,fun N=> ?_⟩;rw [Au (by omega),Zv];simp (disch:=omega) only [Vm,Za,Zq,Yw,Zp,Zx,Aa,u6u,Bg,AA]
 | k+1,j,out,h,ho=>by
  have hx:=Kp l m;obtain ⟨n,hn⟩:=u1e last first i hi s hs k (j+1) (out++u6u (rd (xsV l m) i) (rd (xsV l m) (i+1)) [rd s j]) (by omega) (by simp [u6u];omega)
  refine ⟨n+1,fun N=> ?_⟩;have:=hn N;rw [Ym (show j<s.length by omega),←AD,Zv];simp (disch:=omega) only [Vm,Za,Zq,Zs,Zt,Yc,Yp,Zf,Zp,Zx,Ya,Zk,Ag,Av,Ai,Al,Ab];rw [AL] at this;exact this
theorem v8t (out:List R4) (j:Nat) (x:Int) (h:j<out.length):v4g (out.set j ⟨(rd out j).a,(rd out j).b,x,(rd out j).d⟩) (j+1) x=v4g out j x:=by
 have _uhl:=hl;have _uhm:=hm;unfold v4g;rw [Ym h,AW];have e1:(out.set j ⟨(rd out j).a,(rd out j).b,x,(rd out j).d⟩).take (j+1)=out.take j++[⟨(rd out j).a,(rd out j).b,x,(rd out j).d⟩]:=by
  apply B9
  ·simp;omega
  ·intro n h1 h2;simp only [Bh,List.getElem_set];by_cases e:j=n
   ·subst e;rw [Aw rfl,BH (by simp only [Bl];omega)];simp
   ·rw [At e,By (by simp at h1 ⊢;omega),Bh]
 have e2:(out.set j ⟨(rd out j).a,(rd out j).b,x,(rd out j).d⟩).drop (j+1)=out.drop (j+1):=by rw [List.drop_set];rw [Aw (by omega)]
 rw [e1,e2,AL];rfl
theorem u1d (last:List R2) (first:Int) (i:Nat) (hi:i+1<(xsV l m).length): ∀(k j:Nat) (out:List R4),j+k=out.length→out.length≤10000000000→
  ∃n,∀N,Yj (Vm kind l m) (N+n) (.to (.h3 out last first (i:Int) (j:Int)))=Yj (Vm kind l m) N (.to (.h0 (v4g out j (rd (xsV l m) (i+1))) last first ((i+1:Nat):Int)))
 | 0,j,out,h,ho=>by
  have hx:=Kp l m;refine ⟨1,fun N=> ?_⟩;have e:v4g out j (rd (xsV l m) (i+1))=out:=by unfold v4g;rw [Au (by omega),Bg,AA,AU (by omega)]
  rw [e,Zv];simp (disch:=omega) only [Vm,Za,Zq,Yw,Zp,Zx,Aa]
 | k+1,j,out,h,ho=>by
  have hx:=Kp l m;obtain ⟨n,hn⟩:=u1d last first i hi k (j+1) (out.set j ⟨(rd out j).a,(rd out j).b,rd (xsV l m) (i+1),(rd out j).d⟩) (by simp;omega) (by simpa using ho)
  refine ⟨n+1,fun N=> ?_⟩;have:=hn N;rw [v8t l m hl hm out j _ (by omega)] at this;rw [←AD,Zv];simp (disch:=omega) only [Vm,Za,Zq,Zs,Zt,Yk,Yc,Yp,Zf,Zp,Zx,Ya,Zk,Ag,Av,Ai,Al,Ab];exact this
theorem w9a : ∀(k i:Nat) (out:List R4) (last:List R2) (first:Nat),k=(xsV l m).length - 1 - i→i≤(xsV l m).length →out.length≤i*40000→last.length≤40000→first≤out.length→
  ∃n,Yj (Vm kind l m) n (.to (.h0 out last (first:Int) (i:Int)))=.ret [.dat (jF kind l m k i out last first).length (Zz (jF kind l m k i out last first))]
 | 0,i,out,last,first,h,hi,ho,hla,hf=>by have hx:=Kp l m;refine ⟨1,?_⟩;rw [Zv];simp (disch:=omega) only [Vm,Za,Zq,Yw,Zp,Zx,Aa,Zg,jF]
 | k+1,i,out,last,first,h,hi,ho,hla,hf=>by
  have hx:=Kp l m;have hy:=y6q l m;have hi1:i+1<(xsV l m).length :=by omega
  have hsl:(v4e kind l m (rd (xsV l m) i)).length ≤40000:=AF (x9i _ _) (by omega);have hbig:i*40000≤40000*40000:=AI _ (by omega);obtain ⟨n1,h1⟩:=u1f kind l m hl hm out last first i hi1 (ysV l m).length 0 [] (Ag _) rfl
  simp only [A2,Bk,z2z] at h1;have w3:z8i (ysV l m) ((ysV l m).map (j0f kind l m (rd (xsV l m) i)))=true:=Ah ⟨by omega,by rw [A3];omega⟩;have w4:Vn (y6l (ysV l m) ((ysV l m).map (j0f kind l m (rd (xsV l m) i)))) last=true:=Ah (AF hsl (by omega));have hy2:((ysV l m).length :Int)=(((ysV l m).length :Nat):Int):=rfl;unfold jF;rcases Ye (decide (0<i)&&Ko (v4e kind l m (rd (xsV l m) i)) last) with q | q
  ·obtain ⟨n3,h3⟩:=u1d kind l m hl hm last first i hi1 (out.length - first) first out (by omega) (by omega)
   obtain ⟨n0,h0⟩:=w9a k (i+1) (v4g out first (rd (xsV l m) (i+1))) last first (by omega) (by omega) (by simp [v4g];omega) hla (by simp [v4g];omega)
   refine ⟨n0+n3+1+n1+1,?_⟩;rw [q,Ab,Zv];simp only [Ac,Aq] at q;have q2:Ko (y6l (ysV l m) ((ysV l m).map (j0f kind l m (rd (xsV l m) i)))) last=true:=q.2;simp (disch:=omega) only [Vm,Za,Zq,Zs,Zp,Zx,Ab];have h1':=h1 (n0+n3+1);rw [h1',Zv];simp (disch:=omega) only [Vm,Za,Zq,Yw,Yo,q2,w3,w4,Ab,Aa];rw [h3 n0,h0]
  ·obtain ⟨n2,h2⟩:=u1e kind l m hl hm (v4e kind l m (rd (xsV l m) i)) (out.length:Int) i hi1 (v4e kind l m (rd (xsV l m) i)) (by omega) (v4e kind l m (rd (xsV l m) i)).length 0 out (Ag _) (by omega);obtain ⟨n0,h0⟩:=w9a k (i+1) (out++u6u (rd (xsV l m) i) (rd (xsV l m) (i+1)) (v4e kind l m (rd (xsV l m) i))) (v4e kind l m (rd (xsV l m) i)) out.length (by omega) (by omega) (by simp [u6u];omega) hsl (by simp);refine ⟨n0+n2+1+n1+1,?_⟩;rw [q,Aa,Zv];simp (disch:=omega) only [Vm,Za,Zq,Zs,Zp,Zx,Ab];have h1':=h1 (n0+n2+1);rw [h1',Zv];have h2':=h2 n0;simp only [A2,z2z] at h2';by_cases hi0:0<i
   ·rw [Ah hi0,Al] at q;have q2:Ko (y6l (ysV l m) ((ysV l m).map (j0f kind l m (rd (xsV l m) i)))) last=false:=q;simp (disch:=omega) only [Vm,Za,Zq,Yw,Yo,q2,w3,w4,Ab,Aa];rw [←h0];exact h2'
   ·simp (disch:=omega) only [Vm,Za,Zq,Yw,Xb,w3,w4,Ab,Aa];rw [←h0];exact h2'
end
theorem u6b (kind:Int) (l m:List R4) (h:z0y kind l m=true): ∃N,Yj (Vm kind l m) N (y1v kind l m)=.ret [.dat (joV kind l m).length (Zz (joV kind l m))]:=by obtain ⟨hl,hm⟩:=AE h;obtain ⟨N,hN⟩:=w9a kind l m hl hm ((xsV l m).length - 1) 0 [] [] 0 rfl (AJ _) (AJ _) (AJ _) (An _);refine ⟨N,?_⟩;have w1:y1f l m=true:=Ah ⟨hl,hm⟩;have w2:y1e l m=true:=Ah ⟨hl,hm⟩;simp only [y1v,Za,Zq,w1,w2,Ab];exact hN
theorem w7a {P:Program} {S:Specs} (hS:Zj P S) {f:FuncId} {F:List AVal→Option (AVal×Bool)} (hf:(P.funcs[f]?).any (fun fn=>fn.body.isSome)=true)
  (hF: ∀args v,F args=some (v,true)→ ∃bs vs,Vu VLe args bs∧(∀(ρ:Rho) (u:Value),Yy ρ (Jt vs) u→Yy ρ v u)∧Kv P (Zy P f) (Zc P f bs true []) vs∧ ∃d,pf d (Jt vs)=true):Zj P (S.with f F):=
 w2y hS hf fun args v h=>by obtain ⟨bs,vs,h1,h2,h3,d,h4⟩:=hF args v h;exact ⟨vs,h2,x4b h1 h3,d,h4⟩
theorem z3s {cs cs':List AVal} (h:RLe cs cs') (ρ:Rho) (u:Value) (hv:Yy ρ (.tup cs) u):Yy ρ (.tup cs') u:=by
 cases hv with
 | tup _ vs hl hh=>exact .tup cs' vs (by rw [←h.len];exact hl) fun i h1 h2=>h.sound i (by rw [h.len];exact h1) h1 (hh i (by rw [h.len];exact h1) h2)
theorem z6g (α:Type) [Ys α]:VLe .nils (.dat ([]:List α).length (Zz ([]:List α))):=.nild _
def fJo :List AVal→Option (AVal×Bool)
 | [.int .i64 x0,a1,a2]=>match asL R4 a1,asL R4 a2 with
  | some (L1,g1,n1),some (L2,g2,n2)=>some (.dat (joV x0 L1 L2).length (Zz (joV x0 L1 L2)),isT R4 n1 g1&&(isT R4 n2 g2&&(z0y x0 L1 L2)))
  | _,_=>none
 | _=>none
theorem fJo_ok {S:Specs} (hS:Zj prog S):Zj prog (S.with u2q fJo):=by
 refine z3m hS (by kernel_rfl) fun args v h=> ?_;unfold fJo at h;split at h
 ·rename_i x0 a1 a2;split at h
  ·rename_i L1 g1 n1 L2 g2 n2 e1 e2;simp only [Ae,Ad,Ac] at h;obtain ⟨rfl,ho1,ho2,hw⟩:=h;obtain ⟨N,hN⟩:=u6b x0 L1 L2 hw;exact ⟨_,_,(.cons (.refl _) (.cons (Yr e1 ho1) (.cons (Yr e2 ho2) .nil))),rfl,v5o x0 L1 L2 N _ hN,3,rfl⟩
  ·cases h
 ·cases h
def T3 :Specs:=T2.with u2q fJo
theorem z9w :Zj prog T3:=fJo_ok z9x
open Go.Sort
def bnd3 (r:R3):Bool:=decide (-1000000000≤r.a∧r.a≤1000000000)
def y0x (l:List R3):Bool:=l.all bnd3
abbrev E3 :={r:R3 // bnd3 r=true}
instance : Inhabited E3:=⟨⟨⟨0,0,0⟩,rfl⟩⟩
def cf3 (x y:E3):Int:=x.1.a - y.1.a
def lt3 (x y:E3):Bool:=decide (cf3 x y<0)
theorem swo3 :SWO lt3 where
 irrefl x:=by unfold lt3 cf3;simp
 trans x y z h1 h2:=by unfold lt3 cf3 at*;simp at*;omega
 ntrans x y z h1 h2:=by unfold lt3 cf3 at*;simp at*;omega
def x1v :(l:List R3)→y0x l=true→List E3
 | [],_=>[]
 | r::l,h=>⟨r,by simp [y0x] at h;exact h.1⟩::x1v l (by simp [y0x] at h ⊢;exact h.2)
theorem y2v : ∀(l:List R3) (h:y0x l=true),(x1v l h).map Subtype.val=l
 | [],_=>rfl
 | r::l,h=>by rw [x1v,AW,y2v l]
theorem Kd (l:List R3) (h:y0x l=true):(x1v l h).length =l.length:=by
 have:=AX List.length (y2v l h)
 simpa using this
def z0q (l:List R3):List R3:=if h:y0x l=true then (pdq lt3 (x1v l h).toArray 0 l.length (Lib.bitLen l.length) true true).toList.map Subtype.val else l
theorem Kn (l:List R3) (h:y0x l=true):(z0q l).Perm l∧ ∀i j,i<j→j<(z0q l).length →(rd (z0q l) i).a ≤(rd (z0q l) j).a :=by
 have hp:=pdq_sorts lt3 swo3 (x1v l h).toArray 0 l.length (Lib.bitLen l.length) true true (AJ _) (by simp [Kd]) (Or.inl rfl);obtain ⟨⟨h1,h2,h3⟩,h4⟩:=hp;have e:z0q l=(pdq lt3 (x1v l h).toArray 0 l.length (Lib.bitLen l.length) true true).toList.map Subtype.val:=by unfold z0q;rw [dif_pos h]
 generalize pdq lt3 (x1v l h).toArray 0 l.length (Lib.bitLen l.length) true true=d at*;have hs:d.size=l.length:=by rw [h1];simp [Kd]
 constructor
 ·rw [e];have x1:(d.extract 0 l.length).toList =d.toList:=by rw [←hs];simp
  have x2:((x1v l h).toArray.extract 0 l.length).toList =x1v l h:=by rw [show l.length=(x1v l h).toArray.size by simp [Kd]];simp
  rw [x1,x2] at h3;have:=h3.map Subtype.val;rw [y2v] at this;exact this
 ·intro i j hij hj;rw [e] at hj ⊢;have hj':j<d.size:=by simpa using hj
  have:=h4 i j (AJ _) hij (by omega);rw [BO d i (by omega),BO d j hj'] at this;rw [Xp (by simp;omega),Xp hj];simp only [B7,Array.getElem_toList];unfold lt3 cf3 at this;have:=Cc this;omega
open Go.RowKit Go.Shelf
variable {P:Program} {ρ:Rho}
def valOf :AVal→Value
 | .int k n=>.int k n
 | .bool b=>.bool b
 | _=>.tuple #[]
def x8b :AVal→Bool
 | .int _ _=>true
 | .bool _=>true
 | _=>false
theorem w7h {a:AVal} (h:x8b a=true):Yy ρ a (valOf a):=by
 cases a <;> first
  | exact .int _ _
  | exact .bool _
  | (simp [x8b] at h;done)
theorem w9j {a:AVal} {v:Value} (h:x8b a=true) (hv:Yy ρ a v):v=valOf a:=by
 cases hv <;> first
  | rfl
  | (simp [x8b] at h;done)
class u4g (α:Type) extends Ys α where
 num: ∀a:α,(cells a).all x8b=true
instance : u4g R2 where num _:=rfl
instance : u4g R3 where num _:=rfl
instance : u4g R4 where num _:=rfl
instance : u4g R6 where num _:=rfl
instance {α :Type} [Ys α]:Inhabited α:=⟨Ys.d⟩
section
variable {α:Type} [u4g α]
def y8z (a:α):List Value:=(Ys.cells a).map valOf
theorem y4v (a:α):(y8z a).length =Ys.w α:=by rw [y8z,A3,Ys.len]
theorem w2j (L:List α) (t:Nat) (h:t<L.length*Ys.w α):(flatK y8z (Ys.w α) L.toArray)[t]? =(Ys.cells (rd L (t / Ys.w α)))[t %Ys.w α]?.map valOf:=by
 have hw:=Ys.pos (α:=α);have hq:t / Ys.w α<L.length:=Bu (by rw [Bj];exact h);have hj:t %Ys.w α<Ys.w α:=BR _ hw;have hs:t<(flatK y8z (Ys.w α) L.toArray).size :=by rw [size_flatK];exact h
 rw [Bc hs,←BO (flatK y8z (Ys.w α) L.toArray) t hs,get_flatK y8z (Ys.w α) L.toArray t (by simpa using h)];have e1:L.toArray[t / Ys.w α]! =rd L (t / Ys.w α):=by rw [Xp hq,BO L.toArray _ (by simpa using hq)];simp
 rw [e1];have hl:t %Ys.w α<(y8z (rd L (t / Ys.w α))).length :=by rw [y4v];exact hj
 have hl2:t %Ys.w α<(Ys.cells (rd L (t / Ys.w α))).length :=by rw [Ys.len];exact hj
 rw [BO (y8z (rd L (t / Ys.w α))) _ hl,Ar hl2];simp [y8z]
theorem w8w (L:List α) (N t:Nat) (h:t<N*Ys.w α):(rows N (Zz L))[t]? =(Ys.cells (rd L (t / Ys.w α)))[t %Ys.w α]? :=by have hw:=Ys.pos (α:=α);have:=Vz (get:=Zz L) (sz:=Ys.w α) N (fun _ _=>Ys.len _) (t / Ys.w α) (t %Ys.w α) (Bu (by rw [Bj];exact h)) (BR _ hw);rw [show t / Ys.w α*Ys.w α+t %Ys.w α=t by rw [Bj];exact BU t _] at this;exact this
theorem z1p (L:List α) (N:Nat):(rows N (Zz L)).length =N*Ys.w α:=Yq N fun _ _=>Ys.len _
theorem y4m (w:World) (n blk off:Nat) (d:Array Value) (os:Array Obj) (k:Nat) (hk:k<w.heap.size):
  (grow (putRow id (Go.Sort.ahead w n) blk off d) os).heap[k]? =if k=blk then (w.heap[k]?).map (onCells (putCells id off d)) else w.heap[k]? :=by
 show (((Go.Sort.ahead w n).heap.modify blk (onCells (putCells id off d)))++os)[k]? =_;rw [Array.getElem?_append_left (by simp;exact hk),Array.getElem?_modify];show (if blk=k then _ else _)=_;by_cases h:k=blk
 ·rw [Aw h.symm,Aw h];rfl
 ·rw [At (fun e=>h e.symm),At h];rfl
def w2l (α:Type) [Ys α] (srt:List α→List α) (bnd:List α→Bool) (g:FuncId) (args:List AVal) (mem:Mem):Option (AVal×Nat×ABlk×Bool):=match args with
 | [.sla b sz off n cap,.fn f []]=>bif Nat.beq f g then match Yf mem b with
  | some ⟨_,ty,some A⟩=>some (.tup [],b,⟨rows A.n (Zz (srt (lst α n A.get))),ty,some ⟨Ys.w α,A.n,Zz (srt (lst α n A.get))⟩⟩,
    Nat.beq sz (Ys.w α)&&(Nat.beq A.sz (Ys.w α)&&(Nat.beq off 0&&((decide (n=A.n)&&(isT α n A.get&&decide (n<4611686018427387904)))&&bnd (lst α n A.get)))))
  | _=>none
  else none
 | _=>none
theorem v2t {f g:FuncId} {srt:List α→List α} {bnd:List α→Bool} (hsl: ∀L,(srt L).length =L.length)
  (hC: ∀(blk off cap:Nat) (L:List α) (w:World),bnd L=true→HoldsK y8z (Ys.w α) w blk off L.toArray→blk<w.heap.size→L.length<4611686018427387904→
   Calls P f #[.slice (some ⟨blk,off,none⟩) L.length cap,.func (.func g) #[] #[]] w fun e w'=>e=.returned (.tuple #[])∧ ∃n os,w'=sortWorldK y8z (Ys.w α) w blk off n (srt L).toArray os)
  (hN: ∀(p:Option Addr) (cap:Nat) (fv:Value) (w:World),Calls P f #[.slice p 0 cap,fv] w fun e w'=>e=.returned (.tuple #[])∧w'=w):x4w P f (w2l α srt bnd g):=by
 intro args mem v b blk h fB ρ next floor vals w hfl cZ cW
 have hw0:=Ys.pos (α:=α);unfold w2l at h;split at h
 ·rename_i b0 sz off n cap f0;obtain ⟨hfg,h'⟩:=Qi h;clear h;obtain rfl:=Aj hfg;have h:=h';clear h';split at h
  ·rename_i cells ty A hm;obtain ⟨asz,an,get⟩:=A;simp only [Ae,Ad,Ac] at h;obtain ⟨rfl,rfl,rfl,h1,h2,h3,⟨h4,h5,h6⟩,h7⟩:=h;have g1:=Aj h1;have g2:=Aj h2;have g3:=Aj h3;have g4:n=an:=AE h4;have h6:n<4611686018427387904:=AE h6;have g2:asz=Ys.w α:=g2;subst g1;subst g2;subst g3;subst g4;have h7:bnd (lst α n get.get)=true:=h7;have dE:=w2b h5;have dE: ∀i,i<n→get.get i=Zz (lst α n get.get) i:=dE;have hrows:rows n get.get=rows n (Zz (lst α n get.get)):=z4s n dE;obtain ⟨u,hu,hvals⟩: ∃u,Yy ρ (.sla b0 (Ys.w α) 0 n cap) u∧vals= #[u,.func (.func f0) #[] #[]]:=by
    obtain ⟨vl⟩:=vals;cases cZ with
    | cons q1 q2=>cases q2 with
     | cons q3 q4=>
      cases q4;cases q3 with
      | fn _ _ cvs hl _=>have:cvs= #[]:=BM (by simpa using hl.symm);subst this;exact ⟨_,q1,rfl⟩
   subst hvals;have hlt:b0<next:=by
    rcases Bo b0 next with q | q
    ·exact q
    ·have:=cW.bd b0 q;rw [hm] at this;cases this
   show Calls P f _ w _;have hAget:(Arr.get ⟨Ys.w α,n,get⟩)=get.get:=rfl;rw [hAget] at*;generalize hI:lst α n get.get=I at*;have hIl:I.length=n:=by rw [←hI];exact z4z _ _
   generalize hL:srt I=L;have hLl:L.length=n:=by rw [←hL,hsl,hIl]
   have hnn:ρ b0=none→ ∀cs ty',Yf mem b0≠some ⟨cs,ty',none⟩:=fun _ cs ty' e=>by rw [hm] at e;cases e
   cases hu with
   | sla _ _ _ _ _ l cc e hc cX=>
    have hbk:=cW.blk b0 l _ e hm;obtain ⟨har,_,_⟩:=hbk.arr _ rfl;have har:cells=rows n get.get:=har;rw [hrows] at har;subst har;obtain ⟨cur,el,hh,hsz,dB⟩:=hbk.cells;simp only [z1p] at dB;have htot:=hbk.tot;have hln:=hbk.n;simp only [z1p] at hln;have dZ: ∀t,t<n*Ys.w α→cur[l.base+t]? =(Ys.cells (rd I (t / Ys.w α)))[t %Ys.w α]?.map valOf:=fun t ht=>by
     obtain ⟨v,e1,e2⟩:=dB t ht;have hj:t %Ys.w α<Ys.w α:=BR _ hw0;have hl2:t %Ys.w α<(Ys.cells (rd I (t / Ys.w α))).length :=by rw [Ys.len];exact hj
     have e3:=w8w I n t ht;rw [Ar (by rw [z1p];exact ht),Ar hl2] at e3;rw [Af e3] at e2;rw [e1,Ar hl2,BI,w9j (As.1 (u4g.num _) _ (AS hl2)) e2]
    have eI:=cW.real b0 l e;have hH:HoldsK y8z (Ys.w α) w l.blk (l.base+0*Ys.w α) I.toArray:=fun j hj=>by
     have hj:j<n*Ys.w α:=(by simpa [hIl] using hj);have hs:j<(flatK y8z (Ys.w α) I.toArray).size :=(by simpa [hIl] using hj);have e1:=w2j I j (by rw [hIl];exact hj);rw [Bc hs] at e1;refine ⟨?_,?_⟩
     ·simp only [World.cell?,hh,Bb,A4,id];rw [dZ j hj,←e1,BO (flatK y8z (Ys.w α) I.toArray) j hs];simp
     ·simp [World.frozen?,hh]
    have dK:=hC l.blk (l.base+0*Ys.w α) cc I w h7 hH eI (by omega);rw [hIl,hL] at dK;refine dK.mono fun e' w' ⟨he,q,os,hw'⟩=>⟨_,he,?_,?_,?_⟩
    ·exact .tup [] #[] rfl fun i h1 h2=>absurd h1 (AQ _)
    ·subst hw';refine Rel.setArr ?_ ⟨Ys.w α,n,.flat (Zz L)⟩ rfl hw0 fun _ _=>Ys.len _;refine Rel.rewritten cW e hm (by simp only [z1p]) (fun k hk hne=> ?_) ?_ ?_
     ·exact (y4m _ _ _ _ _ _ _ hk).trans (At hne)
     ·show _≤(((Go.Sort.ahead w q).heap.modify _ _)++os).size;simp only [BL,Ch];exact BE _ _
     ·refine ⟨putCells id (l.base+0*Ys.w α) (flatK y8z (Ys.w α) L.toArray) cur,el,?_,?_,fun i hi=> ?_⟩
      ·refine (y4m _ _ _ _ _ _ _ eI).trans ?_;rw [Aw rfl,hh];rfl
      ·simp only [putCells,Array.size_mapIdx];exact hsz
      ·rw [z1p] at hi;have hj:i %Ys.w α<Ys.w α:=BR _ hw0;have hl2:i %Ys.w α<(Ys.cells (rd L (i / Ys.w α))).length :=by rw [Ys.len];exact hj
       have hl3:i %Ys.w α<(Ys.cells (rd I (i / Ys.w α))).length :=by rw [Ys.len];exact hj
       have e1:=w2j L i (by rw [hLl];exact hi);rw [Ar hl2,BI] at e1;have hs:i<(flatK y8z (Ys.w α) L.toArray).size :=(by simpa [hLl] using hi);rw [Bc hs] at e1;have e3:=w8w L n i hi;rw [Ar (by rw [z1p];exact hi),Ar hl2] at e3;refine ⟨valOf (Ys.cells (rd L (i / Ys.w α)))[i %Ys.w α],?_,?_⟩
       ·have hc0:=dZ i hi;rw [Ar hl3,BI] at hc0;simp only [putCells,Array.getElem?_mapIdx,hc0,BI,Bb,A4];rw [Aw ⟨by omega,by omega⟩]
        congr 1
        rw [show l.base+i - l.base=i by omega,id,BO (flatK y8z (Ys.w α) L.toArray) i hs];exact Af e1
       ·rw [Af e3];exact w7h (As.1 (u4g.num _) _ (AS hl2))
    ·subst hw';refine Ev.rewritten cW _ (fun l' _=>hfl) hnn (fun k hk hne=> ?_) ?_ rfl rfl rfl
     ·exact (y4m _ _ _ _ _ _ _ hk).trans (At (hne l e))
     ·show _≤(((Go.Sort.ahead w q).heap.modify _ _)++os).size;simp only [BL,Ch];exact BE _ _
   | slan=>
    have hI0:I=[]:=List.eq_nil_of_length_eq_zero hIl;have hL0:L=[]:=List.eq_nil_of_length_eq_zero hLl;refine (hN none 0 _ w).mono fun e' w' ⟨he,hw'⟩=>⟨_,he,?_,?_,?_⟩
    ·exact .tup [] #[] rfl fun i h1 h2=>absurd h1 (AQ _)
    ·subst hw';refine cW.reblk hm fun l hρ hbk=> ?_;obtain ⟨har,eZ,_⟩:=hbk.arr _ rfl;have har:cells=rows 0 get.get:=har;subst har;exact ⟨hbk.n,hbk.tot,fun B hB=>by obtain rfl:=Af hB;exact ⟨rfl,hw0,fun i hi=>absurd hi (AQ _)⟩,hbk.cells⟩
    ·subst hw';exact Ev.rewritten cW _ (fun l' _=>hfl) hnn (fun _ _ _=>rfl) (An _) rfl rfl rfl
  ·cases h
 ·cases h
end
def Specs.withE (S:Specs) (f:FuncId) (F:List AVal→Mem→Option (AVal×Nat×ABlk×Bool)):Specs:=fun g=>bif Nat.beq g f then some (.eff F) else S g
theorem y9j {P:Program} {S:Specs} (hS:Zj P S) {f:FuncId} {F:List AVal→Mem→Option (AVal×Nat×ABlk×Bool)} (hf:(P.funcs[f]?).any (fun fn=>fn.body.isSome)=true) (hF:x4w P f F):Zj P (S.withE f F):=by
 intro g G hg;unfold Specs.withE at hg;cases hgf:Nat.beq g f with
 | false=>rw [hgf] at hg;exact hS g G hg
 | true=>
  rw [hgf] at hg;obtain rfl:Spec.eff F=G:=Af hg;obtain rfl:g=f:=Aj hgf;refine ⟨?_,hF⟩;cases hfn:P.funcs[g]? with
  | none=>rw [hfn] at hf;cases hf
  | some fn=>rw [hfn] at hf;exact ⟨fn,rfl,hf⟩
end Go.Am
namespace Go.Proofs
open Go.Proofs.Tryz
open Go.Shelf
def Tryz.lays189_ren :Go.Shelf.Ren:=⟨fun | 189=>63 | 125=>117 | 257=>116 | 128=>152 | 129=>153 | 294=>143 | 295=>144 | 296=>145 | 297=>146 | 298=>147 | 299=>148 | 216=>149 | 300=>150 | 301=>151 | 328=>176 | 329=>177 | 330=>178 | 331=>179 | 332=>180 | 215=>181 | 343=>194 | n=>n,fun | 28=>93 | 3=>3 | 46=>147 | 0=>0 | 51=>194 | 53=>196 | 4=>4 | 183=>186 | 182=>185 | 131=>191 | 5=>5 | 9=>9 | 218=>224 | 222=>228 | 228=>239 | 229=>91 | n=>n,fun | n=>n⟩
theorem Tryz.lays189 :Go.Proofs.Lays.n189 prog Tryz.lays189_ren:={
 mixed:=by kernel_rfl
 f125:=Tryz.func117.trans (congrArg some (by kernel_rfl))
 f128:=Tryz.func152.trans (congrArg some (by kernel_rfl))
 f129:=Tryz.func153.trans (congrArg some (by kernel_rfl))
 f189:=Tryz.func63.trans (congrArg some (by kernel_rfl))
 f215:=Tryz.func181.trans (congrArg some (by kernel_rfl))
 f216:=Tryz.func149.trans (congrArg some (by kernel_rfl))
 f257:=Tryz.func116.trans (congrArg some (by kernel_rfl))
 f294:=Tryz.func143.trans (congrArg some (by kernel_rfl))
 f295:=Tryz.func144.trans (congrArg some (by kernel_rfl))
 f296:=Tryz.func145.trans (congrArg some (by kernel_rfl))
 f297:=Tryz.func146.trans (congrArg some (by kernel_rfl))
 f298:=Tryz.func147.trans (congrArg some (by kernel_rfl))
 f299:=Tryz.func148.trans (congrArg some (by kernel_rfl))
 f300:=Tryz.func150.trans (congrArg some (by kernel_rfl))
 f301:=Tryz.func151.trans (congrArg some (by kernel_rfl))
 f328:=Tryz.func176.trans (congrArg some (by kernel_rfl))
 f329:=Tryz.func177.trans (congrArg some (by kernel_rfl))
 f330:=Tryz.func178.trans (congrArg some (by kernel_rfl))
 f331:=Tryz.func179.trans (congrArg some (by kernel_rfl))
 f332:=Tryz.func180.trans (congrArg some (by kernel_rfl))
 f343:=Tryz.func194.trans (congrArg some (by kernel_rfl))
 t0:=Tryz.underlying0
 a0:=Tryz.isAgg0
 z0:=Tryz.sizeOf0
 v0:=Tryz.zeroValue0
 t3:=Tryz.underlying3
 a3:=Tryz.isAgg3
 z3:=Tryz.sizeOf3
 v3:=Tryz.zeroValue3
 t4:=Tryz.underlying4
 a4:=Tryz.isAgg4
 z4:=Tryz.sizeOf4
 v4:=Tryz.zeroValue4
 t5:=Tryz.underlying5
 a5:=Tryz.isAgg5
 z5:=Tryz.sizeOf5
 v5:=Tryz.zeroValue5
 t9:=Tryz.underlying9
 a9:=Tryz.isAgg9
 z9:=Tryz.sizeOf9
 v9:=Tryz.zeroValue9
 t28:=Tryz.underlying93
 a28:=Tryz.isAgg93
 z28:=Tryz.sizeOf93
 v28:=Tryz.zeroValue93
 t46:=Tryz.underlying147
 a46:=Tryz.isAgg147
 z46:=Tryz.sizeOf147
 v46:=Tryz.zeroValue147
 t51:=Tryz.underlying194
 a51:=Tryz.isAgg194
 z51:=Tryz.sizeOf194
 v51:=Tryz.zeroValue194
 t53:=Tryz.underlying196
 a53:=Tryz.isAgg196
 z53:=Tryz.sizeOf196
 v53:=Tryz.zeroValue196
 t131:=Tryz.underlying191
 a131:=Tryz.isAgg191
 z131:=Tryz.sizeOf191
 v131:=Tryz.zeroValue191
 t182:=Tryz.underlying185
 a182:=Tryz.isAgg185
 z182:=Tryz.sizeOf185
 v182:=Tryz.zeroValue185
 t183:=Tryz.underlying186
 a183:=Tryz.isAgg186
 z183:=Tryz.sizeOf186
 v183:=Tryz.zeroValue186
 t218:=Tryz.underlying224
 a218:=Tryz.isAgg224
 z218:=Tryz.sizeOf224
 v218:=Tryz.zeroValue224
 t222:=Tryz.underlying228
 a222:=Tryz.isAgg228
 z222:=Tryz.sizeOf228
 v222:=Tryz.zeroValue228
 t228:=Tryz.underlying239
 a228:=Tryz.isAgg239
 z228:=Tryz.sizeOf239
 v228:=Tryz.zeroValue239
 t229:=Tryz.underlying91
 a229:=Tryz.isAgg91
 z229:=Tryz.sizeOf91
 v229:=Tryz.zeroValue91}
open Go.Sort Go.RowKit in
theorem Tryz.slices_Sort_int (blk off cap:Nat) (zs:List Int) (w:World) (hH:Holds (Value.int .i64) w blk off zs.toArray) (eI:blk<w.heap.size) (hsz:zs.length<4611686018427387904):
  Calls prog 63 #[.slice (some ⟨blk,off,none⟩) zs.length cap] w fun e w'=>
   e=.returned (.tuple #[])∧ ∃n os,w'=grow (putRow (Value.int .i64) (Sort.ahead w n) blk off (zs.mergeSort fun x y=>decide (x≤y)).toArray) os:=Any.slices_Sort_int Tryz.lays189 blk off cap zs w hH eI hsz
def Tryz.laysNm220_ren :Go.Shelf.Ren:=⟨fun | 20=>64 | n=>n,fun | 22=>93 | 3=>3 | 4=>4 | 0=>0 | n=>n,fun | n=>n⟩
theorem Tryz.laysNm220 :Go.Proofs.Lays2.n20 prog Tryz.laysNm220_ren:={
 mixed:=by kernel_rfl
 f20:=Tryz.func64.trans (congrArg some (by kernel_rfl))
 t0:=Tryz.underlying0
 a0:=Tryz.isAgg0
 z0:=Tryz.sizeOf0
 v0:=Tryz.zeroValue0
 t3:=Tryz.underlying3
 a3:=Tryz.isAgg3
 z3:=Tryz.sizeOf3
 v3:=Tryz.zeroValue3
 t4:=Tryz.underlying4
 a4:=Tryz.isAgg4
 z4:=Tryz.sizeOf4
 v4:=Tryz.zeroValue4
 t22:=Tryz.underlying93
 a22:=Tryz.isAgg93
 z22:=Tryz.sizeOf93
 v22:=Tryz.zeroValue93
 i3:=by kernel_rfl}
open Go.RowKit Go.Lib Go.Sort in
theorem Tryz.slices_Compact_int (blk off cap:Nat) (zs:List Int) (w:World) (hH:Holds (Value.int .i64) w blk off zs.toArray) (hsz:zs.length≤9223372036854775807) (dD:zs.length≤cap):
  Calls prog 64 #[.slice (some ⟨blk,off,none⟩) zs.length cap] w fun e w'=>e=.returned (.slice (some ⟨blk,off,none⟩) (Lib.compact zs).length cap)∧ ∃q,w'=putRow (Value.int .i64) (Sort.ahead w q) blk off (Lib.compact zs++List.replicate (zs.length - (Lib.compact zs).length) 0).toArray :=Any.slices_Compact_int Tryz.laysNm220 blk off cap zs w hH hsz dD
open Go.RowKit Go.Lib Go.Sort in
theorem Tryz.slices_Compact_int_empty (a:Option Addr) (cap:Nat) (w:World):
  Calls prog 64 #[.slice a 0 cap] w fun e w'=>e=.returned (.slice a 0 cap)∧w'=w:=Any.slices_Compact_int_empty Tryz.laysNm220 a cap w
open Go.RowKit Go.Sort in
theorem Tryz.slices_Sort_int_none (p:Option Addr) (cap:Nat) (w:World):
  Calls prog 63 #[.slice p 0 cap] w fun e w'=>e=.returned (.tuple #[])∧w'=w:=Any.slices_Sort_int_none Tryz.lays189 p cap w
def Tryz.sortEnd_ren :Go.Shelf.Ren:=⟨fun | 6=>200 | 15=>117 | 14=>204 | 28=>152 | 29=>153 | 20=>206 | 21=>207 | 22=>208 | 23=>209 | 24=>210 | 25=>211 | 26=>212 | 27=>213 | 46=>214 | 47=>177 | 48=>178 | 49=>215 | 50=>216 | 57=>217 | n=>n,fun | 22=>248 | 24=>246 | 25=>250 | 3=>3 | 39=>147 | 0=>0 | 53=>194 | 55=>196 | 4=>4 | 46=>186 | 45=>185 | 50=>191 | 5=>5 | 9=>9 | 66=>224 | 70=>228 | 76=>239 | 77=>91 | n=>n,fun | n=>n⟩
theorem Tryz.sortEnd :Go.Proofs.SlLaysF0.n6 prog Tryz.sortEnd_ren:={
 mixed:=by kernel_rfl
 f6:=⟨Tryz.f200.name,by decide,Tryz.func200.trans (congrArg some (by kernel_rfl))⟩
 f14:=⟨Tryz.f204.name,by decide,Tryz.func204.trans (congrArg some (by kernel_rfl))⟩
 f15:=Tryz.func117.trans (congrArg some (by kernel_rfl))
 f20:=⟨Tryz.f206.name,by decide,Tryz.func206.trans (congrArg some (by kernel_rfl))⟩
 f21:=⟨Tryz.f207.name,by decide,Tryz.func207.trans (congrArg some (by kernel_rfl))⟩
 f22:=⟨Tryz.f208.name,by decide,Tryz.func208.trans (congrArg some (by kernel_rfl))⟩
 f23:=⟨Tryz.f209.name,by decide,Tryz.func209.trans (congrArg some (by kernel_rfl))⟩
 f24:=⟨Tryz.f210.name,by decide,Tryz.func210.trans (congrArg some (by kernel_rfl))⟩
 f25:=⟨Tryz.f211.name,by decide,Tryz.func211.trans (congrArg some (by kernel_rfl))⟩
 f26:=⟨Tryz.f212.name,by decide,Tryz.func212.trans (congrArg some (by kernel_rfl))⟩
 f27:=⟨Tryz.f213.name,by decide,Tryz.func213.trans (congrArg some (by kernel_rfl))⟩
 f28:=Tryz.func152.trans (congrArg some (by kernel_rfl))
 f29:=Tryz.func153.trans (congrArg some (by kernel_rfl))
 f46:=⟨Tryz.f214.name,by decide,Tryz.func214.trans (congrArg some (by kernel_rfl))⟩
 f47:=Tryz.func177.trans (congrArg some (by kernel_rfl))
 f48:=Tryz.func178.trans (congrArg some (by kernel_rfl))
 f49:=⟨Tryz.f215.name,by decide,Tryz.func215.trans (congrArg some (by kernel_rfl))⟩
 f50:=⟨Tryz.f216.name,by decide,Tryz.func216.trans (congrArg some (by kernel_rfl))⟩
 f57:=⟨Tryz.f217.name,by decide,Tryz.func217.trans (congrArg some (by kernel_rfl))⟩
 t0:=Tryz.underlying0
 a0:=Tryz.isAgg0
 z0:=Tryz.sizeOf0
 v0:=Tryz.zeroValue0
 t3:=Tryz.underlying3
 a3:=Tryz.isAgg3
 z3:=Tryz.sizeOf3
 v3:=Tryz.zeroValue3
 t4:=Tryz.underlying4
 a4:=Tryz.isAgg4
 z4:=Tryz.sizeOf4
 v4:=Tryz.zeroValue4
 t5:=Tryz.underlying5
 a5:=Tryz.isAgg5
 z5:=Tryz.sizeOf5
 v5:=Tryz.zeroValue5
 t9:=Tryz.underlying9
 a9:=Tryz.isAgg9
 z9:=Tryz.sizeOf9
 v9:=Tryz.zeroValue9
 t22:=Tryz.underlying248
 a22:=Tryz.isAgg248
 z22:=Tryz.sizeOf248
 v22:=Tryz.zeroValue248
 t25:=Tryz.underlying250
 a25:=Tryz.isAgg250
 z25:=Tryz.sizeOf250
 v25:=Tryz.zeroValue250
 t39:=Tryz.underlying147
 a39:=Tryz.isAgg147
 z39:=Tryz.sizeOf147
 v39:=Tryz.zeroValue147
 t45:=Tryz.underlying185
 a45:=Tryz.isAgg185
 z45:=Tryz.sizeOf185
 v45:=Tryz.zeroValue185
 t46:=Tryz.underlying186
 a46:=Tryz.isAgg186
 z46:=Tryz.sizeOf186
 v46:=Tryz.zeroValue186
 t50:=Tryz.underlying191
 a50:=Tryz.isAgg191
 z50:=Tryz.sizeOf191
 v50:=Tryz.zeroValue191
 t53:=Tryz.underlying194
 a53:=Tryz.isAgg194
 z53:=Tryz.sizeOf194
 v53:=Tryz.zeroValue194
 t55:=Tryz.underlying196
 a55:=Tryz.isAgg196
 z55:=Tryz.sizeOf196
 v55:=Tryz.zeroValue196
 t66:=Tryz.underlying224
 a66:=Tryz.isAgg224
 z66:=Tryz.sizeOf224
 v66:=Tryz.zeroValue224
 t70:=Tryz.underlying228
 a70:=Tryz.isAgg228
 z70:=Tryz.sizeOf228
 v70:=Tryz.zeroValue228
 t76:=Tryz.underlying239
 a76:=Tryz.isAgg239
 z76:=Tryz.sizeOf239
 v76:=Tryz.zeroValue239
 t77:=Tryz.underlying91
 a77:=Tryz.isAgg91
 z77:=Tryz.sizeOf91
 v77:=Tryz.zeroValue91}
open Go.RowKit Go.Lib Go.Sort
theorem Tryz.cmpEnd (a b c a' b' c':Int) (h: -1000000000≤a∧a≤1000000000) (h': -1000000000≤a'∧a'≤1000000000) (W:World):
  Calls prog 201 #[.agg #[.int .i64 a,.int .i64 b,.int .i64 c],.agg #[.int .i64 a',.int .i64 b',.int .i64 c']] W fun e w'=>e=.returned (.int .i64 (a - a'))∧ ∃q os',w'=grow (W.drewN q) os':=by
 go_enter Tryz.func201,Tryz.ntmps201
 go_wp2
 go_ret
 exact ⟨rfl,0,_,by rw [alloc_eq_grow,alloc_eq_grow,grow_grow];rfl⟩
end Go.Proofs
namespace Go.Am
open IntKind (wrap)
open Go.Proofs.Tryz
open Go.Proofs
inductive rjsS where
 | h0 (v9:List R6) (v10:List R4) (v11:Int) (v12:Int)
 | h1 (v9:List R6) (v10:List R4) (v11:Int) (v12:Int) (v13:List R4) (v15:Int)
 | h2 (v9:List R6) (v10:List R4) (v11:Int) (v12:Int) (v14:Int)
abbrev w0n (l1:List R6) (l2:List R6) (v12:Int):=(rd (Va (cvT l1) (cvT l2)) (tn v12))
abbrev y7m (v9:List R6) (v14:Int) (l1:List R6) (l2:List R6) (v12:Int):=(v9.set (0+(tn v14)) (R6.mk (rd v9 (0+(tn v14))).a (rd v9 (0+(tn v14))).b (rd v9 (0+(tn v14))).c (rd v9 (0+(tn v14))).d (rd v9 (0+(tn v14))).e (rd (Va (cvT l1) (cvT l2)) (tn (wr (v12+1))))))
abbrev y7l (v9:List R6) (v13:List R4) (v15:Int) (l1:List R6) (l2:List R6) (v12:Int):=(v9++[(R6.mk (rd v13 (tn v15)).a (rd v13 (tn v15)).b (w0n l1 l2 v12) (rd v13 (tn v15)).c (rd v13 (tn v15)).d (rd (Va (cvT l1) (cvT l2)) (tn (wr (v12+1)))))])
abbrev Vd (l1:List R6) (l2:List R6) (v12:Int):=(atV (cvT l1) (w0n l1 l2 v12))
abbrev Uq (l2:List R6) (l1:List R6) (v12:Int):=(atV (cvT l2) (w0n l1 l2 v12))
abbrev u1c (v9:List R6) (v13:List R4) (v15:Int) (l1:List R6) (l2:List R6) (v12:Int):=(Zi (Zz v9) 0 v9.length 6 [(ii (rd v13 (tn v15)).a),(ii (rd v13 (tn v15)).b),(ii (w0n l1 l2 v12)),(ii (rd v13 (tn v15)).c),(ii (rd v13 (tn v15)).d),(ii (rd (Va (cvT l1) (cvT l2)) (tn (wr (v12+1)))))])
def w8z (l1:List R6) (l2:List R6):AVal:=(.dat (Va (cvT l1) (cvT l2)).length (Zz (Va (cvT l1) (cvT l2))))
def rjsC (x0:Int) (l1:List R6) (l2:List R6):rjsS→Cfg
 | .h0 v9 v10 v11 v12=>⟨⟨137,0,true⟩,none,(Zd prog 72 [1,1,1,1,1,0,1,0,0] 0),none,(Zy prog 32),⟨Yd [(0,(ii x0)),(1,(.dat l1.length (Zz l1))),(2,(.dat l2.length (Zz l2))),(8,(w8z l1 l2)),(9,(.sla 0 6 0 v9.length (.un 6))),(10,(.dat v10.length (Zz v10))),(11,(ii v11)),(12,(ii v12))],Uy [⟨rows v9.length (Zz v9),67,some ⟨6,v9.length,(Zz v9)⟩⟩] 0,1,[],true⟩,[],.leaf⟩
 | .h1 v9 v10 v11 v12 v13 v15=>⟨⟨137,0,true⟩,none,(Zd prog 72 [1,1,1,1,1,0,1,0,0,1,0,0,1,1,1,1,1,0,0] 0),none,(Zy prog 32),⟨Yd [(0,(ii x0)),(1,(.dat l1.length (Zz l1))),(2,(.dat l2.length (Zz l2))),(8,(w8z l1 l2)),(9,(.sla 0 6 0 v9.length (.un 6))),(10,(.dat v10.length (Zz v10))),(11,(ii v11)),(12,(ii v12)),(13,(.dat v13.length (Zz v13))),(15,(ii v15))],Uy [⟨rows v9.length (Zz v9),67,some ⟨6,v9.length,(Zz v9)⟩⟩] 0,1,[],true⟩,[],.leaf⟩
 | .h2 v9 v10 v11 v12 v14=>⟨⟨137,0,true⟩,none,(Zd prog 72 [1,1,1,1,1,0,1,0,0,1,0,0,1,1,0,1,0,0,1,0,0] 0),none,(Zy prog 32),⟨Yd [(0,(ii x0)),(1,(.dat l1.length (Zz l1))),(2,(.dat l2.length (Zz l2))),(8,(w8z l1 l2)),(9,(.sla 0 6 0 v9.length (.un 6))),(10,(.dat v10.length (Zz v10))),(11,(ii v11)),(12,(ii v12)),(14,(ii v14))],Uy [⟨rows v9.length (Zz v9),67,some ⟨6,v9.length,(Zz v9)⟩⟩] 0,1,[],true⟩,[],.leaf⟩
def u5y :List (Option (List Nat)):=[some [0,1,2,8,9,10,11,12]]
def u6a :List (Option (List Nat)):=[]
def u5x :List (Option (List Nat)):=[some [0,1,2,8,9,10,11,12,13,15]]
def u5z :List (Option (List Nat)):=[]
def rjsN2 :List (Option (List Nat)):=[some [0,1,2,8,9,10,11,12,14]]
def rjsM2 :List (Option (List Nat)):=[]
def Vo (x0:Int) (l1:List R6) (l2:List R6):rjsS→Xf rjsS
 | .h0 v9 v10 v11 v12=>(bif (decide ((wrap .i64 (v12+1))<(((Va (cvT l1) (cvT l2)).length :Nat):Int))) then (bif (z5g (cvT l1) (rd (Va (cvT l1) (cvT l2)) v12.toNat)) then (bif ((decide (0≤v12∧v12<(((Va (cvT l1) (cvT l2)).length :Nat):Int)))&&true) then (bif (z5g (cvT l2) (rd (Va (cvT l1) (cvT l2)) v12.toNat)) then (bif (z0y x0 (cvT (atV (cvT l1) (rd (Va (cvT l1) (cvT l2)) v12.toNat))) (cvT (atV (cvT l2) (rd (Va (cvT l1) (cvT l2)) v12.toNat)))) then (bif (decide ((((joV x0 (cvT (atV (cvT l1) (rd (Va (cvT l1) (cvT l2)) v12.toNat))) (cvT (atV (cvT l2) (rd (Va (cvT l1) (cvT l2)) v12.toNat)))).length :Nat):Int)>400)) then (.ret [.nils,(.bool false)]) else (bif (z0y 2 (cvT (atV (cvT l1) (rd (Va (cvT l1) (cvT l2)) v12.toNat))) ([]:List R4)) then (bif (decide ((((joV 2 (cvT (atV (cvT l1) (rd (Va (cvT l1) (cvT l2)) v12.toNat))) ([]:List R4)).length :Nat):Int)>400)) then (.ret [.nils,(.bool false)]) else (bif (z0y 2 (cvT (atV (cvT l2) (rd (Va (cvT l1) (cvT l2)) v12.toNat))) ([]:List R4)) then (bif (decide ((((joV 2 (cvT (atV (cvT l2) (rd (Va (cvT l1) (cvT l2)) v12.toNat))) ([]:List R4)).length :Nat):Int)>400)) then (.ret [.nils,(.bool false)]) else (bif (decide (v12>0)) then (bif (Wb (cvT (joV x0 (cvT (atV (cvT l1) (rd (Va (cvT l1) (cvT l2)) v12.toNat))) (cvT (atV (cvT l2) (rd (Va (cvT l1) (cvT l2)) v12.toNat))))) (cvT v10)) then (bif (Jh (cvT (joV x0 (cvT (atV (cvT l1) (rd (Va (cvT l1) (cvT l2)) v12.toNat))) (cvT (atV (cvT l2) (rd (Va (cvT l1) (cvT l2)) v12.toNat))))) (cvT v10)) then (.to (.h2 v9 v10 v11 v12 v11)) else (.to (.h1 v9 (joV x0 (cvT (atV (cvT l1) (rd (Va (cvT l1) (cvT l2)) v12.toNat))) (cvT (atV (cvT l2) (rd (Va (cvT l1) (cvT l2)) v12.toNat)))) (v9.length:Int) v12 (joV x0 (cvT (atV (cvT l1) (rd (Va (cvT l1) (cvT l2)) v12.toNat))) (cvT (atV (cvT l2) (rd (Va (cvT l1) (cvT l2)) v12.toNat)))) 0))) else .stuck) else (.to (.h1 v9 (joV x0 (cvT (atV (cvT l1) (rd (Va (cvT l1) (cvT l2)) v12.toNat))) (cvT (atV (cvT l2) (rd (Va (cvT l1) (cvT l2)) v12.toNat)))) (v9.length:Int) v12 (joV x0 (cvT (atV (cvT l1) (rd (Va (cvT l1) (cvT l2)) v12.toNat))) (cvT (atV (cvT l2) (rd (Va (cvT l1) (cvT l2)) v12.toNat)))) 0)))) else .stuck)) else .stuck)) else .stuck) else .stuck) else .stuck) else .stuck) else (.ret [(.dat v9.length (Zz v9)),(.bool (decide ((v9.length:Int)≤400)))]))
 | .h1 v9 v10 v11 v12 v13 v15=>(bif (decide (v15<(v13.length:Int))) then (bif ((decide (0≤v12∧v12<(((Va (cvT l1) (cvT l2)).length :Nat):Int)))&&true) then (bif ((decide (0≤v15∧v15<(v13.length:Int)))&&true) then (bif ((decide (0≤(wrap .i64 (v12+1))∧(wrap .i64 (v12+1))<(((Va (cvT l1) (cvT l2)).length :Nat):Int)))&&true) then (bif (Nat.beq 6 6&&((decide (0+v9.length=v9.length))&&decide ((v9.length+1+1)*(48+1)≤Ju))) then (.to (.h1 (v9++[(R6.mk (rd v13 v15.toNat).a (rd v13 v15.toNat).b (rd (Va (cvT l1) (cvT l2)) v12.toNat) (rd v13 v15.toNat).c (rd v13 v15.toNat).d (rd (Va (cvT l1) (cvT l2)) (Int.toNat (wrap .i64 (v12+1)))))]) v10 v11 v12 v13 (wrap .i64 (v15+1)))) else .stuck) else .stuck) else .stuck) else .stuck) else (.to (.h0 v9 v10 v11 (wrap .i64 (v12+1)))))
 | .h2 v9 v10 v11 v12 v14=>(bif (decide (v14<(v9.length:Int))) then (bif ((decide (0≤(wrap .i64 (v12+1))∧(wrap .i64 (v12+1))<(((Va (cvT l1) (cvT l2)).length :Nat):Int)))&&true) then (bif ((decide (0≤v14∧v14<(v9.length:Int)))&&true) then (bif (decide ((0+v14.toNat)<v9.length)) then (.to (.h2 (v9.set (0+v14.toNat) (R6.mk (rd v9 (0+v14.toNat)).a (rd v9 (0+v14.toNat)).b (rd v9 (0+v14.toNat)).c (rd v9 (0+v14.toNat)).d (rd v9 (0+v14.toNat)).e (rd (Va (cvT l1) (cvT l2)) (Int.toNat (wrap .i64 (v12+1)))))) v10 v11 v12 (wrap .i64 (v14+1)))) else .stuck) else .stuck) else .stuck) else (.to (.h0 v9 v10 v11 (wrap .i64 (v12+1)))))
def y1u (x0:Int) (l1:List R6) (l2:List R6):Xf rjsS:=(bif (z8f (cvT l1) (cvT l2)) then (.to (.h0 ([]:List R6) ([]:List R4) 0 0)) else .stuck)
theorem w4d (x0:Int) (l1:List R6) (l2:List R6): ∀s,Xq prog (Zy prog 72) (rjsC x0 l1 l2) (rjsC x0 l1 l2 s) (Vo x0 l1 l2 s)
 | .h0 v9 v10 v11 v12=>(lb (fun k0=>(lo fun aG=>(lo fun bA=>(lo fun bZ=>(lo fun cQ=>(lb (fun k1=>(lr 137 72 [1,1,1,1,1,0,1,0,0,1,0,0,1,0,1,0,0] 1 32 [(6,.nils),(7,(.bool false))] (sl z9w 50 [] ⟨[],[],[some [6,7]],[]⟩ ⟨[],[],[]⟩ (trs 20 []) (tt k1 (pp (pp (xI R4 (Vd l1 l2 v12).length (Zz (Vd l1 l2 v12))) (pp (xI R4 (Uq l2 l1 v12).length (Zz (Uq l2 l1 v12))) (xw cQ))) (pp (pp (xr l2) (xw bZ)) (ww bA (pp (pp (xr l1) (xw aG)) (ww bA (tt k0 nn)))))))))) (fun k1=>(lo fun bT=>(lb (fun k2=>(lr 137 72 [1,1,1,1,1,0,1,0,0,1,0,0,1,0,1,0,0] 1 32 [(6,.nils),(7,(.bool false))] (sl z9w 50 [] ⟨[],[],[some [6,7]],[]⟩ ⟨[],[],[]⟩ (bl 20 1047553) (tt k2 (pp (pp (xI R4 (Vd l1 l2 v12).length (Zz (Vd l1 l2 v12))) (pp (xI R4 0 (fun _=>[])) (xw bT))) (pp (pp (xr l1) (xw aG)) (ww bA (tt k1 (pp (pp (xI R4 (Vd l1 l2 v12).length (Zz (Vd l1 l2 v12))) (pp (xI R4 (Uq l2 l1 v12).length (Zz (Uq l2 l1 v12))) (xw cQ))) (pp (pp (xr l2) (xw bZ)) (ww bA (pp (pp (xr l1) (xw aG)) (ww bA (tt k0 nn)))))))))))))) (fun k2=>(lo fun cG=>(lb (fun k3=>(lr 137 72 [1,1,1,1,1,0,1,0,0,1,0,0,1,0,1,0,0] 1 32 [(6,.nils),(7,(.bool false))] (sl z9w 50 [] ⟨[],[],[some [6,7]],[]⟩ ⟨[],[],[]⟩ (bl 20 524289) (tt k3 (pp (pp (xI R4 (Uq l2 l1 v12).length (Zz (Uq l2 l1 v12))) (pp (xI R4 0 (fun _=>[])) (xw cG))) (pp (pp (xr l2) (xw bZ)) (ww bA (tt k2 (pp (pp (xI R4 (Vd l1 l2 v12).length (Zz (Vd l1 l2 v12))) (pp (xI R4 0 (fun _=>[])) (xw bT))) (pp (pp (xr l1) (xw aG)) (ww bA (tt k1 (pp (pp (xI R4 (Vd l1 l2 v12).length (Zz (Vd l1 l2 v12))) (pp (xI R4 (Uq l2 l1 v12).length (Zz (Uq l2 l1 v12))) (xw cQ))) (pp (pp (xr l2) (xw bZ)) (ww bA (pp (pp (xr l1) (xw aG)) (ww bA (tt k0 nn)))))))))))))))))) (fun k3=>(lb (fun k4=>(lo fun cO=>(lb (fun k5=>(sl z9w 66 [] ⟨[0],[],rjsN2,rjsM2⟩ ⟨[],[],[]⟩ (bl 24 15728641) (pp (fl v9 nn) (tt k5 (pp (pp (xI R4 (joV x0 (cvT (Vd l1 l2 v12)) (cvT (Uq l2 l1 v12))).length (Zz (joV x0 (cvT (Vd l1 l2 v12)) (cvT (Uq l2 l1 v12))))) (pp (xr v10) (xw cO))) (tt k4 (tt k3 (pp (pp (xI R4 (Uq l2 l1 v12).length (Zz (Uq l2 l1 v12))) (pp (xI R4 0 (fun _=>[])) (xw cG))) (pp (pp (xr l2) (xw bZ)) (ww bA (tt k2 (pp (pp (xI R4 (Vd l1 l2 v12).length (Zz (Vd l1 l2 v12))) (pp (xI R4 0 (fun _=>[])) (xw bT))) (pp (pp (xr l1) (xw aG)) (ww bA (tt k1 (pp (pp (xI R4 (Vd l1 l2 v12).length (Zz (Vd l1 l2 v12))) (pp (xI R4 (Uq l2 l1 v12).length (Zz (Uq l2 l1 v12))) (xw cQ))) (pp (pp (xr l2) (xw bZ)) (ww bA (pp (pp (xr l1) (xw aG)) (ww bA (tt k0 nn))))))))))))))))))))) (fun k5=>(sl z9w 73 [] ⟨[0],[],u5x,u5z⟩ ⟨[],[],[]⟩ (bl 24 7340033) (pp (fl v9 nn) (tt k5 (pp (pp (xI R4 (joV x0 (cvT (Vd l1 l2 v12)) (cvT (Uq l2 l1 v12))).length (Zz (joV x0 (cvT (Vd l1 l2 v12)) (cvT (Uq l2 l1 v12))))) (pp (xr v10) (xw cO))) (tt k4 (tt k3 (pp (pp (xI R4 (Uq l2 l1 v12).length (Zz (Uq l2 l1 v12))) (pp (xI R4 0 (fun _=>[])) (xw cG))) (pp (pp (xr l2) (xw bZ)) (ww bA (tt k2 (pp (pp (xI R4 (Vd l1 l2 v12).length (Zz (Vd l1 l2 v12))) (pp (xI R4 0 (fun _=>[])) (xw bT))) (pp (pp (xr l1) (xw aG)) (ww bA (tt k1 (pp (pp (xI R4 (Vd l1 l2 v12).length (Zz (Vd l1 l2 v12))) (pp (xI R4 (Uq l2 l1 v12).length (Zz (Uq l2 l1 v12))) (xw cQ))) (pp (pp (xr l2) (xw bZ)) (ww bA (pp (pp (xr l1) (xw aG)) (ww bA (tt k0 nn)))))))))))))))))))))))) (fun k4=>(sl z9w 73 [] ⟨[0],[],u5x,u5z⟩ ⟨[],[],[]⟩ (bl 24 1) (pp (fl v9 nn) (tt k4 (tt k3 (pp (pp (xI R4 (Uq l2 l1 v12).length (Zz (Uq l2 l1 v12))) (pp (xI R4 0 (fun _=>[])) (xw cG))) (pp (pp (xr l2) (xw bZ)) (ww bA (tt k2 (pp (pp (xI R4 (Vd l1 l2 v12).length (Zz (Vd l1 l2 v12))) (pp (xI R4 0 (fun _=>[])) (xw bT))) (pp (pp (xr l1) (xw aG)) (ww bA (tt k1 (pp (pp (xI R4 (Vd l1 l2 v12).length (Zz (Vd l1 l2 v12))) (pp (xI R4 (Uq l2 l1 v12).length (Zz (Uq l2 l1 v12))) (xw cQ))) (pp (pp (xr l2) (xw bZ)) (ww bA (pp (pp (xr l1) (xw aG)) (ww bA (tt k0 nn))))))))))))))))))))))))))))))))) (fun k0=>(lr 137 3 [1,1,1,1,1,1,1,0] 1 32 [(6,(.dat v9.length (Zz v9))),(7,(.bool (decide ((v9.length:Int)≤400))))] (sl z9w 20 [] ⟨[],[0],[some [6,7]],[]⟩ ⟨[(6,.frz v9.length v9.length (Zz v9) (Zz v9))],[],[]⟩ [false] (pp (xZ (z6i 6 6 0 v9.length v9.length (Zz v9)) v9.length (Zz v9)) (pp (xL v9.length v9.length) (pp (xS v9.length (Zz v9) (Zz v9)) (pp (fl v9 nn) (tt k0 nn)))))))))
 | .h1 v9 v10 v11 v12 v13 v15=>(lb (fun k0=>(lo fun o0=>(lo fun o1=>(lo fun o2=>(lo fun o3=>(sl z9w 20 [] ⟨[2],[],u5x,u5z⟩ ⟨[(9,.len (y7l v9 v13 v15 l1 l2 v12).length)],[.rowed 6 (y7l v9 v13 v15 l1 l2 v12).length (Zz (y7l v9 v13 v15 l1 l2 v12))],[]⟩ [true] (pp (xL (v9.length+1) (y7l v9 v13 v15 l1 l2 v12).length) (pp (xL (v9.length+1) (y7l v9 v13 v15 l1 l2 v12).length) (pp (xS (v9.length+1) (u1c v9 v13 v15 l1 l2 v12) (Zz (y7l v9 v13 v15 l1 l2 v12))) (pp (pp (xF (u1c v9 v13 v15 l1 l2 v12)) nn) (ww o3 (ww o2 (ww o1 (ww o1 (ww o0 (ww o1 (ww o1 (tt k0 nn)))))))))))))))))) (fun k0=>(sl z9w 17 [] ⟨[0],[],u5y,u6a⟩ ⟨[],[],[]⟩ [false] (pp (fl v9 nn) (tt k0 nn)))))
 | .h2 v9 v10 v11 v12 v14=>(lb (fun k0=>(lo fun o0=>(lo fun o1=>(lo fun o2=>(sl z9w 32 [] ⟨[0],[],rjsN2,rjsM2⟩ ⟨[(9,.len (y7m v9 v14 l1 l2 v12).length)],[.rowed 6 (y7m v9 v14 l1 l2 v12).length (Zz (y7m v9 v14 l1 l2 v12))],[]⟩ [true] (pp (xL v9.length (y7m v9 v14 l1 l2 v12).length) (pp (xL v9.length (y7m v9 v14 l1 l2 v12).length) (pp (xS v9.length (Xn (Zz v9) (0+(tn v14)) 5 [(ii (rd (Va (cvT l1) (cvT l2)) (tn (wr (v12+1)))))]) (Zz (y7m v9 v14 l1 l2 v12))) (pp (pp (xF (Xn (Zz v9) (0+(tn v14)) 5 [(ii (rd (Va (cvT l1) (cvT l2)) (tn (wr (v12+1)))))])) nn) (ww o2 (ww o1 (ww o0 (tt k0 nn))))))))))))) (fun k0=>(sl z9w 17 [] ⟨[0],[],u5y,u6a⟩ ⟨[],[],[]⟩ [false] (pp (fl v9 nn) (tt k0 nn)))))
theorem x6g (x0:Int) (l1:List R6) (l2:List R6):Xq prog (Zy prog 72) (rjsC x0 l1 l2) (Zc prog 72 [(.int .i64 x0),(.dat l1.length (Zz l1)),(.dat l2.length (Zz l2))] true []) (y1u x0 l1 l2):=(lo fun o0=>(sl z9w 31 [(67,6,Zz ([]:List R6))] ⟨[0],[],u5y,u6a⟩ ⟨[(9,.grow 0 6),(10,.list 0 (Zz ([]:List R4)))],[],[]⟩ [] (pp (fl ([]:List R6) nn) (pp (pp (xr l1) (pp (xr l2) (xw o0))) nn))))
theorem v5n (x0:Int) (l1:List R6) (l2:List R6) (n:Nat) (vs:List AVal) (h:Yj (Vo x0 l1 l2) n (y1u x0 l1 l2)=.ret vs):Kv prog (Zy prog 72) (Zc prog 72 [(.int .i64 x0),(.dat l1.length (Zz l1)),(.dat l2.length (Zz l2))] true []) vs:=by have:=Zn (w4d x0 l1 l2) n _ (x6g x0 l1 l2);rwa [h] at this
theorem Kc (l m:List R6):(Va l m).length ≤2*l.length+2*m.length:=by refine AF (z5w _) ?_;rw [Az,z0m,z0m];omega
theorem y9c (l:List R6) (z:Int):(atV l z).length ≤l.length:=by unfold atV;rw [A3];exact BN _ _
def v4f (out:List R6) (first:Nat) (z:Int):List R6:=out.take first++(out.drop first).map fun r=>⟨r.a,r.b,r.c,r.d,r.e,z⟩
def u6t (z z':Int) (s:List R4):List R6:=s.map fun p=>⟨p.a,p.b,z,p.c,p.d,z'⟩
section
variable (kind:Int) (l m:List R6)
def w6x (z:Int):List R4:=joV kind (atV l z) (atV m z)
def x0p (z:Int):Bool:=decide (400<(w6x kind l m z).length)||(decide (400<(joV 2 (atV l z) []).length)||decide (400<(joV 2 (atV m z) []).length))
def jsF :Nat→Nat→List R6→List R4→Nat→Option (List R6)
 | 0,_,out,_,_=>some out
 | k+1,i,out,last,first=>
  bif x0p kind l m (rd (Va l m) i) then none
  else bif decide (0<i)&&Jh (w6x kind l m (rd (Va l m) i)) last then jsF k (i+1) (v4f out first (rd (Va l m) (i+1))) last first
  else jsF k (i+1) (out++u6t (rd (Va l m) i) (rd (Va l m) (i+1)) (w6x kind l m (rd (Va l m) i))) (w6x kind l m (rd (Va l m) i)) out.length
def jsO :Option (List R6):=jsF kind l m ((Va l m).length - 1) 0 [] [] 0
def x8a :Option (List R6)→List AVal
 | none=>[.nils,.bool false]
 | some out=>[.dat out.length (Zz out),.bool (decide ((out.length:Int)≤400))]
def z7s :List R6:=(jsO kind l m).getD []
def x7z :Bool:=match jsO kind l m with
 | none=>false
 | some out=>decide ((out.length:Int)≤400)
end
def y2l (_:Int) (l m:List R6):Bool:=decide (l.length≤5000∧m.length≤5000)
section
variable (kind:Int) (l m:List R6) (hl:l.length≤5000) (hm:m.length≤5000)
include hl hm
theorem u1b (last:List R4) (first:Int) (i:Nat) (hi:i+1<(Va l m).length) (s:List R4) (hs:s.length≤1000000): ∀(k j:Nat) (out:List R6),j+k=s.length→out.length≤10000000000+j→
  ∃n,∀N,Yj (Vo kind l m) (N+n) (.to (.h1 out last first (i:Int) s (j:Int)))=Yj (Vo kind l m) N (.to (.h0 (out++u6t (rd (Va l m) i) (rd (Va l m) (i+1)) (s.drop j)) last first ((i+1:Nat):Int)))
 | 0,j,out,h,ho=>by have hx:=Kc l m;refine ⟨1,fun N=> ?_⟩;rw [Au (by omega),Zv];simp (disch:=omega) only [Vo,Za,Zq,Yw,Zp,Zx,Aa,u6t,Bg,AA]
 | k+1,j,out,h,ho=>by
  have hx:=Kc l m;obtain ⟨n,hn⟩:=u1b last first i hi s hs k (j+1) (out++u6t (rd (Va l m) i) (rd (Va l m) (i+1)) [rd s j]) (by omega) (by simp [u6t];omega)
  refine ⟨n+1,fun N=> ?_⟩;have:=hn N;rw [Ym (show j<s.length by omega),←AD,Zv];simp (disch:=omega) only [Vo,Za,Zq,Zs,Zt,Yc,Yp,Zf,Zp,Zx,Ya,Zk,Ag,Av,Ai,Al,Ab];rw [AL] at this;exact this
omit hl hm in
theorem v8s (out:List R6) (j:Nat) (x:Int) (h:j<out.length):v4f (out.set j ⟨(rd out j).a,(rd out j).b,(rd out j).c,(rd out j).d,(rd out j).e,x⟩) (j+1) x=v4f out j x:=by
 unfold v4f;rw [Ym h,AW];have e1:(out.set j ⟨(rd out j).a,(rd out j).b,(rd out j).c,(rd out j).d,(rd out j).e,x⟩).take (j+1)=out.take j++[⟨(rd out j).a,(rd out j).b,(rd out j).c,(rd out j).d,(rd out j).e,x⟩]:=by
  apply B9
  ·simp;omega
  ·intro n h1 h2;simp only [Bh,List.getElem_set];by_cases e:j=n
   ·subst e;rw [Aw rfl,BH (by simp only [Bl];omega)];simp
   ·rw [At e,By (by simp at h1 ⊢;omega),Bh]
 have e2:(out.set j ⟨(rd out j).a,(rd out j).b,(rd out j).c,(rd out j).d,(rd out j).e,x⟩).drop (j+1)=out.drop (j+1):=by rw [List.drop_set];rw [Aw (by omega)]
 rw [e1,e2,AL];rfl
theorem u1a (last:List R4) (first:Int) (i:Nat) (hi:i+1<(Va l m).length): ∀(k j:Nat) (out:List R6),j+k=out.length→out.length≤10000000000→
  ∃n,∀N,Yj (Vo kind l m) (N+n) (.to (.h2 out last first (i:Int) (j:Int)))=Yj (Vo kind l m) N (.to (.h0 (v4f out j (rd (Va l m) (i+1))) last first ((i+1:Nat):Int)))
 | 0,j,out,h,ho=>by
  have hx:=Kc l m;refine ⟨1,fun N=> ?_⟩;have e:v4f out j (rd (Va l m) (i+1))=out:=by unfold v4f;rw [Au (by omega),Bg,AA,AU (by omega)]
  rw [e,Zv];simp (disch:=omega) only [Vo,Za,Zq,Yw,Zp,Zx,Aa]
 | k+1,j,out,h,ho=>by
  have hx:=Kc l m;obtain ⟨n,hn⟩:=u1a last first i hi k (j+1) (out.set j ⟨(rd out j).a,(rd out j).b,(rd out j).c,(rd out j).d,(rd out j).e,rd (Va l m) (i+1)⟩) (by simp;omega) (by simpa using ho)
  refine ⟨n+1,fun N=> ?_⟩;have:=hn N;rw [v8s out j _ (by omega)] at this;rw [←AD,Zv];simp (disch:=omega) only [Vo,Za,Zq,Zs,Zt,Yk,Yc,Yp,Zf,Zp,Zx,Ya,Zk,Ag,Av,Ai,Al,Ab];exact this
theorem w8y : ∀(k i:Nat) (out:List R6) (last:List R4) (first:Nat),k=(Va l m).length - 1 - i→i≤(Va l m).length →out.length≤i*400→last.length≤400→first≤out.length→
  ∃n,Yj (Vo kind l m) n (.to (.h0 out last (first:Int) (i:Int)))=.ret (x8a (jsF kind l m k i out last first))
 | 0,i,out,last,first,h,hi,ho,hla,hf=>by have hx:=Kc l m;refine ⟨1,?_⟩;rw [Zv];simp (disch:=omega) only [Vo,Za,Zq,Yw,Zp,Zx,Aa,Zg,jsF,x8a]
 | k+1,i,out,last,first,h,hi,ho,hla,hf=>by
  have hx:=Kc l m;have hi1:i+1<(Va l m).length :=by omega
  have hbig:i*400≤20000*400:=AI _ (by omega);have a1:=fun z=>y9c l z;have a2:=fun z=>y9c m z;have w1: ∀z,z5g l z=true:=fun z=>Ah (by omega);have w2: ∀z,z5g m z=true:=fun z=>Ah (by omega);have w3: ∀k z,z0y k (atV l z) (atV m z)=true:=fun k z=>Ah (by have:=a1 z;have:=a2 z;omega);have w4: ∀k z,z0y k (atV l z) ([]:List R4)=true:=fun k z=>Ah (by have:=a1 z;simp;omega);have w5: ∀k z,z0y k (atV m z) ([]:List R4)=true:=fun k z=>Ah (by have:=a2 z;simp;omega);unfold jsF;have eA:w6x kind l m (rd (Va l m) i)=joV kind (atV l (rd (Va l m) i)) (atV m (rd (Va l m) i)):=rfl;by_cases c1:400<(w6x kind l m (rd (Va l m) i)).length
  ·refine ⟨1,?_⟩;have hb:x0p kind l m (rd (Va l m) i)=true:=by unfold x0p;rw [Ah c1];rfl
   rw [hb,Ab,Zv];rw [eA] at c1;simp (disch:=omega) only [Vo,Za,Zq,Zs,Yo,Zt,Zp,Zx,Zk,w1,w2,w3,w4,w5,Ai,Ab,Zg,x8a]
  by_cases c2:400<(joV 2 (atV l (rd (Va l m) i)) []).length
  ·refine ⟨1,?_⟩;have hb:x0p kind l m (rd (Va l m) i)=true:=by unfold x0p;rw [Ah c2,Bool.true_or,Bool.or_true]
   rw [hb,Ab,Zv];rw [eA] at c1;simp (disch:=omega) only [Vo,Za,Zq,Zs,Yo,Xb,Zt,Zp,Zx,Zk,w1,w2,w3,w4,w5,Ai,Ab,Aa,Zg,x8a]
  by_cases c3:400<(joV 2 (atV m (rd (Va l m) i)) []).length
  ·refine ⟨1,?_⟩;have hb:x0p kind l m (rd (Va l m) i)=true:=by unfold x0p;rw [Ah c3,Bool.or_true,Bool.or_true]
   rw [hb,Ab,Zv];rw [eA] at c1;simp (disch:=omega) only [Vo,Za,Zq,Zs,Yo,Xb,Zt,Zp,Zx,Zk,w1,w2,w3,w4,w5,Ai,Ab,Aa,Zg,x8a]
  have hb:x0p kind l m (rd (Va l m) i)=false:=by unfold x0p;rw [Ay c1,Ay c2,Ay c3];rfl
  rw [hb,Aa];have w6:Wb (joV kind (atV l (rd (Va l m) i)) (atV m (rd (Va l m) i))) last=true:=Ah (by rw [←eA];omega);rcases Ye (decide (0<i)&&Jh (w6x kind l m (rd (Va l m) i)) last) with q | q
  ·obtain ⟨n3,h3⟩:=u1a kind l m hl hm last first i hi1 (out.length - first) first out (by omega) (by omega)
   obtain ⟨n0,h0⟩:=w8y k (i+1) (v4f out first (rd (Va l m) (i+1))) last first (by omega) (by omega) (by simp [v4f];omega) hla (by simp [v4f];omega)
   refine ⟨n0+n3+1,?_⟩;rw [q,Ab,Zv];simp only [Ac,Aq] at q;obtain ⟨q1,q2⟩:=q;rw [eA] at c1 q2;simp (disch:=omega) only [Vo,Za,Zq,Zs,Yo,Xb,Zt,Zp,Zx,Zk,w1,w2,w3,w4,w5,w6,q2,Ai,Ab,Aa];rw [h3 n0,h0]
  ·obtain ⟨n2,h2⟩:=u1b kind l m hl hm (w6x kind l m (rd (Va l m) i)) (out.length:Int) i hi1 (w6x kind l m (rd (Va l m) i)) (by omega) (w6x kind l m (rd (Va l m) i)).length 0 out (Ag _) (by omega);obtain ⟨n0,h0⟩:=w8y k (i+1) (out++u6t (rd (Va l m) i) (rd (Va l m) (i+1)) (w6x kind l m (rd (Va l m) i))) (w6x kind l m (rd (Va l m) i)) out.length (by omega) (by omega) (by simp [u6t];omega) (by omega) (by simp);refine ⟨n0+n2+1,?_⟩;rw [q,Aa,Zv];have h2':=h2 n0;simp only [A2,z2z] at h2';have c1':=c1;rw [eA] at c1';by_cases hi0:0<i
   ·rw [Ah hi0,Al,eA] at q;simp (disch:=omega) only [Vo,Za,Zq,Zs,Yo,Xb,Zt,Zp,Zx,Zk,w1,w2,w3,w4,w5,w6,q,Ai,Ab,Aa];rw [←h0];exact h2'
   ·simp (disch:=omega) only [Vo,Za,Zq,Zs,Yo,Xb,Zt,Zp,Zx,Zk,w1,w2,w3,w4,w5,w6,Ai,Ab,Aa];rw [←h0];exact h2'
end
theorem u5w (kind:Int) (l m:List R6) (h:y2l kind l m=true): ∃N,Yj (Vo kind l m) N (y1u kind l m)=.ret (x8a (jsO kind l m)):=by obtain ⟨hl,hm⟩:=AE h;obtain ⟨N,hN⟩:=w8y kind l m hl hm ((Va l m).length - 1) 0 [] [] 0 rfl (AJ _) (AJ _) (AJ _) (An _);refine ⟨N,?_⟩;have w1:z8f l m=true:=Ah ⟨by omega,by omega⟩;simp only [y1u,Za,Zq,w1,Ab];exact hN
def fJs :List AVal→Option (AVal×Bool)
 | [.int .i64 x0,a1,a2]=>match asL R6 a1,asL R6 a2 with
  | some (L1,g1,n1),some (L2,g2,n2)=>some (.tup [.dat (z7s x0 L1 L2).length (Zz (z7s x0 L1 L2)),.bool (x7z x0 L1 L2)],isT R6 n1 g1&&(isT R6 n2 g2&&(y2l x0 L1 L2)))
  | _,_=>none
 | _=>none
theorem fJs_ok {S:Specs} (hS:Zj prog S):Zj prog (S.with u2p fJs):=by
 refine w7a hS (by kernel_rfl) fun args v h=> ?_;unfold fJs at h;split at h
 ·rename_i x0 a1 a2;split at h
  ·rename_i L1 g1 n1 L2 g2 n2 e1 e2;simp only [Ae,Ad,Ac] at h;obtain ⟨rfl,ho1,ho2,hw⟩:=h;obtain ⟨N,hN⟩:=u5w x0 L1 L2 hw;refine ⟨_,x8a (jsO x0 L1 L2),(.cons (.refl _) (.cons (Yr e1 ho1) (.cons (Yr e2 ho2) .nil))),?_,v5n x0 L1 L2 N _ hN,3,?_⟩
   ·unfold z7s x7z;cases jsO x0 L1 L2 with
    | none=>exact fun ρ u hu=>z3s (.cons (z6g R6) (RLe.refl _)) ρ u hu
    | some out=>exact fun ρ u hu=>hu
   ·cases jsO x0 L1 L2 <;> rfl
  ·cases h
 ·cases h
def T4 :Specs:=T3.with u2p fJs
theorem T4_ok :Zj prog T4:=fJs_ok z9w
open Go.Sort Go.Shelf Go.RowKit Go.Lib
def u9y (x:E3):List Value:=y8z x.1
theorem u9x (l:List R3) (h:y0x l=true):Go.Sort.flatK u9y 3 (x1v l h).toArray =Go.Sort.flatK y8z 3 l.toArray:=by
 have hl:=Kd l h;unfold Go.Sort.flatK;rw [show (x1v l h).toArray.size =l.toArray.size by simpa using hl];apply Array.ext
 ·simp
 ·intro t h1 h2;simp only [Array.getElem_map,Array.getElem_range];have ht:t<l.length*3:=by simpa using h1
  have hq:t / 3<l.length:=by omega
  congr 1
  rw [BO (x1v l h).toArray (t / 3) (by simpa [hl] using hq),BO l.toArray (t / 3) (by simpa using hq)];unfold u9y
  congr 1
  have:=y2v l h;have e:=AX (fun z:List R3=>z[t / 3]?) this;simp only [List.getElem?_map] at e;rw [Ar (by rw [hl];exact hq),Ar hq] at e
  simpa using e
theorem v8k (d:Array E3):Go.Sort.flatK u9y 3 d=Go.Sort.flatK y8z 3 (d.toList.map Subtype.val).toArray :=by
 unfold Go.Sort.flatK;rw [show d.size=(d.toList.map Subtype.val).toArray.size by simp];apply Array.ext
 ·simp
 ·intro t h1 h2;simp only [Array.getElem_map,Array.getElem_range];have ht:t<d.size*3:=by simpa using h1
  have hq:t / 3<d.size:=by omega
  congr 1
  rw [BO d (t / 3) hq,BO (d.toList.map Subtype.val).toArray (t / 3) (by simpa using hq)];simp [u9y]
theorem z7q (l:List R3):x0u l.length (z0q (cvT l)).length =true:=Vy (by
 rw [Za];by_cases h:y0x l=true
 ·exact (Kn l h).1.length_eq.symm
 ·unfold z0q;rw [dif_neg h])
theorem isAgg3 : ∀w,(isAgg (Tryz.sortEnd_ren.t 24)).run prog w=.ok true w:=fun w=>by rfl
theorem size3 : ∀w,(Go.sizeOf (Tryz.sortEnd_ren.t 24)).run prog w=.ok 3 w:=fun w=>by rfl
theorem w7y :x4w prog u2g (w2l R3 z0q y0x w1e):=by
 refine v2t (fun L=> ?_) (fun blk off cap L w hb hH eI hsz=> ?_) fun p cap fv w=>AnyF.slices_SortFunc_none Tryz.sortEnd p cap fv w
 ·by_cases h:y0x L=true
  ·exact (Kn L h).1.length_eq
  ·unfold z0q;rw [dif_neg h]
 ·have eg: ∀args w,(callFunc 201 args).run prog w=.ok (.enter 201 args) w:=enters_of Tryz.func201 (by kernel_rfl) rfl;have hcmp:CmpLays prog 201 #[] u9y 3 cf3 blk off (x1v L hb).toArray.size w:=fun m os dk _ x y=>by have hx:=AE x.2;have hy:=AE y.2;exact Tryz.cmpEnd x.1.a x.1.b x.1.c y.1.a y.1.b y.1.c hx hy _
  have hH':HoldsK u9y 3 w blk off (x1v L hb).toArray :=by unfold HoldsK;rw [u9x L hb];exact hH
  have hcon:=AnyQ.slices_SortFunc_eq Tryz.sortEnd 3 isAgg3 size3 u9y (fun x=>y4v x.1) (fun x v hv=>by
   obtain ⟨a,ha,rfl⟩:=AN.1 hv;have:x8b a=true:=As.1 (u4g.num x.1) a ha;cases a <;> first | rfl | (simp [x8b] at this;done)) cf3 swo3 201 #[] blk off cap (x1v L hb).toArray w eg hcmp hH' eI (by simpa [Kd] using hsz)
  have hs:(x1v L hb).toArray.size =L.length:=by simp [Kd]
  rw [hs] at hcon;refine Calls.mono hcon fun e w' ⟨he,n,os,hw⟩=>⟨he,n,os,?_⟩
  rw [hw];unfold sortWorldK putRowK;rw [v8k];unfold z0q;rw [dif_pos hb];rfl
def Xv (zs:List Int):List Int:=zs.mergeSort fun x y=>decide (x≤y)
theorem w7x :x4w prog nSort (fRow Xv):=
 u9z (fun zs=>List.length_mergeSort zs) (fun blk off cap zs w hH hb hz=>Tryz.slices_Sort_int blk off cap zs w hH hb hz) fun p cap w=>Tryz.slices_Sort_int_none p cap w
def Wf (zs:List Int):List Int:=compact zs++List.replicate (zs.length - (compact zs).length) 0
def v3e (zs:List Int):Nat:=(compact zs).length
theorem Ur (zs:List Int):(Wf zs).length =zs.length:=by have:=compact_length_le zs;simp [Wf];omega
theorem z1w (n:Nat) (c:Nat→Int):x0u n (Wf (Yx n c)).length =true:=Vy (by rw [Ur];simp [Yx])
theorem v1v (w:World):grow w #[]=w:=by simp [grow]
theorem x9f :x4w prog w1f (fCut Wf v3e):=
 j0a (fun zs=>by have:=compact_length_le zs;simp [Wf];omega) (fun zs=>compact_length_le zs)
  (fun blk off cap zs w hH hb hz dD=>(Tryz.slices_Compact_int blk off cap zs w hH (by omega) dD).mono fun e w' ⟨he,q,hw⟩=>⟨he,q, #[],by rw [hw,v1v];rfl⟩)
  fun p cap w=>Tryz.slices_Compact_int_empty p cap w
def T5 :Specs:=((T4.withE u2g (w2l R3 z0q y0x w1e)).withE nSort (fRow Xv)).withE w1f (fCut Wf v3e)
theorem Qr :Zj prog T5:=y9j (y9j (y9j T4_ok (by kernel_rfl) w7y) (by kernel_rfl) w7x) (by kernel_rfl) x9f
-- h2: index into an array (choices [true, true, false, false])
-- h2: index into an array (choices [true, false, true, false, false])
-- h2: index into an array (choices [true, false, false, true, true, false, false])
-- h2: index into an array (choices [true, false, false, true, false, false, false])
-- h2: index into an array (choices [true, false, false, false, false, false])
inductive spmS where
 | h0 (v8:Int)
 | h1 (v3:List R3) (v17:Int)
 | h2 (v5:List R3) (v6:Int) (v7:Int) (aA:Int) (aI:Int) (aM:Int) (aF:Bool) (aC:List R2)
abbrev Uj (aC:List R2) (aM:Int) (v5:List R3) (v7:Int):=(aC++[(R2.mk aM (rd v5 (0+(tn v7))).a)])
abbrev y0c (aC:List R2) (aM:Int) (v5:List R3) (v7:Int):=(Zi (Zz aC) 0 aC.length 2 [(ii aM),(ii (rd v5 (0+(tn v7))).a)])
abbrev y6y (v3:List R3) (l0:List R2) (v17:Int):=(v3++[(R3.mk (rd l0 (tn v17)).a 0 1),(R3.mk (rd l0 (tn v17)).b 0 (-1))])
def v9v (l0:List R2):AFr:=⟨⟨11,0,true⟩,(Up prog 157 [1,1,1,0] 1),(Zd prog 157 [1,1,1,0] 1),none,(Zy prog 15),Yd [(9,(.dat l0.length (Zz l0)))]⟩
def spmC (l0:List R2):spmS→Cfg
 | .h0 v8=>⟨⟨19,0,true⟩,none,(Zd prog 195 [1,0,1,0,0] 0),none,(Zy prog 5),⟨Yd [(0,(.dat l0.length (Zz l0))),(1,(.fn 184 [])),(7,(ii (l0.length:Int))),(8,(ii v8))],Uy [] 0,0,[],true⟩,[⟨⟨9,0,true⟩,(Up prog 183 [1,0] 2),(Zd prog 183 [1,0] 1),none,(Zy prog 5),Yd [(5,(.dat l0.length (Zz l0))),(6,(.fn 184 []))]⟩,⟨⟨11,0,true⟩,(Up prog 157 [1,1,0,0] 1),(Zd prog 157 [1,1,0,0] 1),none,(Zy prog 15),Yd [(0,(.dat l0.length (Zz l0))),(7,(.dat l0.length (Zz l0)))]⟩],.leaf⟩
 | .h1 v3 v17=>⟨⟨38,0,true⟩,none,(Zd prog 197 [1,1,0,1,0,0,1,1,0,0,1,1,0,0] 0),none,(Zy prog 3),⟨Yd [(3,(.sla 7 3 0 v3.length (.un 3))),(4,(ii 0)),(8,(.sl 0 0 2 (.un 1))),(9,(ii 2)),(10,(ii 0)),(15,(.dat l0.length (Zz l0))),(16,(ii (l0.length:Int))),(17,(ii v17))],Uy [⟨[(.dat l0.length (Zz l0)),.nils],180,none⟩,⟨[(.fn 187 [])],213,none⟩,⟨[(ii 0),(ii 0)],142,none⟩,⟨[.nils],180,none⟩,⟨[(ii 0)],3,none⟩,⟨[(.bool false)],4,none⟩,⟨[(.fn 196 [(.ptr 5 0),(.ptr 4 0),(.ptr 3 0)])],242,none⟩,⟨rows v3.length (Zz v3),246,some ⟨3,v3.length,(Zz v3)⟩⟩] 0,8,[],true⟩,[⟨⟨42,0,true⟩,(Up prog 186 [1,1,1,1,1,0,0] 3),(Zd prog 186 [1,1,1,1,1,0,0] 1),none,(Zy prog 8),Yd [(5,(.ptr 1 0)),(6,.nils),(7,(.ptr 2 0)),(8,(.ptr 3 0)),(9,(.ptr 4 0)),(10,(.ptr 5 0)),(11,(.ptr 6 0)),(16,(.sl 0 0 2 (.un 1)))]⟩,(v9v l0)],.leaf⟩
 | .h2 v5 v6 v7 aA aI aM aF aC=>⟨⟨16,0,true⟩,none,(Zd prog 205 [1,0,0] 0),none,[],⟨Yd [(0,(.yld 0)),(5,(.sla 7 3 0 v5.length (.un 3))),(6,(ii v6)),(7,(ii v7))],y0k [(1,⟨[(.fn 187 [])],213,none⟩),(2,⟨[(ii aA),(ii aI)],142,none⟩),(3,⟨[(ii aM)],3,none⟩),(4,⟨[(.bool aF)],4,none⟩),(5,⟨[(.fn 196 [(.ptr 4 0),(.ptr 3 0),(.ptr 6 0)])],242,none⟩),(6,⟨[(.sla 8 2 0 aC.length (.un 2))],180,none⟩),(7,⟨rows v5.length (Zz v5),246,some ⟨3,v5.length,(Zz v5)⟩⟩),(8,⟨rows aC.length (Zz aC),183,some ⟨2,aC.length,(Zz aC)⟩⟩)],9,[],true⟩,[⟨⟨42,0,true⟩,none,(.inRangeFunc 0::(Zd prog 186 [1,1,1,1,1,0,1,0] 1)),none,(Zy prog 8),Yd [(6,.nils),(8,(.ptr 6 0))]⟩,(v9v l0)],(y6j [(0,⟨.ready,none,42,Yd [(5,(.ptr 1 0)),(7,(.ptr 2 0)),(9,(.ptr 3 0)),(10,(.ptr 4 0)),(11,(.ptr 5 0))],[18],(Vr prog 186 [1,1,1,1,1,0,1,0,0]),(Vr prog 186 [1,1,1,1,1,0,1,0,1])⟩)])⟩
def spmN0 :List (Option (List Nat)):=[some [0,1,7,8],some [5,6],some [0,7]]
def spmM0 :List (Option (List Nat)):=[]
def w7t :List (Option (List Nat)):=[some [3,4,8,9,10,15,16,17],some [5,6,7,8,9,10,11,16],some [9]]
def w7u :List (Option (List Nat)):=[]
def y3g :List (Option (List Nat)):=[some [0,5,6,7],some [6,8],some [9]]
def y3h :List (Option (List Nat)):=[some [5,7,9,10,11],none,none,none,none,none,none,none,none]
def Uh (l0:List R2):spmS→Xf spmS
 | .h0 v8=>(bif (decide (v8<(l0.length:Int))) then (bif ((decide (0≤v8∧v8<(l0.length:Int)))&&true) then (bif (decide ((rd l0 v8.toNat).a <(rd l0 v8.toNat).b)) then (bif (decide ((rd l0 v8.toNat).a ≥(-1000000))) then (bif (!(decide ((rd l0 v8.toNat).b ≤1000000))) then (bif (decide (v8≥0)) then (.ret [.nils,(.int .i64 8)]) else (.to (.h1 ([]:List R3) 0))) else (.to (.h0 (wrap .i64 (v8+1))))) else (bif (decide (v8≥0)) then (.ret [.nils,(.int .i64 8)]) else (.to (.h1 ([]:List R3) 0)))) else (bif (decide (v8≥0)) then (.ret [.nils,(.int .i64 8)]) else (.to (.h1 ([]:List R3) 0)))) else .stuck) else (.to (.h1 ([]:List R3) 0)))
 | .h1 v3 v17=>(bif (decide (v17<(l0.length:Int))) then (bif ((decide (0≤v17∧v17<(l0.length:Int)))&&true) then (bif (Nat.beq 3 3&&((decide (0+v3.length=v3.length))&&decide ((v3.length+2+1)*(24+1)≤Ju))) then (.to (.h1 (v3++[(R3.mk (rd l0 v17.toNat).a 0 1),(R3.mk (rd l0 v17.toNat).b 0 (-1))]) (wrap .i64 (v17+1)))) else .stuck) else .stuck) else (bif (y0x (cvT v3)) then (bif (decide (v3.length<4611686018427387904)) then (bif (decide (v3.length=v3.length)) then (.to (.h2 (z0q (cvT v3)) (v3.length:Int) 0 0 0 0 false ([]:List R2))) else .stuck) else .stuck) else .stuck))
 | .h2 v5 v6 v7 aA aI aM aF aC=>(bif (decide (v7<v6)) then (bif ((decide (0≤v7∧v7<(v5.length:Int)))&&true) then (bif (decide ((0+v7.toNat)<v5.length)) then (bif (!aF) then (bif (decide ((rd v5 (0+v7.toNat)).b =Int.ofNat 0)) then (.to (.h2 v5 v6 (wrap .i64 (v7+1)) (wrap .i64 (aA+(rd v5 (0+v7.toNat)).c)) aI (rd v5 (0+v7.toNat)).a (w2g (decide ((wrap .i64 (aA+(rd v5 (0+v7.toNat)).c))>0)) (decide (aI>0))) aC)) else (bif (decide ((rd v5 (0+v7.toNat)).b =Int.ofNat 1)) then (.to (.h2 v5 v6 (wrap .i64 (v7+1)) aA (wrap .i64 (aI+(rd v5 (0+v7.toNat)).c)) (rd v5 (0+v7.toNat)).a (w2g (decide (aA>0)) (decide ((wrap .i64 (aI+(rd v5 (0+v7.toNat)).c))>0))) aC)) else .stuck)) else (bif (aM == (rd v5 (0+v7.toNat)).a) then (bif (decide ((rd v5 (0+v7.toNat)).b =Int.ofNat 0)) then (.to (.h2 v5 v6 (wrap .i64 (v7+1)) (wrap .i64 (aA+(rd v5 (0+v7.toNat)).c)) aI (rd v5 (0+v7.toNat)).a (w2g (decide ((wrap .i64 (aA+(rd v5 (0+v7.toNat)).c))>0)) (decide (aI>0))) aC)) else (bif (decide ((rd v5 (0+v7.toNat)).b =Int.ofNat 1)) then (.to (.h2 v5 v6 (wrap .i64 (v7+1)) aA (wrap .i64 (aI+(rd v5 (0+v7.toNat)).c)) (rd v5 (0+v7.toNat)).a (w2g (decide (aA>0)) (decide ((wrap .i64 (aI+(rd v5 (0+v7.toNat)).c))>0))) aC)) else .stuck)) else (bif (decide ((aC.length:Int)>0)) then (bif ((decide (0≤(wrap .i64 ((aC.length:Int) - 1))∧(wrap .i64 ((aC.length:Int) - 1))<(aC.length:Int)))&&true) then (bif (decide ((0+(Int.toNat (wrap .i64 ((aC.length:Int) - 1))))<aC.length)) then (bif ((rd aC (0+(Int.toNat (wrap .i64 ((aC.length:Int) - 1))))).b == aM) then (bif (decide ((rd v5 (0+v7.toNat)).b =Int.ofNat 0)) then (.to (.h2 v5 v6 (wrap .i64 (v7+1)) (wrap .i64 (aA+(rd v5 (0+v7.toNat)).c)) aI (rd v5 (0+v7.toNat)).a (w2g (decide ((wrap .i64 (aA+(rd v5 (0+v7.toNat)).c))>0)) (decide (aI>0))) (aC.set (0+(Int.toNat (wrap .i64 ((aC.length:Int) - 1)))) (R2.mk (rd aC (0+(Int.toNat (wrap .i64 ((aC.length:Int) - 1))))).a (rd v5 (0+v7.toNat)).a)))) else (bif (decide ((rd v5 (0+v7.toNat)).b =Int.ofNat 1)) then (.to (.h2 v5 v6 (wrap .i64 (v7+1)) aA (wrap .i64 (aI+(rd v5 (0+v7.toNat)).c)) (rd v5 (0+v7.toNat)).a (w2g (decide (aA>0)) (decide ((wrap .i64 (aI+(rd v5 (0+v7.toNat)).c))>0))) (aC.set (0+(Int.toNat (wrap .i64 ((aC.length:Int) - 1)))) (R2.mk (rd aC (0+(Int.toNat (wrap .i64 ((aC.length:Int) - 1))))).a (rd v5 (0+v7.toNat)).a)))) else .stuck)) else (bif (Nat.beq 2 2&&((decide (0+aC.length=aC.length))&&decide ((aC.length+1+1)*(16+1)≤Ju))) then (bif (decide ((rd v5 (0+v7.toNat)).b =Int.ofNat 0)) then (.to (.h2 v5 v6 (wrap .i64 (v7+1)) (wrap .i64 (aA+(rd v5 (0+v7.toNat)).c)) aI (rd v5 (0+v7.toNat)).a (w2g (decide ((wrap .i64 (aA+(rd v5 (0+v7.toNat)).c))>0)) (decide (aI>0))) (aC++[(R2.mk aM (rd v5 (0+v7.toNat)).a)]))) else (bif (decide ((rd v5 (0+v7.toNat)).b =Int.ofNat 1)) then (.to (.h2 v5 v6 (wrap .i64 (v7+1)) aA (wrap .i64 (aI+(rd v5 (0+v7.toNat)).c)) (rd v5 (0+v7.toNat)).a (w2g (decide (aA>0)) (decide ((wrap .i64 (aI+(rd v5 (0+v7.toNat)).c))>0))) (aC++[(R2.mk aM (rd v5 (0+v7.toNat)).a)]))) else .stuck)) else .stuck)) else .stuck) else .stuck) else (bif (Nat.beq 2 2&&((decide (0+aC.length=aC.length))&&decide ((aC.length+1+1)*(16+1)≤Ju))) then (bif (decide ((rd v5 (0+v7.toNat)).b =Int.ofNat 0)) then (.to (.h2 v5 v6 (wrap .i64 (v7+1)) (wrap .i64 (aA+(rd v5 (0+v7.toNat)).c)) aI (rd v5 (0+v7.toNat)).a (w2g (decide ((wrap .i64 (aA+(rd v5 (0+v7.toNat)).c))>0)) (decide (aI>0))) (aC++[(R2.mk aM (rd v5 (0+v7.toNat)).a)]))) else (bif (decide ((rd v5 (0+v7.toNat)).b =Int.ofNat 1)) then (.to (.h2 v5 v6 (wrap .i64 (v7+1)) aA (wrap .i64 (aI+(rd v5 (0+v7.toNat)).c)) (rd v5 (0+v7.toNat)).a (w2g (decide (aA>0)) (decide ((wrap .i64 (aI+(rd v5 (0+v7.toNat)).c))>0))) (aC++[(R2.mk aM (rd v5 (0+v7.toNat)).a)]))) else .stuck)) else .stuck)))) else .stuck) else .stuck) else (.ret [(.dat aC.length (Zz aC)),(.int .i64 0)]))
def y1j (l0:List R2):Xf spmS:=(bif (decide ((l0.length:Int)>400)) then (.ret [.nils,(.int .i64 4)]) else (.to (.h0 0)))
theorem w3j (l0:List R2): ∀s,Xq prog (Zy prog 157) (spmC l0) (spmC l0 s) (Uh l0 s)
 | .h0 v8=>(lb (fun k0=>(lo fun aG=>(lb (fun k1=>(lb (fun k2=>(lb (fun k3=>(lb (fun k4=>(lr 11 157 [1,1,0,1,0,0] 1 15 [(2,.nils),(3,(ii 8))] (sl Qr 79 [] ⟨[],[],[some [2,3]],[]⟩ ⟨[],[],[]⟩ (trs 9 []) (tt k4 (tt k3 (tt k2 (tt k1 (ww aG (tt k0 nn))))))))) (fun k4=>(sl Qr 154 [(246,3,Zz ([]:List R3))] ⟨[8,2,3,4,5,6,7,9],[],w7t,w7u⟩ ⟨[(3,.grow 7 3)],[],[]⟩ (trs 8 (bl 2 2)) (pp (fl ([]:List R3) nn) (tt k4 (tt k3 (tt k2 (tt k1 (ww aG (tt k0 nn))))))))))) (fun k3=>(sl Qr 69 [] ⟨[],[],spmN0,spmM0⟩ ⟨[],[],[]⟩ (trs 7 [false]) (tt k3 (tt k2 (tt k1 (ww aG (tt k0 nn))))))))) (fun k2=>(lb (fun k3=>(lr 11 157 [1,1,0,1,0,0] 1 15 [(2,.nils),(3,(ii 8))] (sl Qr 79 [] ⟨[],[],[some [2,3]],[]⟩ ⟨[],[],[]⟩ (trs 4 (bl 5 24)) (tt k3 (tt k2 (tt k1 (ww aG (tt k0 nn)))))))) (fun k3=>(sl Qr 154 [(246,3,Zz ([]:List R3))] ⟨[8,2,3,4,5,6,7,9],[],w7t,w7u⟩ ⟨[(3,.grow 7 3)],[],[]⟩ (trs 4 (bl 6 40)) (pp (fl ([]:List R3) nn) (tt k3 (tt k2 (tt k1 (ww aG (tt k0 nn)))))))))))) (fun k1=>(lb (fun k2=>(lr 11 157 [1,1,0,1,0,0] 1 15 [(2,.nils),(3,(ii 8))] (sl Qr 79 [] ⟨[],[],[some [2,3]],[]⟩ ⟨[],[],[]⟩ (bl 9 385) (tt k2 (tt k1 (ww aG (tt k0 nn))))))) (fun k2=>(sl Qr 154 [(246,3,Zz ([]:List R3))] ⟨[8,2,3,4,5,6,7,9],[],w7t,w7u⟩ ⟨[(3,.grow 7 3)],[],[]⟩ (bl 10 641) (pp (fl ([]:List R3) nn) (tt k2 (tt k1 (ww aG (tt k0 nn)))))))))))) (fun k0=>(sl Qr 98 [(246,3,Zz ([]:List R3))] ⟨[6,0,1,2,3,4,5,7],[],w7t,w7u⟩ ⟨[(3,.grow 7 3)],[],[]⟩ (bl 3 4) (pp (fl ([]:List R3) nn) (tt k0 nn)))))
 | .h1 v3 v17=>(lb (fun k0=>(lo fun o0=>(lo fun o1=>(sl Qr 36 [] ⟨[0,1,2,3,4,5,6,10],[],w7t,w7u⟩ ⟨[(3,.len (y6y v3 l0 v17).length)],(kpB 7 [.rowed 3 (y6y v3 l0 v17).length (Zz (y6y v3 l0 v17))]),[]⟩ [true] (pp (xL (v3.length+2) (y6y v3 l0 v17).length) (pp (xL (v3.length+2) (y6y v3 l0 v17).length) (pp (xS (v3.length+2) (Zi (Zz v3) 0 v3.length 3 [(ii (rd l0 (tn v17)).a),(ii 0),(ii 1),(ii (rd l0 (tn v17)).b),(ii 0),(ii (-1))]) (Zz (y6y v3 l0 v17))) (pp (pp (xF (Zi (Zz v3) 0 v3.length 3 [(ii (rd l0 (tn v17)).a),(ii 0),(ii 1),(ii (rd l0 (tn v17)).b),(ii 0),(ii (-1))])) nn) (ww o1 (ww o0 (tt k0 nn))))))))))) (fun k0=>(lo fun o0=>(lo fun o1=>(lo fun o2=>(sl Qr 92 [(183,2,Zz ([]:List R2))] ⟨[9,1,2,4,5,6,3,7,10],[],y3g,y3h⟩ ⟨[(5,.len (z0q (cvT v3)).length)],(kpB 6 [.cells [.grow 8 2],.rowed 3 (z0q (cvT v3)).length (Zz (z0q (cvT v3))),.keep]),[]⟩ (bl 4 2) (pp (xL v3.length (z0q (cvT v3)).length (by first | exact z7q _ | exact Vy rfl)) (pp (xL v3.length (z0q (cvT v3)).length (by first | exact z7q _ | exact Vy rfl)) (pp (xS v3.length (Zz (z0q (cvT v3))) (Zz (z0q (cvT v3)))) (pp (fl (z0q (cvT v3)) (fl ([]:List R2) nn)) (pp (pp (xG (Nat.beq 3 3)) (pp (xG (Nat.beq 3 3)) (pp (xG (Nat.beq 0 0)) (pp (pp (xG (decide (v3.length=v3.length))) (pp (xr v3) (xG (decide (v3.length<4611686018427387904))))) (xG (y0x (cvT v3))))))) (tt k0 nn))))))))))))
 | .h2 v5 v6 v7 aA aI aM aF aC=>(lb (fun k0=>(lo fun aG=>(lo fun bA=>(lb (fun k1=>(lb (fun k2=>(sl Qr 62 [] ⟨(List.range 9),[],y3g,y3h⟩ ⟨[],[],[]⟩ (trs 5 (bl 3 0)) (pp (fl v5 (fl aC nn)) (ww k2 (tt k1 (ww bA (ww aG (tt k0 nn)))))))) (fun k2=>(lb (fun k3=>(sl Qr 62 [] ⟨(List.range 9),[],y3g,y3h⟩ ⟨[],[],[]⟩ (trs 6 (bl 4 2)) (pp (fl v5 (fl aC nn)) (ww k3 (tt k1 (ww bA (ww aG (tt k0 nn)))))))) (fun k3=>trivial))))) (fun k1=>(lb (fun k2=>(lb (fun k3=>(sl Qr 62 [] ⟨(List.range 9),[],y3g,y3h⟩ ⟨[],[],[]⟩ (bl 8 17) (pp (fl v5 (fl aC nn)) (ww k3 (tt k2 (tt k1 (ww bA (ww aG (tt k0 nn))))))))) (fun k3=>(lb (fun k4=>(sl Qr 62 [] ⟨(List.range 9),[],y3g,y3h⟩ ⟨[],[],[]⟩ (bl 10 177) (pp (fl v5 (fl aC nn)) (ww k4 (tt k2 (tt k1 (ww bA (ww aG (tt k0 nn))))))))) (fun k4=>trivial))))) (fun k2=>(lb (fun k3=>(lo fun bW=>(lo fun cP=>(lb (fun k4=>(lb (fun k5=>(sl Qr 81 [] ⟨(List.range 9),[],y3g,y3h⟩ ⟨[],(kpB 6 [.cells [.len (aC.set (0+(tn (wr ((aC.length:Int) - 1)))) (R2.mk (rd aC (0+(tn (wr ((aC.length:Int) - 1))))).a (rd v5 (0+(tn v7))).a)).length],.keep,.rowed 2 (aC.set (0+(tn (wr ((aC.length:Int) - 1)))) (R2.mk (rd aC (0+(tn (wr ((aC.length:Int) - 1))))).a (rd v5 (0+(tn v7))).a)).length (Zz (aC.set (0+(tn (wr ((aC.length:Int) - 1)))) (R2.mk (rd aC (0+(tn (wr ((aC.length:Int) - 1))))).a (rd v5 (0+(tn v7))).a)))]),[]⟩ (bl 17 16353) (pp (xL aC.length (aC.set (0+(tn (wr ((aC.length:Int) - 1)))) (R2.mk (rd aC (0+(tn (wr ((aC.length:Int) - 1))))).a (rd v5 (0+(tn v7))).a)).length) (pp (xL aC.length (aC.set (0+(tn (wr ((aC.length:Int) - 1)))) (R2.mk (rd aC (0+(tn (wr ((aC.length:Int) - 1))))).a (rd v5 (0+(tn v7))).a)).length) (pp (xS aC.length (Xn (Zz aC) (0+(tn (wr ((aC.length:Int) - 1)))) 1 [(ii (rd v5 (0+(tn v7))).a)]) (Zz (aC.set (0+(tn (wr ((aC.length:Int) - 1)))) (R2.mk (rd aC (0+(tn (wr ((aC.length:Int) - 1))))).a (rd v5 (0+(tn v7))).a)))) (pp (fl v5 (pp (xF (Xn (Zz aC) (0+(tn (wr ((aC.length:Int) - 1)))) 1 [(ii (rd v5 (0+(tn v7))).a)])) nn)) (ww k5 (ww cP (ww bW (tt k4 (ww cP (ww bW (tt k3 (tt k2 (tt k1 (ww bA (ww aG (tt k0 nn)))))))))))))))))) (fun k5=>(lb (fun k6=>(sl Qr 81 [] ⟨(List.range 9),[],y3g,y3h⟩ ⟨[],(kpB 6 [.cells [.len (aC.set (0+(tn (wr ((aC.length:Int) - 1)))) (R2.mk (rd aC (0+(tn (wr ((aC.length:Int) - 1))))).a (rd v5 (0+(tn v7))).a)).length],.keep,.rowed 2 (aC.set (0+(tn (wr ((aC.length:Int) - 1)))) (R2.mk (rd aC (0+(tn (wr ((aC.length:Int) - 1))))).a (rd v5 (0+(tn v7))).a)).length (Zz (aC.set (0+(tn (wr ((aC.length:Int) - 1)))) (R2.mk (rd aC (0+(tn (wr ((aC.length:Int) - 1))))).a (rd v5 (0+(tn v7))).a)))]),[]⟩ (bl 19 98273) (pp (xL aC.length (aC.set (0+(tn (wr ((aC.length:Int) - 1)))) (R2.mk (rd aC (0+(tn (wr ((aC.length:Int) - 1))))).a (rd v5 (0+(tn v7))).a)).length) (pp (xL aC.length (aC.set (0+(tn (wr ((aC.length:Int) - 1)))) (R2.mk (rd aC (0+(tn (wr ((aC.length:Int) - 1))))).a (rd v5 (0+(tn v7))).a)).length) (pp (xS aC.length (Xn (Zz aC) (0+(tn (wr ((aC.length:Int) - 1)))) 1 [(ii (rd v5 (0+(tn v7))).a)]) (Zz (aC.set (0+(tn (wr ((aC.length:Int) - 1)))) (R2.mk (rd aC (0+(tn (wr ((aC.length:Int) - 1))))).a (rd v5 (0+(tn v7))).a)))) (pp (fl v5 (pp (xF (Xn (Zz aC) (0+(tn (wr ((aC.length:Int) - 1)))) 1 [(ii (rd v5 (0+(tn v7))).a)])) nn)) (ww k6 (ww cP (ww bW (tt k4 (ww cP (ww bW (tt k3 (tt k2 (tt k1 (ww bA (ww aG (tt k0 nn)))))))))))))))))) (fun k6=>trivial))))) (fun k4=>(lo fun cO=>(lb (fun k5=>(sl Qr 81 [] ⟨[0,1,2,3,4,5,6,7,12],[],y3g,y3h⟩ ⟨[],(kpB 6 [.cells [.len (Uj aC aM v5 v7).length],.keep,.rowed 2 (Uj aC aM v5 v7).length (Zz (Uj aC aM v5 v7))]),[]⟩ (bl 17 8161) (pp (xL (aC.length+1) (Uj aC aM v5 v7).length) (pp (xL (aC.length+1) (Uj aC aM v5 v7).length) (pp (xS (aC.length+1) (y0c aC aM v5 v7) (Zz (Uj aC aM v5 v7))) (pp (fl v5 (pp (xF (y0c aC aM v5 v7)) nn)) (ww k5 (ww cO (tt k4 (ww cP (ww bW (tt k3 (tt k2 (tt k1 (ww bA (ww aG (tt k0 nn))))))))))))))))) (fun k5=>(lb (fun k6=>(sl Qr 81 [] ⟨[0,1,2,3,4,5,6,7,12],[],y3g,y3h⟩ ⟨[],(kpB 6 [.cells [.len (Uj aC aM v5 v7).length],.keep,.rowed 2 (Uj aC aM v5 v7).length (Zz (Uj aC aM v5 v7))]),[]⟩ (bl 19 90081) (pp (xL (aC.length+1) (Uj aC aM v5 v7).length) (pp (xL (aC.length+1) (Uj aC aM v5 v7).length) (pp (xS (aC.length+1) (y0c aC aM v5 v7) (Zz (Uj aC aM v5 v7))) (pp (fl v5 (pp (xF (y0c aC aM v5 v7)) nn)) (ww k6 (ww cO (tt k4 (ww cP (ww bW (tt k3 (tt k2 (tt k1 (ww bA (ww aG (tt k0 nn))))))))))))))))) (fun k6=>trivial)))))))))) (fun k3=>(lo fun bW=>(lb (fun k4=>(sl Qr 81 [] ⟨[0,1,2,3,4,5,6,7,12],[],y3g,y3h⟩ ⟨[],(kpB 6 [.cells [.len (Uj aC aM v5 v7).length],.keep,.rowed 2 (Uj aC aM v5 v7).length (Zz (Uj aC aM v5 v7))]),[]⟩ (bl 17 1) (pp (xL (aC.length+1) (Uj aC aM v5 v7).length) (pp (xL (aC.length+1) (Uj aC aM v5 v7).length) (pp (xS (aC.length+1) (y0c aC aM v5 v7) (Zz (Uj aC aM v5 v7))) (pp (fl v5 (pp (xF (y0c aC aM v5 v7)) nn)) (ww k4 (ww bW (tt k3 (tt k2 (tt k1 (ww bA (ww aG (tt k0 nn)))))))))))))) (fun k4=>(lb (fun k5=>(sl Qr 81 [] ⟨[0,1,2,3,4,5,6,7,12],[],y3g,y3h⟩ ⟨[],(kpB 6 [.cells [.len (Uj aC aM v5 v7).length],.keep,.rowed 2 (Uj aC aM v5 v7).length (Zz (Uj aC aM v5 v7))]),[]⟩ (bl 19 81921) (pp (xL (aC.length+1) (Uj aC aM v5 v7).length) (pp (xL (aC.length+1) (Uj aC aM v5 v7).length) (pp (xS (aC.length+1) (y0c aC aM v5 v7) (Zz (Uj aC aM v5 v7))) (pp (fl v5 (pp (xF (y0c aC aM v5 v7)) nn)) (ww k5 (ww bW (tt k3 (tt k2 (tt k1 (ww bA (ww aG (tt k0 nn)))))))))))))) (fun k5=>trivial)))))))))))))) (fun k0=>(lr 11 3 [1,1,1,1,1,1,1,0] 1 15 [(2,(.dat aC.length (Zz aC))),(3,(ii 0))] (sl Qr 19 [] ⟨[],[8],[some [2,3]],[]⟩ ⟨[(2,.frz aC.length aC.length (Zz aC) (Zz aC))],[],[]⟩ [false] (pp (xZ (z6i 2 2 0 aC.length aC.length (Zz aC)) aC.length (Zz aC)) (pp (xL aC.length aC.length) (pp (xS aC.length (Zz aC) (Zz aC)) (pp (fl aC nn) (tt k0 nn)))))))))
theorem x5j (l0:List R2):Xq prog (Zy prog 157) (spmC l0) (Zc prog 157 [(.dat l0.length (Zz l0))] true []) (y1j l0):=(lb (fun k0=>(lr 11 157 [1,0,1,0,0] 1 15 [(2,.nils),(3,(ii 4))] (sl Qr 18 [] ⟨[],[],[some [2,3]],[]⟩ ⟨[],[],[]⟩ [true] (tt k0 nn)))) (fun k0=>(sl Qr 41 [] ⟨[],[],spmN0,spmM0⟩ ⟨[],[],[]⟩ [false] (tt k0 nn))))
theorem v4m (l0:List R2) (n:Nat) (vs:List AVal) (h:Yj (Uh l0) n (y1j l0)=.ret vs):Kv prog (Zy prog 157) (Zc prog 157 [(.dat l0.length (Zz l0))] true []) vs:=by have:=Zn (w3j l0) n _ (x5j l0);rwa [h] at this
def z1j (s:R2):Bool:=decide (s.a<s.b)&&(decide (s.a≥ -1000000)&&decide (s.b≤1000000))
def Ku (l:List R2):List R3:=l.flatMap fun s=>[⟨s.a,0,1⟩,⟨s.b,0,-1⟩]
def Vf (out:List R2) (last:Int) (inn:Bool) (at':Int):List R2:=
 bif !inn then out else bif last == at' then out else
 bif decide (0<out.length)&&((rd out (out.length - 1)).b == last) then out.set (out.length - 1) ⟨(rd out (out.length - 1)).a,at'⟩ else out++[⟨last,at'⟩]
def swF :List R3→Int→Int→Bool→List R2→List R2
 | [],_,_,_,out=>out
 | e::r,o,last,inn,out=>swF r (o+e.c) e.a (decide (o+e.c>0)) (Vf out last inn e.a)
def swV (l:List R2):List R2:=swF (z0q (Ku l)) 0 0 false []
def Xr (l:List R2):List R2:=bif decide (400<l.length) then [] else bif l.all z1j then swV l else []
def v9w (l:List R2):Int:=bif decide (400<l.length) then 4 else bif l.all z1j then 0 else 8
def y3f (l:List R2):Bool:=true
def x2d (l:List R2):List AVal:=bif decide (400<l.length) then [.nils,.int .i64 4] else bif l.all z1j then [.dat (swV l).length (Zz (swV l)),.int .i64 0] else [.nils,.int .i64 8]
theorem z4k (l:List R2):(Ku l).length =2*l.length:=by
 induction l with
 | nil=>rfl
 | cons r l ih=>show (_::_::Ku l).length =_;simp only [AV,ih];omega
theorem z2y (out:List R2) (last:Int) (inn:Bool) (a:Int):(Vf out last inn a).length ≤out.length+1:=by
 unfold Vf;cases inn <;> simp only [AG,AK,Ab,Aa]
 ·omega
 ·cases (last == a) <;> simp only [Ab,Aa]
  ·cases (decide (0<out.length)&&((rd out (out.length - 1)).b == last)) <;> simp
  ·omega
theorem y1i (e:R3) (r:List R3) (o last:Int) (inn:Bool) (out:List R2):swF (e::r) o last inn out=swF r (o+e.c) e.a (decide (o+e.c>0)) (Vf out last inn e.a):=rfl
theorem u6v {a:Int} (k:Nat) (h:a=(k:Int)):decide (a=Int.ofNat k)=true:=Ah h
section
variable (l:List R2) (hl:l.length≤400)
include hl
theorem v9s (L:List R3) (hL:L.length≤800) (hE: ∀i,i<L.length→(rd L i).b =0∧((rd L i).c =1∨(rd L i).c = -1)): ∀(k i:Nat) (o last:Int) (inn:Bool) (out:List R2),i+k=L.length→ -(i:Int)≤o→o≤i→out.length≤i→
  ∃n,Yj (Uh l) n (.to (.h2 L (L.length:Int) (i:Int) o 0 last inn out))=.ret [.dat (swF (L.drop i) o last inn out).length (Zz (swF (L.drop i) o last inn out)),.int .i64 0]
 | 0,i,o,last,inn,out,h,ho1,ho2,hout=>by have _uhl:=hl;refine ⟨1,?_⟩;rw [Zv,Au (by omega)];simp (disch:=omega) only [Uh,Yw,Aa,Zg,swF]
 | k +1,i,o,last,inn,out,h,ho1,ho2,hout=>by
  obtain ⟨hb,hc⟩:=hE i (by omega);have hcl:=z2y out last inn (rd L i).a;obtain ⟨n,hn⟩:=v9s L hL hE k (i+1) (o+(rd L i).c) (rd L i).a (decide (o+(rd L i).c >0)) (Vf out last inn (rd L i).a) (by omega) (by rcases hc with hc | hc <;> omega) (by rcases hc with hc | hc <;> omega) (by omega);refine ⟨n+1,?_⟩;rw [Ym (show i<L.length by omega),Zv];have hf: ∀b,w2g b (decide ((0:Int)>0))=b:=fun b=>rfl;have hw:wrap .i64 (o+(rd L i).c)=o+(rd L i).c :=Zp (by rcases hc with hc | hc <;> omega);rw [y1i];have hf': ∀b,w2g b false=b:=fun b=>rfl;have hz:=u6v 0 hb;unfold Vf at hn ⊢;cases inn with
  | false=>simp only [AK,Ab] at hn ⊢;simp (disch:=omega) only [Uh,AK,hz,hw,hf,hf',Zs,Zt,Yk,Zp,Zx,Zk,Ag,Ai,Ab];exact hn
  | true=>
   simp only [AG,Aa] at hn ⊢;rcases Ye (last == (rd L i).a) with q | q
   ·rw [q] at hn ⊢;simp only [Ab] at hn ⊢;simp (disch:=omega) only [Uh,AG,q,hz,hw,hf,hf',Zs,Zt,Yk,Zp,Zx,Zk,Ag,Ai,Ab,Aa];exact hn
   ·rw [q] at hn ⊢;simp only [Aa] at hn ⊢;by_cases h0:0<out.length
    ·rw [Ah h0,Al] at hn ⊢;rcases Ye ((rd out (out.length - 1)).b == last) with q2 | q2
     ·rw [q2] at hn ⊢;simp only [Ab] at hn ⊢;simp (disch:=omega) only [Uh,AG,q,q2,hz,hw,hf,hf',Zs,Yo,Zt,Yk,Zp,Zx,Zk,Ze,Ag,Ai,Ab,Aa];exact hn
     ·rw [q2] at hn ⊢;simp only [Aa] at hn ⊢;simp (disch:=omega) only [Uh,AG,q,q2,hz,hw,hf,hf',Zs,Yo,Zt,Yk,Yp,Zf,Ya,Av,Zp,Zx,Zk,Ze,Ag,Ai,Al,Ab,Aa];exact hn
    ·rw [Ay h0,BC] at hn ⊢;simp only [Aa] at hn ⊢;simp (disch:=omega) only [Uh,AG,q,hz,hw,hf,hf',Zs,Xb,Zt,Yk,Yp,Zf,Ya,Av,Zp,Zx,Zk,Ag,Ai,Al,Ab,Aa];exact hn
theorem v2s (h:l.all z1j=true): ∀e∈Ku l,bnd3 e=true∧e.b=0∧(e.c=1∨e.c= -1):=by
 have _uhl:=hl;intro e he;obtain ⟨s,hs,h1⟩:=AO.1 he;have hv:=As.1 h s hs;simp only [z1j,Ac,Aq] at hv;simp only [AB,Bm,Ca] at h1;rcases h1 with rfl | rfl
 ·exact ⟨Ah (by simp only;omega),rfl,.inl rfl⟩
 ·exact ⟨Ah (by simp only;omega),rfl,.inr rfl⟩
theorem v9t (hv:l.all z1j=true): ∀(k i:Nat) (acc:List R3),i+k=l.length→acc=Ku (l.take i)→ ∃n,Yj (Uh l) n (.to (.h1 acc (i:Int)))=.ret [.dat (swV l).length (Zz (swV l)),.int .i64 0]
 | 0,i,acc,h,ha=>by
  have e:acc=Ku l:=by rw [ha,AU (by omega)]
  subst e;have hle:=z4k l;have dX:=v2s l hl hv;have hb:y0x (Ku l)=true:=As.2 fun e he=>(dX e he).1;obtain ⟨hp,_⟩:=Kn (Ku l) hb;have hpl:=hp.length_eq;obtain ⟨n,hn⟩:=v9s l hl (z0q (Ku l)) (by omega) (fun i hi=>by
   rw [Xp hi];exact (dX _ (hp.mem_iff.1 (AS hi))).2) (z0q (Ku l)).length 0 0 0 false [] (Ag _) (by omega) (by omega) (AJ _)
  refine ⟨n+1,?_⟩;rw [Zv];simp (disch:=omega) only [Uh,Za,Zq,hb,Yw,Yk,Yp,Av,Ab,Aa];rw [←hpl];simp only [z2z,A2] at hn;exact hn
 | k+1,i,acc,h,ha=>by
  have hle:=z4k (l.take i);have fH:acc.length≤2*i:=by rw [ha,hle];simp;omega
  obtain ⟨n,hn⟩:=v9t hv k (i+1) (acc++Ku [rd l i]) (by omega) (by
   rw [ha,Bn];have:l[i]? =some (rd l i):=by rw [Xp (show i<l.length by omega)];exact Ar _
   rw [this];simp [Ku])
  refine ⟨n+1,?_⟩;rw [Zv];simp (disch:=omega) only [Uh,Zs,Zt,Yc,Yp,Zf,Ya,Av,Zp,Zx,Zk,Ag,Ai,Al,Ab];exact hn
theorem v9u : ∀(k i:Nat),i+k=l.length→(∀s∈l.take i,z1j s=true)→ ∃n,Yj (Uh l) n (.to (.h0 (i:Int)))=.ret (bif l.all z1j then [.dat (swV l).length (Zz (swV l)),.int .i64 0] else [.nils,.int .i64 8])
 | 0,i,h,ht=>by have hv:l.all z1j=true:=As.2 fun s hs=>ht s (by rw [AU (by omega)];exact hs);obtain ⟨n,hn⟩:=v9t l hl hv l.length 0 [] (Ag _) rfl;refine ⟨n+1,?_⟩;rw [Zv,hv,Ab];simp (disch:=omega) only [Uh,Yw,Aa];exact hn
 | k+1,i,h,ht=>by
  have hi:i<l.length:=by omega
  rcases Ye (z1j (rd l i)) with q | q
  ·obtain ⟨n,hn⟩:=v9u k (i+1) (by omega) (fun s hs=>by
    rw [Bn] at hs;have e:l[i]? =some (rd l i):=by rw [Xp hi];exact Ar _
    rw [e] at hs;simp only [Cd,AC,AM] at hs;rcases hs with hs | rfl
    ·exact ht s hs
    ·exact q)
   refine ⟨n+1,?_⟩;rw [Zv];simp only [z1j,Ac,Aq] at q;simp (disch:=omega) only [Uh,Zs,Wy,dge_t,Zt,Zp,Zx,Zk,AG,Ai,Ab,Aa];exact hn
  ·have hv:l.all z1j=false:=A7.2 fun e=>by have:=As.1 e (rd l i) (by rw [Xp hi];exact AS hi);rw [this] at q;cases q
   refine ⟨1,?_⟩;rw [Zv,hv,Aa];unfold z1j at q;rcases Ye (decide ((rd l i).a <(rd l i).b)) with q1 | q1 <;> rcases Ye (decide ((rd l i).a ≥ -1000000)) with q2 | q2 <;> rcases Ye (decide ((rd l i).b ≤1000000)) with q3 | q3 <;>
    rw [q1,q2,q3] at q <;> first
    | (exfalso;revert q;decide)
    | simp (disch:=omega) only [Uh,q1,q2,q3,Zs,dge_t,Zt,Zp,Zx,Zk,AG,AK,Ai,Ab,Aa,Zg]
end
theorem u4u (l:List R2): ∃n,Yj (Uh l) n (y1j l)=.ret (x2d l):=by
 unfold y1j x2d;by_cases h:400<l.length
 ·refine ⟨0,?_⟩;rw [Ah h,Yo (show (l.length:Int)>400 by omega)];rfl
 ·obtain ⟨n,hn⟩:=v9u l (by omega) l.length 0 (Ag _) (fun s hs=>by simp at hs);refine ⟨n,?_⟩;rw [Ay h,Xb (show¬(l.length:Int)>400 by omega),Aa,Aa];exact hn
def fSpm :List AVal→Option (AVal×Bool)
 | [a1]=>match asL R2 a1 with
  | some (L1,g1,n1)=>some (.tup [.dat (Xr L1).length (Zz (Xr L1)),.int .i64 (v9w L1)],isT R2 n1 g1&&y3f L1)
  | _=>none
 | _=>none
theorem u8q {S:Specs} (hS:Zj prog S):Zj prog (S.with x3g fSpm):=by
 refine w7a hS (by kernel_rfl) fun args v h=> ?_;unfold fSpm at h;split at h
 ·rename_i a1;split at h
  ·rename_i L1 g1 n1 e1;simp only [Ae,Ad,Ac] at h;obtain ⟨rfl,ho1,hw⟩:=h;obtain ⟨N,hN⟩:=u4u L1;refine ⟨_,x2d L1,(.cons (Yr e1 ho1) .nil),?_,v4m L1 N _ hN,3,?_⟩
   ·unfold Xr v9w x2d;cases decide (400<L1.length) <;> simp only [Ab,Aa]
    ·cases L1.all z1j <;> simp only [Ab,Aa]
     ·exact fun ρ u hu=>z3s (.cons (z6g R2) (RLe.refl _)) ρ u hu
     ·exact fun ρ u hu=>hu
    ·exact fun ρ u hu=>z3s (.cons (z6g R2) (RLe.refl _)) ρ u hu
   ·unfold x2d;cases decide (400<L1.length) <;> simp only [Ab,Aa]
    ·cases L1.all z1j <;> rfl
    ·rfl
  ·cases h
 ·cases h
def T6 :Specs:=T5.with x3g fSpm
theorem Kw :Zj prog T6:=u8q Qr
theorem y5h {γ:Type} (a b:Bool) (x y:γ):(bif a&&b then x else y)=bif a then (bif b then x else y) else y:=by cases a <;> rfl
theorem z6q {γ:Type} (a:Bool) (x y:γ):(bif !a then x else y)=bif a then y else x:=by cases a <;> rfl
structure Dim (α β:Type) where
 lo:α→Int
 hi:α→Int
 pr:α→β
 put:Int→Int→β→α
 ext:Int→α→α
 mak:List β→List β
 same:List β→List β→Bool
structure Sw (α β:Type) where
 out:List α
 last:List β
 first:Nat
 fin:Int
def Jp (zs:List Int):List Int:=compact (Xv zs)
theorem Xo (zs:List Int):(Xv zs).length =zs.length:=List.length_mergeSort zs
theorem z2w (zs:List Int):(Jp zs).length ≤zs.length:=by have:=compact_length_le (Xv zs);rw [Xo] at this;exact this
theorem z4b (zs:List Int) (i:Nat) (h:i<(Jp zs).length):rd (Wf (Xv zs)) i=rd (Jp zs) i:=by change i<(compact (Xv zs)).length at h;show rd (compact (Xv zs)++_) i=rd (compact (Xv zs)) i;rw [Xp (by rw [Az];exact Nat.lt_add_right _ h),Xp h,By h]
theorem z0a (zs:List Int):Yx zs.length (cOf (Zz (Xv zs)))=Xv zs:=by have:=Wv (Xv zs);rw [Xo] at this;exact this
namespace Dim
variable {α β:Type} (D:Dim α β) (l:List α)
def ends :List Int:=l.flatMap fun r=>[D.lo r,D.hi r]
def cuts :List Int:=Jp (D.ends l)
def inn (x:Int):List β:=(l.filter fun r=>decide (D.lo r≤x)&&decide (x<D.hi r)).map D.pr
def sec (x:Int):List β:=D.mak (D.inn l x)
def grow (out:List α) (k:Nat) (x:Int):List α:=out.take k++(out.drop k).map (D.ext x)
def one (x x':Int) (s:Sw α β):Sw α β:=
 bif decide (0<(D.sec l x).length)&&((s.fin == x)&&D.same s.last (D.sec l x)) then ⟨D.grow s.out s.first x',s.last,s.first,x'⟩
 else ⟨s.out++(D.sec l x).map (D.put x x'),D.sec l x,s.out.length,x'⟩
def go :Nat→Nat→Sw α β→Sw α β
 | 0,_,s=>s
 | k+1,i,s=>go k (i+1) (D.one l (rd (D.cuts l) i) (rd (D.cuts l) (i+1)) s)
def out :List α:=(D.go l ((D.cuts l).length - 1) 0 ⟨[],[],0,0⟩).out
theorem ends_length :(D.ends l).length =2*l.length:=by
 induction l with
 | nil=>rfl
 | cons r l ih=>show (_::_::D.ends l).length =_;simp only [AV,ih];omega
theorem cuts_length :(D.cuts l).length ≤2*l.length:=by have:=z2w (D.ends l);rw [D.ends_length] at this;exact this
theorem ends_append (m:List α):D.ends (l++m)=D.ends l++D.ends m:=by simp [ends]
theorem inn_append (m:List α) (x:Int):D.inn (l++m) x=D.inn l x++D.inn m x:=by simp [inn]
theorem inn_length (x:Int):(D.inn l x).length ≤l.length:=by simpa [inn] using BN _ l
theorem inn_t (r:α) (x:Int) (h1:D.lo r≤x) (h2:x<D.hi r):D.inn [r] x=[D.pr r]:=by simp [inn,h1,h2]
theorem inn_f1 (r:α) (x:Int) (h1: ¬D.lo r≤x):D.inn [r] x=[]:=by simp [inn,h1]
theorem inn_f2 (r:α) (x:Int) (h1: ¬x<D.hi r):D.inn [r] x=[]:=by simp [inn,h1]
theorem grow_nil (out:List α) (k:Nat) (x:Int) (h:out.length≤k):D.grow out k x=out:=by unfold grow;rw [Au h,Bg,AA,AU h]
theorem grow_length (out:List α) (k:Nat) (x:Int):(D.grow out k x).length =out.length:=by unfold grow;simp;omega
theorem grow_set [Ys α] (out:List α) (j:Nat) (x:Int) (h:j<out.length):D.grow (out.set j (D.ext x (rd out j))) (j+1) x=D.grow out j x:=by
 unfold grow;rw [Ym h,AW];have e1:(out.set j (D.ext x (rd out j))).take (j+1)=out.take j++[D.ext x (rd out j)]:=by
  apply B9
  ·simp;omega
  ·intro n h1 h2;simp only [Bh,List.getElem_set];by_cases e:j=n
   ·subst e;rw [Aw rfl,BH (by simp only [Bl];omega)];simp
   ·rw [At e,By (by simp at h1 ⊢;omega),Bh]
 have e2:(out.set j (D.ext x (rd out j))).drop (j+1)=out.drop (j+1):=by rw [List.drop_set];rw [Aw (by omega)]
 rw [e1,e2,AL];rfl
theorem one_length (x x':Int) (s:Sw α β):(D.one l x x' s).out.length ≤s.out.length+(D.sec l x).length :=by unfold one;cases (decide (0<(D.sec l x).length)&&((s.fin == x)&&D.same s.last (D.sec l x))) <;> simp [grow_length]
end Dim
open Go.Proofs.Tryz
open Go.Proofs
inductive vl4S where
def vl4C (aR:Int) (aP:Int) (aQ:Int) (bI:Int):vl4S→Cfg
 :=nofun
def x5d (aR:Int) (aP:Int) (aQ:Int) (bI:Int):vl4S→Xf vl4S
 :=nofun
def y1h (aR:Int) (aP:Int) (aQ:Int) (bI:Int):Xf vl4S:=(bif (decide (aR<aQ)) then (bif (decide (aP<bI)) then (bif (decide (aR≥(-1000000))) then (bif (decide (aR≤1000000)) then (bif (decide (aQ≥(-1000000))) then (bif (decide (aQ≤1000000)) then (bif (decide (aP≥(-1000000))) then (bif (decide (aP≤1000000)) then (bif (decide (bI≥(-1000000))) then (.ret [(.bool (decide (bI≤1000000)))]) else (.ret [(.bool false)])) else (.ret [(.bool false)])) else (.ret [(.bool false)])) else (.ret [(.bool false)])) else (.ret [(.bool false)])) else (.ret [(.bool false)])) else (.ret [(.bool false)])) else (.ret [(.bool false)])) else (.ret [(.bool false)]))
theorem w3a (aR:Int) (aP:Int) (aQ:Int) (bI:Int): ∀s,Xq prog (Zy prog 120) (vl4C aR aP aQ bI) (vl4C aR aP aQ bI s) (x5d aR aP aQ bI s)
 :=nofun
theorem x5e (aR:Int) (aP:Int) (aQ:Int) (bI:Int):Xq prog (Zy prog 120) (vl4C aR aP aQ bI) (Zc prog 120 [(.agg [(.int .i64 aR),(.int .i64 aP),(.int .i64 aQ),(.int .i64 bI)])] true []) (y1h aR aP aQ bI):=(lb (fun k0=>(lb (fun k1=>(lb (fun k2=>(lb (fun k3=>(lb (fun k4=>(lb (fun k5=>(lb (fun k6=>(lb (fun k7=>(lb (fun k8=>(lr 35 3 [1,1,1,1,1,1,1,0] 1 3 [(2,(.bool (decide (bI≤1000000))))] (sl Kw 101 [] ⟨[],[],[some [2]],[]⟩ ⟨[],[],[]⟩ (trs 25 []) (tt k8 (tt k7 (tt k6 (tt k5 (tt k4 (tt k3 (tt k2 (tt k1 (tt k0 nn)))))))))))) (fun k8=>(lr 35 3 [1,1,1,1,1,1,1,0] 1 3 [(2,(.bool false))] (sl Kw 101 [] ⟨[],[],[some [2]],[]⟩ ⟨[],[],[]⟩ (trs 23 [false,false]) (tt k8 (tt k7 (tt k6 (tt k5 (tt k4 (tt k3 (tt k2 (tt k1 (tt k0 nn)))))))))))))) (fun k7=>(lr 35 3 [1,1,1,1,1,1,1,0] 1 3 [(2,(.bool false))] (sl Kw 86 [] ⟨[],[],[some [2]],[]⟩ ⟨[],[],[]⟩ (trs 20 [false,false,false]) (tt k7 (tt k6 (tt k5 (tt k4 (tt k3 (tt k2 (tt k1 (tt k0 nn))))))))))))) (fun k6=>(lr 35 3 [1,1,1,1,1,1,1,0] 1 3 [(2,(.bool false))] (sl Kw 86 [] ⟨[],[],[some [2]],[]⟩ ⟨[],[],[]⟩ (trs 18 [false,false,false,false,false]) (tt k6 (tt k5 (tt k4 (tt k3 (tt k2 (tt k1 (tt k0 nn)))))))))))) (fun k5=>(lr 35 3 [1,1,1,1,1,1,1,0] 1 3 [(2,(.bool false))] (sl Kw 71 [] ⟨[],[],[some [2]],[]⟩ ⟨[],[],[]⟩ (trs 15 [false,false,false,false,false,false]) (tt k5 (tt k4 (tt k3 (tt k2 (tt k1 (tt k0 nn))))))))))) (fun k4=>(lr 35 3 [1,1,1,1,1,1,1,0] 1 3 [(2,(.bool false))] (sl Kw 71 [] ⟨[],[],[some [2]],[]⟩ ⟨[],[],[]⟩ (trs 13 [false,false,false,false,false,false,false,false]) (tt k4 (tt k3 (tt k2 (tt k1 (tt k0 nn)))))))))) (fun k3=>(lr 35 3 [1,1,1,1,1,1,1,0] 1 3 [(2,(.bool false))] (sl Kw 56 [] ⟨[],[],[some [2]],[]⟩ ⟨[],[],[]⟩ (trs 10 [false,false,false,false,false,false,false,false,false]) (tt k3 (tt k2 (tt k1 (tt k0 nn))))))))) (fun k2=>(lr 35 3 [1,1,1,1,1,1,1,0] 1 3 [(2,(.bool false))] (sl Kw 56 [] ⟨[],[],[some [2]],[]⟩ ⟨[],[],[]⟩ (trs 8 [false,false,false,false,false,false,false,false,false,false,false]) (tt k2 (tt k1 (tt k0 nn)))))))) (fun k1=>(lr 35 3 [1,1,1,1,1,1,1,0] 1 3 [(2,(.bool false))] (sl Kw 41 [] ⟨[],[],[some [2]],[]⟩ ⟨[],[],[]⟩ (trs 5 [false,false,false,false,false,false,false,false,false,false,false,false]) (tt k1 (tt k0 nn))))))) (fun k0=>(lr 35 3 [1,1,1,1,1,1,1,0] 1 3 [(2,(.bool false))] (sl Kw 41 [] ⟨[],[],[some [2]],[]⟩ ⟨[],[],[]⟩ [false,false,false,false,false,false,false,false,false,false,false,false,false,false,false,false,false] (tt k0 nn)))))
theorem v4i (aR:Int) (aP:Int) (aQ:Int) (bI:Int) (n:Nat) (vs:List AVal) (h:Yj (x5d aR aP aQ bI) n (y1h aR aP aQ bI)=.ret vs):Kv prog (Zy prog 120) (Zc prog 120 [(.agg [(.int .i64 aR),(.int .i64 aP),(.int .i64 aQ),(.int .i64 bI)])] true []) vs:=by have:=Zn (w3a aR aP aQ bI) n _ (x5e aR aP aQ bI);rwa [h] at this
inductive madS where
 | h0 (v16:Int) (aA:List Int)
 | h1 (v4:Int) (aN:List R4) (aX:List R2) (bF:Int) (bG:Int) (aV:Nat) (bE:List Int)
 | h2 (v4:Int) (v38:Int) (aN:List R4) (aX:List R2) (bF:Int) (bG:Int) (aV:Nat) (bE:List Int) (aC:Int) (cH:Int) (aL:List R2)
 | h3 (v1:Int) (v2:Int) (v71:List R2) (v72:Int) (v73:Int) (bX:List R2) (aU:Int) (aD:List R4) (bC:List R2) (bD:Int) (aV:Nat) (bE:List Int) (aC:List R2)
 | h4 (v2:Int) (v8:Int) (cL:Int) (bX:List R2) (aU:Int) (aD:List R4) (bC:List R2) (bD:Int) (bV:Int) (cF:Nat) (cK:List Int) (aL:List R2)
abbrev y8k (aD:List R4) (v8:Int) (v2:Int):=(aD.set (0+(tn v8)) (R4.mk (rd aD (0+(tn v8))).a (rd aD (0+(tn v8))).b v2 (rd aD (0+(tn v8))).d))
abbrev y8j (aA:List Int):=(Wf (Yx aA.length (cOf (Zz (Xv (Yx aA.length (cOf (Zz aA))))))))
def u3p :AFr:=⟨⟨29,0,true⟩,none,(.inRangeFunc 0::(Zd prog 121 [1,1,0,1,0] 1)),none,(Zy prog 15),Yd [(2,.nils),(3,(ii 0)),(4,(.ptr 1 0))]⟩
def u3o :=(y6j [(0,⟨.ready,none,29,Yd [(4,(.ptr 1 0))],[11],(Vr prog 121 [1,1,0,1,0,0]),(Vr prog 121 [1,1,0,1,0,1])⟩)])
abbrev y8i (aL:List R2) (l0:List R4) (v38:Int):=(aL++[(R2.mk (rd l0 (tn v38)).b (rd l0 (tn v38)).d)])
abbrev y8h (aD:List R4) (v1:Int) (v71:List R2) (v73:Int) (v2:Int):=(aD++[(R4.mk v1 (rd v71 (tn v73)).a v2 (rd v71 (tn v73)).b)])
def x3i (l0:List R4):ABlk:=⟨[(.dat l0.length (Zz l0))],99,none⟩
abbrev y8g (aA:List Int) (l0:List R4) (v16:Int):=(aA++[(rd l0 (tn v16)).a,(rd l0 (tn v16)).c])
def madC (l0:List R4):madS→Cfg
 | .h0 v16 aA=>⟨⟨34,0,true⟩,none,(Zd prog 156 [1,1,0,1,0,0,1,1,0,0,1,1,0,0] 0),none,(Zy prog 3),⟨Yd [(1,(.ptr 0 0)),(3,(.ptr 2 0)),(8,(.sl 1 0 1 (.un 1))),(9,(ii 1)),(10,(ii 0)),(14,(.dat l0.length (Zz l0))),(15,(ii (l0.length:Int))),(16,(ii v16))],Uy [⟨[(.sl 1 0 1 (.un 1))],171,none⟩,(x3i l0),⟨[(.sla 4 1 0 aA.length (.un 1))],93,none⟩,⟨[.nils,.nils,(ii 0),(ii 0)],200,none⟩,⟨rows aA.length (Zz aA),3,some ⟨1,aA.length,(Zz aA)⟩⟩] 0,5,[],true⟩,[⟨⟨29,0,true⟩,(Up prog 121 [1,1,0,0] 2),(Zd prog 121 [1,1,0,0] 1),none,(Zy prog 15),Yd [(2,.nils),(3,(ii 0)),(4,(.ptr 3 0)),(9,(.sl 1 0 1 (.un 1)))]⟩],.leaf⟩
 | .h1 v4 aN aX bF bG aV bE=>⟨⟨76,0,true⟩,none,(Zd prog 182 [1,0,0] 0),none,[],⟨Yd [(0,(.yld 0)),(1,(.ptr 2 0)),(2,(.ptr 4 0)),(4,(ii v4))],y0k [(1,⟨[(.sla 6 4 0 aN.length (.un 4)),(.dat aX.length (Zz aX)),(ii bF),(ii bG)],200,none⟩),(2,⟨[(.sla 3 1 0 aV (.un 1))],93,none⟩),(3,⟨rows bE.length (Zz bE),3,some ⟨1,bE.length,(Zz bE)⟩⟩),(4,⟨[(.sl 5 0 1 (.un 1))],171,none⟩),(5,(x3i l0)),(6,⟨rows aN.length (Zz aN),88,some ⟨4,aN.length,(Zz aN)⟩⟩)],7,[],true⟩,[u3p],u3o⟩
 | .h2 v4 v38 aN aX bF bG aV bE aC cH aL=>⟨⟨76,0,true⟩,none,(Zd prog 182 [1,0,0,1,0,0,1,0,1,0,0,1,1,0,0,1,1,0,0] 0),none,[],⟨Yd [(0,(.yld 0)),(1,(.ptr 2 0)),(2,(.ptr 4 0)),(4,(ii v4)),(5,(.ptr 6 0)),(6,(ii 0)),(29,(.sl 5 0 1 (.un 1))),(30,(ii 1)),(31,(ii 0)),(36,(.dat l0.length (Zz l0))),(37,(ii (l0.length:Int))),(38,(ii v38))],y0k [(1,⟨[(.sla 9 4 0 aN.length (.un 4)),(.dat aX.length (Zz aX)),(ii bF),(ii bG)],200,none⟩),(2,⟨[(.sla 3 1 0 aV (.un 1))],93,none⟩),(3,⟨rows bE.length (Zz bE),3,some ⟨1,bE.length,(Zz bE)⟩⟩),(4,⟨[(.sl 5 0 1 (.un 1))],171,none⟩),(5,(x3i l0)),(6,⟨[(ii aC),(ii cH),(.sl 7 0 1 (.ex 1))],205,none⟩),(7,⟨[(.sla 8 2 0 aL.length (.un 2))],180,none⟩),(8,⟨rows aL.length (Zz aL),183,some ⟨2,aL.length,(Zz aL)⟩⟩),(9,⟨rows aN.length (Zz aN),88,some ⟨4,aN.length,(Zz aN)⟩⟩)],10,[],true⟩,[u3p],u3o⟩
 | .h3 v1 v2 v71 v72 v73 bX aU aD bC bD aV bE aC=>⟨⟨94,0,true⟩,none,(Zd prog 158 [1,1,1,0,0] 0),none,[],⟨Yd [(0,(.ptr 0 0)),(1,(ii v1)),(2,(ii v2)),(71,(.dat v71.length (Zz v71))),(72,(ii v72)),(73,(ii v73))],y0k [(0,⟨[(.sla 7 4 0 aD.length (.un 4)),(.dat bC.length (Zz bC)),(ii bD),(ii v2)],200,none⟩),(2,⟨[(.sla 3 1 0 aV (.un 1))],93,none⟩),(3,⟨rows bE.length (Zz bE),3,some ⟨1,bE.length,(Zz bE)⟩⟩),(4,⟨[(.sl 5 0 1 (.un 1))],171,none⟩),(5,(x3i l0)),(6,⟨[(.dat aC.length (Zz aC))],180,none⟩),(7,⟨rows aD.length (Zz aD),88,some ⟨4,aD.length,(Zz aD)⟩⟩)],8,[],true⟩,[⟨⟨29,0,true⟩,(Up prog 121 [1,1,0,1,0,1,0,1] 5),(Zd prog 121 [1,1,0,1,0,1,0,1] 1),(some 1),[],Yd [(4,(.ptr 0 0)),(21,(ii v1)),(23,(ii v2)),(24,(.dat bX.length (Zz bX)))]⟩,⟨⟨76,0,true⟩,(Up prog 182 [1,0,0,1,0,0,1,1,0] 2),(Zd prog 182 [1,0,0,1,0,0,1,1,0] 1),none,[],Yd [(0,(.yld 1)),(1,(.ptr 2 0)),(2,(.ptr 4 0)),(4,(ii aU)),(72,(.yld 1)),(73,(.agg [(ii v1),(ii v2),(.sl 6 0 1 (.ex 1))]))]⟩,⟨⟨29,0,true⟩,none,(.inRangeFunc 1::(Zd prog 121 [1,1,0,1,0] 1)),none,(Zy prog 15),Yd [(2,.nils),(3,(ii 0)),(4,(.ptr 0 0))]⟩],(y6j [(1,⟨.busy,none,29,Yd [(4,(.ptr 0 0))],[11],(Vr prog 121 [1,1,0,1,0,0]),(Vr prog 121 [1,1,0,1,0,1])⟩)])⟩
 | .h4 v2 v8 cL bX aU aD bC bD bV cF cK aL=>⟨⟨94,0,true⟩,none,(Zd prog 158 [0,1,0,0,1,0,0] 0),none,[],⟨Yd [(0,(.ptr 0 0)),(2,(ii v2)),(8,(ii v8))],y0k [(0,⟨[(.sla 1 4 0 aD.length (.un 4)),(.dat bC.length (Zz bC)),(ii bD),(ii bV)],200,none⟩),(1,⟨rows aD.length (Zz aD),88,some ⟨4,aD.length,(Zz aD)⟩⟩),(3,⟨[(.sla 4 1 0 cF (.un 1))],93,none⟩),(4,⟨rows cK.length (Zz cK),3,some ⟨1,cK.length,(Zz cK)⟩⟩),(5,⟨[(.sl 6 0 1 (.un 1))],171,none⟩),(6,(x3i l0)),(7,⟨[(.dat aL.length (Zz aL))],180,none⟩)],8,[],true⟩,[⟨⟨29,0,true⟩,(Up prog 121 [1,1,0,1,0,1,0,1] 5),(Zd prog 121 [1,1,0,1,0,1,0,1] 1),(some 2),[],Yd [(4,(.ptr 0 0)),(21,(ii cL)),(23,(ii v2)),(24,(.dat bX.length (Zz bX)))]⟩,⟨⟨76,0,true⟩,(Up prog 182 [1,0,0,1,0,0,1,1,0] 2),(Zd prog 182 [1,0,0,1,0,0,1,1,0] 1),none,[],Yd [(0,(.yld 2)),(1,(.ptr 3 0)),(2,(.ptr 5 0)),(4,(ii aU)),(72,(.yld 2)),(73,(.agg [(ii cL),(ii v2),(.sl 7 0 1 (.ex 1))]))]⟩,⟨⟨29,0,true⟩,none,(.inRangeFunc 2::(Zd prog 121 [1,1,0,1,0] 1)),none,(Zy prog 15),Yd [(2,.nils),(3,(ii 0)),(4,(.ptr 0 0))]⟩],(y6j [(2,⟨.busy,none,29,Yd [(4,(.ptr 0 0))],[11],(Vr prog 121 [1,1,0,1,0,0]),(Vr prog 121 [1,1,0,1,0,1])⟩)])⟩
def madN0 :List (Option (List Nat)):=[some [1,3,8,9,10,14,15,16],some [2,3,4,9]]
def madM0 :List (Option (List Nat)):=[]
def u7s :List (Option (List Nat)):=[some [0,1,2,4],some [2,3,4]]
def u7t :List (Option (List Nat)):=[some [4],none,none,none,none,none,none]
def v7r :List (Option (List Nat)):=[some [0,1,2,4,5,6,29,30,31,36,37,38],some [2,3,4]]
def v7t :List (Option (List Nat)):=[some [4],none,none,none,none,none,none,none,none,none]
def v7q :List (Option (List Nat)):=[some [0,1,2,71,72,73],some [4,21,23,24],some [0,1,2,4,72,73],some [2,3,4]]
def v7s :List (Option (List Nat)):=[none,some [4],none,none,none,none,none,none]
def madN4 :List (Option (List Nat)):=[some [0,2,8],some [4,21,23,24],some [0,1,2,4,72,73],some [2,3,4]]
def madM4 :List (Option (List Nat)):=[none,none,some [4],none,none,none,none,none]
def Xi (l0:List R4):madS→Xf madS
 | .h0 v16 aA=>(bif (decide (v16<(l0.length:Int))) then (bif ((decide (0≤v16∧v16<(l0.length:Int)))&&true) then (bif (Nat.beq 1 1&&((decide (0+aA.length=aA.length))&&decide ((aA.length+2+1)*(8+1)≤Ju))) then (.to (.h0 (wrap .i64 (v16+1)) (aA++[(rd l0 v16.toNat).a,(rd l0 v16.toNat).c]))) else .stuck) else .stuck) else (bif (decide (aA.length<4611686018427387904)) then (bif (decide (aA.length=aA.length)) then (.to (.h1 1 ([]:List R4) ([]:List R2) 0 0 (v3e (Yx aA.length (cOf (Zz (Xv (Yx aA.length (cOf (Zz aA)))))))) (Wf (Yx aA.length (cOf (Zz (Xv (Yx aA.length (cOf (Zz aA)))))))))) else .stuck) else .stuck))
 | .h1 v4 aN aX bF bG aV bE=>(bif (decide (v4<((aV:Nat):Int))) then (bif ((decide (0≤(wrap .i64 (v4 - 1))∧(wrap .i64 (v4 - 1))<((aV:Nat):Int)))&&true) then (bif (decide ((0+(Int.toNat (wrap .i64 (v4 - 1))))<bE.length)) then (bif ((decide (0≤v4∧v4<((aV:Nat):Int)))&&true) then (bif (decide ((0+v4.toNat)<bE.length)) then (.to (.h2 v4 0 aN aX bF bG aV bE (rd bE (0+(Int.toNat (wrap .i64 (v4 - 1))))) (rd bE (0+v4.toNat)) ([]:List R2))) else .stuck) else .stuck) else .stuck) else .stuck) else (bif (decide ((aN.length:Int)>400)) then (.ret [.nils,(.int .i64 4)]) else (.ret [(.dat aN.length (Zz aN)),(.int .i64 0)])))
 | .h2 v4 v38 aN aX bF bG aV bE aC cH aL=>(bif (decide (v38<(l0.length:Int))) then (bif ((decide (0≤v38∧v38<(l0.length:Int)))&&true) then (bif (decide ((rd l0 v38.toNat).a ≤aC)) then (bif (decide (aC<(rd l0 v38.toNat).c)) then (bif (Nat.beq 2 2&&((decide (0+aL.length=aL.length))&&decide ((aL.length+1+1)*(16+1)≤Ju))) then (.to (.h2 v4 (wrap .i64 (v38+1)) aN aX bF bG aV bE aC cH (aL++[(R2.mk (rd l0 v38.toNat).b (rd l0 v38.toNat).d)]))) else .stuck) else (.to (.h2 v4 (wrap .i64 (v38+1)) aN aX bF bG aV bE aC cH aL))) else (.to (.h2 v4 (wrap .i64 (v38+1)) aN aX bF bG aV bE aC cH aL))) else .stuck) else (bif (y3f (cvT aL)) then (bif (decide ((((Xr (cvT aL)).length :Nat):Int)>0)) then (bif (bG == aC) then (bif (Vn (cvT aX) (cvT (Xr (cvT aL)))) then (bif (Ko (cvT aX) (cvT (Xr (cvT aL)))) then (.to (.h4 cH bF aC (Xr (cvT aL)) v4 aN aX bF bG aV bE aL)) else (.to (.h3 aC cH (Xr (cvT aL)) (((Xr (cvT aL)).length :Nat):Int) 0 (Xr (cvT aL)) v4 aN (Xr (cvT aL)) (aN.length:Int) aV bE aL))) else .stuck) else (.to (.h3 aC cH (Xr (cvT aL)) (((Xr (cvT aL)).length :Nat):Int) 0 (Xr (cvT aL)) v4 aN (Xr (cvT aL)) (aN.length:Int) aV bE aL))) else (.to (.h3 aC cH (Xr (cvT aL)) (((Xr (cvT aL)).length :Nat):Int) 0 (Xr (cvT aL)) v4 aN (Xr (cvT aL)) (aN.length:Int) aV bE aL))) else .stuck))
 | .h3 v1 v2 v71 v72 v73 bX aU aD bC bD aV bE aC=>(bif (decide (v73<v72)) then (bif ((decide (0≤v73∧v73<(v71.length:Int)))&&true) then (bif (Nat.beq 4 4&&((decide (0+aD.length=aD.length))&&decide ((aD.length+1+1)*(32+1)≤Ju))) then (.to (.h3 v1 v2 v71 v72 (wrap .i64 (v73+1)) bX aU (aD++[(R4.mk v1 (rd v71 v73.toNat).a v2 (rd v71 v73.toNat).b)]) bC bD aV bE aC)) else .stuck) else .stuck) else (.to (.h1 (wrap .i64 (aU+1)) aD bC bD v2 aV bE)))
 | .h4 v2 v8 cL bX aU aD bC bD bV cF cK aL=>(bif (decide (v8<(aD.length:Int))) then (bif ((decide (0≤v8∧v8<(aD.length:Int)))&&true) then (bif (decide ((0+v8.toNat)<aD.length)) then (.to (.h4 v2 (wrap .i64 (v8+1)) cL bX aU (aD.set (0+v8.toNat) (R4.mk (rd aD (0+v8.toNat)).a (rd aD (0+v8.toNat)).b v2 (rd aD (0+v8.toNat)).d)) bC bD bV cF cK aL)) else .stuck) else .stuck) else (.to (.h1 (wrap .i64 (aU+1)) aD bC bD v2 cF cK)))
def x0q (l0:List R4):Xf madS:=(.to (.h0 0 ([]:List Int)))
theorem w5a (l0:List R4): ∀s,Xq prog (Zy prog 121) (madC l0) (madC l0 s) (Xi l0 s)
 | .h0 v16 aA=>(lb (fun k0=>(lo fun o0=>(lo fun o1=>(sl Kw 32 [] ⟨[0,1,2,3,7],[],madN0,madM0⟩ ⟨[],[.keep,.keep,.cells [.len (y8g aA l0 v16).length],.keep,.rowed 1 (y8g aA l0 v16).length (Zz (y8g aA l0 v16))],[]⟩ [true] (pp (xL (aA.length+2) (y8g aA l0 v16).length) (pp (xL (aA.length+2) (y8g aA l0 v16).length) (pp (xS (aA.length+2) (Zi (Zz aA) 0 aA.length 1 [(ii (rd l0 (tn v16)).a),(ii (rd l0 (tn v16)).c)]) (Zz (y8g aA l0 v16))) (pp (pp (xF (Zi (Zz aA) 0 aA.length 1 [(ii (rd l0 (tn v16)).a),(ii (rd l0 (tn v16)).c)])) nn) (ww o1 (ww o0 (tt k0 nn))))))))))) (fun k0=>(lo fun o0=>(lo fun o1=>(sl Kw 46 [(88,4,Zz ([]:List R4))] ⟨[5,3,2,4,0,1,6],[],u7s,u7t⟩ ⟨[],[.keep,.cells [.grow 6 4,.list 0 (Zz ([]:List R2)),.keep,.keep],.keep,.rowed 1 (y8j aA).length (Zz (y8j aA)),.keep,.keep,.keep],[]⟩ (bl 2 0) (pp (xL aA.length (y8j aA).length (by first | exact z1w _ _ | exact Vy rfl)) (pp (xS aA.length (Zz (y8j aA)) (Zz (y8j aA))) (pp (fl (y8j aA) (fl ([]:List R4) nn)) (pp (pp (xG (Nat.beq 1 1)) (pp (xG (Nat.beq 1 1)) (pp (xG (Nat.beq 0 0)) (pp (xG (decide (aA.length=aA.length))) (pp (xG (isI (Zz (Xv (Yx aA.length (cOf (Zz aA))))))) (xG (decide (aA.length<4611686018427387904)))))))) (pp (pp (xG (Nat.beq 1 1)) (pp (xG (Nat.beq 1 1)) (pp (xG (Nat.beq 0 0)) (pp (xG (decide (aA.length=aA.length))) (pp (xG (isI (Zz aA))) (xG (decide (aA.length<4611686018427387904)))))))) (tt k0 nn)))))))))))
 | .h1 v4 aN aX bF bG aV bE=>(lb (fun k0=>(lo fun o0=>(lo fun o1=>(lo fun o2=>(lo fun o3=>(sl Kw 48 [(183,2,Zz ([]:List R2))] ⟨[0,1,2,3,4,5,7,8,9,6],[],v7r,v7t⟩ ⟨[],(kpB 7 [.cells [.grow 8 2],.keep,.keep]),[]⟩ (trs 3 []) (pp (fl bE (fl ([]:List R2) (fl aN nn))) (ww o3 (ww o2 (ww o1 (ww o0 (tt k0 nn)))))))))))) (fun k0=>(lb (fun k1=>(lr 29 3 [1,1,1,1,1,1,1,0] 1 15 [(2,.nils),(3,(ii 4))] (sl Kw 43 [] ⟨[],[],[some [2,3]],[]⟩ ⟨[],[],[]⟩ (bl 2 2) (tt k1 (tt k0 nn))))) (fun k1=>(lr 29 3 [1,1,1,1,1,1,1,0] 1 15 [(2,(.dat aN.length (Zz aN))),(3,(ii 0))] (sl Kw 48 [] ⟨[],[6],[some [2,3]],[]⟩ ⟨[(2,.frz aN.length aN.length (Zz aN) (Zz aN))],[],[]⟩ (bl 2 0) (pp (xZ (z6i 4 4 0 aN.length aN.length (Zz aN)) aN.length (Zz aN)) (pp (xL aN.length aN.length) (pp (xS aN.length (Zz aN) (Zz aN)) (pp (fl aN nn) (tt k1 (tt k0 nn))))))))))))
 | .h2 v4 v38 aN aX bF bG aV bE aC cH aL=>(lb (fun k0=>(lo fun aG=>(lb (fun k1=>(lb (fun k2=>(lo fun o0=>(sl Kw 39 [] ⟨[0,1,2,3,4,5,6,7,12,9],[],v7r,v7t⟩ ⟨[],(kpB 7 [.cells [.len (y8i aL l0 v38).length],.rowed 2 (y8i aL l0 v38).length (Zz (y8i aL l0 v38)),.keep]),[]⟩ (trs 7 []) (pp (xL (aL.length+1) (y8i aL l0 v38).length) (pp (xL (aL.length+1) (y8i aL l0 v38).length) (pp (xS (aL.length+1) (Zi (Zz aL) 0 aL.length 2 [(ii (rd l0 (tn v38)).b),(ii (rd l0 (tn v38)).d)]) (Zz (y8i aL l0 v38))) (pp (fl bE (pp (xF (Zi (Zz aL) 0 aL.length 2 [(ii (rd l0 (tn v38)).b),(ii (rd l0 (tn v38)).d)])) (fl aN nn))) (ww o0 (tt k2 (tt k1 (ww aG (tt k0 nn)))))))))))) (fun k2=>(sl Kw 39 [] ⟨(List.range 10),[],v7r,v7t⟩ ⟨[],[],[]⟩ (trs 6 [false]) (pp (fl bE (fl aL (fl aN nn))) (tt k2 (tt k1 (ww aG (tt k0 nn))))))))) (fun k1=>(sl Kw 39 [] ⟨(List.range 10),[],v7r,v7t⟩ ⟨[],[],[]⟩ (bl 7 1) (pp (fl bE (fl aL (fl aN nn))) (tt k1 (ww aG (tt k0 nn))))))))) (fun k0=>(Xa (sl Kw (C':=⟨⟨29,0,true⟩,(Up prog 121 [1,1,0,1,0,1,0,0] 4),(Zd prog 121 [1,1,0,1,0,1,0,0] 1),(some 0),[],⟨Yd [(4,(.ptr 1 0)),(5,(.ptr 3 0)),(16,(.dat aL.length (Zz aL)))],y0k [(1,⟨[(.sla 2 4 0 aN.length (.un 4)),(.dat aX.length (Zz aX)),(ii bF),(ii bG)],200,none⟩),(2,⟨rows aN.length (Zz aN),88,some ⟨4,aN.length,(Zz aN)⟩⟩),(3,⟨[(ii aC),(ii cH),(.sl 4 0 1 (.ex 1))],205,none⟩),(4,⟨[(.dat aL.length (Zz aL))],180,none⟩),(5,⟨[(.sla 6 1 0 aV (.un 1))],93,none⟩),(6,⟨rows bE.length (Zz bE),3,some ⟨1,bE.length,(Zz bE)⟩⟩),(7,⟨[(.sl 8 0 1 (.un 1))],171,none⟩),(8,⟨[(.dat l0.length (Zz l0))],99,none⟩)],9,[],true⟩,[⟨⟨76,0,true⟩,(Up prog 182 [1,0,0,1,0,0,1,1,0] 2),(Zd prog 182 [1,0,0,1,0,0,1,1,0] 1),none,[],Yd [(0,(.yld 0)),(1,(.ptr 5 0)),(2,(.ptr 7 0)),(4,(ii v4)),(72,(.yld 0)),(73,(.agg [(ii aC),(ii cH),(.sl 4 0 1 (.ex 1))]))]⟩,⟨⟨29,0,true⟩,none,(.inRangeFunc 0::(Zd prog 121 [1,1,0,1,0] 1)),none,(Zy prog 15),Yd [(2,.nils),(3,(ii 0)),(4,(.ptr 1 0))]⟩],(y6j [(0,⟨.busy,none,29,Yd [(4,(.ptr 1 0))],[11],(Vr prog 121 [1,1,0,1,0,0]),(Vr prog 121 [1,1,0,1,0,1])⟩)])⟩) 37 [] ⟨[0,1,9,10,7,2,3,4,5],[8],[some [4,5,16],some [0,1,2,4,72,73],some [2,3,4]],[some [4],none,none,none,none,none,none,none,none]⟩ ⟨[(16,.frz aL.length aL.length (Zz aL) (Zz aL))],[.keep,.keep,.keep,.keep,.cells [.frz aL.length aL.length (Zz aL) (Zz aL)],.keep,.keep,.keep,.keep],[]⟩ (bl 2 0) (pp (xZ (z6i 2 2 0 aL.length aL.length (Zz aL)) aL.length (Zz aL)) (pp (xL aL.length aL.length) (pp (xS aL.length (Zz aL) (Zz aL)) (pp (xZ (z6i 2 2 0 aL.length aL.length (Zz aL)) aL.length (Zz aL)) (pp (xL aL.length aL.length) (pp (xS aL.length (Zz aL) (Zz aL)) (pp (fl aN (fl bE nn)) (pp (fl aL nn) (tt k0 nn)))))))))) (lo fun aG=>(lb (fun k1=>(lb (fun k2=>(lo fun cG=>(lb (fun k3=>(sl Kw 49 [] ⟨[1,2,0,5,6,7,8,4],[],madN4,madM4⟩ ⟨[],[],[]⟩ (trs 13 []) (pp (fl aN (fl bE nn)) (tt k3 (pp (pp (xr aX) (pp (xI R2 (Xr (cvT aL)).length (Zz (Xr (cvT aL)))) (xw cG))) (tt k2 (tt k1 (pp (pp (xr aL) (xw aG)) nn)))))))) (fun k3=>(sl Kw 69 [] ⟨[1,0,5,6,7,8,4,2],[],v7q,v7s⟩ ⟨[],[],[]⟩ (trs 12 [false]) (pp (fl bE (fl aN nn)) (tt k3 (pp (pp (xr aX) (pp (xI R2 (Xr (cvT aL)).length (Zz (Xr (cvT aL)))) (xw cG))) (tt k2 (tt k1 (pp (pp (xr aL) (xw aG)) nn))))))))))) (fun k2=>(sl Kw 69 [] ⟨[1,0,5,6,7,8,4,2],[],v7q,v7s⟩ ⟨[],[],[]⟩ (trs 6 (bl 7 0)) (pp (fl bE (fl aN nn)) (tt k2 (tt k1 (pp (pp (xr aL) (xw aG)) nn)))))))) (fun k1=>(sl Kw 69 [] ⟨[1,0,5,6,7,8,4,2],[],v7q,v7s⟩ ⟨[],[],[]⟩ (bl 13 0) (pp (fl bE (fl aN nn)) (tt k1 (pp (pp (xr aL) (xw aG)) nn))))))))))
 | .h3 v1 v2 v71 v72 v73 bX aU aD bC bD aV bE aC=>(lb (fun k0=>(lo fun o0=>(lo fun o1=>(sl Kw 23 [] ⟨[0,1,2,3,4,5,6,10],[],v7q,v7s⟩ ⟨[],[.cells [.len (y8h aD v1 v71 v73 v2).length,.keep,.keep,.keep],.keep,.keep,.keep,.keep,.keep,.keep,.rowed 4 (y8h aD v1 v71 v73 v2).length (Zz (y8h aD v1 v71 v73 v2))],[]⟩ [true] (pp (xL (aD.length+1) (y8h aD v1 v71 v73 v2).length) (pp (xL (aD.length+1) (y8h aD v1 v71 v73 v2).length) (pp (xS (aD.length+1) (Zi (Zz aD) 0 aD.length 4 [(ii v1),(ii (rd v71 (tn v73)).a),(ii v2),(ii (rd v71 (tn v73)).b)]) (Zz (y8h aD v1 v71 v73 v2))) (pp (fl bE (pp (xF (Zi (Zz aD) 0 aD.length 4 [(ii v1),(ii (rd v71 (tn v73)).a),(ii v2),(ii (rd v71 (tn v73)).b)])) nn)) (ww o1 (ww o0 (tt k0 nn))))))))))) (fun k0=>(sl Kw 22 [] ⟨[1,0,2,3,4,5,7],[],u7s,u7t⟩ ⟨[],[],[]⟩ (bl 2 0) (pp (fl bE (fl aD nn)) (tt k0 nn)))))
 | .h4 v2 v8 cL bX aU aD bC bD bV cF cK aL=>(lb (fun k0=>(lo fun o0=>(lo fun o1=>(sl Kw 33 [] ⟨(List.range 8),[],madN4,madM4⟩ ⟨[],[.cells [.len (y8k aD v8 v2).length,.keep,.keep,.keep],.rowed 4 (y8k aD v8 v2).length (Zz (y8k aD v8 v2)),.keep,.keep,.keep,.keep,.keep,.keep],[]⟩ [true] (pp (xL aD.length (y8k aD v8 v2).length) (pp (xL aD.length (y8k aD v8 v2).length) (pp (xS aD.length (Xn (Zz aD) (0+(tn v8)) 2 [(ii v2)]) (Zz (y8k aD v8 v2))) (pp (pp (xF (Xn (Zz aD) (0+(tn v8)) 2 [(ii v2)])) (fl cK nn)) (ww o1 (ww o0 (tt k0 nn))))))))))) (fun k0=>(sl Kw 36 [] ⟨[2,0,3,4,5,6,1],[],u7s,u7t⟩ ⟨[],[],[]⟩ (bl 2 0) (pp (fl cK (fl aD nn)) (tt k0 nn)))))
theorem x7o (l0:List R4):Xq prog (Zy prog 121) (madC l0) (Zc prog 121 [(.dat l0.length (Zz l0))] true []) (x0q l0):=(sl Kw 56 [(3,1,Zz ([]:List Int))] ⟨[2,1,3,0,4],[],madN0,madM0⟩ ⟨[],[.keep,.keep,.cells [.grow 4 1],.keep,.keep],[]⟩ [true] (pp (fl ([]:List Int) nn) nn))
theorem v7p (l0:List R4) (n:Nat) (vs:List AVal) (h:Yj (Xi l0) n (x0q l0)=.ret vs):Kv prog (Zy prog 121) (Zc prog 121 [(.dat l0.length (Zz l0))] true []) vs:=by have:=Zn (w5a l0) n _ (x7o l0);rwa [h] at this
end Go.Am
end
