/- A part of a proof: several texts in one. -/
import Derived.Test.YtmanggcjimaehaaGreatLd2
import Derived.Sort.AssemblyPlain
import Derived.Lib.BitFns
import Derived.Shelf.GgSortFunc.InsertionK
import Derived.Shelf.Sort.Plain
import Derived.Ground.Names2Prog
import Derived.Shelf.Slices.CompactI
import Derived.Shelf.Slices.SearchI
import Derived.Shelf.Slices.Cells
import Derived.Shelf.Slices.In.SortNone
import Derived.Shelf.SlSortCmp.WholeK
import Derived.Ground.SlsfProg
import Derived.Test.YtmanggcjimaehaaGreatProg
import Derived.Shelf.SlSortCmp.NoneTotal
set_option maxRecDepth 1000000
set_option maxHeartbeats 8000000
set_option linter.unusedVariables false
set_option linter.unusedSimpArgs false
noncomputable section
namespace Go.Am
open Go.Proofs.Tryz
open Go.Proofs
inductive rsortS where
 | h0 (v3:List Int) (v4:Int)
 | h1 (v3:List Int) (v4:Int) (v5:Int)
abbrev Ja (v3:List Int) (v5:Int) (l0:List Int) (v4:Int):=((v4v (v3++[0]) (0+(tn (wr (v5+1)))) (Nat.min ((v3.length+1) - (tn v5)) ((v3.length+1) - (tn (wr (v5+1))))) (Wc (v3++[0]) (0+(tn v5)) ((v3.length+1) - (tn v5)))).set (0+(tn v5)) (rd l0 (tn v4)))
abbrev Kn (v3:List Int):=(Zi (Zz v3) 0 v3.length 1 [(ii 0)])
abbrev y2l (v3:List Int) (v5:Int):=(Nat.min ((v3.length+1) - (tn v5)) ((v3.length+1) - (tn (wr (v5+1)))))
def v0f (l0:List Int):rsortS→Cfg
 | .h0 v3 v4=>⟨⟨63,0,true⟩,none,(Zd prog 70 [1,1,0,1,0,0] 0),none,(Zy prog 3),⟨Yd [(0,(.dat l0.length (Zz l0))),(3,(.sla 0 1 0 v3.length (.un 1))),(4,(ii v4))],Uw [⟨rows v3.length (Zz v3),3,some ⟨1,v3.length,(Zz v3)⟩⟩] 0,1,[],true⟩,[],.leaf⟩
 | .h1 v3 v4 v5=>⟨⟨63,0,true⟩,none,(Zd prog 70 [1,1,0,1,0,0,1,0,0,1,0,0,0] 0),none,(Zy prog 3),⟨Yd [(0,(.dat l0.length (Zz l0))),(3,(.sla 0 1 0 v3.length (.un 1))),(4,(ii v4)),(5,(ii v5))],Uw [⟨rows v3.length (Zz v3),3,some ⟨1,v3.length,(Zz v3)⟩⟩] 0,1,[],true⟩,[],.leaf⟩
def x0t :List (Option (List Nat)):=[some [0,3,4]]
def x0u :List (Option (List Nat)):=[]
def v0d :List (Option (List Nat)):=[some [0,3,4,5]]
def v0e :List (Option (List Nat)):=[]
def Vo (l0:List Int):rsortS→Xb rsortS
 | .h0 v3 v4=>(bif (decide (v4<(l0.length:Int))) then (.to (.h1 v3 v4 (v3.length:Int))) else (.ret [(.dat v3.length (Zz v3))]))
 | .h1 v3 v4 v5=>(bif (decide (v5>0)) then (bif ((decide (0≤(IntKind.wrap .i64 (v5 - 1))∧(IntKind.wrap .i64 (v5 - 1))<(v3.length:Int)))&&true) then (bif (decide ((0+(Int.toNat (IntKind.wrap .i64 (v5 - 1))))<v3.length)) then (bif ((decide (0≤v4∧v4<(l0.length:Int)))&&true) then (bif (decide ((rd v3 (0+(Int.toNat (IntKind.wrap .i64 (v5 - 1)))))>(rd l0 v4.toNat))) then (.to (.h1 v3 v4 (IntKind.wrap .i64 (v5 - 1)))) else (bif ((rd v3 (0+(Int.toNat (IntKind.wrap .i64 (v5 - 1))))) == (rd l0 v4.toNat)) then (.to (.h0 v3 (IntKind.wrap .i64 (v4+1)))) else (bif (Nat.beq 1 1&&((decide (0+v3.length=v3.length))&&decide ((v3.length+1+1)*(8+1)≤Ju))) then (bif (true&&((decide (0≤(IntKind.wrap .i64 (v5+1))))&&(decide ((v3.length+1)≤(v3.length+1))&&decide ((Int.toNat (IntKind.wrap .i64 (v5+1)))≤(v3.length+1))))) then (bif (true&&((decide (0≤v5))&&(decide ((v3.length+1)≤(v3.length+1))&&decide (v5.toNat≤(v3.length+1))))) then (bif (decide ((0+v5.toNat)+((v3.length+1) - v5.toNat)≤(v3.length+1))) then (bif (decide ((0+(Int.toNat (IntKind.wrap .i64 (v5+1))))+((v3.length+1) - (Int.toNat (IntKind.wrap .i64 (v5+1))))≤(v3.length+1))) then (bif ((decide (0≤v5∧v5<(((v3.length+1):Nat):Int)))&&true) then (bif (decide ((0+v5.toNat)<(v3.length+1))) then (.to (.h0 ((v4v (v3++[0]) (0+(Int.toNat (IntKind.wrap .i64 (v5+1)))) (Nat.min ((v3.length+1) - v5.toNat) ((v3.length+1) - (Int.toNat (IntKind.wrap .i64 (v5+1))))) (Wc (v3++[0]) (0+v5.toNat) ((v3.length+1) - v5.toNat))).set (0+v5.toNat) (rd l0 v4.toNat)) (IntKind.wrap .i64 (v4+1)))) else .stuck) else .stuck) else .stuck) else .stuck) else .stuck) else .stuck) else .stuck))) else .stuck) else .stuck) else .stuck) else (bif (Nat.beq 1 1&&((decide (0+v3.length=v3.length))&&decide ((v3.length+1+1)*(8+1)≤Ju))) then (bif (true&&((decide (0≤(IntKind.wrap .i64 (v5+1))))&&(decide ((v3.length+1)≤(v3.length+1))&&decide ((Int.toNat (IntKind.wrap .i64 (v5+1)))≤(v3.length+1))))) then (bif (true&&((decide (0≤v5))&&(decide ((v3.length+1)≤(v3.length+1))&&decide (v5.toNat≤(v3.length+1))))) then (bif (decide ((0+v5.toNat)+((v3.length+1) - v5.toNat)≤(v3.length+1))) then (bif (decide ((0+(Int.toNat (IntKind.wrap .i64 (v5+1))))+((v3.length+1) - (Int.toNat (IntKind.wrap .i64 (v5+1))))≤(v3.length+1))) then (bif ((decide (0≤v4∧v4<(l0.length:Int)))&&true) then (bif ((decide (0≤v5∧v5<(((v3.length+1):Nat):Int)))&&true) then (bif (decide ((0+v5.toNat)<(v3.length+1))) then (.to (.h0 ((v4v (v3++[0]) (0+(Int.toNat (IntKind.wrap .i64 (v5+1)))) (Nat.min ((v3.length+1) - v5.toNat) ((v3.length+1) - (Int.toNat (IntKind.wrap .i64 (v5+1))))) (Wc (v3++[0]) (0+v5.toNat) ((v3.length+1) - v5.toNat))).set (0+v5.toNat) (rd l0 v4.toNat)) (IntKind.wrap .i64 (v4+1)))) else .stuck) else .stuck) else .stuck) else .stuck) else .stuck) else .stuck) else .stuck) else .stuck))
def z4z (l0:List Int):Xb rsortS:=(.to (.h0 ([]:List Int) 0))
theorem x3l (l0:List Int): ∀s,Xv prog (Zy prog 70) (v0f l0) (v0f l0 s) (Vo l0 s)
 | .h0 v3 v4=>(lb (fun k0=>(sl Zp 21 [] ⟨[0],[],v0d,v0e⟩ ⟨[],[],[]⟩ [true] (pp (fl v3 nn) (tt k0 nn)))) (fun k0=>(lr 63 3 [1,1,1,1,1,1,1,0] 1 3 [(2,(.dat v3.length (Zz v3)))] (sl Zp 15 [] ⟨[],[0],[some [2]],[]⟩ ⟨[(2,.frz v3.length v3.length (Zz v3) (Zz v3))],[],[]⟩ [false] (pp (xZ (z6q 1 1 0 v3.length v3.length (Zz v3)) v3.length (Zz v3)) (pp (xL v3.length v3.length) (pp (xS v3.length (Zz v3) (Zz v3)) (pp (fl v3 nn) (tt k0 nn)))))))))
 | .h1 v3 v4 v5=>(lb (fun k0=>(lo fun aF=>(lo fun aW=>(lo fun bZ=>(lb (fun k1=>(sl Zp 13 [] ⟨[0],[],v0d,v0e⟩ ⟨[],[],[]⟩ (trs 11 []) (pp (fl v3 nn) (tt k1 (ww bZ (ww aW (ww aF (tt k0 nn)))))))) (fun k1=>(lb (fun k2=>(sl Zp 16 [] ⟨[0],[],x0t,x0u⟩ ⟨[],[],[]⟩ (trs 10 (bl 12 4094)) (pp (fl v3 nn) (tt k2 (ww bZ (ww aW (ww aF (tt k0 (tt k1 (ww bZ (ww aW (ww aF (tt k0 nn))))))))))))) (fun k2=>(lo fun o0=>(lo fun o1=>(lo fun o2=>(lo fun o3=>(lo fun o4=>(lo fun o5=>(lo fun o6=>(sl Zp 36 [] ⟨[2],[],x0t,x0u⟩ ⟨[(3,.len (Ja v3 v5 l0 v4).length)],[.rowed 1 (Ja v3 v5 l0 v4).length (Zz (Ja v3 v5 l0 v4))],[]⟩ (trs 10 (bl 12 2046)) (pp (xL (v3.length+1) (Ja v3 v5 l0 v4).length) (pp (xL (v3.length+1) (Ja v3 v5 l0 v4).length) (pp (xS (v3.length+1) (Xi (Jy (Kn v3) (0+(tn (wr (v5+1)))) (y2l v3 v5) (fun k=>(Kn v3) ((0+(tn v5))+k))) (0+(tn v5)) 0 [(ii (rd l0 (tn v4)))]) (Zz (Ja v3 v5 l0 v4))) (pp (pp (xF (Xi (Jy (Kn v3) (0+(tn (wr (v5+1)))) (y2l v3 v5) (fun k=>(Kn v3) ((0+(tn v5))+k))) (0+(tn v5)) 0 [(ii (rd l0 (tn v4)))])) nn) (ww o6 (ww o5 (ww bZ (pp (pp (xG (Nat.beq 1 1)) (pp (xG (Nat.beq 1 1)) (pp (xw o4) (pp (xG (Nat.beq 1 1)) (pp (xG (Nat.beq 1 1)) (pp (xG (decide ((0+(tn v5))+((v3.length+1) - (tn v5))≤(v3.length+1)))) (xG (x5f 1 ((v3.length+1) - (tn v5)) (fun k=>(Kn v3) ((0+(tn v5))+k)))))))))) (ww o2 (ww o1 (ww o0 (tt k2 (ww bZ (ww aW (ww aF (tt k0 (tt k1 (ww bZ (ww aW (ww aF (tt k0 nn))))))))))))))))))))))))))))))))))))) (fun k0=>(lo fun o0=>(lo fun o1=>(lo fun o2=>(lo fun o3=>(lo fun o4=>(lo fun o5=>(lo fun o6=>(lo fun o7=>(sl Zp 36 [] ⟨[2],[],x0t,x0u⟩ ⟨[(3,.len (Ja v3 v5 l0 v4).length)],[.rowed 1 (Ja v3 v5 l0 v4).length (Zz (Ja v3 v5 l0 v4))],[]⟩ (bl 22 0) (pp (xL (v3.length+1) (Ja v3 v5 l0 v4).length) (pp (xL (v3.length+1) (Ja v3 v5 l0 v4).length) (pp (xS (v3.length+1) (Xi (Jy (Kn v3) (0+(tn (wr (v5+1)))) (y2l v3 v5) (fun k=>(Kn v3) ((0+(tn v5))+k))) (0+(tn v5)) 0 [(ii (rd l0 (tn v4)))]) (Zz (Ja v3 v5 l0 v4))) (pp (pp (xF (Xi (Jy (Kn v3) (0+(tn (wr (v5+1)))) (y2l v3 v5) (fun k=>(Kn v3) ((0+(tn v5))+k))) (0+(tn v5)) 0 [(ii (rd l0 (tn v4)))])) nn) (ww o7 (ww o6 (ww o5 (pp (pp (xG (Nat.beq 1 1)) (pp (xG (Nat.beq 1 1)) (pp (xw o4) (pp (xG (Nat.beq 1 1)) (pp (xG (Nat.beq 1 1)) (pp (xG (decide ((0+(tn v5))+((v3.length+1) - (tn v5))≤(v3.length+1)))) (xG (x5f 1 ((v3.length+1) - (tn v5)) (fun k=>(Kn v3) ((0+(tn v5))+k)))))))))) (ww o2 (ww o1 (ww o0 (tt k0 (tt k0 nn))))))))))))))))))))))))
theorem x0s (l0:List Int):Xv prog (Zy prog 70) (v0f l0) (Zc prog 70 [(.dat l0.length (Zz l0))] true []) (z4z l0):=(sl Zp 15 [(3,1,Zz ([]:List Int))] ⟨[0],[],x0t,x0u⟩ ⟨[(3,.grow 0 1)],[],[]⟩ [] (pp (fl ([]:List Int) nn) nn))
theorem w5q (l0:List Int) (n:Nat) (vs:List AVal) (h:Yv (Vo l0) n (z4z l0)=.ret vs):Jt prog (Zy prog 70) (Zc prog 70 [(.dat l0.length (Zz l0))] true []) vs:=by have:=Ze (x3l l0) n _ (x0s l0);rwa [h] at this
inductive rcanS where
 | h0 (v5:List R2) (v6:Int)
def u8w (l0:List Int) (l1:List Bool):rcanS→Cfg
 | .h0 v5 v6=>⟨⟨61,0,true⟩,none,(Zd prog 142 [1,1,0,1,0,0] 0),none,(Zy prog 5),⟨Yd [(0,(.dat l0.length (Zz l0))),(1,(.dat l1.length (Zz l1))),(5,(.sla 0 2 0 v5.length (.un 2))),(6,(ii v6))],Uw [⟨rows v5.length (Zz v5),183,some ⟨2,v5.length,(Zz v5)⟩⟩] 0,1,[],true⟩,[],.leaf⟩
def x3y :List (Option (List Nat)):=[some [0,1,5,6]]
def x3z :List (Option (List Nat)):=[]
def Qh (l0:List Int) (l1:List Bool):rcanS→Xb rcanS
 | .h0 v5 v6=>(bif (decide ((IntKind.wrap .i64 (v6+1))<(l0.length:Int))) then (bif ((decide (0≤v6∧v6<(l1.length:Int)))&&true) then (bif (!(rd l1 v6.toNat)) then (.to (.h0 v5 (IntKind.wrap .i64 (v6+1)))) else (bif (decide ((v5.length:Int)>0)) then (bif ((decide (0≤(IntKind.wrap .i64 ((v5.length:Int) - 1))∧(IntKind.wrap .i64 ((v5.length:Int) - 1))<(v5.length:Int)))&&true) then (bif (decide ((0+(Int.toNat (IntKind.wrap .i64 ((v5.length:Int) - 1))))<v5.length)) then (bif ((decide (0≤v6∧v6<(l0.length:Int)))&&true) then (bif ((rd v5 (0+(Int.toNat (IntKind.wrap .i64 ((v5.length:Int) - 1))))).b == (rd l0 v6.toNat)) then (bif ((decide (0≤(IntKind.wrap .i64 (v6+1))∧(IntKind.wrap .i64 (v6+1))<(l0.length:Int)))&&true) then (.to (.h0 (v5.set (0+(Int.toNat (IntKind.wrap .i64 ((v5.length:Int) - 1)))) (R2.mk (rd v5 (0+(Int.toNat (IntKind.wrap .i64 ((v5.length:Int) - 1))))).a (rd l0 (Int.toNat (IntKind.wrap .i64 (v6+1)))))) (IntKind.wrap .i64 (v6+1)))) else .stuck) else (bif ((decide (0≤(IntKind.wrap .i64 (v6+1))∧(IntKind.wrap .i64 (v6+1))<(l0.length:Int)))&&true) then (bif (Nat.beq 2 2&&((decide (0+v5.length=v5.length))&&decide ((v5.length+1+1)*(16+1)≤Ju))) then (.to (.h0 (v5++[(R2.mk (rd l0 v6.toNat) (rd l0 (Int.toNat (IntKind.wrap .i64 (v6+1)))))]) (IntKind.wrap .i64 (v6+1)))) else .stuck) else .stuck)) else .stuck) else .stuck) else .stuck) else (bif ((decide (0≤v6∧v6<(l0.length:Int)))&&true) then (bif ((decide (0≤(IntKind.wrap .i64 (v6+1))∧(IntKind.wrap .i64 (v6+1))<(l0.length:Int)))&&true) then (bif (Nat.beq 2 2&&((decide (0+v5.length=v5.length))&&decide ((v5.length+1+1)*(16+1)≤Ju))) then (.to (.h0 (v5++[(R2.mk (rd l0 v6.toNat) (rd l0 (Int.toNat (IntKind.wrap .i64 (v6+1)))))]) (IntKind.wrap .i64 (v6+1)))) else .stuck) else .stuck) else .stuck))) else .stuck) else (.ret [(.dat v5.length (Zz v5))]))
def z7s (l0:List Int) (l1:List Bool):Xb rcanS:=(.to (.h0 ([]:List R2) 0))
theorem x7z (l0:List Int) (l1:List Bool): ∀s,Xv prog (Zy prog 142) (u8w l0 l1) (u8w l0 l1 s) (Qh l0 l1 s)
 | .h0 v5 v6=>(lb (fun k0=>(lo fun aF=>(lb (fun k1=>(sl Zp 30 [] ⟨[0],[],x3y,x3z⟩ ⟨[],[],[]⟩ (bl 2 3) (pp (fl v5 nn) (tt k1 (ww aF (tt k0 nn)))))) (fun k1=>(lb (fun k2=>(lo fun cK=>(lo fun cY=>(lo fun cZ=>(lb (fun k3=>(lo fun o0=>(sl Zp 53 [] ⟨[0],[],x3y,x3z⟩ ⟨[(5,.len (v5.set (0+(tn (wr ((v5.length:Int) - 1)))) (R2.mk (rd v5 (0+(tn (wr ((v5.length:Int) - 1))))).a (rd l0 (tn (wr (v6+1)))))).length)],[.rowed 2 (v5.set (0+(tn (wr ((v5.length:Int) - 1)))) (R2.mk (rd v5 (0+(tn (wr ((v5.length:Int) - 1))))).a (rd l0 (tn (wr (v6+1)))))).length (Zz (v5.set (0+(tn (wr ((v5.length:Int) - 1)))) (R2.mk (rd v5 (0+(tn (wr ((v5.length:Int) - 1))))).a (rd l0 (tn (wr (v6+1)))))))],[]⟩ (bl 14 16381) (pp (xL v5.length (v5.set (0+(tn (wr ((v5.length:Int) - 1)))) (R2.mk (rd v5 (0+(tn (wr ((v5.length:Int) - 1))))).a (rd l0 (tn (wr (v6+1)))))).length) (pp (xL v5.length (v5.set (0+(tn (wr ((v5.length:Int) - 1)))) (R2.mk (rd v5 (0+(tn (wr ((v5.length:Int) - 1))))).a (rd l0 (tn (wr (v6+1)))))).length) (pp (xS v5.length (Xi (Zz v5) (0+(tn (wr ((v5.length:Int) - 1)))) 1 [(ii (rd l0 (tn (wr (v6+1)))))]) (Zz (v5.set (0+(tn (wr ((v5.length:Int) - 1)))) (R2.mk (rd v5 (0+(tn (wr ((v5.length:Int) - 1))))).a (rd l0 (tn (wr (v6+1)))))))) (pp (pp (xF (Xi (Zz v5) (0+(tn (wr ((v5.length:Int) - 1)))) 1 [(ii (rd l0 (tn (wr (v6+1)))))])) nn) (ww cY (ww cK (ww o0 (tt k3 (ww cZ (ww cY (ww cK (tt k2 (tt k1 (ww aF (tt k0 nn)))))))))))))))))) (fun k3=>(lo fun o0=>(lo fun o1=>(sl Zp 41 [] ⟨[2],[],x3y,x3z⟩ ⟨[(5,.len (v5++[(R2.mk (rd l0 (tn v6)) (rd l0 (tn (wr (v6+1)))))]).length)],[.rowed 2 (v5++[(R2.mk (rd l0 (tn v6)) (rd l0 (tn (wr (v6+1)))))]).length (Zz (v5++[(R2.mk (rd l0 (tn v6)) (rd l0 (tn (wr (v6+1)))))]))],[]⟩ (bl 14 8189) (pp (xL (v5.length+1) (v5++[(R2.mk (rd l0 (tn v6)) (rd l0 (tn (wr (v6+1)))))]).length) (pp (xL (v5.length+1) (v5++[(R2.mk (rd l0 (tn v6)) (rd l0 (tn (wr (v6+1)))))]).length) (pp (xS (v5.length+1) (Zi (Zz v5) 0 v5.length 2 [(ii (rd l0 (tn v6))),(ii (rd l0 (tn (wr (v6+1)))))]) (Zz (v5++[(R2.mk (rd l0 (tn v6)) (rd l0 (tn (wr (v6+1)))))]))) (pp (pp (xF (Zi (Zz v5) 0 v5.length 2 [(ii (rd l0 (tn v6))),(ii (rd l0 (tn (wr (v6+1)))))])) nn) (ww o1 (ww o0 (ww cZ (tt k3 (ww cZ (ww cY (ww cK (tt k2 (tt k1 (ww aF (tt k0 nn)))))))))))))))))))))))) (fun k2=>(lo fun o0=>(lo fun o1=>(lo fun o2=>(sl Zp 41 [] ⟨[2],[],x3y,x3z⟩ ⟨[(5,.len (v5++[(R2.mk (rd l0 (tn v6)) (rd l0 (tn (wr (v6+1)))))]).length)],[.rowed 2 (v5++[(R2.mk (rd l0 (tn v6)) (rd l0 (tn (wr (v6+1)))))]).length (Zz (v5++[(R2.mk (rd l0 (tn v6)) (rd l0 (tn (wr (v6+1)))))]))],[]⟩ (bl 14 1) (pp (xL (v5.length+1) (v5++[(R2.mk (rd l0 (tn v6)) (rd l0 (tn (wr (v6+1)))))]).length) (pp (xL (v5.length+1) (v5++[(R2.mk (rd l0 (tn v6)) (rd l0 (tn (wr (v6+1)))))]).length) (pp (xS (v5.length+1) (Zi (Zz v5) 0 v5.length 2 [(ii (rd l0 (tn v6))),(ii (rd l0 (tn (wr (v6+1)))))]) (Zz (v5++[(R2.mk (rd l0 (tn v6)) (rd l0 (tn (wr (v6+1)))))]))) (pp (pp (xF (Zi (Zz v5) 0 v5.length 2 [(ii (rd l0 (tn v6))),(ii (rd l0 (tn (wr (v6+1)))))])) nn) (ww o2 (ww o1 (ww o0 (tt k2 (tt k1 (ww aF (tt k0 nn))))))))))))))))))))) (fun k0=>(lr 61 3 [1,1,1,1,1,1,1,0] 1 5 [(4,(.dat v5.length (Zz v5)))] (sl Zp 16 [] ⟨[],[0],[some [4]],[]⟩ ⟨[(4,.frz v5.length v5.length (Zz v5) (Zz v5))],[],[]⟩ [false] (pp (xZ (z6q 2 2 0 v5.length v5.length (Zz v5)) v5.length (Zz v5)) (pp (xL v5.length v5.length) (pp (xS v5.length (Zz v5) (Zz v5)) (pp (fl v5 nn) (tt k0 nn)))))))))
theorem x3x (l0:List Int) (l1:List Bool):Xv prog (Zy prog 142) (u8w l0 l1) (Zc prog 142 [(.dat l0.length (Zz l0)),(.dat l1.length (Zz l1))] true []) (z7s l0 l1):=(sl Zp 15 [(183,2,Zz ([]:List R2))] ⟨[0],[],x3y,x3z⟩ ⟨[(5,.grow 0 2)],[],[]⟩ [] (pp (fl ([]:List R2) nn) nn))
theorem v1f (l0:List Int) (l1:List Bool) (n:Nat) (vs:List AVal) (h:Yv (Qh l0 l1) n (z7s l0 l1)=.ret vs):Jt prog (Zy prog 142) (Zc prog 142 [(.dat l0.length (Zz l0)),(.dat l1.length (Zz l1))] true []) vs:=by have:=Ze (x7z l0 l1) n _ (x3x l0 l1);rwa [h] at this
inductive rsmS where
 | h0 (v5:Int)
def rsmC (l0:List R2) (l1:List R2):rsmS→Cfg
 | .h0 v5=>⟨⟨26,0,true⟩,none,(Zd prog 169 [1,1,0,1,0,0] 0),none,(Zy prog 5),⟨Yd [(0,(.dat l0.length (Zz l0))),(1,(.dat l1.length (Zz l1))),(5,(ii v5))],Uw [] 0,0,[],true⟩,[],.leaf⟩
def rsmN0 :List (Option (List Nat)):=[some [0,1,5]]
def rsmM0 :List (Option (List Nat)):=[]
def z6f (l0:List R2) (l1:List R2):rsmS→Xb rsmS
 | .h0 v5=>(bif (decide (v5<(l0.length:Int))) then (bif ((decide (0≤v5∧v5<(l0.length:Int)))&&true) then (bif ((decide (0≤v5∧v5<(l1.length:Int)))&&true) then (bif (!(((rd l0 v5.toNat).a == (rd l1 v5.toNat).a)&&(((rd l0 v5.toNat).b == (rd l1 v5.toNat).b)&&true))) then (.ret [(.bool false)]) else (.to (.h0 (IntKind.wrap .i64 (v5+1))))) else .stuck) else .stuck) else (.ret [(.bool true)]))
def z7h (l0:List R2) (l1:List R2):Xb rsmS:=(bif ((l0.length:Int) != (l1.length:Int)) then (.ret [(.bool false)]) else (.to (.h0 0)))
theorem w5r (l0:List R2) (l1:List R2): ∀s,Xv prog (Zy prog 169) (rsmC l0 l1) (rsmC l0 l1 s) (z6f l0 l1 s)
 | .h0 v5=>(lb (fun k0=>(lo fun aF=>(lo fun aW=>(lb (fun k1=>(lr 26 169 [1,1,0,1,0,0,1,0,0,1,0,0] 1 5 [(4,(.bool false))] (sl Zp 19 [] ⟨[],[],[some [4]],[]⟩ ⟨[],[],[]⟩ (bl 2 3) (tt k1 (ww aW (ww aF (tt k0 nn))))))) (fun k1=>(sl Zp 23 [] ⟨[],[],rsmN0,rsmM0⟩ ⟨[],[],[]⟩ (bl 2 1) (tt k1 (ww aW (ww aF (tt k0 nn)))))))))) (fun k0=>(lr 26 3 [1,1,1,1,1,1,1,0] 1 5 [(4,(.bool true))] (sl Zp 14 [] ⟨[],[],[some [4]],[]⟩ ⟨[],[],[]⟩ [false] (tt k0 nn)))))
theorem x7h (l0:List R2) (l1:List R2):Xv prog (Zy prog 169) (rsmC l0 l1) (Zc prog 169 [(.dat l0.length (Zz l0)),(.dat l1.length (Zz l1))] true []) (z7h l0 l1):=(lb (fun k0=>(lr 26 169 [1,0,1,0,0] 1 5 [(4,(.bool false))] (sl Zp 18 [] ⟨[],[],[some [4]],[]⟩ ⟨[],[],[]⟩ [true] (tt k0 nn)))) (fun k0=>(sl Zp 22 [] ⟨[],[],rsmN0,rsmM0⟩ ⟨[],[],[]⟩ [false] (tt k0 nn))))
theorem v7f (l0:List R2) (l1:List R2) (n:Nat) (vs:List AVal) (h:Yv (z6f l0 l1) n (z7h l0 l1)=.ret vs):Jt prog (Zy prog 169) (Zc prog 169 [(.dat l0.length (Zz l0)),(.dat l1.length (Zz l1))] true []) vs:=by have:=Ze (w5r l0 l1) n _ (x7h l0 l1);rwa [h] at this
inductive rhasS where
 | h0 (v7:Int)
def u8n (l0:List R4) (x1:Int) (x2:Int):rhasS→Cfg
 | .h0 v7=>⟨⟨48,0,true⟩,none,(Zd prog 168 [1,0,1,0,0] 0),none,(Zy prog 8),⟨Yd [(0,(.dat l0.length (Zz l0))),(1,(ii x1)),(2,(ii x2)),(7,(ii v7))],Uw [] 0,0,[],true⟩,[],.leaf⟩
def x3o :List (Option (List Nat)):=[some [0,1,2,7]]
def x3p :List (Option (List Nat)):=[]
def z5c (l0:List R4) (x1:Int) (x2:Int):rhasS→Xb rhasS
 | .h0 v7=>(bif (decide (v7<(l0.length:Int))) then (bif ((decide (0≤v7∧v7<(l0.length:Int)))&&true) then (bif (decide ((rd l0 v7.toNat).a ≤x1)) then (bif (decide (x1<(rd l0 v7.toNat).c)) then (bif (decide ((rd l0 v7.toNat).b ≤x2)) then (bif (decide (x2<(rd l0 v7.toNat).d)) then (.ret [(.bool true)]) else (.to (.h0 (IntKind.wrap .i64 (v7+1))))) else (.to (.h0 (IntKind.wrap .i64 (v7+1))))) else (.to (.h0 (IntKind.wrap .i64 (v7+1))))) else (.to (.h0 (IntKind.wrap .i64 (v7+1))))) else .stuck) else (.ret [(.bool false)]))
def z7l (l0:List R4) (x1:Int) (x2:Int):Xb rhasS:=(.to (.h0 0))
theorem x7p (l0:List R4) (x1:Int) (x2:Int): ∀s,Xv prog (Zy prog 168) (u8n l0 x1 x2) (u8n l0 x1 x2 s) (z5c l0 x1 x2 s)
 | .h0 v7=>(lb (fun k0=>(lo fun aF=>(lb (fun k1=>(lb (fun k2=>(lb (fun k3=>(lb (fun k4=>(lr 48 168 [1,0,1,0,0,1,0,0,1,0,0] 1 8 [(6,(.bool true))] (sl Zp 54 [] ⟨[],[],[some [6]],[]⟩ ⟨[],[],[]⟩ (trs 23 []) (tt k4 (ww aF (tt k3 (ww aF (tt k2 (ww aF (tt k1 (ww aF (tt k0 nn)))))))))))) (fun k4=>(sl Zp 58 [] ⟨[],[],x3o,x3p⟩ ⟨[],[],[]⟩ (trs 22 [false]) (tt k4 (ww aF (tt k3 (ww aF (tt k2 (ww aF (tt k1 (ww aF (tt k0 nn))))))))))))) (fun k3=>(sl Zp 58 [] ⟨[],[],x3o,x3p⟩ ⟨[],[],[]⟩ (trs 15 (bl 8 0)) (tt k3 (ww aF (tt k2 (ww aF (tt k1 (ww aF (tt k0 nn))))))))))) (fun k2=>(sl Zp 58 [] ⟨[],[],x3o,x3p⟩ ⟨[],[],[]⟩ (trs 8 (bl 15 0)) (tt k2 (ww aF (tt k1 (ww aF (tt k0 nn))))))))) (fun k1=>(sl Zp 58 [] ⟨[],[],x3o,x3p⟩ ⟨[],[],[]⟩ (bl 23 1) (tt k1 (ww aF (tt k0 nn)))))))) (fun k0=>(lr 48 3 [1,1,1,1,1,1,1,0] 1 8 [(6,(.bool false))] (sl Zp 14 [] ⟨[],[],[some [6]],[]⟩ ⟨[],[],[]⟩ [false] (tt k0 nn)))))
theorem x3n (l0:List R4) (x1:Int) (x2:Int):Xv prog (Zy prog 168) (u8n l0 x1 x2) (Zc prog 168 [(.dat l0.length (Zz l0)),(.int .i64 x1),(.int .i64 x2)] true []) (z7l l0 x1 x2):=(sl Zp 11 [] ⟨[],[],x3o,x3p⟩ ⟨[],[],[]⟩ [] nn)
theorem v0p (l0:List R4) (x1:Int) (x2:Int) (n:Nat) (vs:List AVal) (h:Yv (z5c l0 x1 x2) n (z7l l0 x1 x2)=.ret vs):Jt prog (Zy prog 168) (Zc prog 168 [(.dat l0.length (Zz l0)),(.int .i64 x1),(.int .i64 x2)] true []) vs:=by have:=Ze (x7p l0 x1 x2) n _ (x3n l0 x1 x2);rwa [h] at this
inductive rsrS where
 | h0 (v5:Int)
def rsrC (l0:List R4) (l1:List R4):rsrS→Cfg
 | .h0 v5=>⟨⟨26,0,true⟩,none,(Zd prog 128 [1,1,0,1,0,0] 0),none,(Zy prog 5),⟨Yd [(0,(.dat l0.length (Zz l0))),(1,(.dat l1.length (Zz l1))),(5,(ii v5))],Uw [] 0,0,[],true⟩,[],.leaf⟩
def rsrN0 :List (Option (List Nat)):=[some [0,1,5]]
def rsrM0 :List (Option (List Nat)):=[]
def z6e (l0:List R4) (l1:List R4):rsrS→Xb rsrS
 | .h0 v5=>(bif (decide (v5<(l0.length:Int))) then (bif ((decide (0≤v5∧v5<(l0.length:Int)))&&true) then (bif ((decide (0≤v5∧v5<(l1.length:Int)))&&true) then (bif (!(((rd l0 v5.toNat).a == (rd l1 v5.toNat).a)&&(((rd l0 v5.toNat).b == (rd l1 v5.toNat).b)&&(((rd l0 v5.toNat).c == (rd l1 v5.toNat).c)&&(((rd l0 v5.toNat).d == (rd l1 v5.toNat).d)&&true))))) then (.ret [(.bool false)]) else (.to (.h0 (IntKind.wrap .i64 (v5+1))))) else .stuck) else .stuck) else (.ret [(.bool true)]))
def z7g (l0:List R4) (l1:List R4):Xb rsrS:=(bif ((l0.length:Int) != (l1.length:Int)) then (.ret [(.bool false)]) else (.to (.h0 0)))
theorem w5p (l0:List R4) (l1:List R4): ∀s,Xv prog (Zy prog 128) (rsrC l0 l1) (rsrC l0 l1 s) (z6e l0 l1 s)
 | .h0 v5=>(lb (fun k0=>(lo fun aF=>(lo fun aW=>(lb (fun k1=>(lr 26 128 [1,1,0,1,0,0,1,0,0,1,0,0] 1 5 [(4,(.bool false))] (sl Zp 19 [] ⟨[],[],[some [4]],[]⟩ ⟨[],[],[]⟩ (bl 2 3) (tt k1 (ww aW (ww aF (tt k0 nn))))))) (fun k1=>(sl Zp 23 [] ⟨[],[],rsrN0,rsrM0⟩ ⟨[],[],[]⟩ (bl 2 1) (tt k1 (ww aW (ww aF (tt k0 nn)))))))))) (fun k0=>(lr 26 3 [1,1,1,1,1,1,1,0] 1 5 [(4,(.bool true))] (sl Zp 14 [] ⟨[],[],[some [4]],[]⟩ ⟨[],[],[]⟩ [false] (tt k0 nn)))))
theorem x7g (l0:List R4) (l1:List R4):Xv prog (Zy prog 128) (rsrC l0 l1) (Zc prog 128 [(.dat l0.length (Zz l0)),(.dat l1.length (Zz l1))] true []) (z7g l0 l1):=(lb (fun k0=>(lr 26 128 [1,0,1,0,0] 1 5 [(4,(.bool false))] (sl Zp 18 [] ⟨[],[],[some [4]],[]⟩ ⟨[],[],[]⟩ [true] (tt k0 nn)))) (fun k0=>(sl Zp 22 [] ⟨[],[],rsrN0,rsrM0⟩ ⟨[],[],[]⟩ [false] (tt k0 nn))))
theorem v7e (l0:List R4) (l1:List R4) (n:Nat) (vs:List AVal) (h:Yv (z6e l0 l1) n (z7g l0 l1)=.ret vs):Jt prog (Zy prog 128) (Zc prog 128 [(.dat l0.length (Zz l0)),(.dat l1.length (Zz l1))] true []) vs:=by have:=Ze (w5p l0 l1) n _ (x7g l0 l1);rwa [h] at this
inductive rsbS where
 | h0 (v5:Int)
def rsbC (l0:List R6) (l1:List R6):rsbS→Cfg
 | .h0 v5=>⟨⟨26,0,true⟩,none,(Zd prog 20 [1,1,0,1,0,0] 0),none,(Zy prog 5),⟨Yd [(0,(.dat l0.length (Zz l0))),(1,(.dat l1.length (Zz l1))),(5,(ii v5))],Uw [] 0,0,[],true⟩,[],.leaf⟩
def rsbN0 :List (Option (List Nat)):=[some [0,1,5]]
def rsbM0 :List (Option (List Nat)):=[]
def z6g (l0:List R6) (l1:List R6):rsbS→Xb rsbS
 | .h0 v5=>(bif (decide (v5<(l0.length:Int))) then (bif ((decide (0≤v5∧v5<(l0.length:Int)))&&true) then (bif ((decide (0≤v5∧v5<(l1.length:Int)))&&true) then (bif (!((((rd l0 v5.toNat).a == (rd l1 v5.toNat).a)&&(((rd l0 v5.toNat).b == (rd l1 v5.toNat).b)&&(((rd l0 v5.toNat).c == (rd l1 v5.toNat).c)&&true)))&&((((rd l0 v5.toNat).d == (rd l1 v5.toNat).d)&&(((rd l0 v5.toNat).e == (rd l1 v5.toNat).e)&&(((rd l0 v5.toNat).f == (rd l1 v5.toNat).f)&&true)))&&true))) then (.ret [(.bool false)]) else (.to (.h0 (IntKind.wrap .i64 (v5+1))))) else .stuck) else .stuck) else (.ret [(.bool true)]))
def z7i (l0:List R6) (l1:List R6):Xb rsbS:=(bif ((l0.length:Int) != (l1.length:Int)) then (.ret [(.bool false)]) else (.to (.h0 0)))
theorem w5s (l0:List R6) (l1:List R6): ∀s,Xv prog (Zy prog 20) (rsbC l0 l1) (rsbC l0 l1 s) (z6g l0 l1 s)
 | .h0 v5=>(lb (fun k0=>(lo fun aF=>(lo fun aW=>(lb (fun k1=>(lr 26 20 [1,1,0,1,0,0,1,0,0,1,0,0] 1 5 [(4,(.bool false))] (sl Zp 19 [] ⟨[],[],[some [4]],[]⟩ ⟨[],[],[]⟩ (bl 2 3) (tt k1 (ww aW (ww aF (tt k0 nn))))))) (fun k1=>(sl Zp 23 [] ⟨[],[],rsbN0,rsbM0⟩ ⟨[],[],[]⟩ (bl 2 1) (tt k1 (ww aW (ww aF (tt k0 nn)))))))))) (fun k0=>(lr 26 3 [1,1,1,1,1,1,1,0] 1 5 [(4,(.bool true))] (sl Zp 14 [] ⟨[],[],[some [4]],[]⟩ ⟨[],[],[]⟩ [false] (tt k0 nn)))))
theorem x7i (l0:List R6) (l1:List R6):Xv prog (Zy prog 20) (rsbC l0 l1) (Zc prog 20 [(.dat l0.length (Zz l0)),(.dat l1.length (Zz l1))] true []) (z7i l0 l1):=(lb (fun k0=>(lr 26 20 [1,0,1,0,0] 1 5 [(4,(.bool false))] (sl Zp 18 [] ⟨[],[],[some [4]],[]⟩ ⟨[],[],[]⟩ [true] (tt k0 nn)))) (fun k0=>(sl Zp 22 [] ⟨[],[],rsbN0,rsbM0⟩ ⟨[],[],[]⟩ [false] (tt k0 nn))))
theorem v7g (l0:List R6) (l1:List R6) (n:Nat) (vs:List AVal) (h:Yv (z6g l0 l1) n (z7i l0 l1)=.ret vs):Jt prog (Zy prog 20) (Zc prog 20 [(.dat l0.length (Zz l0)),(.dat l1.length (Zz l1))] true []) vs:=by have:=Ze (w5s l0 l1) n _ (x7i l0 l1);rwa [h] at this
inductive ratS where
 | h0 (v5:List R4) (v6:Int)
def ratC (l0:List R6) (x1:Int):ratS→Cfg
 | .h0 v5 v6=>⟨⟨60,0,true⟩,none,(Zd prog 127 [1,1,0,1,0,0] 0),none,(Zy prog 5),⟨Yd [(0,(.dat l0.length (Zz l0))),(1,(ii x1)),(5,(.sla 0 4 0 v5.length (.un 4))),(6,(ii v6))],Uw [⟨rows v5.length (Zz v5),88,some ⟨4,v5.length,(Zz v5)⟩⟩] 0,1,[],true⟩,[],.leaf⟩
def v8e :List (Option (List Nat)):=[some [0,1,5,6]]
def v8f :List (Option (List Nat)):=[]
def z6h (l0:List R6) (x1:Int):ratS→Xb ratS
 | .h0 v5 v6=>(bif (decide (v6<(l0.length:Int))) then (bif ((decide (0≤v6∧v6<(l0.length:Int)))&&true) then (bif (decide ((rd l0 v6.toNat).c ≤x1)) then (bif (decide (x1<(rd l0 v6.toNat).f)) then (bif (Nat.beq 4 4&&((decide (0+v5.length=v5.length))&&decide ((v5.length+1+1)*(32+1)≤Ju))) then (.to (.h0 (v5++[(R4.mk (rd l0 v6.toNat).a (rd l0 v6.toNat).b (rd l0 v6.toNat).d (rd l0 v6.toNat).e)]) (IntKind.wrap .i64 (v6+1)))) else .stuck) else (.to (.h0 v5 (IntKind.wrap .i64 (v6+1))))) else (.to (.h0 v5 (IntKind.wrap .i64 (v6+1))))) else .stuck) else (.ret [(.dat v5.length (Zz v5))]))
def y2r (l0:List R6) (x1:Int):Xb ratS:=(.to (.h0 ([]:List R4) 0))
theorem w6b (l0:List R6) (x1:Int): ∀s,Xv prog (Zy prog 127) (ratC l0 x1) (ratC l0 x1 s) (z6h l0 x1 s)
 | .h0 v5 v6=>(lb (fun k0=>(lo fun aF=>(lb (fun k1=>(lb (fun k2=>(lo fun o0=>(sl Zp 42 [] ⟨[2],[],v8e,v8f⟩ ⟨[(5,.len (v5++[(R4.mk (rd l0 (tn v6)).a (rd l0 (tn v6)).b (rd l0 (tn v6)).d (rd l0 (tn v6)).e)]).length)],[.rowed 4 (v5++[(R4.mk (rd l0 (tn v6)).a (rd l0 (tn v6)).b (rd l0 (tn v6)).d (rd l0 (tn v6)).e)]).length (Zz (v5++[(R4.mk (rd l0 (tn v6)).a (rd l0 (tn v6)).b (rd l0 (tn v6)).d (rd l0 (tn v6)).e)]))],[]⟩ (trs 10 []) (pp (xL (v5.length+1) (v5++[(R4.mk (rd l0 (tn v6)).a (rd l0 (tn v6)).b (rd l0 (tn v6)).d (rd l0 (tn v6)).e)]).length) (pp (xL (v5.length+1) (v5++[(R4.mk (rd l0 (tn v6)).a (rd l0 (tn v6)).b (rd l0 (tn v6)).d (rd l0 (tn v6)).e)]).length) (pp (xS (v5.length+1) (Zi (Zz v5) 0 v5.length 4 [(ii (rd l0 (tn v6)).a),(ii (rd l0 (tn v6)).b),(ii (rd l0 (tn v6)).d),(ii (rd l0 (tn v6)).e)]) (Zz (v5++[(R4.mk (rd l0 (tn v6)).a (rd l0 (tn v6)).b (rd l0 (tn v6)).d (rd l0 (tn v6)).e)]))) (pp (pp (xF (Zi (Zz v5) 0 v5.length 4 [(ii (rd l0 (tn v6)).a),(ii (rd l0 (tn v6)).b),(ii (rd l0 (tn v6)).d),(ii (rd l0 (tn v6)).e)])) nn) (ww o0 (ww aF (ww aF (ww aF (ww aF (tt k2 (ww aF (tt k1 (ww aF (tt k0 nn))))))))))))))))) (fun k2=>(sl Zp 42 [] ⟨[0],[],v8e,v8f⟩ ⟨[],[],[]⟩ (trs 9 [false]) (pp (fl v5 nn) (tt k2 (ww aF (tt k1 (ww aF (tt k0 nn)))))))))) (fun k1=>(sl Zp 42 [] ⟨[0],[],v8e,v8f⟩ ⟨[],[],[]⟩ (bl 10 1) (pp (fl v5 nn) (tt k1 (ww aF (tt k0 nn))))))))) (fun k0=>(lr 60 3 [1,1,1,1,1,1,1,0] 1 5 [(4,(.dat v5.length (Zz v5)))] (sl Zp 15 [] ⟨[],[0],[some [4]],[]⟩ ⟨[(4,.frz v5.length v5.length (Zz v5) (Zz v5))],[],[]⟩ [false] (pp (xZ (z6q 4 4 0 v5.length v5.length (Zz v5)) v5.length (Zz v5)) (pp (xL v5.length v5.length) (pp (xS v5.length (Zz v5) (Zz v5)) (pp (fl v5 nn) (tt k0 nn)))))))))
theorem x8a (l0:List R6) (x1:Int):Xv prog (Zy prog 127) (ratC l0 x1) (Zc prog 127 [(.dat l0.length (Zz l0)),(.int .i64 x1)] true []) (y2r l0 x1):=(sl Zp 15 [(88,4,Zz ([]:List R4))] ⟨[0],[],v8e,v8f⟩ ⟨[(5,.grow 0 4)],[],[]⟩ [] (pp (fl ([]:List R4) nn) nn))
theorem v8d (l0:List R6) (x1:Int) (n:Nat) (vs:List AVal) (h:Yv (z6h l0 x1) n (y2r l0 x1)=.ret vs):Jt prog (Zy prog 127) (Zc prog 127 [(.dat l0.length (Zz l0)),(.int .i64 x1)] true []) vs:=by have:=Ze (w6b l0 x1) n _ (x8a l0 x1);rwa [h] at this
inductive eqaS where
 | h0 (v13:Int)
def eqaC (l0:List R2) (l1:List R2):eqaS→Cfg
 | .h0 v13=>⟨⟨26,0,true⟩,none,(Zd prog 188 [1,1,0,1,0,0] 0),none,(Zy prog 5),⟨Yd [(0,(.dat l0.length (Zz l0))),(1,(.dat l1.length (Zz l1))),(12,(ii (l0.length:Int))),(13,(ii v13))],Uw [] 0,0,[],true⟩,[],.leaf⟩
def eqaN0 :List (Option (List Nat)):=[some [0,1,12,13]]
def eqaM0 :List (Option (List Nat)):=[]
def z6v (l0:List R2) (l1:List R2):eqaS→Xb eqaS
 | .h0 v13=>(bif (decide (v13<(l0.length:Int))) then (bif ((decide (0≤v13∧v13<(l0.length:Int)))&&true) then (bif ((decide (0≤v13∧v13<(l1.length:Int)))&&true) then (bif (!(((rd l0 v13.toNat).a == (rd l1 v13.toNat).a)&&(((rd l0 v13.toNat).b == (rd l1 v13.toNat).b)&&true))) then (.ret [(.bool false)]) else (.to (.h0 (IntKind.wrap .i64 (v13+1))))) else .stuck) else .stuck) else (.ret [(.bool true)]))
def z8j (l0:List R2) (l1:List R2):Xb eqaS:=(bif ((l0.length:Int) != (l1.length:Int)) then (.ret [(.bool false)]) else (.to (.h0 0)))
theorem w7s (l0:List R2) (l1:List R2): ∀s,Xv prog (Zy prog 188) (eqaC l0 l1) (eqaC l0 l1 s) (z6v l0 l1 s)
 | .h0 v13=>(lb (fun k0=>(lo fun aF=>(lo fun aW=>(lb (fun k1=>(lr 26 188 [1,1,0,1,0,0,1,1,0,0,1,1,0,0] 1 5 [(4,(.bool false))] (sl Zp 21 [] ⟨[],[],[some [4]],[]⟩ ⟨[],[],[]⟩ (bl 2 3) (tt k1 (ww aW (ww aF (tt k0 nn))))))) (fun k1=>(sl Zp 24 [] ⟨[],[],eqaN0,eqaM0⟩ ⟨[],[],[]⟩ (bl 2 1) (tt k1 (ww aW (ww aF (tt k0 nn)))))))))) (fun k0=>(lr 26 3 [1,1,1,1,1,1,1,0] 1 5 [(4,(.bool true))] (sl Zp 11 [] ⟨[],[],[some [4]],[]⟩ ⟨[],[],[]⟩ [false] (tt k0 nn)))))
theorem w0d (l0:List R2) (l1:List R2):Xv prog (Zy prog 188) (eqaC l0 l1) (Zc prog 188 [(.dat l0.length (Zz l0)),(.dat l1.length (Zz l1))] true []) (z8j l0 l1):=(lb (fun k0=>(lr 26 188 [1,0,1,0,0] 1 5 [(4,(.bool false))] (sl Zp 18 [] ⟨[],[],[some [4]],[]⟩ ⟨[],[],[]⟩ [true] (tt k0 nn)))) (fun k0=>(sl Zp 24 [] ⟨[],[],eqaN0,eqaM0⟩ ⟨[],[],[]⟩ [false] (tt k0 nn))))
theorem u0q (l0:List R2) (l1:List R2) (n:Nat) (vs:List AVal) (h:Yv (z6v l0 l1) n (z8j l0 l1)=.ret vs):Jt prog (Zy prog 188) (Zc prog 188 [(.dat l0.length (Zz l0)),(.dat l1.length (Zz l1))] true []) vs:=by have:=Ze (w7s l0 l1) n _ (w0d l0 l1);rwa [h] at this
inductive eqbS where
 | h0 (v13:Int)
def eqbC (l0:List R4) (l1:List R4):eqbS→Cfg
 | .h0 v13=>⟨⟨26,0,true⟩,none,(Zd prog 172 [1,1,0,1,0,0] 0),none,(Zy prog 5),⟨Yd [(0,(.dat l0.length (Zz l0))),(1,(.dat l1.length (Zz l1))),(12,(ii (l0.length:Int))),(13,(ii v13))],Uw [] 0,0,[],true⟩,[],.leaf⟩
def eqbN0 :List (Option (List Nat)):=[some [0,1,12,13]]
def eqbM0 :List (Option (List Nat)):=[]
def z6u (l0:List R4) (l1:List R4):eqbS→Xb eqbS
 | .h0 v13=>(bif (decide (v13<(l0.length:Int))) then (bif ((decide (0≤v13∧v13<(l0.length:Int)))&&true) then (bif ((decide (0≤v13∧v13<(l1.length:Int)))&&true) then (bif (!(((rd l0 v13.toNat).a == (rd l1 v13.toNat).a)&&(((rd l0 v13.toNat).b == (rd l1 v13.toNat).b)&&(((rd l0 v13.toNat).c == (rd l1 v13.toNat).c)&&(((rd l0 v13.toNat).d == (rd l1 v13.toNat).d)&&true))))) then (.ret [(.bool false)]) else (.to (.h0 (IntKind.wrap .i64 (v13+1))))) else .stuck) else .stuck) else (.ret [(.bool true)]))
def z8i (l0:List R4) (l1:List R4):Xb eqbS:=(bif ((l0.length:Int) != (l1.length:Int)) then (.ret [(.bool false)]) else (.to (.h0 0)))
theorem w7r (l0:List R4) (l1:List R4): ∀s,Xv prog (Zy prog 172) (eqbC l0 l1) (eqbC l0 l1 s) (z6u l0 l1 s)
 | .h0 v13=>(lb (fun k0=>(lo fun aF=>(lo fun aW=>(lb (fun k1=>(lr 26 172 [1,1,0,1,0,0,1,1,0,0,1,1,0,0] 1 5 [(4,(.bool false))] (sl Zp 21 [] ⟨[],[],[some [4]],[]⟩ ⟨[],[],[]⟩ (bl 2 3) (tt k1 (ww aW (ww aF (tt k0 nn))))))) (fun k1=>(sl Zp 24 [] ⟨[],[],eqbN0,eqbM0⟩ ⟨[],[],[]⟩ (bl 2 1) (tt k1 (ww aW (ww aF (tt k0 nn)))))))))) (fun k0=>(lr 26 3 [1,1,1,1,1,1,1,0] 1 5 [(4,(.bool true))] (sl Zp 11 [] ⟨[],[],[some [4]],[]⟩ ⟨[],[],[]⟩ [false] (tt k0 nn)))))
theorem w0c (l0:List R4) (l1:List R4):Xv prog (Zy prog 172) (eqbC l0 l1) (Zc prog 172 [(.dat l0.length (Zz l0)),(.dat l1.length (Zz l1))] true []) (z8i l0 l1):=(lb (fun k0=>(lr 26 172 [1,0,1,0,0] 1 5 [(4,(.bool false))] (sl Zp 18 [] ⟨[],[],[some [4]],[]⟩ ⟨[],[],[]⟩ [true] (tt k0 nn)))) (fun k0=>(sl Zp 24 [] ⟨[],[],eqbN0,eqbM0⟩ ⟨[],[],[]⟩ [false] (tt k0 nn))))
theorem u0p (l0:List R4) (l1:List R4) (n:Nat) (vs:List AVal) (h:Yv (z6u l0 l1) n (z8i l0 l1)=.ret vs):Jt prog (Zy prog 172) (Zc prog 172 [(.dat l0.length (Zz l0)),(.dat l1.length (Zz l1))] true []) vs:=by have:=Ze (w7r l0 l1) n _ (w0c l0 l1);rwa [h] at this
inductive eqcS where
 | h0 (v13:Int)
def eqcC (l0:List R6) (l1:List R6):eqcS→Cfg
 | .h0 v13=>⟨⟨26,0,true⟩,none,(Zd prog 99 [1,1,0,1,0,0] 0),none,(Zy prog 5),⟨Yd [(0,(.dat l0.length (Zz l0))),(1,(.dat l1.length (Zz l1))),(12,(ii (l0.length:Int))),(13,(ii v13))],Uw [] 0,0,[],true⟩,[],.leaf⟩
def eqcN0 :List (Option (List Nat)):=[some [0,1,12,13]]
def eqcM0 :List (Option (List Nat)):=[]
def z6t (l0:List R6) (l1:List R6):eqcS→Xb eqcS
 | .h0 v13=>(bif (decide (v13<(l0.length:Int))) then (bif ((decide (0≤v13∧v13<(l0.length:Int)))&&true) then (bif ((decide (0≤v13∧v13<(l1.length:Int)))&&true) then (bif (!((((rd l0 v13.toNat).a == (rd l1 v13.toNat).a)&&(((rd l0 v13.toNat).b == (rd l1 v13.toNat).b)&&(((rd l0 v13.toNat).c == (rd l1 v13.toNat).c)&&true)))&&((((rd l0 v13.toNat).d == (rd l1 v13.toNat).d)&&(((rd l0 v13.toNat).e == (rd l1 v13.toNat).e)&&(((rd l0 v13.toNat).f == (rd l1 v13.toNat).f)&&true)))&&true))) then (.ret [(.bool false)]) else (.to (.h0 (IntKind.wrap .i64 (v13+1))))) else .stuck) else .stuck) else (.ret [(.bool true)]))
def z8h (l0:List R6) (l1:List R6):Xb eqcS:=(bif ((l0.length:Int) != (l1.length:Int)) then (.ret [(.bool false)]) else (.to (.h0 0)))
theorem w7q (l0:List R6) (l1:List R6): ∀s,Xv prog (Zy prog 99) (eqcC l0 l1) (eqcC l0 l1 s) (z6t l0 l1 s)
 | .h0 v13=>(lb (fun k0=>(lo fun aF=>(lo fun aW=>(lb (fun k1=>(lr 26 99 [1,1,0,1,0,0,1,1,0,0,1,1,0,0] 1 5 [(4,(.bool false))] (sl Zp 21 [] ⟨[],[],[some [4]],[]⟩ ⟨[],[],[]⟩ (bl 2 3) (tt k1 (ww aW (ww aF (tt k0 nn))))))) (fun k1=>(sl Zp 24 [] ⟨[],[],eqcN0,eqcM0⟩ ⟨[],[],[]⟩ (bl 2 1) (tt k1 (ww aW (ww aF (tt k0 nn)))))))))) (fun k0=>(lr 26 3 [1,1,1,1,1,1,1,0] 1 5 [(4,(.bool true))] (sl Zp 11 [] ⟨[],[],[some [4]],[]⟩ ⟨[],[],[]⟩ [false] (tt k0 nn)))))
theorem w0b (l0:List R6) (l1:List R6):Xv prog (Zy prog 99) (eqcC l0 l1) (Zc prog 99 [(.dat l0.length (Zz l0)),(.dat l1.length (Zz l1))] true []) (z8h l0 l1):=(lb (fun k0=>(lr 26 99 [1,0,1,0,0] 1 5 [(4,(.bool false))] (sl Zp 18 [] ⟨[],[],[some [4]],[]⟩ ⟨[],[],[]⟩ [true] (tt k0 nn)))) (fun k0=>(sl Zp 24 [] ⟨[],[],eqcN0,eqcM0⟩ ⟨[],[],[]⟩ [false] (tt k0 nn))))
theorem u0o (l0:List R6) (l1:List R6) (n:Nat) (vs:List AVal) (h:Yv (z6t l0 l1) n (z8h l0 l1)=.ret vs):Jt prog (Zy prog 99) (Zc prog 99 [(.dat l0.length (Zz l0)),(.dat l1.length (Zz l1))] true []) vs:=by have:=Ze (w7q l0 l1) n _ (w0b l0 l1);rwa [h] at this
inductive holS where
def holC (x0:Int) (x1:Bool) (x2:Bool):holS→Cfg
 :=nofun
def x9p (x0:Int) (x1:Bool) (x2:Bool):holS→Xb holS
 :=nofun
def y3h (x0:Int) (x1:Bool) (x2:Bool):Xb holS:=(bif (x0 == 1) then (bif x1 then (.ret [(.bool x2)]) else (.ret [(.bool false)])) else (bif (x0 == 2) then (bif x1 then (.ret [(.bool true)]) else (.ret [(.bool x2)])) else (bif x1 then (.ret [(.bool (!x2))]) else (.ret [(.bool false)]))))
theorem w7e (x0:Int) (x1:Bool) (x2:Bool): ∀s,Xv prog (Zy prog 167) (holC x0 x1 x2) (holC x0 x1 x2 s) (x9p x0 x1 x2 s)
 :=nofun
theorem x9q (x0:Int) (x1:Bool) (x2:Bool):Xv prog (Zy prog 167) (holC x0 x1 x2) (Zc prog 167 [(.int .i64 x0),(.bool x1),(.bool x2)] true []) (y3h x0 x1 x2):=(lb (fun k0=>(lb (fun k1=>(lr 24 167 [1,0,1,0,0] 1 8 [(6,(.bool x2))] (sl Zp 19 [] ⟨[],[],[some [6]],[]⟩ ⟨[],[],[]⟩ [true,true] (tt k1 (tt k0 nn))))) (fun k1=>(lr 24 167 [1,0,1,0,0] 1 8 [(6,(.bool false))] (sl Zp 19 [] ⟨[],[],[some [6]],[]⟩ ⟨[],[],[]⟩ [true,false] (tt k1 (tt k0 nn))))))) (fun k0=>(lb (fun k1=>(lb (fun k2=>(lr 24 167 [1,1,0,1,0,0] 1 8 [(6,(.bool true))] (sl Zp 27 [] ⟨[],[],[some [6]],[]⟩ ⟨[],[],[]⟩ [false,true,true] (tt k2 (tt k1 (tt k0 nn)))))) (fun k2=>(lr 24 167 [1,1,0,1,0,0] 1 8 [(6,(.bool x2))] (sl Zp 27 [] ⟨[],[],[some [6]],[]⟩ ⟨[],[],[]⟩ [false,true,false] (tt k2 (tt k1 (tt k0 nn)))))))) (fun k1=>(lb (fun k2=>(lr 24 3 [1,1,1,1,1,1,1,0] 1 8 [(6,(.bool (!x2)))] (sl Zp 29 [] ⟨[],[],[some [6]],[]⟩ ⟨[],[],[]⟩ [false,false,true,true] (tt k2 (tt k1 (tt k0 nn)))))) (fun k2=>(lr 24 3 [1,1,1,1,1,1,1,0] 1 8 [(6,(.bool false))] (sl Zp 29 [] ⟨[],[],[some [6]],[]⟩ ⟨[],[],[]⟩ [false,false,false,false] (tt k2 (tt k1 (tt k0 nn)))))))))))
theorem u0b (x0:Int) (x1:Bool) (x2:Bool) (n:Nat) (vs:List AVal) (h:Yv (x9p x0 x1 x2) n (y3h x0 x1 x2)=.ret vs):Jt prog (Zy prog 167) (Zc prog 167 [(.int .i64 x0),(.bool x1),(.bool x2)] true []) vs:=by have:=Ze (w7e x0 x1 x2) n _ (x9q x0 x1 x2);rwa [h] at this
inductive fstS where
def fstC (x0:Bool) (x1:Bool):fstS→Cfg
 :=nofun
def x9s (x0:Bool) (x1:Bool):fstS→Xb fstS
 :=nofun
def x2a (x0:Bool) (x1:Bool):Xb fstS:=(.ret [(.bool x0)])
theorem w7g (x0:Bool) (x1:Bool): ∀s,Xv prog (Zy prog 187) (fstC x0 x1) (fstC x0 x1 s) (x9s x0 x1 s)
 :=nofun
theorem x9t (x0:Bool) (x1:Bool):Xv prog (Zy prog 187) (fstC x0 x1) (Zc prog 187 [(.bool x0),(.bool x1)] true []) (x2a x0 x1):=(lr 6 3 [1,1,1,1,1,1,1,0] 1 5 [(4,(.bool x0))] (sl Zp 9 [] ⟨[],[],[some [4]],[]⟩ ⟨[],[],[]⟩ [] nn))
theorem u0c (x0:Bool) (x1:Bool) (n:Nat) (vs:List AVal) (h:Yv (x9s x0 x1) n (x2a x0 x1)=.ret vs):Jt prog (Zy prog 187) (Zc prog 187 [(.bool x0),(.bool x1)] true []) vs:=by have:=Ze (w7g x0 x1) n _ (x9t x0 x1);rwa [h] at this
end Go.Am
namespace Go.Am
theorem Zt {a b:Int} (h:a<b):decide (a<b)=true:=decide_eq_true h
theorem Yx {a b:Int} (h: ¬a<b):decide (a<b)=false:=decide_eq_false h
theorem Xs {a b:Int} (h:a≤b):decide (a≤b)=true:=decide_eq_true h
theorem w0f {a b:Int} (h: ¬a≤b):decide (a≤b)=false:=decide_eq_false h
theorem Yo {a b:Int} (h:a>b):decide (a>b)=true:=decide_eq_true h
theorem Xp {a b:Int} (h: ¬a>b):decide (a>b)=false:=decide_eq_false h
theorem dge_t {a b:Int} (h:a≥b):decide (a≥b)=true:=decide_eq_true h
theorem Yk {a b:Nat} (h:a<b):decide (a<b)=true:=decide_eq_true h
theorem Yc {a b:Nat} (h:a≤b):decide (a≤b)=true:=decide_eq_true h
theorem Yp {a b:Nat} (h:a=b):decide (a=b)=true:=decide_eq_true h
theorem Yz {a b:Int} (h:0≤a∧a<b):decide (0≤a∧a<b)=true:=decide_eq_true h
theorem Zh {a:Nat} (h:a≤1099511627776):decide (a≤Ju)=true:=decide_eq_true h
theorem Zq {n:Int} (h: -9223372036854775808≤n∧n≤9223372036854775807):IntKind.wrap .i64 n=n:=w_in h.1 h.2
theorem z4u :((0:Nat):Int)=0:=rfl
theorem Zx (i:Nat):(i:Int)+1=((i+1:Nat):Int):=rfl
theorem Zr (i:Nat):((i+1:Nat):Int) - 1=(i:Int):=by omega
theorem z0m {a b:Int} (h:a≠b):(a != b)=true:=by simp [h]
theorem z0n {a b:Int} (h:a=b):(a != b)=false:=by simp [h]
theorem beq_t' {a b:Int} (h:a=b):(a == b)=true:=by simp [h]
theorem x5i {a b:Int} (h:a≠b):(a == b)=false:=by simp [h]
theorem Yg (n:Nat):Nat.beq n n=true:=Nat.beq_refl n
theorem Zj (n:Nat):Int.toNat (n:Int)=n:=Int.toNat_natCast n
theorem Ye (b:Bool):b=true∨b=false:=by cases b <;> simp
theorem Ym {α:Type} [Yt α] {L:List α} {i:Nat} (h:i<L.length):L.drop i=rd L i::L.drop (i+1):=by rw [Xy h];exact List.drop_eq_getElem_cons h
theorem z2d {P:Program} {S:Specs} (hS:Zu P S) {f:FuncId} {F:List AVal→Option (AVal×Bool)} (hf:(P.funcs[f]?).any (fun fn=>fn.body.isSome)=true)
  (hF: ∀args v,F args=some (v,true)→ ∃bs vs,Vv VLe args bs∧Ku vs=v∧Jt P (Zy P f) (Zc P f bs true []) vs∧ ∃d,pf d v=true):Zu P (S.with f F):=w4h hS hf hF
end Go.Am
namespace Go.Am
open Go.Proofs
def x8e (out:List Int) (x:Int):Nat→Nat
 | 0=>0
 | k+1=>bif decide (rd out k>x) then x8e out x k else k+1
def y5f (out:List Int) (x:Int):List Int:=
 match x8e out x out.length with
 | 0=>x::out
 | k+1=>bif rd out k == x then out else out.take (k+1)++x::out.drop (k+1)
def z3o (l:List Int):List Int:=l.foldl y5f []
def Kr (l:List Int):Bool:=decide (l.length≤100000)
theorem y5e (out:List Int) (x:Int):(y5f out x).length ≤out.length+1:=by
 unfold y5f;split
 ·simp
 ·rename_i k _;cases (rd out k == x) <;> simp <;> omega
theorem x4v (out:List Int) (x:Int) (k:Nat) (hk:k≤out.length):
  (v4v (out++[0]) (k+1) (Nat.min (out.length+1 - k) (out.length+1 - (k+1))) (Wc (out++[0]) k (out.length+1 - k))).set k x=out.take k++x::out.drop k:=by
 have hm:Nat.min (out.length+1 - k) (out.length+1 - (k+1))=out.length - k:=by show min _ _=_;omega
 rw [hm];apply List.ext_getElem
 ·simp [Jc];omega
 ·intro i h1 h2;have hi:i<out.length+1:=by simpa [Jc] using h1
  rw [←Xy h1,←Xy h2];rw [u3s (by simpa [Jc] using hi)];by_cases e:i=k
  ·subst e;rw [if_pos rfl,Ui (by simp only [List.length_take];omega),Xy (by simp;omega)];simp [Nat.min_eq_left hk]
  ·rw [if_neg e,v0y (by simpa using hi)];by_cases h:i<k
   ·rw [u1d (show¬k+1≤i by omega),Bool.false_and,cond_false,Jq (by omega),Jq (by simp;omega)];rw [Xy (by omega),Xy (by simp;omega),List.getElem_take]
   ·rw [v5e (show k+1≤i by omega),v5e (show i+1≤k+1+(out.length - k) by omega),Bool.true_and,cond_true,x0y (by omega),Jq (by omega)];rw [Ui (by simp;omega),Xy (by omega),Xy (by simp;omega)];obtain ⟨j,rfl⟩: ∃j,i=k+1+j:=⟨i - k - 1,by omega⟩
    simp only [List.length_take,Nat.min_eq_left hk];rw [List.getElem_cons,dif_neg (by omega),List.getElem_drop]
    congr 1
theorem w1z (l:List Int) (out:List Int) (i:Nat) (hi:i<l.length) (hl:l.length≤100000) (ho:out.length≤i): ∀(k N:Nat),k≤out.length→
  (x8e out (rd l i) out.length=x8e out (rd l i) k)→ ∃m,∀N,Yv (Vo l) (N+m) (.to (.h1 out (i:Int) (k:Int)))=Yv (Vo l) N (.to (.h0 (y5f out (rd l i)) ((i+1:Nat):Int)))
 | 0,N,hk,hp=>by
  refine ⟨1,fun N=> ?_⟩;have hins:y5f out (rd l i)=(v4v (out++[0]) (0+1) (Nat.min (out.length+1 - 0) (out.length+1 - (0+1))) (Wc (out++[0]) 0 (out.length+1 - 0))).set 0 (rd l i):=by rw [x4v out _ 0 (Nat.zero_le _)];unfold y5f;rw [hp];rfl
  rw [hins,Zv];simp (disch:=omega) only [Vo,Zh,decide_true,Xp,Zt,Xs,Yk,Yc,Yp,Yz,Zq,Zx,Yg,Zj,Nat.zero_add,Bool.and_true,Bool.true_and,cond_true,cond_false]
 | k+1,N,hk,hp=>by
  rcases Ye (decide (rd out k>rd l i)) with h | h
  ·have hp':x8e out (rd l i) out.length=x8e out (rd l i) k:=by rw [hp];conv=>lhs;unfold x8e;rw [h,cond_true]
   obtain ⟨m,hm⟩:=w1z l out i hi hl ho k N (by omega) hp';refine ⟨m+1,fun N=> ?_⟩;rw [←hm N,←Nat.add_assoc,Zv];simp (disch:=omega) only [Vo,Zr,h,Zh,decide_true,Yo,Zt,Xs,Yk,Yc,Yp,Yz,Zq,Zx,Yg,Zj,Nat.zero_add,Bool.and_true,Bool.true_and,cond_true,cond_false]
  ·have hpk:x8e out (rd l i) out.length=k+1:=by rw [hp];unfold x8e;rw [h];rfl
   refine ⟨1,fun N=> ?_⟩;rw [Zv];rcases Ye (rd out k == rd l i) with q | q
   ·have hins:y5f out (rd l i)=out:=by unfold y5f;rw [hpk];simp only [q,cond_true]
    rw [hins];simp (disch:=omega) only [Vo,Zr,h,q,Zh,decide_true,Yo,Zt,Xs,Yk,Yc,Yp,Yz,Zq,Zx,Yg,Zj,Nat.zero_add,Bool.and_true,Bool.true_and,cond_true,cond_false]
   ·have hins:y5f out (rd l i)=(v4v (out++[0]) (k+1+1) (Nat.min (out.length+1 - (k+1)) (out.length+1 - (k+1+1))) (Wc (out++[0]) (k+1) (out.length+1 - (k+1)))).set (k+1) (rd l i):=by rw [x4v out _ (k+1) hk];unfold y5f;rw [hpk];simp only [q,cond_false]
    rw [hins];simp (disch:=omega) only [Vo,Zr,h,q,Zh,decide_true,Yo,Zt,Xs,Yk,Yc,Yp,Yz,Zq,Zx,Yg,Zj,Nat.zero_add,Bool.and_true,Bool.true_and,cond_true,cond_false]
theorem w2a (l:List Int) (hl:l.length≤100000): ∀(k i:Nat) (out:List Int),i+k=l.length→out.length≤i→ ∃m,Yv (Vo l) m (.to (.h0 out (i:Int)))=.ret [.dat ((l.drop i).foldl y5f out).length (Zz ((l.drop i).foldl y5f out))]
 | 0,i,out,h,ho=>by refine ⟨1,?_⟩;rw [Zv];simp (disch:=omega) only [Vo,Yx,cond_false];rw [List.drop_eq_nil_of_le (by omega)];rfl
 | k+1,i,out,h,ho=>by obtain ⟨m1,h1⟩:=w1z l out i (by omega) hl ho out.length 0 (Nat.le_refl _) rfl;obtain ⟨m2,h2⟩:=w2a l hl k (i+1) (y5f out (rd l i)) (by omega) (Nat.le_trans (y5e _ _) (by omega));refine ⟨m2+m1+1,?_⟩;rw [Zv];simp (disch:=omega) only [Vo,Zt,cond_true];rw [h1 m2,h2,Ym (show i<l.length by omega)];rfl
theorem v0c (l:List Int) (h:Kr l=true): ∃N,Yv (Vo l) N (z4z l)=.ret [.dat (z3o l).length (Zz (z3o l))]:=by
 have:=w2a l (of_decide_eq_true h) l.length 0 [] (by omega) (Nat.le_refl _)
 simpa [z4z,z3o] using this
end Go.Am
namespace Go.Am
open Go.Proofs
theorem Zf (n:Nat):Int.toNat ((n:Int) - 1)=n - 1:=by omega
theorem v8i (x y:R2):((x.a == y.a)&&(x.b == y.b))=decide (x=y):=by obtain ⟨a,b⟩:=x;obtain ⟨c,d⟩:=y;rw [Bool.eq_iff_iff];simp
theorem v8h (x y:R4):((x.a == y.a)&&((x.b == y.b)&&((x.c == y.c)&&(x.d == y.d))))=decide (x=y):=by obtain ⟨a,b,c,d⟩:=x;obtain ⟨e,f,g,h⟩:=y;rw [Bool.eq_iff_iff];simp
theorem v8g (x y:R6):(((x.a == y.a)&&((x.b == y.b)&&(x.c == y.c)))&&((x.d == y.d)&&((x.e == y.e)&&(x.f == y.f))))=decide (x=y):=by obtain ⟨a,b,c,d,e,f⟩:=x;obtain ⟨a',b',c',d',e',f'⟩:=y;rw [Bool.eq_iff_iff];simp [and_assoc]
def Qz (l m:List R2):Bool:=decide (l=m)
def Jv (l m:List R4):Bool:=decide (l=m)
def Kx (l m:List R6):Bool:=decide (l=m)
def Vf (l m:List R2):Bool:=decide (l.length≤1000000)
def Wb (l m:List R4):Bool:=decide (l.length≤1000000)
def Ve (l m:List R6):Bool:=decide (l.length≤1000000)
theorem z5k {α:Type} [DecidableEq α] (x y:α) (l m:List α):decide (x::l=y::m)=(decide (x=y)&&decide (l=m)):=by rw [←Bool.decide_and];congr 1;simp
theorem u2x (l m:List R2) (hl:l.length≤1000000) (hm:l.length=m.length): ∀(k i:Nat),i+k=l.length→ ∃N,Yv (z6f l m) N (.to (.h0 (i:Int)))=.ret [.bool (decide (l.drop i=m.drop i))]
 | 0,i,h=>by refine ⟨1,?_⟩;rw [Zv,List.drop_eq_nil_of_le (show l.length≤i by omega),List.drop_eq_nil_of_le (show m.length≤i by omega)];simp (disch:=omega) only [z6f,Xp,Yo,Zt,Yx,Xs,Yk,Yc,Yp,Yz,Zq,Zh,z0m,z0n,decide_true,Zx,Zr,Zf,Yg,Zj,Nat.zero_add,Bool.and_true,Bool.true_and,cond_true,cond_false,Bool.not_true,Bool.not_false,Zm]
 | k+1,i,h=>by
  obtain ⟨N,hN⟩:=u2x l m hl hm k (i+1) (by omega);refine ⟨N+1,?_⟩;rw [Zv,Ym (show i<l.length by omega),Ym (show i<m.length by omega),z5k];rcases Ye (decide (rd l i=rd m i)) with q | q
  ·simp (disch:=omega) only [z6f,v8i,q,Xp,Yo,Zt,Yx,Xs,Yk,Yc,Yp,Yz,Zq,Zh,z0m,z0n,decide_true,Zx,Zr,Zf,Yg,Zj,Nat.zero_add,Bool.and_true,Bool.true_and,cond_true,cond_false,Bool.not_true,Bool.not_false,Zm];exact hN
  ·simp (disch:=omega) only [z6f,v8i,q,Xp,Yo,Zt,Yx,Xs,Yk,Yc,Yp,Yz,Zq,Zh,z0m,z0n,decide_true,Zx,Zr,Zf,Yg,Zj,Nat.zero_add,Bool.and_true,Bool.true_and,cond_true,cond_false,Bool.not_true,Bool.not_false,Zm,Bool.false_and]
theorem u8b (l m:List R2) (h:Vf l m=true): ∃N,Yv (z6f l m) N (z7h l m)=.ret [.bool (Qz l m)]:=by
 have hl:l.length≤1000000:=of_decide_eq_true h;by_cases hm:l.length=m.length
 ·obtain ⟨N,hN⟩:=u2x l m hl hm l.length 0 (Nat.zero_add _);refine ⟨N,?_⟩;unfold z7h;rw [z0n (show (l.length:Int)=(m.length:Nat) by omega)];exact hN
 ·refine ⟨0,?_⟩;unfold z7h;rw [z0m (show (l.length:Int)≠(m.length:Nat) by omega)];have:Qz l m=false:=decide_eq_false fun e=>hm (by rw [e]);rw [this];rfl
theorem u2w (l m:List R4) (hl:l.length≤1000000) (hm:l.length=m.length): ∀(k i:Nat),i+k=l.length→ ∃N,Yv (z6e l m) N (.to (.h0 (i:Int)))=.ret [.bool (decide (l.drop i=m.drop i))]
 | 0,i,h=>by refine ⟨1,?_⟩;rw [Zv,List.drop_eq_nil_of_le (show l.length≤i by omega),List.drop_eq_nil_of_le (show m.length≤i by omega)];simp (disch:=omega) only [z6e,Xp,Yo,Zt,Yx,Xs,Yk,Yc,Yp,Yz,Zq,Zh,z0m,z0n,decide_true,Zx,Zr,Zf,Yg,Zj,Nat.zero_add,Bool.and_true,Bool.true_and,cond_true,cond_false,Bool.not_true,Bool.not_false,Zm]
 | k+1,i,h=>by
  obtain ⟨N,hN⟩:=u2w l m hl hm k (i+1) (by omega);refine ⟨N+1,?_⟩;rw [Zv,Ym (show i<l.length by omega),Ym (show i<m.length by omega),z5k];rcases Ye (decide (rd l i=rd m i)) with q | q
  ·simp (disch:=omega) only [z6e,v8h,q,Xp,Yo,Zt,Yx,Xs,Yk,Yc,Yp,Yz,Zq,Zh,z0m,z0n,decide_true,Zx,Zr,Zf,Yg,Zj,Nat.zero_add,Bool.and_true,Bool.true_and,cond_true,cond_false,Bool.not_true,Bool.not_false,Zm];exact hN
  ·simp (disch:=omega) only [z6e,v8h,q,Xp,Yo,Zt,Yx,Xs,Yk,Yc,Yp,Yz,Zq,Zh,z0m,z0n,decide_true,Zx,Zr,Zf,Yg,Zj,Nat.zero_add,Bool.and_true,Bool.true_and,cond_true,cond_false,Bool.not_true,Bool.not_false,Zm,Bool.false_and]
theorem u8a (l m:List R4) (h:Wb l m=true): ∃N,Yv (z6e l m) N (z7g l m)=.ret [.bool (Jv l m)]:=by
 have hl:l.length≤1000000:=of_decide_eq_true h;by_cases hm:l.length=m.length
 ·obtain ⟨N,hN⟩:=u2w l m hl hm l.length 0 (Nat.zero_add _);refine ⟨N,?_⟩;unfold z7g;rw [z0n (show (l.length:Int)=(m.length:Nat) by omega)];exact hN
 ·refine ⟨0,?_⟩;unfold z7g;rw [z0m (show (l.length:Int)≠(m.length:Nat) by omega)];have:Jv l m=false:=decide_eq_false fun e=>hm (by rw [e]);rw [this];rfl
theorem u2y (l m:List R6) (hl:l.length≤1000000) (hm:l.length=m.length): ∀(k i:Nat),i+k=l.length→ ∃N,Yv (z6g l m) N (.to (.h0 (i:Int)))=.ret [.bool (decide (l.drop i=m.drop i))]
 | 0,i,h=>by refine ⟨1,?_⟩;rw [Zv,List.drop_eq_nil_of_le (show l.length≤i by omega),List.drop_eq_nil_of_le (show m.length≤i by omega)];simp (disch:=omega) only [z6g,Xp,Yo,Zt,Yx,Xs,Yk,Yc,Yp,Yz,Zq,Zh,z0m,z0n,decide_true,Zx,Zr,Zf,Yg,Zj,Nat.zero_add,Bool.and_true,Bool.true_and,cond_true,cond_false,Bool.not_true,Bool.not_false,Zm]
 | k+1,i,h=>by
  obtain ⟨N,hN⟩:=u2y l m hl hm k (i+1) (by omega);refine ⟨N+1,?_⟩;rw [Zv,Ym (show i<l.length by omega),Ym (show i<m.length by omega),z5k];rcases Ye (decide (rd l i=rd m i)) with q | q
  ·simp (disch:=omega) only [z6g,v8g,q,Xp,Yo,Zt,Yx,Xs,Yk,Yc,Yp,Yz,Zq,Zh,z0m,z0n,decide_true,Zx,Zr,Zf,Yg,Zj,Nat.zero_add,Bool.and_true,Bool.true_and,cond_true,cond_false,Bool.not_true,Bool.not_false,Zm];exact hN
  ·simp (disch:=omega) only [z6g,v8g,q,Xp,Yo,Zt,Yx,Xs,Yk,Yc,Yp,Yz,Zq,Zh,z0m,z0n,decide_true,Zx,Zr,Zf,Yg,Zj,Nat.zero_add,Bool.and_true,Bool.true_and,cond_true,cond_false,Bool.not_true,Bool.not_false,Zm,Bool.false_and]
theorem u8c (l m:List R6) (h:Ve l m=true): ∃N,Yv (z6g l m) N (z7i l m)=.ret [.bool (Kx l m)]:=by
 have hl:l.length≤1000000:=of_decide_eq_true h;by_cases hm:l.length=m.length
 ·obtain ⟨N,hN⟩:=u2y l m hl hm l.length 0 (Nat.zero_add _);refine ⟨N,?_⟩;unfold z7i;rw [z0n (show (l.length:Int)=(m.length:Nat) by omega)];exact hN
 ·refine ⟨0,?_⟩;unfold z7i;rw [z0m (show (l.length:Int)≠(m.length:Nat) by omega)];have:Kx l m=false:=decide_eq_false fun e=>hm (by rw [e]);rw [this];rfl
theorem u5s (l m:List R2) (hl:l.length≤1000000) (hm:l.length=m.length): ∀(k i:Nat),i+k=l.length→ ∃N,Yv (z6v l m) N (.to (.h0 (i:Int)))=.ret [.bool (decide (l.drop i=m.drop i))]
 | 0,i,h=>by refine ⟨1,?_⟩;rw [Zv,List.drop_eq_nil_of_le (show l.length≤i by omega),List.drop_eq_nil_of_le (show m.length≤i by omega)];simp (disch:=omega) only [z6v,Xp,Yo,Zt,Yx,Xs,Yk,Yc,Yp,Yz,Zq,Zh,z0m,z0n,decide_true,Zx,Zr,Zf,Yg,Zj,Nat.zero_add,Bool.and_true,Bool.true_and,cond_true,cond_false,Bool.not_true,Bool.not_false,Zm]
 | k+1,i,h=>by
  obtain ⟨N,hN⟩:=u5s l m hl hm k (i+1) (by omega);refine ⟨N+1,?_⟩;rw [Zv,Ym (show i<l.length by omega),Ym (show i<m.length by omega),z5k];rcases Ye (decide (rd l i=rd m i)) with q | q
  ·simp (disch:=omega) only [z6v,v8i,q,Xp,Yo,Zt,Yx,Xs,Yk,Yc,Yp,Yz,Zq,Zh,z0m,z0n,decide_true,Zx,Zr,Zf,Yg,Zj,Nat.zero_add,Bool.and_true,Bool.true_and,cond_true,cond_false,Bool.not_true,Bool.not_false,Zm];exact hN
  ·simp (disch:=omega) only [z6v,v8i,q,Xp,Yo,Zt,Yx,Xs,Yk,Yc,Yp,Yz,Zq,Zh,z0m,z0n,decide_true,Zx,Zr,Zf,Yg,Zj,Nat.zero_add,Bool.and_true,Bool.true_and,cond_true,cond_false,Bool.not_true,Bool.not_false,Zm,Bool.false_and]
theorem j2i (l m:List R2) (h:Vf l m=true): ∃N,Yv (z6v l m) N (z8j l m)=.ret [.bool (Qz l m)]:=by
 have hl:l.length≤1000000:=of_decide_eq_true h;by_cases hm:l.length=m.length
 ·obtain ⟨N,hN⟩:=u5s l m hl hm l.length 0 (Nat.zero_add _);refine ⟨N,?_⟩;unfold z8j;rw [z0n (show (l.length:Int)=(m.length:Nat) by omega)];exact hN
 ·refine ⟨0,?_⟩;unfold z8j;rw [z0m (show (l.length:Int)≠(m.length:Nat) by omega)];have:Qz l m=false:=decide_eq_false fun e=>hm (by rw [e]);rw [this];rfl
theorem u5r (l m:List R4) (hl:l.length≤1000000) (hm:l.length=m.length): ∀(k i:Nat),i+k=l.length→ ∃N,Yv (z6u l m) N (.to (.h0 (i:Int)))=.ret [.bool (decide (l.drop i=m.drop i))]
 | 0,i,h=>by refine ⟨1,?_⟩;rw [Zv,List.drop_eq_nil_of_le (show l.length≤i by omega),List.drop_eq_nil_of_le (show m.length≤i by omega)];simp (disch:=omega) only [z6u,Xp,Yo,Zt,Yx,Xs,Yk,Yc,Yp,Yz,Zq,Zh,z0m,z0n,decide_true,Zx,Zr,Zf,Yg,Zj,Nat.zero_add,Bool.and_true,Bool.true_and,cond_true,cond_false,Bool.not_true,Bool.not_false,Zm]
 | k+1,i,h=>by
  obtain ⟨N,hN⟩:=u5r l m hl hm k (i+1) (by omega);refine ⟨N+1,?_⟩;rw [Zv,Ym (show i<l.length by omega),Ym (show i<m.length by omega),z5k];rcases Ye (decide (rd l i=rd m i)) with q | q
  ·simp (disch:=omega) only [z6u,v8h,q,Xp,Yo,Zt,Yx,Xs,Yk,Yc,Yp,Yz,Zq,Zh,z0m,z0n,decide_true,Zx,Zr,Zf,Yg,Zj,Nat.zero_add,Bool.and_true,Bool.true_and,cond_true,cond_false,Bool.not_true,Bool.not_false,Zm];exact hN
  ·simp (disch:=omega) only [z6u,v8h,q,Xp,Yo,Zt,Yx,Xs,Yk,Yc,Yp,Yz,Zq,Zh,z0m,z0n,decide_true,Zx,Zr,Zf,Yg,Zj,Nat.zero_add,Bool.and_true,Bool.true_and,cond_true,cond_false,Bool.not_true,Bool.not_false,Zm,Bool.false_and]
theorem j2h (l m:List R4) (h:Wb l m=true): ∃N,Yv (z6u l m) N (z8i l m)=.ret [.bool (Jv l m)]:=by
 have hl:l.length≤1000000:=of_decide_eq_true h;by_cases hm:l.length=m.length
 ·obtain ⟨N,hN⟩:=u5r l m hl hm l.length 0 (Nat.zero_add _);refine ⟨N,?_⟩;unfold z8i;rw [z0n (show (l.length:Int)=(m.length:Nat) by omega)];exact hN
 ·refine ⟨0,?_⟩;unfold z8i;rw [z0m (show (l.length:Int)≠(m.length:Nat) by omega)];have:Jv l m=false:=decide_eq_false fun e=>hm (by rw [e]);rw [this];rfl
theorem u5q (l m:List R6) (hl:l.length≤1000000) (hm:l.length=m.length): ∀(k i:Nat),i+k=l.length→ ∃N,Yv (z6t l m) N (.to (.h0 (i:Int)))=.ret [.bool (decide (l.drop i=m.drop i))]
 | 0,i,h=>by refine ⟨1,?_⟩;rw [Zv,List.drop_eq_nil_of_le (show l.length≤i by omega),List.drop_eq_nil_of_le (show m.length≤i by omega)];simp (disch:=omega) only [z6t,Xp,Yo,Zt,Yx,Xs,Yk,Yc,Yp,Yz,Zq,Zh,z0m,z0n,decide_true,Zx,Zr,Zf,Yg,Zj,Nat.zero_add,Bool.and_true,Bool.true_and,cond_true,cond_false,Bool.not_true,Bool.not_false,Zm]
 | k+1,i,h=>by
  obtain ⟨N,hN⟩:=u5q l m hl hm k (i+1) (by omega);refine ⟨N+1,?_⟩;rw [Zv,Ym (show i<l.length by omega),Ym (show i<m.length by omega),z5k];rcases Ye (decide (rd l i=rd m i)) with q | q
  ·simp (disch:=omega) only [z6t,v8g,q,Xp,Yo,Zt,Yx,Xs,Yk,Yc,Yp,Yz,Zq,Zh,z0m,z0n,decide_true,Zx,Zr,Zf,Yg,Zj,Nat.zero_add,Bool.and_true,Bool.true_and,cond_true,cond_false,Bool.not_true,Bool.not_false,Zm];exact hN
  ·simp (disch:=omega) only [z6t,v8g,q,Xp,Yo,Zt,Yx,Xs,Yk,Yc,Yp,Yz,Zq,Zh,z0m,z0n,decide_true,Zx,Zr,Zf,Yg,Zj,Nat.zero_add,Bool.and_true,Bool.true_and,cond_true,cond_false,Bool.not_true,Bool.not_false,Zm,Bool.false_and]
theorem j2g (l m:List R6) (h:Ve l m=true): ∃N,Yv (z6t l m) N (z8h l m)=.ret [.bool (Kx l m)]:=by
 have hl:l.length≤1000000:=of_decide_eq_true h;by_cases hm:l.length=m.length
 ·obtain ⟨N,hN⟩:=u5q l m hl hm l.length 0 (Nat.zero_add _);refine ⟨N,?_⟩;unfold z8h;rw [z0n (show (l.length:Int)=(m.length:Nat) by omega)];exact hN
 ·refine ⟨0,?_⟩;unfold z8h;rw [z0m (show (l.length:Int)≠(m.length:Nat) by omega)];have:Kx l m=false:=decide_eq_false fun e=>hm (by rw [e]);rw [this];rfl
def in4 (x y:Int) (r:R4):Bool:=decide (r.a≤x)&&(decide (x<r.c)&&(decide (r.b≤y)&&decide (y<r.d)))
def has4V (l:List R4) (x y:Int):Bool:=l.any (in4 x y)
def z0b (l:List R4) (x y:Int):Bool:=decide (l.length≤1000000)
theorem v0o (l:List R4) (x y:Int) (hl:l.length≤1000000): ∀(k i:Nat),i+k=l.length→ ∃N,Yv (z5c l x y) N (.to (.h0 (i:Int)))=.ret [.bool ((l.drop i).any (in4 x y))]
 | 0,i,h=>by refine ⟨1,?_⟩;rw [Zv,List.drop_eq_nil_of_le (show l.length≤i by omega)];simp (disch:=omega) only [z5c,Xp,Yo,Zt,Yx,Xs,Yk,Yc,Yp,Yz,Zq,Zh,z0m,z0n,decide_true,Zx,Zr,Zf,Yg,Zj,Nat.zero_add,Bool.and_true,Bool.true_and,cond_true,cond_false,Bool.not_true,Bool.not_false,Zm];rfl
 | k+1,i,h=>by
  obtain ⟨N,hN⟩:=v0o l x y hl k (i+1) (by omega);refine ⟨N+1,?_⟩;rw [Zv,Ym (show i<l.length by omega),List.any_cons];unfold in4 at hN ⊢;rcases Ye (decide ((rd l i).a ≤x)) with q1 | q1 <;> rcases Ye (decide (x<(rd l i).c)) with q2 | q2 <;> rcases Ye (decide ((rd l i).b ≤y)) with q3 | q3 <;> rcases Ye (decide (y<(rd l i).d)) with q4 | q4 <;>
   simp (disch:=omega) only [z5c,q1,q2,q3,q4,Xp,Yo,Zt,Yx,Xs,Yk,Yc,Yp,Yz,Zq,Zh,z0m,z0n,decide_true,Zx,Zr,Zf,Yg,Zj,Nat.zero_add,Bool.and_true,Bool.true_and,cond_true,cond_false,Bool.not_true,Bool.not_false,Zm,Bool.false_and,Bool.and_false,Bool.false_or,Bool.true_or] <;> exact hN
theorem v7m (l:List R4) (x y:Int) (h:z0b l x y=true): ∃N,Yv (z5c l x y) N (z7l l x y)=.ret [.bool (has4V l x y)]:=by
 have:=v0o l x y (of_decide_eq_true h) l.length 0 (Nat.zero_add _)
 simpa [z7l,has4V] using this
def on6 (z:Int) (b:R6):Bool:=decide (b.c≤z)&&decide (z<b.f)
def j0o (b:R6):R4:=⟨b.a,b.b,b.d,b.e⟩
def atV (l:List R6) (z:Int):List R4:=(l.filter (on6 z)).map j0o
def z5n (l:List R6) (z:Int):Bool:=decide (l.length≤1000000)
theorem v1g (l:List R6) (z:Int) (hl:l.length≤1000000): ∀(k i:Nat) (out:List R4),i+k=l.length→out.length≤i→ ∃N,Yv (z6h l z) N (.to (.h0 out (i:Int)))=.ret [.dat (out++atV (l.drop i) z).length (Zz (out++atV (l.drop i) z))]
 | 0,i,out,h,ho=>by refine ⟨1,?_⟩;rw [Zv,List.drop_eq_nil_of_le (show l.length≤i by omega)];simp (disch:=omega) only [z6h,Xp,Yo,Zt,Yx,Xs,Yk,Yc,Yp,Yz,Zq,Zh,z0m,z0n,decide_true,Zx,Zr,Zf,Yg,Zj,Nat.zero_add,Bool.and_true,Bool.true_and,cond_true,cond_false,Bool.not_true,Bool.not_false,Zm,atV,List.filter_nil,List.map_nil,List.append_nil]
 | k+1,i,out,h,ho=>by
  rw [Ym (show i<l.length by omega)];have e:atV (rd l i::l.drop (i+1)) z=(bif on6 z (rd l i) then [j0o (rd l i)] else [])++atV (l.drop (i+1)) z:=by unfold atV;rw [List.filter_cons];cases on6 z (rd l i) <;> rfl
  rw [e,←List.append_assoc];rcases Ye (decide ((rd l i).c ≤z)) with q1 | q1 <;> rcases Ye (decide (z<(rd l i).f)) with q2 | q2
  ·obtain ⟨N,hN⟩:=v1g l z hl k (i+1) (out++[j0o (rd l i)]) (by omega) (by simp;omega);refine ⟨N+1,?_⟩;rw [Zv];simp (disch:=omega) only [z6h,q1,q2,on6,Xp,Yo,Zt,Yx,Xs,Yk,Yc,Yp,Yz,Zq,Zh,z0m,z0n,decide_true,Zx,Zr,Zf,Yg,Zj,Nat.zero_add,Bool.and_true,Bool.true_and,cond_true,cond_false,Bool.not_true,Bool.not_false,Zm];exact hN
  all_goals
   obtain ⟨N,hN⟩:=v1g l z hl k (i+1) out (by omega) (by omega);refine ⟨N+1,?_⟩;rw [Zv];simp (disch:=omega) only [z6h,q1,q2,on6,Xp,Yo,Zt,Yx,Xs,Yk,Yc,Yp,Yz,Zq,Zh,z0m,z0n,decide_true,Zx,Zr,Zf,Yg,Zj,Nat.zero_add,Bool.and_true,Bool.true_and,cond_true,cond_false,Bool.not_true,Bool.not_false,Zm,Bool.false_and,Bool.and_false,List.append_nil];exact hN
theorem u8x (l:List R6) (z:Int) (h:z5n l z=true): ∃N,Yv (z6h l z) N (y2r l z)=.ret [.dat (atV l z).length (Zz (atV l z))]:=by
 have:=v1g l z (of_decide_eq_true h) l.length 0 [] (Nat.zero_add _) (Nat.le_refl _)
 simpa [y2r] using this
def w8r (cuts:List Int) (ins:List Bool):Nat→Nat→List R2→List R2
 | 0,_,out=>out
 | k+1,i,out=>w8r cuts ins k (i+1) (bif rd ins i then (bif decide (0<out.length)&&((rd out (out.length - 1)).b == rd cuts i) then out.set (out.length - 1) ⟨(rd out (out.length - 1)).a,rd cuts (i+1)⟩ else out++[⟨rd cuts i,rd cuts (i+1)⟩]) else out)
def y1p (cuts:List Int) (ins:List Bool):List R2:=w8r cuts ins (cuts.length - 1) 0 []
def z8t (cuts:List Int) (ins:List Bool):Bool:=decide (cuts.length≤1000000∧cuts.length≤ins.length+1)
theorem x0z (cuts:List Int) (ins:List Bool) (hl:cuts.length≤1000000) (hi:cuts.length≤ins.length+1): ∀(k i:Nat) (out:List R2),k=cuts.length - 1 - i→i≤cuts.length→out.length≤i→ ∃N,Yv (Qh cuts ins) N (.to (.h0 out (i:Int)))=.ret [.dat (w8r cuts ins k i out).length (Zz (w8r cuts ins k i out))]
 | 0,i,out,h,hi2,ho=>by refine ⟨1,?_⟩;rw [Zv];simp (disch:=omega) only [Qh,Xp,Yo,Zt,Yx,Xs,Yk,Yc,Yp,Yz,Zq,Zh,z0m,z0n,decide_true,Zx,Zr,Zf,Yg,Zj,Nat.zero_add,Bool.and_true,Bool.true_and,cond_true,cond_false,Bool.not_true,Bool.not_false,Zm,w8r]
 | k+1,i,out,h,hi2,ho=>by
  unfold w8r;rcases Ye (rd ins i) with q | q
  ·rcases Ye (decide (0<out.length)&&((rd out (out.length - 1)).b == rd cuts i)) with q2 | q2
   ·obtain ⟨N,hN⟩:=x0z cuts ins hl hi k (i+1) (out.set (out.length - 1) ⟨(rd out (out.length - 1)).a,rd cuts (i+1)⟩) (by omega) (by omega) (by simp;omega);refine ⟨N+1,?_⟩;rw [Zv,q,q2];simp only [Bool.and_eq_true,decide_eq_true_eq] at q2;simp (disch:=omega) only [Qh,q,q2.2,Xp,Yo,Zt,Yx,Xs,Yk,Yc,Yp,Yz,Zq,Zh,z0m,z0n,decide_true,Zx,Zr,Zf,Yg,Zj,Nat.zero_add,Bool.and_true,Bool.true_and,cond_true,cond_false,Bool.not_true,Bool.not_false,Zm];exact hN
   ·obtain ⟨N,hN⟩:=x0z cuts ins hl hi k (i+1) (out++[⟨rd cuts i,rd cuts (i+1)⟩]) (by omega) (by omega) (by simp;omega);refine ⟨N+1,?_⟩;rw [Zv,q,q2];by_cases h0:0<out.length
    ·rw [decide_eq_true h0,Bool.true_and] at q2;simp (disch:=omega) only [Qh,q,q2,Xp,Yo,Zt,Yx,Xs,Yk,Yc,Yp,Yz,Zq,Zh,z0m,z0n,decide_true,Zx,Zr,Zf,Yg,Zj,Nat.zero_add,Bool.and_true,Bool.true_and,cond_true,cond_false,Bool.not_true,Bool.not_false,Zm];exact hN
    ·simp (disch:=omega) only [Qh,q,Xp,Yo,Zt,Yx,Xs,Yk,Yc,Yp,Yz,Zq,Zh,z0m,z0n,decide_true,Zx,Zr,Zf,Yg,Zj,Nat.zero_add,Bool.and_true,Bool.true_and,cond_true,cond_false,Bool.not_true,Bool.not_false,Zm];exact hN
  ·obtain ⟨N,hN⟩:=x0z cuts ins hl hi k (i+1) out (by omega) (by omega) (by omega);refine ⟨N+1,?_⟩;rw [Zv,q];simp (disch:=omega) only [Qh,q,Xp,Yo,Zt,Yx,Xs,Yk,Yc,Yp,Yz,Zq,Zh,z0m,z0n,decide_true,Zx,Zr,Zf,Yg,Zj,Nat.zero_add,Bool.and_true,Bool.true_and,cond_true,cond_false,Bool.not_true,Bool.not_false,Zm];exact hN
theorem v8c (cuts:List Int) (ins:List Bool) (h:z8t cuts ins=true): ∃N,Yv (Qh cuts ins) N (z7s cuts ins)=.ret [.dat (y1p cuts ins).length (Zz (y1p cuts ins))]:=by
 obtain ⟨h1,h2⟩:=of_decide_eq_true h;have:=x0z cuts ins h1 h2 (cuts.length - 1) 0 [] (by omega) (Nat.zero_le _) (Nat.le_refl _)
 simpa [z7s,y1p] using this
end Go.Am
namespace Go.Am
abbrev v1u :Nat:=70
abbrev u4s :Nat:=142
abbrev u4h :Nat:=169
abbrev u4p :Nat:=167
abbrev nHas4 :Nat:=168
abbrev u4g :Nat:=128
abbrev nXs :Nat:=165
abbrev nYs :Nat:=166
abbrev u4o :Nat:=126
abbrev u4f :Nat:=20
abbrev nAt :Nat:=127
abbrev nCuts :Nat:=125
abbrev u4n :Nat:=72
abbrev v1z :Nat:=53
abbrev nEq2 :Nat:=188
abbrev nEq4 :Nat:=172
abbrev nEq6 :Nat:=99
abbrev u4d :Nat:=200
abbrev w2v :Nat:=201
abbrev nSort :Nat:=63
abbrev w2w :Nat:=64
abbrev nFst :Nat:=187
abbrev x4h :Nat:=157
abbrev w2u :Nat:=65
abbrev v1y :Nat:=121
abbrev w2s :Nat:=120
abbrev w2r :Nat:=94
abbrev v1x :Nat:=87
abbrev x4i :Nat:=51
abbrev w2q :Nat:=191
abbrev nSpU1 :Nat:=164
abbrev nSpE1 :Nat:=170
abbrev nSpD1 :Nat:=163
abbrev nSpU :Nat:=124
abbrev nSpE :Nat:=129
abbrev nSpD :Nat:=123
abbrev w2t :Nat:=189
abbrev nRgU :Nat:=67
abbrev nRgE :Nat:=79
abbrev nRgD :Nat:=66
abbrev v1w :Nat:=47
abbrev v1v :Nat:=33
abbrev u4e :Nat:=48
-- not there: gambrel/solid.Hull
abbrev nSHas :Nat:=43
-- not there: gambrel/gambrelref39.Floor
abbrev nMCut :Nat:=141
abbrev v2c :Nat:=101
abbrev u4k :Nat:=52
abbrev nMOf :Nat:=15
abbrev v2b :Nat:=17
abbrev u4j :Nat:=58
abbrev v2a :Nat:=22
abbrev v2d :Nat:=24
abbrev u4m :Nat:=45
abbrev u4i :Nat:=91
abbrev nMVol :Nat:=46
abbrev u4l :Nat:=73
abbrev w2x :Nat:=36
abbrev u4r :Nat:=42
abbrev u4q :Nat:=37
abbrev nMv1 :Nat:=105
abbrev nMv2 :Nat:=106
abbrev nMv3 :Nat:=107
abbrev nMv4 :Nat:=108
abbrev nMv5 :Nat:=109
abbrev nMv6 :Nat:=110
abbrev nMv7 :Nat:=111
abbrev nMv8 :Nat:=112
abbrev nMv9 :Nat:=113
end Go.Am
namespace Go.Am
open Go.Proofs.Tryz
open Go.Proofs
def y5h (k:Int) (a b:Bool):Bool:=bif k == 1 then a&&b else bif k == 2 then a||b else a&& !b
def w3r (a b:Bool):Bool:=a
theorem j0l (k:Int) (a b:Bool): ∃N,Yv (x9p k a b) N (y3h k a b)=.ret [.bool (y5h k a b)]:=by
 refine ⟨0,?_⟩;unfold y3h y5h;cases a <;> cases b <;> rcases Ye (k == 1) with q | q <;> rcases Ye (k == 2) with q2 | q2 <;> rw [q] <;> (try rw [q2]) <;> rfl
theorem j0m (a b:Bool): ∃N,Yv (x9s a b) N (x2a a b)=.ret [.bool (w3r a b)]:=⟨0,rfl⟩
def fSrt :List AVal→Option (AVal×Bool)
 | [a0]=>match asL Int a0 with
  | some (L0,g0,n0)=>some (.dat (z3o L0).length (Zz (z3o L0)),isT Int n0 g0&&(Kr L0))
  | _=>none
 | _=>none
theorem j1a {S:Specs} (hS:Zu prog S):Zu prog (S.with v1u fSrt):=by
 refine z2d hS (by kernel_rfl) fun args v h=> ?_;unfold fSrt at h;split at h
 ·rename_i a0;split at h
  ·rename_i L0 g0 n0 e0;simp only [Option.some.injEq,Prod.mk.injEq,Bool.and_eq_true] at h;obtain ⟨rfl,ho0,hw⟩:=h;obtain ⟨N,hN⟩:=v0c L0 hw;exact ⟨_,_,(.cons (asL_le e0 ho0) .nil),rfl,w5q L0 N _ hN,3,rfl⟩
  ·cases h
 ·cases h
def fCan :List AVal→Option (AVal×Bool)
 | [a0,a1]=>match asL Int a0,asL Bool a1 with
  | some (L0,g0,n0),some (L1,g1,n1)=>some (.dat (y1p L0 L1).length (Zz (y1p L0 L1)),isT Int n0 g0&&(isT Bool n1 g1&&(z8t L0 L1)))
  | _,_=>none
 | _=>none
theorem j2e {S:Specs} (hS:Zu prog S):Zu prog (S.with u4s fCan):=by
 refine z2d hS (by kernel_rfl) fun args v h=> ?_;unfold fCan at h;split at h
 ·rename_i a0 a1;split at h
  ·rename_i L0 g0 n0 L1 g1 n1 e0 e1;simp only [Option.some.injEq,Prod.mk.injEq,Bool.and_eq_true] at h;obtain ⟨rfl,ho0,ho1,hw⟩:=h;obtain ⟨N,hN⟩:=v8c L0 L1 hw;exact ⟨_,_,(.cons (asL_le e0 ho0) (.cons (asL_le e1 ho1) .nil)),rfl,v1f L0 L1 N _ hN,3,rfl⟩
  ·cases h
 ·cases h
def y9r :List AVal→Option (AVal×Bool)
 | [a0,a1]=>match asL R2 a0,asL R2 a1 with
  | some (L0,g0,n0),some (L1,g1,n1)=>some (.bool (Qz L0 L1),isT R2 n0 g0&&(isT R2 n1 g1&&(Vf L0 L1)))
  | _,_=>none
 | _=>none
theorem v4d {S:Specs} (hS:Zu prog S):Zu prog (S.with u4h y9r):=by
 refine z2d hS (by kernel_rfl) fun args v h=> ?_;unfold y9r at h;split at h
 ·rename_i a0 a1;split at h
  ·rename_i L0 g0 n0 L1 g1 n1 e0 e1;simp only [Option.some.injEq,Prod.mk.injEq,Bool.and_eq_true] at h;obtain ⟨rfl,ho0,ho1,hw⟩:=h;obtain ⟨N,hN⟩:=u8b L0 L1 hw;exact ⟨_,_,(.cons (asL_le e0 ho0) (.cons (asL_le e1 ho1) .nil)),rfl,v7f L0 L1 N _ hN,3,rfl⟩
  ·cases h
 ·cases h
def y9q :List AVal→Option (AVal×Bool)
 | [a0,a1]=>match asL R4 a0,asL R4 a1 with
  | some (L0,g0,n0),some (L1,g1,n1)=>some (.bool (Jv L0 L1),isT R4 n0 g0&&(isT R4 n1 g1&&(Wb L0 L1)))
  | _,_=>none
 | _=>none
theorem v4c {S:Specs} (hS:Zu prog S):Zu prog (S.with u4g y9q):=by
 refine z2d hS (by kernel_rfl) fun args v h=> ?_;unfold y9q at h;split at h
 ·rename_i a0 a1;split at h
  ·rename_i L0 g0 n0 L1 g1 n1 e0 e1;simp only [Option.some.injEq,Prod.mk.injEq,Bool.and_eq_true] at h;obtain ⟨rfl,ho0,ho1,hw⟩:=h;obtain ⟨N,hN⟩:=u8a L0 L1 hw;exact ⟨_,_,(.cons (asL_le e0 ho0) (.cons (asL_le e1 ho1) .nil)),rfl,v7e L0 L1 N _ hN,3,rfl⟩
  ·cases h
 ·cases h
def y9p :List AVal→Option (AVal×Bool)
 | [a0,a1]=>match asL R6 a0,asL R6 a1 with
  | some (L0,g0,n0),some (L1,g1,n1)=>some (.bool (Kx L0 L1),isT R6 n0 g0&&(isT R6 n1 g1&&(Ve L0 L1)))
  | _,_=>none
 | _=>none
theorem v4b {S:Specs} (hS:Zu prog S):Zu prog (S.with u4f y9p):=by
 refine z2d hS (by kernel_rfl) fun args v h=> ?_;unfold y9p at h;split at h
 ·rename_i a0 a1;split at h
  ·rename_i L0 g0 n0 L1 g1 n1 e0 e1;simp only [Option.some.injEq,Prod.mk.injEq,Bool.and_eq_true] at h;obtain ⟨rfl,ho0,ho1,hw⟩:=h;obtain ⟨N,hN⟩:=u8c L0 L1 hw;exact ⟨_,_,(.cons (asL_le e0 ho0) (.cons (asL_le e1 ho1) .nil)),rfl,v7g L0 L1 N _ hN,3,rfl⟩
  ·cases h
 ·cases h
def j1x :List AVal→Option (AVal×Bool)
 | [a0,.int .i64 x1,.int .i64 x2]=>match asL R4 a0 with
  | some (L0,g0,n0)=>some (.bool (has4V L0 x1 x2),isT R4 n0 g0&&(z0b L0 x1 x2))
  | _=>none
 | _=>none
theorem u0j {S:Specs} (hS:Zu prog S):Zu prog (S.with nHas4 j1x):=by
 refine z2d hS (by kernel_rfl) fun args v h=> ?_;unfold j1x at h;split at h
 ·rename_i a0 x1 x2;split at h
  ·rename_i L0 g0 n0 e0;simp only [Option.some.injEq,Prod.mk.injEq,Bool.and_eq_true] at h;obtain ⟨rfl,ho0,hw⟩:=h;obtain ⟨N,hN⟩:=v7m L0 x1 x2 hw;exact ⟨_,_,(.cons (asL_le e0 ho0) (.cons (.refl _) (.cons (.refl _) .nil))),rfl,v0p L0 x1 x2 N _ hN,3,rfl⟩
  ·cases h
 ·cases h
def fAt :List AVal→Option (AVal×Bool)
 | [a0,.int .i64 x1]=>match asL R6 a0 with
  | some (L0,g0,n0)=>some (.dat (atV L0 x1).length (Zz (atV L0 x1)),isT R6 n0 g0&&(z5n L0 x1))
  | _=>none
 | _=>none
theorem fAt_ok {S:Specs} (hS:Zu prog S):Zu prog (S.with nAt fAt):=by
 refine z2d hS (by kernel_rfl) fun args v h=> ?_;unfold fAt at h;split at h
 ·rename_i a0 x1;split at h
  ·rename_i L0 g0 n0 e0;simp only [Option.some.injEq,Prod.mk.injEq,Bool.and_eq_true] at h;obtain ⟨rfl,ho0,hw⟩:=h;obtain ⟨N,hN⟩:=u8x L0 x1 hw;exact ⟨_,_,(.cons (asL_le e0 ho0) (.cons (.refl _) .nil)),rfl,v8d L0 x1 N _ hN,3,rfl⟩
  ·cases h
 ·cases h
def v4g :List AVal→Option (AVal×Bool)
 | [.int .i64 x0,.bool b1,.bool b2]=>some (.bool (y5h x0 b1 b2),true)
 | _=>none
theorem v4f {S:Specs} (hS:Zu prog S):Zu prog (S.with u4p v4g):=by
 refine z2d hS (by kernel_rfl) fun args v h=> ?_;unfold v4g at h;split at h
 ·rename_i x0 b1 b2;simp only [Option.some.injEq,Prod.mk.injEq,and_true] at h;subst h;obtain ⟨N,hN⟩:=j0l x0 b1 b2;exact ⟨_,_,(.cons (.refl _) (.cons (.refl _) (.cons (.refl _) .nil))),rfl,u0b x0 b1 b2 N _ hN,3,rfl⟩
 ·cases h
def fFst :List AVal→Option (AVal×Bool)
 | [.bool b0,.bool b1]=>some (.bool (w3r b0 b1),true)
 | _=>none
theorem j1y {S:Specs} (hS:Zu prog S):Zu prog (S.with nFst fFst):=by
 refine z2d hS (by kernel_rfl) fun args v h=> ?_;unfold fFst at h;split at h
 ·rename_i b0 b1;simp only [Option.some.injEq,Prod.mk.injEq,and_true] at h;subst h;obtain ⟨N,hN⟩:=j0m b0 b1;exact ⟨_,_,(.cons (.refl _) (.cons (.refl _) .nil)),rfl,u0c b0 b1 N _ hN,3,rfl⟩
 ·cases h
theorem w7o {S:Specs} (hS:Zu prog S):Zu prog (S.with nEq2 y9r):=by
 refine z2d hS (by kernel_rfl) fun args v h=> ?_;unfold y9r at h;split at h
 ·rename_i a0 a1;split at h
  ·rename_i L0 g0 n0 L1 g1 n1 e0 e1;simp only [Option.some.injEq,Prod.mk.injEq,Bool.and_eq_true] at h;obtain ⟨rfl,ho0,ho1,hw⟩:=h;obtain ⟨N,hN⟩:=j2i L0 L1 hw;exact ⟨_,_,(.cons (asL_le e0 ho0) (.cons (asL_le e1 ho1) .nil)),rfl,u0q L0 L1 N _ hN,3,rfl⟩
  ·cases h
 ·cases h
theorem w7n {S:Specs} (hS:Zu prog S):Zu prog (S.with nEq4 y9q):=by
 refine z2d hS (by kernel_rfl) fun args v h=> ?_;unfold y9q at h;split at h
 ·rename_i a0 a1;split at h
  ·rename_i L0 g0 n0 L1 g1 n1 e0 e1;simp only [Option.some.injEq,Prod.mk.injEq,Bool.and_eq_true] at h;obtain ⟨rfl,ho0,ho1,hw⟩:=h;obtain ⟨N,hN⟩:=j2h L0 L1 hw;exact ⟨_,_,(.cons (asL_le e0 ho0) (.cons (asL_le e1 ho1) .nil)),rfl,u0p L0 L1 N _ hN,3,rfl⟩
  ·cases h
 ·cases h
theorem w7m {S:Specs} (hS:Zu prog S):Zu prog (S.with nEq6 y9p):=by
 refine z2d hS (by kernel_rfl) fun args v h=> ?_;unfold y9p at h;split at h
 ·rename_i a0 a1;split at h
  ·rename_i L0 g0 n0 L1 g1 n1 e0 e1;simp only [Option.some.injEq,Prod.mk.injEq,Bool.and_eq_true] at h;obtain ⟨rfl,ho0,ho1,hw⟩:=h;obtain ⟨N,hN⟩:=j2g L0 L1 hw;exact ⟨_,_,(.cons (asL_le e0 ho0) (.cons (asL_le e1 ho1) .nil)),rfl,u0o L0 L1 N _ hN,3,rfl⟩
  ·cases h
 ·cases h
def T1 :Specs:=((((((((((((noSpecs.with v1u fSrt).with u4s fCan).with u4h y9r).with u4g y9q).with u4f y9p).with nHas4 j1x).with nAt fAt).with u4p v4g).with nFst fFst).with nEq2 y9r).with nEq4 y9q).with nEq6 y9p)
theorem z3l :Zu prog T1:=w7m (w7n (w7o (j1y (v4f (fAt_ok (u0j (v4b (v4c (v4d (j2e (j1a Zp)))))))))))
end Go.Am
namespace Go.Am
open Go.Proofs.Tryz
open Go.Proofs
inductive rxsS where
 | h0 (v5:List Int) (v6:Int)
 | h1 (v5:List Int) (v7:Int)
def rxsC (l0:List R4) (l1:List R4):rxsS→Cfg
 | .h0 v5 v6=>⟨⟨48,0,true⟩,none,(Zd prog 165 [1,1,0,1,0,0] 0),none,(Zy prog 5),⟨Yd [(0,(.dat l0.length (Zz l0))),(1,(.dat l1.length (Zz l1))),(5,(.sla 0 1 0 v5.length (.un 1))),(6,(ii v6))],Uw [⟨rows v5.length (Zz v5),3,some ⟨1,v5.length,(Zz v5)⟩⟩] 0,1,[],true⟩,[],.leaf⟩
 | .h1 v5 v7=>⟨⟨48,0,true⟩,none,(Zd prog 165 [1,1,1,0,1,0,0] 0),none,(Zy prog 5),⟨Yd [(1,(.dat l1.length (Zz l1))),(5,(.sla 0 1 0 v5.length (.un 1))),(7,(ii v7))],Uw [⟨rows v5.length (Zz v5),3,some ⟨1,v5.length,(Zz v5)⟩⟩] 0,1,[],true⟩,[],.leaf⟩
def rxsN0 :List (Option (List Nat)):=[some [0,1,5,6]]
def rxsM0 :List (Option (List Nat)):=[]
def rxsN1 :List (Option (List Nat)):=[some [1,5,7]]
def rxsM1 :List (Option (List Nat)):=[]
def z2s (l0:List R4) (l1:List R4):rxsS→Xb rxsS
 | .h0 v5 v6=>(bif (decide (v6<(l0.length:Int))) then (bif ((decide (0≤v6∧v6<(l0.length:Int)))&&true) then (bif (Nat.beq 1 1&&((decide (0+v5.length=v5.length))&&decide ((v5.length+2+1)*(8+1)≤Ju))) then (.to (.h0 (v5++[(rd l0 v6.toNat).a,(rd l0 v6.toNat).c]) (IntKind.wrap .i64 (v6+1)))) else .stuck) else .stuck) else (.to (.h1 v5 0)))
 | .h1 v5 v7=>(bif (decide (v7<(l1.length:Int))) then (bif ((decide (0≤v7∧v7<(l1.length:Int)))&&true) then (bif (Nat.beq 1 1&&((decide (0+v5.length=v5.length))&&decide ((v5.length+2+1)*(8+1)≤Ju))) then (.to (.h1 (v5++[(rd l1 v7.toNat).a,(rd l1 v7.toNat).c]) (IntKind.wrap .i64 (v7+1)))) else .stuck) else .stuck) else (bif (Kr (cvT v5)) then (.ret [(.dat (z3o (cvT v5)).length (Zz (z3o (cvT v5))))]) else .stuck))
def y2k (l0:List R4) (l1:List R4):Xb rxsS:=(.to (.h0 ([]:List Int) 0))
theorem w5o (l0:List R4) (l1:List R4): ∀s,Xv prog (Zy prog 165) (rxsC l0 l1) (rxsC l0 l1 s) (z2s l0 l1 s)
 | .h0 v5 v6=>(lb (fun k0=>(lo fun o0=>(lo fun o1=>(sl z3l 20 [] ⟨[2],[],rxsN0,rxsM0⟩ ⟨[(5,.len (v5++[(rd l0 (tn v6)).a,(rd l0 (tn v6)).c]).length)],[.rowed 1 (v5++[(rd l0 (tn v6)).a,(rd l0 (tn v6)).c]).length (Zz (v5++[(rd l0 (tn v6)).a,(rd l0 (tn v6)).c]))],[]⟩ [true] (pp (xL (v5.length+2) (v5++[(rd l0 (tn v6)).a,(rd l0 (tn v6)).c]).length) (pp (xL (v5.length+2) (v5++[(rd l0 (tn v6)).a,(rd l0 (tn v6)).c]).length) (pp (xS (v5.length+2) (Zi (Zz v5) 0 v5.length 1 [(ii (rd l0 (tn v6)).a),(ii (rd l0 (tn v6)).c)]) (Zz (v5++[(rd l0 (tn v6)).a,(rd l0 (tn v6)).c]))) (pp (pp (xF (Zi (Zz v5) 0 v5.length 1 [(ii (rd l0 (tn v6)).a),(ii (rd l0 (tn v6)).c)])) nn) (ww o1 (ww o0 (ww o0 (tt k0 nn)))))))))))) (fun k0=>(sl z3l 17 [] ⟨[0],[],rxsN1,rxsM1⟩ ⟨[],[],[]⟩ [false] (pp (fl v5 nn) (tt k0 nn)))))
 | .h1 v5 v7=>(lb (fun k0=>(lo fun o0=>(lo fun o1=>(sl z3l 20 [] ⟨[2],[],rxsN1,rxsM1⟩ ⟨[(5,.len (v5++[(rd l1 (tn v7)).a,(rd l1 (tn v7)).c]).length)],[.rowed 1 (v5++[(rd l1 (tn v7)).a,(rd l1 (tn v7)).c]).length (Zz (v5++[(rd l1 (tn v7)).a,(rd l1 (tn v7)).c]))],[]⟩ [true] (pp (xL (v5.length+2) (v5++[(rd l1 (tn v7)).a,(rd l1 (tn v7)).c]).length) (pp (xL (v5.length+2) (v5++[(rd l1 (tn v7)).a,(rd l1 (tn v7)).c]).length) (pp (xS (v5.length+2) (Zi (Zz v5) 0 v5.length 1 [(ii (rd l1 (tn v7)).a),(ii (rd l1 (tn v7)).c)]) (Zz (v5++[(rd l1 (tn v7)).a,(rd l1 (tn v7)).c]))) (pp (pp (xF (Zi (Zz v5) 0 v5.length 1 [(ii (rd l1 (tn v7)).a),(ii (rd l1 (tn v7)).c)])) nn) (ww o1 (ww o0 (ww o0 (tt k0 nn)))))))))))) (fun k0=>(Ws (sl z3l (C':=⟨⟨48,0,true⟩,(Jk prog 165 [1,1,1,1,0] 1),(Zd prog 165 [1,1,1,1,0] 1),none,(Zy prog 5),⟨Yd [(46,(.dat v5.length (Zz v5)))],Uw [] 0,0,[],true⟩,[],.leaf⟩) 13 [] ⟨[],[0],[some [46]],[]⟩ ⟨[(46,.frz v5.length v5.length (Zz v5) (Zz v5))],[],[]⟩ [false] (pp (xZ (z6q 1 1 0 v5.length v5.length (Zz v5)) v5.length (Zz v5)) (pp (xL v5.length v5.length) (pp (xS v5.length (Zz v5) (Zz v5)) (pp (fl v5 nn) (tt k0 nn)))))) (lo fun o0=>(lr 48 3 [1,1,1,1,1,1,1,0] 1 5 [(4,(.dat (z3o (cvT v5)).length (Zz (z3o (cvT v5)))))] (sl z3l 3 [] ⟨[],[],[some [4]],[]⟩ ⟨[],[],[]⟩ [] (pp (pp (xr v5) (xw o0)) nn)))))))
theorem x7f (l0:List R4) (l1:List R4):Xv prog (Zy prog 165) (rxsC l0 l1) (Zc prog 165 [(.dat l0.length (Zz l0)),(.dat l1.length (Zz l1))] true []) (y2k l0 l1):=(sl z3l 15 [(3,1,Zz ([]:List Int))] ⟨[0],[],rxsN0,rxsM0⟩ ⟨[(5,.grow 0 1)],[],[]⟩ [] (pp (fl ([]:List Int) nn) nn))
theorem v7d (l0:List R4) (l1:List R4) (n:Nat) (vs:List AVal) (h:Yv (z2s l0 l1) n (y2k l0 l1)=.ret vs):Jt prog (Zy prog 165) (Zc prog 165 [(.dat l0.length (Zz l0)),(.dat l1.length (Zz l1))] true []) vs:=by have:=Ze (w5o l0 l1) n _ (x7f l0 l1);rwa [h] at this
inductive rysS where
 | h0 (v5:List Int) (v6:Int)
 | h1 (v5:List Int) (v7:Int)
def rysC (l0:List R4) (l1:List R4):rysS→Cfg
 | .h0 v5 v6=>⟨⟨48,0,true⟩,none,(Zd prog 166 [1,1,0,1,0,0] 0),none,(Zy prog 5),⟨Yd [(0,(.dat l0.length (Zz l0))),(1,(.dat l1.length (Zz l1))),(5,(.sla 0 1 0 v5.length (.un 1))),(6,(ii v6))],Uw [⟨rows v5.length (Zz v5),3,some ⟨1,v5.length,(Zz v5)⟩⟩] 0,1,[],true⟩,[],.leaf⟩
 | .h1 v5 v7=>⟨⟨48,0,true⟩,none,(Zd prog 166 [1,1,1,0,1,0,0] 0),none,(Zy prog 5),⟨Yd [(1,(.dat l1.length (Zz l1))),(5,(.sla 0 1 0 v5.length (.un 1))),(7,(ii v7))],Uw [⟨rows v5.length (Zz v5),3,some ⟨1,v5.length,(Zz v5)⟩⟩] 0,1,[],true⟩,[],.leaf⟩
def rysN0 :List (Option (List Nat)):=[some [0,1,5,6]]
def rysM0 :List (Option (List Nat)):=[]
def rysN1 :List (Option (List Nat)):=[some [1,5,7]]
def rysM1 :List (Option (List Nat)):=[]
def z2r (l0:List R4) (l1:List R4):rysS→Xb rysS
 | .h0 v5 v6=>(bif (decide (v6<(l0.length:Int))) then (bif ((decide (0≤v6∧v6<(l0.length:Int)))&&true) then (bif (Nat.beq 1 1&&((decide (0+v5.length=v5.length))&&decide ((v5.length+2+1)*(8+1)≤Ju))) then (.to (.h0 (v5++[(rd l0 v6.toNat).b,(rd l0 v6.toNat).d]) (IntKind.wrap .i64 (v6+1)))) else .stuck) else .stuck) else (.to (.h1 v5 0)))
 | .h1 v5 v7=>(bif (decide (v7<(l1.length:Int))) then (bif ((decide (0≤v7∧v7<(l1.length:Int)))&&true) then (bif (Nat.beq 1 1&&((decide (0+v5.length=v5.length))&&decide ((v5.length+2+1)*(8+1)≤Ju))) then (.to (.h1 (v5++[(rd l1 v7.toNat).b,(rd l1 v7.toNat).d]) (IntKind.wrap .i64 (v7+1)))) else .stuck) else .stuck) else (bif (Kr (cvT v5)) then (.ret [(.dat (z3o (cvT v5)).length (Zz (z3o (cvT v5))))]) else .stuck))
def y2j (l0:List R4) (l1:List R4):Xb rysS:=(.to (.h0 ([]:List Int) 0))
theorem w5n (l0:List R4) (l1:List R4): ∀s,Xv prog (Zy prog 166) (rysC l0 l1) (rysC l0 l1 s) (z2r l0 l1 s)
 | .h0 v5 v6=>(lb (fun k0=>(lo fun o0=>(lo fun o1=>(sl z3l 20 [] ⟨[2],[],rysN0,rysM0⟩ ⟨[(5,.len (v5++[(rd l0 (tn v6)).b,(rd l0 (tn v6)).d]).length)],[.rowed 1 (v5++[(rd l0 (tn v6)).b,(rd l0 (tn v6)).d]).length (Zz (v5++[(rd l0 (tn v6)).b,(rd l0 (tn v6)).d]))],[]⟩ [true] (pp (xL (v5.length+2) (v5++[(rd l0 (tn v6)).b,(rd l0 (tn v6)).d]).length) (pp (xL (v5.length+2) (v5++[(rd l0 (tn v6)).b,(rd l0 (tn v6)).d]).length) (pp (xS (v5.length+2) (Zi (Zz v5) 0 v5.length 1 [(ii (rd l0 (tn v6)).b),(ii (rd l0 (tn v6)).d)]) (Zz (v5++[(rd l0 (tn v6)).b,(rd l0 (tn v6)).d]))) (pp (pp (xF (Zi (Zz v5) 0 v5.length 1 [(ii (rd l0 (tn v6)).b),(ii (rd l0 (tn v6)).d)])) nn) (ww o1 (ww o0 (ww o0 (tt k0 nn)))))))))))) (fun k0=>(sl z3l 17 [] ⟨[0],[],rysN1,rysM1⟩ ⟨[],[],[]⟩ [false] (pp (fl v5 nn) (tt k0 nn)))))
 | .h1 v5 v7=>(lb (fun k0=>(lo fun o0=>(lo fun o1=>(sl z3l 20 [] ⟨[2],[],rysN1,rysM1⟩ ⟨[(5,.len (v5++[(rd l1 (tn v7)).b,(rd l1 (tn v7)).d]).length)],[.rowed 1 (v5++[(rd l1 (tn v7)).b,(rd l1 (tn v7)).d]).length (Zz (v5++[(rd l1 (tn v7)).b,(rd l1 (tn v7)).d]))],[]⟩ [true] (pp (xL (v5.length+2) (v5++[(rd l1 (tn v7)).b,(rd l1 (tn v7)).d]).length) (pp (xL (v5.length+2) (v5++[(rd l1 (tn v7)).b,(rd l1 (tn v7)).d]).length) (pp (xS (v5.length+2) (Zi (Zz v5) 0 v5.length 1 [(ii (rd l1 (tn v7)).b),(ii (rd l1 (tn v7)).d)]) (Zz (v5++[(rd l1 (tn v7)).b,(rd l1 (tn v7)).d]))) (pp (pp (xF (Zi (Zz v5) 0 v5.length 1 [(ii (rd l1 (tn v7)).b),(ii (rd l1 (tn v7)).d)])) nn) (ww o1 (ww o0 (ww o0 (tt k0 nn)))))))))))) (fun k0=>(Ws (sl z3l (C':=⟨⟨48,0,true⟩,(Jk prog 166 [1,1,1,1,0] 1),(Zd prog 166 [1,1,1,1,0] 1),none,(Zy prog 5),⟨Yd [(46,(.dat v5.length (Zz v5)))],Uw [] 0,0,[],true⟩,[],.leaf⟩) 13 [] ⟨[],[0],[some [46]],[]⟩ ⟨[(46,.frz v5.length v5.length (Zz v5) (Zz v5))],[],[]⟩ [false] (pp (xZ (z6q 1 1 0 v5.length v5.length (Zz v5)) v5.length (Zz v5)) (pp (xL v5.length v5.length) (pp (xS v5.length (Zz v5) (Zz v5)) (pp (fl v5 nn) (tt k0 nn)))))) (lo fun o0=>(lr 48 3 [1,1,1,1,1,1,1,0] 1 5 [(4,(.dat (z3o (cvT v5)).length (Zz (z3o (cvT v5)))))] (sl z3l 3 [] ⟨[],[],[some [4]],[]⟩ ⟨[],[],[]⟩ [] (pp (pp (xr v5) (xw o0)) nn)))))))
theorem x7e (l0:List R4) (l1:List R4):Xv prog (Zy prog 166) (rysC l0 l1) (Zc prog 166 [(.dat l0.length (Zz l0)),(.dat l1.length (Zz l1))] true []) (y2j l0 l1):=(sl z3l 15 [(3,1,Zz ([]:List Int))] ⟨[0],[],rysN0,rysM0⟩ ⟨[(5,.grow 0 1)],[],[]⟩ [] (pp (fl ([]:List Int) nn) nn))
theorem v7c (l0:List R4) (l1:List R4) (n:Nat) (vs:List AVal) (h:Yv (z2r l0 l1) n (y2j l0 l1)=.ret vs):Jt prog (Zy prog 166) (Zc prog 166 [(.dat l0.length (Zz l0)),(.dat l1.length (Zz l1))] true []) vs:=by have:=Ze (w5n l0 l1) n _ (x7e l0 l1);rwa [h] at this
inductive rcutS where
 | h0 (v5:List Int) (v6:Int)
 | h1 (v5:List Int) (v7:Int)
def u8u (l0:List R6) (l1:List R6):rcutS→Cfg
 | .h0 v5 v6=>⟨⟨52,0,true⟩,none,(Zd prog 125 [1,1,0,1,0,0] 0),none,(Zy prog 5),⟨Yd [(0,(.dat l0.length (Zz l0))),(1,(.dat l1.length (Zz l1))),(5,(.sla 0 1 0 v5.length (.un 1))),(6,(ii v6))],Uw [⟨rows v5.length (Zz v5),3,some ⟨1,v5.length,(Zz v5)⟩⟩] 0,1,[],true⟩,[],.leaf⟩
 | .h1 v5 v7=>⟨⟨52,0,true⟩,none,(Zd prog 125 [1,1,1,0,1,0,0] 0),none,(Zy prog 5),⟨Yd [(1,(.dat l1.length (Zz l1))),(5,(.sla 0 1 0 v5.length (.un 1))),(7,(ii v7))],Uw [⟨rows v5.length (Zz v5),3,some ⟨1,v5.length,(Zz v5)⟩⟩] 0,1,[],true⟩,[],.leaf⟩
def u3u :List (Option (List Nat)):=[some [0,1,5,6]]
def u3w :List (Option (List Nat)):=[]
def u3t :List (Option (List Nat)):=[some [1,5,7]]
def u3v :List (Option (List Nat)):=[]
def Qf (l0:List R6) (l1:List R6):rcutS→Xb rcutS
 | .h0 v5 v6=>(bif (decide (v6<(l0.length:Int))) then (bif ((decide (0≤v6∧v6<(l0.length:Int)))&&true) then (bif (Nat.beq 1 1&&((decide (0+v5.length=v5.length))&&decide ((v5.length+2+1)*(8+1)≤Ju))) then (.to (.h0 (v5++[(rd l0 v6.toNat).c,(rd l0 v6.toNat).f]) (IntKind.wrap .i64 (v6+1)))) else .stuck) else .stuck) else (.to (.h1 v5 0)))
 | .h1 v5 v7=>(bif (decide (v7<(l1.length:Int))) then (bif ((decide (0≤v7∧v7<(l1.length:Int)))&&true) then (bif (Nat.beq 1 1&&((decide (0+v5.length=v5.length))&&decide ((v5.length+2+1)*(8+1)≤Ju))) then (.to (.h1 (v5++[(rd l1 v7.toNat).c,(rd l1 v7.toNat).f]) (IntKind.wrap .i64 (v7+1)))) else .stuck) else .stuck) else (bif (Kr (cvT v5)) then (.ret [(.dat (z3o (cvT v5)).length (Zz (z3o (cvT v5))))]) else .stuck))
def z7q (l0:List R6) (l1:List R6):Xb rcutS:=(.to (.h0 ([]:List Int) 0))
theorem x7x (l0:List R6) (l1:List R6): ∀s,Xv prog (Zy prog 125) (u8u l0 l1) (u8u l0 l1 s) (Qf l0 l1 s)
 | .h0 v5 v6=>(lb (fun k0=>(lo fun o0=>(lo fun o1=>(sl z3l 20 [] ⟨[2],[],u3u,u3w⟩ ⟨[(5,.len (v5++[(rd l0 (tn v6)).c,(rd l0 (tn v6)).f]).length)],[.rowed 1 (v5++[(rd l0 (tn v6)).c,(rd l0 (tn v6)).f]).length (Zz (v5++[(rd l0 (tn v6)).c,(rd l0 (tn v6)).f]))],[]⟩ [true] (pp (xL (v5.length+2) (v5++[(rd l0 (tn v6)).c,(rd l0 (tn v6)).f]).length) (pp (xL (v5.length+2) (v5++[(rd l0 (tn v6)).c,(rd l0 (tn v6)).f]).length) (pp (xS (v5.length+2) (Zi (Zz v5) 0 v5.length 1 [(ii (rd l0 (tn v6)).c),(ii (rd l0 (tn v6)).f)]) (Zz (v5++[(rd l0 (tn v6)).c,(rd l0 (tn v6)).f]))) (pp (pp (xF (Zi (Zz v5) 0 v5.length 1 [(ii (rd l0 (tn v6)).c),(ii (rd l0 (tn v6)).f)])) nn) (ww o1 (ww o0 (ww o0 (tt k0 nn)))))))))))) (fun k0=>(sl z3l 17 [] ⟨[0],[],u3t,u3v⟩ ⟨[],[],[]⟩ [false] (pp (fl v5 nn) (tt k0 nn)))))
 | .h1 v5 v7=>(lb (fun k0=>(lo fun o0=>(lo fun o1=>(sl z3l 20 [] ⟨[2],[],u3t,u3v⟩ ⟨[(5,.len (v5++[(rd l1 (tn v7)).c,(rd l1 (tn v7)).f]).length)],[.rowed 1 (v5++[(rd l1 (tn v7)).c,(rd l1 (tn v7)).f]).length (Zz (v5++[(rd l1 (tn v7)).c,(rd l1 (tn v7)).f]))],[]⟩ [true] (pp (xL (v5.length+2) (v5++[(rd l1 (tn v7)).c,(rd l1 (tn v7)).f]).length) (pp (xL (v5.length+2) (v5++[(rd l1 (tn v7)).c,(rd l1 (tn v7)).f]).length) (pp (xS (v5.length+2) (Zi (Zz v5) 0 v5.length 1 [(ii (rd l1 (tn v7)).c),(ii (rd l1 (tn v7)).f)]) (Zz (v5++[(rd l1 (tn v7)).c,(rd l1 (tn v7)).f]))) (pp (pp (xF (Zi (Zz v5) 0 v5.length 1 [(ii (rd l1 (tn v7)).c),(ii (rd l1 (tn v7)).f)])) nn) (ww o1 (ww o0 (ww o0 (tt k0 nn)))))))))))) (fun k0=>(Ws (sl z3l (C':=⟨⟨52,0,true⟩,(Jk prog 125 [1,1,1,1,0] 1),(Zd prog 125 [1,1,1,1,0] 1),none,(Zy prog 5),⟨Yd [(50,(.dat v5.length (Zz v5)))],Uw [] 0,0,[],true⟩,[],.leaf⟩) 13 [] ⟨[],[0],[some [50]],[]⟩ ⟨[(50,.frz v5.length v5.length (Zz v5) (Zz v5))],[],[]⟩ [false] (pp (xZ (z6q 1 1 0 v5.length v5.length (Zz v5)) v5.length (Zz v5)) (pp (xL v5.length v5.length) (pp (xS v5.length (Zz v5) (Zz v5)) (pp (fl v5 nn) (tt k0 nn)))))) (lo fun o0=>(lr 52 3 [1,1,1,1,1,1,1,0] 1 5 [(4,(.dat (z3o (cvT v5)).length (Zz (z3o (cvT v5)))))] (sl z3l 3 [] ⟨[],[],[some [4]],[]⟩ ⟨[],[],[]⟩ [] (pp (pp (xr v5) (xw o0)) nn)))))))
theorem x3v (l0:List R6) (l1:List R6):Xv prog (Zy prog 125) (u8u l0 l1) (Zc prog 125 [(.dat l0.length (Zz l0)),(.dat l1.length (Zz l1))] true []) (z7q l0 l1):=(sl z3l 15 [(3,1,Zz ([]:List Int))] ⟨[0],[],u3u,u3w⟩ ⟨[(5,.grow 0 1)],[],[]⟩ [] (pp (fl ([]:List Int) nn) nn))
theorem v1b (l0:List R6) (l1:List R6) (n:Nat) (vs:List AVal) (h:Yv (Qf l0 l1) n (z7q l0 l1)=.ret vs):Jt prog (Zy prog 125) (Zc prog 125 [(.dat l0.length (Zz l0)),(.dat l1.length (Zz l1))] true []) vs:=by have:=Ze (x7x l0 l1) n _ (x3v l0 l1);rwa [h] at this
end Go.Am
namespace Go.Am
open Go.Proofs.Tryz
open Go.Proofs
def z3t (l:List R4):List Int:=l.flatMap fun r=>[r.a,r.c]
def z2l (l:List R4):List Int:=l.flatMap fun r=>[r.b,r.d]
def z3s (l:List R6):List Int:=l.flatMap fun r=>[r.c,r.f]
def xsV (l m:List R4):List Int:=z3o (z3t l++z3t m)
def y1y (l m:List R4):Bool:=decide (l.length≤10000∧m.length≤10000)
theorem z0t (l:List R4):(z3t l).length =2*l.length:=by
 induction l with
 | nil=>rfl
 | cons r l ih=>show (_::_::z3t l).length =_;simp only [List.length_cons,ih];omega
theorem y7j (l:List R4) (i:Nat) (h:i<l.length):z3t (l.drop i)=z3t [rd l i]++z3t (l.drop (i+1)):=by rw [Ym h];rfl
theorem u2u (l m:List R4) (hl:l.length≤10000) (hm:m.length≤10000): ∀(k i:Nat) (out:List Int),i+k=m.length→out.length=2*l.length+2*i→ ∃N,Yv (z2s l m) N (.to (.h1 out (i:Int)))=.ret [.dat (z3o (out++z3t (m.drop i))).length (Zz (z3o (out++z3t (m.drop i))))]
 | 0,i,out,h,ho=>by refine ⟨1,?_⟩;have hw:Kr out=true:=decide_eq_true (by omega);rw [Zv,List.drop_eq_nil_of_le (show m.length≤i by omega),show z3t []=[] from rfl,List.append_nil];simp (disch:=omega) only [z2s,Xp,Yo,Zt,Yx,Xs,Yk,Yc,Yp,Yz,Zq,Zh,z0m,z0n,decide_true,Zx,Zr,Zf,Yg,Zj,Nat.zero_add,Bool.and_true,Bool.true_and,cond_true,cond_false,Bool.not_true,Bool.not_false,Zm,Za,Zk,Uz,Xu,hw]
 | k+1,i,out,h,ho=>by obtain ⟨N,hN⟩:=u2u l m hl hm k (i+1) (out++z3t [rd m i]) (by omega) (by rw [List.length_append,z0t];simp;omega);refine ⟨N+1,?_⟩;rw [y7j m i (by omega),←List.append_assoc,Zv];simp (disch:=omega) only [z2s,Xp,Yo,Zt,Yx,Xs,Yk,Yc,Yp,Yz,Zq,Zh,z0m,z0n,decide_true,Zx,Zr,Zf,Yg,Zj,Nat.zero_add,Bool.and_true,Bool.true_and,cond_true,cond_false,Bool.not_true,Bool.not_false,Zm,Za,Zk,Uz,Xu];exact hN
theorem u2v (l m:List R4) (hl:l.length≤10000) (hm:m.length≤10000): ∀(k i:Nat) (out:List Int),i+k=l.length→out.length=2*i→ ∃N,Yv (z2s l m) N (.to (.h0 out (i:Int)))=.ret [.dat (z3o (out++z3t (l.drop i)++z3t m)).length (Zz (z3o (out++z3t (l.drop i)++z3t m)))]
 | 0,i,out,h,ho=>by obtain ⟨N,hN⟩:=u2u l m hl hm m.length 0 out (Nat.zero_add _) (by omega);refine ⟨N+1,?_⟩;rw [Zv,List.drop_eq_nil_of_le (show l.length≤i by omega),show z3t []=[] from rfl,List.append_nil];simp (disch:=omega) only [z2s,Xp,Yo,Zt,Yx,Xs,Yk,Yc,Yp,Yz,Zq,Zh,z0m,z0n,decide_true,Zx,Zr,Zf,Yg,Zj,Nat.zero_add,Bool.and_true,Bool.true_and,cond_true,cond_false,Bool.not_true,Bool.not_false,Zm,Za,Zk,Uz,Xu];exact hN
 | k+1,i,out,h,ho=>by obtain ⟨N,hN⟩:=u2v l m hl hm k (i+1) (out++z3t [rd l i]) (by omega) (by rw [List.length_append,z0t];simp;omega);refine ⟨N+1,?_⟩;rw [y7j l i (by omega),←List.append_assoc,Zv];simp (disch:=omega) only [z2s,Xp,Yo,Zt,Yx,Xs,Yk,Yc,Yp,Yz,Zq,Zh,z0m,z0n,decide_true,Zx,Zr,Zf,Yg,Zj,Nat.zero_add,Bool.and_true,Bool.true_and,cond_true,cond_false,Bool.not_true,Bool.not_false,Zm,Za,Zk,Uz,Xu];exact hN
theorem u7y (l m:List R4) (h:y1y l m=true): ∃N,Yv (z2s l m) N (y2k l m)=.ret [.dat (xsV l m).length (Zz (xsV l m))]:=by
 obtain ⟨h1,h2⟩:=of_decide_eq_true h;have:=u2v l m h1 h2 l.length 0 [] (Nat.zero_add _) rfl
 simpa [y2k,xsV] using this
def ysV (l m:List R4):List Int:=z3o (z2l l++z2l m)
def y1x (l m:List R4):Bool:=decide (l.length≤10000∧m.length≤10000)
theorem z0s (l:List R4):(z2l l).length =2*l.length:=by
 induction l with
 | nil=>rfl
 | cons r l ih=>show (_::_::z2l l).length =_;simp only [List.length_cons,ih];omega
theorem y7i (l:List R4) (i:Nat) (h:i<l.length):z2l (l.drop i)=z2l [rd l i]++z2l (l.drop (i+1)):=by rw [Ym h];rfl
theorem u2s (l m:List R4) (hl:l.length≤10000) (hm:m.length≤10000): ∀(k i:Nat) (out:List Int),i+k=m.length→out.length=2*l.length+2*i→ ∃N,Yv (z2r l m) N (.to (.h1 out (i:Int)))=.ret [.dat (z3o (out++z2l (m.drop i))).length (Zz (z3o (out++z2l (m.drop i))))]
 | 0,i,out,h,ho=>by refine ⟨1,?_⟩;have hw:Kr out=true:=decide_eq_true (by omega);rw [Zv,List.drop_eq_nil_of_le (show m.length≤i by omega),show z2l []=[] from rfl,List.append_nil];simp (disch:=omega) only [z2r,Xp,Yo,Zt,Yx,Xs,Yk,Yc,Yp,Yz,Zq,Zh,z0m,z0n,decide_true,Zx,Zr,Zf,Yg,Zj,Nat.zero_add,Bool.and_true,Bool.true_and,cond_true,cond_false,Bool.not_true,Bool.not_false,Zm,Za,Zk,Uz,Xu,hw]
 | k+1,i,out,h,ho=>by obtain ⟨N,hN⟩:=u2s l m hl hm k (i+1) (out++z2l [rd m i]) (by omega) (by rw [List.length_append,z0s];simp;omega);refine ⟨N+1,?_⟩;rw [y7i m i (by omega),←List.append_assoc,Zv];simp (disch:=omega) only [z2r,Xp,Yo,Zt,Yx,Xs,Yk,Yc,Yp,Yz,Zq,Zh,z0m,z0n,decide_true,Zx,Zr,Zf,Yg,Zj,Nat.zero_add,Bool.and_true,Bool.true_and,cond_true,cond_false,Bool.not_true,Bool.not_false,Zm,Za,Zk,Uz,Xu];exact hN
theorem u2t (l m:List R4) (hl:l.length≤10000) (hm:m.length≤10000): ∀(k i:Nat) (out:List Int),i+k=l.length→out.length=2*i→ ∃N,Yv (z2r l m) N (.to (.h0 out (i:Int)))=.ret [.dat (z3o (out++z2l (l.drop i)++z2l m)).length (Zz (z3o (out++z2l (l.drop i)++z2l m)))]
 | 0,i,out,h,ho=>by obtain ⟨N,hN⟩:=u2s l m hl hm m.length 0 out (Nat.zero_add _) (by omega);refine ⟨N+1,?_⟩;rw [Zv,List.drop_eq_nil_of_le (show l.length≤i by omega),show z2l []=[] from rfl,List.append_nil];simp (disch:=omega) only [z2r,Xp,Yo,Zt,Yx,Xs,Yk,Yc,Yp,Yz,Zq,Zh,z0m,z0n,decide_true,Zx,Zr,Zf,Yg,Zj,Nat.zero_add,Bool.and_true,Bool.true_and,cond_true,cond_false,Bool.not_true,Bool.not_false,Zm,Za,Zk,Uz,Xu];exact hN
 | k+1,i,out,h,ho=>by obtain ⟨N,hN⟩:=u2t l m hl hm k (i+1) (out++z2l [rd l i]) (by omega) (by rw [List.length_append,z0s];simp;omega);refine ⟨N+1,?_⟩;rw [y7i l i (by omega),←List.append_assoc,Zv];simp (disch:=omega) only [z2r,Xp,Yo,Zt,Yx,Xs,Yk,Yc,Yp,Yz,Zq,Zh,z0m,z0n,decide_true,Zx,Zr,Zf,Yg,Zj,Nat.zero_add,Bool.and_true,Bool.true_and,cond_true,cond_false,Bool.not_true,Bool.not_false,Zm,Za,Zk,Uz,Xu];exact hN
theorem u7x (l m:List R4) (h:y1x l m=true): ∃N,Yv (z2r l m) N (y2j l m)=.ret [.dat (ysV l m).length (Zz (ysV l m))]:=by
 obtain ⟨h1,h2⟩:=of_decide_eq_true h;have:=u2t l m h1 h2 l.length 0 [] (Nat.zero_add _) rfl
 simpa [y2j,ysV] using this
def Vk (l m:List R6):List Int:=z3o (z3s l++z3s m)
def z8q (l m:List R6):Bool:=decide (l.length≤10000∧m.length≤10000)
theorem z0r (l:List R6):(z3s l).length =2*l.length:=by
 induction l with
 | nil=>rfl
 | cons r l ih=>show (_::_::z3s l).length =_;simp only [List.length_cons,ih];omega
theorem y7f (l:List R6) (i:Nat) (h:i<l.length):z3s (l.drop i)=z3s [rd l i]++z3s (l.drop (i+1)):=by rw [Ym h];rfl
theorem v0z (l m:List R6) (hl:l.length≤10000) (hm:m.length≤10000): ∀(k i:Nat) (out:List Int),i+k=m.length→out.length=2*l.length+2*i→ ∃N,Yv (Qf l m) N (.to (.h1 out (i:Int)))=.ret [.dat (z3o (out++z3s (m.drop i))).length (Zz (z3o (out++z3s (m.drop i))))]
 | 0,i,out,h,ho=>by refine ⟨1,?_⟩;have hw:Kr out=true:=decide_eq_true (by omega);rw [Zv,List.drop_eq_nil_of_le (show m.length≤i by omega),show z3s []=[] from rfl,List.append_nil];simp (disch:=omega) only [Qf,Xp,Yo,Zt,Yx,Xs,Yk,Yc,Yp,Yz,Zq,Zh,z0m,z0n,decide_true,Zx,Zr,Zf,Yg,Zj,Nat.zero_add,Bool.and_true,Bool.true_and,cond_true,cond_false,Bool.not_true,Bool.not_false,Zm,Za,Zk,Uz,Xu,hw]
 | k+1,i,out,h,ho=>by obtain ⟨N,hN⟩:=v0z l m hl hm k (i+1) (out++z3s [rd m i]) (by omega) (by rw [List.length_append,z0r];simp;omega);refine ⟨N+1,?_⟩;rw [y7f m i (by omega),←List.append_assoc,Zv];simp (disch:=omega) only [Qf,Xp,Yo,Zt,Yx,Xs,Yk,Yc,Yp,Yz,Zq,Zh,z0m,z0n,decide_true,Zx,Zr,Zf,Yg,Zj,Nat.zero_add,Bool.and_true,Bool.true_and,cond_true,cond_false,Bool.not_true,Bool.not_false,Zm,Za,Zk,Uz,Xu];exact hN
theorem v1a (l m:List R6) (hl:l.length≤10000) (hm:m.length≤10000): ∀(k i:Nat) (out:List Int),i+k=l.length→out.length=2*i→ ∃N,Yv (Qf l m) N (.to (.h0 out (i:Int)))=.ret [.dat (z3o (out++z3s (l.drop i)++z3s m)).length (Zz (z3o (out++z3s (l.drop i)++z3s m)))]
 | 0,i,out,h,ho=>by obtain ⟨N,hN⟩:=v0z l m hl hm m.length 0 out (Nat.zero_add _) (by omega);refine ⟨N+1,?_⟩;rw [Zv,List.drop_eq_nil_of_le (show l.length≤i by omega),show z3s []=[] from rfl,List.append_nil];simp (disch:=omega) only [Qf,Xp,Yo,Zt,Yx,Xs,Yk,Yc,Yp,Yz,Zq,Zh,z0m,z0n,decide_true,Zx,Zr,Zf,Yg,Zj,Nat.zero_add,Bool.and_true,Bool.true_and,cond_true,cond_false,Bool.not_true,Bool.not_false,Zm,Za,Zk,Uz,Xu];exact hN
 | k+1,i,out,h,ho=>by obtain ⟨N,hN⟩:=v1a l m hl hm k (i+1) (out++z3s [rd l i]) (by omega) (by rw [List.length_append,z0r];simp;omega);refine ⟨N+1,?_⟩;rw [y7f l i (by omega),←List.append_assoc,Zv];simp (disch:=omega) only [Qf,Xp,Yo,Zt,Yx,Xs,Yk,Yc,Yp,Yz,Zq,Zh,z0m,z0n,decide_true,Zx,Zr,Zf,Yg,Zj,Nat.zero_add,Bool.and_true,Bool.true_and,cond_true,cond_false,Bool.not_true,Bool.not_false,Zm,Za,Zk,Uz,Xu];exact hN
theorem v8a (l m:List R6) (h:z8q l m=true): ∃N,Yv (Qf l m) N (z7q l m)=.ret [.dat (Vk l m).length (Zz (Vk l m))]:=by
 obtain ⟨h1,h2⟩:=of_decide_eq_true h;have:=v1a l m h1 h2 l.length 0 [] (Nat.zero_add _) rfl
 simpa [z7q,Vk] using this
def fXs :List AVal→Option (AVal×Bool)
 | [a0,a1]=>match asL R4 a0,asL R4 a1 with
  | some (L0,g0,n0),some (L1,g1,n1)=>some (.dat (xsV L0 L1).length (Zz (xsV L0 L1)),isT R4 n0 g0&&(isT R4 n1 g1&&(y1y L0 L1)))
  | _,_=>none
 | _=>none
theorem fXs_ok {S:Specs} (hS:Zu prog S):Zu prog (S.with nXs fXs):=by
 refine z2d hS (by kernel_rfl) fun args v h=> ?_;unfold fXs at h;split at h
 ·rename_i a0 a1;split at h
  ·rename_i L0 g0 n0 L1 g1 n1 e0 e1;simp only [Option.some.injEq,Prod.mk.injEq,Bool.and_eq_true] at h;obtain ⟨rfl,ho0,ho1,hw⟩:=h;obtain ⟨N,hN⟩:=u7y L0 L1 hw;exact ⟨_,_,(.cons (asL_le e0 ho0) (.cons (asL_le e1 ho1) .nil)),rfl,v7d L0 L1 N _ hN,3,rfl⟩
  ·cases h
 ·cases h
def fYs :List AVal→Option (AVal×Bool)
 | [a0,a1]=>match asL R4 a0,asL R4 a1 with
  | some (L0,g0,n0),some (L1,g1,n1)=>some (.dat (ysV L0 L1).length (Zz (ysV L0 L1)),isT R4 n0 g0&&(isT R4 n1 g1&&(y1x L0 L1)))
  | _,_=>none
 | _=>none
theorem fYs_ok {S:Specs} (hS:Zu prog S):Zu prog (S.with nYs fYs):=by
 refine z2d hS (by kernel_rfl) fun args v h=> ?_;unfold fYs at h;split at h
 ·rename_i a0 a1;split at h
  ·rename_i L0 g0 n0 L1 g1 n1 e0 e1;simp only [Option.some.injEq,Prod.mk.injEq,Bool.and_eq_true] at h;obtain ⟨rfl,ho0,ho1,hw⟩:=h;obtain ⟨N,hN⟩:=u7x L0 L1 hw;exact ⟨_,_,(.cons (asL_le e0 ho0) (.cons (asL_le e1 ho1) .nil)),rfl,v7c L0 L1 N _ hN,3,rfl⟩
  ·cases h
 ·cases h
def j2c :List AVal→Option (AVal×Bool)
 | [a0,a1]=>match asL R6 a0,asL R6 a1 with
  | some (L0,g0,n0),some (L1,g1,n1)=>some (.dat (Vk L0 L1).length (Zz (Vk L0 L1)),isT R6 n0 g0&&(isT R6 n1 g1&&(z8q L0 L1)))
  | _,_=>none
 | _=>none
theorem u0k {S:Specs} (hS:Zu prog S):Zu prog (S.with nCuts j2c):=by
 refine z2d hS (by kernel_rfl) fun args v h=> ?_;unfold j2c at h;split at h
 ·rename_i a0 a1;split at h
  ·rename_i L0 g0 n0 L1 g1 n1 e0 e1;simp only [Option.some.injEq,Prod.mk.injEq,Bool.and_eq_true] at h;obtain ⟨rfl,ho0,ho1,hw⟩:=h;obtain ⟨N,hN⟩:=v8a L0 L1 hw;exact ⟨_,_,(.cons (asL_le e0 ho0) (.cons (asL_le e1 ho1) .nil)),rfl,v1b L0 L1 N _ hN,3,rfl⟩
  ·cases h
 ·cases h
def T2 :Specs:=((T1.with nXs fXs).with nYs fYs).with nCuts j2c
theorem y0p :Zu prog T2:=u0k (fYs_ok (fXs_ok z3l))
end Go.Am
namespace Go.Am
open Go.Proofs.Tryz
open Go.Proofs
inductive rjoS where
 | h0 (v9:List R4) (v10:List R2) (v11:Int) (v12:Int)
 | h1 (v9:List R4) (v10:List R2) (v11:Int) (v12:Int) (v13:List Bool) (v14:Int)
 | h2 (v9:List R4) (v10:List R2) (v11:Int) (v12:Int) (v15:List R2) (v17:Int)
 | h3 (v9:List R4) (v10:List R2) (v11:Int) (v12:Int) (v16:Int)
abbrev y0x (x0:Int) (l1:List R4) (l2:List R4) (v12:Int) (v14:Int):=(y5h x0 (has4V (cvT l1) (rd (xsV (cvT l1) (cvT l2)) (tn v12)) (rd (ysV (cvT l1) (cvT l2)) (tn v14))) (has4V (cvT l2) (rd (xsV (cvT l1) (cvT l2)) (tn v12)) (rd (ysV (cvT l1) (cvT l2)) (tn v14))))
abbrev y8i (v9:List R4) (v16:Int) (l1:List R4) (l2:List R4) (v12:Int):=(v9.set (0+(tn v16)) (R4.mk (rd v9 (0+(tn v16))).a (rd v9 (0+(tn v16))).b (rd (xsV (cvT l1) (cvT l2)) (tn (wr (v12+1)))) (rd v9 (0+(tn v16))).d))
abbrev y8h (v9:List R4) (l1:List R4) (l2:List R4) (v12:Int) (v15:List R2) (v17:Int):=(v9++[(R4.mk (rd (xsV (cvT l1) (cvT l2)) (tn v12)) (rd v15 (tn v17)).a (rd (xsV (cvT l1) (cvT l2)) (tn (wr (v12+1)))) (rd v15 (tn v17)).b)])
abbrev Qa (l1:List R4) (l2:List R4):=(ysV (cvT l1) (cvT l2))
def w2e (l1:List R4) (l2:List R4):AVal:=(.dat (xsV (cvT l1) (cvT l2)).length (Zz (xsV (cvT l1) (cvT l2))))
def w2d (l1:List R4) (l2:List R4):AVal:=(.dat (Qa l1 l2).length (Zz (Qa l1 l2)))
def rjoC (x0:Int) (l1:List R4) (l2:List R4):rjoS→Cfg
 | .h0 v9 v10 v11 v12=>⟨⟨121,0,true⟩,none,(Zd prog 126 [1,1,1,1,1,0,1,0,0] 0),none,(Zy prog 8),⟨Yd [(0,(ii x0)),(1,(.dat l1.length (Zz l1))),(2,(.dat l2.length (Zz l2))),(7,(w2e l1 l2)),(8,(w2d l1 l2)),(9,(.sla 0 4 0 v9.length (.un 4))),(10,(.dat v10.length (Zz v10))),(11,(ii v11)),(12,(ii v12))],Uw [⟨rows v9.length (Zz v9),88,some ⟨4,v9.length,(Zz v9)⟩⟩] 0,1,[],true⟩,[],.leaf⟩
 | .h1 v9 v10 v11 v12 v13 v14=>⟨⟨121,0,true⟩,none,(Zd prog 126 [1,1,1,1,1,0,1,0,0,1,0,0,1,0,1,0,0] 0),none,(Zy prog 8),⟨Yd [(0,(ii x0)),(1,(.dat l1.length (Zz l1))),(2,(.dat l2.length (Zz l2))),(7,(w2e l1 l2)),(8,(w2d l1 l2)),(9,(.sla 1 4 0 v9.length (.un 4))),(10,(.dat v10.length (Zz v10))),(11,(ii v11)),(12,(ii v12)),(13,(.sla 0 1 0 v13.length (.un 1))),(14,(ii v14))],Uw [⟨rows v13.length (Zz v13),4,some ⟨1,v13.length,(Zz v13)⟩⟩,⟨rows v9.length (Zz v9),88,some ⟨4,v9.length,(Zz v9)⟩⟩] 0,2,[],true⟩,[],.leaf⟩
 | .h2 v9 v10 v11 v12 v15 v17=>⟨⟨121,0,true⟩,none,(Zd prog 126 [1,1,1,1,1,0,1,0,0,1,0,0,1,1,1,1,1,1,0,0] 0),none,(Zy prog 8),⟨Yd [(0,(ii x0)),(1,(.dat l1.length (Zz l1))),(2,(.dat l2.length (Zz l2))),(7,(w2e l1 l2)),(8,(w2d l1 l2)),(9,(.sla 0 4 0 v9.length (.un 4))),(10,(.dat v10.length (Zz v10))),(11,(ii v11)),(12,(ii v12)),(15,(.dat v15.length (Zz v15))),(17,(ii v17))],Uw [⟨rows v9.length (Zz v9),88,some ⟨4,v9.length,(Zz v9)⟩⟩] 0,1,[],true⟩,[],.leaf⟩
 | .h3 v9 v10 v11 v12 v16=>⟨⟨121,0,true⟩,none,(Zd prog 126 [1,1,1,1,1,0,1,0,0,1,0,0,1,1,1,0,1,0,0,1,0,0] 0),none,(Zy prog 8),⟨Yd [(0,(ii x0)),(1,(.dat l1.length (Zz l1))),(2,(.dat l2.length (Zz l2))),(7,(w2e l1 l2)),(8,(w2d l1 l2)),(9,(.sla 0 4 0 v9.length (.un 4))),(10,(.dat v10.length (Zz v10))),(11,(ii v11)),(12,(ii v12)),(16,(ii v16))],Uw [⟨rows v9.length (Zz v9),88,some ⟨4,v9.length,(Zz v9)⟩⟩] 0,1,[],true⟩,[],.leaf⟩
def u8k :List (Option (List Nat)):=[some [0,1,2,7,8,9,10,11,12]]
def u8m :List (Option (List Nat)):=[]
def rjoN1 :List (Option (List Nat)):=[some [0,1,2,7,8,9,10,11,12,13,14]]
def rjoM1 :List (Option (List Nat)):=[]
def u8j :List (Option (List Nat)):=[some [0,1,2,7,8,9,10,11,12,15,17]]
def u8l :List (Option (List Nat)):=[]
def rjoN3 :List (Option (List Nat)):=[some [0,1,2,7,8,9,10,11,12,16]]
def rjoM3 :List (Option (List Nat)):=[]
def Vq (x0:Int) (l1:List R4) (l2:List R4):rjoS→Xb rjoS
 | .h0 v9 v10 v11 v12=>(bif (decide ((IntKind.wrap .i64 (v12+1))<(((xsV (cvT l1) (cvT l2)).length :Nat):Int))) then (.to (.h1 v9 v10 v11 v12 ([]:List Bool) 0)) else (.ret [(.dat v9.length (Zz v9))]))
 | .h1 v9 v10 v11 v12 v13 v14=>(bif (decide (v14<(((ysV (cvT l1) (cvT l2)).length :Nat):Int))) then (bif (z0b (cvT l1) (rd (xsV (cvT l1) (cvT l2)) v12.toNat) (rd (ysV (cvT l1) (cvT l2)) v14.toNat)) then (bif ((decide (0≤v12∧v12<(((xsV (cvT l1) (cvT l2)).length :Nat):Int)))&&true) then (bif ((decide (0≤v14∧v14<(((ysV (cvT l1) (cvT l2)).length :Nat):Int)))&&true) then (bif (z0b (cvT l2) (rd (xsV (cvT l1) (cvT l2)) v12.toNat) (rd (ysV (cvT l1) (cvT l2)) v14.toNat)) then (bif (Nat.beq 1 1&&((decide (0+v13.length=v13.length))&&decide ((v13.length+1+1)*(1+1)≤Ju))) then (.to (.h1 v9 v10 v11 v12 (v13++[(y5h x0 (has4V (cvT l1) (rd (xsV (cvT l1) (cvT l2)) v12.toNat) (rd (ysV (cvT l1) (cvT l2)) v14.toNat)) (has4V (cvT l2) (rd (xsV (cvT l1) (cvT l2)) v12.toNat) (rd (ysV (cvT l1) (cvT l2)) v14.toNat)))]) (IntKind.wrap .i64 (v14+1)))) else .stuck) else .stuck) else .stuck) else .stuck) else .stuck) else (bif (z8t (cvT (ysV (cvT l1) (cvT l2))) (cvT v13)) then (bif (decide (v12>0)) then (bif (Vf (cvT (y1p (cvT (ysV (cvT l1) (cvT l2))) (cvT v13))) (cvT v10)) then (bif (Qz (cvT (y1p (cvT (ysV (cvT l1) (cvT l2))) (cvT v13))) (cvT v10)) then (.to (.h3 v9 v10 v11 v12 v11)) else (.to (.h2 v9 (y1p (cvT (ysV (cvT l1) (cvT l2))) (cvT v13)) (v9.length:Int) v12 (y1p (cvT (ysV (cvT l1) (cvT l2))) (cvT v13)) 0))) else .stuck) else (.to (.h2 v9 (y1p (cvT (ysV (cvT l1) (cvT l2))) (cvT v13)) (v9.length:Int) v12 (y1p (cvT (ysV (cvT l1) (cvT l2))) (cvT v13)) 0))) else .stuck))
 | .h2 v9 v10 v11 v12 v15 v17=>(bif (decide (v17<(v15.length:Int))) then (bif ((decide (0≤v12∧v12<(((xsV (cvT l1) (cvT l2)).length :Nat):Int)))&&true) then (bif ((decide (0≤(IntKind.wrap .i64 (v12+1))∧(IntKind.wrap .i64 (v12+1))<(((xsV (cvT l1) (cvT l2)).length :Nat):Int)))&&true) then (bif ((decide (0≤v17∧v17<(v15.length:Int)))&&true) then (bif (Nat.beq 4 4&&((decide (0+v9.length=v9.length))&&decide ((v9.length+1+1)*(32+1)≤Ju))) then (.to (.h2 (v9++[(R4.mk (rd (xsV (cvT l1) (cvT l2)) v12.toNat) (rd v15 v17.toNat).a (rd (xsV (cvT l1) (cvT l2)) (Int.toNat (IntKind.wrap .i64 (v12+1)))) (rd v15 v17.toNat).b)]) v10 v11 v12 v15 (IntKind.wrap .i64 (v17+1)))) else .stuck) else .stuck) else .stuck) else .stuck) else (.to (.h0 v9 v10 v11 (IntKind.wrap .i64 (v12+1)))))
 | .h3 v9 v10 v11 v12 v16=>(bif (decide (v16<(v9.length:Int))) then (bif ((decide (0≤(IntKind.wrap .i64 (v12+1))∧(IntKind.wrap .i64 (v12+1))<(((xsV (cvT l1) (cvT l2)).length :Nat):Int)))&&true) then (bif ((decide (0≤v16∧v16<(v9.length:Int)))&&true) then (bif (decide ((0+v16.toNat)<v9.length)) then (.to (.h3 (v9.set (0+v16.toNat) (R4.mk (rd v9 (0+v16.toNat)).a (rd v9 (0+v16.toNat)).b (rd (xsV (cvT l1) (cvT l2)) (Int.toNat (IntKind.wrap .i64 (v12+1)))) (rd v9 (0+v16.toNat)).d)) v10 v11 v12 (IntKind.wrap .i64 (v16+1)))) else .stuck) else .stuck) else .stuck) else (.to (.h0 v9 v10 v11 (IntKind.wrap .i64 (v12+1)))))
def y2p (x0:Int) (l1:List R4) (l2:List R4):Xb rjoS:=(bif (y1y (cvT l1) (cvT l2)) then (bif (y1x (cvT l1) (cvT l2)) then (.to (.h0 ([]:List R4) ([]:List R2) 0 0)) else .stuck) else .stuck)
theorem w5u (x0:Int) (l1:List R4) (l2:List R4): ∀s,Xv prog (Zy prog 126) (rjoC x0 l1 l2) (rjoC x0 l1 l2 s) (Vq x0 l1 l2 s)
 | .h0 v9 v10 v11 v12=>(lb (fun k0=>(sl y0p 24 [(4,1,Zz ([]:List Bool))] ⟨[1,0],[],rjoN1,rjoM1⟩ ⟨[(13,.grow 0 1)],[],[]⟩ [true] (pp (fl ([]:List Bool) (fl v9 nn)) (tt k0 nn)))) (fun k0=>(lr 121 3 [1,1,1,1,1,1,1,0] 1 8 [(6,(.dat v9.length (Zz v9)))] (sl y0p 16 [] ⟨[],[0],[some [6]],[]⟩ ⟨[(6,.frz v9.length v9.length (Zz v9) (Zz v9))],[],[]⟩ [false] (pp (xZ (z6q 4 4 0 v9.length v9.length (Zz v9)) v9.length (Zz v9)) (pp (xL v9.length v9.length) (pp (xS v9.length (Zz v9) (Zz v9)) (pp (fl v9 nn) (tt k0 nn)))))))))
 | .h1 v9 v10 v11 v12 v13 v14=>(lb (fun k0=>(lo fun o0=>(lo fun o1=>(lo fun o2=>(lo fun o3=>(lo fun o4=>(sl y0p 20 [] ⟨[3,1],[],rjoN1,rjoM1⟩ ⟨[(13,.len (v13++[(y0x x0 l1 l2 v12 v14)]).length)],[.rowed 1 (v13++[(y0x x0 l1 l2 v12 v14)]).length (Zz (v13++[(y0x x0 l1 l2 v12 v14)])),.keep],[]⟩ [true] (pp (xL (v13.length+1) (v13++[(y0x x0 l1 l2 v12 v14)]).length) (pp (xL (v13.length+1) (v13++[(y0x x0 l1 l2 v12 v14)]).length) (pp (xS (v13.length+1) (Zi (Zz v13) 0 v13.length 1 [(.bool (y0x x0 l1 l2 v12 v14))]) (Zz (v13++[(y0x x0 l1 l2 v12 v14)]))) (pp (pp (xF (Zi (Zz v13) 0 v13.length 1 [(.bool (y0x x0 l1 l2 v12 v14))])) (fl v9 nn)) (ww o4 (pp (pp (xr l2) (xw o3)) (ww o2 (ww o1 (pp (pp (xr l1) (xw o0)) (ww o2 (ww o1 (tt k0 nn))))))))))))))))))) (fun k0=>(Ws (sl y0p (C':=⟨⟨121,0,true⟩,(Jk prog 126 [1,1,1,1,1,0,1,0,0,1,0,0,1,1,0] 2),(Zd prog 126 [1,1,1,1,1,0,1,0,0,1,0,0,1,1,0] 1),none,(Zy prog 8),⟨Yd [(0,(ii x0)),(1,(.dat l1.length (Zz l1))),(2,(.dat l2.length (Zz l2))),(7,(.dat (xsV (cvT l1) (cvT l2)).length (Zz (xsV (cvT l1) (cvT l2))))),(8,(.dat (Qa l1 l2).length (Zz (Qa l1 l2)))),(9,(.sla 0 4 0 v9.length (.un 4))),(10,(.dat v10.length (Zz v10))),(11,(ii v11)),(12,(ii v12)),(62,(.dat (Qa l1 l2).length (Zz (Qa l1 l2)))),(63,(.dat v13.length (Zz v13)))],Uw [⟨rows v9.length (Zz v9),88,some ⟨4,v9.length,(Zz v9)⟩⟩] 0,1,[],true⟩,[],.leaf⟩) 14 [] ⟨[1],[0],[some [0,1,2,7,8,9,10,11,12,62,63]],[]⟩ ⟨[(63,.frz v13.length v13.length (Zz v13) (Zz v13))],[],[]⟩ [false] (pp (xZ (z6q 1 1 0 v13.length v13.length (Zz v13)) v13.length (Zz v13)) (pp (xL v13.length v13.length) (pp (xS v13.length (Zz v13) (Zz v13)) (pp (fl v9 nn) (pp (fl v13 nn) (tt k0 nn))))))) (lo fun aF=>(lb (fun k1=>(lo fun cG=>(lb (fun k2=>(sl y0p 23 [] ⟨[0],[],rjoN3,rjoM3⟩ ⟨[],[],[]⟩ (trs 4 []) (pp (fl v9 nn) (tt k2 (pp (pp (xI R2 (y1p (cvT (Qa l1 l2)) (cvT v13)).length (Zz (y1p (cvT (Qa l1 l2)) (cvT v13)))) (pp (xr v10) (xw cG))) (tt k1 (pp (pp (xI Int (Qa l1 l2).length (Zz (Qa l1 l2))) (pp (xr v13) (xw aF))) nn))))))) (fun k2=>(sl y0p 30 [] ⟨[0],[],u8j,u8l⟩ ⟨[],[],[]⟩ (trs 3 [false]) (pp (fl v9 nn) (tt k2 (pp (pp (xI R2 (y1p (cvT (Qa l1 l2)) (cvT v13)).length (Zz (y1p (cvT (Qa l1 l2)) (cvT v13)))) (pp (xr v10) (xw cG))) (tt k1 (pp (pp (xI Int (Qa l1 l2).length (Zz (Qa l1 l2))) (pp (xr v13) (xw aF))) nn)))))))))) (fun k1=>(sl y0p 30 [] ⟨[0],[],u8j,u8l⟩ ⟨[],[],[]⟩ (bl 4 0) (pp (fl v9 nn) (tt k1 (pp (pp (xI Int (Qa l1 l2).length (Zz (Qa l1 l2))) (pp (xr v13) (xw aF))) nn))))))))))
 | .h2 v9 v10 v11 v12 v15 v17=>(lb (fun k0=>(lo fun o0=>(lo fun o1=>(lo fun o2=>(lo fun o3=>(sl y0p 20 [] ⟨[2],[],u8j,u8l⟩ ⟨[(9,.len (y8h v9 l1 l2 v12 v15 v17).length)],[.rowed 4 (y8h v9 l1 l2 v12 v15 v17).length (Zz (y8h v9 l1 l2 v12 v15 v17))],[]⟩ [true] (pp (xL (v9.length+1) (y8h v9 l1 l2 v12 v15 v17).length) (pp (xL (v9.length+1) (y8h v9 l1 l2 v12 v15 v17).length) (pp (xS (v9.length+1) (Zi (Zz v9) 0 v9.length 4 [(ii (rd (xsV (cvT l1) (cvT l2)) (tn v12))),(ii (rd v15 (tn v17)).a),(ii (rd (xsV (cvT l1) (cvT l2)) (tn (wr (v12+1))))),(ii (rd v15 (tn v17)).b)]) (Zz (y8h v9 l1 l2 v12 v15 v17))) (pp (pp (xF (Zi (Zz v9) 0 v9.length 4 [(ii (rd (xsV (cvT l1) (cvT l2)) (tn v12))),(ii (rd v15 (tn v17)).a),(ii (rd (xsV (cvT l1) (cvT l2)) (tn (wr (v12+1))))),(ii (rd v15 (tn v17)).b)])) nn) (ww o3 (ww o2 (ww o1 (ww o2 (ww o0 (tt k0 nn)))))))))))))))) (fun k0=>(sl y0p 17 [] ⟨[0],[],u8k,u8m⟩ ⟨[],[],[]⟩ [false] (pp (fl v9 nn) (tt k0 nn)))))
 | .h3 v9 v10 v11 v12 v16=>(lb (fun k0=>(lo fun o0=>(lo fun o1=>(lo fun o2=>(sl y0p 31 [] ⟨[0],[],rjoN3,rjoM3⟩ ⟨[(9,.len (y8i v9 v16 l1 l2 v12).length)],[.rowed 4 (y8i v9 v16 l1 l2 v12).length (Zz (y8i v9 v16 l1 l2 v12))],[]⟩ [true] (pp (xL v9.length (y8i v9 v16 l1 l2 v12).length) (pp (xL v9.length (y8i v9 v16 l1 l2 v12).length) (pp (xS v9.length (Xi (Zz v9) (0+(tn v16)) 2 [(ii (rd (xsV (cvT l1) (cvT l2)) (tn (wr (v12+1)))))]) (Zz (y8i v9 v16 l1 l2 v12))) (pp (pp (xF (Xi (Zz v9) (0+(tn v16)) 2 [(ii (rd (xsV (cvT l1) (cvT l2)) (tn (wr (v12+1)))))])) nn) (ww o2 (ww o1 (ww o0 (tt k0 nn))))))))))))) (fun k0=>(sl y0p 17 [] ⟨[0],[],u8k,u8m⟩ ⟨[],[],[]⟩ [false] (pp (fl v9 nn) (tt k0 nn)))))
theorem x7n (x0:Int) (l1:List R4) (l2:List R4):Xv prog (Zy prog 126) (rjoC x0 l1 l2) (Zc prog 126 [(.int .i64 x0),(.dat l1.length (Zz l1)),(.dat l2.length (Zz l2))] true []) (y2p x0 l1 l2):=(lo fun o0=>(lo fun o1=>(sl y0p 34 [(88,4,Zz ([]:List R4))] ⟨[0],[],u8k,u8m⟩ ⟨[(9,.grow 0 4),(10,.list 0 (Zz ([]:List R2)))],[],[]⟩ [] (pp (fl ([]:List R4) nn) (pp (pp (xr l1) (pp (xr l2) (xw o1))) (pp (pp (xr l1) (pp (xr l2) (xw o0))) nn))))))
theorem v7k (x0:Int) (l1:List R4) (l2:List R4) (n:Nat) (vs:List AVal) (h:Yv (Vq x0 l1 l2) n (y2p x0 l1 l2)=.ret vs):Jt prog (Zy prog 126) (Zc prog 126 [(.int .i64 x0),(.dat l1.length (Zz l1)),(.dat l2.length (Zz l2))] true []) vs:=by have:=Ze (w5u x0 l1 l2) n _ (x7n x0 l1 l2);rwa [h] at this
end Go.Am
namespace Go.Am
open Go.Proofs
theorem z2b : ∀(l out:List Int),(l.foldl y5f out).length ≤out.length+l.length
 | [],out=>Nat.le_refl _
 | x::l,out=>Nat.le_trans (z2b l (y5f out x)) (by have:=y5e out x;simp;omega)
theorem z6b (l:List Int):(z3o l).length ≤l.length:=by
 have:=z2b l []
 simpa [z3o] using this
theorem y5w (cuts:List Int) (ins:List Bool): ∀(k i:Nat) (out:List R2),(w8r cuts ins k i out).length ≤out.length+k
 | 0,_,out=>Nat.le_refl _
 | k+1,i,out=>by
  unfold w8r;refine Nat.le_trans (y5w cuts ins k (i+1) _) ?_;cases rd ins i
  ·simp only [cond_false];omega
  ·simp only [cond_true];cases (decide (0<out.length)&&((rd out (out.length - 1)).b == rd cuts i)) <;> simp <;> omega
theorem w0t (cuts:List Int) (ins:List Bool):(y1p cuts ins).length ≤cuts.length:=by have:=y5w cuts ins (cuts.length - 1) 0 [];unfold y1p;simp only [List.length_nil] at this;omega
section
variable (kind:Int) (l m:List R4)
def u0y (x:Int) (y:Int):Bool:=y5h kind (has4V l x y) (has4V m x y)
def w1v (x:Int):List R2:=y1p (ysV l m) ((ysV l m).map (u0y kind l m x))
def v6a (out:List R4) (first:Nat) (x:Int):List R4:=out.take first++(out.drop first).map fun r=>⟨r.a,r.b,x,r.d⟩
def u8z (x x':Int) (s:List R2):List R4:=s.map fun p=>⟨x,p.a,x',p.b⟩
def jF :Nat→Nat→List R4→List R2→Nat→List R4
 | 0,_,out,_,_=>out
 | k+1,i,out,last,first=>
  bif decide (0<i)&&Qz (w1v kind l m (rd (xsV l m) i)) last then jF k (i+1) (v6a out first (rd (xsV l m) (i+1))) last first
  else jF k (i+1) (out++u8z (rd (xsV l m) i) (rd (xsV l m) (i+1)) (w1v kind l m (rd (xsV l m) i))) (w1v kind l m (rd (xsV l m) i)) out.length
def joV :List R4:=jF kind l m ((xsV l m).length - 1) 0 [] [] 0
end
def z1c (_:Int) (l m:List R4):Bool:=decide (l.length≤10000∧m.length≤10000)
theorem Ka (l m:List R4):(xsV l m).length ≤2*l.length+2*m.length:=by refine Nat.le_trans (z6b _) ?_;rw [List.length_append,z0t,z0t];omega
theorem y7g (l m:List R4):(ysV l m).length ≤2*l.length+2*m.length:=by refine Nat.le_trans (z6b _) ?_;rw [List.length_append,z0s,z0s];omega
section
variable (kind:Int) (l m:List R4) (hl:l.length≤10000) (hm:m.length≤10000)
include hl hm
theorem u3f (out:List R4) (last:List R2) (first:Int) (i:Nat) (hi:i+1<(xsV l m).length): ∀(k j:Nat) (acc:List Bool),j+k=(ysV l m).length →acc.length=j→
  ∃n,∀N,Yv (Vq kind l m) (N+n) (.to (.h1 out last first (i:Int) acc (j:Int)))=Yv (Vq kind l m) N (.to (.h1 out last first (i:Int) (acc++((ysV l m).drop j).map (u0y kind l m (rd (xsV l m) i))) ((ysV l m).length :Int)))
 | 0,j,acc,h,ha=>by refine ⟨0,fun N=> ?_⟩;rw [List.drop_eq_nil_of_le (by omega),List.map_nil,List.append_nil,Nat.add_zero];rw [show j=(ysV l m).length by omega]
 | k+1,j,acc,h,ha=>by
  have hx:=Ka l m;have hy:=y7g l m;obtain ⟨n,hn⟩:=u3f out last first i hi k (j+1) (acc++[u0y kind l m (rd (xsV l m) i) (rd (ysV l m) j)]) (by omega) (by simp [ha])
  refine ⟨n+1,fun N=> ?_⟩;have w1: ∀x y,z0b l x y=true:=fun x y=>decide_eq_true (by omega);have w2: ∀x y,z0b m x y=true:=fun x y=>decide_eq_true (by omega);rw [Ym (show j<(ysV l m).length by omega),List.map_cons,←Nat.add_assoc,Zv];simp (disch:=omega) only [Vq,Za,Zk,w1,w2,Zt,Yz,Yc,Yp,Zh,Zq,Zx,Yg,Zj,Nat.zero_add,decide_true,Bool.and_true,Bool.true_and,cond_true];have:=hn N;rw [List.append_assoc] at this;exact this
theorem u3e (last:List R2) (first:Int) (i:Nat) (hi:i+1<(xsV l m).length) (s:List R2) (hs:s.length≤1000000): ∀(k j:Nat) (out:List R4),j+k=s.length→out.length≤10000000000+j→
  ∃n,∀N,Yv (Vq kind l m) (N+n) (.to (.h2 out last first (i:Int) s (j:Int)))=Yv (Vq kind l m) N (.to (.h0 (out++u8z (rd (xsV l m) i) (rd (xsV l m) (i+1)) (s.drop j)) last first ((i+1:Nat):Int)))
 | 0,j,out,h,ho=>by have hx:=Ka l m;refine ⟨1,fun N=> ?_⟩;rw [List.drop_eq_nil_of_le (by omega),Zv];simp (disch:=omega) only [Vq,Za,Zk,Yx,Zq,Zx,cond_false,u8z,List.map_nil,List.append_nil]
 | k+1,j,out,h,ho=>by
  have hx:=Ka l m;obtain ⟨n,hn⟩:=u3e last first i hi s hs k (j+1) (out++u8z (rd (xsV l m) i) (rd (xsV l m) (i+1)) [rd s j]) (by omega) (by simp [u8z];omega)
  refine ⟨n+1,fun N=> ?_⟩;have:=hn N;rw [Ym (show j<s.length by omega),←Nat.add_assoc,Zv];simp (disch:=omega) only [Vq,Za,Zk,Zt,Yz,Yc,Yp,Zh,Zq,Zx,Yg,Zj,Nat.zero_add,decide_true,Bool.and_true,Bool.true_and,cond_true];rw [List.append_assoc] at this;exact this
theorem u0m (out:List R4) (j:Nat) (x:Int) (h:j<out.length):v6a (out.set j ⟨(rd out j).a,(rd out j).b,x,(rd out j).d⟩) (j+1) x=v6a out j x:=by
 have _uhl:=hl;have _uhm:=hm;unfold v6a;rw [Ym h,List.map_cons];have e1:(out.set j ⟨(rd out j).a,(rd out j).b,x,(rd out j).d⟩).take (j+1)=out.take j++[⟨(rd out j).a,(rd out j).b,x,(rd out j).d⟩]:=by
  apply List.ext_getElem
  ·simp;omega
  ·intro n h1 h2;simp only [List.getElem_take,List.getElem_set];by_cases e:j=n
   ·subst e;rw [if_pos rfl,List.getElem_append_right (by simp only [List.length_take];omega)];simp
   ·rw [if_neg e,List.getElem_append_left (by simp at h1 ⊢;omega),List.getElem_take]
 have e2:(out.set j ⟨(rd out j).a,(rd out j).b,x,(rd out j).d⟩).drop (j+1)=out.drop (j+1):=by rw [List.drop_set];rw [if_pos (by omega)]
 rw [e1,e2,List.append_assoc];rfl
theorem u3d (last:List R2) (first:Int) (i:Nat) (hi:i+1<(xsV l m).length): ∀(k j:Nat) (out:List R4),j+k=out.length→out.length≤10000000000→
  ∃n,∀N,Yv (Vq kind l m) (N+n) (.to (.h3 out last first (i:Int) (j:Int)))=Yv (Vq kind l m) N (.to (.h0 (v6a out j (rd (xsV l m) (i+1))) last first ((i+1:Nat):Int)))
 | 0,j,out,h,ho=>by
  have hx:=Ka l m;refine ⟨1,fun N=> ?_⟩;have e:v6a out j (rd (xsV l m) (i+1))=out:=by unfold v6a;rw [List.drop_eq_nil_of_le (by omega),List.map_nil,List.append_nil,List.take_of_length_le (by omega)]
  rw [e,Zv];simp (disch:=omega) only [Vq,Za,Zk,Yx,Zq,Zx,cond_false]
 | k+1,j,out,h,ho=>by
  have hx:=Ka l m;obtain ⟨n,hn⟩:=u3d last first i hi k (j+1) (out.set j ⟨(rd out j).a,(rd out j).b,rd (xsV l m) (i+1),(rd out j).d⟩) (by simp;omega) (by simpa using ho)
  refine ⟨n+1,fun N=> ?_⟩;have:=hn N;rw [u0m l m hl hm out j _ (by omega)] at this;rw [←Nat.add_assoc,Zv];simp (disch:=omega) only [Vq,Za,Zk,Zt,Yz,Yk,Yc,Yp,Zh,Zq,Zx,Yg,Zj,Nat.zero_add,decide_true,Bool.and_true,Bool.true_and,cond_true];exact this
theorem v0n : ∀(k i:Nat) (out:List R4) (last:List R2) (first:Nat),k=(xsV l m).length - 1 - i→i≤(xsV l m).length →out.length≤i*40000→last.length≤40000→first≤out.length→
  ∃n,Yv (Vq kind l m) n (.to (.h0 out last (first:Int) (i:Int)))=.ret [.dat (jF kind l m k i out last first).length (Zz (jF kind l m k i out last first))]
 | 0,i,out,last,first,h,hi,ho,hla,hf=>by have hx:=Ka l m;refine ⟨1,?_⟩;rw [Zv];simp (disch:=omega) only [Vq,Za,Zk,Yx,Zq,Zx,cond_false,Zm,jF]
 | k+1,i,out,last,first,h,hi,ho,hla,hf=>by
  have hx:=Ka l m;have hy:=y7g l m;have hi1:i+1<(xsV l m).length :=by omega
  have hsl:(w1v kind l m (rd (xsV l m) i)).length ≤40000:=Nat.le_trans (w0t _ _) (by omega);have hbig:i*40000≤40000*40000:=Nat.mul_le_mul_right _ (by omega);obtain ⟨n1,h1⟩:=u3f kind l m hl hm out last first i hi1 (ysV l m).length 0 [] (Nat.zero_add _) rfl
  simp only [List.drop_zero,List.nil_append,z4u] at h1;have w3:z8t (ysV l m) ((ysV l m).map (u0y kind l m (rd (xsV l m) i)))=true:=decide_eq_true ⟨by omega,by rw [List.length_map];omega⟩;have w4:Vf (y1p (ysV l m) ((ysV l m).map (u0y kind l m (rd (xsV l m) i)))) last=true:=decide_eq_true (Nat.le_trans hsl (by omega));have hy2:((ysV l m).length :Int)=(((ysV l m).length :Nat):Int):=rfl;unfold jF;rcases Ye (decide (0<i)&&Qz (w1v kind l m (rd (xsV l m) i)) last) with q | q
  ·obtain ⟨n3,h3⟩:=u3d kind l m hl hm last first i hi1 (out.length - first) first out (by omega) (by omega)
   obtain ⟨n0,h0⟩:=v0n k (i+1) (v6a out first (rd (xsV l m) (i+1))) last first (by omega) (by omega) (by simp [v6a];omega) hla (by simp [v6a];omega)
   refine ⟨n0+n3+1+n1+1,?_⟩;rw [q,cond_true,Zv];simp only [Bool.and_eq_true,decide_eq_true_eq] at q;have q2:Qz (y1p (ysV l m) ((ysV l m).map (u0y kind l m (rd (xsV l m) i)))) last=true:=q.2;simp (disch:=omega) only [Vq,Za,Zk,Zt,Zq,Zx,cond_true];have h1':=h1 (n0+n3+1);rw [h1',Zv];simp (disch:=omega) only [Vq,Za,Zk,Yx,Yo,q2,w3,w4,cond_true,cond_false];rw [h3 n0,h0]
  ·obtain ⟨n2,h2⟩:=u3e kind l m hl hm (w1v kind l m (rd (xsV l m) i)) (out.length:Int) i hi1 (w1v kind l m (rd (xsV l m) i)) (by omega) (w1v kind l m (rd (xsV l m) i)).length 0 out (Nat.zero_add _) (by omega);obtain ⟨n0,h0⟩:=v0n k (i+1) (out++u8z (rd (xsV l m) i) (rd (xsV l m) (i+1)) (w1v kind l m (rd (xsV l m) i))) (w1v kind l m (rd (xsV l m) i)) out.length (by omega) (by omega) (by simp [u8z];omega) hsl (by simp);refine ⟨n0+n2+1+n1+1,?_⟩;rw [q,cond_false,Zv];simp (disch:=omega) only [Vq,Za,Zk,Zt,Zq,Zx,cond_true];have h1':=h1 (n0+n2+1);rw [h1',Zv];have h2':=h2 n0;simp only [List.drop_zero,z4u] at h2';by_cases hi0:0<i
   ·rw [decide_eq_true hi0,Bool.true_and] at q;have q2:Qz (y1p (ysV l m) ((ysV l m).map (u0y kind l m (rd (xsV l m) i)))) last=false:=q;simp (disch:=omega) only [Vq,Za,Zk,Yx,Yo,q2,w3,w4,cond_true,cond_false];rw [←h0];exact h2'
   ·simp (disch:=omega) only [Vq,Za,Zk,Yx,Xp,w3,w4,cond_true,cond_false];rw [←h0];exact h2'
end
theorem u8i (kind:Int) (l m:List R4) (h:z1c kind l m=true): ∃N,Yv (Vq kind l m) N (y2p kind l m)=.ret [.dat (joV kind l m).length (Zz (joV kind l m))]:=by obtain ⟨hl,hm⟩:=of_decide_eq_true h;obtain ⟨N,hN⟩:=v0n kind l m hl hm ((xsV l m).length - 1) 0 [] [] 0 rfl (Nat.zero_le _) (Nat.zero_le _) (Nat.zero_le _) (Nat.le_refl _);refine ⟨N,?_⟩;have w1:y1y l m=true:=decide_eq_true ⟨hl,hm⟩;have w2:y1x l m=true:=decide_eq_true ⟨hl,hm⟩;simp only [y2p,Za,Zk,w1,w2,cond_true];exact hN
end Go.Am
namespace Go.Am
open Go.Proofs.Tryz
open Go.Proofs
theorem v3z {P:Program} {S:Specs} (hS:Zu P S) {f:FuncId} {F:List AVal→Option (AVal×Bool)} (hf:(P.funcs[f]?).any (fun fn=>fn.body.isSome)=true)
  (hF: ∀args v,F args=some (v,true)→ ∃bs vs,Vv VLe args bs∧(∀(ρ:Rho) (u:Value),Yy ρ (Ku vs) u→Yy ρ v u)∧Jt P (Zy P f) (Zc P f bs true []) vs∧ ∃d,pf d (Ku vs)=true):Zu P (S.with f F):=
 w4i hS hf fun args v h=>by obtain ⟨bs,vs,h1,h2,h3,d,h4⟩:=hF args v h;exact ⟨vs,h2,x5c h1 h3,d,h4⟩
theorem z5s {cs cs':List AVal} (h:RLe cs cs') (ρ:Rho) (u:Value) (hv:Yy ρ (.tup cs) u):Yy ρ (.tup cs') u:=by
 cases hv with
 | tup _ vs hl hh=>exact .tup cs' vs (by rw [←h.len];exact hl) fun i h1 h2=>h.sound i (by rw [h.len];exact h1) h1 (hh i (by rw [h.len];exact h1) h2)
theorem z6l (α:Type) [Yt α]:VLe .nils (.dat ([]:List α).length (Zz ([]:List α))):=.nild _
def fJo :List AVal→Option (AVal×Bool)
 | [.int .i64 x0,a1,a2]=>match asL R4 a1,asL R4 a2 with
  | some (L1,g1,n1),some (L2,g2,n2)=>some (.dat (joV x0 L1 L2).length (Zz (joV x0 L1 L2)),isT R4 n1 g1&&(isT R4 n2 g2&&(z1c x0 L1 L2)))
  | _,_=>none
 | _=>none
theorem fJo_ok {S:Specs} (hS:Zu prog S):Zu prog (S.with u4o fJo):=by
 refine z2d hS (by kernel_rfl) fun args v h=> ?_;unfold fJo at h;split at h
 ·rename_i x0 a1 a2;split at h
  ·rename_i L1 g1 n1 L2 g2 n2 e1 e2;simp only [Option.some.injEq,Prod.mk.injEq,Bool.and_eq_true] at h;obtain ⟨rfl,ho1,ho2,hw⟩:=h;obtain ⟨N,hN⟩:=u8i x0 L1 L2 hw;exact ⟨_,_,(.cons (.refl _) (.cons (asL_le e1 ho1) (.cons (asL_le e2 ho2) .nil))),rfl,v7k x0 L1 L2 N _ hN,3,rfl⟩
  ·cases h
 ·cases h
def T3 :Specs:=T2.with u4o fJo
theorem y0o :Zu prog T3:=fJo_ok y0p
end Go.Am
namespace Go.Am
open Go.Proofs Go.Sort
def bnd3 (r:R3):Bool:=decide (-1000000000≤r.a∧r.a≤1000000000)
def y1q (l:List R3):Bool:=l.all bnd3
abbrev E3 :={r:R3 // bnd3 r=true}
instance : Inhabited E3:=⟨⟨⟨0,0,0⟩,rfl⟩⟩
def cf3 (x y:E3):Int:=x.1.a - y.1.a
def lt3 (x y:E3):Bool:=decide (cf3 x y<0)
theorem swo3 :SWO lt3 where
 irrefl x:=by unfold lt3 cf3;simp
 trans x y z h1 h2:=by unfold lt3 cf3 at*;simp at*;omega
 ntrans x y z h1 h2:=by unfold lt3 cf3 at*;simp at*;omega
def x2x :(l:List R3)→y1q l=true→List E3
 | [],_=>[]
 | r::l,h=>⟨r,by simp [y1q] at h;exact h.1⟩::x2x l (by simp [y1q] at h ⊢;exact h.2)
theorem y3o : ∀(l:List R3) (h:y1q l=true),(x2x l h).map Subtype.val=l
 | [],_=>rfl
 | r::l,h=>by rw [x2x,List.map_cons,y3o l]
theorem Kf (l:List R3) (h:y1q l=true):(x2x l h).length =l.length:=by
 have:=congrArg List.length (y3o l h)
 simpa using this
def z0v (l:List R3):List R3:=if h:y1q l=true then (pdq lt3 (x2x l h).toArray 0 l.length (Lib.bitLen l.length) true true).toList.map Subtype.val else l
theorem Ks (l:List R3) (h:y1q l=true):(z0v l).Perm l∧ ∀i j,i<j→j<(z0v l).length →(rd (z0v l) i).a ≤(rd (z0v l) j).a :=by
 have hp:=pdq_sorts lt3 swo3 (x2x l h).toArray 0 l.length (Lib.bitLen l.length) true true (Nat.zero_le _) (by simp [Kf]) (Or.inl rfl);obtain ⟨⟨h1,h2,h3⟩,h4⟩:=hp;have e:z0v l=(pdq lt3 (x2x l h).toArray 0 l.length (Lib.bitLen l.length) true true).toList.map Subtype.val:=by unfold z0v;rw [dif_pos h]
 generalize pdq lt3 (x2x l h).toArray 0 l.length (Lib.bitLen l.length) true true=d at*;have hs:d.size=l.length:=by rw [h1];simp [Kf]
 constructor
 ·rw [e];have x1:(d.extract 0 l.length).toList =d.toList:=by rw [←hs];simp
  have x2:((x2x l h).toArray.extract 0 l.length).toList =x2x l h:=by rw [show l.length=(x2x l h).toArray.size by simp [Kf]];simp
  rw [x1,x2] at h3;have:=h3.map Subtype.val;rw [y3o] at this;exact this
 ·intro i j hij hj;rw [e] at hj ⊢;have hj':j<d.size:=by simpa using hj
  have:=h4 i j (Nat.zero_le _) hij (by omega);rw [getElem!_pos d i (by omega),getElem!_pos d j hj'] at this;rw [Xy (by simp;omega),Xy hj];simp only [List.getElem_map,Array.getElem_toList];unfold lt3 cf3 at this;have:=of_decide_eq_false this;omega
end Go.Am
namespace Go.Am
open Go.Sort Go.RowKit Go.Proofs Go.Shelf
variable {P:Program} {ρ:Rho}
def valOf :AVal→Value
 | .int k n=>.int k n
 | .bool b=>.bool b
 | _=>.tuple #[]
def x9k :AVal→Bool
 | .int _ _=>true
 | .bool _=>true
 | _=>false
theorem w8x {a:AVal} (h:x9k a=true):Yy ρ a (valOf a):=by
 cases a <;> first
  | exact .int _ _
  | exact .bool _
  | (simp [x9k] at h;done)
theorem v0w {a:AVal} {v:Value} (h:x9k a=true) (hv:Yy ρ a v):v=valOf a:=by
 cases hv <;> first
  | rfl
  | (simp [x9k] at h;done)
class u6e (α:Type) extends Yt α where
 num: ∀a:α,(cells a).all x9k=true
instance : u6e R2 where num _:=rfl
instance : u6e R3 where num _:=rfl
instance : u6e R4 where num _:=rfl
instance : u6e R6 where num _:=rfl
instance {α :Type} [Yt α]:Inhabited α:=⟨Yt.d⟩
section
variable {α:Type} [u6e α]
def y9v (a:α):List Value:=(Yt.cells a).map valOf
theorem y5r (a:α):(y9v a).length =Yt.w α:=by rw [y9v,List.length_map,Yt.len]
theorem w3u (L:List α) (t:Nat) (h:t<L.length*Yt.w α):(flatK y9v (Yt.w α) L.toArray)[t]? =(Yt.cells (rd L (t / Yt.w α)))[t %Yt.w α]?.map valOf:=by
 have hw:=Yt.pos (α:=α);have hq:t / Yt.w α<L.length:=Nat.div_lt_of_lt_mul (by rw [Nat.mul_comm];exact h);have hj:t %Yt.w α<Yt.w α:=Nat.mod_lt _ hw;have hs:t<(flatK y9v (Yt.w α) L.toArray).size :=by rw [size_flatK];exact h
 rw [Array.getElem?_eq_getElem hs,←getElem!_pos (flatK y9v (Yt.w α) L.toArray) t hs,get_flatK y9v (Yt.w α) L.toArray t (by simpa using h)];have e1:L.toArray[t / Yt.w α]! =rd L (t / Yt.w α):=by rw [Xy hq,getElem!_pos L.toArray _ (by simpa using hq)];simp
 rw [e1];have hl:t %Yt.w α<(y9v (rd L (t / Yt.w α))).length :=by rw [y5r];exact hj
 have hl2:t %Yt.w α<(Yt.cells (rd L (t / Yt.w α))).length :=by rw [Yt.len];exact hj
 rw [getElem!_pos (y9v (rd L (t / Yt.w α))) _ hl,List.getElem?_eq_getElem hl2];simp [y9v]
theorem v0i (L:List α) (N t:Nat) (h:t<N*Yt.w α):(rows N (Zz L))[t]? =(Yt.cells (rd L (t / Yt.w α)))[t %Yt.w α]? :=by have hw:=Yt.pos (α:=α);have:=Vz (get:=Zz L) (sz:=Yt.w α) N (fun _ _=>Yt.len _) (t / Yt.w α) (t %Yt.w α) (Nat.div_lt_of_lt_mul (by rw [Nat.mul_comm];exact h)) (Nat.mod_lt _ hw);rw [show t / Yt.w α*Yt.w α+t %Yt.w α=t by rw [Nat.mul_comm];exact Nat.div_add_mod t _] at this;exact this
theorem z1q (L:List α) (N:Nat):(rows N (Zz L)).length =N*Yt.w α:=Yq N fun _ _=>Yt.len _
theorem y5i (w:World) (n blk off:Nat) (d:Array Value) (os:Array Obj) (k:Nat) (hk:k<w.heap.size):
  (grow (putRow id (Go.Sort.ahead w n) blk off d) os).heap[k]? =if k=blk then (w.heap[k]?).map (onCells (putCells id off d)) else w.heap[k]? :=by
 show (((Go.Sort.ahead w n).heap.modify blk (onCells (putCells id off d)))++os)[k]? =_;rw [Array.getElem?_append_left (by simp;exact hk),Array.getElem?_modify];show (if blk=k then _ else _)=_;by_cases h:k=blk
 ·rw [if_pos h.symm,if_pos h];rfl
 ·rw [if_neg (fun e=>h e.symm),if_neg h];rfl
def w3w (α:Type) [Yt α] (srt:List α→List α) (bnd:List α→Bool) (g:FuncId) (args:List AVal) (mem:Mem):Option (AVal×Nat×ABlk×Bool):=match args with
 | [.sla b sz off n cap,.fn f []]=>bif Nat.beq f g then match Yf mem b with
  | some ⟨_,ty,some A⟩=>some (.tup [],b,⟨rows A.n (Zz (srt (lst α n A.get))),ty,some ⟨Yt.w α,A.n,Zz (srt (lst α n A.get))⟩⟩,
    Nat.beq sz (Yt.w α)&&(Nat.beq A.sz (Yt.w α)&&(Nat.beq off 0&&((decide (n=A.n)&&(isT α n A.get&&decide (n<4611686018427387904)))&&bnd (lst α n A.get)))))
  | _=>none
  else none
 | _=>none
theorem v4l {f g:FuncId} {srt:List α→List α} {bnd:List α→Bool} (hsl: ∀L,(srt L).length =L.length)
  (hC: ∀(blk off cap:Nat) (L:List α) (w:World),bnd L=true→HoldsK y9v (Yt.w α) w blk off L.toArray→blk<w.heap.size→L.length<4611686018427387904→
   Calls P f #[.slice (some ⟨blk,off,none⟩) L.length cap,.func (.func g) #[] #[]] w fun e w'=>e=.returned (.tuple #[])∧ ∃n os,w'=sortWorldK y9v (Yt.w α) w blk off n (srt L).toArray os)
  (hN: ∀(p:Option Addr) (cap:Nat) (fv:Value) (w:World),Calls P f #[.slice p 0 cap,fv] w fun e w'=>e=.returned (.tuple #[])∧w'=w):x6b P f (w3w α srt bnd g):=by
 intro args mem v b blk h fH ρ next floor vals w hfl dF dC
 have hw0:=Yt.pos (α:=α);unfold w3w at h;split at h
 ·rename_i b0 sz off n cap f0;obtain ⟨hfg,h'⟩:=Qn h;clear h;obtain rfl:=Nat.eq_of_beq_eq_true hfg;have h:=h';clear h';split at h
  ·rename_i cells ty A hm;obtain ⟨asz,an,get⟩:=A;simp only [Option.some.injEq,Prod.mk.injEq,Bool.and_eq_true] at h;obtain ⟨rfl,rfl,rfl,h1,h2,h3,⟨h4,h5,h6⟩,h7⟩:=h;have g1:=Nat.eq_of_beq_eq_true h1;have g2:=Nat.eq_of_beq_eq_true h2;have g3:=Nat.eq_of_beq_eq_true h3;have g4:n=an:=of_decide_eq_true h4;have h6:n<4611686018427387904:=of_decide_eq_true h6;have g2:asz=Yt.w α:=g2;subst g1;subst g2;subst g3;subst g4;have h7:bnd (lst α n get.get)=true:=h7;have dK:=w3m h5;have dK: ∀i,i<n→get.get i=Zz (lst α n get.get) i:=dK;have hrows:rows n get.get=rows n (Zz (lst α n get.get)):=z5a n dK;obtain ⟨u,hu,hvals⟩: ∃u,Yy ρ (.sla b0 (Yt.w α) 0 n cap) u∧vals= #[u,.func (.func f0) #[] #[]]:=by
    obtain ⟨vl⟩:=vals;cases dF with
    | cons q1 q2=>cases q2 with
     | cons q3 q4=>
      cases q4;cases q3 with
      | fn _ _ cvs hl _=>have:cvs= #[]:=Array.eq_empty_of_size_eq_zero (by simpa using hl.symm);subst this;exact ⟨_,q1,rfl⟩
   subst hvals;have hlt:b0<next:=by
    rcases Nat.lt_or_ge b0 next with q | q
    ·exact q
    ·have:=dC.bd b0 q;rw [hm] at this;cases this
   show Calls P f _ w _;have hAget:(Arr.get ⟨Yt.w α,n,get⟩)=get.get:=rfl;rw [hAget] at*;generalize hI:lst α n get.get=I at*;have hIl:I.length=n:=by rw [←hI];exact z9u _ _
   generalize hL:srt I=L;have hLl:L.length=n:=by rw [←hL,hsl,hIl]
   have hnn:ρ b0=none→ ∀cs ty',Yf mem b0≠some ⟨cs,ty',none⟩:=fun _ cs ty' e=>by rw [hm] at e;cases e
   cases hu with
   | sla _ _ _ _ _ l cc e hc dD=>
    have hbk:=dC.blk b0 l _ e hm;obtain ⟨har,_,_⟩:=hbk.arr _ rfl;have har:cells=rows n get.get:=har;rw [hrows] at har;subst har;obtain ⟨cur,el,hh,hsz,dH⟩:=hbk.cells;simp only [z1q] at dH;have htot:=hbk.tot;have hln:=hbk.n;simp only [z1q] at hln;have eC: ∀t,t<n*Yt.w α→cur[l.base+t]? =(Yt.cells (rd I (t / Yt.w α)))[t %Yt.w α]?.map valOf:=fun t ht=>by
     obtain ⟨v,e1,e2⟩:=dH t ht;have hj:t %Yt.w α<Yt.w α:=Nat.mod_lt _ hw0;have hl2:t %Yt.w α<(Yt.cells (rd I (t / Yt.w α))).length :=by rw [Yt.len];exact hj
     have e3:=v0i I n t ht;rw [List.getElem?_eq_getElem (by rw [z1q];exact ht),List.getElem?_eq_getElem hl2] at e3;rw [Option.some.inj e3] at e2;rw [e1,List.getElem?_eq_getElem hl2,Option.map_some,v0w (List.all_eq_true.1 (u6e.num _) _ (List.getElem_mem hl2)) e2]
    have eQ:=dC.real b0 l e;have hH:HoldsK y9v (Yt.w α) w l.blk (l.base+0*Yt.w α) I.toArray:=fun j hj=>by
     have hj:j<n*Yt.w α:=(by simpa [hIl] using hj);have hs:j<(flatK y9v (Yt.w α) I.toArray).size :=(by simpa [hIl] using hj);have e1:=w3u I j (by rw [hIl];exact hj);rw [Array.getElem?_eq_getElem hs] at e1;refine ⟨?_,?_⟩
     ·simp only [World.cell?,hh,Nat.zero_mul,Nat.add_zero,id];rw [eC j hj,←e1,getElem!_pos (flatK y9v (Yt.w α) I.toArray) j hs];simp
     ·simp [World.frozen?,hh]
    have dS:=hC l.blk (l.base+0*Yt.w α) cc I w h7 hH eQ (by omega);rw [hIl,hL] at dS;refine dS.mono fun e' w' ⟨he,q,os,hw'⟩=>⟨_,he,?_,?_,?_⟩
    ·exact .tup [] #[] rfl fun i h1 h2=>absurd h1 (Nat.not_lt_zero _)
    ·subst hw';refine Rel.setArr ?_ ⟨Yt.w α,n,.flat (Zz L)⟩ rfl hw0 fun _ _=>Yt.len _;refine Rel.rewritten dC e hm (by simp only [z1q]) (fun k hk hne=> ?_) ?_ ?_
     ·exact (y5i _ _ _ _ _ _ _ hk).trans (if_neg hne)
     ·show _≤(((Go.Sort.ahead w q).heap.modify _ _)++os).size;simp only [Array.size_append,Array.size_modify];exact Nat.le_add_right _ _
     ·refine ⟨putCells id (l.base+0*Yt.w α) (flatK y9v (Yt.w α) L.toArray) cur,el,?_,?_,fun i hi=> ?_⟩
      ·refine (y5i _ _ _ _ _ _ _ eQ).trans ?_;rw [if_pos rfl,hh];rfl
      ·simp only [putCells,Array.size_mapIdx];exact hsz
      ·rw [z1q] at hi;have hj:i %Yt.w α<Yt.w α:=Nat.mod_lt _ hw0;have hl2:i %Yt.w α<(Yt.cells (rd L (i / Yt.w α))).length :=by rw [Yt.len];exact hj
       have hl3:i %Yt.w α<(Yt.cells (rd I (i / Yt.w α))).length :=by rw [Yt.len];exact hj
       have e1:=w3u L i (by rw [hLl];exact hi);rw [List.getElem?_eq_getElem hl2,Option.map_some] at e1;have hs:i<(flatK y9v (Yt.w α) L.toArray).size :=(by simpa [hLl] using hi);rw [Array.getElem?_eq_getElem hs] at e1;have e3:=v0i L n i hi;rw [List.getElem?_eq_getElem (by rw [z1q];exact hi),List.getElem?_eq_getElem hl2] at e3;refine ⟨valOf (Yt.cells (rd L (i / Yt.w α)))[i %Yt.w α],?_,?_⟩
       ·have hc0:=eC i hi;rw [List.getElem?_eq_getElem hl3,Option.map_some] at hc0;simp only [putCells,Array.getElem?_mapIdx,hc0,Option.map_some,Nat.zero_mul,Nat.add_zero];rw [if_pos ⟨by omega,by omega⟩]
        congr 1
        rw [show l.base+i - l.base=i by omega,id,getElem!_pos (flatK y9v (Yt.w α) L.toArray) i hs];exact Option.some.inj e1
       ·rw [Option.some.inj e3];exact w8x (List.all_eq_true.1 (u6e.num _) _ (List.getElem_mem hl2))
    ·subst hw';refine Ev.rewritten dC _ (fun l' _=>hfl) hnn (fun k hk hne=> ?_) ?_ rfl rfl rfl
     ·exact (y5i _ _ _ _ _ _ _ hk).trans (if_neg (hne l e))
     ·show _≤(((Go.Sort.ahead w q).heap.modify _ _)++os).size;simp only [Array.size_append,Array.size_modify];exact Nat.le_add_right _ _
   | slan=>
    have hI0:I=[]:=List.eq_nil_of_length_eq_zero hIl;have hL0:L=[]:=List.eq_nil_of_length_eq_zero hLl;refine (hN none 0 _ w).mono fun e' w' ⟨he,hw'⟩=>⟨_,he,?_,?_,?_⟩
    ·exact .tup [] #[] rfl fun i h1 h2=>absurd h1 (Nat.not_lt_zero _)
    ·subst hw';refine dC.reblk hm fun l hρ hbk=> ?_;obtain ⟨har,fF,_⟩:=hbk.arr _ rfl;have har:cells=rows 0 get.get:=har;subst har;exact ⟨hbk.n,hbk.tot,fun B hB=>by obtain rfl:=Option.some.inj hB;exact ⟨rfl,hw0,fun i hi=>absurd hi (Nat.not_lt_zero _)⟩,hbk.cells⟩
    ·subst hw';exact Ev.rewritten dC _ (fun l' _=>hfl) hnn (fun _ _ _=>rfl) (Nat.le_refl _) rfl rfl rfl
  ·cases h
 ·cases h
end
def Specs.withE (S:Specs) (f:FuncId) (F:List AVal→Mem→Option (AVal×Nat×ABlk×Bool)):Specs:=fun g=>bif Nat.beq g f then some (.eff F) else S g
theorem x0f {P:Program} {S:Specs} (hS:Zu P S) {f:FuncId} {F:List AVal→Mem→Option (AVal×Nat×ABlk×Bool)} (hf:(P.funcs[f]?).any (fun fn=>fn.body.isSome)=true) (hF:x6b P f F):Zu P (S.withE f F):=by
 intro g G hg;unfold Specs.withE at hg;cases hgf:Nat.beq g f with
 | false=>rw [hgf] at hg;exact hS g G hg
 | true=>
  rw [hgf] at hg;obtain rfl:Spec.eff F=G:=Option.some.inj hg;obtain rfl:g=f:=Nat.eq_of_beq_eq_true hgf;refine ⟨?_,hF⟩;cases hfn:P.funcs[g]? with
  | none=>rw [hfn] at hf;cases hf
  | some fn=>rw [hfn] at hf;exact ⟨fn,rfl,hf⟩
end Go.Am
namespace Go.Proofs
open Go.Proofs.Tryz
open Go.Shelf
def Tryz.lays189_ren :Go.Shelf.Ren:=⟨fun | 189=>63 | 125=>117 | 257=>116 | 128=>152 | 129=>153 | 294=>143 | 295=>144 | 296=>145 | 297=>146 | 298=>147 | 299=>148 | 216=>149 | 300=>150 | 301=>151 | 328=>176 | 329=>177 | 330=>178 | 331=>179 | 332=>180 | 215=>181 | 343=>194 | n=>n,fun | 28=>93 | 3=>3 | 46=>147 | 0=>0 | 51=>194 | 53=>196 | 4=>4 | 183=>186 | 182=>185 | 131=>191 | 5=>5 | 9=>9 | 218=>224 | 222=>228 | 228=>239 | 229=>91 | n=>n,fun | n=>n⟩
theorem Tryz.lays189 :Go.Proofs.Lays.n189 prog Tryz.lays189_ren:={
 mixed:=by kernel_rfl
 f125:=Tryz.func117.trans (congrArg some (by kernel_rfl))
 f128:=Tryz.func152.trans (congrArg some (by kernel_rfl))
 f129:=Tryz.func153.trans (congrArg some (by kernel_rfl))
 f189:=Tryz.func63.trans (congrArg some (by kernel_rfl))
 f215:=Tryz.func181.trans (congrArg some (by kernel_rfl))
 f216:=Tryz.func149.trans (congrArg some (by kernel_rfl))
 f257:=Tryz.func116.trans (congrArg some (by kernel_rfl))
 f294:=Tryz.func143.trans (congrArg some (by kernel_rfl))
 f295:=Tryz.func144.trans (congrArg some (by kernel_rfl))
 f296:=Tryz.func145.trans (congrArg some (by kernel_rfl))
 f297:=Tryz.func146.trans (congrArg some (by kernel_rfl))
 f298:=Tryz.func147.trans (congrArg some (by kernel_rfl))
 f299:=Tryz.func148.trans (congrArg some (by kernel_rfl))
 f300:=Tryz.func150.trans (congrArg some (by kernel_rfl))
 f301:=Tryz.func151.trans (congrArg some (by kernel_rfl))
 f328:=Tryz.func176.trans (congrArg some (by kernel_rfl))
 f329:=Tryz.func177.trans (congrArg some (by kernel_rfl))
 f330:=Tryz.func178.trans (congrArg some (by kernel_rfl))
 f331:=Tryz.func179.trans (congrArg some (by kernel_rfl))
 f332:=Tryz.func180.trans (congrArg some (by kernel_rfl))
 f343:=Tryz.func194.trans (congrArg some (by kernel_rfl))
 t0:=Tryz.underlying0
 a0:=Tryz.isAgg0
 z0:=Tryz.sizeOf0
 v0:=Tryz.zeroValue0
 t3:=Tryz.underlying3
 a3:=Tryz.isAgg3
 z3:=Tryz.sizeOf3
 v3:=Tryz.zeroValue3
 t4:=Tryz.underlying4
 a4:=Tryz.isAgg4
 z4:=Tryz.sizeOf4
 v4:=Tryz.zeroValue4
 t5:=Tryz.underlying5
 a5:=Tryz.isAgg5
 z5:=Tryz.sizeOf5
 v5:=Tryz.zeroValue5
 t9:=Tryz.underlying9
 a9:=Tryz.isAgg9
 z9:=Tryz.sizeOf9
 v9:=Tryz.zeroValue9
 t28:=Tryz.underlying93
 a28:=Tryz.isAgg93
 z28:=Tryz.sizeOf93
 v28:=Tryz.zeroValue93
 t46:=Tryz.underlying147
 a46:=Tryz.isAgg147
 z46:=Tryz.sizeOf147
 v46:=Tryz.zeroValue147
 t51:=Tryz.underlying194
 a51:=Tryz.isAgg194
 z51:=Tryz.sizeOf194
 v51:=Tryz.zeroValue194
 t53:=Tryz.underlying196
 a53:=Tryz.isAgg196
 z53:=Tryz.sizeOf196
 v53:=Tryz.zeroValue196
 t131:=Tryz.underlying191
 a131:=Tryz.isAgg191
 z131:=Tryz.sizeOf191
 v131:=Tryz.zeroValue191
 t182:=Tryz.underlying185
 a182:=Tryz.isAgg185
 z182:=Tryz.sizeOf185
 v182:=Tryz.zeroValue185
 t183:=Tryz.underlying186
 a183:=Tryz.isAgg186
 z183:=Tryz.sizeOf186
 v183:=Tryz.zeroValue186
 t218:=Tryz.underlying224
 a218:=Tryz.isAgg224
 z218:=Tryz.sizeOf224
 v218:=Tryz.zeroValue224
 t222:=Tryz.underlying228
 a222:=Tryz.isAgg228
 z222:=Tryz.sizeOf228
 v222:=Tryz.zeroValue228
 t228:=Tryz.underlying239
 a228:=Tryz.isAgg239
 z228:=Tryz.sizeOf239
 v228:=Tryz.zeroValue239
 t229:=Tryz.underlying91
 a229:=Tryz.isAgg91
 z229:=Tryz.sizeOf91
 v229:=Tryz.zeroValue91}
open Go.Sort Go.RowKit in
theorem Tryz.slices_Sort_int (blk off cap:Nat) (zs:List Int) (w:World) (hH:Holds (Value.int .i64) w blk off zs.toArray) (eQ:blk<w.heap.size) (hsz:zs.length<4611686018427387904):
  Calls prog 63 #[.slice (some ⟨blk,off,none⟩) zs.length cap] w fun e w'=>
   e=.returned (.tuple #[])∧ ∃n os,w'=grow (putRow (Value.int .i64) (Sort.ahead w n) blk off (zs.mergeSort fun x y=>decide (x≤y)).toArray) os:=Any.slices_Sort_int Tryz.lays189 blk off cap zs w hH eQ hsz
def Tryz.laysNm220_ren :Go.Shelf.Ren:=⟨fun | 20=>64 | n=>n,fun | 22=>93 | 3=>3 | 4=>4 | 0=>0 | n=>n,fun | n=>n⟩
theorem Tryz.laysNm220 :Go.Proofs.Lays2.n20 prog Tryz.laysNm220_ren:={
 mixed:=by kernel_rfl
 f20:=Tryz.func64.trans (congrArg some (by kernel_rfl))
 t0:=Tryz.underlying0
 a0:=Tryz.isAgg0
 z0:=Tryz.sizeOf0
 v0:=Tryz.zeroValue0
 t3:=Tryz.underlying3
 a3:=Tryz.isAgg3
 z3:=Tryz.sizeOf3
 v3:=Tryz.zeroValue3
 t4:=Tryz.underlying4
 a4:=Tryz.isAgg4
 z4:=Tryz.sizeOf4
 v4:=Tryz.zeroValue4
 t22:=Tryz.underlying93
 a22:=Tryz.isAgg93
 z22:=Tryz.sizeOf93
 v22:=Tryz.zeroValue93
 i3:=by kernel_rfl}
open Go.RowKit Go.Lib Go.Sort in
theorem Tryz.slices_Compact_int (blk off cap:Nat) (zs:List Int) (w:World) (hH:Holds (Value.int .i64) w blk off zs.toArray) (hsz:zs.length≤9223372036854775807) (dI:zs.length≤cap):
  Calls prog 64 #[.slice (some ⟨blk,off,none⟩) zs.length cap] w fun e w'=>e=.returned (.slice (some ⟨blk,off,none⟩) (Lib.compact zs).length cap)∧ ∃q,w'=putRow (Value.int .i64) (Sort.ahead w q) blk off (Lib.compact zs++List.replicate (zs.length - (Lib.compact zs).length) 0).toArray :=Any.slices_Compact_int Tryz.laysNm220 blk off cap zs w hH hsz dI
open Go.RowKit Go.Lib Go.Sort in
theorem Tryz.slices_Compact_int_empty (a:Option Addr) (cap:Nat) (w:World):
  Calls prog 64 #[.slice a 0 cap] w fun e w'=>e=.returned (.slice a 0 cap)∧w'=w:=Any.slices_Compact_int_empty Tryz.laysNm220 a cap w
open Go.RowKit Go.Sort in
theorem Tryz.slices_Sort_int_none (p:Option Addr) (cap:Nat) (w:World):
  Calls prog 63 #[.slice p 0 cap] w fun e w'=>e=.returned (.tuple #[])∧w'=w:=Any.slices_Sort_int_none Tryz.lays189 p cap w
def Tryz.sortEnd_ren :Go.Shelf.Ren:=⟨fun | 6=>200 | 15=>117 | 14=>204 | 28=>152 | 29=>153 | 20=>206 | 21=>207 | 22=>208 | 23=>209 | 24=>210 | 25=>211 | 26=>212 | 27=>213 | 46=>214 | 47=>177 | 48=>178 | 49=>215 | 50=>216 | 57=>217 | n=>n,fun | 22=>248 | 24=>246 | 25=>250 | 3=>3 | 39=>147 | 0=>0 | 53=>194 | 55=>196 | 4=>4 | 46=>186 | 45=>185 | 50=>191 | 5=>5 | 9=>9 | 66=>224 | 70=>228 | 76=>239 | 77=>91 | n=>n,fun | n=>n⟩
theorem Tryz.sortEnd :Go.Proofs.SlLaysF0.n6 prog Tryz.sortEnd_ren:={
 mixed:=by kernel_rfl
 f6:=⟨Tryz.f200.name,by decide,Tryz.func200.trans (congrArg some (by kernel_rfl))⟩
 f14:=⟨Tryz.f204.name,by decide,Tryz.func204.trans (congrArg some (by kernel_rfl))⟩
 f15:=Tryz.func117.trans (congrArg some (by kernel_rfl))
 f20:=⟨Tryz.f206.name,by decide,Tryz.func206.trans (congrArg some (by kernel_rfl))⟩
 f21:=⟨Tryz.f207.name,by decide,Tryz.func207.trans (congrArg some (by kernel_rfl))⟩
 f22:=⟨Tryz.f208.name,by decide,Tryz.func208.trans (congrArg some (by kernel_rfl))⟩
 f23:=⟨Tryz.f209.name,by decide,Tryz.func209.trans (congrArg some (by kernel_rfl))⟩
 f24:=⟨Tryz.f210.name,by decide,Tryz.func210.trans (congrArg some (by kernel_rfl))⟩
 f25:=⟨Tryz.f211.name,by decide,Tryz.func211.trans (congrArg some (by kernel_rfl))⟩
 f26:=⟨Tryz.f212.name,by decide,Tryz.func212.trans (congrArg some (by kernel_rfl))⟩
 f27:=⟨Tryz.f213.name,by decide,Tryz.func213.trans (congrArg some (by kernel_rfl))⟩
 f28:=Tryz.func152.trans (congrArg some (by kernel_rfl))
 f29:=Tryz.func153.trans (congrArg some (by kernel_rfl))
 f46:=⟨Tryz.f214.name,by decide,Tryz.func214.trans (congrArg some (by kernel_rfl))⟩
 f47:=Tryz.func177.trans (congrArg some (by kernel_rfl))
 f48:=Tryz.func178.trans (congrArg some (by kernel_rfl))
 f49:=⟨Tryz.f215.name,by decide,Tryz.func215.trans (congrArg some (by kernel_rfl))⟩
 f50:=⟨Tryz.f216.name,by decide,Tryz.func216.trans (congrArg some (by kernel_rfl))⟩
 f57:=⟨Tryz.f217.name,by decide,Tryz.func217.trans (congrArg some (by kernel_rfl))⟩
 t0:=Tryz.underlying0
 a0:=Tryz.isAgg0
 z0:=Tryz.sizeOf0
 v0:=Tryz.zeroValue0
 t3:=Tryz.underlying3
 a3:=Tryz.isAgg3
 z3:=Tryz.sizeOf3
 v3:=Tryz.zeroValue3
 t4:=Tryz.underlying4
 a4:=Tryz.isAgg4
 z4:=Tryz.sizeOf4
 v4:=Tryz.zeroValue4
 t5:=Tryz.underlying5
 a5:=Tryz.isAgg5
 z5:=Tryz.sizeOf5
 v5:=Tryz.zeroValue5
 t9:=Tryz.underlying9
 a9:=Tryz.isAgg9
 z9:=Tryz.sizeOf9
 v9:=Tryz.zeroValue9
 t22:=Tryz.underlying248
 a22:=Tryz.isAgg248
 z22:=Tryz.sizeOf248
 v22:=Tryz.zeroValue248
 t25:=Tryz.underlying250
 a25:=Tryz.isAgg250
 z25:=Tryz.sizeOf250
 v25:=Tryz.zeroValue250
 t39:=Tryz.underlying147
 a39:=Tryz.isAgg147
 z39:=Tryz.sizeOf147
 v39:=Tryz.zeroValue147
 t45:=Tryz.underlying185
 a45:=Tryz.isAgg185
 z45:=Tryz.sizeOf185
 v45:=Tryz.zeroValue185
 t46:=Tryz.underlying186
 a46:=Tryz.isAgg186
 z46:=Tryz.sizeOf186
 v46:=Tryz.zeroValue186
 t50:=Tryz.underlying191
 a50:=Tryz.isAgg191
 z50:=Tryz.sizeOf191
 v50:=Tryz.zeroValue191
 t53:=Tryz.underlying194
 a53:=Tryz.isAgg194
 z53:=Tryz.sizeOf194
 v53:=Tryz.zeroValue194
 t55:=Tryz.underlying196
 a55:=Tryz.isAgg196
 z55:=Tryz.sizeOf196
 v55:=Tryz.zeroValue196
 t66:=Tryz.underlying224
 a66:=Tryz.isAgg224
 z66:=Tryz.sizeOf224
 v66:=Tryz.zeroValue224
 t70:=Tryz.underlying228
 a70:=Tryz.isAgg228
 z70:=Tryz.sizeOf228
 v70:=Tryz.zeroValue228
 t76:=Tryz.underlying239
 a76:=Tryz.isAgg239
 z76:=Tryz.sizeOf239
 v76:=Tryz.zeroValue239
 t77:=Tryz.underlying91
 a77:=Tryz.isAgg91
 z77:=Tryz.sizeOf91
 v77:=Tryz.zeroValue91}
end Go.Proofs
namespace Go.Proofs
open Go.Proofs.Tryz
open Go.Shelf Go.RowKit Go.Lib Go.Sort
theorem Tryz.cmpEnd (a b c a' b' c':Int) (h: -1000000000≤a∧a≤1000000000) (h': -1000000000≤a'∧a'≤1000000000) (W:World):
  Calls prog 201 #[.agg #[.int .i64 a,.int .i64 b,.int .i64 c],.agg #[.int .i64 a',.int .i64 b',.int .i64 c']] W fun e w'=>e=.returned (.int .i64 (a - a'))∧ ∃q os',w'=grow (W.drewN q) os':=by
 go_enter Tryz.func201,Tryz.ntmps201
 go_wp2
 go_ret
 exact ⟨rfl,0,_,by rw [alloc_eq_grow,alloc_eq_grow,grow_grow];rfl⟩
end Go.Proofs
namespace Go.Am
open Go.Proofs.Tryz
open Go.Proofs
inductive rjsS where
 | h0 (v9:List R6) (v10:List R4) (v11:Int) (v12:Int)
 | h1 (v9:List R6) (v10:List R4) (v11:Int) (v12:Int) (v13:List R4) (v15:Int)
 | h2 (v9:List R6) (v10:List R4) (v11:Int) (v12:Int) (v14:Int)
abbrev w2c (l1:List R6) (l2:List R6) (v12:Int):=(rd (Vk (cvT l1) (cvT l2)) (tn v12))
abbrev y8g (v9:List R6) (v14:Int) (l1:List R6) (l2:List R6) (v12:Int):=(v9.set (0+(tn v14)) (R6.mk (rd v9 (0+(tn v14))).a (rd v9 (0+(tn v14))).b (rd v9 (0+(tn v14))).c (rd v9 (0+(tn v14))).d (rd v9 (0+(tn v14))).e (rd (Vk (cvT l1) (cvT l2)) (tn (wr (v12+1))))))
abbrev y8f (v9:List R6) (v13:List R4) (v15:Int) (l1:List R6) (l2:List R6) (v12:Int):=(v9++[(R6.mk (rd v13 (tn v15)).a (rd v13 (tn v15)).b (w2c l1 l2 v12) (rd v13 (tn v15)).c (rd v13 (tn v15)).d (rd (Vk (cvT l1) (cvT l2)) (tn (wr (v12+1)))))])
abbrev Vb (l1:List R6) (l2:List R6) (v12:Int):=(atV (cvT l1) (w2c l1 l2 v12))
abbrev Uj (l2:List R6) (l1:List R6) (v12:Int):=(atV (cvT l2) (w2c l1 l2 v12))
abbrev u3c (v9:List R6) (v13:List R4) (v15:Int) (l1:List R6) (l2:List R6) (v12:Int):=(Zi (Zz v9) 0 v9.length 6 [(ii (rd v13 (tn v15)).a),(ii (rd v13 (tn v15)).b),(ii (w2c l1 l2 v12)),(ii (rd v13 (tn v15)).c),(ii (rd v13 (tn v15)).d),(ii (rd (Vk (cvT l1) (cvT l2)) (tn (wr (v12+1)))))])
def v0m (l1:List R6) (l2:List R6):AVal:=(.dat (Vk (cvT l1) (cvT l2)).length (Zz (Vk (cvT l1) (cvT l2))))
def rjsC (x0:Int) (l1:List R6) (l2:List R6):rjsS→Cfg
 | .h0 v9 v10 v11 v12=>⟨⟨137,0,true⟩,none,(Zd prog 72 [1,1,1,1,1,0,1,0,0] 0),none,(Zy prog 32),⟨Yd [(0,(ii x0)),(1,(.dat l1.length (Zz l1))),(2,(.dat l2.length (Zz l2))),(8,(v0m l1 l2)),(9,(.sla 0 6 0 v9.length (.un 6))),(10,(.dat v10.length (Zz v10))),(11,(ii v11)),(12,(ii v12))],Uw [⟨rows v9.length (Zz v9),67,some ⟨6,v9.length,(Zz v9)⟩⟩] 0,1,[],true⟩,[],.leaf⟩
 | .h1 v9 v10 v11 v12 v13 v15=>⟨⟨137,0,true⟩,none,(Zd prog 72 [1,1,1,1,1,0,1,0,0,1,0,0,1,1,1,1,1,0,0] 0),none,(Zy prog 32),⟨Yd [(0,(ii x0)),(1,(.dat l1.length (Zz l1))),(2,(.dat l2.length (Zz l2))),(8,(v0m l1 l2)),(9,(.sla 0 6 0 v9.length (.un 6))),(10,(.dat v10.length (Zz v10))),(11,(ii v11)),(12,(ii v12)),(13,(.dat v13.length (Zz v13))),(15,(ii v15))],Uw [⟨rows v9.length (Zz v9),67,some ⟨6,v9.length,(Zz v9)⟩⟩] 0,1,[],true⟩,[],.leaf⟩
 | .h2 v9 v10 v11 v12 v14=>⟨⟨137,0,true⟩,none,(Zd prog 72 [1,1,1,1,1,0,1,0,0,1,0,0,1,1,0,1,0,0,1,0,0] 0),none,(Zy prog 32),⟨Yd [(0,(ii x0)),(1,(.dat l1.length (Zz l1))),(2,(.dat l2.length (Zz l2))),(8,(v0m l1 l2)),(9,(.sla 0 6 0 v9.length (.un 6))),(10,(.dat v10.length (Zz v10))),(11,(ii v11)),(12,(ii v12)),(14,(ii v14))],Uw [⟨rows v9.length (Zz v9),67,some ⟨6,v9.length,(Zz v9)⟩⟩] 0,1,[],true⟩,[],.leaf⟩
def u8f :List (Option (List Nat)):=[some [0,1,2,8,9,10,11,12]]
def u8h :List (Option (List Nat)):=[]
def u8e :List (Option (List Nat)):=[some [0,1,2,8,9,10,11,12,13,15]]
def u8g :List (Option (List Nat)):=[]
def rjsN2 :List (Option (List Nat)):=[some [0,1,2,8,9,10,11,12,14]]
def rjsM2 :List (Option (List Nat)):=[]
def Vh (x0:Int) (l1:List R6) (l2:List R6):rjsS→Xb rjsS
 | .h0 v9 v10 v11 v12=>(bif (decide ((IntKind.wrap .i64 (v12+1))<(((Vk (cvT l1) (cvT l2)).length :Nat):Int))) then (bif (z5n (cvT l1) (rd (Vk (cvT l1) (cvT l2)) v12.toNat)) then (bif ((decide (0≤v12∧v12<(((Vk (cvT l1) (cvT l2)).length :Nat):Int)))&&true) then (bif (z5n (cvT l2) (rd (Vk (cvT l1) (cvT l2)) v12.toNat)) then (bif (z1c x0 (cvT (atV (cvT l1) (rd (Vk (cvT l1) (cvT l2)) v12.toNat))) (cvT (atV (cvT l2) (rd (Vk (cvT l1) (cvT l2)) v12.toNat)))) then (bif (decide ((((joV x0 (cvT (atV (cvT l1) (rd (Vk (cvT l1) (cvT l2)) v12.toNat))) (cvT (atV (cvT l2) (rd (Vk (cvT l1) (cvT l2)) v12.toNat)))).length :Nat):Int)>400)) then (.ret [.nils,(.bool false)]) else (bif (z1c 2 (cvT (atV (cvT l1) (rd (Vk (cvT l1) (cvT l2)) v12.toNat))) ([]:List R4)) then (bif (decide ((((joV 2 (cvT (atV (cvT l1) (rd (Vk (cvT l1) (cvT l2)) v12.toNat))) ([]:List R4)).length :Nat):Int)>400)) then (.ret [.nils,(.bool false)]) else (bif (z1c 2 (cvT (atV (cvT l2) (rd (Vk (cvT l1) (cvT l2)) v12.toNat))) ([]:List R4)) then (bif (decide ((((joV 2 (cvT (atV (cvT l2) (rd (Vk (cvT l1) (cvT l2)) v12.toNat))) ([]:List R4)).length :Nat):Int)>400)) then (.ret [.nils,(.bool false)]) else (bif (decide (v12>0)) then (bif (Wb (cvT (joV x0 (cvT (atV (cvT l1) (rd (Vk (cvT l1) (cvT l2)) v12.toNat))) (cvT (atV (cvT l2) (rd (Vk (cvT l1) (cvT l2)) v12.toNat))))) (cvT v10)) then (bif (Jv (cvT (joV x0 (cvT (atV (cvT l1) (rd (Vk (cvT l1) (cvT l2)) v12.toNat))) (cvT (atV (cvT l2) (rd (Vk (cvT l1) (cvT l2)) v12.toNat))))) (cvT v10)) then (.to (.h2 v9 v10 v11 v12 v11)) else (.to (.h1 v9 (joV x0 (cvT (atV (cvT l1) (rd (Vk (cvT l1) (cvT l2)) v12.toNat))) (cvT (atV (cvT l2) (rd (Vk (cvT l1) (cvT l2)) v12.toNat)))) (v9.length:Int) v12 (joV x0 (cvT (atV (cvT l1) (rd (Vk (cvT l1) (cvT l2)) v12.toNat))) (cvT (atV (cvT l2) (rd (Vk (cvT l1) (cvT l2)) v12.toNat)))) 0))) else .stuck) else (.to (.h1 v9 (joV x0 (cvT (atV (cvT l1) (rd (Vk (cvT l1) (cvT l2)) v12.toNat))) (cvT (atV (cvT l2) (rd (Vk (cvT l1) (cvT l2)) v12.toNat)))) (v9.length:Int) v12 (joV x0 (cvT (atV (cvT l1) (rd (Vk (cvT l1) (cvT l2)) v12.toNat))) (cvT (atV (cvT l2) (rd (Vk (cvT l1) (cvT l2)) v12.toNat)))) 0)))) else .stuck)) else .stuck)) else .stuck) else .stuck) else .stuck) else .stuck) else (.ret [(.dat v9.length (Zz v9)),(.bool (decide ((v9.length:Int)≤400)))]))
 | .h1 v9 v10 v11 v12 v13 v15=>(bif (decide (v15<(v13.length:Int))) then (bif ((decide (0≤v12∧v12<(((Vk (cvT l1) (cvT l2)).length :Nat):Int)))&&true) then (bif ((decide (0≤v15∧v15<(v13.length:Int)))&&true) then (bif ((decide (0≤(IntKind.wrap .i64 (v12+1))∧(IntKind.wrap .i64 (v12+1))<(((Vk (cvT l1) (cvT l2)).length :Nat):Int)))&&true) then (bif (Nat.beq 6 6&&((decide (0+v9.length=v9.length))&&decide ((v9.length+1+1)*(48+1)≤Ju))) then (.to (.h1 (v9++[(R6.mk (rd v13 v15.toNat).a (rd v13 v15.toNat).b (rd (Vk (cvT l1) (cvT l2)) v12.toNat) (rd v13 v15.toNat).c (rd v13 v15.toNat).d (rd (Vk (cvT l1) (cvT l2)) (Int.toNat (IntKind.wrap .i64 (v12+1)))))]) v10 v11 v12 v13 (IntKind.wrap .i64 (v15+1)))) else .stuck) else .stuck) else .stuck) else .stuck) else (.to (.h0 v9 v10 v11 (IntKind.wrap .i64 (v12+1)))))
 | .h2 v9 v10 v11 v12 v14=>(bif (decide (v14<(v9.length:Int))) then (bif ((decide (0≤(IntKind.wrap .i64 (v12+1))∧(IntKind.wrap .i64 (v12+1))<(((Vk (cvT l1) (cvT l2)).length :Nat):Int)))&&true) then (bif ((decide (0≤v14∧v14<(v9.length:Int)))&&true) then (bif (decide ((0+v14.toNat)<v9.length)) then (.to (.h2 (v9.set (0+v14.toNat) (R6.mk (rd v9 (0+v14.toNat)).a (rd v9 (0+v14.toNat)).b (rd v9 (0+v14.toNat)).c (rd v9 (0+v14.toNat)).d (rd v9 (0+v14.toNat)).e (rd (Vk (cvT l1) (cvT l2)) (Int.toNat (IntKind.wrap .i64 (v12+1)))))) v10 v11 v12 (IntKind.wrap .i64 (v14+1)))) else .stuck) else .stuck) else .stuck) else (.to (.h0 v9 v10 v11 (IntKind.wrap .i64 (v12+1)))))
def y2o (x0:Int) (l1:List R6) (l2:List R6):Xb rjsS:=(bif (z8q (cvT l1) (cvT l2)) then (.to (.h0 ([]:List R6) ([]:List R4) 0 0)) else .stuck)
theorem w5t (x0:Int) (l1:List R6) (l2:List R6): ∀s,Xv prog (Zy prog 72) (rjsC x0 l1 l2) (rjsC x0 l1 l2 s) (Vh x0 l1 l2 s)
 | .h0 v9 v10 v11 v12=>(lb (fun k0=>(lo fun aF=>(lo fun aW=>(lo fun bZ=>(lo fun cL=>(lb (fun k1=>(lr 137 72 [1,1,1,1,1,0,1,0,0,1,0,0,1,0,1,0,0] 1 32 [(6,.nils),(7,(.bool false))] (sl y0o 50 [] ⟨[],[],[some [6,7]],[]⟩ ⟨[],[],[]⟩ (trs 20 []) (tt k1 (pp (pp (xI R4 (Vb l1 l2 v12).length (Zz (Vb l1 l2 v12))) (pp (xI R4 (Uj l2 l1 v12).length (Zz (Uj l2 l1 v12))) (xw cL))) (pp (pp (xr l2) (xw bZ)) (ww aW (pp (pp (xr l1) (xw aF)) (ww aW (tt k0 nn)))))))))) (fun k1=>(lo fun cG=>(lb (fun k2=>(lr 137 72 [1,1,1,1,1,0,1,0,0,1,0,0,1,0,1,0,0] 1 32 [(6,.nils),(7,(.bool false))] (sl y0o 50 [] ⟨[],[],[some [6,7]],[]⟩ ⟨[],[],[]⟩ (bl 20 1047553) (tt k2 (pp (pp (xI R4 (Vb l1 l2 v12).length (Zz (Vb l1 l2 v12))) (pp (xI R4 0 (fun _=>[])) (xw cG))) (pp (pp (xr l1) (xw aF)) (ww aW (tt k1 (pp (pp (xI R4 (Vb l1 l2 v12).length (Zz (Vb l1 l2 v12))) (pp (xI R4 (Uj l2 l1 v12).length (Zz (Uj l2 l1 v12))) (xw cL))) (pp (pp (xr l2) (xw bZ)) (ww aW (pp (pp (xr l1) (xw aF)) (ww aW (tt k0 nn)))))))))))))) (fun k2=>(lo fun cK=>(lb (fun k3=>(lr 137 72 [1,1,1,1,1,0,1,0,0,1,0,0,1,0,1,0,0] 1 32 [(6,.nils),(7,(.bool false))] (sl y0o 50 [] ⟨[],[],[some [6,7]],[]⟩ ⟨[],[],[]⟩ (bl 20 524289) (tt k3 (pp (pp (xI R4 (Uj l2 l1 v12).length (Zz (Uj l2 l1 v12))) (pp (xI R4 0 (fun _=>[])) (xw cK))) (pp (pp (xr l2) (xw bZ)) (ww aW (tt k2 (pp (pp (xI R4 (Vb l1 l2 v12).length (Zz (Vb l1 l2 v12))) (pp (xI R4 0 (fun _=>[])) (xw cG))) (pp (pp (xr l1) (xw aF)) (ww aW (tt k1 (pp (pp (xI R4 (Vb l1 l2 v12).length (Zz (Vb l1 l2 v12))) (pp (xI R4 (Uj l2 l1 v12).length (Zz (Uj l2 l1 v12))) (xw cL))) (pp (pp (xr l2) (xw bZ)) (ww aW (pp (pp (xr l1) (xw aF)) (ww aW (tt k0 nn)))))))))))))))))) (fun k3=>(lb (fun k4=>(lo fun cS=>(lb (fun k5=>(sl y0o 66 [] ⟨[0],[],rjsN2,rjsM2⟩ ⟨[],[],[]⟩ (bl 24 15728641) (pp (fl v9 nn) (tt k5 (pp (pp (xI R4 (joV x0 (cvT (Vb l1 l2 v12)) (cvT (Uj l2 l1 v12))).length (Zz (joV x0 (cvT (Vb l1 l2 v12)) (cvT (Uj l2 l1 v12))))) (pp (xr v10) (xw cS))) (tt k4 (tt k3 (pp (pp (xI R4 (Uj l2 l1 v12).length (Zz (Uj l2 l1 v12))) (pp (xI R4 0 (fun _=>[])) (xw cK))) (pp (pp (xr l2) (xw bZ)) (ww aW (tt k2 (pp (pp (xI R4 (Vb l1 l2 v12).length (Zz (Vb l1 l2 v12))) (pp (xI R4 0 (fun _=>[])) (xw cG))) (pp (pp (xr l1) (xw aF)) (ww aW (tt k1 (pp (pp (xI R4 (Vb l1 l2 v12).length (Zz (Vb l1 l2 v12))) (pp (xI R4 (Uj l2 l1 v12).length (Zz (Uj l2 l1 v12))) (xw cL))) (pp (pp (xr l2) (xw bZ)) (ww aW (pp (pp (xr l1) (xw aF)) (ww aW (tt k0 nn))))))))))))))))))))) (fun k5=>(sl y0o 73 [] ⟨[0],[],u8e,u8g⟩ ⟨[],[],[]⟩ (bl 24 7340033) (pp (fl v9 nn) (tt k5 (pp (pp (xI R4 (joV x0 (cvT (Vb l1 l2 v12)) (cvT (Uj l2 l1 v12))).length (Zz (joV x0 (cvT (Vb l1 l2 v12)) (cvT (Uj l2 l1 v12))))) (pp (xr v10) (xw cS))) (tt k4 (tt k3 (pp (pp (xI R4 (Uj l2 l1 v12).length (Zz (Uj l2 l1 v12))) (pp (xI R4 0 (fun _=>[])) (xw cK))) (pp (pp (xr l2) (xw bZ)) (ww aW (tt k2 (pp (pp (xI R4 (Vb l1 l2 v12).length (Zz (Vb l1 l2 v12))) (pp (xI R4 0 (fun _=>[])) (xw cG))) (pp (pp (xr l1) (xw aF)) (ww aW (tt k1 (pp (pp (xI R4 (Vb l1 l2 v12).length (Zz (Vb l1 l2 v12))) (pp (xI R4 (Uj l2 l1 v12).length (Zz (Uj l2 l1 v12))) (xw cL))) (pp (pp (xr l2) (xw bZ)) (ww aW (pp (pp (xr l1) (xw aF)) (ww aW (tt k0 nn)))))))))))))))))))))))) (fun k4=>(sl y0o 73 [] ⟨[0],[],u8e,u8g⟩ ⟨[],[],[]⟩ (bl 24 1) (pp (fl v9 nn) (tt k4 (tt k3 (pp (pp (xI R4 (Uj l2 l1 v12).length (Zz (Uj l2 l1 v12))) (pp (xI R4 0 (fun _=>[])) (xw cK))) (pp (pp (xr l2) (xw bZ)) (ww aW (tt k2 (pp (pp (xI R4 (Vb l1 l2 v12).length (Zz (Vb l1 l2 v12))) (pp (xI R4 0 (fun _=>[])) (xw cG))) (pp (pp (xr l1) (xw aF)) (ww aW (tt k1 (pp (pp (xI R4 (Vb l1 l2 v12).length (Zz (Vb l1 l2 v12))) (pp (xI R4 (Uj l2 l1 v12).length (Zz (Uj l2 l1 v12))) (xw cL))) (pp (pp (xr l2) (xw bZ)) (ww aW (pp (pp (xr l1) (xw aF)) (ww aW (tt k0 nn))))))))))))))))))))))))))))))))) (fun k0=>(lr 137 3 [1,1,1,1,1,1,1,0] 1 32 [(6,(.dat v9.length (Zz v9))),(7,(.bool (decide ((v9.length:Int)≤400))))] (sl y0o 20 [] ⟨[],[0],[some [6,7]],[]⟩ ⟨[(6,.frz v9.length v9.length (Zz v9) (Zz v9))],[],[]⟩ [false] (pp (xZ (z6q 6 6 0 v9.length v9.length (Zz v9)) v9.length (Zz v9)) (pp (xL v9.length v9.length) (pp (xS v9.length (Zz v9) (Zz v9)) (pp (fl v9 nn) (tt k0 nn)))))))))
 | .h1 v9 v10 v11 v12 v13 v15=>(lb (fun k0=>(lo fun o0=>(lo fun o1=>(lo fun o2=>(lo fun o3=>(sl y0o 20 [] ⟨[2],[],u8e,u8g⟩ ⟨[(9,.len (y8f v9 v13 v15 l1 l2 v12).length)],[.rowed 6 (y8f v9 v13 v15 l1 l2 v12).length (Zz (y8f v9 v13 v15 l1 l2 v12))],[]⟩ [true] (pp (xL (v9.length+1) (y8f v9 v13 v15 l1 l2 v12).length) (pp (xL (v9.length+1) (y8f v9 v13 v15 l1 l2 v12).length) (pp (xS (v9.length+1) (u3c v9 v13 v15 l1 l2 v12) (Zz (y8f v9 v13 v15 l1 l2 v12))) (pp (pp (xF (u3c v9 v13 v15 l1 l2 v12)) nn) (ww o3 (ww o2 (ww o1 (ww o1 (ww o0 (ww o1 (ww o1 (tt k0 nn)))))))))))))))))) (fun k0=>(sl y0o 17 [] ⟨[0],[],u8f,u8h⟩ ⟨[],[],[]⟩ [false] (pp (fl v9 nn) (tt k0 nn)))))
 | .h2 v9 v10 v11 v12 v14=>(lb (fun k0=>(lo fun o0=>(lo fun o1=>(lo fun o2=>(sl y0o 32 [] ⟨[0],[],rjsN2,rjsM2⟩ ⟨[(9,.len (y8g v9 v14 l1 l2 v12).length)],[.rowed 6 (y8g v9 v14 l1 l2 v12).length (Zz (y8g v9 v14 l1 l2 v12))],[]⟩ [true] (pp (xL v9.length (y8g v9 v14 l1 l2 v12).length) (pp (xL v9.length (y8g v9 v14 l1 l2 v12).length) (pp (xS v9.length (Xi (Zz v9) (0+(tn v14)) 5 [(ii (rd (Vk (cvT l1) (cvT l2)) (tn (wr (v12+1)))))]) (Zz (y8g v9 v14 l1 l2 v12))) (pp (pp (xF (Xi (Zz v9) (0+(tn v14)) 5 [(ii (rd (Vk (cvT l1) (cvT l2)) (tn (wr (v12+1)))))])) nn) (ww o2 (ww o1 (ww o0 (tt k0 nn))))))))))))) (fun k0=>(sl y0o 17 [] ⟨[0],[],u8f,u8h⟩ ⟨[],[],[]⟩ [false] (pp (fl v9 nn) (tt k0 nn)))))
theorem x7m (x0:Int) (l1:List R6) (l2:List R6):Xv prog (Zy prog 72) (rjsC x0 l1 l2) (Zc prog 72 [(.int .i64 x0),(.dat l1.length (Zz l1)),(.dat l2.length (Zz l2))] true []) (y2o x0 l1 l2):=(lo fun o0=>(sl y0o 31 [(67,6,Zz ([]:List R6))] ⟨[0],[],u8f,u8h⟩ ⟨[(9,.grow 0 6),(10,.list 0 (Zz ([]:List R4)))],[],[]⟩ [] (pp (fl ([]:List R6) nn) (pp (pp (xr l1) (pp (xr l2) (xw o0))) nn))))
theorem v7j (x0:Int) (l1:List R6) (l2:List R6) (n:Nat) (vs:List AVal) (h:Yv (Vh x0 l1 l2) n (y2o x0 l1 l2)=.ret vs):Jt prog (Zy prog 72) (Zc prog 72 [(.int .i64 x0),(.dat l1.length (Zz l1)),(.dat l2.length (Zz l2))] true []) vs:=by have:=Ze (w5t x0 l1 l2) n _ (x7m x0 l1 l2);rwa [h] at this
end Go.Am
namespace Go.Am
open Go.Proofs.Tryz
open Go.Proofs
theorem Ke (l m:List R6):(Vk l m).length ≤2*l.length+2*m.length:=by refine Nat.le_trans (z6b _) ?_;rw [List.length_append,z0r,z0r];omega
theorem z2g (l:List R6) (z:Int):(atV l z).length ≤l.length:=by unfold atV;rw [List.length_map];exact List.length_filter_le _ _
def v5z (out:List R6) (first:Nat) (z:Int):List R6:=out.take first++(out.drop first).map fun r=>⟨r.a,r.b,r.c,r.d,r.e,z⟩
def u8y (z z':Int) (s:List R4):List R6:=s.map fun p=>⟨p.a,p.b,z,p.c,p.d,z'⟩
section
variable (kind:Int) (l m:List R6)
def x2w (z:Int):List R4:=joV kind (atV l z) (atV m z)
def y1o (z:Int):Bool:=decide (400<(x2w kind l m z).length)||(decide (400<(joV 2 (atV l z) []).length)||decide (400<(joV 2 (atV m z) []).length))
def jsF :Nat→Nat→List R6→List R4→Nat→Option (List R6)
 | 0,_,out,_,_=>some out
 | k+1,i,out,last,first=>
  bif y1o kind l m (rd (Vk l m) i) then none
  else bif decide (0<i)&&Jv (x2w kind l m (rd (Vk l m) i)) last then jsF k (i+1) (v5z out first (rd (Vk l m) (i+1))) last first
  else jsF k (i+1) (out++u8y (rd (Vk l m) i) (rd (Vk l m) (i+1)) (x2w kind l m (rd (Vk l m) i))) (x2w kind l m (rd (Vk l m) i)) out.length
def jsO :Option (List R6):=jsF kind l m ((Vk l m).length - 1) 0 [] [] 0
def x9i :Option (List R6)→List AVal
 | none=>[.nils,.bool false]
 | some out=>[.dat out.length (Zz out),.bool (decide ((out.length:Int)≤400))]
def z6p :List R6:=(jsO kind l m).getD []
def x4s :Bool:=match jsO kind l m with
 | none=>false
 | some out=>decide ((out.length:Int)≤400)
end
def y3e (_:Int) (l m:List R6):Bool:=decide (l.length≤5000∧m.length≤5000)
section
variable (kind:Int) (l m:List R6) (hl:l.length≤5000) (hm:m.length≤5000)
include hl hm
theorem u3b (last:List R4) (first:Int) (i:Nat) (hi:i+1<(Vk l m).length) (s:List R4) (hs:s.length≤1000000): ∀(k j:Nat) (out:List R6),j+k=s.length→out.length≤10000000000+j→
  ∃n,∀N,Yv (Vh kind l m) (N+n) (.to (.h1 out last first (i:Int) s (j:Int)))=Yv (Vh kind l m) N (.to (.h0 (out++u8y (rd (Vk l m) i) (rd (Vk l m) (i+1)) (s.drop j)) last first ((i+1:Nat):Int)))
 | 0,j,out,h,ho=>by have hx:=Ke l m;refine ⟨1,fun N=> ?_⟩;rw [List.drop_eq_nil_of_le (by omega),Zv];simp (disch:=omega) only [Vh,Za,Zk,Yx,Zq,Zx,cond_false,u8y,List.map_nil,List.append_nil]
 | k+1,j,out,h,ho=>by
  have hx:=Ke l m;obtain ⟨n,hn⟩:=u3b last first i hi s hs k (j+1) (out++u8y (rd (Vk l m) i) (rd (Vk l m) (i+1)) [rd s j]) (by omega) (by simp [u8y];omega)
  refine ⟨n+1,fun N=> ?_⟩;have:=hn N;rw [Ym (show j<s.length by omega),←Nat.add_assoc,Zv];simp (disch:=omega) only [Vh,Za,Zk,Zt,Yz,Yc,Yp,Zh,Zq,Zx,Yg,Zj,Nat.zero_add,decide_true,Bool.and_true,Bool.true_and,cond_true];rw [List.append_assoc] at this;exact this
omit hl hm in
theorem u0l (out:List R6) (j:Nat) (x:Int) (h:j<out.length):v5z (out.set j ⟨(rd out j).a,(rd out j).b,(rd out j).c,(rd out j).d,(rd out j).e,x⟩) (j+1) x=v5z out j x:=by
 unfold v5z;rw [Ym h,List.map_cons];have e1:(out.set j ⟨(rd out j).a,(rd out j).b,(rd out j).c,(rd out j).d,(rd out j).e,x⟩).take (j+1)=out.take j++[⟨(rd out j).a,(rd out j).b,(rd out j).c,(rd out j).d,(rd out j).e,x⟩]:=by
  apply List.ext_getElem
  ·simp;omega
  ·intro n h1 h2;simp only [List.getElem_take,List.getElem_set];by_cases e:j=n
   ·subst e;rw [if_pos rfl,List.getElem_append_right (by simp only [List.length_take];omega)];simp
   ·rw [if_neg e,List.getElem_append_left (by simp at h1 ⊢;omega),List.getElem_take]
 have e2:(out.set j ⟨(rd out j).a,(rd out j).b,(rd out j).c,(rd out j).d,(rd out j).e,x⟩).drop (j+1)=out.drop (j+1):=by rw [List.drop_set];rw [if_pos (by omega)]
 rw [e1,e2,List.append_assoc];rfl
theorem u3a (last:List R4) (first:Int) (i:Nat) (hi:i+1<(Vk l m).length): ∀(k j:Nat) (out:List R6),j+k=out.length→out.length≤10000000000→
  ∃n,∀N,Yv (Vh kind l m) (N+n) (.to (.h2 out last first (i:Int) (j:Int)))=Yv (Vh kind l m) N (.to (.h0 (v5z out j (rd (Vk l m) (i+1))) last first ((i+1:Nat):Int)))
 | 0,j,out,h,ho=>by
  have hx:=Ke l m;refine ⟨1,fun N=> ?_⟩;have e:v5z out j (rd (Vk l m) (i+1))=out:=by unfold v5z;rw [List.drop_eq_nil_of_le (by omega),List.map_nil,List.append_nil,List.take_of_length_le (by omega)]
  rw [e,Zv];simp (disch:=omega) only [Vh,Za,Zk,Yx,Zq,Zx,cond_false]
 | k+1,j,out,h,ho=>by
  have hx:=Ke l m;obtain ⟨n,hn⟩:=u3a last first i hi k (j+1) (out.set j ⟨(rd out j).a,(rd out j).b,(rd out j).c,(rd out j).d,(rd out j).e,rd (Vk l m) (i+1)⟩) (by simp;omega) (by simpa using ho)
  refine ⟨n+1,fun N=> ?_⟩;have:=hn N;rw [u0l out j _ (by omega)] at this;rw [←Nat.add_assoc,Zv];simp (disch:=omega) only [Vh,Za,Zk,Zt,Yz,Yk,Yc,Yp,Zh,Zq,Zx,Yg,Zj,Nat.zero_add,decide_true,Bool.and_true,Bool.true_and,cond_true];exact this
theorem v0l : ∀(k i:Nat) (out:List R6) (last:List R4) (first:Nat),k=(Vk l m).length - 1 - i→i≤(Vk l m).length →out.length≤i*400→last.length≤400→first≤out.length→
  ∃n,Yv (Vh kind l m) n (.to (.h0 out last (first:Int) (i:Int)))=.ret (x9i (jsF kind l m k i out last first))
 | 0,i,out,last,first,h,hi,ho,hla,hf=>by have hx:=Ke l m;refine ⟨1,?_⟩;rw [Zv];simp (disch:=omega) only [Vh,Za,Zk,Yx,Zq,Zx,cond_false,Zm,jsF,x9i]
 | k+1,i,out,last,first,h,hi,ho,hla,hf=>by
  have hx:=Ke l m;have hi1:i+1<(Vk l m).length :=by omega
  have hbig:i*400≤20000*400:=Nat.mul_le_mul_right _ (by omega);have a1:=fun z=>z2g l z;have a2:=fun z=>z2g m z;have w1: ∀z,z5n l z=true:=fun z=>decide_eq_true (by omega);have w2: ∀z,z5n m z=true:=fun z=>decide_eq_true (by omega);have w3: ∀k z,z1c k (atV l z) (atV m z)=true:=fun k z=>decide_eq_true (by have:=a1 z;have:=a2 z;omega);have w4: ∀k z,z1c k (atV l z) ([]:List R4)=true:=fun k z=>decide_eq_true (by have:=a1 z;simp;omega);have w5: ∀k z,z1c k (atV m z) ([]:List R4)=true:=fun k z=>decide_eq_true (by have:=a2 z;simp;omega);unfold jsF;have eI:x2w kind l m (rd (Vk l m) i)=joV kind (atV l (rd (Vk l m) i)) (atV m (rd (Vk l m) i)):=rfl;by_cases c1:400<(x2w kind l m (rd (Vk l m) i)).length
  ·refine ⟨1,?_⟩;have hb:y1o kind l m (rd (Vk l m) i)=true:=by unfold y1o;rw [decide_eq_true c1];rfl
   rw [hb,cond_true,Zv];rw [eI] at c1;simp (disch:=omega) only [Vh,Za,Zk,Zt,Yo,Yz,Zq,Zx,Zj,w1,w2,w3,w4,w5,Bool.and_true,cond_true,Zm,x9i]
  by_cases c2:400<(joV 2 (atV l (rd (Vk l m) i)) []).length
  ·refine ⟨1,?_⟩;have hb:y1o kind l m (rd (Vk l m) i)=true:=by unfold y1o;rw [decide_eq_true c2,Bool.true_or,Bool.or_true]
   rw [hb,cond_true,Zv];rw [eI] at c1;simp (disch:=omega) only [Vh,Za,Zk,Zt,Yo,Xp,Yz,Zq,Zx,Zj,w1,w2,w3,w4,w5,Bool.and_true,cond_true,cond_false,Zm,x9i]
  by_cases c3:400<(joV 2 (atV m (rd (Vk l m) i)) []).length
  ·refine ⟨1,?_⟩;have hb:y1o kind l m (rd (Vk l m) i)=true:=by unfold y1o;rw [decide_eq_true c3,Bool.or_true,Bool.or_true]
   rw [hb,cond_true,Zv];rw [eI] at c1;simp (disch:=omega) only [Vh,Za,Zk,Zt,Yo,Xp,Yz,Zq,Zx,Zj,w1,w2,w3,w4,w5,Bool.and_true,cond_true,cond_false,Zm,x9i]
  have hb:y1o kind l m (rd (Vk l m) i)=false:=by unfold y1o;rw [decide_eq_false c1,decide_eq_false c2,decide_eq_false c3];rfl
  rw [hb,cond_false];have w6:Wb (joV kind (atV l (rd (Vk l m) i)) (atV m (rd (Vk l m) i))) last=true:=decide_eq_true (by rw [←eI];omega);rcases Ye (decide (0<i)&&Jv (x2w kind l m (rd (Vk l m) i)) last) with q | q
  ·obtain ⟨n3,h3⟩:=u3a kind l m hl hm last first i hi1 (out.length - first) first out (by omega) (by omega)
   obtain ⟨n0,h0⟩:=v0l k (i+1) (v5z out first (rd (Vk l m) (i+1))) last first (by omega) (by omega) (by simp [v5z];omega) hla (by simp [v5z];omega)
   refine ⟨n0+n3+1,?_⟩;rw [q,cond_true,Zv];simp only [Bool.and_eq_true,decide_eq_true_eq] at q;obtain ⟨q1,q2⟩:=q;rw [eI] at c1 q2;simp (disch:=omega) only [Vh,Za,Zk,Zt,Yo,Xp,Yz,Zq,Zx,Zj,w1,w2,w3,w4,w5,w6,q2,Bool.and_true,cond_true,cond_false];rw [h3 n0,h0]
  ·obtain ⟨n2,h2⟩:=u3b kind l m hl hm (x2w kind l m (rd (Vk l m) i)) (out.length:Int) i hi1 (x2w kind l m (rd (Vk l m) i)) (by omega) (x2w kind l m (rd (Vk l m) i)).length 0 out (Nat.zero_add _) (by omega);obtain ⟨n0,h0⟩:=v0l k (i+1) (out++u8y (rd (Vk l m) i) (rd (Vk l m) (i+1)) (x2w kind l m (rd (Vk l m) i))) (x2w kind l m (rd (Vk l m) i)) out.length (by omega) (by omega) (by simp [u8y];omega) (by omega) (by simp);refine ⟨n0+n2+1,?_⟩;rw [q,cond_false,Zv];have h2':=h2 n0;simp only [List.drop_zero,z4u] at h2';have c1':=c1;rw [eI] at c1';by_cases hi0:0<i
   ·rw [decide_eq_true hi0,Bool.true_and,eI] at q;simp (disch:=omega) only [Vh,Za,Zk,Zt,Yo,Xp,Yz,Zq,Zx,Zj,w1,w2,w3,w4,w5,w6,q,Bool.and_true,cond_true,cond_false];rw [←h0];exact h2'
   ·simp (disch:=omega) only [Vh,Za,Zk,Zt,Yo,Xp,Yz,Zq,Zx,Zj,w1,w2,w3,w4,w5,w6,Bool.and_true,cond_true,cond_false];rw [←h0];exact h2'
end
theorem u8d (kind:Int) (l m:List R6) (h:y3e kind l m=true): ∃N,Yv (Vh kind l m) N (y2o kind l m)=.ret (x9i (jsO kind l m)):=by obtain ⟨hl,hm⟩:=of_decide_eq_true h;obtain ⟨N,hN⟩:=v0l kind l m hl hm ((Vk l m).length - 1) 0 [] [] 0 rfl (Nat.zero_le _) (Nat.zero_le _) (Nat.zero_le _) (Nat.le_refl _);refine ⟨N,?_⟩;have w1:z8q l m=true:=decide_eq_true ⟨by omega,by omega⟩;simp only [y2o,Za,Zk,w1,cond_true];exact hN
def fJs :List AVal→Option (AVal×Bool)
 | [.int .i64 x0,a1,a2]=>match asL R6 a1,asL R6 a2 with
  | some (L1,g1,n1),some (L2,g2,n2)=>some (.tup [.dat (z6p x0 L1 L2).length (Zz (z6p x0 L1 L2)),.bool (x4s x0 L1 L2)],isT R6 n1 g1&&(isT R6 n2 g2&&(y3e x0 L1 L2)))
  | _,_=>none
 | _=>none
theorem fJs_ok {S:Specs} (hS:Zu prog S):Zu prog (S.with u4n fJs):=by
 refine v3z hS (by kernel_rfl) fun args v h=> ?_;unfold fJs at h;split at h
 ·rename_i x0 a1 a2;split at h
  ·rename_i L1 g1 n1 L2 g2 n2 e1 e2;simp only [Option.some.injEq,Prod.mk.injEq,Bool.and_eq_true] at h;obtain ⟨rfl,ho1,ho2,hw⟩:=h;obtain ⟨N,hN⟩:=u8d x0 L1 L2 hw;refine ⟨_,x9i (jsO x0 L1 L2),(.cons (.refl _) (.cons (asL_le e1 ho1) (.cons (asL_le e2 ho2) .nil))),?_,v7j x0 L1 L2 N _ hN,3,?_⟩
   ·unfold z6p x4s;cases jsO x0 L1 L2 with
    | none=>exact fun ρ u hu=>z5s (.cons (z6l R6) (RLe.refl _)) ρ u hu
    | some out=>exact fun ρ u hu=>hu
   ·cases jsO x0 L1 L2 <;> rfl
  ·cases h
 ·cases h
def T4 :Specs:=T3.with u4n fJs
theorem T4_ok :Zu prog T4:=fJs_ok y0o
end Go.Am
namespace Go.Am
open Go.Proofs.Tryz
open Go.Proofs Go.Sort Go.Shelf Go.RowKit Go.Lib
def j2k (x:E3):List Value:=y9v x.1
theorem j2j (l:List R3) (h:y1q l=true):Go.Sort.flatK j2k 3 (x2x l h).toArray =Go.Sort.flatK y9v 3 l.toArray:=by
 have hl:=Kf l h;unfold Go.Sort.flatK;rw [show (x2x l h).toArray.size =l.toArray.size by simpa using hl];apply Array.ext
 ·simp
 ·intro t h1 h2;simp only [Array.getElem_map,Array.getElem_range];have ht:t<l.length*3:=by simpa using h1
  have hq:t / 3<l.length:=by omega
  congr 1
  rw [getElem!_pos (x2x l h).toArray (t / 3) (by simpa [hl] using hq),getElem!_pos l.toArray (t / 3) (by simpa using hq)];unfold j2k
  congr 1
  have:=y3o l h;have e:=congrArg (fun z:List R3=>z[t / 3]?) this;simp only [List.getElem?_map] at e;rw [List.getElem?_eq_getElem (by rw [hl];exact hq),List.getElem?_eq_getElem hq] at e
  simpa using e
theorem u0e (d:Array E3):Go.Sort.flatK j2k 3 d=Go.Sort.flatK y9v 3 (d.toList.map Subtype.val).toArray :=by
 unfold Go.Sort.flatK;rw [show d.size=(d.toList.map Subtype.val).toArray.size by simp];apply Array.ext
 ·simp
 ·intro t h1 h2;simp only [Array.getElem_map,Array.getElem_range];have ht:t<d.size*3:=by simpa using h1
  have hq:t / 3<d.size:=by omega
  congr 1
  rw [getElem!_pos d (t / 3) hq,getElem!_pos (d.toList.map Subtype.val).toArray (t / 3) (by simpa using hq)];simp [j2k]
theorem z8c (l:List R3):x1q l.length (z0v (cvT l)).length =true:=Vy (by
 rw [Za];by_cases h:y1q l=true
 ·exact (Ks l h).1.length_eq.symm
 ·unfold z0v;rw [dif_neg h])
theorem isAgg3 : ∀w,(isAgg (Tryz.sortEnd_ren.t 24)).run prog w=.ok true w:=fun w=>by rfl
theorem size3 : ∀w,(Go.sizeOf (Tryz.sortEnd_ren.t 24)).run prog w=.ok 3 w:=fun w=>by rfl
theorem w9m :x6b prog u4d (w3w R3 z0v y1q w2v):=by
 refine v4l (fun L=> ?_) (fun blk off cap L w hb hH eQ hsz=> ?_) fun p cap fv w=>AnyF.slices_SortFunc_none Tryz.sortEnd p cap fv w
 ·by_cases h:y1q L=true
  ·exact (Ks L h).1.length_eq
  ·unfold z0v;rw [dif_neg h]
 ·have eg: ∀args w,(callFunc 201 args).run prog w=.ok (.enter 201 args) w:=enters_of Tryz.func201 (by kernel_rfl) rfl;have hcmp:CmpLays prog 201 #[] j2k 3 cf3 blk off (x2x L hb).toArray.size w:=fun m os dk _ x y=>by have hx:=of_decide_eq_true x.2;have hy:=of_decide_eq_true y.2;exact Tryz.cmpEnd x.1.a x.1.b x.1.c y.1.a y.1.b y.1.c hx hy _
  have hH':HoldsK j2k 3 w blk off (x2x L hb).toArray :=by unfold HoldsK;rw [j2j L hb];exact hH
  have hcon:=AnyQ.slices_SortFunc_eq Tryz.sortEnd 3 isAgg3 size3 j2k (fun x=>y5r x.1) (fun x v hv=>by
   obtain ⟨a,ha,rfl⟩:=List.mem_map.1 hv;have:x9k a=true:=List.all_eq_true.1 (u6e.num x.1) a ha;cases a <;> first | rfl | (simp [x9k] at this;done)) cf3 swo3 201 #[] blk off cap (x2x L hb).toArray w eg hcmp hH' eQ (by simpa [Kf] using hsz)
  have hs:(x2x L hb).toArray.size =L.length:=by simp [Kf]
  rw [hs] at hcon;refine Calls.mono hcon fun e w' ⟨he,n,os,hw⟩=>⟨he,n,os,?_⟩
  rw [hw];unfold sortWorldK putRowK;rw [u0e];unfold z0v;rw [dif_pos hb];rfl
def Xm (zs:List Int):List Int:=zs.mergeSort fun x y=>decide (x≤y)
theorem w9l :x6b prog nSort (fRow Xm):=
 j2l (fun zs=>List.length_mergeSort zs) (fun blk off cap zs w hH hb hz=>Tryz.slices_Sort_int blk off cap zs w hH hb hz) fun p cap w=>Tryz.slices_Sort_int_none p cap w
def Wh (zs:List Int):List Int:=compact zs++List.replicate (zs.length - (compact zs).length) 0
def w8q (zs:List Int):Nat:=(compact zs).length
theorem Uo (zs:List Int):(Wh zs).length =zs.length:=by have:=compact_length_le zs;simp [Wh];omega
theorem z2a (n:Nat) (c:Nat→Int):x1q n (Wh (Yw n c)).length =true:=Vy (by rw [Uo];simp [Yw])
theorem v3l (w:World):grow w #[]=w:=by simp [grow]
theorem w0p :x6b prog w2w (fCut Wh w8q):=
 j2m (fun zs=>by have:=compact_length_le zs;simp [Wh];omega) (fun zs=>compact_length_le zs)
  (fun blk off cap zs w hH hb hz dI=>(Tryz.slices_Compact_int blk off cap zs w hH (by omega) dI).mono fun e w' ⟨he,q,hw⟩=>⟨he,q, #[],by rw [hw,v3l];rfl⟩)
  fun p cap w=>Tryz.slices_Compact_int_empty p cap w
def T5 :Specs:=((T4.withE u4d (w3w R3 z0v y1q w2v)).withE nSort (fRow Xm)).withE w2w (fCut Wh w8q)
theorem Qs :Zu prog T5:=x0f (x0f (x0f T4_ok (by kernel_rfl) w9m) (by kernel_rfl) w9l) (by kernel_rfl) w0p
end Go.Am
namespace Go.Am
open Go.Proofs.Tryz
open Go.Proofs
-- h2: index into an array (choices [true, true, false, false])
-- h2: index into an array (choices [true, false, true, false, false])
-- h2: index into an array (choices [true, false, false, true, true, false, false])
-- h2: index into an array (choices [true, false, false, true, false, false, false])
-- h2: index into an array (choices [true, false, false, false, false, false])
inductive spmS where
 | h0 (v8:Int)
 | h1 (v3:List R3) (v17:Int)
 | h2 (v5:List R3) (v6:Int) (v7:Int) (aA:Int) (aI:Int) (aP:Int) (aG:Bool) (aC:List R2)
abbrev Uv (aC:List R2) (aP:Int) (v5:List R3) (v7:Int):=(aC++[(R2.mk aP (rd v5 (0+(tn v7))).a)])
abbrev y0u (aC:List R2) (aP:Int) (v5:List R3) (v7:Int):=(Zi (Zz aC) 0 aC.length 2 [(ii aP),(ii (rd v5 (0+(tn v7))).a)])
abbrev y7o (v3:List R3) (l0:List R2) (v17:Int):=(v3++[(R3.mk (rd l0 (tn v17)).a 0 1),(R3.mk (rd l0 (tn v17)).b 0 (-1))])
def u1s (l0:List R2):AFr:=⟨⟨11,0,true⟩,(Jk prog 157 [1,1,1,0] 1),(Zd prog 157 [1,1,1,0] 1),none,(Zy prog 15),Yd [(9,(.dat l0.length (Zz l0)))]⟩
def spmC (l0:List R2):spmS→Cfg
 | .h0 v8=>⟨⟨19,0,true⟩,none,(Zd prog 195 [1,0,1,0,0] 0),none,(Zy prog 5),⟨Yd [(0,(.dat l0.length (Zz l0))),(1,(.fn 184 [])),(7,(ii (l0.length:Int))),(8,(ii v8))],Uw [] 0,0,[],true⟩,[⟨⟨9,0,true⟩,(Jk prog 183 [1,0] 2),(Zd prog 183 [1,0] 1),none,(Zy prog 5),Yd [(5,(.dat l0.length (Zz l0))),(6,(.fn 184 []))]⟩,⟨⟨11,0,true⟩,(Jk prog 157 [1,1,0,0] 1),(Zd prog 157 [1,1,0,0] 1),none,(Zy prog 15),Yd [(0,(.dat l0.length (Zz l0))),(7,(.dat l0.length (Zz l0)))]⟩],.leaf⟩
 | .h1 v3 v17=>⟨⟨38,0,true⟩,none,(Zd prog 197 [1,1,0,1,0,0,1,1,0,0,1,1,0,0] 0),none,(Zy prog 3),⟨Yd [(3,(.sla 7 3 0 v3.length (.un 3))),(4,(ii 0)),(8,(.sl 0 0 2 (.un 1))),(9,(ii 2)),(10,(ii 0)),(15,(.dat l0.length (Zz l0))),(16,(ii (l0.length:Int))),(17,(ii v17))],Uw [⟨[(.dat l0.length (Zz l0)),.nils],180,none⟩,⟨[(.fn 187 [])],213,none⟩,⟨[(ii 0),(ii 0)],142,none⟩,⟨[.nils],180,none⟩,⟨[(ii 0)],3,none⟩,⟨[(.bool false)],4,none⟩,⟨[(.fn 196 [(.ptr 5 0),(.ptr 4 0),(.ptr 3 0)])],242,none⟩,⟨rows v3.length (Zz v3),246,some ⟨3,v3.length,(Zz v3)⟩⟩] 0,8,[],true⟩,[⟨⟨42,0,true⟩,(Jk prog 186 [1,1,1,1,1,0,0] 3),(Zd prog 186 [1,1,1,1,1,0,0] 1),none,(Zy prog 8),Yd [(5,(.ptr 1 0)),(6,.nils),(7,(.ptr 2 0)),(8,(.ptr 3 0)),(9,(.ptr 4 0)),(10,(.ptr 5 0)),(11,(.ptr 6 0)),(16,(.sl 0 0 2 (.un 1)))]⟩,(u1s l0)],.leaf⟩
 | .h2 v5 v6 v7 aA aI aP aG aC=>⟨⟨16,0,true⟩,none,(Zd prog 205 [1,0,0] 0),none,[],⟨Yd [(0,(.yld 0)),(5,(.sla 7 3 0 v5.length (.un 3))),(6,(ii v6)),(7,(ii v7))],y1b [(1,⟨[(.fn 187 [])],213,none⟩),(2,⟨[(ii aA),(ii aI)],142,none⟩),(3,⟨[(ii aP)],3,none⟩),(4,⟨[(.bool aG)],4,none⟩),(5,⟨[(.fn 196 [(.ptr 4 0),(.ptr 3 0),(.ptr 6 0)])],242,none⟩),(6,⟨[(.sla 8 2 0 aC.length (.un 2))],180,none⟩),(7,⟨rows v5.length (Zz v5),246,some ⟨3,v5.length,(Zz v5)⟩⟩),(8,⟨rows aC.length (Zz aC),183,some ⟨2,aC.length,(Zz aC)⟩⟩)],9,[],true⟩,[⟨⟨42,0,true⟩,none,(.inRangeFunc 0::(Zd prog 186 [1,1,1,1,1,0,1,0] 1)),none,(Zy prog 8),Yd [(6,.nils),(8,(.ptr 6 0))]⟩,(u1s l0)],(y7a [(0,⟨.ready,none,42,Yd [(5,(.ptr 1 0)),(7,(.ptr 2 0)),(9,(.ptr 3 0)),(10,(.ptr 4 0)),(11,(.ptr 5 0))],[18],(Vn prog 186 [1,1,1,1,1,0,1,0,0]),(Vn prog 186 [1,1,1,1,1,0,1,0,1])⟩)])⟩
def spmN0 :List (Option (List Nat)):=[some [0,1,7,8],some [5,6],some [0,7]]
def spmM0 :List (Option (List Nat)):=[]
def w9h :List (Option (List Nat)):=[some [3,4,8,9,10,15,16,17],some [5,6,7,8,9,10,11,16],some [9]]
def w9i :List (Option (List Nat)):=[]
def y3z :List (Option (List Nat)):=[some [0,5,6,7],some [6,8],some [9]]
def y4a :List (Option (List Nat)):=[some [5,7,9,10,11],none,none,none,none,none,none,none,none]
def Um (l0:List R2):spmS→Xb spmS
 | .h0 v8=>(bif (decide (v8<(l0.length:Int))) then (bif ((decide (0≤v8∧v8<(l0.length:Int)))&&true) then (bif (decide ((rd l0 v8.toNat).a <(rd l0 v8.toNat).b)) then (bif (decide ((rd l0 v8.toNat).a ≥(-1000000))) then (bif (!(decide ((rd l0 v8.toNat).b ≤1000000))) then (bif (decide (v8≥0)) then (.ret [.nils,(.int .i64 8)]) else (.to (.h1 ([]:List R3) 0))) else (.to (.h0 (IntKind.wrap .i64 (v8+1))))) else (bif (decide (v8≥0)) then (.ret [.nils,(.int .i64 8)]) else (.to (.h1 ([]:List R3) 0)))) else (bif (decide (v8≥0)) then (.ret [.nils,(.int .i64 8)]) else (.to (.h1 ([]:List R3) 0)))) else .stuck) else (.to (.h1 ([]:List R3) 0)))
 | .h1 v3 v17=>(bif (decide (v17<(l0.length:Int))) then (bif ((decide (0≤v17∧v17<(l0.length:Int)))&&true) then (bif (Nat.beq 3 3&&((decide (0+v3.length=v3.length))&&decide ((v3.length+2+1)*(24+1)≤Ju))) then (.to (.h1 (v3++[(R3.mk (rd l0 v17.toNat).a 0 1),(R3.mk (rd l0 v17.toNat).b 0 (-1))]) (IntKind.wrap .i64 (v17+1)))) else .stuck) else .stuck) else (bif (y1q (cvT v3)) then (bif (decide (v3.length<4611686018427387904)) then (bif (decide (v3.length=v3.length)) then (.to (.h2 (z0v (cvT v3)) (v3.length:Int) 0 0 0 0 false ([]:List R2))) else .stuck) else .stuck) else .stuck))
 | .h2 v5 v6 v7 aA aI aP aG aC=>(bif (decide (v7<v6)) then (bif ((decide (0≤v7∧v7<(v5.length:Int)))&&true) then (bif (decide ((0+v7.toNat)<v5.length)) then (bif (!aG) then (bif (decide ((rd v5 (0+v7.toNat)).b =Int.ofNat 0)) then (.to (.h2 v5 v6 (IntKind.wrap .i64 (v7+1)) (IntKind.wrap .i64 (aA+(rd v5 (0+v7.toNat)).c)) aI (rd v5 (0+v7.toNat)).a (w3r (decide ((IntKind.wrap .i64 (aA+(rd v5 (0+v7.toNat)).c))>0)) (decide (aI>0))) aC)) else (bif (decide ((rd v5 (0+v7.toNat)).b =Int.ofNat 1)) then (.to (.h2 v5 v6 (IntKind.wrap .i64 (v7+1)) aA (IntKind.wrap .i64 (aI+(rd v5 (0+v7.toNat)).c)) (rd v5 (0+v7.toNat)).a (w3r (decide (aA>0)) (decide ((IntKind.wrap .i64 (aI+(rd v5 (0+v7.toNat)).c))>0))) aC)) else .stuck)) else (bif (aP == (rd v5 (0+v7.toNat)).a) then (bif (decide ((rd v5 (0+v7.toNat)).b =Int.ofNat 0)) then (.to (.h2 v5 v6 (IntKind.wrap .i64 (v7+1)) (IntKind.wrap .i64 (aA+(rd v5 (0+v7.toNat)).c)) aI (rd v5 (0+v7.toNat)).a (w3r (decide ((IntKind.wrap .i64 (aA+(rd v5 (0+v7.toNat)).c))>0)) (decide (aI>0))) aC)) else (bif (decide ((rd v5 (0+v7.toNat)).b =Int.ofNat 1)) then (.to (.h2 v5 v6 (IntKind.wrap .i64 (v7+1)) aA (IntKind.wrap .i64 (aI+(rd v5 (0+v7.toNat)).c)) (rd v5 (0+v7.toNat)).a (w3r (decide (aA>0)) (decide ((IntKind.wrap .i64 (aI+(rd v5 (0+v7.toNat)).c))>0))) aC)) else .stuck)) else (bif (decide ((aC.length:Int)>0)) then (bif ((decide (0≤(IntKind.wrap .i64 ((aC.length:Int) - 1))∧(IntKind.wrap .i64 ((aC.length:Int) - 1))<(aC.length:Int)))&&true) then (bif (decide ((0+(Int.toNat (IntKind.wrap .i64 ((aC.length:Int) - 1))))<aC.length)) then (bif ((rd aC (0+(Int.toNat (IntKind.wrap .i64 ((aC.length:Int) - 1))))).b == aP) then (bif (decide ((rd v5 (0+v7.toNat)).b =Int.ofNat 0)) then (.to (.h2 v5 v6 (IntKind.wrap .i64 (v7+1)) (IntKind.wrap .i64 (aA+(rd v5 (0+v7.toNat)).c)) aI (rd v5 (0+v7.toNat)).a (w3r (decide ((IntKind.wrap .i64 (aA+(rd v5 (0+v7.toNat)).c))>0)) (decide (aI>0))) (aC.set (0+(Int.toNat (IntKind.wrap .i64 ((aC.length:Int) - 1)))) (R2.mk (rd aC (0+(Int.toNat (IntKind.wrap .i64 ((aC.length:Int) - 1))))).a (rd v5 (0+v7.toNat)).a)))) else (bif (decide ((rd v5 (0+v7.toNat)).b =Int.ofNat 1)) then (.to (.h2 v5 v6 (IntKind.wrap .i64 (v7+1)) aA (IntKind.wrap .i64 (aI+(rd v5 (0+v7.toNat)).c)) (rd v5 (0+v7.toNat)).a (w3r (decide (aA>0)) (decide ((IntKind.wrap .i64 (aI+(rd v5 (0+v7.toNat)).c))>0))) (aC.set (0+(Int.toNat (IntKind.wrap .i64 ((aC.length:Int) - 1)))) (R2.mk (rd aC (0+(Int.toNat (IntKind.wrap .i64 ((aC.length:Int) - 1))))).a (rd v5 (0+v7.toNat)).a)))) else .stuck)) else (bif (Nat.beq 2 2&&((decide (0+aC.length=aC.length))&&decide ((aC.length+1+1)*(16+1)≤Ju))) then (bif (decide ((rd v5 (0+v7.toNat)).b =Int.ofNat 0)) then (.to (.h2 v5 v6 (IntKind.wrap .i64 (v7+1)) (IntKind.wrap .i64 (aA+(rd v5 (0+v7.toNat)).c)) aI (rd v5 (0+v7.toNat)).a (w3r (decide ((IntKind.wrap .i64 (aA+(rd v5 (0+v7.toNat)).c))>0)) (decide (aI>0))) (aC++[(R2.mk aP (rd v5 (0+v7.toNat)).a)]))) else (bif (decide ((rd v5 (0+v7.toNat)).b =Int.ofNat 1)) then (.to (.h2 v5 v6 (IntKind.wrap .i64 (v7+1)) aA (IntKind.wrap .i64 (aI+(rd v5 (0+v7.toNat)).c)) (rd v5 (0+v7.toNat)).a (w3r (decide (aA>0)) (decide ((IntKind.wrap .i64 (aI+(rd v5 (0+v7.toNat)).c))>0))) (aC++[(R2.mk aP (rd v5 (0+v7.toNat)).a)]))) else .stuck)) else .stuck)) else .stuck) else .stuck) else (bif (Nat.beq 2 2&&((decide (0+aC.length=aC.length))&&decide ((aC.length+1+1)*(16+1)≤Ju))) then (bif (decide ((rd v5 (0+v7.toNat)).b =Int.ofNat 0)) then (.to (.h2 v5 v6 (IntKind.wrap .i64 (v7+1)) (IntKind.wrap .i64 (aA+(rd v5 (0+v7.toNat)).c)) aI (rd v5 (0+v7.toNat)).a (w3r (decide ((IntKind.wrap .i64 (aA+(rd v5 (0+v7.toNat)).c))>0)) (decide (aI>0))) (aC++[(R2.mk aP (rd v5 (0+v7.toNat)).a)]))) else (bif (decide ((rd v5 (0+v7.toNat)).b =Int.ofNat 1)) then (.to (.h2 v5 v6 (IntKind.wrap .i64 (v7+1)) aA (IntKind.wrap .i64 (aI+(rd v5 (0+v7.toNat)).c)) (rd v5 (0+v7.toNat)).a (w3r (decide (aA>0)) (decide ((IntKind.wrap .i64 (aI+(rd v5 (0+v7.toNat)).c))>0))) (aC++[(R2.mk aP (rd v5 (0+v7.toNat)).a)]))) else .stuck)) else .stuck)))) else .stuck) else .stuck) else (.ret [(.dat aC.length (Zz aC)),(.int .i64 0)]))
def y2d (l0:List R2):Xb spmS:=(bif (decide ((l0.length:Int)>400)) then (.ret [.nils,(.int .i64 4)]) else (.to (.h0 0)))
theorem w4w (l0:List R2): ∀s,Xv prog (Zy prog 157) (spmC l0) (spmC l0 s) (Um l0 s)
 | .h0 v8=>(lb (fun k0=>(lo fun aF=>(lb (fun k1=>(lb (fun k2=>(lb (fun k3=>(lb (fun k4=>(lr 11 157 [1,1,0,1,0,0] 1 15 [(2,.nils),(3,(ii 8))] (sl Qs 79 [] ⟨[],[],[some [2,3]],[]⟩ ⟨[],[],[]⟩ (trs 9 []) (tt k4 (tt k3 (tt k2 (tt k1 (ww aF (tt k0 nn))))))))) (fun k4=>(sl Qs 154 [(246,3,Zz ([]:List R3))] ⟨[8,2,3,4,5,6,7,9],[],w9h,w9i⟩ ⟨[(3,.grow 7 3)],[],[]⟩ (trs 8 (bl 2 2)) (pp (fl ([]:List R3) nn) (tt k4 (tt k3 (tt k2 (tt k1 (ww aF (tt k0 nn))))))))))) (fun k3=>(sl Qs 69 [] ⟨[],[],spmN0,spmM0⟩ ⟨[],[],[]⟩ (trs 7 [false]) (tt k3 (tt k2 (tt k1 (ww aF (tt k0 nn))))))))) (fun k2=>(lb (fun k3=>(lr 11 157 [1,1,0,1,0,0] 1 15 [(2,.nils),(3,(ii 8))] (sl Qs 79 [] ⟨[],[],[some [2,3]],[]⟩ ⟨[],[],[]⟩ (trs 4 (bl 5 24)) (tt k3 (tt k2 (tt k1 (ww aF (tt k0 nn)))))))) (fun k3=>(sl Qs 154 [(246,3,Zz ([]:List R3))] ⟨[8,2,3,4,5,6,7,9],[],w9h,w9i⟩ ⟨[(3,.grow 7 3)],[],[]⟩ (trs 4 (bl 6 40)) (pp (fl ([]:List R3) nn) (tt k3 (tt k2 (tt k1 (ww aF (tt k0 nn)))))))))))) (fun k1=>(lb (fun k2=>(lr 11 157 [1,1,0,1,0,0] 1 15 [(2,.nils),(3,(ii 8))] (sl Qs 79 [] ⟨[],[],[some [2,3]],[]⟩ ⟨[],[],[]⟩ (bl 9 385) (tt k2 (tt k1 (ww aF (tt k0 nn))))))) (fun k2=>(sl Qs 154 [(246,3,Zz ([]:List R3))] ⟨[8,2,3,4,5,6,7,9],[],w9h,w9i⟩ ⟨[(3,.grow 7 3)],[],[]⟩ (bl 10 641) (pp (fl ([]:List R3) nn) (tt k2 (tt k1 (ww aF (tt k0 nn)))))))))))) (fun k0=>(sl Qs 98 [(246,3,Zz ([]:List R3))] ⟨[6,0,1,2,3,4,5,7],[],w9h,w9i⟩ ⟨[(3,.grow 7 3)],[],[]⟩ (bl 3 4) (pp (fl ([]:List R3) nn) (tt k0 nn)))))
 | .h1 v3 v17=>(lb (fun k0=>(lo fun o0=>(lo fun o1=>(sl Qs 36 [] ⟨[0,1,2,3,4,5,6,10],[],w9h,w9i⟩ ⟨[(3,.len (y7o v3 l0 v17).length)],(kpB 7 [.rowed 3 (y7o v3 l0 v17).length (Zz (y7o v3 l0 v17))]),[]⟩ [true] (pp (xL (v3.length+2) (y7o v3 l0 v17).length) (pp (xL (v3.length+2) (y7o v3 l0 v17).length) (pp (xS (v3.length+2) (Zi (Zz v3) 0 v3.length 3 [(ii (rd l0 (tn v17)).a),(ii 0),(ii 1),(ii (rd l0 (tn v17)).b),(ii 0),(ii (-1))]) (Zz (y7o v3 l0 v17))) (pp (pp (xF (Zi (Zz v3) 0 v3.length 3 [(ii (rd l0 (tn v17)).a),(ii 0),(ii 1),(ii (rd l0 (tn v17)).b),(ii 0),(ii (-1))])) nn) (ww o1 (ww o0 (tt k0 nn))))))))))) (fun k0=>(lo fun o0=>(lo fun o1=>(lo fun o2=>(sl Qs 92 [(183,2,Zz ([]:List R2))] ⟨[9,1,2,4,5,6,3,7,10],[],y3z,y4a⟩ ⟨[(5,.len (z0v (cvT v3)).length)],(kpB 6 [.cells [.grow 8 2],.rowed 3 (z0v (cvT v3)).length (Zz (z0v (cvT v3))),.keep]),[]⟩ (bl 4 2) (pp (xL v3.length (z0v (cvT v3)).length (by first | exact z8c _ | exact Vy rfl)) (pp (xL v3.length (z0v (cvT v3)).length (by first | exact z8c _ | exact Vy rfl)) (pp (xS v3.length (Zz (z0v (cvT v3))) (Zz (z0v (cvT v3)))) (pp (fl (z0v (cvT v3)) (fl ([]:List R2) nn)) (pp (pp (xG (Nat.beq 3 3)) (pp (xG (Nat.beq 3 3)) (pp (xG (Nat.beq 0 0)) (pp (pp (xG (decide (v3.length=v3.length))) (pp (xr v3) (xG (decide (v3.length<4611686018427387904))))) (xG (y1q (cvT v3))))))) (tt k0 nn))))))))))))
 | .h2 v5 v6 v7 aA aI aP aG aC=>(lb (fun k0=>(lo fun aF=>(lo fun aW=>(lb (fun k1=>(lb (fun k2=>(sl Qs 62 [] ⟨(List.range 9),[],y3z,y4a⟩ ⟨[],[],[]⟩ (trs 5 (bl 3 0)) (pp (fl v5 (fl aC nn)) (ww k2 (tt k1 (ww aW (ww aF (tt k0 nn)))))))) (fun k2=>(lb (fun k3=>(sl Qs 62 [] ⟨(List.range 9),[],y3z,y4a⟩ ⟨[],[],[]⟩ (trs 6 (bl 4 2)) (pp (fl v5 (fl aC nn)) (ww k3 (tt k1 (ww aW (ww aF (tt k0 nn)))))))) (fun k3=>trivial))))) (fun k1=>(lb (fun k2=>(lb (fun k3=>(sl Qs 62 [] ⟨(List.range 9),[],y3z,y4a⟩ ⟨[],[],[]⟩ (bl 8 17) (pp (fl v5 (fl aC nn)) (ww k3 (tt k2 (tt k1 (ww aW (ww aF (tt k0 nn))))))))) (fun k3=>(lb (fun k4=>(sl Qs 62 [] ⟨(List.range 9),[],y3z,y4a⟩ ⟨[],[],[]⟩ (bl 10 177) (pp (fl v5 (fl aC nn)) (ww k4 (tt k2 (tt k1 (ww aW (ww aF (tt k0 nn))))))))) (fun k4=>trivial))))) (fun k2=>(lb (fun k3=>(lo fun cC=>(lo fun cT=>(lb (fun k4=>(lb (fun k5=>(sl Qs 81 [] ⟨(List.range 9),[],y3z,y4a⟩ ⟨[],(kpB 6 [.cells [.len (aC.set (0+(tn (wr ((aC.length:Int) - 1)))) (R2.mk (rd aC (0+(tn (wr ((aC.length:Int) - 1))))).a (rd v5 (0+(tn v7))).a)).length],.keep,.rowed 2 (aC.set (0+(tn (wr ((aC.length:Int) - 1)))) (R2.mk (rd aC (0+(tn (wr ((aC.length:Int) - 1))))).a (rd v5 (0+(tn v7))).a)).length (Zz (aC.set (0+(tn (wr ((aC.length:Int) - 1)))) (R2.mk (rd aC (0+(tn (wr ((aC.length:Int) - 1))))).a (rd v5 (0+(tn v7))).a)))]),[]⟩ (bl 17 16353) (pp (xL aC.length (aC.set (0+(tn (wr ((aC.length:Int) - 1)))) (R2.mk (rd aC (0+(tn (wr ((aC.length:Int) - 1))))).a (rd v5 (0+(tn v7))).a)).length) (pp (xL aC.length (aC.set (0+(tn (wr ((aC.length:Int) - 1)))) (R2.mk (rd aC (0+(tn (wr ((aC.length:Int) - 1))))).a (rd v5 (0+(tn v7))).a)).length) (pp (xS aC.length (Xi (Zz aC) (0+(tn (wr ((aC.length:Int) - 1)))) 1 [(ii (rd v5 (0+(tn v7))).a)]) (Zz (aC.set (0+(tn (wr ((aC.length:Int) - 1)))) (R2.mk (rd aC (0+(tn (wr ((aC.length:Int) - 1))))).a (rd v5 (0+(tn v7))).a)))) (pp (fl v5 (pp (xF (Xi (Zz aC) (0+(tn (wr ((aC.length:Int) - 1)))) 1 [(ii (rd v5 (0+(tn v7))).a)])) nn)) (ww k5 (ww cT (ww cC (tt k4 (ww cT (ww cC (tt k3 (tt k2 (tt k1 (ww aW (ww aF (tt k0 nn)))))))))))))))))) (fun k5=>(lb (fun k6=>(sl Qs 81 [] ⟨(List.range 9),[],y3z,y4a⟩ ⟨[],(kpB 6 [.cells [.len (aC.set (0+(tn (wr ((aC.length:Int) - 1)))) (R2.mk (rd aC (0+(tn (wr ((aC.length:Int) - 1))))).a (rd v5 (0+(tn v7))).a)).length],.keep,.rowed 2 (aC.set (0+(tn (wr ((aC.length:Int) - 1)))) (R2.mk (rd aC (0+(tn (wr ((aC.length:Int) - 1))))).a (rd v5 (0+(tn v7))).a)).length (Zz (aC.set (0+(tn (wr ((aC.length:Int) - 1)))) (R2.mk (rd aC (0+(tn (wr ((aC.length:Int) - 1))))).a (rd v5 (0+(tn v7))).a)))]),[]⟩ (bl 19 98273) (pp (xL aC.length (aC.set (0+(tn (wr ((aC.length:Int) - 1)))) (R2.mk (rd aC (0+(tn (wr ((aC.length:Int) - 1))))).a (rd v5 (0+(tn v7))).a)).length) (pp (xL aC.length (aC.set (0+(tn (wr ((aC.length:Int) - 1)))) (R2.mk (rd aC (0+(tn (wr ((aC.length:Int) - 1))))).a (rd v5 (0+(tn v7))).a)).length) (pp (xS aC.length (Xi (Zz aC) (0+(tn (wr ((aC.length:Int) - 1)))) 1 [(ii (rd v5 (0+(tn v7))).a)]) (Zz (aC.set (0+(tn (wr ((aC.length:Int) - 1)))) (R2.mk (rd aC (0+(tn (wr ((aC.length:Int) - 1))))).a (rd v5 (0+(tn v7))).a)))) (pp (fl v5 (pp (xF (Xi (Zz aC) (0+(tn (wr ((aC.length:Int) - 1)))) 1 [(ii (rd v5 (0+(tn v7))).a)])) nn)) (ww k6 (ww cT (ww cC (tt k4 (ww cT (ww cC (tt k3 (tt k2 (tt k1 (ww aW (ww aF (tt k0 nn)))))))))))))))))) (fun k6=>trivial))))) (fun k4=>(lo fun cS=>(lb (fun k5=>(sl Qs 81 [] ⟨[0,1,2,3,4,5,6,7,12],[],y3z,y4a⟩ ⟨[],(kpB 6 [.cells [.len (Uv aC aP v5 v7).length],.keep,.rowed 2 (Uv aC aP v5 v7).length (Zz (Uv aC aP v5 v7))]),[]⟩ (bl 17 8161) (pp (xL (aC.length+1) (Uv aC aP v5 v7).length) (pp (xL (aC.length+1) (Uv aC aP v5 v7).length) (pp (xS (aC.length+1) (y0u aC aP v5 v7) (Zz (Uv aC aP v5 v7))) (pp (fl v5 (pp (xF (y0u aC aP v5 v7)) nn)) (ww k5 (ww cS (tt k4 (ww cT (ww cC (tt k3 (tt k2 (tt k1 (ww aW (ww aF (tt k0 nn))))))))))))))))) (fun k5=>(lb (fun k6=>(sl Qs 81 [] ⟨[0,1,2,3,4,5,6,7,12],[],y3z,y4a⟩ ⟨[],(kpB 6 [.cells [.len (Uv aC aP v5 v7).length],.keep,.rowed 2 (Uv aC aP v5 v7).length (Zz (Uv aC aP v5 v7))]),[]⟩ (bl 19 90081) (pp (xL (aC.length+1) (Uv aC aP v5 v7).length) (pp (xL (aC.length+1) (Uv aC aP v5 v7).length) (pp (xS (aC.length+1) (y0u aC aP v5 v7) (Zz (Uv aC aP v5 v7))) (pp (fl v5 (pp (xF (y0u aC aP v5 v7)) nn)) (ww k6 (ww cS (tt k4 (ww cT (ww cC (tt k3 (tt k2 (tt k1 (ww aW (ww aF (tt k0 nn))))))))))))))))) (fun k6=>trivial)))))))))) (fun k3=>(lo fun cC=>(lb (fun k4=>(sl Qs 81 [] ⟨[0,1,2,3,4,5,6,7,12],[],y3z,y4a⟩ ⟨[],(kpB 6 [.cells [.len (Uv aC aP v5 v7).length],.keep,.rowed 2 (Uv aC aP v5 v7).length (Zz (Uv aC aP v5 v7))]),[]⟩ (bl 17 1) (pp (xL (aC.length+1) (Uv aC aP v5 v7).length) (pp (xL (aC.length+1) (Uv aC aP v5 v7).length) (pp (xS (aC.length+1) (y0u aC aP v5 v7) (Zz (Uv aC aP v5 v7))) (pp (fl v5 (pp (xF (y0u aC aP v5 v7)) nn)) (ww k4 (ww cC (tt k3 (tt k2 (tt k1 (ww aW (ww aF (tt k0 nn)))))))))))))) (fun k4=>(lb (fun k5=>(sl Qs 81 [] ⟨[0,1,2,3,4,5,6,7,12],[],y3z,y4a⟩ ⟨[],(kpB 6 [.cells [.len (Uv aC aP v5 v7).length],.keep,.rowed 2 (Uv aC aP v5 v7).length (Zz (Uv aC aP v5 v7))]),[]⟩ (bl 19 81921) (pp (xL (aC.length+1) (Uv aC aP v5 v7).length) (pp (xL (aC.length+1) (Uv aC aP v5 v7).length) (pp (xS (aC.length+1) (y0u aC aP v5 v7) (Zz (Uv aC aP v5 v7))) (pp (fl v5 (pp (xF (y0u aC aP v5 v7)) nn)) (ww k5 (ww cC (tt k3 (tt k2 (tt k1 (ww aW (ww aF (tt k0 nn)))))))))))))) (fun k5=>trivial)))))))))))))) (fun k0=>(lr 11 3 [1,1,1,1,1,1,1,0] 1 15 [(2,(.dat aC.length (Zz aC))),(3,(ii 0))] (sl Qs 19 [] ⟨[],[8],[some [2,3]],[]⟩ ⟨[(2,.frz aC.length aC.length (Zz aC) (Zz aC))],[],[]⟩ [false] (pp (xZ (z6q 2 2 0 aC.length aC.length (Zz aC)) aC.length (Zz aC)) (pp (xL aC.length aC.length) (pp (xS aC.length (Zz aC) (Zz aC)) (pp (fl aC nn) (tt k0 nn)))))))))
theorem x6p (l0:List R2):Xv prog (Zy prog 157) (spmC l0) (Zc prog 157 [(.dat l0.length (Zz l0))] true []) (y2d l0):=(lb (fun k0=>(lr 11 157 [1,0,1,0,0] 1 15 [(2,.nils),(3,(ii 4))] (sl Qs 18 [] ⟨[],[],[some [2,3]],[]⟩ ⟨[],[],[]⟩ [true] (tt k0 nn)))) (fun k0=>(sl Qs 41 [] ⟨[],[],spmN0,spmM0⟩ ⟨[],[],[]⟩ [false] (tt k0 nn))))
theorem v6i (l0:List R2) (n:Nat) (vs:List AVal) (h:Yv (Um l0) n (y2d l0)=.ret vs):Jt prog (Zy prog 157) (Zc prog 157 [(.dat l0.length (Zz l0))] true []) vs:=by have:=Ze (w4w l0) n _ (x6p l0);rwa [h] at this
end Go.Am
namespace Go.Am
open Go.Proofs
def z0u (s:R2):Bool:=decide (s.a<s.b)&&(decide (s.a≥ -1000000)&&decide (s.b≤1000000))
def Kp (l:List R2):List R3:=l.flatMap fun s=>[⟨s.a,0,1⟩,⟨s.b,0,-1⟩]
def Vc (out:List R2) (last:Int) (inn:Bool) (at':Int):List R2:=
 bif !inn then out else bif last == at' then out else
 bif decide (0<out.length)&&((rd out (out.length - 1)).b == last) then out.set (out.length - 1) ⟨(rd out (out.length - 1)).a,at'⟩ else out++[⟨last,at'⟩]
def swF :List R3→Int→Int→Bool→List R2→List R2
 | [],_,_,_,out=>out
 | e::r,o,last,inn,out=>swF r (o+e.c) e.a (decide (o+e.c>0)) (Vc out last inn e.a)
def swV (l:List R2):List R2:=swF (z0v (Kp l)) 0 0 false []
def Xd (l:List R2):List R2:=bif decide (400<l.length) then [] else bif l.all z0u then swV l else []
def u1t (l:List R2):Int:=bif decide (400<l.length) then 4 else bif l.all z0u then 0 else 8
def y3y (l:List R2):Bool:=true
def x3f (l:List R2):List AVal:=bif decide (400<l.length) then [.nils,.int .i64 4] else bif l.all z0u then [.dat (swV l).length (Zz (swV l)),.int .i64 0] else [.nils,.int .i64 8]
theorem z4s (l:List R2):(Kp l).length =2*l.length:=by
 induction l with
 | nil=>rfl
 | cons r l ih=>show (_::_::Kp l).length =_;simp only [List.length_cons,ih];omega
theorem z3g (out:List R2) (last:Int) (inn:Bool) (a:Int):(Vc out last inn a).length ≤out.length+1:=by
 unfold Vc;cases inn <;> simp only [Bool.not_true,Bool.not_false,cond_true,cond_false]
 ·omega
 ·cases (last == a) <;> simp only [cond_true,cond_false]
  ·cases (decide (0<out.length)&&((rd out (out.length - 1)).b == last)) <;> simp
  ·omega
theorem y2b (e:R3) (r:List R3) (o last:Int) (inn:Bool) (out:List R2):swF (e::r) o last inn out=swF r (o+e.c) e.a (decide (o+e.c>0)) (Vc out last inn e.a):=rfl
theorem u9a {a:Int} (k:Nat) (h:a=(k:Int)):decide (a=Int.ofNat k)=true:=decide_eq_true h
section
variable (l:List R2) (hl:l.length≤400)
include hl
theorem u1p (L:List R3) (hL:L.length≤800) (hE: ∀i,i<L.length→(rd L i).b =0∧((rd L i).c =1∨(rd L i).c = -1)): ∀(k i:Nat) (o last:Int) (inn:Bool) (out:List R2),i+k=L.length→ -(i:Int)≤o→o≤i→out.length≤i→
  ∃n,Yv (Um l) n (.to (.h2 L (L.length:Int) (i:Int) o 0 last inn out))=.ret [.dat (swF (L.drop i) o last inn out).length (Zz (swF (L.drop i) o last inn out)),.int .i64 0]
 | 0,i,o,last,inn,out,h,ho1,ho2,hout=>by have _uhl:=hl;refine ⟨1,?_⟩;rw [Zv,List.drop_eq_nil_of_le (by omega)];simp (disch:=omega) only [Um,Yx,cond_false,Zm,swF]
 | k +1,i,o,last,inn,out,h,ho1,ho2,hout=>by
  obtain ⟨hb,hc⟩:=hE i (by omega);have hcl:=z3g out last inn (rd L i).a;obtain ⟨n,hn⟩:=u1p L hL hE k (i+1) (o+(rd L i).c) (rd L i).a (decide (o+(rd L i).c >0)) (Vc out last inn (rd L i).a) (by omega) (by rcases hc with hc | hc <;> omega) (by rcases hc with hc | hc <;> omega) (by omega);refine ⟨n+1,?_⟩;rw [Ym (show i<L.length by omega),Zv];have hf: ∀b,w3r b (decide ((0:Int)>0))=b:=fun b=>rfl;have hw:IntKind.wrap .i64 (o+(rd L i).c)=o+(rd L i).c :=Zq (by rcases hc with hc | hc <;> omega);rw [y2b];have hf': ∀b,w3r b false=b:=fun b=>rfl;have hz:=u9a 0 hb;unfold Vc at hn ⊢;cases inn with
  | false=>simp only [Bool.not_false,cond_true] at hn ⊢;simp (disch:=omega) only [Um,Bool.not_false,hz,hw,hf,hf',Zt,Yz,Yk,Zq,Zx,Zj,Nat.zero_add,Bool.and_true,cond_true];exact hn
  | true=>
   simp only [Bool.not_true,cond_false] at hn ⊢;rcases Ye (last == (rd L i).a) with q | q
   ·rw [q] at hn ⊢;simp only [cond_true] at hn ⊢;simp (disch:=omega) only [Um,Bool.not_true,q,hz,hw,hf,hf',Zt,Yz,Yk,Zq,Zx,Zj,Nat.zero_add,Bool.and_true,cond_true,cond_false];exact hn
   ·rw [q] at hn ⊢;simp only [cond_false] at hn ⊢;by_cases h0:0<out.length
    ·rw [decide_eq_true h0,Bool.true_and] at hn ⊢;rcases Ye ((rd out (out.length - 1)).b == last) with q2 | q2
     ·rw [q2] at hn ⊢;simp only [cond_true] at hn ⊢;simp (disch:=omega) only [Um,Bool.not_true,q,q2,hz,hw,hf,hf',Zt,Yo,Yz,Yk,Zq,Zx,Zj,Zf,Nat.zero_add,Bool.and_true,cond_true,cond_false];exact hn
     ·rw [q2] at hn ⊢;simp only [cond_false] at hn ⊢;simp (disch:=omega) only [Um,Bool.not_true,q,q2,hz,hw,hf,hf',Zt,Yo,Yz,Yk,Yp,Zh,Yg,decide_true,Zq,Zx,Zj,Zf,Nat.zero_add,Bool.and_true,Bool.true_and,cond_true,cond_false];exact hn
    ·rw [decide_eq_false h0,Bool.false_and] at hn ⊢;simp only [cond_false] at hn ⊢;simp (disch:=omega) only [Um,Bool.not_true,q,hz,hw,hf,hf',Zt,Xp,Yz,Yk,Yp,Zh,Yg,decide_true,Zq,Zx,Zj,Nat.zero_add,Bool.and_true,Bool.true_and,cond_true,cond_false];exact hn
theorem v4k (h:l.all z0u=true): ∀e∈Kp l,bnd3 e=true∧e.b=0∧(e.c=1∨e.c= -1):=by
 have _uhl:=hl;intro e he;obtain ⟨s,hs,h1⟩:=List.mem_flatMap.1 he;have hv:=List.all_eq_true.1 h s hs;simp only [z0u,Bool.and_eq_true,decide_eq_true_eq] at hv;simp only [List.mem_cons,List.not_mem_nil,or_false] at h1;rcases h1 with rfl | rfl
 ·exact ⟨decide_eq_true (by simp only;omega),rfl,.inl rfl⟩
 ·exact ⟨decide_eq_true (by simp only;omega),rfl,.inr rfl⟩
theorem u1q (hv:l.all z0u=true): ∀(k i:Nat) (acc:List R3),i+k=l.length→acc=Kp (l.take i)→ ∃n,Yv (Um l) n (.to (.h1 acc (i:Int)))=.ret [.dat (swV l).length (Zz (swV l)),.int .i64 0]
 | 0,i,acc,h,ha=>by
  have e:acc=Kp l:=by rw [ha,List.take_of_length_le (by omega)]
  subst e;have hle:=z4s l;have eG:=v4k l hl hv;have hb:y1q (Kp l)=true:=List.all_eq_true.2 fun e he=>(eG e he).1;obtain ⟨hp,_⟩:=Ks (Kp l) hb;have hpl:=hp.length_eq;obtain ⟨n,hn⟩:=u1p l hl (z0v (Kp l)) (by omega) (fun i hi=>by
   rw [Xy hi];exact (eG _ (hp.mem_iff.1 (List.getElem_mem hi))).2) (z0v (Kp l)).length 0 0 0 false [] (Nat.zero_add _) (by omega) (by omega) (Nat.zero_le _)
  refine ⟨n+1,?_⟩;rw [Zv];simp (disch:=omega) only [Um,Za,Zk,hb,Yx,Yk,Yp,decide_true,cond_true,cond_false];rw [←hpl];simp only [z4u,List.drop_zero] at hn;exact hn
 | k+1,i,acc,h,ha=>by
  have hle:=z4s (l.take i);have fN:acc.length≤2*i:=by rw [ha,hle];simp;omega
  obtain ⟨n,hn⟩:=u1q hv k (i+1) (acc++Kp [rd l i]) (by omega) (by
   rw [ha,List.take_add_one];have:l[i]? =some (rd l i):=by rw [Xy (show i<l.length by omega)];exact List.getElem?_eq_getElem _
   rw [this];simp [Kp])
  refine ⟨n+1,?_⟩;rw [Zv];simp (disch:=omega) only [Um,Zt,Yz,Yc,Yp,Zh,Yg,decide_true,Zq,Zx,Zj,Nat.zero_add,Bool.and_true,Bool.true_and,cond_true];exact hn
theorem u1r : ∀(k i:Nat),i+k=l.length→(∀s∈l.take i,z0u s=true)→ ∃n,Yv (Um l) n (.to (.h0 (i:Int)))=.ret (bif l.all z0u then [.dat (swV l).length (Zz (swV l)),.int .i64 0] else [.nils,.int .i64 8])
 | 0,i,h,ht=>by have hv:l.all z0u=true:=List.all_eq_true.2 fun s hs=>ht s (by rw [List.take_of_length_le (by omega)];exact hs);obtain ⟨n,hn⟩:=u1q l hl hv l.length 0 [] (Nat.zero_add _) rfl;refine ⟨n+1,?_⟩;rw [Zv,hv,cond_true];simp (disch:=omega) only [Um,Yx,cond_false];exact hn
 | k+1,i,h,ht=>by
  have hi:i<l.length:=by omega
  rcases Ye (z0u (rd l i)) with q | q
  ·obtain ⟨n,hn⟩:=u1r k (i+1) (by omega) (fun s hs=>by
    rw [List.take_add_one] at hs;have e:l[i]? =some (rd l i):=by rw [Xy hi];exact List.getElem?_eq_getElem _
    rw [e] at hs;simp only [Option.toList_some,List.mem_append,List.mem_singleton] at hs;rcases hs with hs | rfl
    ·exact ht s hs
    ·exact q)
   refine ⟨n+1,?_⟩;rw [Zv];simp only [z0u,Bool.and_eq_true,decide_eq_true_eq] at q;simp (disch:=omega) only [Um,Zt,Xs,dge_t,Yz,Zq,Zx,Zj,Bool.not_true,Bool.and_true,cond_true,cond_false];exact hn
  ·have hv:l.all z0u=false:=Bool.eq_false_iff.2 fun e=>by have:=List.all_eq_true.1 e (rd l i) (by rw [Xy hi];exact List.getElem_mem hi);rw [this] at q;cases q
   refine ⟨1,?_⟩;rw [Zv,hv,cond_false];unfold z0u at q;rcases Ye (decide ((rd l i).a <(rd l i).b)) with q1 | q1 <;> rcases Ye (decide ((rd l i).a ≥ -1000000)) with q2 | q2 <;> rcases Ye (decide ((rd l i).b ≤1000000)) with q3 | q3 <;>
    rw [q1,q2,q3] at q <;> first
    | (exfalso;revert q;decide)
    | simp (disch:=omega) only [Um,q1,q2,q3,Zt,dge_t,Yz,Zq,Zx,Zj,Bool.not_true,Bool.not_false,Bool.and_true,cond_true,cond_false,Zm]
end
theorem u6v (l:List R2): ∃n,Yv (Um l) n (y2d l)=.ret (x3f l):=by
 unfold y2d x3f;by_cases h:400<l.length
 ·refine ⟨0,?_⟩;rw [decide_eq_true h,Yo (show (l.length:Int)>400 by omega)];rfl
 ·obtain ⟨n,hn⟩:=u1r l (by omega) l.length 0 (Nat.zero_add _) (fun s hs=>by simp at hs);refine ⟨n,?_⟩;rw [decide_eq_false h,Xp (show¬(l.length:Int)>400 by omega),cond_false,cond_false];exact hn
end Go.Am
namespace Go.Am
open Go.Proofs.Tryz
open Go.Proofs
def fSpm :List AVal→Option (AVal×Bool)
 | [a1]=>match asL R2 a1 with
  | some (L1,g1,n1)=>some (.tup [.dat (Xd L1).length (Zz (Xd L1)),.int .i64 (u1t L1)],isT R2 n1 g1&&y3y L1)
  | _=>none
 | _=>none
theorem j1b {S:Specs} (hS:Zu prog S):Zu prog (S.with x4h fSpm):=by
 refine v3z hS (by kernel_rfl) fun args v h=> ?_;unfold fSpm at h;split at h
 ·rename_i a1;split at h
  ·rename_i L1 g1 n1 e1;simp only [Option.some.injEq,Prod.mk.injEq,Bool.and_eq_true] at h;obtain ⟨rfl,ho1,hw⟩:=h;obtain ⟨N,hN⟩:=u6v L1;refine ⟨_,x3f L1,(.cons (asL_le e1 ho1) .nil),?_,v6i L1 N _ hN,3,?_⟩
   ·unfold Xd u1t x3f;cases decide (400<L1.length) <;> simp only [cond_true,cond_false]
    ·cases L1.all z0u <;> simp only [cond_true,cond_false]
     ·exact fun ρ u hu=>z5s (.cons (z6l R2) (RLe.refl _)) ρ u hu
     ·exact fun ρ u hu=>hu
    ·exact fun ρ u hu=>z5s (.cons (z6l R2) (RLe.refl _)) ρ u hu
   ·unfold x3f;cases decide (400<L1.length) <;> simp only [cond_true,cond_false]
    ·cases L1.all z0u <;> rfl
    ·rfl
  ·cases h
 ·cases h
def T6 :Specs:=T5.with x4h fSpm
theorem Kq :Zu prog T6:=j1b Qs
end Go.Am
namespace Go.Am
open Go.Proofs Go.Sort Go.Shelf Go.RowKit Go.Lib
theorem y6a {γ:Type} (a b:Bool) (x y:γ):(bif a&&b then x else y)=bif a then (bif b then x else y) else y:=by cases a <;> rfl
theorem z6x {γ:Type} (a:Bool) (x y:γ):(bif !a then x else y)=bif a then y else x:=by cases a <;> rfl
structure Dim (α β:Type) where
 lo:α→Int
 hi:α→Int
 pr:α→β
 put:Int→Int→β→α
 ext:Int→α→α
 mak:List β→List β
 same:List β→List β→Bool
structure Sw (α β:Type) where
 out:List α
 last:List β
 first:Nat
 fin:Int
def Jj (zs:List Int):List Int:=compact (Xm zs)
theorem y0f (zs:List Int):w8q (Xm zs)=(Jj zs).length :=rfl
theorem Ww (zs:List Int):(Xm zs).length =zs.length:=List.length_mergeSort zs
theorem z3e (zs:List Int):(Jj zs).length ≤zs.length:=by have:=compact_length_le (Xm zs);rw [Ww] at this;exact this
theorem z4h (zs:List Int) (i:Nat) (h:i<(Jj zs).length):rd (Wh (Xm zs)) i=rd (Jj zs) i:=by change i<(compact (Xm zs)).length at h;show rd (compact (Xm zs)++_) i=rd (compact (Xm zs)) i;rw [Xy (by rw [List.length_append];exact Nat.lt_add_right _ h),Xy h,List.getElem_append_left h]
theorem z0a (zs:List Int):Yw zs.length (cOf (Zz (Xm zs)))=Xm zs:=by have:=Wd (Xm zs);rw [Ww] at this;exact this
namespace Dim
variable {α β:Type} (D:Dim α β) (l:List α)
def ends :List Int:=l.flatMap fun r=>[D.lo r,D.hi r]
def cuts :List Int:=Jj (D.ends l)
def inn (x:Int):List β:=(l.filter fun r=>decide (D.lo r≤x)&&decide (x<D.hi r)).map D.pr
def sec (x:Int):List β:=D.mak (D.inn l x)
def grow (out:List α) (k:Nat) (x:Int):List α:=out.take k++(out.drop k).map (D.ext x)
def one (x x':Int) (s:Sw α β):Sw α β:=
 bif decide (0<(D.sec l x).length)&&((s.fin == x)&&D.same s.last (D.sec l x)) then ⟨D.grow s.out s.first x',s.last,s.first,x'⟩
 else ⟨s.out++(D.sec l x).map (D.put x x'),D.sec l x,s.out.length,x'⟩
def go :Nat→Nat→Sw α β→Sw α β
 | 0,_,s=>s
 | k+1,i,s=>go k (i+1) (D.one l (rd (D.cuts l) i) (rd (D.cuts l) (i+1)) s)
def out :List α:=(D.go l ((D.cuts l).length - 1) 0 ⟨[],[],0,0⟩).out
theorem ends_length :(D.ends l).length =2*l.length:=by
 induction l with
 | nil=>rfl
 | cons r l ih=>show (_::_::D.ends l).length =_;simp only [List.length_cons,ih];omega
theorem cuts_length :(D.cuts l).length ≤2*l.length:=by have:=z3e (D.ends l);rw [D.ends_length] at this;exact this
theorem ends_append (m:List α):D.ends (l++m)=D.ends l++D.ends m:=by simp [ends]
theorem inn_append (m:List α) (x:Int):D.inn (l++m) x=D.inn l x++D.inn m x:=by simp [inn]
theorem inn_length (x:Int):(D.inn l x).length ≤l.length:=by simpa [inn] using List.length_filter_le _ l
theorem inn_t (r:α) (x:Int) (h1:D.lo r≤x) (h2:x<D.hi r):D.inn [r] x=[D.pr r]:=by simp [inn,h1,h2]
theorem inn_f1 (r:α) (x:Int) (h1: ¬D.lo r≤x):D.inn [r] x=[]:=by simp [inn,h1]
theorem inn_f2 (r:α) (x:Int) (h1: ¬x<D.hi r):D.inn [r] x=[]:=by simp [inn,h1]
theorem grow_nil (out:List α) (k:Nat) (x:Int) (h:out.length≤k):D.grow out k x=out:=by unfold grow;rw [List.drop_eq_nil_of_le h,List.map_nil,List.append_nil,List.take_of_length_le h]
theorem grow_length (out:List α) (k:Nat) (x:Int):(D.grow out k x).length =out.length:=by unfold grow;simp;omega
theorem grow_set [Yt α] (out:List α) (j:Nat) (x:Int) (h:j<out.length):D.grow (out.set j (D.ext x (rd out j))) (j+1) x=D.grow out j x:=by
 unfold grow;rw [Ym h,List.map_cons];have e1:(out.set j (D.ext x (rd out j))).take (j+1)=out.take j++[D.ext x (rd out j)]:=by
  apply List.ext_getElem
  ·simp;omega
  ·intro n h1 h2;simp only [List.getElem_take,List.getElem_set];by_cases e:j=n
   ·subst e;rw [if_pos rfl,List.getElem_append_right (by simp only [List.length_take];omega)];simp
   ·rw [if_neg e,List.getElem_append_left (by simp at h1 ⊢;omega),List.getElem_take]
 have e2:(out.set j (D.ext x (rd out j))).drop (j+1)=out.drop (j+1):=by rw [List.drop_set];rw [if_pos (by omega)]
 rw [e1,e2,List.append_assoc];rfl
theorem one_length (x x':Int) (s:Sw α β):(D.one l x x' s).out.length ≤s.out.length+(D.sec l x).length :=by unfold one;cases (decide (0<(D.sec l x).length)&&((s.fin == x)&&D.same s.last (D.sec l x))) <;> simp [grow_length]
end Dim
end Go.Am
namespace Go.Am
open Go.Proofs.Tryz
open Go.Proofs
inductive vl4S where
def vl4C (aM:Int) (aL:Int) (aN:Int) (aV:Int):vl4S→Cfg
 :=nofun
def x6h (aM:Int) (aL:Int) (aN:Int) (aV:Int):vl4S→Xb vl4S
 :=nofun
def y2a (aM:Int) (aL:Int) (aN:Int) (aV:Int):Xb vl4S:=(bif (decide (aM<aN)) then (bif (decide (aL<aV)) then (bif (decide (aM≥(-1000000))) then (bif (decide (aM≤1000000)) then (bif (decide (aN≥(-1000000))) then (bif (decide (aN≤1000000)) then (bif (decide (aL≥(-1000000))) then (bif (decide (aL≤1000000)) then (bif (decide (aV≥(-1000000))) then (.ret [(.bool (decide (aV≤1000000)))]) else (.ret [(.bool false)])) else (.ret [(.bool false)])) else (.ret [(.bool false)])) else (.ret [(.bool false)])) else (.ret [(.bool false)])) else (.ret [(.bool false)])) else (.ret [(.bool false)])) else (.ret [(.bool false)])) else (.ret [(.bool false)]))
theorem w4l (aM:Int) (aL:Int) (aN:Int) (aV:Int): ∀s,Xv prog (Zy prog 120) (vl4C aM aL aN aV) (vl4C aM aL aN aV s) (x6h aM aL aN aV s)
 :=nofun
theorem x6i (aM:Int) (aL:Int) (aN:Int) (aV:Int):Xv prog (Zy prog 120) (vl4C aM aL aN aV) (Zc prog 120 [(.agg [(.int .i64 aM),(.int .i64 aL),(.int .i64 aN),(.int .i64 aV)])] true []) (y2a aM aL aN aV):=(lb (fun k0=>(lb (fun k1=>(lb (fun k2=>(lb (fun k3=>(lb (fun k4=>(lb (fun k5=>(lb (fun k6=>(lb (fun k7=>(lb (fun k8=>(lr 35 3 [1,1,1,1,1,1,1,0] 1 3 [(2,(.bool (decide (aV≤1000000))))] (sl Kq 101 [] ⟨[],[],[some [2]],[]⟩ ⟨[],[],[]⟩ (trs 25 []) (tt k8 (tt k7 (tt k6 (tt k5 (tt k4 (tt k3 (tt k2 (tt k1 (tt k0 nn)))))))))))) (fun k8=>(lr 35 3 [1,1,1,1,1,1,1,0] 1 3 [(2,(.bool false))] (sl Kq 101 [] ⟨[],[],[some [2]],[]⟩ ⟨[],[],[]⟩ (trs 23 [false,false]) (tt k8 (tt k7 (tt k6 (tt k5 (tt k4 (tt k3 (tt k2 (tt k1 (tt k0 nn)))))))))))))) (fun k7=>(lr 35 3 [1,1,1,1,1,1,1,0] 1 3 [(2,(.bool false))] (sl Kq 86 [] ⟨[],[],[some [2]],[]⟩ ⟨[],[],[]⟩ (trs 20 [false,false,false]) (tt k7 (tt k6 (tt k5 (tt k4 (tt k3 (tt k2 (tt k1 (tt k0 nn))))))))))))) (fun k6=>(lr 35 3 [1,1,1,1,1,1,1,0] 1 3 [(2,(.bool false))] (sl Kq 86 [] ⟨[],[],[some [2]],[]⟩ ⟨[],[],[]⟩ (trs 18 [false,false,false,false,false]) (tt k6 (tt k5 (tt k4 (tt k3 (tt k2 (tt k1 (tt k0 nn)))))))))))) (fun k5=>(lr 35 3 [1,1,1,1,1,1,1,0] 1 3 [(2,(.bool false))] (sl Kq 71 [] ⟨[],[],[some [2]],[]⟩ ⟨[],[],[]⟩ (trs 15 [false,false,false,false,false,false]) (tt k5 (tt k4 (tt k3 (tt k2 (tt k1 (tt k0 nn))))))))))) (fun k4=>(lr 35 3 [1,1,1,1,1,1,1,0] 1 3 [(2,(.bool false))] (sl Kq 71 [] ⟨[],[],[some [2]],[]⟩ ⟨[],[],[]⟩ (trs 13 [false,false,false,false,false,false,false,false]) (tt k4 (tt k3 (tt k2 (tt k1 (tt k0 nn)))))))))) (fun k3=>(lr 35 3 [1,1,1,1,1,1,1,0] 1 3 [(2,(.bool false))] (sl Kq 56 [] ⟨[],[],[some [2]],[]⟩ ⟨[],[],[]⟩ (trs 10 [false,false,false,false,false,false,false,false,false]) (tt k3 (tt k2 (tt k1 (tt k0 nn))))))))) (fun k2=>(lr 35 3 [1,1,1,1,1,1,1,0] 1 3 [(2,(.bool false))] (sl Kq 56 [] ⟨[],[],[some [2]],[]⟩ ⟨[],[],[]⟩ (trs 8 [false,false,false,false,false,false,false,false,false,false,false]) (tt k2 (tt k1 (tt k0 nn)))))))) (fun k1=>(lr 35 3 [1,1,1,1,1,1,1,0] 1 3 [(2,(.bool false))] (sl Kq 41 [] ⟨[],[],[some [2]],[]⟩ ⟨[],[],[]⟩ (trs 5 [false,false,false,false,false,false,false,false,false,false,false,false]) (tt k1 (tt k0 nn))))))) (fun k0=>(lr 35 3 [1,1,1,1,1,1,1,0] 1 3 [(2,(.bool false))] (sl Kq 41 [] ⟨[],[],[some [2]],[]⟩ ⟨[],[],[]⟩ [false,false,false,false,false,false,false,false,false,false,false,false,false,false,false,false,false] (tt k0 nn)))))
theorem v6e (aM:Int) (aL:Int) (aN:Int) (aV:Int) (n:Nat) (vs:List AVal) (h:Yv (x6h aM aL aN aV) n (y2a aM aL aN aV)=.ret vs):Jt prog (Zy prog 120) (Zc prog 120 [(.agg [(.int .i64 aM),(.int .i64 aL),(.int .i64 aN),(.int .i64 aV)])] true []) vs:=by have:=Ze (w4l aM aL aN aV) n _ (x6i aM aL aN aV);rwa [h] at this
inductive madS where
 | h0 (v16:Int) (aA:List Int)
 | h1 (v4:Int) (aQ:List R4) (bB:List R2) (bI:Int) (bJ:Int) (aX:Nat) (bH:List Int)
 | h2 (v4:Int) (v38:Int) (aQ:List R4) (bB:List R2) (bI:Int) (bJ:Int) (aX:Nat) (bH:List Int) (aC:Int) (cM:Int) (aO:List R2)
 | h3 (v1:Int) (v2:Int) (v71:List R2) (v72:Int) (v73:Int) (cD:List R2) (aU:Int) (aD:List R4) (aZ:List R2) (bA:Int) (aX:Nat) (bH:List Int) (aC:List R2)
 | h4 (v2:Int) (v8:Int) (cP:Int) (cD:List R2) (aU:Int) (aD:List R4) (aZ:List R2) (bA:Int) (bX:Int) (cJ:Nat) (cO:List Int) (aO:List R2)
abbrev y9e (aD:List R4) (v8:Int) (v2:Int):=(aD.set (0+(tn v8)) (R4.mk (rd aD (0+(tn v8))).a (rd aD (0+(tn v8))).b v2 (rd aD (0+(tn v8))).d))
abbrev y9d (aA:List Int):=(Wh (Yw aA.length (cOf (Zz (Xm (Yw aA.length (cOf (Zz aA))))))))
def u5j :AFr:=⟨⟨29,0,true⟩,none,(.inRangeFunc 0::(Zd prog 121 [1,1,0,1,0] 1)),none,(Zy prog 15),Yd [(2,.nils),(3,(ii 0)),(4,(.ptr 1 0))]⟩
def u5i :=(y7a [(0,⟨.ready,none,29,Yd [(4,(.ptr 1 0))],[11],(Vn prog 121 [1,1,0,1,0,0]),(Vn prog 121 [1,1,0,1,0,1])⟩)])
abbrev y9c (aO:List R2) (l0:List R4) (v38:Int):=(aO++[(R2.mk (rd l0 (tn v38)).b (rd l0 (tn v38)).d)])
abbrev y9b (aD:List R4) (v1:Int) (v71:List R2) (v73:Int) (v2:Int):=(aD++[(R4.mk v1 (rd v71 (tn v73)).a v2 (rd v71 (tn v73)).b)])
def x4k (l0:List R4):ABlk:=⟨[(.dat l0.length (Zz l0))],99,none⟩
abbrev y9a (aA:List Int) (l0:List R4) (v16:Int):=(aA++[(rd l0 (tn v16)).a,(rd l0 (tn v16)).c])
def madC (l0:List R4):madS→Cfg
 | .h0 v16 aA=>⟨⟨34,0,true⟩,none,(Zd prog 156 [1,1,0,1,0,0,1,1,0,0,1,1,0,0] 0),none,(Zy prog 3),⟨Yd [(1,(.ptr 0 0)),(3,(.ptr 2 0)),(8,(.sl 1 0 1 (.un 1))),(9,(ii 1)),(10,(ii 0)),(14,(.dat l0.length (Zz l0))),(15,(ii (l0.length:Int))),(16,(ii v16))],Uw [⟨[(.sl 1 0 1 (.un 1))],171,none⟩,(x4k l0),⟨[(.sla 4 1 0 aA.length (.un 1))],93,none⟩,⟨[.nils,.nils,(ii 0),(ii 0)],200,none⟩,⟨rows aA.length (Zz aA),3,some ⟨1,aA.length,(Zz aA)⟩⟩] 0,5,[],true⟩,[⟨⟨29,0,true⟩,(Jk prog 121 [1,1,0,0] 2),(Zd prog 121 [1,1,0,0] 1),none,(Zy prog 15),Yd [(2,.nils),(3,(ii 0)),(4,(.ptr 3 0)),(9,(.sl 1 0 1 (.un 1)))]⟩],.leaf⟩
 | .h1 v4 aQ bB bI bJ aX bH=>⟨⟨76,0,true⟩,none,(Zd prog 182 [1,0,0] 0),none,[],⟨Yd [(0,(.yld 0)),(1,(.ptr 2 0)),(2,(.ptr 4 0)),(4,(ii v4))],y1b [(1,⟨[(.sla 6 4 0 aQ.length (.un 4)),(.dat bB.length (Zz bB)),(ii bI),(ii bJ)],200,none⟩),(2,⟨[(.sla 3 1 0 aX (.un 1))],93,none⟩),(3,⟨rows bH.length (Zz bH),3,some ⟨1,bH.length,(Zz bH)⟩⟩),(4,⟨[(.sl 5 0 1 (.un 1))],171,none⟩),(5,(x4k l0)),(6,⟨rows aQ.length (Zz aQ),88,some ⟨4,aQ.length,(Zz aQ)⟩⟩)],7,[],true⟩,[u5j],u5i⟩
 | .h2 v4 v38 aQ bB bI bJ aX bH aC cM aO=>⟨⟨76,0,true⟩,none,(Zd prog 182 [1,0,0,1,0,0,1,0,1,0,0,1,1,0,0,1,1,0,0] 0),none,[],⟨Yd [(0,(.yld 0)),(1,(.ptr 2 0)),(2,(.ptr 4 0)),(4,(ii v4)),(5,(.ptr 6 0)),(6,(ii 0)),(29,(.sl 5 0 1 (.un 1))),(30,(ii 1)),(31,(ii 0)),(36,(.dat l0.length (Zz l0))),(37,(ii (l0.length:Int))),(38,(ii v38))],y1b [(1,⟨[(.sla 9 4 0 aQ.length (.un 4)),(.dat bB.length (Zz bB)),(ii bI),(ii bJ)],200,none⟩),(2,⟨[(.sla 3 1 0 aX (.un 1))],93,none⟩),(3,⟨rows bH.length (Zz bH),3,some ⟨1,bH.length,(Zz bH)⟩⟩),(4,⟨[(.sl 5 0 1 (.un 1))],171,none⟩),(5,(x4k l0)),(6,⟨[(ii aC),(ii cM),(.sl 7 0 1 (.ex 1))],205,none⟩),(7,⟨[(.sla 8 2 0 aO.length (.un 2))],180,none⟩),(8,⟨rows aO.length (Zz aO),183,some ⟨2,aO.length,(Zz aO)⟩⟩),(9,⟨rows aQ.length (Zz aQ),88,some ⟨4,aQ.length,(Zz aQ)⟩⟩)],10,[],true⟩,[u5j],u5i⟩
 | .h3 v1 v2 v71 v72 v73 cD aU aD aZ bA aX bH aC=>⟨⟨94,0,true⟩,none,(Zd prog 158 [1,1,1,0,0] 0),none,[],⟨Yd [(0,(.ptr 0 0)),(1,(ii v1)),(2,(ii v2)),(71,(.dat v71.length (Zz v71))),(72,(ii v72)),(73,(ii v73))],y1b [(0,⟨[(.sla 7 4 0 aD.length (.un 4)),(.dat aZ.length (Zz aZ)),(ii bA),(ii v2)],200,none⟩),(2,⟨[(.sla 3 1 0 aX (.un 1))],93,none⟩),(3,⟨rows bH.length (Zz bH),3,some ⟨1,bH.length,(Zz bH)⟩⟩),(4,⟨[(.sl 5 0 1 (.un 1))],171,none⟩),(5,(x4k l0)),(6,⟨[(.dat aC.length (Zz aC))],180,none⟩),(7,⟨rows aD.length (Zz aD),88,some ⟨4,aD.length,(Zz aD)⟩⟩)],8,[],true⟩,[⟨⟨29,0,true⟩,(Jk prog 121 [1,1,0,1,0,1,0,1] 5),(Zd prog 121 [1,1,0,1,0,1,0,1] 1),(some 1),[],Yd [(4,(.ptr 0 0)),(21,(ii v1)),(23,(ii v2)),(24,(.dat cD.length (Zz cD)))]⟩,⟨⟨76,0,true⟩,(Jk prog 182 [1,0,0,1,0,0,1,1,0] 2),(Zd prog 182 [1,0,0,1,0,0,1,1,0] 1),none,[],Yd [(0,(.yld 1)),(1,(.ptr 2 0)),(2,(.ptr 4 0)),(4,(ii aU)),(72,(.yld 1)),(73,(.agg [(ii v1),(ii v2),(.sl 6 0 1 (.ex 1))]))]⟩,⟨⟨29,0,true⟩,none,(.inRangeFunc 1::(Zd prog 121 [1,1,0,1,0] 1)),none,(Zy prog 15),Yd [(2,.nils),(3,(ii 0)),(4,(.ptr 0 0))]⟩],(y7a [(1,⟨.busy,none,29,Yd [(4,(.ptr 0 0))],[11],(Vn prog 121 [1,1,0,1,0,0]),(Vn prog 121 [1,1,0,1,0,1])⟩)])⟩
 | .h4 v2 v8 cP cD aU aD aZ bA bX cJ cO aO=>⟨⟨94,0,true⟩,none,(Zd prog 158 [0,1,0,0,1,0,0] 0),none,[],⟨Yd [(0,(.ptr 0 0)),(2,(ii v2)),(8,(ii v8))],y1b [(0,⟨[(.sla 1 4 0 aD.length (.un 4)),(.dat aZ.length (Zz aZ)),(ii bA),(ii bX)],200,none⟩),(1,⟨rows aD.length (Zz aD),88,some ⟨4,aD.length,(Zz aD)⟩⟩),(3,⟨[(.sla 4 1 0 cJ (.un 1))],93,none⟩),(4,⟨rows cO.length (Zz cO),3,some ⟨1,cO.length,(Zz cO)⟩⟩),(5,⟨[(.sl 6 0 1 (.un 1))],171,none⟩),(6,(x4k l0)),(7,⟨[(.dat aO.length (Zz aO))],180,none⟩)],8,[],true⟩,[⟨⟨29,0,true⟩,(Jk prog 121 [1,1,0,1,0,1,0,1] 5),(Zd prog 121 [1,1,0,1,0,1,0,1] 1),(some 2),[],Yd [(4,(.ptr 0 0)),(21,(ii cP)),(23,(ii v2)),(24,(.dat cD.length (Zz cD)))]⟩,⟨⟨76,0,true⟩,(Jk prog 182 [1,0,0,1,0,0,1,1,0] 2),(Zd prog 182 [1,0,0,1,0,0,1,1,0] 1),none,[],Yd [(0,(.yld 2)),(1,(.ptr 3 0)),(2,(.ptr 5 0)),(4,(ii aU)),(72,(.yld 2)),(73,(.agg [(ii cP),(ii v2),(.sl 7 0 1 (.ex 1))]))]⟩,⟨⟨29,0,true⟩,none,(.inRangeFunc 2::(Zd prog 121 [1,1,0,1,0] 1)),none,(Zy prog 15),Yd [(2,.nils),(3,(ii 0)),(4,(.ptr 0 0))]⟩],(y7a [(2,⟨.busy,none,29,Yd [(4,(.ptr 0 0))],[11],(Vn prog 121 [1,1,0,1,0,0]),(Vn prog 121 [1,1,0,1,0,1])⟩)])⟩
def madN0 :List (Option (List Nat)):=[some [1,3,8,9,10,14,15,16],some [2,3,4,9]]
def madM0 :List (Option (List Nat)):=[]
def j0c :List (Option (List Nat)):=[some [0,1,2,4],some [2,3,4]]
def j0d :List (Option (List Nat)):=[some [4],none,none,none,none,none,none]
def v9l :List (Option (List Nat)):=[some [0,1,2,4,5,6,29,30,31,36,37,38],some [2,3,4]]
def v9n :List (Option (List Nat)):=[some [4],none,none,none,none,none,none,none,none,none]
def v9k :List (Option (List Nat)):=[some [0,1,2,71,72,73],some [4,21,23,24],some [0,1,2,4,72,73],some [2,3,4]]
def v9m :List (Option (List Nat)):=[none,some [4],none,none,none,none,none,none]
def madN4 :List (Option (List Nat)):=[some [0,2,8],some [4,21,23,24],some [0,1,2,4,72,73],some [2,3,4]]
def madM4 :List (Option (List Nat)):=[none,none,some [4],none,none,none,none,none]
def Xh (l0:List R4):madS→Xb madS
 | .h0 v16 aA=>(bif (decide (v16<(l0.length:Int))) then (bif ((decide (0≤v16∧v16<(l0.length:Int)))&&true) then (bif (Nat.beq 1 1&&((decide (0+aA.length=aA.length))&&decide ((aA.length+2+1)*(8+1)≤Ju))) then (.to (.h0 (IntKind.wrap .i64 (v16+1)) (aA++[(rd l0 v16.toNat).a,(rd l0 v16.toNat).c]))) else .stuck) else .stuck) else (bif (decide (aA.length<4611686018427387904)) then (bif (decide (aA.length=aA.length)) then (.to (.h1 1 ([]:List R4) ([]:List R2) 0 0 (w8q (Yw aA.length (cOf (Zz (Xm (Yw aA.length (cOf (Zz aA)))))))) (Wh (Yw aA.length (cOf (Zz (Xm (Yw aA.length (cOf (Zz aA)))))))))) else .stuck) else .stuck))
 | .h1 v4 aQ bB bI bJ aX bH=>(bif (decide (v4<((aX:Nat):Int))) then (bif ((decide (0≤(IntKind.wrap .i64 (v4 - 1))∧(IntKind.wrap .i64 (v4 - 1))<((aX:Nat):Int)))&&true) then (bif (decide ((0+(Int.toNat (IntKind.wrap .i64 (v4 - 1))))<bH.length)) then (bif ((decide (0≤v4∧v4<((aX:Nat):Int)))&&true) then (bif (decide ((0+v4.toNat)<bH.length)) then (.to (.h2 v4 0 aQ bB bI bJ aX bH (rd bH (0+(Int.toNat (IntKind.wrap .i64 (v4 - 1))))) (rd bH (0+v4.toNat)) ([]:List R2))) else .stuck) else .stuck) else .stuck) else .stuck) else (bif (decide ((aQ.length:Int)>400)) then (.ret [.nils,(.int .i64 4)]) else (.ret [(.dat aQ.length (Zz aQ)),(.int .i64 0)])))
 | .h2 v4 v38 aQ bB bI bJ aX bH aC cM aO=>(bif (decide (v38<(l0.length:Int))) then (bif ((decide (0≤v38∧v38<(l0.length:Int)))&&true) then (bif (decide ((rd l0 v38.toNat).a ≤aC)) then (bif (decide (aC<(rd l0 v38.toNat).c)) then (bif (Nat.beq 2 2&&((decide (0+aO.length=aO.length))&&decide ((aO.length+1+1)*(16+1)≤Ju))) then (.to (.h2 v4 (IntKind.wrap .i64 (v38+1)) aQ bB bI bJ aX bH aC cM (aO++[(R2.mk (rd l0 v38.toNat).b (rd l0 v38.toNat).d)]))) else .stuck) else (.to (.h2 v4 (IntKind.wrap .i64 (v38+1)) aQ bB bI bJ aX bH aC cM aO))) else (.to (.h2 v4 (IntKind.wrap .i64 (v38+1)) aQ bB bI bJ aX bH aC cM aO))) else .stuck) else (bif (y3y (cvT aO)) then (bif (decide ((((Xd (cvT aO)).length :Nat):Int)>0)) then (bif (bJ == aC) then (bif (Vf (cvT bB) (cvT (Xd (cvT aO)))) then (bif (Qz (cvT bB) (cvT (Xd (cvT aO)))) then (.to (.h4 cM bI aC (Xd (cvT aO)) v4 aQ bB bI bJ aX bH aO)) else (.to (.h3 aC cM (Xd (cvT aO)) (((Xd (cvT aO)).length :Nat):Int) 0 (Xd (cvT aO)) v4 aQ (Xd (cvT aO)) (aQ.length:Int) aX bH aO))) else .stuck) else (.to (.h3 aC cM (Xd (cvT aO)) (((Xd (cvT aO)).length :Nat):Int) 0 (Xd (cvT aO)) v4 aQ (Xd (cvT aO)) (aQ.length:Int) aX bH aO))) else (.to (.h3 aC cM (Xd (cvT aO)) (((Xd (cvT aO)).length :Nat):Int) 0 (Xd (cvT aO)) v4 aQ (Xd (cvT aO)) (aQ.length:Int) aX bH aO))) else .stuck))
 | .h3 v1 v2 v71 v72 v73 cD aU aD aZ bA aX bH aC=>(bif (decide (v73<v72)) then (bif ((decide (0≤v73∧v73<(v71.length:Int)))&&true) then (bif (Nat.beq 4 4&&((decide (0+aD.length=aD.length))&&decide ((aD.length+1+1)*(32+1)≤Ju))) then (.to (.h3 v1 v2 v71 v72 (IntKind.wrap .i64 (v73+1)) cD aU (aD++[(R4.mk v1 (rd v71 v73.toNat).a v2 (rd v71 v73.toNat).b)]) aZ bA aX bH aC)) else .stuck) else .stuck) else (.to (.h1 (IntKind.wrap .i64 (aU+1)) aD aZ bA v2 aX bH)))
 | .h4 v2 v8 cP cD aU aD aZ bA bX cJ cO aO=>(bif (decide (v8<(aD.length:Int))) then (bif ((decide (0≤v8∧v8<(aD.length:Int)))&&true) then (bif (decide ((0+v8.toNat)<aD.length)) then (.to (.h4 v2 (IntKind.wrap .i64 (v8+1)) cP cD aU (aD.set (0+v8.toNat) (R4.mk (rd aD (0+v8.toNat)).a (rd aD (0+v8.toNat)).b v2 (rd aD (0+v8.toNat)).d)) aZ bA bX cJ cO aO)) else .stuck) else .stuck) else (.to (.h1 (IntKind.wrap .i64 (aU+1)) aD aZ bA v2 cJ cO)))
def x1m (l0:List R4):Xb madS:=(.to (.h0 0 ([]:List Int)))
theorem w6q (l0:List R4): ∀s,Xv prog (Zy prog 121) (madC l0) (madC l0 s) (Xh l0 s)
 | .h0 v16 aA=>(lb (fun k0=>(lo fun o0=>(lo fun o1=>(sl Kq 32 [] ⟨[0,1,2,3,7],[],madN0,madM0⟩ ⟨[],[.keep,.keep,.cells [.len (y9a aA l0 v16).length],.keep,.rowed 1 (y9a aA l0 v16).length (Zz (y9a aA l0 v16))],[]⟩ [true] (pp (xL (aA.length+2) (y9a aA l0 v16).length) (pp (xL (aA.length+2) (y9a aA l0 v16).length) (pp (xS (aA.length+2) (Zi (Zz aA) 0 aA.length 1 [(ii (rd l0 (tn v16)).a),(ii (rd l0 (tn v16)).c)]) (Zz (y9a aA l0 v16))) (pp (pp (xF (Zi (Zz aA) 0 aA.length 1 [(ii (rd l0 (tn v16)).a),(ii (rd l0 (tn v16)).c)])) nn) (ww o1 (ww o0 (tt k0 nn))))))))))) (fun k0=>(lo fun o0=>(lo fun o1=>(sl Kq 46 [(88,4,Zz ([]:List R4))] ⟨[5,3,2,4,0,1,6],[],j0c,j0d⟩ ⟨[],[.keep,.cells [.grow 6 4,.list 0 (Zz ([]:List R2)),.keep,.keep],.keep,.rowed 1 (y9d aA).length (Zz (y9d aA)),.keep,.keep,.keep],[]⟩ (bl 2 0) (pp (xL aA.length (y9d aA).length (by first | exact z2a _ _ | exact Vy rfl)) (pp (xS aA.length (Zz (y9d aA)) (Zz (y9d aA))) (pp (fl (y9d aA) (fl ([]:List R4) nn)) (pp (pp (xG (Nat.beq 1 1)) (pp (xG (Nat.beq 1 1)) (pp (xG (Nat.beq 0 0)) (pp (xG (decide (aA.length=aA.length))) (pp (xG (isI (Zz (Xm (Yw aA.length (cOf (Zz aA))))))) (xG (decide (aA.length<4611686018427387904)))))))) (pp (pp (xG (Nat.beq 1 1)) (pp (xG (Nat.beq 1 1)) (pp (xG (Nat.beq 0 0)) (pp (xG (decide (aA.length=aA.length))) (pp (xG (isI (Zz aA))) (xG (decide (aA.length<4611686018427387904)))))))) (tt k0 nn)))))))))))
 | .h1 v4 aQ bB bI bJ aX bH=>(lb (fun k0=>(lo fun o0=>(lo fun o1=>(lo fun o2=>(lo fun o3=>(sl Kq 48 [(183,2,Zz ([]:List R2))] ⟨[0,1,2,3,4,5,7,8,9,6],[],v9l,v9n⟩ ⟨[],(kpB 7 [.cells [.grow 8 2],.keep,.keep]),[]⟩ (trs 3 []) (pp (fl bH (fl ([]:List R2) (fl aQ nn))) (ww o3 (ww o2 (ww o1 (ww o0 (tt k0 nn)))))))))))) (fun k0=>(lb (fun k1=>(lr 29 3 [1,1,1,1,1,1,1,0] 1 15 [(2,.nils),(3,(ii 4))] (sl Kq 43 [] ⟨[],[],[some [2,3]],[]⟩ ⟨[],[],[]⟩ (bl 2 2) (tt k1 (tt k0 nn))))) (fun k1=>(lr 29 3 [1,1,1,1,1,1,1,0] 1 15 [(2,(.dat aQ.length (Zz aQ))),(3,(ii 0))] (sl Kq 48 [] ⟨[],[6],[some [2,3]],[]⟩ ⟨[(2,.frz aQ.length aQ.length (Zz aQ) (Zz aQ))],[],[]⟩ (bl 2 0) (pp (xZ (z6q 4 4 0 aQ.length aQ.length (Zz aQ)) aQ.length (Zz aQ)) (pp (xL aQ.length aQ.length) (pp (xS aQ.length (Zz aQ) (Zz aQ)) (pp (fl aQ nn) (tt k1 (tt k0 nn))))))))))))
 | .h2 v4 v38 aQ bB bI bJ aX bH aC cM aO=>(lb (fun k0=>(lo fun aF=>(lb (fun k1=>(lb (fun k2=>(lo fun o0=>(sl Kq 39 [] ⟨[0,1,2,3,4,5,6,7,12,9],[],v9l,v9n⟩ ⟨[],(kpB 7 [.cells [.len (y9c aO l0 v38).length],.rowed 2 (y9c aO l0 v38).length (Zz (y9c aO l0 v38)),.keep]),[]⟩ (trs 7 []) (pp (xL (aO.length+1) (y9c aO l0 v38).length) (pp (xL (aO.length+1) (y9c aO l0 v38).length) (pp (xS (aO.length+1) (Zi (Zz aO) 0 aO.length 2 [(ii (rd l0 (tn v38)).b),(ii (rd l0 (tn v38)).d)]) (Zz (y9c aO l0 v38))) (pp (fl bH (pp (xF (Zi (Zz aO) 0 aO.length 2 [(ii (rd l0 (tn v38)).b),(ii (rd l0 (tn v38)).d)])) (fl aQ nn))) (ww o0 (tt k2 (tt k1 (ww aF (tt k0 nn)))))))))))) (fun k2=>(sl Kq 39 [] ⟨(List.range 10),[],v9l,v9n⟩ ⟨[],[],[]⟩ (trs 6 [false]) (pp (fl bH (fl aO (fl aQ nn))) (tt k2 (tt k1 (ww aF (tt k0 nn))))))))) (fun k1=>(sl Kq 39 [] ⟨(List.range 10),[],v9l,v9n⟩ ⟨[],[],[]⟩ (bl 7 1) (pp (fl bH (fl aO (fl aQ nn))) (tt k1 (ww aF (tt k0 nn))))))))) (fun k0=>(Ws (sl Kq (C':=⟨⟨29,0,true⟩,(Jk prog 121 [1,1,0,1,0,1,0,0] 4),(Zd prog 121 [1,1,0,1,0,1,0,0] 1),(some 0),[],⟨Yd [(4,(.ptr 1 0)),(5,(.ptr 3 0)),(16,(.dat aO.length (Zz aO)))],y1b [(1,⟨[(.sla 2 4 0 aQ.length (.un 4)),(.dat bB.length (Zz bB)),(ii bI),(ii bJ)],200,none⟩),(2,⟨rows aQ.length (Zz aQ),88,some ⟨4,aQ.length,(Zz aQ)⟩⟩),(3,⟨[(ii aC),(ii cM),(.sl 4 0 1 (.ex 1))],205,none⟩),(4,⟨[(.dat aO.length (Zz aO))],180,none⟩),(5,⟨[(.sla 6 1 0 aX (.un 1))],93,none⟩),(6,⟨rows bH.length (Zz bH),3,some ⟨1,bH.length,(Zz bH)⟩⟩),(7,⟨[(.sl 8 0 1 (.un 1))],171,none⟩),(8,⟨[(.dat l0.length (Zz l0))],99,none⟩)],9,[],true⟩,[⟨⟨76,0,true⟩,(Jk prog 182 [1,0,0,1,0,0,1,1,0] 2),(Zd prog 182 [1,0,0,1,0,0,1,1,0] 1),none,[],Yd [(0,(.yld 0)),(1,(.ptr 5 0)),(2,(.ptr 7 0)),(4,(ii v4)),(72,(.yld 0)),(73,(.agg [(ii aC),(ii cM),(.sl 4 0 1 (.ex 1))]))]⟩,⟨⟨29,0,true⟩,none,(.inRangeFunc 0::(Zd prog 121 [1,1,0,1,0] 1)),none,(Zy prog 15),Yd [(2,.nils),(3,(ii 0)),(4,(.ptr 1 0))]⟩],(y7a [(0,⟨.busy,none,29,Yd [(4,(.ptr 1 0))],[11],(Vn prog 121 [1,1,0,1,0,0]),(Vn prog 121 [1,1,0,1,0,1])⟩)])⟩) 37 [] ⟨[0,1,9,10,7,2,3,4,5],[8],[some [4,5,16],some [0,1,2,4,72,73],some [2,3,4]],[some [4],none,none,none,none,none,none,none,none]⟩ ⟨[(16,.frz aO.length aO.length (Zz aO) (Zz aO))],[.keep,.keep,.keep,.keep,.cells [.frz aO.length aO.length (Zz aO) (Zz aO)],.keep,.keep,.keep,.keep],[]⟩ (bl 2 0) (pp (xZ (z6q 2 2 0 aO.length aO.length (Zz aO)) aO.length (Zz aO)) (pp (xL aO.length aO.length) (pp (xS aO.length (Zz aO) (Zz aO)) (pp (xZ (z6q 2 2 0 aO.length aO.length (Zz aO)) aO.length (Zz aO)) (pp (xL aO.length aO.length) (pp (xS aO.length (Zz aO) (Zz aO)) (pp (fl aQ (fl bH nn)) (pp (fl aO nn) (tt k0 nn)))))))))) (lo fun aF=>(lb (fun k1=>(lb (fun k2=>(lo fun cK=>(lb (fun k3=>(sl Kq 49 [] ⟨[1,2,0,5,6,7,8,4],[],madN4,madM4⟩ ⟨[],[],[]⟩ (trs 13 []) (pp (fl aQ (fl bH nn)) (tt k3 (pp (pp (xr bB) (pp (xI R2 (Xd (cvT aO)).length (Zz (Xd (cvT aO)))) (xw cK))) (tt k2 (tt k1 (pp (pp (xr aO) (xw aF)) nn)))))))) (fun k3=>(sl Kq 69 [] ⟨[1,0,5,6,7,8,4,2],[],v9k,v9m⟩ ⟨[],[],[]⟩ (trs 12 [false]) (pp (fl bH (fl aQ nn)) (tt k3 (pp (pp (xr bB) (pp (xI R2 (Xd (cvT aO)).length (Zz (Xd (cvT aO)))) (xw cK))) (tt k2 (tt k1 (pp (pp (xr aO) (xw aF)) nn))))))))))) (fun k2=>(sl Kq 69 [] ⟨[1,0,5,6,7,8,4,2],[],v9k,v9m⟩ ⟨[],[],[]⟩ (trs 6 (bl 7 0)) (pp (fl bH (fl aQ nn)) (tt k2 (tt k1 (pp (pp (xr aO) (xw aF)) nn)))))))) (fun k1=>(sl Kq 69 [] ⟨[1,0,5,6,7,8,4,2],[],v9k,v9m⟩ ⟨[],[],[]⟩ (bl 13 0) (pp (fl bH (fl aQ nn)) (tt k1 (pp (pp (xr aO) (xw aF)) nn))))))))))
 | .h3 v1 v2 v71 v72 v73 cD aU aD aZ bA aX bH aC=>(lb (fun k0=>(lo fun o0=>(lo fun o1=>(sl Kq 23 [] ⟨[0,1,2,3,4,5,6,10],[],v9k,v9m⟩ ⟨[],[.cells [.len (y9b aD v1 v71 v73 v2).length,.keep,.keep,.keep],.keep,.keep,.keep,.keep,.keep,.keep,.rowed 4 (y9b aD v1 v71 v73 v2).length (Zz (y9b aD v1 v71 v73 v2))],[]⟩ [true] (pp (xL (aD.length+1) (y9b aD v1 v71 v73 v2).length) (pp (xL (aD.length+1) (y9b aD v1 v71 v73 v2).length) (pp (xS (aD.length+1) (Zi (Zz aD) 0 aD.length 4 [(ii v1),(ii (rd v71 (tn v73)).a),(ii v2),(ii (rd v71 (tn v73)).b)]) (Zz (y9b aD v1 v71 v73 v2))) (pp (fl bH (pp (xF (Zi (Zz aD) 0 aD.length 4 [(ii v1),(ii (rd v71 (tn v73)).a),(ii v2),(ii (rd v71 (tn v73)).b)])) nn)) (ww o1 (ww o0 (tt k0 nn))))))))))) (fun k0=>(sl Kq 22 [] ⟨[1,0,2,3,4,5,7],[],j0c,j0d⟩ ⟨[],[],[]⟩ (bl 2 0) (pp (fl bH (fl aD nn)) (tt k0 nn)))))
 | .h4 v2 v8 cP cD aU aD aZ bA bX cJ cO aO=>(lb (fun k0=>(lo fun o0=>(lo fun o1=>(sl Kq 33 [] ⟨(List.range 8),[],madN4,madM4⟩ ⟨[],[.cells [.len (y9e aD v8 v2).length,.keep,.keep,.keep],.rowed 4 (y9e aD v8 v2).length (Zz (y9e aD v8 v2)),.keep,.keep,.keep,.keep,.keep,.keep],[]⟩ [true] (pp (xL aD.length (y9e aD v8 v2).length) (pp (xL aD.length (y9e aD v8 v2).length) (pp (xS aD.length (Xi (Zz aD) (0+(tn v8)) 2 [(ii v2)]) (Zz (y9e aD v8 v2))) (pp (pp (xF (Xi (Zz aD) (0+(tn v8)) 2 [(ii v2)])) (fl cO nn)) (ww o1 (ww o0 (tt k0 nn))))))))))) (fun k0=>(sl Kq 36 [] ⟨[2,0,3,4,5,6,1],[],j0c,j0d⟩ ⟨[],[],[]⟩ (bl 2 0) (pp (fl cO (fl aD nn)) (tt k0 nn)))))
theorem x8v (l0:List R4):Xv prog (Zy prog 121) (madC l0) (Zc prog 121 [(.dat l0.length (Zz l0))] true []) (x1m l0):=(sl Kq 56 [(3,1,Zz ([]:List Int))] ⟨[2,1,3,0,4],[],madN0,madM0⟩ ⟨[],[.keep,.keep,.cells [.grow 4 1],.keep,.keep],[]⟩ [true] (pp (fl ([]:List Int) nn) nn))
theorem v9j (l0:List R4) (n:Nat) (vs:List AVal) (h:Yv (Xh l0) n (x1m l0)=.ret vs):Jt prog (Zy prog 121) (Zc prog 121 [(.dat l0.length (Zz l0))] true []) vs:=by have:=Ze (w6q l0) n _ (x8v l0);rwa [h] at this
end Go.Am
end
