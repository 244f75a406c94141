/- A part of a proof: several texts in one. -/
import Derived.Test.YtmanggcjimaehaaGreatLh2
import Derived.Sort.AssemblyPlain
import Derived.Lib.BitFns
import Derived.Shelf.GgSortFunc.InsertionK
import Derived.Shelf.Sort.Plain
import Derived.Ground.Names2Prog
import Derived.Shelf.Slices.CompactI
import Derived.Shelf.Slices.SearchI
import Derived.Shelf.Slices.Cells
import Derived.Shelf.Slices.In.SortNone
import Derived.Shelf.SlSortCmp.WholeK
import Derived.Ground.SlsfProg
import Derived.Test.YtmanggcjimaehaaGreatProg
import Derived.Shelf.SlSortCmp.NoneTotal
set_option maxRecDepth 1000000
set_option maxHeartbeats 8000000
set_option linter.unusedVariables false
set_option linter.unusedSimpArgs false
noncomputable section
namespace Go.Am
open IntKind (wrap)
open Go.Proofs.Tryz
open Go.Proofs
inductive rsortS where
 | h0 (v3:List Int) (v4:Int)
 | h1 (v3:List Int) (v4:Int) (v5:Int)
abbrev Jg (v3:List Int) (v5:Int) (l0:List Int) (v4:Int):=((v5a (v3++[0]) (0+(tn (wr (v5+1)))) (Nat.min ((v3.length+1) - (tn v5)) ((v3.length+1) - (tn (wr (v5+1))))) (y1o (v3++[0]) (0+(tn v5)) ((v3.length+1) - (tn v5)))).set (0+(tn v5)) (rd l0 (tn v4)))
abbrev Kr (v3:List Int):=(Ze (Zz v3) 0 v3.length 1 [(ii 0)])
abbrev y2n (v3:List Int) (v5:Int):=(Nat.min ((v3.length+1) - (tn v5)) ((v3.length+1) - (tn (wr (v5+1)))))
def v0r (l0:List Int):rsortS→Cfg
 | .h0 v3 v4=>⟨⟨63,0,true⟩,none,(Zb prog 70 [1,1,0,1,0,0] 0),none,(Zy prog 3),⟨Yg [(0,(.dat l0.length (Zz l0))),(3,(.sla 0 1 0 v3.length (.un 1))),(4,(ii v4))],Wh [⟨Yx v3.length (Zz v3),3,some ⟨1,v3.length,(Zz v3)⟩⟩] 0,1,[],true⟩,[],.leaf⟩
 | .h1 v3 v4 v5=>⟨⟨63,0,true⟩,none,(Zb prog 70 [1,1,0,1,0,0,1,0,0,1,0,0,0] 0),none,(Zy prog 3),⟨Yg [(0,(.dat l0.length (Zz l0))),(3,(.sla 0 1 0 v3.length (.un 1))),(4,(ii v4)),(5,(ii v5))],Wh [⟨Yx v3.length (Zz v3),3,some ⟨1,v3.length,(Zz v3)⟩⟩] 0,1,[],true⟩,[],.leaf⟩
def x0l :List (Option (List Nat)):=[some [0,3,4]]
def x0m :List (Option (List Nat)):=[]
def v0p :List (Option (List Nat)):=[some [0,3,4,5]]
def v0q :List (Option (List Nat)):=[]
def Vc (l0:List Int):rsortS→Xv rsortS
 | .h0 v3 v4=>(bif (decide (v4<(l0.length:Int))) then (.to (.h1 v3 v4 (v3.length:Int))) else (.ret [(.dat v3.length (Zz v3))]))
 | .h1 v3 v4 v5=>(bif (decide (v5>0)) then (bif ((decide (0≤(wrap .i64 (v5 - 1))∧(wrap .i64 (v5 - 1))<(v3.length:Int)))&&true) then (bif (decide ((0+(Int.toNat (wrap .i64 (v5 - 1))))<v3.length)) then (bif ((decide (0≤v4∧v4<(l0.length:Int)))&&true) then (bif (decide ((rd v3 (0+(Int.toNat (wrap .i64 (v5 - 1)))))>(rd l0 v4.toNat))) then (.to (.h1 v3 v4 (wrap .i64 (v5 - 1)))) else (bif ((rd v3 (0+(Int.toNat (wrap .i64 (v5 - 1))))) == (rd l0 v4.toNat)) then (.to (.h0 v3 (wrap .i64 (v4+1)))) else (bif (Nat.beq 1 1&&((decide (0+v3.length=v3.length))&&decide ((v3.length+1+1)*(8+1)≤Uw))) then (bif (true&&((decide (0≤(wrap .i64 (v5+1))))&&(decide ((v3.length+1)≤(v3.length+1))&&decide ((Int.toNat (wrap .i64 (v5+1)))≤(v3.length+1))))) then (bif (true&&((decide (0≤v5))&&(decide ((v3.length+1)≤(v3.length+1))&&decide (v5.toNat≤(v3.length+1))))) then (bif (decide ((0+v5.toNat)+((v3.length+1) - v5.toNat)≤(v3.length+1))) then (bif (decide ((0+(Int.toNat (wrap .i64 (v5+1))))+((v3.length+1) - (Int.toNat (wrap .i64 (v5+1))))≤(v3.length+1))) then (bif ((decide (0≤v5∧v5<(((v3.length+1):Nat):Int)))&&true) then (bif (decide ((0+v5.toNat)<(v3.length+1))) then (.to (.h0 ((v5a (v3++[0]) (0+(Int.toNat (wrap .i64 (v5+1)))) (Nat.min ((v3.length+1) - v5.toNat) ((v3.length+1) - (Int.toNat (wrap .i64 (v5+1))))) (y1o (v3++[0]) (0+v5.toNat) ((v3.length+1) - v5.toNat))).set (0+v5.toNat) (rd l0 v4.toNat)) (wrap .i64 (v4+1)))) else .stuck) else .stuck) else .stuck) else .stuck) else .stuck) else .stuck) else .stuck))) else .stuck) else .stuck) else .stuck) else (bif (Nat.beq 1 1&&((decide (0+v3.length=v3.length))&&decide ((v3.length+1+1)*(8+1)≤Uw))) then (bif (true&&((decide (0≤(wrap .i64 (v5+1))))&&(decide ((v3.length+1)≤(v3.length+1))&&decide ((Int.toNat (wrap .i64 (v5+1)))≤(v3.length+1))))) then (bif (true&&((decide (0≤v5))&&(decide ((v3.length+1)≤(v3.length+1))&&decide (v5.toNat≤(v3.length+1))))) then (bif (decide ((0+v5.toNat)+((v3.length+1) - v5.toNat)≤(v3.length+1))) then (bif (decide ((0+(Int.toNat (wrap .i64 (v5+1))))+((v3.length+1) - (Int.toNat (wrap .i64 (v5+1))))≤(v3.length+1))) then (bif ((decide (0≤v4∧v4<(l0.length:Int)))&&true) then (bif ((decide (0≤v5∧v5<(((v3.length+1):Nat):Int)))&&true) then (bif (decide ((0+v5.toNat)<(v3.length+1))) then (.to (.h0 ((v5a (v3++[0]) (0+(Int.toNat (wrap .i64 (v5+1)))) (Nat.min ((v3.length+1) - v5.toNat) ((v3.length+1) - (Int.toNat (wrap .i64 (v5+1))))) (y1o (v3++[0]) (0+v5.toNat) ((v3.length+1) - v5.toNat))).set (0+v5.toNat) (rd l0 v4.toNat)) (wrap .i64 (v4+1)))) else .stuck) else .stuck) else .stuck) else .stuck) else .stuck) else .stuck) else .stuck) else .stuck))
def z5a (l0:List Int):Xv rsortS:=(.to (.h0 ([]:List Int) 0))
theorem x2x (l0:List Int): ∀s,Yt prog (Zy prog 70) (v0r l0) (v0r l0 s) (Vc l0 s)
 | .h0 v3 v4=>(lb (fun k0=>(sl Zm 21 [] ⟨[0],[],v0p,v0q⟩ ⟨[],[],[]⟩ [true] (pp (fl v3 nn) (tt k0 nn)))) (fun k0=>(lr 63 3 [1,1,1,1,1,1,1,0] 1 3 [(2,(.dat v3.length (Zz v3)))] (sl Zm 15 [] ⟨[],[0],[some [2]],[]⟩ ⟨[(2,.frz v3.length v3.length (Zz v3) (Zz v3))],[],[]⟩ [false] (pp (xZ (z1p 1 1 0 v3.length v3.length (Zz v3)) v3.length (Zz v3)) (pp (xL v3.length v3.length) (pp (xS v3.length (Zz v3) (Zz v3)) (pp (fl v3 nn) (tt k0 nn)))))))))
 | .h1 v3 v4 v5=>(lb (fun k0=>(lo fun aG=>(lo fun aU=>(lo fun bR=>(lb (fun k1=>(sl Zm 13 [] ⟨[0],[],v0p,v0q⟩ ⟨[],[],[]⟩ (trs 11 []) (pp (fl v3 nn) (tt k1 (ww bR (ww aU (ww aG (tt k0 nn)))))))) (fun k1=>(lb (fun k2=>(sl Zm 16 [] ⟨[0],[],x0l,x0m⟩ ⟨[],[],[]⟩ (trs 10 (bl 12 4094)) (pp (fl v3 nn) (tt k2 (ww bR (ww aU (ww aG (tt k0 (tt k1 (ww bR (ww aU (ww aG (tt k0 nn))))))))))))) (fun k2=>(lo fun o0=>(lo fun o1=>(lo fun o2=>(lo fun o3=>(lo fun o4=>(lo fun o5=>(lo fun o6=>(sl Zm 36 [] ⟨[2],[],x0l,x0m⟩ ⟨[(3,.len (Jg v3 v5 l0 v4).length)],[.rowed 1 (Jg v3 v5 l0 v4).length (Zz (Jg v3 v5 l0 v4))],[]⟩ (trs 10 (bl 12 2046)) (pp (xL (v3.length+1) (Jg v3 v5 l0 v4).length) (pp (xL (v3.length+1) (Jg v3 v5 l0 v4).length) (pp (xS (v3.length+1) (Xo (Ue (Kr v3) (0+(tn (wr (v5+1)))) (y2n v3 v5) (fun k=>(Kr v3) ((0+(tn v5))+k))) (0+(tn v5)) 0 [(ii (rd l0 (tn v4)))]) (Zz (Jg v3 v5 l0 v4))) (pp (pp (xF (Xo (Ue (Kr v3) (0+(tn (wr (v5+1)))) (y2n v3 v5) (fun k=>(Kr v3) ((0+(tn v5))+k))) (0+(tn v5)) 0 [(ii (rd l0 (tn v4)))])) nn) (ww o6 (ww o5 (ww bR (pp (pp (xG (Nat.beq 1 1)) (pp (xG (Nat.beq 1 1)) (pp (xw o4) (pp (xG (Nat.beq 1 1)) (pp (xG (Nat.beq 1 1)) (pp (xG (decide ((0+(tn v5))+((v3.length+1) - (tn v5))≤(v3.length+1)))) (xG (x1q 1 ((v3.length+1) - (tn v5)) (fun k=>(Kr v3) ((0+(tn v5))+k)))))))))) (ww o2 (ww o1 (ww o0 (tt k2 (ww bR (ww aU (ww aG (tt k0 (tt k1 (ww bR (ww aU (ww aG (tt k0 nn))))))))))))))))))))))))))))))))))))) (fun k0=>(lo fun o0=>(lo fun o1=>(lo fun o2=>(lo fun o3=>(lo fun o4=>(lo fun o5=>(lo fun o6=>(lo fun o7=>(sl Zm 36 [] ⟨[2],[],x0l,x0m⟩ ⟨[(3,.len (Jg v3 v5 l0 v4).length)],[.rowed 1 (Jg v3 v5 l0 v4).length (Zz (Jg v3 v5 l0 v4))],[]⟩ (bl 22 0) (pp (xL (v3.length+1) (Jg v3 v5 l0 v4).length) (pp (xL (v3.length+1) (Jg v3 v5 l0 v4).length) (pp (xS (v3.length+1) (Xo (Ue (Kr v3) (0+(tn (wr (v5+1)))) (y2n v3 v5) (fun k=>(Kr v3) ((0+(tn v5))+k))) (0+(tn v5)) 0 [(ii (rd l0 (tn v4)))]) (Zz (Jg v3 v5 l0 v4))) (pp (pp (xF (Xo (Ue (Kr v3) (0+(tn (wr (v5+1)))) (y2n v3 v5) (fun k=>(Kr v3) ((0+(tn v5))+k))) (0+(tn v5)) 0 [(ii (rd l0 (tn v4)))])) nn) (ww o7 (ww o6 (ww o5 (pp (pp (xG (Nat.beq 1 1)) (pp (xG (Nat.beq 1 1)) (pp (xw o4) (pp (xG (Nat.beq 1 1)) (pp (xG (Nat.beq 1 1)) (pp (xG (decide ((0+(tn v5))+((v3.length+1) - (tn v5))≤(v3.length+1)))) (xG (x1q 1 ((v3.length+1) - (tn v5)) (fun k=>(Kr v3) ((0+(tn v5))+k)))))))))) (ww o2 (ww o1 (ww o0 (tt k0 (tt k0 nn))))))))))))))))))))))))
theorem x0k (l0:List Int):Yt prog (Zy prog 70) (v0r l0) (Za prog 70 [(.dat l0.length (Zz l0))] true []) (z5a l0):=(sl Zm 15 [(3,1,Zz ([]:List Int))] ⟨[0],[],x0l,x0m⟩ ⟨[(3,.grow 0 1)],[],[]⟩ [] (pp (fl ([]:List Int) nn) nn))
theorem w5l (l0:List Int) (n:Nat) (vs:List AVal) (h:Zs (Vc l0) n (z5a l0)=.ret vs):Jy prog (Zy prog 70) (Za prog 70 [(.dat l0.length (Zz l0))] true []) vs:=by have:=Zd (x2x l0) n _ (x0k l0);rwa [h] at this
inductive rcanS where
 | h0 (v5:List R2) (v6:Int)
def j0m (l0:List Int) (l1:List Bool):rcanS→Cfg
 | .h0 v5 v6=>⟨⟨61,0,true⟩,none,(Zb prog 142 [1,1,0,1,0,0] 0),none,(Zy prog 5),⟨Yg [(0,(.dat l0.length (Zz l0))),(1,(.dat l1.length (Zz l1))),(5,(.sla 0 2 0 v5.length (.un 2))),(6,(ii v6))],Wh [⟨Yx v5.length (Zz v5),183,some ⟨2,v5.length,(Zz v5)⟩⟩] 0,1,[],true⟩,[],.leaf⟩
def x3m :List (Option (List Nat)):=[some [0,1,5,6]]
def x3n :List (Option (List Nat)):=[]
def Qh (l0:List Int) (l1:List Bool):rcanS→Xv rcanS
 | .h0 v5 v6=>(bif (decide ((wrap .i64 (v6+1))<(l0.length:Int))) then (bif ((decide (0≤v6∧v6<(l1.length:Int)))&&true) then (bif (!(rd l1 v6.toNat)) then (.to (.h0 v5 (wrap .i64 (v6+1)))) else (bif (decide ((v5.length:Int)>0)) then (bif ((decide (0≤(wrap .i64 ((v5.length:Int) - 1))∧(wrap .i64 ((v5.length:Int) - 1))<(v5.length:Int)))&&true) then (bif (decide ((0+(Int.toNat (wrap .i64 ((v5.length:Int) - 1))))<v5.length)) then (bif ((decide (0≤v6∧v6<(l0.length:Int)))&&true) then (bif ((rd v5 (0+(Int.toNat (wrap .i64 ((v5.length:Int) - 1))))).b == (rd l0 v6.toNat)) then (bif ((decide (0≤(wrap .i64 (v6+1))∧(wrap .i64 (v6+1))<(l0.length:Int)))&&true) then (.to (.h0 (v5.set (0+(Int.toNat (wrap .i64 ((v5.length:Int) - 1)))) (R2.mk (rd v5 (0+(Int.toNat (wrap .i64 ((v5.length:Int) - 1))))).a (rd l0 (Int.toNat (wrap .i64 (v6+1)))))) (wrap .i64 (v6+1)))) else .stuck) else (bif ((decide (0≤(wrap .i64 (v6+1))∧(wrap .i64 (v6+1))<(l0.length:Int)))&&true) then (bif (Nat.beq 2 2&&((decide (0+v5.length=v5.length))&&decide ((v5.length+1+1)*(16+1)≤Uw))) then (.to (.h0 (v5++[(R2.mk (rd l0 v6.toNat) (rd l0 (Int.toNat (wrap .i64 (v6+1)))))]) (wrap .i64 (v6+1)))) else .stuck) else .stuck)) else .stuck) else .stuck) else .stuck) else (bif ((decide (0≤v6∧v6<(l0.length:Int)))&&true) then (bif ((decide (0≤(wrap .i64 (v6+1))∧(wrap .i64 (v6+1))<(l0.length:Int)))&&true) then (bif (Nat.beq 2 2&&((decide (0+v5.length=v5.length))&&decide ((v5.length+1+1)*(16+1)≤Uw))) then (.to (.h0 (v5++[(R2.mk (rd l0 v6.toNat) (rd l0 (Int.toNat (wrap .i64 (v6+1)))))]) (wrap .i64 (v6+1)))) else .stuck) else .stuck) else .stuck))) else .stuck) else (.ret [(.dat v5.length (Zz v5))]))
def z7z (l0:List Int) (l1:List Bool):Xv rcanS:=(.to (.h0 ([]:List R2) 0))
theorem x8a (l0:List Int) (l1:List Bool): ∀s,Yt prog (Zy prog 142) (j0m l0 l1) (j0m l0 l1 s) (Qh l0 l1 s)
 | .h0 v5 v6=>(lb (fun k0=>(lo fun aG=>(lb (fun k1=>(sl Zm 30 [] ⟨[0],[],x3m,x3n⟩ ⟨[],[],[]⟩ (bl 2 3) (pp (fl v5 nn) (tt k1 (ww aG (tt k0 nn)))))) (fun k1=>(lb (fun k2=>(lo fun cF=>(lo fun cQ=>(lo fun cR=>(lb (fun k3=>(lo fun o0=>(sl Zm 53 [] ⟨[0],[],x3m,x3n⟩ ⟨[(5,.len (v5.set (0+(tn (wr ((v5.length:Int) - 1)))) (R2.mk (rd v5 (0+(tn (wr ((v5.length:Int) - 1))))).a (rd l0 (tn (wr (v6+1)))))).length)],[.rowed 2 (v5.set (0+(tn (wr ((v5.length:Int) - 1)))) (R2.mk (rd v5 (0+(tn (wr ((v5.length:Int) - 1))))).a (rd l0 (tn (wr (v6+1)))))).length (Zz (v5.set (0+(tn (wr ((v5.length:Int) - 1)))) (R2.mk (rd v5 (0+(tn (wr ((v5.length:Int) - 1))))).a (rd l0 (tn (wr (v6+1)))))))],[]⟩ (bl 14 16381) (pp (xL v5.length (v5.set (0+(tn (wr ((v5.length:Int) - 1)))) (R2.mk (rd v5 (0+(tn (wr ((v5.length:Int) - 1))))).a (rd l0 (tn (wr (v6+1)))))).length) (pp (xL v5.length (v5.set (0+(tn (wr ((v5.length:Int) - 1)))) (R2.mk (rd v5 (0+(tn (wr ((v5.length:Int) - 1))))).a (rd l0 (tn (wr (v6+1)))))).length) (pp (xS v5.length (Xo (Zz v5) (0+(tn (wr ((v5.length:Int) - 1)))) 1 [(ii (rd l0 (tn (wr (v6+1)))))]) (Zz (v5.set (0+(tn (wr ((v5.length:Int) - 1)))) (R2.mk (rd v5 (0+(tn (wr ((v5.length:Int) - 1))))).a (rd l0 (tn (wr (v6+1)))))))) (pp (pp (xF (Xo (Zz v5) (0+(tn (wr ((v5.length:Int) - 1)))) 1 [(ii (rd l0 (tn (wr (v6+1)))))])) nn) (ww cQ (ww cF (ww o0 (tt k3 (ww cR (ww cQ (ww cF (tt k2 (tt k1 (ww aG (tt k0 nn)))))))))))))))))) (fun k3=>(lo fun o0=>(lo fun o1=>(sl Zm 41 [] ⟨[2],[],x3m,x3n⟩ ⟨[(5,.len (v5++[(R2.mk (rd l0 (tn v6)) (rd l0 (tn (wr (v6+1)))))]).length)],[.rowed 2 (v5++[(R2.mk (rd l0 (tn v6)) (rd l0 (tn (wr (v6+1)))))]).length (Zz (v5++[(R2.mk (rd l0 (tn v6)) (rd l0 (tn (wr (v6+1)))))]))],[]⟩ (bl 14 8189) (pp (xL (v5.length+1) (v5++[(R2.mk (rd l0 (tn v6)) (rd l0 (tn (wr (v6+1)))))]).length) (pp (xL (v5.length+1) (v5++[(R2.mk (rd l0 (tn v6)) (rd l0 (tn (wr (v6+1)))))]).length) (pp (xS (v5.length+1) (Ze (Zz v5) 0 v5.length 2 [(ii (rd l0 (tn v6))),(ii (rd l0 (tn (wr (v6+1)))))]) (Zz (v5++[(R2.mk (rd l0 (tn v6)) (rd l0 (tn (wr (v6+1)))))]))) (pp (pp (xF (Ze (Zz v5) 0 v5.length 2 [(ii (rd l0 (tn v6))),(ii (rd l0 (tn (wr (v6+1)))))])) nn) (ww o1 (ww o0 (ww cR (tt k3 (ww cR (ww cQ (ww cF (tt k2 (tt k1 (ww aG (tt k0 nn)))))))))))))))))))))))) (fun k2=>(lo fun o0=>(lo fun o1=>(lo fun o2=>(sl Zm 41 [] ⟨[2],[],x3m,x3n⟩ ⟨[(5,.len (v5++[(R2.mk (rd l0 (tn v6)) (rd l0 (tn (wr (v6+1)))))]).length)],[.rowed 2 (v5++[(R2.mk (rd l0 (tn v6)) (rd l0 (tn (wr (v6+1)))))]).length (Zz (v5++[(R2.mk (rd l0 (tn v6)) (rd l0 (tn (wr (v6+1)))))]))],[]⟩ (bl 14 1) (pp (xL (v5.length+1) (v5++[(R2.mk (rd l0 (tn v6)) (rd l0 (tn (wr (v6+1)))))]).length) (pp (xL (v5.length+1) (v5++[(R2.mk (rd l0 (tn v6)) (rd l0 (tn (wr (v6+1)))))]).length) (pp (xS (v5.length+1) (Ze (Zz v5) 0 v5.length 2 [(ii (rd l0 (tn v6))),(ii (rd l0 (tn (wr (v6+1)))))]) (Zz (v5++[(R2.mk (rd l0 (tn v6)) (rd l0 (tn (wr (v6+1)))))]))) (pp (pp (xF (Ze (Zz v5) 0 v5.length 2 [(ii (rd l0 (tn v6))),(ii (rd l0 (tn (wr (v6+1)))))])) nn) (ww o2 (ww o1 (ww o0 (tt k2 (tt k1 (ww aG (tt k0 nn))))))))))))))))))))) (fun k0=>(lr 61 3 [1,1,1,1,1,1,1,0] 1 5 [(4,(.dat v5.length (Zz v5)))] (sl Zm 16 [] ⟨[],[0],[some [4]],[]⟩ ⟨[(4,.frz v5.length v5.length (Zz v5) (Zz v5))],[],[]⟩ [false] (pp (xZ (z1p 2 2 0 v5.length v5.length (Zz v5)) v5.length (Zz v5)) (pp (xL v5.length v5.length) (pp (xS v5.length (Zz v5) (Zz v5)) (pp (fl v5 nn) (tt k0 nn)))))))))
theorem x3l (l0:List Int) (l1:List Bool):Yt prog (Zy prog 142) (j0m l0 l1) (Za prog 142 [(.dat l0.length (Zz l0)),(.dat l1.length (Zz l1))] true []) (z7z l0 l1):=(sl Zm 15 [(183,2,Zz ([]:List R2))] ⟨[0],[],x3m,x3n⟩ ⟨[(5,.grow 0 2)],[],[]⟩ [] (pp (fl ([]:List R2) nn) nn))
theorem v1u (l0:List Int) (l1:List Bool) (n:Nat) (vs:List AVal) (h:Zs (Qh l0 l1) n (z7z l0 l1)=.ret vs):Jy prog (Zy prog 142) (Za prog 142 [(.dat l0.length (Zz l0)),(.dat l1.length (Zz l1))] true []) vs:=by have:=Zd (x8a l0 l1) n _ (x3l l0 l1);rwa [h] at this
inductive rsmS where
 | h0 (v5:Int)
def rsmC (l0:List R2) (l1:List R2):rsmS→Cfg
 | .h0 v5=>⟨⟨26,0,true⟩,none,(Zb prog 169 [1,1,0,1,0,0] 0),none,(Zy prog 5),⟨Yg [(0,(.dat l0.length (Zz l0))),(1,(.dat l1.length (Zz l1))),(5,(ii v5))],Wh [] 0,0,[],true⟩,[],.leaf⟩
def rsmN0 :List (Option (List Nat)):=[some [0,1,5]]
def rsmM0 :List (Option (List Nat)):=[]
def z6h (l0:List R2) (l1:List R2):rsmS→Xv rsmS
 | .h0 v5=>(bif (decide (v5<(l0.length:Int))) then (bif ((decide (0≤v5∧v5<(l0.length:Int)))&&true) then (bif ((decide (0≤v5∧v5<(l1.length:Int)))&&true) then (bif (!(((rd l0 v5.toNat).a == (rd l1 v5.toNat).a)&&(((rd l0 v5.toNat).b == (rd l1 v5.toNat).b)&&true))) then (.ret [(.bool false)]) else (.to (.h0 (wrap .i64 (v5+1))))) else .stuck) else .stuck) else (.ret [(.bool true)]))
def z7m (l0:List R2) (l1:List R2):Xv rsmS:=(bif ((l0.length:Int) != (l1.length:Int)) then (.ret [(.bool false)]) else (.to (.h0 0)))
theorem w5n (l0:List R2) (l1:List R2): ∀s,Yt prog (Zy prog 169) (rsmC l0 l1) (rsmC l0 l1 s) (z6h l0 l1 s)
 | .h0 v5=>(lb (fun k0=>(lo fun aG=>(lo fun aU=>(lb (fun k1=>(lr 26 169 [1,1,0,1,0,0,1,0,0,1,0,0] 1 5 [(4,(.bool false))] (sl Zm 19 [] ⟨[],[],[some [4]],[]⟩ ⟨[],[],[]⟩ (bl 2 3) (tt k1 (ww aU (ww aG (tt k0 nn))))))) (fun k1=>(sl Zm 23 [] ⟨[],[],rsmN0,rsmM0⟩ ⟨[],[],[]⟩ (bl 2 1) (tt k1 (ww aU (ww aG (tt k0 nn)))))))))) (fun k0=>(lr 26 3 [1,1,1,1,1,1,1,0] 1 5 [(4,(.bool true))] (sl Zm 14 [] ⟨[],[],[some [4]],[]⟩ ⟨[],[],[]⟩ [false] (tt k0 nn)))))
theorem x7a (l0:List R2) (l1:List R2):Yt prog (Zy prog 169) (rsmC l0 l1) (Za prog 169 [(.dat l0.length (Zz l0)),(.dat l1.length (Zz l1))] true []) (z7m l0 l1):=(lb (fun k0=>(lr 26 169 [1,0,1,0,0] 1 5 [(4,(.bool false))] (sl Zm 18 [] ⟨[],[],[some [4]],[]⟩ ⟨[],[],[]⟩ [true] (tt k0 nn)))) (fun k0=>(sl Zm 22 [] ⟨[],[],rsmN0,rsmM0⟩ ⟨[],[],[]⟩ [false] (tt k0 nn))))
theorem v7r (l0:List R2) (l1:List R2) (n:Nat) (vs:List AVal) (h:Zs (z6h l0 l1) n (z7m l0 l1)=.ret vs):Jy prog (Zy prog 169) (Za prog 169 [(.dat l0.length (Zz l0)),(.dat l1.length (Zz l1))] true []) vs:=by have:=Zd (w5n l0 l1) n _ (x7a l0 l1);rwa [h] at this
inductive rhasS where
 | h0 (v7:Int)
def u9y (l0:List R4) (x1:Int) (x2:Int):rhasS→Cfg
 | .h0 v7=>⟨⟨48,0,true⟩,none,(Zb prog 168 [1,0,1,0,0] 0),none,(Zy prog 8),⟨Yg [(0,(.dat l0.length (Zz l0))),(1,(ii x1)),(2,(ii x2)),(7,(ii v7))],Wh [] 0,0,[],true⟩,[],.leaf⟩
def x3b :List (Option (List Nat)):=[some [0,1,2,7]]
def x3c :List (Option (List Nat)):=[]
def z5c (l0:List R4) (x1:Int) (x2:Int):rhasS→Xv rhasS
 | .h0 v7=>(bif (decide (v7<(l0.length:Int))) then (bif ((decide (0≤v7∧v7<(l0.length:Int)))&&true) then (bif (decide ((rd l0 v7.toNat).a ≤x1)) then (bif (decide (x1<(rd l0 v7.toNat).c)) then (bif (decide ((rd l0 v7.toNat).b ≤x2)) then (bif (decide (x2<(rd l0 v7.toNat).d)) then (.ret [(.bool true)]) else (.to (.h0 (wrap .i64 (v7+1))))) else (.to (.h0 (wrap .i64 (v7+1))))) else (.to (.h0 (wrap .i64 (v7+1))))) else (.to (.h0 (wrap .i64 (v7+1))))) else .stuck) else (.ret [(.bool false)]))
def z7s (l0:List R4) (x1:Int) (x2:Int):Xv rhasS:=(.to (.h0 0))
theorem x7m (l0:List R4) (x1:Int) (x2:Int): ∀s,Yt prog (Zy prog 168) (u9y l0 x1 x2) (u9y l0 x1 x2 s) (z5c l0 x1 x2 s)
 | .h0 v7=>(lb (fun k0=>(lo fun aG=>(lb (fun k1=>(lb (fun k2=>(lb (fun k3=>(lb (fun k4=>(lr 48 168 [1,0,1,0,0,1,0,0,1,0,0] 1 8 [(6,(.bool true))] (sl Zm 54 [] ⟨[],[],[some [6]],[]⟩ ⟨[],[],[]⟩ (trs 23 []) (tt k4 (ww aG (tt k3 (ww aG (tt k2 (ww aG (tt k1 (ww aG (tt k0 nn)))))))))))) (fun k4=>(sl Zm 58 [] ⟨[],[],x3b,x3c⟩ ⟨[],[],[]⟩ (trs 22 [false]) (tt k4 (ww aG (tt k3 (ww aG (tt k2 (ww aG (tt k1 (ww aG (tt k0 nn))))))))))))) (fun k3=>(sl Zm 58 [] ⟨[],[],x3b,x3c⟩ ⟨[],[],[]⟩ (trs 15 (bl 8 0)) (tt k3 (ww aG (tt k2 (ww aG (tt k1 (ww aG (tt k0 nn))))))))))) (fun k2=>(sl Zm 58 [] ⟨[],[],x3b,x3c⟩ ⟨[],[],[]⟩ (trs 8 (bl 15 0)) (tt k2 (ww aG (tt k1 (ww aG (tt k0 nn))))))))) (fun k1=>(sl Zm 58 [] ⟨[],[],x3b,x3c⟩ ⟨[],[],[]⟩ (bl 23 1) (tt k1 (ww aG (tt k0 nn)))))))) (fun k0=>(lr 48 3 [1,1,1,1,1,1,1,0] 1 8 [(6,(.bool false))] (sl Zm 14 [] ⟨[],[],[some [6]],[]⟩ ⟨[],[],[]⟩ [false] (tt k0 nn)))))
theorem x3a (l0:List R4) (x1:Int) (x2:Int):Yt prog (Zy prog 168) (u9y l0 x1 x2) (Za prog 168 [(.dat l0.length (Zz l0)),(.int .i64 x1),(.int .i64 x2)] true []) (z7s l0 x1 x2):=(sl Zm 11 [] ⟨[],[],x3b,x3c⟩ ⟨[],[],[]⟩ [] nn)
theorem v1c (l0:List R4) (x1:Int) (x2:Int) (n:Nat) (vs:List AVal) (h:Zs (z5c l0 x1 x2) n (z7s l0 x1 x2)=.ret vs):Jy prog (Zy prog 168) (Za prog 168 [(.dat l0.length (Zz l0)),(.int .i64 x1),(.int .i64 x2)] true []) vs:=by have:=Zd (x7m l0 x1 x2) n _ (x3a l0 x1 x2);rwa [h] at this
inductive rsrS where
 | h0 (v5:Int)
def rsrC (l0:List R4) (l1:List R4):rsrS→Cfg
 | .h0 v5=>⟨⟨26,0,true⟩,none,(Zb prog 128 [1,1,0,1,0,0] 0),none,(Zy prog 5),⟨Yg [(0,(.dat l0.length (Zz l0))),(1,(.dat l1.length (Zz l1))),(5,(ii v5))],Wh [] 0,0,[],true⟩,[],.leaf⟩
def rsrN0 :List (Option (List Nat)):=[some [0,1,5]]
def rsrM0 :List (Option (List Nat)):=[]
def z6f (l0:List R4) (l1:List R4):rsrS→Xv rsrS
 | .h0 v5=>(bif (decide (v5<(l0.length:Int))) then (bif ((decide (0≤v5∧v5<(l0.length:Int)))&&true) then (bif ((decide (0≤v5∧v5<(l1.length:Int)))&&true) then (bif (!(((rd l0 v5.toNat).a == (rd l1 v5.toNat).a)&&(((rd l0 v5.toNat).b == (rd l1 v5.toNat).b)&&(((rd l0 v5.toNat).c == (rd l1 v5.toNat).c)&&(((rd l0 v5.toNat).d == (rd l1 v5.toNat).d)&&true))))) then (.ret [(.bool false)]) else (.to (.h0 (wrap .i64 (v5+1))))) else .stuck) else .stuck) else (.ret [(.bool true)]))
def z7k (l0:List R4) (l1:List R4):Xv rsrS:=(bif ((l0.length:Int) != (l1.length:Int)) then (.ret [(.bool false)]) else (.to (.h0 0)))
theorem w5i (l0:List R4) (l1:List R4): ∀s,Yt prog (Zy prog 128) (rsrC l0 l1) (rsrC l0 l1 s) (z6f l0 l1 s)
 | .h0 v5=>(lb (fun k0=>(lo fun aG=>(lo fun aU=>(lb (fun k1=>(lr 26 128 [1,1,0,1,0,0,1,0,0,1,0,0] 1 5 [(4,(.bool false))] (sl Zm 19 [] ⟨[],[],[some [4]],[]⟩ ⟨[],[],[]⟩ (bl 2 3) (tt k1 (ww aU (ww aG (tt k0 nn))))))) (fun k1=>(sl Zm 23 [] ⟨[],[],rsrN0,rsrM0⟩ ⟨[],[],[]⟩ (bl 2 1) (tt k1 (ww aU (ww aG (tt k0 nn)))))))))) (fun k0=>(lr 26 3 [1,1,1,1,1,1,1,0] 1 5 [(4,(.bool true))] (sl Zm 14 [] ⟨[],[],[some [4]],[]⟩ ⟨[],[],[]⟩ [false] (tt k0 nn)))))
theorem x6x (l0:List R4) (l1:List R4):Yt prog (Zy prog 128) (rsrC l0 l1) (Za prog 128 [(.dat l0.length (Zz l0)),(.dat l1.length (Zz l1))] true []) (z7k l0 l1):=(lb (fun k0=>(lr 26 128 [1,0,1,0,0] 1 5 [(4,(.bool false))] (sl Zm 18 [] ⟨[],[],[some [4]],[]⟩ ⟨[],[],[]⟩ [true] (tt k0 nn)))) (fun k0=>(sl Zm 22 [] ⟨[],[],rsrN0,rsrM0⟩ ⟨[],[],[]⟩ [false] (tt k0 nn))))
theorem v7o (l0:List R4) (l1:List R4) (n:Nat) (vs:List AVal) (h:Zs (z6f l0 l1) n (z7k l0 l1)=.ret vs):Jy prog (Zy prog 128) (Za prog 128 [(.dat l0.length (Zz l0)),(.dat l1.length (Zz l1))] true []) vs:=by have:=Zd (w5i l0 l1) n _ (x6x l0 l1);rwa [h] at this
inductive rsbS where
 | h0 (v5:Int)
def rsbC (l0:List R6) (l1:List R6):rsbS→Cfg
 | .h0 v5=>⟨⟨26,0,true⟩,none,(Zb prog 20 [1,1,0,1,0,0] 0),none,(Zy prog 5),⟨Yg [(0,(.dat l0.length (Zz l0))),(1,(.dat l1.length (Zz l1))),(5,(ii v5))],Wh [] 0,0,[],true⟩,[],.leaf⟩
def rsbN0 :List (Option (List Nat)):=[some [0,1,5]]
def rsbM0 :List (Option (List Nat)):=[]
def z6i (l0:List R6) (l1:List R6):rsbS→Xv rsbS
 | .h0 v5=>(bif (decide (v5<(l0.length:Int))) then (bif ((decide (0≤v5∧v5<(l0.length:Int)))&&true) then (bif ((decide (0≤v5∧v5<(l1.length:Int)))&&true) then (bif (!((((rd l0 v5.toNat).a == (rd l1 v5.toNat).a)&&(((rd l0 v5.toNat).b == (rd l1 v5.toNat).b)&&(((rd l0 v5.toNat).c == (rd l1 v5.toNat).c)&&true)))&&((((rd l0 v5.toNat).d == (rd l1 v5.toNat).d)&&(((rd l0 v5.toNat).e == (rd l1 v5.toNat).e)&&(((rd l0 v5.toNat).f == (rd l1 v5.toNat).f)&&true)))&&true))) then (.ret [(.bool false)]) else (.to (.h0 (wrap .i64 (v5+1))))) else .stuck) else .stuck) else (.ret [(.bool true)]))
def z7n (l0:List R6) (l1:List R6):Xv rsbS:=(bif ((l0.length:Int) != (l1.length:Int)) then (.ret [(.bool false)]) else (.to (.h0 0)))
theorem w5q (l0:List R6) (l1:List R6): ∀s,Yt prog (Zy prog 20) (rsbC l0 l1) (rsbC l0 l1 s) (z6i l0 l1 s)
 | .h0 v5=>(lb (fun k0=>(lo fun aG=>(lo fun aU=>(lb (fun k1=>(lr 26 20 [1,1,0,1,0,0,1,0,0,1,0,0] 1 5 [(4,(.bool false))] (sl Zm 19 [] ⟨[],[],[some [4]],[]⟩ ⟨[],[],[]⟩ (bl 2 3) (tt k1 (ww aU (ww aG (tt k0 nn))))))) (fun k1=>(sl Zm 23 [] ⟨[],[],rsbN0,rsbM0⟩ ⟨[],[],[]⟩ (bl 2 1) (tt k1 (ww aU (ww aG (tt k0 nn)))))))))) (fun k0=>(lr 26 3 [1,1,1,1,1,1,1,0] 1 5 [(4,(.bool true))] (sl Zm 14 [] ⟨[],[],[some [4]],[]⟩ ⟨[],[],[]⟩ [false] (tt k0 nn)))))
theorem x7c (l0:List R6) (l1:List R6):Yt prog (Zy prog 20) (rsbC l0 l1) (Za prog 20 [(.dat l0.length (Zz l0)),(.dat l1.length (Zz l1))] true []) (z7n l0 l1):=(lb (fun k0=>(lr 26 20 [1,0,1,0,0] 1 5 [(4,(.bool false))] (sl Zm 18 [] ⟨[],[],[some [4]],[]⟩ ⟨[],[],[]⟩ [true] (tt k0 nn)))) (fun k0=>(sl Zm 22 [] ⟨[],[],rsbN0,rsbM0⟩ ⟨[],[],[]⟩ [false] (tt k0 nn))))
theorem v7v (l0:List R6) (l1:List R6) (n:Nat) (vs:List AVal) (h:Zs (z6i l0 l1) n (z7n l0 l1)=.ret vs):Jy prog (Zy prog 20) (Za prog 20 [(.dat l0.length (Zz l0)),(.dat l1.length (Zz l1))] true []) vs:=by have:=Zd (w5q l0 l1) n _ (x7c l0 l1);rwa [h] at this
inductive ratS where
 | h0 (v5:List R4) (v6:Int)
def ratC (l0:List R6) (x1:Int):ratS→Cfg
 | .h0 v5 v6=>⟨⟨60,0,true⟩,none,(Zb prog 127 [1,1,0,1,0,0] 0),none,(Zy prog 5),⟨Yg [(0,(.dat l0.length (Zz l0))),(1,(ii x1)),(5,(.sla 0 4 0 v5.length (.un 4))),(6,(ii v6))],Wh [⟨Yx v5.length (Zz v5),88,some ⟨4,v5.length,(Zz v5)⟩⟩] 0,1,[],true⟩,[],.leaf⟩
def v9b :List (Option (List Nat)):=[some [0,1,5,6]]
def v9c :List (Option (List Nat)):=[]
def z6m (l0:List R6) (x1:Int):ratS→Xv ratS
 | .h0 v5 v6=>(bif (decide (v6<(l0.length:Int))) then (bif ((decide (0≤v6∧v6<(l0.length:Int)))&&true) then (bif (decide ((rd l0 v6.toNat).c ≤x1)) then (bif (decide (x1<(rd l0 v6.toNat).f)) then (bif (Nat.beq 4 4&&((decide (0+v5.length=v5.length))&&decide ((v5.length+1+1)*(32+1)≤Uw))) then (.to (.h0 (v5++[(R4.mk (rd l0 v6.toNat).a (rd l0 v6.toNat).b (rd l0 v6.toNat).d (rd l0 v6.toNat).e)]) (wrap .i64 (v6+1)))) else .stuck) else (.to (.h0 v5 (wrap .i64 (v6+1))))) else (.to (.h0 v5 (wrap .i64 (v6+1))))) else .stuck) else (.ret [(.dat v5.length (Zz v5))]))
def y3a (l0:List R6) (x1:Int):Xv ratS:=(.to (.h0 ([]:List R4) 0))
theorem w6g (l0:List R6) (x1:Int): ∀s,Yt prog (Zy prog 127) (ratC l0 x1) (ratC l0 x1 s) (z6m l0 x1 s)
 | .h0 v5 v6=>(lb (fun k0=>(lo fun aG=>(lb (fun k1=>(lb (fun k2=>(lo fun o0=>(sl Zm 42 [] ⟨[2],[],v9b,v9c⟩ ⟨[(5,.len (v5++[(R4.mk (rd l0 (tn v6)).a (rd l0 (tn v6)).b (rd l0 (tn v6)).d (rd l0 (tn v6)).e)]).length)],[.rowed 4 (v5++[(R4.mk (rd l0 (tn v6)).a (rd l0 (tn v6)).b (rd l0 (tn v6)).d (rd l0 (tn v6)).e)]).length (Zz (v5++[(R4.mk (rd l0 (tn v6)).a (rd l0 (tn v6)).b (rd l0 (tn v6)).d (rd l0 (tn v6)).e)]))],[]⟩ (trs 10 []) (pp (xL (v5.length+1) (v5++[(R4.mk (rd l0 (tn v6)).a (rd l0 (tn v6)).b (rd l0 (tn v6)).d (rd l0 (tn v6)).e)]).length) (pp (xL (v5.length+1) (v5++[(R4.mk (rd l0 (tn v6)).a (rd l0 (tn v6)).b (rd l0 (tn v6)).d (rd l0 (tn v6)).e)]).length) (pp (xS (v5.length+1) (Ze (Zz v5) 0 v5.length 4 [(ii (rd l0 (tn v6)).a),(ii (rd l0 (tn v6)).b),(ii (rd l0 (tn v6)).d),(ii (rd l0 (tn v6)).e)]) (Zz (v5++[(R4.mk (rd l0 (tn v6)).a (rd l0 (tn v6)).b (rd l0 (tn v6)).d (rd l0 (tn v6)).e)]))) (pp (pp (xF (Ze (Zz v5) 0 v5.length 4 [(ii (rd l0 (tn v6)).a),(ii (rd l0 (tn v6)).b),(ii (rd l0 (tn v6)).d),(ii (rd l0 (tn v6)).e)])) nn) (ww o0 (ww aG (ww aG (ww aG (ww aG (tt k2 (ww aG (tt k1 (ww aG (tt k0 nn))))))))))))))))) (fun k2=>(sl Zm 42 [] ⟨[0],[],v9b,v9c⟩ ⟨[],[],[]⟩ (trs 9 [false]) (pp (fl v5 nn) (tt k2 (ww aG (tt k1 (ww aG (tt k0 nn)))))))))) (fun k1=>(sl Zm 42 [] ⟨[0],[],v9b,v9c⟩ ⟨[],[],[]⟩ (bl 10 1) (pp (fl v5 nn) (tt k1 (ww aG (tt k0 nn))))))))) (fun k0=>(lr 60 3 [1,1,1,1,1,1,1,0] 1 5 [(4,(.dat v5.length (Zz v5)))] (sl Zm 15 [] ⟨[],[0],[some [4]],[]⟩ ⟨[(4,.frz v5.length v5.length (Zz v5) (Zz v5))],[],[]⟩ [false] (pp (xZ (z1p 4 4 0 v5.length v5.length (Zz v5)) v5.length (Zz v5)) (pp (xL v5.length v5.length) (pp (xS v5.length (Zz v5) (Zz v5)) (pp (fl v5 nn) (tt k0 nn)))))))))
theorem x8c (l0:List R6) (x1:Int):Yt prog (Zy prog 127) (ratC l0 x1) (Za prog 127 [(.dat l0.length (Zz l0)),(.int .i64 x1)] true []) (y3a l0 x1):=(sl Zm 15 [(88,4,Zz ([]:List R4))] ⟨[0],[],v9b,v9c⟩ ⟨[(5,.grow 0 4)],[],[]⟩ [] (pp (fl ([]:List R4) nn) nn))
theorem v9a (l0:List R6) (x1:Int) (n:Nat) (vs:List AVal) (h:Zs (z6m l0 x1) n (y3a l0 x1)=.ret vs):Jy prog (Zy prog 127) (Za prog 127 [(.dat l0.length (Zz l0)),(.int .i64 x1)] true []) vs:=by have:=Zd (w6g l0 x1) n _ (x8c l0 x1);rwa [h] at this
inductive eqaS where
 | h0 (v13:Int)
def eqaC (l0:List R2) (l1:List R2):eqaS→Cfg
 | .h0 v13=>⟨⟨26,0,true⟩,none,(Zb prog 188 [1,1,0,1,0,0] 0),none,(Zy prog 5),⟨Yg [(0,(.dat l0.length (Zz l0))),(1,(.dat l1.length (Zz l1))),(12,(ii (l0.length:Int))),(13,(ii v13))],Wh [] 0,0,[],true⟩,[],.leaf⟩
def eqaN0 :List (Option (List Nat)):=[some [0,1,12,13]]
def eqaM0 :List (Option (List Nat)):=[]
def z6w (l0:List R2) (l1:List R2):eqaS→Xv eqaS
 | .h0 v13=>(bif (decide (v13<(l0.length:Int))) then (bif ((decide (0≤v13∧v13<(l0.length:Int)))&&true) then (bif ((decide (0≤v13∧v13<(l1.length:Int)))&&true) then (bif (!(((rd l0 v13.toNat).a == (rd l1 v13.toNat).a)&&(((rd l0 v13.toNat).b == (rd l1 v13.toNat).b)&&true))) then (.ret [(.bool false)]) else (.to (.h0 (wrap .i64 (v13+1))))) else .stuck) else .stuck) else (.ret [(.bool true)]))
def z8o (l0:List R2) (l1:List R2):Xv eqaS:=(bif ((l0.length:Int) != (l1.length:Int)) then (.ret [(.bool false)]) else (.to (.h0 0)))
theorem w7v (l0:List R2) (l1:List R2): ∀s,Yt prog (Zy prog 188) (eqaC l0 l1) (eqaC l0 l1 s) (z6w l0 l1 s)
 | .h0 v13=>(lb (fun k0=>(lo fun aG=>(lo fun aU=>(lb (fun k1=>(lr 26 188 [1,1,0,1,0,0,1,1,0,0,1,1,0,0] 1 5 [(4,(.bool false))] (sl Zm 21 [] ⟨[],[],[some [4]],[]⟩ ⟨[],[],[]⟩ (bl 2 3) (tt k1 (ww aU (ww aG (tt k0 nn))))))) (fun k1=>(sl Zm 24 [] ⟨[],[],eqaN0,eqaM0⟩ ⟨[],[],[]⟩ (bl 2 1) (tt k1 (ww aU (ww aG (tt k0 nn)))))))))) (fun k0=>(lr 26 3 [1,1,1,1,1,1,1,0] 1 5 [(4,(.bool true))] (sl Zm 11 [] ⟨[],[],[some [4]],[]⟩ ⟨[],[],[]⟩ [false] (tt k0 nn)))))
theorem w0c (l0:List R2) (l1:List R2):Yt prog (Zy prog 188) (eqaC l0 l1) (Za prog 188 [(.dat l0.length (Zz l0)),(.dat l1.length (Zz l1))] true []) (z8o l0 l1):=(lb (fun k0=>(lr 26 188 [1,0,1,0,0] 1 5 [(4,(.bool false))] (sl Zm 18 [] ⟨[],[],[some [4]],[]⟩ ⟨[],[],[]⟩ [true] (tt k0 nn)))) (fun k0=>(sl Zm 24 [] ⟨[],[],eqaN0,eqaM0⟩ ⟨[],[],[]⟩ [false] (tt k0 nn))))
theorem u1g (l0:List R2) (l1:List R2) (n:Nat) (vs:List AVal) (h:Zs (z6w l0 l1) n (z8o l0 l1)=.ret vs):Jy prog (Zy prog 188) (Za prog 188 [(.dat l0.length (Zz l0)),(.dat l1.length (Zz l1))] true []) vs:=by have:=Zd (w7v l0 l1) n _ (w0c l0 l1);rwa [h] at this
inductive eqbS where
 | h0 (v13:Int)
def eqbC (l0:List R4) (l1:List R4):eqbS→Cfg
 | .h0 v13=>⟨⟨26,0,true⟩,none,(Zb prog 172 [1,1,0,1,0,0] 0),none,(Zy prog 5),⟨Yg [(0,(.dat l0.length (Zz l0))),(1,(.dat l1.length (Zz l1))),(12,(ii (l0.length:Int))),(13,(ii v13))],Wh [] 0,0,[],true⟩,[],.leaf⟩
def eqbN0 :List (Option (List Nat)):=[some [0,1,12,13]]
def eqbM0 :List (Option (List Nat)):=[]
def z6v (l0:List R4) (l1:List R4):eqbS→Xv eqbS
 | .h0 v13=>(bif (decide (v13<(l0.length:Int))) then (bif ((decide (0≤v13∧v13<(l0.length:Int)))&&true) then (bif ((decide (0≤v13∧v13<(l1.length:Int)))&&true) then (bif (!(((rd l0 v13.toNat).a == (rd l1 v13.toNat).a)&&(((rd l0 v13.toNat).b == (rd l1 v13.toNat).b)&&(((rd l0 v13.toNat).c == (rd l1 v13.toNat).c)&&(((rd l0 v13.toNat).d == (rd l1 v13.toNat).d)&&true))))) then (.ret [(.bool false)]) else (.to (.h0 (wrap .i64 (v13+1))))) else .stuck) else .stuck) else (.ret [(.bool true)]))
def z8n (l0:List R4) (l1:List R4):Xv eqbS:=(bif ((l0.length:Int) != (l1.length:Int)) then (.ret [(.bool false)]) else (.to (.h0 0)))
theorem w7u (l0:List R4) (l1:List R4): ∀s,Yt prog (Zy prog 172) (eqbC l0 l1) (eqbC l0 l1 s) (z6v l0 l1 s)
 | .h0 v13=>(lb (fun k0=>(lo fun aG=>(lo fun aU=>(lb (fun k1=>(lr 26 172 [1,1,0,1,0,0,1,1,0,0,1,1,0,0] 1 5 [(4,(.bool false))] (sl Zm 21 [] ⟨[],[],[some [4]],[]⟩ ⟨[],[],[]⟩ (bl 2 3) (tt k1 (ww aU (ww aG (tt k0 nn))))))) (fun k1=>(sl Zm 24 [] ⟨[],[],eqbN0,eqbM0⟩ ⟨[],[],[]⟩ (bl 2 1) (tt k1 (ww aU (ww aG (tt k0 nn)))))))))) (fun k0=>(lr 26 3 [1,1,1,1,1,1,1,0] 1 5 [(4,(.bool true))] (sl Zm 11 [] ⟨[],[],[some [4]],[]⟩ ⟨[],[],[]⟩ [false] (tt k0 nn)))))
theorem w0b (l0:List R4) (l1:List R4):Yt prog (Zy prog 172) (eqbC l0 l1) (Za prog 172 [(.dat l0.length (Zz l0)),(.dat l1.length (Zz l1))] true []) (z8n l0 l1):=(lb (fun k0=>(lr 26 172 [1,0,1,0,0] 1 5 [(4,(.bool false))] (sl Zm 18 [] ⟨[],[],[some [4]],[]⟩ ⟨[],[],[]⟩ [true] (tt k0 nn)))) (fun k0=>(sl Zm 24 [] ⟨[],[],eqbN0,eqbM0⟩ ⟨[],[],[]⟩ [false] (tt k0 nn))))
theorem u1f (l0:List R4) (l1:List R4) (n:Nat) (vs:List AVal) (h:Zs (z6v l0 l1) n (z8n l0 l1)=.ret vs):Jy prog (Zy prog 172) (Za prog 172 [(.dat l0.length (Zz l0)),(.dat l1.length (Zz l1))] true []) vs:=by have:=Zd (w7u l0 l1) n _ (w0b l0 l1);rwa [h] at this
inductive eqcS where
 | h0 (v13:Int)
def eqcC (l0:List R6) (l1:List R6):eqcS→Cfg
 | .h0 v13=>⟨⟨26,0,true⟩,none,(Zb prog 99 [1,1,0,1,0,0] 0),none,(Zy prog 5),⟨Yg [(0,(.dat l0.length (Zz l0))),(1,(.dat l1.length (Zz l1))),(12,(ii (l0.length:Int))),(13,(ii v13))],Wh [] 0,0,[],true⟩,[],.leaf⟩
def eqcN0 :List (Option (List Nat)):=[some [0,1,12,13]]
def eqcM0 :List (Option (List Nat)):=[]
def z6u (l0:List R6) (l1:List R6):eqcS→Xv eqcS
 | .h0 v13=>(bif (decide (v13<(l0.length:Int))) then (bif ((decide (0≤v13∧v13<(l0.length:Int)))&&true) then (bif ((decide (0≤v13∧v13<(l1.length:Int)))&&true) then (bif (!((((rd l0 v13.toNat).a == (rd l1 v13.toNat).a)&&(((rd l0 v13.toNat).b == (rd l1 v13.toNat).b)&&(((rd l0 v13.toNat).c == (rd l1 v13.toNat).c)&&true)))&&((((rd l0 v13.toNat).d == (rd l1 v13.toNat).d)&&(((rd l0 v13.toNat).e == (rd l1 v13.toNat).e)&&(((rd l0 v13.toNat).f == (rd l1 v13.toNat).f)&&true)))&&true))) then (.ret [(.bool false)]) else (.to (.h0 (wrap .i64 (v13+1))))) else .stuck) else .stuck) else (.ret [(.bool true)]))
def z8m (l0:List R6) (l1:List R6):Xv eqcS:=(bif ((l0.length:Int) != (l1.length:Int)) then (.ret [(.bool false)]) else (.to (.h0 0)))
theorem w7t (l0:List R6) (l1:List R6): ∀s,Yt prog (Zy prog 99) (eqcC l0 l1) (eqcC l0 l1 s) (z6u l0 l1 s)
 | .h0 v13=>(lb (fun k0=>(lo fun aG=>(lo fun aU=>(lb (fun k1=>(lr 26 99 [1,1,0,1,0,0,1,1,0,0,1,1,0,0] 1 5 [(4,(.bool false))] (sl Zm 21 [] ⟨[],[],[some [4]],[]⟩ ⟨[],[],[]⟩ (bl 2 3) (tt k1 (ww aU (ww aG (tt k0 nn))))))) (fun k1=>(sl Zm 24 [] ⟨[],[],eqcN0,eqcM0⟩ ⟨[],[],[]⟩ (bl 2 1) (tt k1 (ww aU (ww aG (tt k0 nn)))))))))) (fun k0=>(lr 26 3 [1,1,1,1,1,1,1,0] 1 5 [(4,(.bool true))] (sl Zm 11 [] ⟨[],[],[some [4]],[]⟩ ⟨[],[],[]⟩ [false] (tt k0 nn)))))
theorem w0a (l0:List R6) (l1:List R6):Yt prog (Zy prog 99) (eqcC l0 l1) (Za prog 99 [(.dat l0.length (Zz l0)),(.dat l1.length (Zz l1))] true []) (z8m l0 l1):=(lb (fun k0=>(lr 26 99 [1,0,1,0,0] 1 5 [(4,(.bool false))] (sl Zm 18 [] ⟨[],[],[some [4]],[]⟩ ⟨[],[],[]⟩ [true] (tt k0 nn)))) (fun k0=>(sl Zm 24 [] ⟨[],[],eqcN0,eqcM0⟩ ⟨[],[],[]⟩ [false] (tt k0 nn))))
theorem u1e (l0:List R6) (l1:List R6) (n:Nat) (vs:List AVal) (h:Zs (z6u l0 l1) n (z8m l0 l1)=.ret vs):Jy prog (Zy prog 99) (Za prog 99 [(.dat l0.length (Zz l0)),(.dat l1.length (Zz l1))] true []) vs:=by have:=Zd (w7t l0 l1) n _ (w0a l0 l1);rwa [h] at this
inductive holS where
def holC (x0:Int) (x1:Bool) (x2:Bool):holS→Cfg
 :=nofun
def x9l (x0:Int) (x1:Bool) (x2:Bool):holS→Xv holS
 :=nofun
def y3k (x0:Int) (x1:Bool) (x2:Bool):Xv holS:=(bif (x0 == 1) then (bif x1 then (.ret [(.bool x2)]) else (.ret [(.bool false)])) else (bif (x0 == 2) then (bif x1 then (.ret [(.bool true)]) else (.ret [(.bool x2)])) else (bif x1 then (.ret [(.bool (!x2))]) else (.ret [(.bool false)]))))
theorem w7g (x0:Int) (x1:Bool) (x2:Bool): ∀s,Yt prog (Zy prog 167) (holC x0 x1 x2) (holC x0 x1 x2 s) (x9l x0 x1 x2 s)
 :=nofun
theorem x9m (x0:Int) (x1:Bool) (x2:Bool):Yt prog (Zy prog 167) (holC x0 x1 x2) (Za prog 167 [(.int .i64 x0),(.bool x1),(.bool x2)] true []) (y3k x0 x1 x2):=(lb (fun k0=>(lb (fun k1=>(lr 24 167 [1,0,1,0,0] 1 8 [(6,(.bool x2))] (sl Zm 19 [] ⟨[],[],[some [6]],[]⟩ ⟨[],[],[]⟩ [true,true] (tt k1 (tt k0 nn))))) (fun k1=>(lr 24 167 [1,0,1,0,0] 1 8 [(6,(.bool false))] (sl Zm 19 [] ⟨[],[],[some [6]],[]⟩ ⟨[],[],[]⟩ [true,false] (tt k1 (tt k0 nn))))))) (fun k0=>(lb (fun k1=>(lb (fun k2=>(lr 24 167 [1,1,0,1,0,0] 1 8 [(6,(.bool true))] (sl Zm 27 [] ⟨[],[],[some [6]],[]⟩ ⟨[],[],[]⟩ [false,true,true] (tt k2 (tt k1 (tt k0 nn)))))) (fun k2=>(lr 24 167 [1,1,0,1,0,0] 1 8 [(6,(.bool x2))] (sl Zm 27 [] ⟨[],[],[some [6]],[]⟩ ⟨[],[],[]⟩ [false,true,false] (tt k2 (tt k1 (tt k0 nn)))))))) (fun k1=>(lb (fun k2=>(lr 24 3 [1,1,1,1,1,1,1,0] 1 8 [(6,(.bool (!x2)))] (sl Zm 29 [] ⟨[],[],[some [6]],[]⟩ ⟨[],[],[]⟩ [false,false,true,true] (tt k2 (tt k1 (tt k0 nn)))))) (fun k2=>(lr 24 3 [1,1,1,1,1,1,1,0] 1 8 [(6,(.bool false))] (sl Zm 29 [] ⟨[],[],[some [6]],[]⟩ ⟨[],[],[]⟩ [false,false,false,false] (tt k2 (tt k1 (tt k0 nn)))))))))))
theorem u0o (x0:Int) (x1:Bool) (x2:Bool) (n:Nat) (vs:List AVal) (h:Zs (x9l x0 x1 x2) n (y3k x0 x1 x2)=.ret vs):Jy prog (Zy prog 167) (Za prog 167 [(.int .i64 x0),(.bool x1),(.bool x2)] true []) vs:=by have:=Zd (w7g x0 x1 x2) n _ (x9m x0 x1 x2);rwa [h] at this
inductive fstS where
def fstC (x0:Bool) (x1:Bool):fstS→Cfg
 :=nofun
def x9q (x0:Bool) (x1:Bool):fstS→Xv fstS
 :=nofun
def x1m (x0:Bool) (x1:Bool):Xv fstS:=(.ret [(.bool x0)])
theorem w7j (x0:Bool) (x1:Bool): ∀s,Yt prog (Zy prog 187) (fstC x0 x1) (fstC x0 x1 s) (x9q x0 x1 s)
 :=nofun
theorem x9r (x0:Bool) (x1:Bool):Yt prog (Zy prog 187) (fstC x0 x1) (Za prog 187 [(.bool x0),(.bool x1)] true []) (x1m x0 x1):=(lr 6 3 [1,1,1,1,1,1,1,0] 1 5 [(4,(.bool x0))] (sl Zm 9 [] ⟨[],[],[some [4]],[]⟩ ⟨[],[],[]⟩ [] nn))
theorem u0q (x0:Bool) (x1:Bool) (n:Nat) (vs:List AVal) (h:Zs (x9q x0 x1) n (x1m x0 x1)=.ret vs):Jy prog (Zy prog 187) (Za prog 187 [(.bool x0),(.bool x1)] true []) vs:=by have:=Zd (w7j x0 x1) n _ (x9r x0 x1);rwa [h] at this
theorem Zn {a b:Int} (h:a<b):decide (a<b)=true:=Ah h
theorem Yz {a b:Int} (h: ¬a<b):decide (a<b)=false:=Ay h
theorem Wz {a b:Int} (h:a≤b):decide (a≤b)=true:=Ah h
theorem w0e {a b:Int} (h: ¬a≤b):decide (a≤b)=false:=Ay h
theorem Yn {a b:Int} (h:a>b):decide (a>b)=true:=Ah h
theorem Xm {a b:Int} (h: ¬a>b):decide (a>b)=false:=Ay h
theorem dge_t {a b:Int} (h:a≥b):decide (a≥b)=true:=Ah h
theorem Yk {a b:Nat} (h:a<b):decide (a<b)=true:=Ah h
theorem Yc {a b:Nat} (h:a≤b):decide (a≤b)=true:=Ah h
theorem Yp {a b:Nat} (h:a=b):decide (a=b)=true:=Ah h
theorem Zo {a b:Int} (h:0≤a∧a<b):decide (0≤a∧a<b)=true:=Ah h
theorem Zf {a:Nat} (h:a≤1099511627776):decide (a≤Uw)=true:=Ah h
theorem Zk {n:Int} (h: -9223372036854775808≤n∧n≤9223372036854775807):wrap .i64 n=n:=w_in h.1 h.2
theorem Qo :((0:Nat):Int)=0:=rfl
theorem Zx (i:Nat):(i:Int)+1=((i+1:Nat):Int):=rfl
theorem Zt (i:Nat):((i+1:Nat):Int) - 1=(i:Int):=by omega
theorem z0p {a b:Int} (h:a≠b):(a != b)=true:=by simp [h]
theorem z0q {a b:Int} (h:a=b):(a != b)=false:=by simp [h]
theorem Ym (n:Nat):Nat.beq n n=true:=B4 n
theorem Zj (n:Nat):Int.toNat (n:Int)=n:=Int.toNat_natCast n
theorem Yd (b:Bool):b=true∨b=false:=by cases b <;> simp
theorem Yj {α:Type} [Ys α] {L:List α} {i:Nat} (h:i<L.length):L.drop i=rd L i::L.drop (i+1):=by rw [Yo h];exact Cf h
theorem z0l {P:Program} {S:Specs} (hS:Zu P S) {f:FuncId} {F:List AVal→Option (AVal×Bool)} (hf:(P.funcs[f]?).any (fun fn=>fn.body.isSome)=true)
  (hF: ∀args v,F args=some (v,true)→ ∃bs vs,Wr VLe args bs∧Ku vs=v∧Jy P (Zy P f) (Za P f bs true []) vs∧ ∃d,pf d v=true):Zu P (S.with f F):=w4d hS hf hF
def x8h (out:List Int) (x:Int):Nat→Nat
 | 0=>0
 | k+1=>bif decide (rd out k>x) then x8h out x k else k+1
def y5i (out:List Int) (x:Int):List Int:=
 match x8h out x out.length with
 | 0=>x::out
 | k+1=>bif rd out k == x then out else out.take (k+1)++x::out.drop (k+1)
def Un (l:List Int):List Int:=l.foldl y5i []
def Wu (l:List Int):Bool:=decide (l.length≤1000000)
theorem y5h (out:List Int) (x:Int):(y5i out x).length ≤out.length+1:=by
 unfold y5i;split
 ·simp
 ·rename_i k _;cases (rd out k == x) <;> simp <;> omega
theorem x4i (out:List Int) (x:Int) (k:Nat) (hk:k≤out.length):
  (v5a (out++[0]) (k+1) (Nat.min (out.length+1 - k) (out.length+1 - (k+1))) (y1o (out++[0]) k (out.length+1 - k))).set k x=out.take k++x::out.drop k:=by
 have hm:Nat.min (out.length+1 - k) (out.length+1 - (k+1))=out.length - k:=by show min _ _=_;omega
 rw [hm];apply Cs
 ·simp [Je];omega
 ·intro i h1 h2;have hi:i<out.length+1:=by simpa [Je] using h1
  rw [←Yo h1,←Yo h2];rw [u5a (by simpa [Je] using hi)];by_cases e:i=k
  ·subst e;rw [AB rfl,Uk (by simp only [A0];omega),Yo (by simp;omega)];simp [Nat.min_eq_left hk]
  ·rw [Aw e,v1n (by simpa using hi)];by_cases h:i<k
   ·rw [u1t (show¬k+1≤i by omega),Bx,Aa,Ju (by omega),Ju (by simp;omega)];rw [Yo (by omega),Yo (by simp;omega),Bs]
   ·rw [v5p (show k+1≤i by omega),v5p (show i+1≤k+1+(out.length - k) by omega),Al,Ab,x0r (by omega),Ju (by omega)];rw [Uk (by simp;omega),Yo (by omega),Yo (by simp;omega)];obtain ⟨j,rfl⟩: ∃j,i=k+1+j:=⟨i - k - 1,by omega⟩
    simp only [A0,Nat.min_eq_left hk];rw [List.getElem_cons,dif_neg (by omega),List.getElem_drop]
    congr 1
theorem w1x (l:List Int) (out:List Int) (i:Nat) (hi:i<l.length) (hl:l.length≤1000000) (ho:out.length≤i): ∀(k N:Nat),k≤out.length→
  (x8h out (rd l i) out.length=x8h out (rd l i) k)→ ∃m,∀N,Zs (Vc l) (N+m) (.to (.h1 out (i:Int) (k:Int)))=Zs (Vc l) N (.to (.h0 (y5i out (rd l i)) ((i+1:Nat):Int)))
 | 0,N,hk,hp=>by
  refine ⟨1,fun N=> ?_⟩;have hins:y5i out (rd l i)=(v5a (out++[0]) (0+1) (Nat.min (out.length+1 - 0) (out.length+1 - (0+1))) (y1o (out++[0]) 0 (out.length+1 - 0))).set 0 (rd l i):=by rw [x4i out _ 0 (AA _)];unfold y5i;rw [hp];rfl
  rw [hins,Zv];simp (disch:=omega) only [Vc,Zf,Av,Xm,Zn,Wz,Yk,Yc,Yp,Zo,Zk,Zx,Ym,Zj,Ag,Ai,Al,Ab,Aa]
 | k+1,N,hk,hp=>by
  rcases Yd (decide (rd out k>rd l i)) with h | h
  ·have hp':x8h out (rd l i) out.length=x8h out (rd l i) k:=by rw [hp];conv=>lhs;unfold x8h;rw [h,Ab]
   obtain ⟨m,hm⟩:=w1x l out i hi hl ho k N (by omega) hp';refine ⟨m+1,fun N=> ?_⟩;rw [←hm N,←AD,Zv];simp (disch:=omega) only [Vc,Zt,h,Zf,Av,Yn,Zn,Wz,Yk,Yc,Yp,Zo,Zk,Zx,Ym,Zj,Ag,Ai,Al,Ab,Aa]
  ·have hpk:x8h out (rd l i) out.length=k+1:=by rw [hp];unfold x8h;rw [h];rfl
   refine ⟨1,fun N=> ?_⟩;rw [Zv];rcases Yd (rd out k == rd l i) with q | q
   ·have hins:y5i out (rd l i)=out:=by unfold y5i;rw [hpk];simp only [q,Ab]
    rw [hins];simp (disch:=omega) only [Vc,Zt,h,q,Zf,Av,Yn,Zn,Wz,Yk,Yc,Yp,Zo,Zk,Zx,Ym,Zj,Ag,Ai,Al,Ab,Aa]
   ·have hins:y5i out (rd l i)=(v5a (out++[0]) (k+1+1) (Nat.min (out.length+1 - (k+1)) (out.length+1 - (k+1+1))) (y1o (out++[0]) (k+1) (out.length+1 - (k+1)))).set (k+1) (rd l i):=by rw [x4i out _ (k+1) hk];unfold y5i;rw [hpk];simp only [q,Aa]
    rw [hins];simp (disch:=omega) only [Vc,Zt,h,q,Zf,Av,Yn,Zn,Wz,Yk,Yc,Yp,Zo,Zk,Zx,Ym,Zj,Ag,Ai,Al,Ab,Aa]
theorem w1y (l:List Int) (hl:l.length≤1000000): ∀(k i:Nat) (out:List Int),i+k=l.length→out.length≤i→ ∃m,Zs (Vc l) m (.to (.h0 out (i:Int)))=.ret [.dat ((l.drop i).foldl y5i out).length (Zz ((l.drop i).foldl y5i out))]
 | 0,i,out,h,ho=>by refine ⟨1,?_⟩;rw [Zv];simp (disch:=omega) only [Vc,Yz,Aa];rw [At (by omega)];rfl
 | k+1,i,out,h,ho=>by obtain ⟨m1,h1⟩:=w1x l out i (by omega) hl ho out.length 0 (Ao _) rfl;obtain ⟨m2,h2⟩:=w1y l hl k (i+1) (y5i out (rd l i)) (by omega) (AL (y5h _ _) (by omega));refine ⟨m2+m1+1,?_⟩;rw [Zv];simp (disch:=omega) only [Vc,Zn,Ab];rw [h1 m2,h2,Yj (show i<l.length by omega)];rfl
theorem v0o (l:List Int) (h:Wu l=true): ∃N,Zs (Vc l) N (z5a l)=.ret [.dat (Un l).length (Zz (Un l))]:=by
 have:=w1y l (AC h) l.length 0 [] (by omega) (Ao _)
 simpa [z5a,Un] using this
theorem Zh (n:Nat):Int.toNat ((n:Int) - 1)=n - 1:=by omega
theorem v9f (x y:R2):((x.a == y.a)&&(x.b == y.b))=decide (x=y):=by obtain ⟨a,b⟩:=x;obtain ⟨c,d⟩:=y;rw [Bool.eq_iff_iff];simp
theorem v9e (x y:R4):((x.a == y.a)&&((x.b == y.b)&&((x.c == y.c)&&(x.d == y.d))))=decide (x=y):=by obtain ⟨a,b,c,d⟩:=x;obtain ⟨e,f,g,h⟩:=y;rw [Bool.eq_iff_iff];simp
theorem v9d (x y:R6):(((x.a == y.a)&&((x.b == y.b)&&(x.c == y.c)))&&((x.d == y.d)&&((x.e == y.e)&&(x.f == y.f))))=decide (x=y):=by obtain ⟨a,b,c,d,e,f⟩:=x;obtain ⟨a',b',c',d',e',f'⟩:=y;rw [Bool.eq_iff_iff];simp [and_assoc]
def Kc (l m:List R2):Bool:=decide (l=m)
def Ur (l m:List R4):Bool:=decide (l=m)
def Kb (l m:List R6):Bool:=decide (l=m)
def Vm (l m:List R2):Bool:=decide (l.length≤1000000)
def Wg (l m:List R4):Bool:=decide (l.length≤1000000)
def Vp (l m:List R6):Bool:=decide (l.length≤1000000)
theorem z5j {α:Type} [DecidableEq α] (x y:α) (l m:List α):decide (x::l=y::m)=(decide (x=y)&&decide (l=m)):=by rw [←Bool.decide_and];congr 1;simp
theorem u3t (l m:List R2) (hl:l.length≤1000000) (hm:l.length=m.length): ∀(k i:Nat),i+k=l.length→ ∃N,Zs (z6h l m) N (.to (.h0 (i:Int)))=.ret [.bool (decide (l.drop i=m.drop i))]
 | 0,i,h=>by refine ⟨1,?_⟩;rw [Zv,At (show l.length≤i by omega),At (show m.length≤i by omega)];simp (disch:=omega) only [z6h,Xm,Yn,Zn,Yz,Wz,Yk,Yc,Yp,Zo,Zk,Zf,z0p,z0q,Av,Zx,Zt,Zh,Ym,Zj,Ag,Ai,Al,Ab,Aa,AG,AK,Zp]
 | k+1,i,h=>by
  obtain ⟨N,hN⟩:=u3t l m hl hm k (i+1) (by omega);refine ⟨N+1,?_⟩;rw [Zv,Yj (show i<l.length by omega),Yj (show i<m.length by omega),z5j];rcases Yd (decide (rd l i=rd m i)) with q | q
  ·simp (disch:=omega) only [z6h,v9f,q,Xm,Yn,Zn,Yz,Wz,Yk,Yc,Yp,Zo,Zk,Zf,z0p,z0q,Av,Zx,Zt,Zh,Ym,Zj,Ag,Ai,Al,Ab,Aa,AG,AK,Zp];exact hN
  ·simp (disch:=omega) only [z6h,v9f,q,Xm,Yn,Zn,Yz,Wz,Yk,Yc,Yp,Zo,Zk,Zf,z0p,z0q,Av,Zx,Zt,Zh,Ym,Zj,Ag,Ai,Al,Ab,Aa,AG,AK,Zp,Bx]
theorem u9e (l m:List R2) (h:Vm l m=true): ∃N,Zs (z6h l m) N (z7m l m)=.ret [.bool (Kc l m)]:=by
 have hl:l.length≤1000000:=AC h;by_cases hm:l.length=m.length
 ·obtain ⟨N,hN⟩:=u3t l m hl hm l.length 0 (Ag _);refine ⟨N,?_⟩;unfold z7m;rw [z0q (show (l.length:Int)=(m.length:Nat) by omega)];exact hN
 ·refine ⟨0,?_⟩;unfold z7m;rw [z0p (show (l.length:Int)≠(m.length:Nat) by omega)];have:Kc l m=false:=Ay fun e=>hm (by rw [e]);rw [this];rfl
theorem u3n (l m:List R4) (hl:l.length≤1000000) (hm:l.length=m.length): ∀(k i:Nat),i+k=l.length→ ∃N,Zs (z6f l m) N (.to (.h0 (i:Int)))=.ret [.bool (decide (l.drop i=m.drop i))]
 | 0,i,h=>by refine ⟨1,?_⟩;rw [Zv,At (show l.length≤i by omega),At (show m.length≤i by omega)];simp (disch:=omega) only [z6f,Xm,Yn,Zn,Yz,Wz,Yk,Yc,Yp,Zo,Zk,Zf,z0p,z0q,Av,Zx,Zt,Zh,Ym,Zj,Ag,Ai,Al,Ab,Aa,AG,AK,Zp]
 | k+1,i,h=>by
  obtain ⟨N,hN⟩:=u3n l m hl hm k (i+1) (by omega);refine ⟨N+1,?_⟩;rw [Zv,Yj (show i<l.length by omega),Yj (show i<m.length by omega),z5j];rcases Yd (decide (rd l i=rd m i)) with q | q
  ·simp (disch:=omega) only [z6f,v9e,q,Xm,Yn,Zn,Yz,Wz,Yk,Yc,Yp,Zo,Zk,Zf,z0p,z0q,Av,Zx,Zt,Zh,Ym,Zj,Ag,Ai,Al,Ab,Aa,AG,AK,Zp];exact hN
  ·simp (disch:=omega) only [z6f,v9e,q,Xm,Yn,Zn,Yz,Wz,Yk,Yc,Yp,Zo,Zk,Zf,z0p,z0q,Av,Zx,Zt,Zh,Ym,Zj,Ag,Ai,Al,Ab,Aa,AG,AK,Zp,Bx]
theorem u8x (l m:List R4) (h:Wg l m=true): ∃N,Zs (z6f l m) N (z7k l m)=.ret [.bool (Ur l m)]:=by
 have hl:l.length≤1000000:=AC h;by_cases hm:l.length=m.length
 ·obtain ⟨N,hN⟩:=u3n l m hl hm l.length 0 (Ag _);refine ⟨N,?_⟩;unfold z7k;rw [z0q (show (l.length:Int)=(m.length:Nat) by omega)];exact hN
 ·refine ⟨0,?_⟩;unfold z7k;rw [z0p (show (l.length:Int)≠(m.length:Nat) by omega)];have:Ur l m=false:=Ay fun e=>hm (by rw [e]);rw [this];rfl
theorem u3x (l m:List R6) (hl:l.length≤1000000) (hm:l.length=m.length): ∀(k i:Nat),i+k=l.length→ ∃N,Zs (z6i l m) N (.to (.h0 (i:Int)))=.ret [.bool (decide (l.drop i=m.drop i))]
 | 0,i,h=>by refine ⟨1,?_⟩;rw [Zv,At (show l.length≤i by omega),At (show m.length≤i by omega)];simp (disch:=omega) only [z6i,Xm,Yn,Zn,Yz,Wz,Yk,Yc,Yp,Zo,Zk,Zf,z0p,z0q,Av,Zx,Zt,Zh,Ym,Zj,Ag,Ai,Al,Ab,Aa,AG,AK,Zp]
 | k+1,i,h=>by
  obtain ⟨N,hN⟩:=u3x l m hl hm k (i+1) (by omega);refine ⟨N+1,?_⟩;rw [Zv,Yj (show i<l.length by omega),Yj (show i<m.length by omega),z5j];rcases Yd (decide (rd l i=rd m i)) with q | q
  ·simp (disch:=omega) only [z6i,v9d,q,Xm,Yn,Zn,Yz,Wz,Yk,Yc,Yp,Zo,Zk,Zf,z0p,z0q,Av,Zx,Zt,Zh,Ym,Zj,Ag,Ai,Al,Ab,Aa,AG,AK,Zp];exact hN
  ·simp (disch:=omega) only [z6i,v9d,q,Xm,Yn,Zn,Yz,Wz,Yk,Yc,Yp,Zo,Zk,Zf,z0p,z0q,Av,Zx,Zt,Zh,Ym,Zj,Ag,Ai,Al,Ab,Aa,AG,AK,Zp,Bx]
theorem u9h (l m:List R6) (h:Vp l m=true): ∃N,Zs (z6i l m) N (z7n l m)=.ret [.bool (Kb l m)]:=by
 have hl:l.length≤1000000:=AC h;by_cases hm:l.length=m.length
 ·obtain ⟨N,hN⟩:=u3x l m hl hm l.length 0 (Ag _);refine ⟨N,?_⟩;unfold z7n;rw [z0q (show (l.length:Int)=(m.length:Nat) by omega)];exact hN
 ·refine ⟨0,?_⟩;unfold z7n;rw [z0p (show (l.length:Int)≠(m.length:Nat) by omega)];have:Kb l m=false:=Ay fun e=>hm (by rw [e]);rw [this];rfl
theorem u6w (l m:List R2) (hl:l.length≤1000000) (hm:l.length=m.length): ∀(k i:Nat),i+k=l.length→ ∃N,Zs (z6w l m) N (.to (.h0 (i:Int)))=.ret [.bool (decide (l.drop i=m.drop i))]
 | 0,i,h=>by refine ⟨1,?_⟩;rw [Zv,At (show l.length≤i by omega),At (show m.length≤i by omega)];simp (disch:=omega) only [z6w,Xm,Yn,Zn,Yz,Wz,Yk,Yc,Yp,Zo,Zk,Zf,z0p,z0q,Av,Zx,Zt,Zh,Ym,Zj,Ag,Ai,Al,Ab,Aa,AG,AK,Zp]
 | k+1,i,h=>by
  obtain ⟨N,hN⟩:=u6w l m hl hm k (i+1) (by omega);refine ⟨N+1,?_⟩;rw [Zv,Yj (show i<l.length by omega),Yj (show i<m.length by omega),z5j];rcases Yd (decide (rd l i=rd m i)) with q | q
  ·simp (disch:=omega) only [z6w,v9f,q,Xm,Yn,Zn,Yz,Wz,Yk,Yc,Yp,Zo,Zk,Zf,z0p,z0q,Av,Zx,Zt,Zh,Ym,Zj,Ag,Ai,Al,Ab,Aa,AG,AK,Zp];exact hN
  ·simp (disch:=omega) only [z6w,v9f,q,Xm,Yn,Zn,Yz,Wz,Yk,Yc,Yp,Zo,Zk,Zf,z0p,z0q,Av,Zx,Zt,Zh,Ym,Zj,Ag,Ai,Al,Ab,Aa,AG,AK,Zp,Bx]
theorem j3z (l m:List R2) (h:Vm l m=true): ∃N,Zs (z6w l m) N (z8o l m)=.ret [.bool (Kc l m)]:=by
 have hl:l.length≤1000000:=AC h;by_cases hm:l.length=m.length
 ·obtain ⟨N,hN⟩:=u6w l m hl hm l.length 0 (Ag _);refine ⟨N,?_⟩;unfold z8o;rw [z0q (show (l.length:Int)=(m.length:Nat) by omega)];exact hN
 ·refine ⟨0,?_⟩;unfold z8o;rw [z0p (show (l.length:Int)≠(m.length:Nat) by omega)];have:Kc l m=false:=Ay fun e=>hm (by rw [e]);rw [this];rfl
theorem u6v (l m:List R4) (hl:l.length≤1000000) (hm:l.length=m.length): ∀(k i:Nat),i+k=l.length→ ∃N,Zs (z6v l m) N (.to (.h0 (i:Int)))=.ret [.bool (decide (l.drop i=m.drop i))]
 | 0,i,h=>by refine ⟨1,?_⟩;rw [Zv,At (show l.length≤i by omega),At (show m.length≤i by omega)];simp (disch:=omega) only [z6v,Xm,Yn,Zn,Yz,Wz,Yk,Yc,Yp,Zo,Zk,Zf,z0p,z0q,Av,Zx,Zt,Zh,Ym,Zj,Ag,Ai,Al,Ab,Aa,AG,AK,Zp]
 | k+1,i,h=>by
  obtain ⟨N,hN⟩:=u6v l m hl hm k (i+1) (by omega);refine ⟨N+1,?_⟩;rw [Zv,Yj (show i<l.length by omega),Yj (show i<m.length by omega),z5j];rcases Yd (decide (rd l i=rd m i)) with q | q
  ·simp (disch:=omega) only [z6v,v9e,q,Xm,Yn,Zn,Yz,Wz,Yk,Yc,Yp,Zo,Zk,Zf,z0p,z0q,Av,Zx,Zt,Zh,Ym,Zj,Ag,Ai,Al,Ab,Aa,AG,AK,Zp];exact hN
  ·simp (disch:=omega) only [z6v,v9e,q,Xm,Yn,Zn,Yz,Wz,Yk,Yc,Yp,Zo,Zk,Zf,z0p,z0q,Av,Zx,Zt,Zh,Ym,Zj,Ag,Ai,Al,Ab,Aa,AG,AK,Zp,Bx]
theorem j3y (l m:List R4) (h:Wg l m=true): ∃N,Zs (z6v l m) N (z8n l m)=.ret [.bool (Ur l m)]:=by
 have hl:l.length≤1000000:=AC h;by_cases hm:l.length=m.length
 ·obtain ⟨N,hN⟩:=u6v l m hl hm l.length 0 (Ag _);refine ⟨N,?_⟩;unfold z8n;rw [z0q (show (l.length:Int)=(m.length:Nat) by omega)];exact hN
 ·refine ⟨0,?_⟩;unfold z8n;rw [z0p (show (l.length:Int)≠(m.length:Nat) by omega)];have:Ur l m=false:=Ay fun e=>hm (by rw [e]);rw [this];rfl
theorem u6u (l m:List R6) (hl:l.length≤1000000) (hm:l.length=m.length): ∀(k i:Nat),i+k=l.length→ ∃N,Zs (z6u l m) N (.to (.h0 (i:Int)))=.ret [.bool (decide (l.drop i=m.drop i))]
 | 0,i,h=>by refine ⟨1,?_⟩;rw [Zv,At (show l.length≤i by omega),At (show m.length≤i by omega)];simp (disch:=omega) only [z6u,Xm,Yn,Zn,Yz,Wz,Yk,Yc,Yp,Zo,Zk,Zf,z0p,z0q,Av,Zx,Zt,Zh,Ym,Zj,Ag,Ai,Al,Ab,Aa,AG,AK,Zp]
 | k+1,i,h=>by
  obtain ⟨N,hN⟩:=u6u l m hl hm k (i+1) (by omega);refine ⟨N+1,?_⟩;rw [Zv,Yj (show i<l.length by omega),Yj (show i<m.length by omega),z5j];rcases Yd (decide (rd l i=rd m i)) with q | q
  ·simp (disch:=omega) only [z6u,v9d,q,Xm,Yn,Zn,Yz,Wz,Yk,Yc,Yp,Zo,Zk,Zf,z0p,z0q,Av,Zx,Zt,Zh,Ym,Zj,Ag,Ai,Al,Ab,Aa,AG,AK,Zp];exact hN
  ·simp (disch:=omega) only [z6u,v9d,q,Xm,Yn,Zn,Yz,Wz,Yk,Yc,Yp,Zo,Zk,Zf,z0p,z0q,Av,Zx,Zt,Zh,Ym,Zj,Ag,Ai,Al,Ab,Aa,AG,AK,Zp,Bx]
theorem j3x (l m:List R6) (h:Vp l m=true): ∃N,Zs (z6u l m) N (z8m l m)=.ret [.bool (Kb l m)]:=by
 have hl:l.length≤1000000:=AC h;by_cases hm:l.length=m.length
 ·obtain ⟨N,hN⟩:=u6u l m hl hm l.length 0 (Ag _);refine ⟨N,?_⟩;unfold z8m;rw [z0q (show (l.length:Int)=(m.length:Nat) by omega)];exact hN
 ·refine ⟨0,?_⟩;unfold z8m;rw [z0p (show (l.length:Int)≠(m.length:Nat) by omega)];have:Kb l m=false:=Ay fun e=>hm (by rw [e]);rw [this];rfl
def in4 (x y:Int) (r:R4):Bool:=decide (r.a≤x)&&(decide (x<r.c)&&(decide (r.b≤y)&&decide (y<r.d)))
def has4V (l:List R4) (x y:Int):Bool:=l.any (in4 x y)
def z0g (l:List R4) (x y:Int):Bool:=decide (l.length≤1000000)
theorem v1b (l:List R4) (x y:Int) (hl:l.length≤1000000): ∀(k i:Nat),i+k=l.length→ ∃N,Zs (z5c l x y) N (.to (.h0 (i:Int)))=.ret [.bool ((l.drop i).any (in4 x y))]
 | 0,i,h=>by refine ⟨1,?_⟩;rw [Zv,At (show l.length≤i by omega)];simp (disch:=omega) only [z5c,Xm,Yn,Zn,Yz,Wz,Yk,Yc,Yp,Zo,Zk,Zf,z0p,z0q,Av,Zx,Zt,Zh,Ym,Zj,Ag,Ai,Al,Ab,Aa,AG,AK,Zp];rfl
 | k+1,i,h=>by
  obtain ⟨N,hN⟩:=v1b l x y hl k (i+1) (by omega);refine ⟨N+1,?_⟩;rw [Zv,Yj (show i<l.length by omega),Ct];unfold in4 at hN ⊢;rcases Yd (decide ((rd l i).a ≤x)) with q1 | q1 <;> rcases Yd (decide (x<(rd l i).c)) with q2 | q2 <;> rcases Yd (decide ((rd l i).b ≤y)) with q3 | q3 <;> rcases Yd (decide (y<(rd l i).d)) with q4 | q4 <;>
   simp (disch:=omega) only [z5c,q1,q2,q3,q4,Xm,Yn,Zn,Yz,Wz,Yk,Yc,Yp,Zo,Zk,Zf,z0p,z0q,Av,Zx,Zt,Zh,Ym,Zj,Ag,Ai,Al,Ab,Aa,AG,AK,Zp,Bx,Bool.and_false,BF,BW] <;> exact hN
theorem v8e (l:List R4) (x y:Int) (h:z0g l x y=true): ∃N,Zs (z5c l x y) N (z7s l x y)=.ret [.bool (has4V l x y)]:=by
 have:=v1b l x y (AC h) l.length 0 (Ag _)
 simpa [z7s,has4V] using this
def on6 (z:Int) (b:R6):Bool:=decide (b.c≤z)&&decide (z<b.f)
def j2a (b:R6):R4:=⟨b.a,b.b,b.d,b.e⟩
def atV (l:List R6) (z:Int):List R4:=(l.filter (on6 z)).map j2a
def z5n (l:List R6) (z:Int):Bool:=decide (l.length≤1000000)
theorem v1v (l:List R6) (z:Int) (hl:l.length≤1000000): ∀(k i:Nat) (out:List R4),i+k=l.length→out.length≤i→ ∃N,Zs (z6m l z) N (.to (.h0 out (i:Int)))=.ret [.dat (out++atV (l.drop i) z).length (Zz (out++atV (l.drop i) z))]
 | 0,i,out,h,ho=>by refine ⟨1,?_⟩;rw [Zv,At (show l.length≤i by omega)];simp (disch:=omega) only [z6m,Xm,Yn,Zn,Yz,Wz,Yk,Yc,Yp,Zo,Zk,Zf,z0p,z0q,Av,Zx,Zt,Zh,Ym,Zj,Ag,Ai,Al,Ab,Aa,AG,AK,Zp,atV,List.filter_nil,Bb,Az]
 | k+1,i,out,h,ho=>by
  rw [Yj (show i<l.length by omega)];have e:atV (rd l i::l.drop (i+1)) z=(bif on6 z (rd l i) then [j2a (rd l i)] else [])++atV (l.drop (i+1)) z:=by unfold atV;rw [Br];cases on6 z (rd l i) <;> rfl
  rw [e,←AH];rcases Yd (decide ((rd l i).c ≤z)) with q1 | q1 <;> rcases Yd (decide (z<(rd l i).f)) with q2 | q2
  ·obtain ⟨N,hN⟩:=v1v l z hl k (i+1) (out++[j2a (rd l i)]) (by omega) (by simp;omega);refine ⟨N+1,?_⟩;rw [Zv];simp (disch:=omega) only [z6m,q1,q2,on6,Xm,Yn,Zn,Yz,Wz,Yk,Yc,Yp,Zo,Zk,Zf,z0p,z0q,Av,Zx,Zt,Zh,Ym,Zj,Ag,Ai,Al,Ab,Aa,AG,AK,Zp];exact hN
  all_goals
   obtain ⟨N,hN⟩:=v1v l z hl k (i+1) out (by omega) (by omega);refine ⟨N+1,?_⟩;rw [Zv];simp (disch:=omega) only [z6m,q1,q2,on6,Xm,Yn,Zn,Yz,Wz,Yk,Yc,Yp,Zo,Zk,Zf,z0p,z0q,Av,Zx,Zt,Zh,Ym,Zj,Ag,Ai,Al,Ab,Aa,AG,AK,Zp,Bx,Bool.and_false,Az];exact hN
theorem j0o (l:List R6) (z:Int) (h:z5n l z=true): ∃N,Zs (z6m l z) N (y3a l z)=.ret [.dat (atV l z).length (Zz (atV l z))]:=by
 have:=v1v l z (AC h) l.length 0 [] (Ag _) (Ao _)
 simpa [y3a] using this
def w8w (cuts:List Int) (ins:List Bool):Nat→Nat→List R2→List R2
 | 0,_,out=>out
 | k+1,i,out=>w8w cuts ins k (i+1) (bif rd ins i then (bif decide (0<out.length)&&((rd out (out.length - 1)).b == rd cuts i) then out.set (out.length - 1) ⟨(rd out (out.length - 1)).a,rd cuts (i+1)⟩ else out++[⟨rd cuts i,rd cuts (i+1)⟩]) else out)
def z1q (cuts:List Int) (ins:List Bool):List R2:=w8w cuts ins (cuts.length - 1) 0 []
def Qw (cuts:List Int) (ins:List Bool):Bool:=decide (cuts.length≤1000000∧cuts.length≤ins.length+1)
theorem x0s (cuts:List Int) (ins:List Bool) (hl:cuts.length≤1000000) (hi:cuts.length≤ins.length+1): ∀(k i:Nat) (out:List R2),k=cuts.length - 1 - i→i≤cuts.length→out.length≤i→ ∃N,Zs (Qh cuts ins) N (.to (.h0 out (i:Int)))=.ret [.dat (w8w cuts ins k i out).length (Zz (w8w cuts ins k i out))]
 | 0,i,out,h,hi2,ho=>by refine ⟨1,?_⟩;rw [Zv];simp (disch:=omega) only [Qh,Xm,Yn,Zn,Yz,Wz,Yk,Yc,Yp,Zo,Zk,Zf,z0p,z0q,Av,Zx,Zt,Zh,Ym,Zj,Ag,Ai,Al,Ab,Aa,AG,AK,Zp,w8w]
 | k+1,i,out,h,hi2,ho=>by
  unfold w8w;rcases Yd (rd ins i) with q | q
  ·rcases Yd (decide (0<out.length)&&((rd out (out.length - 1)).b == rd cuts i)) with q2 | q2
   ·obtain ⟨N,hN⟩:=x0s cuts ins hl hi k (i+1) (out.set (out.length - 1) ⟨(rd out (out.length - 1)).a,rd cuts (i+1)⟩) (by omega) (by omega) (by simp;omega);refine ⟨N+1,?_⟩;rw [Zv,q,q2];simp only [Ac,As] at q2;simp (disch:=omega) only [Qh,q,q2.2,Xm,Yn,Zn,Yz,Wz,Yk,Yc,Yp,Zo,Zk,Zf,z0p,z0q,Av,Zx,Zt,Zh,Ym,Zj,Ag,Ai,Al,Ab,Aa,AG,AK,Zp];exact hN
   ·obtain ⟨N,hN⟩:=x0s cuts ins hl hi k (i+1) (out++[⟨rd cuts i,rd cuts (i+1)⟩]) (by omega) (by omega) (by simp;omega);refine ⟨N+1,?_⟩;rw [Zv,q,q2];by_cases h0:0<out.length
    ·rw [Ah h0,Al] at q2;simp (disch:=omega) only [Qh,q,q2,Xm,Yn,Zn,Yz,Wz,Yk,Yc,Yp,Zo,Zk,Zf,z0p,z0q,Av,Zx,Zt,Zh,Ym,Zj,Ag,Ai,Al,Ab,Aa,AG,AK,Zp];exact hN
    ·simp (disch:=omega) only [Qh,q,Xm,Yn,Zn,Yz,Wz,Yk,Yc,Yp,Zo,Zk,Zf,z0p,z0q,Av,Zx,Zt,Zh,Ym,Zj,Ag,Ai,Al,Ab,Aa,AG,AK,Zp];exact hN
  ·obtain ⟨N,hN⟩:=x0s cuts ins hl hi k (i+1) out (by omega) (by omega) (by omega);refine ⟨N+1,?_⟩;rw [Zv,q];simp (disch:=omega) only [Qh,q,Xm,Yn,Zn,Yz,Wz,Yk,Yc,Yp,Zo,Zk,Zf,z0p,z0q,Av,Zx,Zt,Zh,Ym,Zj,Ag,Ai,Al,Ab,Aa,AG,AK,Zp];exact hN
theorem v8x (cuts:List Int) (ins:List Bool) (h:Qw cuts ins=true): ∃N,Zs (Qh cuts ins) N (z7z cuts ins)=.ret [.dat (z1q cuts ins).length (Zz (z1q cuts ins))]:=by
 obtain ⟨h1,h2⟩:=AC h;have:=x0s cuts ins h1 h2 (cuts.length - 1) 0 [] (by omega) (AA _) (Ao _)
 simpa [z7z,z1q] using this
abbrev v2g :Nat:=70
abbrev u5w :Nat:=142
abbrev u5o :Nat:=169
abbrev u5t :Nat:=167
abbrev nHas4 :Nat:=168
abbrev u5n :Nat:=128
abbrev nXs :Nat:=165
abbrev nYs :Nat:=166
abbrev u5s :Nat:=126
abbrev u5m :Nat:=20
abbrev nAt :Nat:=127
abbrev nCuts :Nat:=125
abbrev u5r :Nat:=72
abbrev v2j :Nat:=53
abbrev nEq2 :Nat:=188
abbrev nEq4 :Nat:=172
abbrev nEq6 :Nat:=99
abbrev u5l :Nat:=200
abbrev w2v :Nat:=201
abbrev nSort :Nat:=63
abbrev w2w :Nat:=64
abbrev nFst :Nat:=187
abbrev x3v :Nat:=157
abbrev w2u :Nat:=65
abbrev v2i :Nat:=121
abbrev w2s :Nat:=120
abbrev w2r :Nat:=94
abbrev x3w :Nat:=51
abbrev w2q :Nat:=191
abbrev nSpU1 :Nat:=164
abbrev nSpE1 :Nat:=170
abbrev nSpD1 :Nat:=163
abbrev nSpU :Nat:=124
abbrev nSpE :Nat:=129
abbrev nSpD :Nat:=123
abbrev w2t :Nat:=189
abbrev nRgU :Nat:=67
abbrev nRgE :Nat:=79
abbrev nRgD :Nat:=66
abbrev v2h :Nat:=47
abbrev nSHas :Nat:=43
-- not there: gambrel/gambrelref39.Floor
abbrev nIn16 :Nat:=38
abbrev nMCut :Nat:=141
abbrev v2l :Nat:=101
abbrev u5p :Nat:=52
abbrev nMOf :Nat:=15
abbrev v2k :Nat:=22
abbrev v2m :Nat:=24
abbrev u5q :Nat:=73
abbrev u5v :Nat:=42
abbrev u5u :Nat:=37
abbrev nMv1 :Nat:=105
abbrev nMv2 :Nat:=106
abbrev nMv3 :Nat:=107
abbrev nMv4 :Nat:=108
abbrev nMv5 :Nat:=109
abbrev nMv6 :Nat:=110
abbrev nMv7 :Nat:=111
abbrev nMv8 :Nat:=112
abbrev nMv9 :Nat:=113
def y1g (k:Int) (a b:Bool):Bool:=bif k == 1 then a&&b else bif k == 2 then a||b else a&& !b
def w3l (a b:Bool):Bool:=a
theorem j1w (k:Int) (a b:Bool): ∃N,Zs (x9l k a b) N (y3k k a b)=.ret [.bool (y1g k a b)]:=by
 refine ⟨0,?_⟩;unfold y3k y1g;cases a <;> cases b <;> rcases Yd (k == 1) with q | q <;> rcases Yd (k == 2) with q2 | q2 <;> rw [q] <;> (try rw [q2]) <;> rfl
theorem j1y (a b:Bool): ∃N,Zs (x9q a b) N (x1m a b)=.ret [.bool (w3l a b)]:=⟨0,rfl⟩
def fSrt :List AVal→Option (AVal×Bool)
 | [a0]=>match asL Int a0 with
  | some (L0,g0,n0)=>some (.dat (Un L0).length (Zz (Un L0)),isT Int n0 g0&&(Wu L0))
  | _=>none
 | _=>none
theorem j2i {S:Specs} (hS:Zu prog S):Zu prog (S.with v2g fSrt):=by
 refine z0l hS (by kernel_rfl) fun args v h=> ?_;unfold fSrt at h;split at h
 ·rename_i a0;split at h
  ·rename_i L0 g0 n0 e0;simp only [Ae,Ad,Ac] at h;obtain ⟨rfl,ho0,hw⟩:=h;obtain ⟨N,hN⟩:=v0o L0 hw;exact ⟨_,_,(.cons (asL_le e0 ho0) .nil),rfl,w5l L0 N _ hN,3,rfl⟩
  ·cases h
 ·cases h
def fCan :List AVal→Option (AVal×Bool)
 | [a0,a1]=>match asL Int a0,asL Bool a1 with
  | some (L0,g0,n0),some (L1,g1,n1)=>some (.dat (z1q L0 L1).length (Zz (z1q L0 L1)),isT Int n0 g0&&(isT Bool n1 g1&&(Qw L0 L1)))
  | _,_=>none
 | _=>none
theorem j3t {S:Specs} (hS:Zu prog S):Zu prog (S.with u5w fCan):=by
 refine z0l hS (by kernel_rfl) fun args v h=> ?_;unfold fCan at h;split at h
 ·rename_i a0 a1;split at h
  ·rename_i L0 g0 n0 L1 g1 n1 e0 e1;simp only [Ae,Ad,Ac] at h;obtain ⟨rfl,ho0,ho1,hw⟩:=h;obtain ⟨N,hN⟩:=v8x L0 L1 hw;exact ⟨_,_,(.cons (asL_le e0 ho0) (.cons (asL_le e1 ho1) .nil)),rfl,v1u L0 L1 N _ hN,3,rfl⟩
  ·cases h
 ·cases h
def y9m :List AVal→Option (AVal×Bool)
 | [a0,a1]=>match asL R2 a0,asL R2 a1 with
  | some (L0,g0,n0),some (L1,g1,n1)=>some (.bool (Kc L0 L1),isT R2 n0 g0&&(isT R2 n1 g1&&(Vm L0 L1)))
  | _,_=>none
 | _=>none
theorem v4h {S:Specs} (hS:Zu prog S):Zu prog (S.with u5o y9m):=by
 refine z0l hS (by kernel_rfl) fun args v h=> ?_;unfold y9m at h;split at h
 ·rename_i a0 a1;split at h
  ·rename_i L0 g0 n0 L1 g1 n1 e0 e1;simp only [Ae,Ad,Ac] at h;obtain ⟨rfl,ho0,ho1,hw⟩:=h;obtain ⟨N,hN⟩:=u9e L0 L1 hw;exact ⟨_,_,(.cons (asL_le e0 ho0) (.cons (asL_le e1 ho1) .nil)),rfl,v7r L0 L1 N _ hN,3,rfl⟩
  ·cases h
 ·cases h
def y9l :List AVal→Option (AVal×Bool)
 | [a0,a1]=>match asL R4 a0,asL R4 a1 with
  | some (L0,g0,n0),some (L1,g1,n1)=>some (.bool (Ur L0 L1),isT R4 n0 g0&&(isT R4 n1 g1&&(Wg L0 L1)))
  | _,_=>none
 | _=>none
theorem v4g {S:Specs} (hS:Zu prog S):Zu prog (S.with u5n y9l):=by
 refine z0l hS (by kernel_rfl) fun args v h=> ?_;unfold y9l at h;split at h
 ·rename_i a0 a1;split at h
  ·rename_i L0 g0 n0 L1 g1 n1 e0 e1;simp only [Ae,Ad,Ac] at h;obtain ⟨rfl,ho0,ho1,hw⟩:=h;obtain ⟨N,hN⟩:=u8x L0 L1 hw;exact ⟨_,_,(.cons (asL_le e0 ho0) (.cons (asL_le e1 ho1) .nil)),rfl,v7o L0 L1 N _ hN,3,rfl⟩
  ·cases h
 ·cases h
def y9k :List AVal→Option (AVal×Bool)
 | [a0,a1]=>match asL R6 a0,asL R6 a1 with
  | some (L0,g0,n0),some (L1,g1,n1)=>some (.bool (Kb L0 L1),isT R6 n0 g0&&(isT R6 n1 g1&&(Vp L0 L1)))
  | _,_=>none
 | _=>none
theorem v4f {S:Specs} (hS:Zu prog S):Zu prog (S.with u5m y9k):=by
 refine z0l hS (by kernel_rfl) fun args v h=> ?_;unfold y9k at h;split at h
 ·rename_i a0 a1;split at h
  ·rename_i L0 g0 n0 L1 g1 n1 e0 e1;simp only [Ae,Ad,Ac] at h;obtain ⟨rfl,ho0,ho1,hw⟩:=h;obtain ⟨N,hN⟩:=u9h L0 L1 hw;exact ⟨_,_,(.cons (asL_le e0 ho0) (.cons (asL_le e1 ho1) .nil)),rfl,v7v L0 L1 N _ hN,3,rfl⟩
  ·cases h
 ·cases h
def j3k :List AVal→Option (AVal×Bool)
 | [a0,.int .i64 x1,.int .i64 x2]=>match asL R4 a0 with
  | some (L0,g0,n0)=>some (.bool (has4V L0 x1 x2),isT R4 n0 g0&&(z0g L0 x1 x2))
  | _=>none
 | _=>none
theorem u0z {S:Specs} (hS:Zu prog S):Zu prog (S.with nHas4 j3k):=by
 refine z0l hS (by kernel_rfl) fun args v h=> ?_;unfold j3k at h;split at h
 ·rename_i a0 x1 x2;split at h
  ·rename_i L0 g0 n0 e0;simp only [Ae,Ad,Ac] at h;obtain ⟨rfl,ho0,hw⟩:=h;obtain ⟨N,hN⟩:=v8e L0 x1 x2 hw;exact ⟨_,_,(.cons (asL_le e0 ho0) (.cons (.refl _) (.cons (.refl _) .nil))),rfl,v1c L0 x1 x2 N _ hN,3,rfl⟩
  ·cases h
 ·cases h
def fAt :List AVal→Option (AVal×Bool)
 | [a0,.int .i64 x1]=>match asL R6 a0 with
  | some (L0,g0,n0)=>some (.dat (atV L0 x1).length (Zz (atV L0 x1)),isT R6 n0 g0&&(z5n L0 x1))
  | _=>none
 | _=>none
theorem fAt_ok {S:Specs} (hS:Zu prog S):Zu prog (S.with nAt fAt):=by
 refine z0l hS (by kernel_rfl) fun args v h=> ?_;unfold fAt at h;split at h
 ·rename_i a0 x1;split at h
  ·rename_i L0 g0 n0 e0;simp only [Ae,Ad,Ac] at h;obtain ⟨rfl,ho0,hw⟩:=h;obtain ⟨N,hN⟩:=j0o L0 x1 hw;exact ⟨_,_,(.cons (asL_le e0 ho0) (.cons (.refl _) .nil)),rfl,v9a L0 x1 N _ hN,3,rfl⟩
  ·cases h
 ·cases h
def v4k :List AVal→Option (AVal×Bool)
 | [.int .i64 x0,.bool b1,.bool b2]=>some (.bool (y1g x0 b1 b2),true)
 | _=>none
theorem v4j {S:Specs} (hS:Zu prog S):Zu prog (S.with u5t v4k):=by
 refine z0l hS (by kernel_rfl) fun args v h=> ?_;unfold v4k at h;split at h
 ·rename_i x0 b1 b2;simp only [Ae,Ad,Cg] at h;subst h;obtain ⟨N,hN⟩:=j1w x0 b1 b2;exact ⟨_,_,(.cons (.refl _) (.cons (.refl _) (.cons (.refl _) .nil))),rfl,u0o x0 b1 b2 N _ hN,3,rfl⟩
 ·cases h
def fFst :List AVal→Option (AVal×Bool)
 | [.bool b0,.bool b1]=>some (.bool (w3l b0 b1),true)
 | _=>none
theorem j3m {S:Specs} (hS:Zu prog S):Zu prog (S.with nFst fFst):=by
 refine z0l hS (by kernel_rfl) fun args v h=> ?_;unfold fFst at h;split at h
 ·rename_i b0 b1;simp only [Ae,Ad,Cg] at h;subst h;obtain ⟨N,hN⟩:=j1y b0 b1;exact ⟨_,_,(.cons (.refl _) (.cons (.refl _) .nil)),rfl,u0q b0 b1 N _ hN,3,rfl⟩
 ·cases h
theorem w7r {S:Specs} (hS:Zu prog S):Zu prog (S.with nEq2 y9m):=by
 refine z0l hS (by kernel_rfl) fun args v h=> ?_;unfold y9m at h;split at h
 ·rename_i a0 a1;split at h
  ·rename_i L0 g0 n0 L1 g1 n1 e0 e1;simp only [Ae,Ad,Ac] at h;obtain ⟨rfl,ho0,ho1,hw⟩:=h;obtain ⟨N,hN⟩:=j3z L0 L1 hw;exact ⟨_,_,(.cons (asL_le e0 ho0) (.cons (asL_le e1 ho1) .nil)),rfl,u1g L0 L1 N _ hN,3,rfl⟩
  ·cases h
 ·cases h
theorem w7q {S:Specs} (hS:Zu prog S):Zu prog (S.with nEq4 y9l):=by
 refine z0l hS (by kernel_rfl) fun args v h=> ?_;unfold y9l at h;split at h
 ·rename_i a0 a1;split at h
  ·rename_i L0 g0 n0 L1 g1 n1 e0 e1;simp only [Ae,Ad,Ac] at h;obtain ⟨rfl,ho0,ho1,hw⟩:=h;obtain ⟨N,hN⟩:=j3y L0 L1 hw;exact ⟨_,_,(.cons (asL_le e0 ho0) (.cons (asL_le e1 ho1) .nil)),rfl,u1f L0 L1 N _ hN,3,rfl⟩
  ·cases h
 ·cases h
theorem w7p {S:Specs} (hS:Zu prog S):Zu prog (S.with nEq6 y9k):=by
 refine z0l hS (by kernel_rfl) fun args v h=> ?_;unfold y9k at h;split at h
 ·rename_i a0 a1;split at h
  ·rename_i L0 g0 n0 L1 g1 n1 e0 e1;simp only [Ae,Ad,Ac] at h;obtain ⟨rfl,ho0,ho1,hw⟩:=h;obtain ⟨N,hN⟩:=j3x L0 L1 hw;exact ⟨_,_,(.cons (asL_le e0 ho0) (.cons (asL_le e1 ho1) .nil)),rfl,u1e L0 L1 N _ hN,3,rfl⟩
  ·cases h
 ·cases h
def T1 :Specs:=((((((((((((noSpecs.with v2g fSrt).with u5w fCan).with u5o y9m).with u5n y9l).with u5m y9k).with nHas4 j3k).with nAt fAt).with u5t v4k).with nFst fFst).with nEq2 y9m).with nEq4 y9l).with nEq6 y9k)
theorem z3q :Zu prog T1:=w7p (w7q (w7r (j3m (v4j (fAt_ok (u0z (v4f (v4g (v4h (j3t (j2i Zm)))))))))))
inductive rxsS where
 | h0 (v5:List Int) (v6:Int)
 | h1 (v5:List Int) (v7:Int)
def rxsC (l0:List R4) (l1:List R4):rxsS→Cfg
 | .h0 v5 v6=>⟨⟨48,0,true⟩,none,(Zb prog 165 [1,1,0,1,0,0] 0),none,(Zy prog 5),⟨Yg [(0,(.dat l0.length (Zz l0))),(1,(.dat l1.length (Zz l1))),(5,(.sla 0 1 0 v5.length (.un 1))),(6,(ii v6))],Wh [⟨Yx v5.length (Zz v5),3,some ⟨1,v5.length,(Zz v5)⟩⟩] 0,1,[],true⟩,[],.leaf⟩
 | .h1 v5 v7=>⟨⟨48,0,true⟩,none,(Zb prog 165 [1,1,1,0,1,0,0] 0),none,(Zy prog 5),⟨Yg [(1,(.dat l1.length (Zz l1))),(5,(.sla 0 1 0 v5.length (.un 1))),(7,(ii v7))],Wh [⟨Yx v5.length (Zz v5),3,some ⟨1,v5.length,(Zz v5)⟩⟩] 0,1,[],true⟩,[],.leaf⟩
def rxsN0 :List (Option (List Nat)):=[some [0,1,5,6]]
def rxsM0 :List (Option (List Nat)):=[]
def rxsN1 :List (Option (List Nat)):=[some [1,5,7]]
def rxsM1 :List (Option (List Nat)):=[]
def z2t (l0:List R4) (l1:List R4):rxsS→Xv rxsS
 | .h0 v5 v6=>(bif (decide (v6<(l0.length:Int))) then (bif ((decide (0≤v6∧v6<(l0.length:Int)))&&true) then (bif (Nat.beq 1 1&&((decide (0+v5.length=v5.length))&&decide ((v5.length+2+1)*(8+1)≤Uw))) then (.to (.h0 (v5++[(rd l0 v6.toNat).a,(rd l0 v6.toNat).c]) (wrap .i64 (v6+1)))) else .stuck) else .stuck) else (.to (.h1 v5 0)))
 | .h1 v5 v7=>(bif (decide (v7<(l1.length:Int))) then (bif ((decide (0≤v7∧v7<(l1.length:Int)))&&true) then (bif (Nat.beq 1 1&&((decide (0+v5.length=v5.length))&&decide ((v5.length+2+1)*(8+1)≤Uw))) then (.to (.h1 (v5++[(rd l1 v7.toNat).a,(rd l1 v7.toNat).c]) (wrap .i64 (v7+1)))) else .stuck) else .stuck) else (bif (Wu (cvT v5)) then (.ret [(.dat (Un (cvT v5)).length (Zz (Un (cvT v5))))]) else .stuck))
def y2j (l0:List R4) (l1:List R4):Xv rxsS:=(.to (.h0 ([]:List Int) 0))
theorem w5g (l0:List R4) (l1:List R4): ∀s,Yt prog (Zy prog 165) (rxsC l0 l1) (rxsC l0 l1 s) (z2t l0 l1 s)
 | .h0 v5 v6=>(lb (fun k0=>(lo fun o0=>(lo fun o1=>(sl z3q 20 [] ⟨[2],[],rxsN0,rxsM0⟩ ⟨[(5,.len (v5++[(rd l0 (tn v6)).a,(rd l0 (tn v6)).c]).length)],[.rowed 1 (v5++[(rd l0 (tn v6)).a,(rd l0 (tn v6)).c]).length (Zz (v5++[(rd l0 (tn v6)).a,(rd l0 (tn v6)).c]))],[]⟩ [true] (pp (xL (v5.length+2) (v5++[(rd l0 (tn v6)).a,(rd l0 (tn v6)).c]).length) (pp (xL (v5.length+2) (v5++[(rd l0 (tn v6)).a,(rd l0 (tn v6)).c]).length) (pp (xS (v5.length+2) (Ze (Zz v5) 0 v5.length 1 [(ii (rd l0 (tn v6)).a),(ii (rd l0 (tn v6)).c)]) (Zz (v5++[(rd l0 (tn v6)).a,(rd l0 (tn v6)).c]))) (pp (pp (xF (Ze (Zz v5) 0 v5.length 1 [(ii (rd l0 (tn v6)).a),(ii (rd l0 (tn v6)).c)])) nn) (ww o1 (ww o0 (ww o0 (tt k0 nn)))))))))))) (fun k0=>(sl z3q 17 [] ⟨[0],[],rxsN1,rxsM1⟩ ⟨[],[],[]⟩ [false] (pp (fl v5 nn) (tt k0 nn)))))
 | .h1 v5 v7=>(lb (fun k0=>(lo fun o0=>(lo fun o1=>(sl z3q 20 [] ⟨[2],[],rxsN1,rxsM1⟩ ⟨[(5,.len (v5++[(rd l1 (tn v7)).a,(rd l1 (tn v7)).c]).length)],[.rowed 1 (v5++[(rd l1 (tn v7)).a,(rd l1 (tn v7)).c]).length (Zz (v5++[(rd l1 (tn v7)).a,(rd l1 (tn v7)).c]))],[]⟩ [true] (pp (xL (v5.length+2) (v5++[(rd l1 (tn v7)).a,(rd l1 (tn v7)).c]).length) (pp (xL (v5.length+2) (v5++[(rd l1 (tn v7)).a,(rd l1 (tn v7)).c]).length) (pp (xS (v5.length+2) (Ze (Zz v5) 0 v5.length 1 [(ii (rd l1 (tn v7)).a),(ii (rd l1 (tn v7)).c)]) (Zz (v5++[(rd l1 (tn v7)).a,(rd l1 (tn v7)).c]))) (pp (pp (xF (Ze (Zz v5) 0 v5.length 1 [(ii (rd l1 (tn v7)).a),(ii (rd l1 (tn v7)).c)])) nn) (ww o1 (ww o0 (ww o0 (tt k0 nn)))))))))))) (fun k0=>(Xb (sl z3q (C':=⟨⟨48,0,true⟩,(Uv prog 165 [1,1,1,1,0] 1),(Zb prog 165 [1,1,1,1,0] 1),none,(Zy prog 5),⟨Yg [(46,(.dat v5.length (Zz v5)))],Wh [] 0,0,[],true⟩,[],.leaf⟩) 13 [] ⟨[],[0],[some [46]],[]⟩ ⟨[(46,.frz v5.length v5.length (Zz v5) (Zz v5))],[],[]⟩ [false] (pp (xZ (z1p 1 1 0 v5.length v5.length (Zz v5)) v5.length (Zz v5)) (pp (xL v5.length v5.length) (pp (xS v5.length (Zz v5) (Zz v5)) (pp (fl v5 nn) (tt k0 nn)))))) (lo fun o0=>(lr 48 3 [1,1,1,1,1,1,1,0] 1 5 [(4,(.dat (Un (cvT v5)).length (Zz (Un (cvT v5)))))] (sl z3q 3 [] ⟨[],[],[some [4]],[]⟩ ⟨[],[],[]⟩ [] (pp (pp (xr v5) (xw o0)) nn)))))))
theorem x6u (l0:List R4) (l1:List R4):Yt prog (Zy prog 165) (rxsC l0 l1) (Za prog 165 [(.dat l0.length (Zz l0)),(.dat l1.length (Zz l1))] true []) (y2j l0 l1):=(sl z3q 15 [(3,1,Zz ([]:List Int))] ⟨[0],[],rxsN0,rxsM0⟩ ⟨[(5,.grow 0 1)],[],[]⟩ [] (pp (fl ([]:List Int) nn) nn))
theorem v7m (l0:List R4) (l1:List R4) (n:Nat) (vs:List AVal) (h:Zs (z2t l0 l1) n (y2j l0 l1)=.ret vs):Jy prog (Zy prog 165) (Za prog 165 [(.dat l0.length (Zz l0)),(.dat l1.length (Zz l1))] true []) vs:=by have:=Zd (w5g l0 l1) n _ (x6u l0 l1);rwa [h] at this
inductive rysS where
 | h0 (v5:List Int) (v6:Int)
 | h1 (v5:List Int) (v7:Int)
def rysC (l0:List R4) (l1:List R4):rysS→Cfg
 | .h0 v5 v6=>⟨⟨48,0,true⟩,none,(Zb prog 166 [1,1,0,1,0,0] 0),none,(Zy prog 5),⟨Yg [(0,(.dat l0.length (Zz l0))),(1,(.dat l1.length (Zz l1))),(5,(.sla 0 1 0 v5.length (.un 1))),(6,(ii v6))],Wh [⟨Yx v5.length (Zz v5),3,some ⟨1,v5.length,(Zz v5)⟩⟩] 0,1,[],true⟩,[],.leaf⟩
 | .h1 v5 v7=>⟨⟨48,0,true⟩,none,(Zb prog 166 [1,1,1,0,1,0,0] 0),none,(Zy prog 5),⟨Yg [(1,(.dat l1.length (Zz l1))),(5,(.sla 0 1 0 v5.length (.un 1))),(7,(ii v7))],Wh [⟨Yx v5.length (Zz v5),3,some ⟨1,v5.length,(Zz v5)⟩⟩] 0,1,[],true⟩,[],.leaf⟩
def rysN0 :List (Option (List Nat)):=[some [0,1,5,6]]
def rysM0 :List (Option (List Nat)):=[]
def rysN1 :List (Option (List Nat)):=[some [1,5,7]]
def rysM1 :List (Option (List Nat)):=[]
def z2s (l0:List R4) (l1:List R4):rysS→Xv rysS
 | .h0 v5 v6=>(bif (decide (v6<(l0.length:Int))) then (bif ((decide (0≤v6∧v6<(l0.length:Int)))&&true) then (bif (Nat.beq 1 1&&((decide (0+v5.length=v5.length))&&decide ((v5.length+2+1)*(8+1)≤Uw))) then (.to (.h0 (v5++[(rd l0 v6.toNat).b,(rd l0 v6.toNat).d]) (wrap .i64 (v6+1)))) else .stuck) else .stuck) else (.to (.h1 v5 0)))
 | .h1 v5 v7=>(bif (decide (v7<(l1.length:Int))) then (bif ((decide (0≤v7∧v7<(l1.length:Int)))&&true) then (bif (Nat.beq 1 1&&((decide (0+v5.length=v5.length))&&decide ((v5.length+2+1)*(8+1)≤Uw))) then (.to (.h1 (v5++[(rd l1 v7.toNat).b,(rd l1 v7.toNat).d]) (wrap .i64 (v7+1)))) else .stuck) else .stuck) else (bif (Wu (cvT v5)) then (.ret [(.dat (Un (cvT v5)).length (Zz (Un (cvT v5))))]) else .stuck))
def y2i (l0:List R4) (l1:List R4):Xv rysS:=(.to (.h0 ([]:List Int) 0))
theorem w5f (l0:List R4) (l1:List R4): ∀s,Yt prog (Zy prog 166) (rysC l0 l1) (rysC l0 l1 s) (z2s l0 l1 s)
 | .h0 v5 v6=>(lb (fun k0=>(lo fun o0=>(lo fun o1=>(sl z3q 20 [] ⟨[2],[],rysN0,rysM0⟩ ⟨[(5,.len (v5++[(rd l0 (tn v6)).b,(rd l0 (tn v6)).d]).length)],[.rowed 1 (v5++[(rd l0 (tn v6)).b,(rd l0 (tn v6)).d]).length (Zz (v5++[(rd l0 (tn v6)).b,(rd l0 (tn v6)).d]))],[]⟩ [true] (pp (xL (v5.length+2) (v5++[(rd l0 (tn v6)).b,(rd l0 (tn v6)).d]).length) (pp (xL (v5.length+2) (v5++[(rd l0 (tn v6)).b,(rd l0 (tn v6)).d]).length) (pp (xS (v5.length+2) (Ze (Zz v5) 0 v5.length 1 [(ii (rd l0 (tn v6)).b),(ii (rd l0 (tn v6)).d)]) (Zz (v5++[(rd l0 (tn v6)).b,(rd l0 (tn v6)).d]))) (pp (pp (xF (Ze (Zz v5) 0 v5.length 1 [(ii (rd l0 (tn v6)).b),(ii (rd l0 (tn v6)).d)])) nn) (ww o1 (ww o0 (ww o0 (tt k0 nn)))))))))))) (fun k0=>(sl z3q 17 [] ⟨[0],[],rysN1,rysM1⟩ ⟨[],[],[]⟩ [false] (pp (fl v5 nn) (tt k0 nn)))))
 | .h1 v5 v7=>(lb (fun k0=>(lo fun o0=>(lo fun o1=>(sl z3q 20 [] ⟨[2],[],rysN1,rysM1⟩ ⟨[(5,.len (v5++[(rd l1 (tn v7)).b,(rd l1 (tn v7)).d]).length)],[.rowed 1 (v5++[(rd l1 (tn v7)).b,(rd l1 (tn v7)).d]).length (Zz (v5++[(rd l1 (tn v7)).b,(rd l1 (tn v7)).d]))],[]⟩ [true] (pp (xL (v5.length+2) (v5++[(rd l1 (tn v7)).b,(rd l1 (tn v7)).d]).length) (pp (xL (v5.length+2) (v5++[(rd l1 (tn v7)).b,(rd l1 (tn v7)).d]).length) (pp (xS (v5.length+2) (Ze (Zz v5) 0 v5.length 1 [(ii (rd l1 (tn v7)).b),(ii (rd l1 (tn v7)).d)]) (Zz (v5++[(rd l1 (tn v7)).b,(rd l1 (tn v7)).d]))) (pp (pp (xF (Ze (Zz v5) 0 v5.length 1 [(ii (rd l1 (tn v7)).b),(ii (rd l1 (tn v7)).d)])) nn) (ww o1 (ww o0 (ww o0 (tt k0 nn)))))))))))) (fun k0=>(Xb (sl z3q (C':=⟨⟨48,0,true⟩,(Uv prog 166 [1,1,1,1,0] 1),(Zb prog 166 [1,1,1,1,0] 1),none,(Zy prog 5),⟨Yg [(46,(.dat v5.length (Zz v5)))],Wh [] 0,0,[],true⟩,[],.leaf⟩) 13 [] ⟨[],[0],[some [46]],[]⟩ ⟨[(46,.frz v5.length v5.length (Zz v5) (Zz v5))],[],[]⟩ [false] (pp (xZ (z1p 1 1 0 v5.length v5.length (Zz v5)) v5.length (Zz v5)) (pp (xL v5.length v5.length) (pp (xS v5.length (Zz v5) (Zz v5)) (pp (fl v5 nn) (tt k0 nn)))))) (lo fun o0=>(lr 48 3 [1,1,1,1,1,1,1,0] 1 5 [(4,(.dat (Un (cvT v5)).length (Zz (Un (cvT v5)))))] (sl z3q 3 [] ⟨[],[],[some [4]],[]⟩ ⟨[],[],[]⟩ [] (pp (pp (xr v5) (xw o0)) nn)))))))
theorem x6t (l0:List R4) (l1:List R4):Yt prog (Zy prog 166) (rysC l0 l1) (Za prog 166 [(.dat l0.length (Zz l0)),(.dat l1.length (Zz l1))] true []) (y2i l0 l1):=(sl z3q 15 [(3,1,Zz ([]:List Int))] ⟨[0],[],rysN0,rysM0⟩ ⟨[(5,.grow 0 1)],[],[]⟩ [] (pp (fl ([]:List Int) nn) nn))
theorem v7l (l0:List R4) (l1:List R4) (n:Nat) (vs:List AVal) (h:Zs (z2s l0 l1) n (y2i l0 l1)=.ret vs):Jy prog (Zy prog 166) (Za prog 166 [(.dat l0.length (Zz l0)),(.dat l1.length (Zz l1))] true []) vs:=by have:=Zd (w5f l0 l1) n _ (x6t l0 l1);rwa [h] at this
inductive rcutS where
 | h0 (v5:List Int) (v6:Int)
 | h1 (v5:List Int) (v7:Int)
def j0k (l0:List R6) (l1:List R6):rcutS→Cfg
 | .h0 v5 v6=>⟨⟨52,0,true⟩,none,(Zb prog 125 [1,1,0,1,0,0] 0),none,(Zy prog 5),⟨Yg [(0,(.dat l0.length (Zz l0))),(1,(.dat l1.length (Zz l1))),(5,(.sla 0 1 0 v5.length (.un 1))),(6,(ii v6))],Wh [⟨Yx v5.length (Zz v5),3,some ⟨1,v5.length,(Zz v5)⟩⟩] 0,1,[],true⟩,[],.leaf⟩
 | .h1 v5 v7=>⟨⟨52,0,true⟩,none,(Zb prog 125 [1,1,1,0,1,0,0] 0),none,(Zy prog 5),⟨Yg [(1,(.dat l1.length (Zz l1))),(5,(.sla 0 1 0 v5.length (.un 1))),(7,(ii v7))],Wh [⟨Yx v5.length (Zz v5),3,some ⟨1,v5.length,(Zz v5)⟩⟩] 0,1,[],true⟩,[],.leaf⟩
def u5c :List (Option (List Nat)):=[some [0,1,5,6]]
def u5e :List (Option (List Nat)):=[]
def u5b :List (Option (List Nat)):=[some [1,5,7]]
def u5d :List (Option (List Nat)):=[]
def Qf (l0:List R6) (l1:List R6):rcutS→Xv rcutS
 | .h0 v5 v6=>(bif (decide (v6<(l0.length:Int))) then (bif ((decide (0≤v6∧v6<(l0.length:Int)))&&true) then (bif (Nat.beq 1 1&&((decide (0+v5.length=v5.length))&&decide ((v5.length+2+1)*(8+1)≤Uw))) then (.to (.h0 (v5++[(rd l0 v6.toNat).c,(rd l0 v6.toNat).f]) (wrap .i64 (v6+1)))) else .stuck) else .stuck) else (.to (.h1 v5 0)))
 | .h1 v5 v7=>(bif (decide (v7<(l1.length:Int))) then (bif ((decide (0≤v7∧v7<(l1.length:Int)))&&true) then (bif (Nat.beq 1 1&&((decide (0+v5.length=v5.length))&&decide ((v5.length+2+1)*(8+1)≤Uw))) then (.to (.h1 (v5++[(rd l1 v7.toNat).c,(rd l1 v7.toNat).f]) (wrap .i64 (v7+1)))) else .stuck) else .stuck) else (bif (Wu (cvT v5)) then (.ret [(.dat (Un (cvT v5)).length (Zz (Un (cvT v5))))]) else .stuck))
def z7x (l0:List R6) (l1:List R6):Xv rcutS:=(.to (.h0 ([]:List Int) 0))
theorem x7y (l0:List R6) (l1:List R6): ∀s,Yt prog (Zy prog 125) (j0k l0 l1) (j0k l0 l1 s) (Qf l0 l1 s)
 | .h0 v5 v6=>(lb (fun k0=>(lo fun o0=>(lo fun o1=>(sl z3q 20 [] ⟨[2],[],u5c,u5e⟩ ⟨[(5,.len (v5++[(rd l0 (tn v6)).c,(rd l0 (tn v6)).f]).length)],[.rowed 1 (v5++[(rd l0 (tn v6)).c,(rd l0 (tn v6)).f]).length (Zz (v5++[(rd l0 (tn v6)).c,(rd l0 (tn v6)).f]))],[]⟩ [true] (pp (xL (v5.length+2) (v5++[(rd l0 (tn v6)).c,(rd l0 (tn v6)).f]).length) (pp (xL (v5.length+2) (v5++[(rd l0 (tn v6)).c,(rd l0 (tn v6)).f]).length) (pp (xS (v5.length+2) (Ze (Zz v5) 0 v5.length 1 [(ii (rd l0 (tn v6)).c),(ii (rd l0 (tn v6)).f)]) (Zz (v5++[(rd l0 (tn v6)).c,(rd l0 (tn v6)).f]))) (pp (pp (xF (Ze (Zz v5) 0 v5.length 1 [(ii (rd l0 (tn v6)).c),(ii (rd l0 (tn v6)).f)])) nn) (ww o1 (ww o0 (ww o0 (tt k0 nn)))))))))))) (fun k0=>(sl z3q 17 [] ⟨[0],[],u5b,u5d⟩ ⟨[],[],[]⟩ [false] (pp (fl v5 nn) (tt k0 nn)))))
 | .h1 v5 v7=>(lb (fun k0=>(lo fun o0=>(lo fun o1=>(sl z3q 20 [] ⟨[2],[],u5b,u5d⟩ ⟨[(5,.len (v5++[(rd l1 (tn v7)).c,(rd l1 (tn v7)).f]).length)],[.rowed 1 (v5++[(rd l1 (tn v7)).c,(rd l1 (tn v7)).f]).length (Zz (v5++[(rd l1 (tn v7)).c,(rd l1 (tn v7)).f]))],[]⟩ [true] (pp (xL (v5.length+2) (v5++[(rd l1 (tn v7)).c,(rd l1 (tn v7)).f]).length) (pp (xL (v5.length+2) (v5++[(rd l1 (tn v7)).c,(rd l1 (tn v7)).f]).length) (pp (xS (v5.length+2) (Ze (Zz v5) 0 v5.length 1 [(ii (rd l1 (tn v7)).c),(ii (rd l1 (tn v7)).f)]) (Zz (v5++[(rd l1 (tn v7)).c,(rd l1 (tn v7)).f]))) (pp (pp (xF (Ze (Zz v5) 0 v5.length 1 [(ii (rd l1 (tn v7)).c),(ii (rd l1 (tn v7)).f)])) nn) (ww o1 (ww o0 (ww o0 (tt k0 nn)))))))))))) (fun k0=>(Xb (sl z3q (C':=⟨⟨52,0,true⟩,(Uv prog 125 [1,1,1,1,0] 1),(Zb prog 125 [1,1,1,1,0] 1),none,(Zy prog 5),⟨Yg [(50,(.dat v5.length (Zz v5)))],Wh [] 0,0,[],true⟩,[],.leaf⟩) 13 [] ⟨[],[0],[some [50]],[]⟩ ⟨[(50,.frz v5.length v5.length (Zz v5) (Zz v5))],[],[]⟩ [false] (pp (xZ (z1p 1 1 0 v5.length v5.length (Zz v5)) v5.length (Zz v5)) (pp (xL v5.length v5.length) (pp (xS v5.length (Zz v5) (Zz v5)) (pp (fl v5 nn) (tt k0 nn)))))) (lo fun o0=>(lr 52 3 [1,1,1,1,1,1,1,0] 1 5 [(4,(.dat (Un (cvT v5)).length (Zz (Un (cvT v5)))))] (sl z3q 3 [] ⟨[],[],[some [4]],[]⟩ ⟨[],[],[]⟩ [] (pp (pp (xr v5) (xw o0)) nn)))))))
theorem x3j (l0:List R6) (l1:List R6):Yt prog (Zy prog 125) (j0k l0 l1) (Za prog 125 [(.dat l0.length (Zz l0)),(.dat l1.length (Zz l1))] true []) (z7x l0 l1):=(sl z3q 15 [(3,1,Zz ([]:List Int))] ⟨[0],[],u5c,u5e⟩ ⟨[(5,.grow 0 1)],[],[]⟩ [] (pp (fl ([]:List Int) nn) nn))
theorem v1q (l0:List R6) (l1:List R6) (n:Nat) (vs:List AVal) (h:Zs (Qf l0 l1) n (z7x l0 l1)=.ret vs):Jy prog (Zy prog 125) (Za prog 125 [(.dat l0.length (Zz l0)),(.dat l1.length (Zz l1))] true []) vs:=by have:=Zd (x7y l0 l1) n _ (x3j l0 l1);rwa [h] at this
def z2m (l:List R4):List Int:=l.flatMap fun r=>[r.a,r.c]
def z1r (l:List R4):List Int:=l.flatMap fun r=>[r.b,r.d]
def z2l (l:List R6):List Int:=l.flatMap fun r=>[r.c,r.f]
def xsV (l m:List R4):List Int:=Un (z2m l++z2m m)
def y1x (l m:List R4):Bool:=decide (l.length≤10000∧m.length≤10000)
theorem z0v (l:List R4):(z2m l).length =2*l.length:=by
 induction l with
 | nil=>rfl
 | cons r l ih=>show (_::_::z2m l).length =_;simp only [AW,ih];omega
theorem y7j (l:List R4) (i:Nat) (h:i<l.length):z2m (l.drop i)=z2m [rd l i]++z2m (l.drop (i+1)):=by rw [Yj h];rfl
theorem u3l (l m:List R4) (hl:l.length≤10000) (hm:m.length≤10000): ∀(k i:Nat) (out:List Int),i+k=m.length→out.length=2*l.length+2*i→ ∃N,Zs (z2t l m) N (.to (.h1 out (i:Int)))=.ret [.dat (Un (out++z2m (m.drop i))).length (Zz (Un (out++z2m (m.drop i))))]
 | 0,i,out,h,ho=>by refine ⟨1,?_⟩;have hw:Wu out=true:=Ah (by omega);rw [Zv,At (show m.length≤i by omega),show z2m []=[] from rfl,Az];simp (disch:=omega) only [z2t,Xm,Yn,Zn,Yz,Wz,Yk,Yc,Yp,Zo,Zk,Zf,z0p,z0q,Av,Zx,Zt,Zh,Ym,Zj,Ag,Ai,Al,Ab,Aa,AG,AK,Zp,Zg,Zq,Vh,Xp,hw]
 | k+1,i,out,h,ho=>by obtain ⟨N,hN⟩:=u3l l m hl hm k (i+1) (out++z2m [rd m i]) (by omega) (by rw [Ar,z0v];simp;omega);refine ⟨N+1,?_⟩;rw [y7j m i (by omega),←AH,Zv];simp (disch:=omega) only [z2t,Xm,Yn,Zn,Yz,Wz,Yk,Yc,Yp,Zo,Zk,Zf,z0p,z0q,Av,Zx,Zt,Zh,Ym,Zj,Ag,Ai,Al,Ab,Aa,AG,AK,Zp,Zg,Zq,Vh,Xp];exact hN
theorem u3m (l m:List R4) (hl:l.length≤10000) (hm:m.length≤10000): ∀(k i:Nat) (out:List Int),i+k=l.length→out.length=2*i→ ∃N,Zs (z2t l m) N (.to (.h0 out (i:Int)))=.ret [.dat (Un (out++z2m (l.drop i)++z2m m)).length (Zz (Un (out++z2m (l.drop i)++z2m m)))]
 | 0,i,out,h,ho=>by obtain ⟨N,hN⟩:=u3l l m hl hm m.length 0 out (Ag _) (by omega);refine ⟨N+1,?_⟩;rw [Zv,At (show l.length≤i by omega),show z2m []=[] from rfl,Az];simp (disch:=omega) only [z2t,Xm,Yn,Zn,Yz,Wz,Yk,Yc,Yp,Zo,Zk,Zf,z0p,z0q,Av,Zx,Zt,Zh,Ym,Zj,Ag,Ai,Al,Ab,Aa,AG,AK,Zp,Zg,Zq,Vh,Xp];exact hN
 | k+1,i,out,h,ho=>by obtain ⟨N,hN⟩:=u3m l m hl hm k (i+1) (out++z2m [rd l i]) (by omega) (by rw [Ar,z0v];simp;omega);refine ⟨N+1,?_⟩;rw [y7j l i (by omega),←AH,Zv];simp (disch:=omega) only [z2t,Xm,Yn,Zn,Yz,Wz,Yk,Yc,Yp,Zo,Zk,Zf,z0p,z0q,Av,Zx,Zt,Zh,Ym,Zj,Ag,Ai,Al,Ab,Aa,AG,AK,Zp,Zg,Zq,Vh,Xp];exact hN
theorem u8u (l m:List R4) (h:y1x l m=true): ∃N,Zs (z2t l m) N (y2j l m)=.ret [.dat (xsV l m).length (Zz (xsV l m))]:=by
 obtain ⟨h1,h2⟩:=AC h;have:=u3m l m h1 h2 l.length 0 [] (Ag _) rfl
 simpa [y2j,xsV] using this
def ysV (l m:List R4):List Int:=Un (z1r l++z1r m)
def y1w (l m:List R4):Bool:=decide (l.length≤10000∧m.length≤10000)
theorem z0u (l:List R4):(z1r l).length =2*l.length:=by
 induction l with
 | nil=>rfl
 | cons r l ih=>show (_::_::z1r l).length =_;simp only [AW,ih];omega
theorem y7i (l:List R4) (i:Nat) (h:i<l.length):z1r (l.drop i)=z1r [rd l i]++z1r (l.drop (i+1)):=by rw [Yj h];rfl
theorem u3j (l m:List R4) (hl:l.length≤10000) (hm:m.length≤10000): ∀(k i:Nat) (out:List Int),i+k=m.length→out.length=2*l.length+2*i→ ∃N,Zs (z2s l m) N (.to (.h1 out (i:Int)))=.ret [.dat (Un (out++z1r (m.drop i))).length (Zz (Un (out++z1r (m.drop i))))]
 | 0,i,out,h,ho=>by refine ⟨1,?_⟩;have hw:Wu out=true:=Ah (by omega);rw [Zv,At (show m.length≤i by omega),show z1r []=[] from rfl,Az];simp (disch:=omega) only [z2s,Xm,Yn,Zn,Yz,Wz,Yk,Yc,Yp,Zo,Zk,Zf,z0p,z0q,Av,Zx,Zt,Zh,Ym,Zj,Ag,Ai,Al,Ab,Aa,AG,AK,Zp,Zg,Zq,Vh,Xp,hw]
 | k+1,i,out,h,ho=>by obtain ⟨N,hN⟩:=u3j l m hl hm k (i+1) (out++z1r [rd m i]) (by omega) (by rw [Ar,z0u];simp;omega);refine ⟨N+1,?_⟩;rw [y7i m i (by omega),←AH,Zv];simp (disch:=omega) only [z2s,Xm,Yn,Zn,Yz,Wz,Yk,Yc,Yp,Zo,Zk,Zf,z0p,z0q,Av,Zx,Zt,Zh,Ym,Zj,Ag,Ai,Al,Ab,Aa,AG,AK,Zp,Zg,Zq,Vh,Xp];exact hN
theorem u3k (l m:List R4) (hl:l.length≤10000) (hm:m.length≤10000): ∀(k i:Nat) (out:List Int),i+k=l.length→out.length=2*i→ ∃N,Zs (z2s l m) N (.to (.h0 out (i:Int)))=.ret [.dat (Un (out++z1r (l.drop i)++z1r m)).length (Zz (Un (out++z1r (l.drop i)++z1r m)))]
 | 0,i,out,h,ho=>by obtain ⟨N,hN⟩:=u3j l m hl hm m.length 0 out (Ag _) (by omega);refine ⟨N+1,?_⟩;rw [Zv,At (show l.length≤i by omega),show z1r []=[] from rfl,Az];simp (disch:=omega) only [z2s,Xm,Yn,Zn,Yz,Wz,Yk,Yc,Yp,Zo,Zk,Zf,z0p,z0q,Av,Zx,Zt,Zh,Ym,Zj,Ag,Ai,Al,Ab,Aa,AG,AK,Zp,Zg,Zq,Vh,Xp];exact hN
 | k+1,i,out,h,ho=>by obtain ⟨N,hN⟩:=u3k l m hl hm k (i+1) (out++z1r [rd l i]) (by omega) (by rw [Ar,z0u];simp;omega);refine ⟨N+1,?_⟩;rw [y7i l i (by omega),←AH,Zv];simp (disch:=omega) only [z2s,Xm,Yn,Zn,Yz,Wz,Yk,Yc,Yp,Zo,Zk,Zf,z0p,z0q,Av,Zx,Zt,Zh,Ym,Zj,Ag,Ai,Al,Ab,Aa,AG,AK,Zp,Zg,Zq,Vh,Xp];exact hN
theorem u8t (l m:List R4) (h:y1w l m=true): ∃N,Zs (z2s l m) N (y2i l m)=.ret [.dat (ysV l m).length (Zz (ysV l m))]:=by
 obtain ⟨h1,h2⟩:=AC h;have:=u3k l m h1 h2 l.length 0 [] (Ag _) rfl
 simpa [y2i,ysV] using this
def Wo (l m:List R6):List Int:=Un (z2l l++z2l m)
def z8v (l m:List R6):Bool:=decide (l.length≤40000∧m.length≤40000)
theorem z0t (l:List R6):(z2l l).length =2*l.length:=by
 induction l with
 | nil=>rfl
 | cons r l ih=>show (_::_::z2l l).length =_;simp only [AW,ih];omega
theorem y7g (l:List R6) (i:Nat) (h:i<l.length):z2l (l.drop i)=z2l [rd l i]++z2l (l.drop (i+1)):=by rw [Yj h];rfl
theorem v1o (l m:List R6) (hl:l.length≤40000) (hm:m.length≤40000): ∀(k i:Nat) (out:List Int),i+k=m.length→out.length=2*l.length+2*i→ ∃N,Zs (Qf l m) N (.to (.h1 out (i:Int)))=.ret [.dat (Un (out++z2l (m.drop i))).length (Zz (Un (out++z2l (m.drop i))))]
 | 0,i,out,h,ho=>by refine ⟨1,?_⟩;have hw:Wu out=true:=Ah (by omega);rw [Zv,At (show m.length≤i by omega),show z2l []=[] from rfl,Az];simp (disch:=omega) only [Qf,Xm,Yn,Zn,Yz,Wz,Yk,Yc,Yp,Zo,Zk,Zf,z0p,z0q,Av,Zx,Zt,Zh,Ym,Zj,Ag,Ai,Al,Ab,Aa,AG,AK,Zp,Zg,Zq,Vh,Xp,hw]
 | k+1,i,out,h,ho=>by obtain ⟨N,hN⟩:=v1o l m hl hm k (i+1) (out++z2l [rd m i]) (by omega) (by rw [Ar,z0t];simp;omega);refine ⟨N+1,?_⟩;rw [y7g m i (by omega),←AH,Zv];simp (disch:=omega) only [Qf,Xm,Yn,Zn,Yz,Wz,Yk,Yc,Yp,Zo,Zk,Zf,z0p,z0q,Av,Zx,Zt,Zh,Ym,Zj,Ag,Ai,Al,Ab,Aa,AG,AK,Zp,Zg,Zq,Vh,Xp];exact hN
theorem v1p (l m:List R6) (hl:l.length≤40000) (hm:m.length≤40000): ∀(k i:Nat) (out:List Int),i+k=l.length→out.length=2*i→ ∃N,Zs (Qf l m) N (.to (.h0 out (i:Int)))=.ret [.dat (Un (out++z2l (l.drop i)++z2l m)).length (Zz (Un (out++z2l (l.drop i)++z2l m)))]
 | 0,i,out,h,ho=>by obtain ⟨N,hN⟩:=v1o l m hl hm m.length 0 out (Ag _) (by omega);refine ⟨N+1,?_⟩;rw [Zv,At (show l.length≤i by omega),show z2l []=[] from rfl,Az];simp (disch:=omega) only [Qf,Xm,Yn,Zn,Yz,Wz,Yk,Yc,Yp,Zo,Zk,Zf,z0p,z0q,Av,Zx,Zt,Zh,Ym,Zj,Ag,Ai,Al,Ab,Aa,AG,AK,Zp,Zg,Zq,Vh,Xp];exact hN
 | k+1,i,out,h,ho=>by obtain ⟨N,hN⟩:=v1p l m hl hm k (i+1) (out++z2l [rd l i]) (by omega) (by rw [Ar,z0t];simp;omega);refine ⟨N+1,?_⟩;rw [y7g l i (by omega),←AH,Zv];simp (disch:=omega) only [Qf,Xm,Yn,Zn,Yz,Wz,Yk,Yc,Yp,Zo,Zk,Zf,z0p,z0q,Av,Zx,Zt,Zh,Ym,Zj,Ag,Ai,Al,Ab,Aa,AG,AK,Zp,Zg,Zq,Vh,Xp];exact hN
theorem v8v (l m:List R6) (h:z8v l m=true): ∃N,Zs (Qf l m) N (z7x l m)=.ret [.dat (Wo l m).length (Zz (Wo l m))]:=by
 obtain ⟨h1,h2⟩:=AC h;have:=v1p l m h1 h2 l.length 0 [] (Ag _) rfl
 simpa [z7x,Wo] using this
def fXs :List AVal→Option (AVal×Bool)
 | [a0,a1]=>match asL R4 a0,asL R4 a1 with
  | some (L0,g0,n0),some (L1,g1,n1)=>some (.dat (xsV L0 L1).length (Zz (xsV L0 L1)),isT R4 n0 g0&&(isT R4 n1 g1&&(y1x L0 L1)))
  | _,_=>none
 | _=>none
theorem fXs_ok {S:Specs} (hS:Zu prog S):Zu prog (S.with nXs fXs):=by
 refine z0l hS (by kernel_rfl) fun args v h=> ?_;unfold fXs at h;split at h
 ·rename_i a0 a1;split at h
  ·rename_i L0 g0 n0 L1 g1 n1 e0 e1;simp only [Ae,Ad,Ac] at h;obtain ⟨rfl,ho0,ho1,hw⟩:=h;obtain ⟨N,hN⟩:=u8u L0 L1 hw;exact ⟨_,_,(.cons (asL_le e0 ho0) (.cons (asL_le e1 ho1) .nil)),rfl,v7m L0 L1 N _ hN,3,rfl⟩
  ·cases h
 ·cases h
def fYs :List AVal→Option (AVal×Bool)
 | [a0,a1]=>match asL R4 a0,asL R4 a1 with
  | some (L0,g0,n0),some (L1,g1,n1)=>some (.dat (ysV L0 L1).length (Zz (ysV L0 L1)),isT R4 n0 g0&&(isT R4 n1 g1&&(y1w L0 L1)))
  | _,_=>none
 | _=>none
theorem fYs_ok {S:Specs} (hS:Zu prog S):Zu prog (S.with nYs fYs):=by
 refine z0l hS (by kernel_rfl) fun args v h=> ?_;unfold fYs at h;split at h
 ·rename_i a0 a1;split at h
  ·rename_i L0 g0 n0 L1 g1 n1 e0 e1;simp only [Ae,Ad,Ac] at h;obtain ⟨rfl,ho0,ho1,hw⟩:=h;obtain ⟨N,hN⟩:=u8t L0 L1 hw;exact ⟨_,_,(.cons (asL_le e0 ho0) (.cons (asL_le e1 ho1) .nil)),rfl,v7l L0 L1 N _ hN,3,rfl⟩
  ·cases h
 ·cases h
def j3q :List AVal→Option (AVal×Bool)
 | [a0,a1]=>match asL R6 a0,asL R6 a1 with
  | some (L0,g0,n0),some (L1,g1,n1)=>some (.dat (Wo L0 L1).length (Zz (Wo L0 L1)),isT R6 n0 g0&&(isT R6 n1 g1&&(z8v L0 L1)))
  | _,_=>none
 | _=>none
theorem u1a {S:Specs} (hS:Zu prog S):Zu prog (S.with nCuts j3q):=by
 refine z0l hS (by kernel_rfl) fun args v h=> ?_;unfold j3q at h;split at h
 ·rename_i a0 a1;split at h
  ·rename_i L0 g0 n0 L1 g1 n1 e0 e1;simp only [Ae,Ad,Ac] at h;obtain ⟨rfl,ho0,ho1,hw⟩:=h;obtain ⟨N,hN⟩:=v8v L0 L1 hw;exact ⟨_,_,(.cons (asL_le e0 ho0) (.cons (asL_le e1 ho1) .nil)),rfl,v1q L0 L1 N _ hN,3,rfl⟩
  ·cases h
 ·cases h
def T2 :Specs:=((T1.with nXs fXs).with nYs fYs).with nCuts j3q
theorem y0o :Zu prog T2:=u1a (fYs_ok (fXs_ok z3q))
inductive rjoS where
 | h0 (v9:List R4) (v10:List R2) (v11:Int) (v12:Int)
 | h1 (v9:List R4) (v10:List R2) (v11:Int) (v12:Int) (v13:List Bool) (v14:Int)
 | h2 (v9:List R4) (v10:List R2) (v11:Int) (v12:Int) (v15:List R2) (v17:Int)
 | h3 (v9:List R4) (v10:List R2) (v11:Int) (v12:Int) (v16:Int)
abbrev y0z (x0:Int) (l1:List R4) (l2:List R4) (v12:Int) (v14:Int):=(y1g x0 (has4V (cvT l1) (rd (xsV (cvT l1) (cvT l2)) (tn v12)) (rd (ysV (cvT l1) (cvT l2)) (tn v14))) (has4V (cvT l2) (rd (xsV (cvT l1) (cvT l2)) (tn v12)) (rd (ysV (cvT l1) (cvT l2)) (tn v14))))
abbrev y8g (v9:List R4) (v16:Int) (l1:List R4) (l2:List R4) (v12:Int):=(v9.set (0+(tn v16)) (R4.mk (rd v9 (0+(tn v16))).a (rd v9 (0+(tn v16))).b (rd (xsV (cvT l1) (cvT l2)) (tn (wr (v12+1)))) (rd v9 (0+(tn v16))).d))
abbrev y8f (v9:List R4) (l1:List R4) (l2:List R4) (v12:Int) (v15:List R2) (v17:Int):=(v9++[(R4.mk (rd (xsV (cvT l1) (cvT l2)) (tn v12)) (rd v15 (tn v17)).a (rd (xsV (cvT l1) (cvT l2)) (tn (wr (v12+1)))) (rd v15 (tn v17)).b)])
abbrev Qb (l1:List R4) (l2:List R4):=(ysV (cvT l1) (cvT l2))
def w2d (l1:List R4) (l2:List R4):AVal:=(.dat (xsV (cvT l1) (cvT l2)).length (Zz (xsV (cvT l1) (cvT l2))))
def w2c (l1:List R4) (l2:List R4):AVal:=(.dat (Qb l1 l2).length (Zz (Qb l1 l2)))
def rjoC (x0:Int) (l1:List R4) (l2:List R4):rjoS→Cfg
 | .h0 v9 v10 v11 v12=>⟨⟨121,0,true⟩,none,(Zb prog 126 [1,1,1,1,1,0,1,0,0] 0),none,(Zy prog 8),⟨Yg [(0,(ii x0)),(1,(.dat l1.length (Zz l1))),(2,(.dat l2.length (Zz l2))),(7,(w2d l1 l2)),(8,(w2c l1 l2)),(9,(.sla 0 4 0 v9.length (.un 4))),(10,(.dat v10.length (Zz v10))),(11,(ii v11)),(12,(ii v12))],Wh [⟨Yx v9.length (Zz v9),88,some ⟨4,v9.length,(Zz v9)⟩⟩] 0,1,[],true⟩,[],.leaf⟩
 | .h1 v9 v10 v11 v12 v13 v14=>⟨⟨121,0,true⟩,none,(Zb prog 126 [1,1,1,1,1,0,1,0,0,1,0,0,1,0,1,0,0] 0),none,(Zy prog 8),⟨Yg [(0,(ii x0)),(1,(.dat l1.length (Zz l1))),(2,(.dat l2.length (Zz l2))),(7,(w2d l1 l2)),(8,(w2c l1 l2)),(9,(.sla 1 4 0 v9.length (.un 4))),(10,(.dat v10.length (Zz v10))),(11,(ii v11)),(12,(ii v12)),(13,(.sla 0 1 0 v13.length (.un 1))),(14,(ii v14))],Wh [⟨Yx v13.length (Zz v13),4,some ⟨1,v13.length,(Zz v13)⟩⟩,⟨Yx v9.length (Zz v9),88,some ⟨4,v9.length,(Zz v9)⟩⟩] 0,2,[],true⟩,[],.leaf⟩
 | .h2 v9 v10 v11 v12 v15 v17=>⟨⟨121,0,true⟩,none,(Zb prog 126 [1,1,1,1,1,0,1,0,0,1,0,0,1,1,1,1,1,1,0,0] 0),none,(Zy prog 8),⟨Yg [(0,(ii x0)),(1,(.dat l1.length (Zz l1))),(2,(.dat l2.length (Zz l2))),(7,(w2d l1 l2)),(8,(w2c l1 l2)),(9,(.sla 0 4 0 v9.length (.un 4))),(10,(.dat v10.length (Zz v10))),(11,(ii v11)),(12,(ii v12)),(15,(.dat v15.length (Zz v15))),(17,(ii v17))],Wh [⟨Yx v9.length (Zz v9),88,some ⟨4,v9.length,(Zz v9)⟩⟩] 0,1,[],true⟩,[],.leaf⟩
 | .h3 v9 v10 v11 v12 v16=>⟨⟨121,0,true⟩,none,(Zb prog 126 [1,1,1,1,1,0,1,0,0,1,0,0,1,1,1,0,1,0,0,1,0,0] 0),none,(Zy prog 8),⟨Yg [(0,(ii x0)),(1,(.dat l1.length (Zz l1))),(2,(.dat l2.length (Zz l2))),(7,(w2d l1 l2)),(8,(w2c l1 l2)),(9,(.sla 0 4 0 v9.length (.un 4))),(10,(.dat v10.length (Zz v10))),(11,(ii v11)),(12,(ii v12)),(16,(ii v16))],Wh [⟨Yx v9.length (Zz v9),88,some ⟨4,v9.length,(Zz v9)⟩⟩] 0,1,[],true⟩,[],.leaf⟩
def u9t :List (Option (List Nat)):=[some [0,1,2,7,8,9,10,11,12]]
def u9v :List (Option (List Nat)):=[]
def rjoN1 :List (Option (List Nat)):=[some [0,1,2,7,8,9,10,11,12,13,14]]
def rjoM1 :List (Option (List Nat)):=[]
def u9s :List (Option (List Nat)):=[some [0,1,2,7,8,9,10,11,12,15,17]]
def u9u :List (Option (List Nat)):=[]
def rjoN3 :List (Option (List Nat)):=[some [0,1,2,7,8,9,10,11,12,16]]
def rjoM3 :List (Option (List Nat)):=[]
def Vz (x0:Int) (l1:List R4) (l2:List R4):rjoS→Xv rjoS
 | .h0 v9 v10 v11 v12=>(bif (decide ((wrap .i64 (v12+1))<(((xsV (cvT l1) (cvT l2)).length :Nat):Int))) then (.to (.h1 v9 v10 v11 v12 ([]:List Bool) 0)) else (.ret [(.dat v9.length (Zz v9))]))
 | .h1 v9 v10 v11 v12 v13 v14=>(bif (decide (v14<(((ysV (cvT l1) (cvT l2)).length :Nat):Int))) then (bif (z0g (cvT l1) (rd (xsV (cvT l1) (cvT l2)) v12.toNat) (rd (ysV (cvT l1) (cvT l2)) v14.toNat)) then (bif ((decide (0≤v12∧v12<(((xsV (cvT l1) (cvT l2)).length :Nat):Int)))&&true) then (bif ((decide (0≤v14∧v14<(((ysV (cvT l1) (cvT l2)).length :Nat):Int)))&&true) then (bif (z0g (cvT l2) (rd (xsV (cvT l1) (cvT l2)) v12.toNat) (rd (ysV (cvT l1) (cvT l2)) v14.toNat)) then (bif (Nat.beq 1 1&&((decide (0+v13.length=v13.length))&&decide ((v13.length+1+1)*(1+1)≤Uw))) then (.to (.h1 v9 v10 v11 v12 (v13++[(y1g x0 (has4V (cvT l1) (rd (xsV (cvT l1) (cvT l2)) v12.toNat) (rd (ysV (cvT l1) (cvT l2)) v14.toNat)) (has4V (cvT l2) (rd (xsV (cvT l1) (cvT l2)) v12.toNat) (rd (ysV (cvT l1) (cvT l2)) v14.toNat)))]) (wrap .i64 (v14+1)))) else .stuck) else .stuck) else .stuck) else .stuck) else .stuck) else (bif (Qw (cvT (ysV (cvT l1) (cvT l2))) (cvT v13)) then (bif (decide (v12>0)) then (bif (Vm (cvT (z1q (cvT (ysV (cvT l1) (cvT l2))) (cvT v13))) (cvT v10)) then (bif (Kc (cvT (z1q (cvT (ysV (cvT l1) (cvT l2))) (cvT v13))) (cvT v10)) then (.to (.h3 v9 v10 v11 v12 v11)) else (.to (.h2 v9 (z1q (cvT (ysV (cvT l1) (cvT l2))) (cvT v13)) (v9.length:Int) v12 (z1q (cvT (ysV (cvT l1) (cvT l2))) (cvT v13)) 0))) else .stuck) else (.to (.h2 v9 (z1q (cvT (ysV (cvT l1) (cvT l2))) (cvT v13)) (v9.length:Int) v12 (z1q (cvT (ysV (cvT l1) (cvT l2))) (cvT v13)) 0))) else .stuck))
 | .h2 v9 v10 v11 v12 v15 v17=>(bif (decide (v17<(v15.length:Int))) then (bif ((decide (0≤v12∧v12<(((xsV (cvT l1) (cvT l2)).length :Nat):Int)))&&true) then (bif ((decide (0≤(wrap .i64 (v12+1))∧(wrap .i64 (v12+1))<(((xsV (cvT l1) (cvT l2)).length :Nat):Int)))&&true) then (bif ((decide (0≤v17∧v17<(v15.length:Int)))&&true) then (bif (Nat.beq 4 4&&((decide (0+v9.length=v9.length))&&decide ((v9.length+1+1)*(32+1)≤Uw))) then (.to (.h2 (v9++[(R4.mk (rd (xsV (cvT l1) (cvT l2)) v12.toNat) (rd v15 v17.toNat).a (rd (xsV (cvT l1) (cvT l2)) (Int.toNat (wrap .i64 (v12+1)))) (rd v15 v17.toNat).b)]) v10 v11 v12 v15 (wrap .i64 (v17+1)))) else .stuck) else .stuck) else .stuck) else .stuck) else (.to (.h0 v9 v10 v11 (wrap .i64 (v12+1)))))
 | .h3 v9 v10 v11 v12 v16=>(bif (decide (v16<(v9.length:Int))) then (bif ((decide (0≤(wrap .i64 (v12+1))∧(wrap .i64 (v12+1))<(((xsV (cvT l1) (cvT l2)).length :Nat):Int)))&&true) then (bif ((decide (0≤v16∧v16<(v9.length:Int)))&&true) then (bif (decide ((0+v16.toNat)<v9.length)) then (.to (.h3 (v9.set (0+v16.toNat) (R4.mk (rd v9 (0+v16.toNat)).a (rd v9 (0+v16.toNat)).b (rd (xsV (cvT l1) (cvT l2)) (Int.toNat (wrap .i64 (v12+1)))) (rd v9 (0+v16.toNat)).d)) v10 v11 v12 (wrap .i64 (v16+1)))) else .stuck) else .stuck) else .stuck) else (.to (.h0 v9 v10 v11 (wrap .i64 (v12+1)))))
def y2u (x0:Int) (l1:List R4) (l2:List R4):Xv rjoS:=(bif (y1x (cvT l1) (cvT l2)) then (bif (y1w (cvT l1) (cvT l2)) then (.to (.h0 ([]:List R4) ([]:List R2) 0 0)) else .stuck) else .stuck)
theorem w5v (x0:Int) (l1:List R4) (l2:List R4): ∀s,Yt prog (Zy prog 126) (rjoC x0 l1 l2) (rjoC x0 l1 l2 s) (Vz x0 l1 l2 s)
 | .h0 v9 v10 v11 v12=>(lb (fun k0=>(sl y0o 24 [(4,1,Zz ([]:List Bool))] ⟨[1,0],[],rjoN1,rjoM1⟩ ⟨[(13,.grow 0 1)],[],[]⟩ [true] (pp (fl ([]:List Bool) (fl v9 nn)) (tt k0 nn)))) (fun k0=>(lr 121 3 [1,1,1,1,1,1,1,0] 1 8 [(6,(.dat v9.length (Zz v9)))] (sl y0o 16 [] ⟨[],[0],[some [6]],[]⟩ ⟨[(6,.frz v9.length v9.length (Zz v9) (Zz v9))],[],[]⟩ [false] (pp (xZ (z1p 4 4 0 v9.length v9.length (Zz v9)) v9.length (Zz v9)) (pp (xL v9.length v9.length) (pp (xS v9.length (Zz v9) (Zz v9)) (pp (fl v9 nn) (tt k0 nn)))))))))
 | .h1 v9 v10 v11 v12 v13 v14=>(lb (fun k0=>(lo fun o0=>(lo fun o1=>(lo fun o2=>(lo fun o3=>(lo fun o4=>(sl y0o 20 [] ⟨[3,1],[],rjoN1,rjoM1⟩ ⟨[(13,.len (v13++[(y0z x0 l1 l2 v12 v14)]).length)],[.rowed 1 (v13++[(y0z x0 l1 l2 v12 v14)]).length (Zz (v13++[(y0z x0 l1 l2 v12 v14)])),.keep],[]⟩ [true] (pp (xL (v13.length+1) (v13++[(y0z x0 l1 l2 v12 v14)]).length) (pp (xL (v13.length+1) (v13++[(y0z x0 l1 l2 v12 v14)]).length) (pp (xS (v13.length+1) (Ze (Zz v13) 0 v13.length 1 [(.bool (y0z x0 l1 l2 v12 v14))]) (Zz (v13++[(y0z x0 l1 l2 v12 v14)]))) (pp (pp (xF (Ze (Zz v13) 0 v13.length 1 [(.bool (y0z x0 l1 l2 v12 v14))])) (fl v9 nn)) (ww o4 (pp (pp (xr l2) (xw o3)) (ww o2 (ww o1 (pp (pp (xr l1) (xw o0)) (ww o2 (ww o1 (tt k0 nn))))))))))))))))))) (fun k0=>(Xb (sl y0o (C':=⟨⟨121,0,true⟩,(Uv prog 126 [1,1,1,1,1,0,1,0,0,1,0,0,1,1,0] 2),(Zb prog 126 [1,1,1,1,1,0,1,0,0,1,0,0,1,1,0] 1),none,(Zy prog 8),⟨Yg [(0,(ii x0)),(1,(.dat l1.length (Zz l1))),(2,(.dat l2.length (Zz l2))),(7,(.dat (xsV (cvT l1) (cvT l2)).length (Zz (xsV (cvT l1) (cvT l2))))),(8,(.dat (Qb l1 l2).length (Zz (Qb l1 l2)))),(9,(.sla 0 4 0 v9.length (.un 4))),(10,(.dat v10.length (Zz v10))),(11,(ii v11)),(12,(ii v12)),(62,(.dat (Qb l1 l2).length (Zz (Qb l1 l2)))),(63,(.dat v13.length (Zz v13)))],Wh [⟨Yx v9.length (Zz v9),88,some ⟨4,v9.length,(Zz v9)⟩⟩] 0,1,[],true⟩,[],.leaf⟩) 14 [] ⟨[1],[0],[some [0,1,2,7,8,9,10,11,12,62,63]],[]⟩ ⟨[(63,.frz v13.length v13.length (Zz v13) (Zz v13))],[],[]⟩ [false] (pp (xZ (z1p 1 1 0 v13.length v13.length (Zz v13)) v13.length (Zz v13)) (pp (xL v13.length v13.length) (pp (xS v13.length (Zz v13) (Zz v13)) (pp (fl v9 nn) (pp (fl v13 nn) (tt k0 nn))))))) (lo fun aG=>(lb (fun k1=>(lo fun bW=>(lb (fun k2=>(sl y0o 23 [] ⟨[0],[],rjoN3,rjoM3⟩ ⟨[],[],[]⟩ (trs 4 []) (pp (fl v9 nn) (tt k2 (pp (pp (xI R2 (z1q (cvT (Qb l1 l2)) (cvT v13)).length (Zz (z1q (cvT (Qb l1 l2)) (cvT v13)))) (pp (xr v10) (xw bW))) (tt k1 (pp (pp (xI Int (Qb l1 l2).length (Zz (Qb l1 l2))) (pp (xr v13) (xw aG))) nn))))))) (fun k2=>(sl y0o 30 [] ⟨[0],[],u9s,u9u⟩ ⟨[],[],[]⟩ (trs 3 [false]) (pp (fl v9 nn) (tt k2 (pp (pp (xI R2 (z1q (cvT (Qb l1 l2)) (cvT v13)).length (Zz (z1q (cvT (Qb l1 l2)) (cvT v13)))) (pp (xr v10) (xw bW))) (tt k1 (pp (pp (xI Int (Qb l1 l2).length (Zz (Qb l1 l2))) (pp (xr v13) (xw aG))) nn)))))))))) (fun k1=>(sl y0o 30 [] ⟨[0],[],u9s,u9u⟩ ⟨[],[],[]⟩ (bl 4 0) (pp (fl v9 nn) (tt k1 (pp (pp (xI Int (Qb l1 l2).length (Zz (Qb l1 l2))) (pp (xr v13) (xw aG))) nn))))))))))
 | .h2 v9 v10 v11 v12 v15 v17=>(lb (fun k0=>(lo fun o0=>(lo fun o1=>(lo fun o2=>(lo fun o3=>(sl y0o 20 [] ⟨[2],[],u9s,u9u⟩ ⟨[(9,.len (y8f v9 l1 l2 v12 v15 v17).length)],[.rowed 4 (y8f v9 l1 l2 v12 v15 v17).length (Zz (y8f v9 l1 l2 v12 v15 v17))],[]⟩ [true] (pp (xL (v9.length+1) (y8f v9 l1 l2 v12 v15 v17).length) (pp (xL (v9.length+1) (y8f v9 l1 l2 v12 v15 v17).length) (pp (xS (v9.length+1) (Ze (Zz v9) 0 v9.length 4 [(ii (rd (xsV (cvT l1) (cvT l2)) (tn v12))),(ii (rd v15 (tn v17)).a),(ii (rd (xsV (cvT l1) (cvT l2)) (tn (wr (v12+1))))),(ii (rd v15 (tn v17)).b)]) (Zz (y8f v9 l1 l2 v12 v15 v17))) (pp (pp (xF (Ze (Zz v9) 0 v9.length 4 [(ii (rd (xsV (cvT l1) (cvT l2)) (tn v12))),(ii (rd v15 (tn v17)).a),(ii (rd (xsV (cvT l1) (cvT l2)) (tn (wr (v12+1))))),(ii (rd v15 (tn v17)).b)])) nn) (ww o3 (ww o2 (ww o1 (ww o2 (ww o0 (tt k0 nn)))))))))))))))) (fun k0=>(sl y0o 17 [] ⟨[0],[],u9t,u9v⟩ ⟨[],[],[]⟩ [false] (pp (fl v9 nn) (tt k0 nn)))))
 | .h3 v9 v10 v11 v12 v16=>(lb (fun k0=>(lo fun o0=>(lo fun o1=>(lo fun o2=>(sl y0o 31 [] ⟨[0],[],rjoN3,rjoM3⟩ ⟨[(9,.len (y8g v9 v16 l1 l2 v12).length)],[.rowed 4 (y8g v9 v16 l1 l2 v12).length (Zz (y8g v9 v16 l1 l2 v12))],[]⟩ [true] (pp (xL v9.length (y8g v9 v16 l1 l2 v12).length) (pp (xL v9.length (y8g v9 v16 l1 l2 v12).length) (pp (xS v9.length (Xo (Zz v9) (0+(tn v16)) 2 [(ii (rd (xsV (cvT l1) (cvT l2)) (tn (wr (v12+1)))))]) (Zz (y8g v9 v16 l1 l2 v12))) (pp (pp (xF (Xo (Zz v9) (0+(tn v16)) 2 [(ii (rd (xsV (cvT l1) (cvT l2)) (tn (wr (v12+1)))))])) nn) (ww o2 (ww o1 (ww o0 (tt k0 nn))))))))))))) (fun k0=>(sl y0o 17 [] ⟨[0],[],u9t,u9v⟩ ⟨[],[],[]⟩ [false] (pp (fl v9 nn) (tt k0 nn)))))
theorem x7i (x0:Int) (l1:List R4) (l2:List R4):Yt prog (Zy prog 126) (rjoC x0 l1 l2) (Za prog 126 [(.int .i64 x0),(.dat l1.length (Zz l1)),(.dat l2.length (Zz l2))] true []) (y2u x0 l1 l2):=(lo fun o0=>(lo fun o1=>(sl y0o 34 [(88,4,Zz ([]:List R4))] ⟨[0],[],u9t,u9v⟩ ⟨[(9,.grow 0 4),(10,.list 0 (Zz ([]:List R2)))],[],[]⟩ [] (pp (fl ([]:List R4) nn) (pp (pp (xr l1) (pp (xr l2) (xw o1))) (pp (pp (xr l1) (pp (xr l2) (xw o0))) nn))))))
theorem v8b (x0:Int) (l1:List R4) (l2:List R4) (n:Nat) (vs:List AVal) (h:Zs (Vz x0 l1 l2) n (y2u x0 l1 l2)=.ret vs):Jy prog (Zy prog 126) (Za prog 126 [(.int .i64 x0),(.dat l1.length (Zz l1)),(.dat l2.length (Zz l2))] true []) vs:=by have:=Zd (w5v x0 l1 l2) n _ (x7i x0 l1 l2);rwa [h] at this
theorem z2g : ∀(l out:List Int),(l.foldl y5i out).length ≤out.length+l.length
 | [],out=>Ao _
 | x::l,out=>AL (z2g l (y5i out x)) (by have:=y5h out x;simp;omega)
theorem z6c (l:List Int):(Un l).length ≤l.length:=by
 have:=z2g l []
 simpa [Un] using this
theorem y6a (cuts:List Int) (ins:List Bool): ∀(k i:Nat) (out:List R2),(w8w cuts ins k i out).length ≤out.length+k
 | 0,_,out=>Ao _
 | k+1,i,out=>by
  unfold w8w;refine AL (y6a cuts ins k (i+1) _) ?_;cases rd ins i
  ·simp only [Aa];omega
  ·simp only [Ab];cases (decide (0<out.length)&&((rd out (out.length - 1)).b == rd cuts i)) <;> simp <;> omega
theorem z0m (cuts:List Int) (ins:List Bool):(z1q cuts ins).length ≤cuts.length:=by have:=y6a cuts ins (cuts.length - 1) 0 [];unfold z1q;simp only [Bq] at this;omega
section
variable (kind:Int) (l m:List R4)
def v5b (x:Int) (y:Int):Bool:=y1g kind (has4V l x y) (has4V m x y)
def x0g (x:Int):List R2:=z1q (ysV l m) ((ysV l m).map (v5b kind l m x))
def v4l (out:List R4) (first:Nat) (x:Int):List R4:=out.take first++(out.drop first).map fun r=>⟨r.a,r.b,x,r.d⟩
def u5i (x x':Int) (s:List R2):List R4:=s.map fun p=>⟨x,p.a,x',p.b⟩
def jF :Nat→Nat→List R4→List R2→Nat→List R4
 | 0,_,out,_,_=>out
 | k+1,i,out,last,first=>
  bif decide (0<i)&&Kc (x0g kind l m (rd (xsV l m) i)) last then jF k (i+1) (v4l out first (rd (xsV l m) (i+1))) last first
  else jF k (i+1) (out++u5i (rd (xsV l m) i) (rd (xsV l m) (i+1)) (x0g kind l m (rd (xsV l m) i))) (x0g kind l m (rd (xsV l m) i)) out.length
def joV :List R4:=jF kind l m ((xsV l m).length - 1) 0 [] [] 0
end
def Ja (_:Int) (l m:List R4):Bool:=decide (l.length≤10000∧m.length≤10000)
theorem Ji (l m:List R4):(xsV l m).length ≤2*l.length+2*m.length:=by refine AL (z6c _) ?_;rw [Ar,z0v,z0v];omega
theorem z9g (l m:List R4):(ysV l m).length ≤2*l.length+2*m.length:=by refine AL (z6c _) ?_;rw [Ar,z0u,z0u];omega
section
variable (kind:Int) (l m:List R4) (hl:l.length≤10000) (hm:m.length≤10000)
include hl hm
theorem u4j (out:List R4) (last:List R2) (first:Int) (i:Nat) (hi:i+1<(xsV l m).length): ∀(k j:Nat) (acc:List Bool),j+k=(ysV l m).length →acc.length=j→
  ∃n,∀N,Zs (Vz kind l m) (N+n) (.to (.h1 out last first (i:Int) acc (j:Int)))=Zs (Vz kind l m) N (.to (.h1 out last first (i:Int) (acc++((ysV l m).drop j).map (v5b kind l m (rd (xsV l m) i))) ((ysV l m).length :Int)))
 | 0,j,acc,h,ha=>by refine ⟨0,fun N=> ?_⟩;rw [At (by omega),Bb,Az,A5];rw [show j=(ysV l m).length by omega]
 | k+1,j,acc,h,ha=>by
  have hx:=Ji l m;have hy:=z9g l m;obtain ⟨n,hn⟩:=u4j out last first i hi k (j+1) (acc++[v5b kind l m (rd (xsV l m) i) (rd (ysV l m) j)]) (by omega) (by simp [ha])
  refine ⟨n+1,fun N=> ?_⟩;have w1: ∀x y,z0g l x y=true:=fun x y=>Ah (by omega);have w2: ∀x y,z0g m x y=true:=fun x y=>Ah (by omega);rw [Yj (show j<(ysV l m).length by omega),A4,←AD,Zv];simp (disch:=omega) only [Vz,Zg,Zq,w1,w2,Zn,Zo,Yc,Yp,Zf,Zk,Zx,Ym,Zj,Ag,Av,Ai,Al,Ab];have:=hn N;rw [AH] at this;exact this
theorem u4i (last:List R2) (first:Int) (i:Nat) (hi:i+1<(xsV l m).length) (s:List R2) (hs:s.length≤1000000): ∀(k j:Nat) (out:List R4),j+k=s.length→out.length≤10000000000+j→
  ∃n,∀N,Zs (Vz kind l m) (N+n) (.to (.h2 out last first (i:Int) s (j:Int)))=Zs (Vz kind l m) N (.to (.h0 (out++u5i (rd (xsV l m) i) (rd (xsV l m) (i+1)) (s.drop j)) last first ((i+1:Nat):Int)))
 | 0,j,out,h,ho=>by have hx:=Ji l m;refine ⟨1,fun N=> ?_⟩;rw [At (by omega),Zv];simp (disch:=omega) only [Vz,Zg,Zq,Yz,Zk,Zx,Aa,u5i,Bb,Az]
 | k+1,j,out,h,ho=>by
  have hx:=Ji l m;obtain ⟨n,hn⟩:=u4i last first i hi s hs k (j+1) (out++u5i (rd (xsV l m) i) (rd (xsV l m) (i+1)) [rd s j]) (by omega) (by simp [u5i];omega)
  refine ⟨n+1,fun N=> ?_⟩;have:=hn N;rw [Yj (show j<s.length by omega),←AD,Zv];simp (disch:=omega) only [Vz,Zg,Zq,Zn,Zo,Yc,Yp,Zf,Zk,Zx,Ym,Zj,Ag,Av,Ai,Al,Ab];rw [AH] at this;exact this
theorem u1c (out:List R4) (j:Nat) (x:Int) (h:j<out.length):v4l (out.set j ⟨(rd out j).a,(rd out j).b,x,(rd out j).d⟩) (j+1) x=v4l out j x:=by
 have _uhl:=hl;have _uhm:=hm;unfold v4l;rw [Yj h,A4];have e1:(out.set j ⟨(rd out j).a,(rd out j).b,x,(rd out j).d⟩).take (j+1)=out.take j++[⟨(rd out j).a,(rd out j).b,x,(rd out j).d⟩]:=by
  apply Cs
  ·simp;omega
  ·intro n h1 h2;simp only [Bs,List.getElem_set];by_cases e:j=n
   ·subst e;rw [AB rfl,BK (by simp only [A0];omega)];simp
   ·rw [Aw e,BA (by simp at h1 ⊢;omega),Bs]
 have e2:(out.set j ⟨(rd out j).a,(rd out j).b,x,(rd out j).d⟩).drop (j+1)=out.drop (j+1):=by rw [List.drop_set];rw [AB (by omega)]
 rw [e1,e2,AH];rfl
theorem u4h (last:List R2) (first:Int) (i:Nat) (hi:i+1<(xsV l m).length): ∀(k j:Nat) (out:List R4),j+k=out.length→out.length≤10000000000→
  ∃n,∀N,Zs (Vz kind l m) (N+n) (.to (.h3 out last first (i:Int) (j:Int)))=Zs (Vz kind l m) N (.to (.h0 (v4l out j (rd (xsV l m) (i+1))) last first ((i+1:Nat):Int)))
 | 0,j,out,h,ho=>by
  have hx:=Ji l m;refine ⟨1,fun N=> ?_⟩;have e:v4l out j (rd (xsV l m) (i+1))=out:=by unfold v4l;rw [At (by omega),Bb,Az,AP (by omega)]
  rw [e,Zv];simp (disch:=omega) only [Vz,Zg,Zq,Yz,Zk,Zx,Aa]
 | k+1,j,out,h,ho=>by
  have hx:=Ji l m;obtain ⟨n,hn⟩:=u4h last first i hi k (j+1) (out.set j ⟨(rd out j).a,(rd out j).b,rd (xsV l m) (i+1),(rd out j).d⟩) (by simp;omega) (by simpa using ho)
  refine ⟨n+1,fun N=> ?_⟩;have:=hn N;rw [u1c l m hl hm out j _ (by omega)] at this;rw [←AD,Zv];simp (disch:=omega) only [Vz,Zg,Zq,Zn,Zo,Yk,Yc,Yp,Zf,Zk,Zx,Ym,Zj,Ag,Av,Ai,Al,Ab];exact this
theorem v1a : ∀(k i:Nat) (out:List R4) (last:List R2) (first:Nat),k=(xsV l m).length - 1 - i→i≤(xsV l m).length →out.length≤i*40000→last.length≤40000→first≤out.length→
  ∃n,Zs (Vz kind l m) n (.to (.h0 out last (first:Int) (i:Int)))=.ret [.dat (jF kind l m k i out last first).length (Zz (jF kind l m k i out last first))]
 | 0,i,out,last,first,h,hi,ho,hla,hf=>by have hx:=Ji l m;refine ⟨1,?_⟩;rw [Zv];simp (disch:=omega) only [Vz,Zg,Zq,Yz,Zk,Zx,Aa,Zp,jF]
 | k+1,i,out,last,first,h,hi,ho,hla,hf=>by
  have hx:=Ji l m;have hy:=z9g l m;have hi1:i+1<(xsV l m).length :=by omega
  have hsl:(x0g kind l m (rd (xsV l m) i)).length ≤40000:=AL (z0m _ _) (by omega);have hbig:i*40000≤40000*40000:=AJ _ (by omega);obtain ⟨n1,h1⟩:=u4j kind l m hl hm out last first i hi1 (ysV l m).length 0 [] (Ag _) rfl
  simp only [A3,Bf,Qo] at h1;have w3:Qw (ysV l m) ((ysV l m).map (v5b kind l m (rd (xsV l m) i)))=true:=Ah ⟨by omega,by rw [AS];omega⟩;have w4:Vm (z1q (ysV l m) ((ysV l m).map (v5b kind l m (rd (xsV l m) i)))) last=true:=Ah (AL hsl (by omega));have hy2:((ysV l m).length :Int)=(((ysV l m).length :Nat):Int):=rfl;unfold jF;rcases Yd (decide (0<i)&&Kc (x0g kind l m (rd (xsV l m) i)) last) with q | q
  ·obtain ⟨n3,h3⟩:=u4h kind l m hl hm last first i hi1 (out.length - first) first out (by omega) (by omega)
   obtain ⟨n0,h0⟩:=v1a k (i+1) (v4l out first (rd (xsV l m) (i+1))) last first (by omega) (by omega) (by simp [v4l];omega) hla (by simp [v4l];omega)
   refine ⟨n0+n3+1+n1+1,?_⟩;rw [q,Ab,Zv];simp only [Ac,As] at q;have q2:Kc (z1q (ysV l m) ((ysV l m).map (v5b kind l m (rd (xsV l m) i)))) last=true:=q.2;simp (disch:=omega) only [Vz,Zg,Zq,Zn,Zk,Zx,Ab];have h1':=h1 (n0+n3+1);rw [h1',Zv];simp (disch:=omega) only [Vz,Zg,Zq,Yz,Yn,q2,w3,w4,Ab,Aa];rw [h3 n0,h0]
  ·obtain ⟨n2,h2⟩:=u4i kind l m hl hm (x0g kind l m (rd (xsV l m) i)) (out.length:Int) i hi1 (x0g kind l m (rd (xsV l m) i)) (by omega) (x0g kind l m (rd (xsV l m) i)).length 0 out (Ag _) (by omega);obtain ⟨n0,h0⟩:=v1a k (i+1) (out++u5i (rd (xsV l m) i) (rd (xsV l m) (i+1)) (x0g kind l m (rd (xsV l m) i))) (x0g kind l m (rd (xsV l m) i)) out.length (by omega) (by omega) (by simp [u5i];omega) hsl (by simp);refine ⟨n0+n2+1+n1+1,?_⟩;rw [q,Aa,Zv];simp (disch:=omega) only [Vz,Zg,Zq,Zn,Zk,Zx,Ab];have h1':=h1 (n0+n2+1);rw [h1',Zv];have h2':=h2 n0;simp only [A3,Qo] at h2';by_cases hi0:0<i
   ·rw [Ah hi0,Al] at q;have q2:Kc (z1q (ysV l m) ((ysV l m).map (v5b kind l m (rd (xsV l m) i)))) last=false:=q;simp (disch:=omega) only [Vz,Zg,Zq,Yz,Yn,q2,w3,w4,Ab,Aa];rw [←h0];exact h2'
   ·simp (disch:=omega) only [Vz,Zg,Zq,Yz,Xm,w3,w4,Ab,Aa];rw [←h0];exact h2'
end
theorem u9r (kind:Int) (l m:List R4) (h:Ja kind l m=true): ∃N,Zs (Vz kind l m) N (y2u kind l m)=.ret [.dat (joV kind l m).length (Zz (joV kind l m))]:=by obtain ⟨hl,hm⟩:=AC h;obtain ⟨N,hN⟩:=v1a kind l m hl hm ((xsV l m).length - 1) 0 [] [] 0 rfl (AA _) (AA _) (AA _) (Ao _);refine ⟨N,?_⟩;have w1:y1x l m=true:=Ah ⟨hl,hm⟩;have w2:y1w l m=true:=Ah ⟨hl,hm⟩;simp only [y2u,Zg,Zq,w1,w2,Ab];exact hN
theorem w8u {P:Program} {S:Specs} (hS:Zu P S) {f:FuncId} {F:List AVal→Option (AVal×Bool)} (hf:(P.funcs[f]?).any (fun fn=>fn.body.isSome)=true)
  (hF: ∀args v,F args=some (v,true)→ ∃bs vs,Wr VLe args bs∧(∀(ρ:Rho) (u:Value),Yy ρ (Ku vs) u→Yy ρ v u)∧Jy P (Zy P f) (Za P f bs true []) vs∧ ∃d,pf d (Ku vs)=true):Zu P (S.with f F):=
 w4e hS hf fun args v h=>by obtain ⟨bs,vs,h1,h2,h3,d,h4⟩:=hF args v h;exact ⟨vs,h2,x4r h1 h3,d,h4⟩
theorem z5s {cs cs':List AVal} (h:RLe cs cs') (ρ:Rho) (u:Value) (hv:Yy ρ (.tup cs) u):Yy ρ (.tup cs') u:=by
 cases hv with
 | tup _ vs hl hh=>exact .tup cs' vs (by rw [←h.len];exact hl) fun i h1 h2=>h.sound i (by rw [h.len];exact h1) h1 (hh i (by rw [h.len];exact h1) h2)
theorem z6q (α:Type) [Ys α]:VLe .nils (.dat ([]:List α).length (Zz ([]:List α))):=.nild _
def fJo :List AVal→Option (AVal×Bool)
 | [.int .i64 x0,a1,a2]=>match asL R4 a1,asL R4 a2 with
  | some (L1,g1,n1),some (L2,g2,n2)=>some (.dat (joV x0 L1 L2).length (Zz (joV x0 L1 L2)),isT R4 n1 g1&&(isT R4 n2 g2&&(Ja x0 L1 L2)))
  | _,_=>none
 | _=>none
theorem fJo_ok {S:Specs} (hS:Zu prog S):Zu prog (S.with u5s fJo):=by
 refine z0l hS (by kernel_rfl) fun args v h=> ?_;unfold fJo at h;split at h
 ·rename_i x0 a1 a2;split at h
  ·rename_i L1 g1 n1 L2 g2 n2 e1 e2;simp only [Ae,Ad,Ac] at h;obtain ⟨rfl,ho1,ho2,hw⟩:=h;obtain ⟨N,hN⟩:=u9r x0 L1 L2 hw;exact ⟨_,_,(.cons (.refl _) (.cons (asL_le e1 ho1) (.cons (asL_le e2 ho2) .nil))),rfl,v8b x0 L1 L2 N _ hN,3,rfl⟩
  ·cases h
 ·cases h
def T3 :Specs:=T2.with u5s fJo
theorem y0n :Zu prog T3:=fJo_ok y0o
open Go.Sort
def bnd3 (r:R3):Bool:=decide (-1000000000≤r.a∧r.a≤1000000000)
def y1q (l:List R3):Bool:=l.all bnd3
abbrev E3 :={r:R3 // bnd3 r=true}
instance : Inhabited E3:=⟨⟨⟨0,0,0⟩,rfl⟩⟩
def cf3 (x y:E3):Int:=x.1.a - y.1.a
def lt3 (x y:E3):Bool:=decide (cf3 x y<0)
theorem swo3 :SWO lt3 where
 irrefl x:=by unfold lt3 cf3;simp
 trans x y z h1 h2:=by unfold lt3 cf3 at*;simp at*;omega
 ntrans x y z h1 h2:=by unfold lt3 cf3 at*;simp at*;omega
def x2k :(l:List R3)→y1q l=true→List E3
 | [],_=>[]
 | r::l,h=>⟨r,by simp [y1q] at h;exact h.1⟩::x2k l (by simp [y1q] at h ⊢;exact h.2)
theorem y3u : ∀(l:List R3) (h:y1q l=true),(x2k l h).map Subtype.val=l
 | [],_=>rfl
 | r::l,h=>by rw [x2k,A4,y3u l]
theorem Ki (l:List R3) (h:y1q l=true):(x2k l h).length =l.length:=by
 have:=AY List.length (y3u l h)
 simpa using this
def z0w (l:List R3):List R3:=if h:y1q l=true then (pdq lt3 (x2k l h).toArray 0 l.length (Lib.bitLen l.length) true true).toList.map Subtype.val else l
theorem Ks (l:List R3) (h:y1q l=true):(z0w l).Perm l∧ ∀i j,i<j→j<(z0w l).length →(rd (z0w l) i).a ≤(rd (z0w l) j).a :=by
 have hp:=pdq_sorts lt3 swo3 (x2k l h).toArray 0 l.length (Lib.bitLen l.length) true true (AA _) (by simp [Ki]) (Or.inl rfl);obtain ⟨⟨h1,h2,h3⟩,h4⟩:=hp;have e:z0w l=(pdq lt3 (x2k l h).toArray 0 l.length (Lib.bitLen l.length) true true).toList.map Subtype.val:=by unfold z0w;rw [dif_pos h]
 generalize pdq lt3 (x2k l h).toArray 0 l.length (Lib.bitLen l.length) true true=d at*;have hs:d.size=l.length:=by rw [h1];simp [Ki]
 constructor
 ·rw [e];have x1:(d.extract 0 l.length).toList =d.toList:=by rw [←hs];simp
  have x2:((x2k l h).toArray.extract 0 l.length).toList =x2k l h:=by rw [show l.length=(x2k l h).toArray.size by simp [Ki]];simp
  rw [x1,x2] at h3;have:=h3.map Subtype.val;rw [y3u] at this;exact this
 ·intro i j hij hj;rw [e] at hj ⊢;have hj':j<d.size:=by simpa using hj
  have:=h4 i j (AA _) hij (by omega);rw [BU d i (by omega),BU d j hj'] at this;rw [Yo (by simp;omega),Yo hj];simp only [B9,Array.getElem_toList];unfold lt3 cf3 at this;have:=of_decide_eq_false this;omega
open Go.RowKit Go.Shelf
variable {P:Program} {ρ:Rho}
def valOf :AVal→Value
 | .int k n=>.int k n
 | .bool b=>.bool b
 | _=>.tuple #[]
def x9f :AVal→Bool
 | .int _ _=>true
 | .bool _=>true
 | _=>false
theorem w9g {a:AVal} (h:x9f a=true):Yy ρ a (valOf a):=by
 cases a <;> first
  | exact .int _ _
  | exact .bool _
  | (simp [x9f] at h;done)
theorem v1k {a:AVal} {v:Value} (h:x9f a=true) (hv:Yy ρ a v):v=valOf a:=by
 cases hv <;> first
  | rfl
  | (simp [x9f] at h;done)
class u7g (α:Type) extends Ys α where
 num: ∀a:α,(cells a).all x9f=true
instance : u7g R2 where num _:=rfl
instance : u7g R3 where num _:=rfl
instance : u7g R4 where num _:=rfl
instance : u7g R6 where num _:=rfl
instance {α :Type} [Ys α]:Inhabited α:=⟨Ys.d⟩
section
variable {α:Type} [u7g α]
def y9q (a:α):List Value:=(Ys.cells a).map valOf
theorem y5u (a:α):(y9q a).length =Ys.w α:=by rw [y9q,AS,Ys.len]
theorem w3o (L:List α) (t:Nat) (h:t<L.length*Ys.w α):(flatK y9q (Ys.w α) L.toArray)[t]? =(Ys.cells (rd L (t / Ys.w α)))[t %Ys.w α]?.map valOf:=by
 have hw:=Ys.pos (α:=α);have hq:t / Ys.w α<L.length:=Bw (by rw [Bn];exact h);have hj:t %Ys.w α<Ys.w α:=BY _ hw;have hs:t<(flatK y9q (Ys.w α) L.toArray).size :=by rw [size_flatK];exact h
 rw [Bk hs,←BU (flatK y9q (Ys.w α) L.toArray) t hs,get_flatK y9q (Ys.w α) L.toArray t (by simpa using h)];have e1:L.toArray[t / Ys.w α]! =rd L (t / Ys.w α):=by rw [Yo hq,BU L.toArray _ (by simpa using hq)];simp
 rw [e1];have hl:t %Ys.w α<(y9q (rd L (t / Ys.w α))).length :=by rw [y5u];exact hj
 have hl2:t %Ys.w α<(Ys.cells (rd L (t / Ys.w α))).length :=by rw [Ys.len];exact hj
 rw [BU (y9q (rd L (t / Ys.w α))) _ hl,Aq hl2];simp [y9q]
theorem v0u (L:List α) (N t:Nat) (h:t<N*Ys.w α):(Yx N (Zz L))[t]? =(Ys.cells (rd L (t / Ys.w α)))[t %Ys.w α]? :=by have hw:=Ys.pos (α:=α);have:=Wn (get:=Zz L) (sz:=Ys.w α) N (fun _ _=>Ys.len _) (t / Ys.w α) (t %Ys.w α) (Bw (by rw [Bn];exact h)) (BY _ hw);rw [show t / Ys.w α*Ys.w α+t %Ys.w α=t by rw [Bn];exact B1 t _] at this;exact this
theorem z1v (L:List α) (N:Nat):(Yx N (Zz L)).length =N*Ys.w α:=Yq N fun _ _=>Ys.len _
theorem y5l (w:World) (n blk off:Nat) (d:Array Value) (os:Array Obj) (k:Nat) (hk:k<w.heap.size):
  (grow (putRow id (Go.Sort.ahead w n) blk off d) os).heap[k]? =if k=blk then (w.heap[k]?).map (onCells (putCells id off d)) else w.heap[k]? :=by
 show (((Go.Sort.ahead w n).heap.modify blk (onCells (putCells id off d)))++os)[k]? =_;rw [Array.getElem?_append_left (by simp;exact hk),Array.getElem?_modify];show (if blk=k then _ else _)=_;by_cases h:k=blk
 ·rw [AB h.symm,AB h];rfl
 ·rw [Aw (fun e=>h e.symm),Aw h];rfl
def w3r (α:Type) [Ys α] (srt:List α→List α) (bnd:List α→Bool) (g:FuncId) (args:List AVal) (mem:Mem):Option (AVal×Nat×ABlk×Bool):=match args with
 | [.sla b sz off n cap,.fn f []]=>bif Nat.beq f g then match Yf mem b with
  | some ⟨_,ty,some A⟩=>some (.tup [],b,⟨Yx A.n (Zz (srt (lst α n A.get))),ty,some ⟨Ys.w α,A.n,Zz (srt (lst α n A.get))⟩⟩,
    Nat.beq sz (Ys.w α)&&(Nat.beq A.sz (Ys.w α)&&(Nat.beq off 0&&((decide (n=A.n)&&(isT α n A.get&&decide (n<4611686018427387904)))&&bnd (lst α n A.get)))))
  | _=>none
  else none
 | _=>none
theorem v4p {f g:FuncId} {srt:List α→List α} {bnd:List α→Bool} (hsl: ∀L,(srt L).length =L.length)
  (hC: ∀(blk off cap:Nat) (L:List α) (w:World),bnd L=true→HoldsK y9q (Ys.w α) w blk off L.toArray→blk<w.heap.size→L.length<4611686018427387904→
   Calls P f #[.slice (some ⟨blk,off,none⟩) L.length cap,.func (.func g) #[] #[]] w fun e w'=>e=.returned (.tuple #[])∧ ∃n os,w'=sortWorldK y9q (Ys.w α) w blk off n (srt L).toArray os)
  (hN: ∀(p:Option Addr) (cap:Nat) (fv:Value) (w:World),Calls P f #[.slice p 0 cap,fv] w fun e w'=>e=.returned (.tuple #[])∧w'=w):x5m P f (w3r α srt bnd g):=by
 intro args mem v b blk h fC ρ next floor vals w hfl cW cS
 have hw0:=Ys.pos (α:=α);unfold w3r at h;split at h
 ·rename_i b0 sz off n cap f0;obtain ⟨hfg,h'⟩:=Qt h;clear h;obtain rfl:=Aj hfg;have h:=h';clear h';split at h
  ·rename_i cells ty A hm;obtain ⟨asz,an,get⟩:=A;simp only [Ae,Ad,Ac] at h;obtain ⟨rfl,rfl,rfl,h1,h2,h3,⟨h4,h5,h6⟩,h7⟩:=h;have g1:=Aj h1;have g2:=Aj h2;have g3:=Aj h3;have g4:n=an:=AC h4;have h6:n<4611686018427387904:=AC h6;have g2:asz=Ys.w α:=g2;subst g1;subst g2;subst g3;subst g4;have h7:bnd (lst α n get.get)=true:=h7;have dE:=w3h h5;have dE: ∀i,i<n→get.get i=Zz (lst α n get.get) i:=dE;have hrows:Yx n get.get=Yx n (Zz (lst α n get.get)):=z9i n dE;obtain ⟨u,hu,hvals⟩: ∃u,Yy ρ (.sla b0 (Ys.w α) 0 n cap) u∧vals= #[u,.func (.func f0) #[] #[]]:=by
    obtain ⟨vl⟩:=vals;cases cW with
    | cons q1 q2=>cases q2 with
     | cons q3 q4=>
      cases q4;cases q3 with
      | fn _ _ cvs hl _=>have:cvs= #[]:=BR (by simpa using hl.symm);subst this;exact ⟨_,q1,rfl⟩
   subst hvals;have hlt:b0<next:=by
    rcases Bi b0 next with q | q
    ·exact q
    ·have:=cS.bd b0 q;rw [hm] at this;cases this
   show Calls P f _ w _;have hAget:(Arr.get ⟨Ys.w α,n,get⟩)=get.get:=rfl;rw [hAget] at*;generalize hI:lst α n get.get=I at*;have hIl:I.length=n:=by rw [←hI];exact z9v _ _
   generalize hL:srt I=L;have hLl:L.length=n:=by rw [←hL,hsl,hIl]
   have hnn:ρ b0=none→ ∀cs ty',Yf mem b0≠some ⟨cs,ty',none⟩:=fun _ cs ty' e=>by rw [hm] at e;cases e
   cases hu with
   | sla _ _ _ _ _ l cc e hc cT=>
    have hbk:=cS.blk b0 l _ e hm;obtain ⟨har,_,_⟩:=hbk.arr _ rfl;have har:cells=Yx n get.get:=har;rw [hrows] at har;subst har;obtain ⟨cur,el,hh,hsz,dB⟩:=hbk.cells;simp only [z1v] at dB;have htot:=hbk.tot;have hln:=hbk.n;simp only [z1v] at hln;have dW: ∀t,t<n*Ys.w α→cur[l.base+t]? =(Ys.cells (rd I (t / Ys.w α)))[t %Ys.w α]?.map valOf:=fun t ht=>by
     obtain ⟨v,e1,e2⟩:=dB t ht;have hj:t %Ys.w α<Ys.w α:=BY _ hw0;have hl2:t %Ys.w α<(Ys.cells (rd I (t / Ys.w α))).length :=by rw [Ys.len];exact hj
     have e3:=v0u I n t ht;rw [Aq (by rw [z1v];exact ht),Aq hl2] at e3;rw [Af e3] at e2;rw [e1,Aq hl2,BL,v1k (Au.1 (u7g.num _) _ (AR hl2)) e2]
    have eI:=cS.real b0 l e;have hH:HoldsK y9q (Ys.w α) w l.blk (l.base+0*Ys.w α) I.toArray:=fun j hj=>by
     have hj:j<n*Ys.w α:=(by simpa [hIl] using hj);have hs:j<(flatK y9q (Ys.w α) I.toArray).size :=(by simpa [hIl] using hj);have e1:=w3o I j (by rw [hIl];exact hj);rw [Bk hs] at e1;refine ⟨?_,?_⟩
     ·simp only [World.cell?,hh,Bj,A5,id];rw [dW j hj,←e1,BU (flatK y9q (Ys.w α) I.toArray) j hs];simp
     ·simp [World.frozen?,hh]
    have dL:=hC l.blk (l.base+0*Ys.w α) cc I w h7 hH eI (by omega);rw [hIl,hL] at dL;refine dL.mono fun e' w' ⟨he,q,os,hw'⟩=>⟨_,he,?_,?_,?_⟩
    ·exact .tup [] #[] rfl fun i h1 h2=>absurd h1 (AO _)
    ·subst hw';refine Rel.setArr ?_ ⟨Ys.w α,n,.flat (Zz L)⟩ rfl hw0 fun _ _=>Ys.len _;refine Rel.rewritten cS e hm (by simp only [z1v]) (fun k hk hne=> ?_) ?_ ?_
     ·exact (y5l _ _ _ _ _ _ _ hk).trans (Aw hne)
     ·show _≤(((Go.Sort.ahead w q).heap.modify _ _)++os).size;simp only [BQ,Cd];exact BI _ _
     ·refine ⟨putCells id (l.base+0*Ys.w α) (flatK y9q (Ys.w α) L.toArray) cur,el,?_,?_,fun i hi=> ?_⟩
      ·refine (y5l _ _ _ _ _ _ _ eI).trans ?_;rw [AB rfl,hh];rfl
      ·simp only [putCells,Array.size_mapIdx];exact hsz
      ·rw [z1v] at hi;have hj:i %Ys.w α<Ys.w α:=BY _ hw0;have hl2:i %Ys.w α<(Ys.cells (rd L (i / Ys.w α))).length :=by rw [Ys.len];exact hj
       have hl3:i %Ys.w α<(Ys.cells (rd I (i / Ys.w α))).length :=by rw [Ys.len];exact hj
       have e1:=w3o L i (by rw [hLl];exact hi);rw [Aq hl2,BL] at e1;have hs:i<(flatK y9q (Ys.w α) L.toArray).size :=(by simpa [hLl] using hi);rw [Bk hs] at e1;have e3:=v0u L n i hi;rw [Aq (by rw [z1v];exact hi),Aq hl2] at e3;refine ⟨valOf (Ys.cells (rd L (i / Ys.w α)))[i %Ys.w α],?_,?_⟩
       ·have hc0:=dW i hi;rw [Aq hl3,BL] at hc0;simp only [putCells,Array.getElem?_mapIdx,hc0,BL,Bj,A5];rw [AB ⟨by omega,by omega⟩]
        congr 1
        rw [show l.base+i - l.base=i by omega,id,BU (flatK y9q (Ys.w α) L.toArray) i hs];exact Af e1
       ·rw [Af e3];exact w9g (Au.1 (u7g.num _) _ (AR hl2))
    ·subst hw';refine Ev.rewritten cS _ (fun l' _=>hfl) hnn (fun k hk hne=> ?_) ?_ rfl rfl rfl
     ·exact (y5l _ _ _ _ _ _ _ hk).trans (Aw (hne l e))
     ·show _≤(((Go.Sort.ahead w q).heap.modify _ _)++os).size;simp only [BQ,Cd];exact BI _ _
   | slan=>
    have hI0:I=[]:=List.eq_nil_of_length_eq_zero hIl;have hL0:L=[]:=List.eq_nil_of_length_eq_zero hLl;refine (hN none 0 _ w).mono fun e' w' ⟨he,hw'⟩=>⟨_,he,?_,?_,?_⟩
    ·exact .tup [] #[] rfl fun i h1 h2=>absurd h1 (AO _)
    ·subst hw';refine cS.reblk hm fun l hρ hbk=> ?_;obtain ⟨har,fA,_⟩:=hbk.arr _ rfl;have har:cells=Yx 0 get.get:=har;subst har;exact ⟨hbk.n,hbk.tot,fun B hB=>by obtain rfl:=Af hB;exact ⟨rfl,hw0,fun i hi=>absurd hi (AO _)⟩,hbk.cells⟩
    ·subst hw';exact Ev.rewritten cS _ (fun l' _=>hfl) hnn (fun _ _ _=>rfl) (Ao _) rfl rfl rfl
  ·cases h
 ·cases h
end
def Specs.withE (S:Specs) (f:FuncId) (F:List AVal→Mem→Option (AVal×Nat×ABlk×Bool)):Specs:=fun g=>bif Nat.beq g f then some (.eff F) else S g
theorem x0a {P:Program} {S:Specs} (hS:Zu P S) {f:FuncId} {F:List AVal→Mem→Option (AVal×Nat×ABlk×Bool)} (hf:(P.funcs[f]?).any (fun fn=>fn.body.isSome)=true) (hF:x5m P f F):Zu P (S.withE f F):=by
 intro g G hg;unfold Specs.withE at hg;cases hgf:Nat.beq g f with
 | false=>rw [hgf] at hg;exact hS g G hg
 | true=>
  rw [hgf] at hg;obtain rfl:Spec.eff F=G:=Af hg;obtain rfl:g=f:=Aj hgf;refine ⟨?_,hF⟩;cases hfn:P.funcs[g]? with
  | none=>rw [hfn] at hf;cases hf
  | some fn=>rw [hfn] at hf;exact ⟨fn,rfl,hf⟩
end Go.Am
namespace Go.Proofs
open Go.Proofs.Tryz
open Go.Shelf
def Tryz.lays189_ren :Go.Shelf.Ren:=⟨fun | 189=>63 | 125=>117 | 257=>116 | 128=>152 | 129=>153 | 294=>143 | 295=>144 | 296=>145 | 297=>146 | 298=>147 | 299=>148 | 216=>149 | 300=>150 | 301=>151 | 328=>176 | 329=>177 | 330=>178 | 331=>179 | 332=>180 | 215=>181 | 343=>194 | n=>n,fun | 28=>93 | 3=>3 | 46=>147 | 0=>0 | 51=>194 | 53=>196 | 4=>4 | 183=>186 | 182=>185 | 131=>191 | 5=>5 | 9=>9 | 218=>224 | 222=>228 | 228=>239 | 229=>91 | n=>n,fun | n=>n⟩
theorem Tryz.lays189 :Go.Proofs.Lays.n189 prog Tryz.lays189_ren:={
 mixed:=by kernel_rfl
 f125:=Tryz.func117.trans (congrArg some (by kernel_rfl))
 f128:=Tryz.func152.trans (congrArg some (by kernel_rfl))
 f129:=Tryz.func153.trans (congrArg some (by kernel_rfl))
 f189:=Tryz.func63.trans (congrArg some (by kernel_rfl))
 f215:=Tryz.func181.trans (congrArg some (by kernel_rfl))
 f216:=Tryz.func149.trans (congrArg some (by kernel_rfl))
 f257:=Tryz.func116.trans (congrArg some (by kernel_rfl))
 f294:=Tryz.func143.trans (congrArg some (by kernel_rfl))
 f295:=Tryz.func144.trans (congrArg some (by kernel_rfl))
 f296:=Tryz.func145.trans (congrArg some (by kernel_rfl))
 f297:=Tryz.func146.trans (congrArg some (by kernel_rfl))
 f298:=Tryz.func147.trans (congrArg some (by kernel_rfl))
 f299:=Tryz.func148.trans (congrArg some (by kernel_rfl))
 f300:=Tryz.func150.trans (congrArg some (by kernel_rfl))
 f301:=Tryz.func151.trans (congrArg some (by kernel_rfl))
 f328:=Tryz.func176.trans (congrArg some (by kernel_rfl))
 f329:=Tryz.func177.trans (congrArg some (by kernel_rfl))
 f330:=Tryz.func178.trans (congrArg some (by kernel_rfl))
 f331:=Tryz.func179.trans (congrArg some (by kernel_rfl))
 f332:=Tryz.func180.trans (congrArg some (by kernel_rfl))
 f343:=Tryz.func194.trans (congrArg some (by kernel_rfl))
 t0:=Tryz.underlying0
 a0:=Tryz.isAgg0
 z0:=Tryz.sizeOf0
 v0:=Tryz.zeroValue0
 t3:=Tryz.underlying3
 a3:=Tryz.isAgg3
 z3:=Tryz.sizeOf3
 v3:=Tryz.zeroValue3
 t4:=Tryz.underlying4
 a4:=Tryz.isAgg4
 z4:=Tryz.sizeOf4
 v4:=Tryz.zeroValue4
 t5:=Tryz.underlying5
 a5:=Tryz.isAgg5
 z5:=Tryz.sizeOf5
 v5:=Tryz.zeroValue5
 t9:=Tryz.underlying9
 a9:=Tryz.isAgg9
 z9:=Tryz.sizeOf9
 v9:=Tryz.zeroValue9
 t28:=Tryz.underlying93
 a28:=Tryz.isAgg93
 z28:=Tryz.sizeOf93
 v28:=Tryz.zeroValue93
 t46:=Tryz.underlying147
 a46:=Tryz.isAgg147
 z46:=Tryz.sizeOf147
 v46:=Tryz.zeroValue147
 t51:=Tryz.underlying194
 a51:=Tryz.isAgg194
 z51:=Tryz.sizeOf194
 v51:=Tryz.zeroValue194
 t53:=Tryz.underlying196
 a53:=Tryz.isAgg196
 z53:=Tryz.sizeOf196
 v53:=Tryz.zeroValue196
 t131:=Tryz.underlying191
 a131:=Tryz.isAgg191
 z131:=Tryz.sizeOf191
 v131:=Tryz.zeroValue191
 t182:=Tryz.underlying185
 a182:=Tryz.isAgg185
 z182:=Tryz.sizeOf185
 v182:=Tryz.zeroValue185
 t183:=Tryz.underlying186
 a183:=Tryz.isAgg186
 z183:=Tryz.sizeOf186
 v183:=Tryz.zeroValue186
 t218:=Tryz.underlying224
 a218:=Tryz.isAgg224
 z218:=Tryz.sizeOf224
 v218:=Tryz.zeroValue224
 t222:=Tryz.underlying228
 a222:=Tryz.isAgg228
 z222:=Tryz.sizeOf228
 v222:=Tryz.zeroValue228
 t228:=Tryz.underlying239
 a228:=Tryz.isAgg239
 z228:=Tryz.sizeOf239
 v228:=Tryz.zeroValue239
 t229:=Tryz.underlying91
 a229:=Tryz.isAgg91
 z229:=Tryz.sizeOf91
 v229:=Tryz.zeroValue91}
open Go.Sort Go.RowKit in
theorem Tryz.slices_Sort_int (blk off cap:Nat) (zs:List Int) (w:World) (hH:Holds (Value.int .i64) w blk off zs.toArray) (eI:blk<w.heap.size) (hsz:zs.length<4611686018427387904):
  Calls prog 63 #[.slice (some ⟨blk,off,none⟩) zs.length cap] w fun e w'=>
   e=.returned (.tuple #[])∧ ∃n os,w'=grow (putRow (Value.int .i64) (Sort.ahead w n) blk off (zs.mergeSort fun x y=>decide (x≤y)).toArray) os:=Any.slices_Sort_int Tryz.lays189 blk off cap zs w hH eI hsz
def Tryz.laysNm220_ren :Go.Shelf.Ren:=⟨fun | 20=>64 | n=>n,fun | 22=>93 | 3=>3 | 4=>4 | 0=>0 | n=>n,fun | n=>n⟩
theorem Tryz.laysNm220 :Go.Proofs.Lays2.n20 prog Tryz.laysNm220_ren:={
 mixed:=by kernel_rfl
 f20:=Tryz.func64.trans (congrArg some (by kernel_rfl))
 t0:=Tryz.underlying0
 a0:=Tryz.isAgg0
 z0:=Tryz.sizeOf0
 v0:=Tryz.zeroValue0
 t3:=Tryz.underlying3
 a3:=Tryz.isAgg3
 z3:=Tryz.sizeOf3
 v3:=Tryz.zeroValue3
 t4:=Tryz.underlying4
 a4:=Tryz.isAgg4
 z4:=Tryz.sizeOf4
 v4:=Tryz.zeroValue4
 t22:=Tryz.underlying93
 a22:=Tryz.isAgg93
 z22:=Tryz.sizeOf93
 v22:=Tryz.zeroValue93
 i3:=by kernel_rfl}
open Go.RowKit Go.Lib Go.Sort in
theorem Tryz.slices_Compact_int (blk off cap:Nat) (zs:List Int) (w:World) (hH:Holds (Value.int .i64) w blk off zs.toArray) (hsz:zs.length≤9223372036854775807) (dC:zs.length≤cap):
  Calls prog 64 #[.slice (some ⟨blk,off,none⟩) zs.length cap] w fun e w'=>e=.returned (.slice (some ⟨blk,off,none⟩) (Lib.compact zs).length cap)∧ ∃q,w'=putRow (Value.int .i64) (Sort.ahead w q) blk off (Lib.compact zs++List.replicate (zs.length - (Lib.compact zs).length) 0).toArray :=Any.slices_Compact_int Tryz.laysNm220 blk off cap zs w hH hsz dC
open Go.RowKit Go.Lib Go.Sort in
theorem Tryz.slices_Compact_int_empty (a:Option Addr) (cap:Nat) (w:World):
  Calls prog 64 #[.slice a 0 cap] w fun e w'=>e=.returned (.slice a 0 cap)∧w'=w:=Any.slices_Compact_int_empty Tryz.laysNm220 a cap w
open Go.RowKit Go.Sort in
theorem Tryz.slices_Sort_int_none (p:Option Addr) (cap:Nat) (w:World):
  Calls prog 63 #[.slice p 0 cap] w fun e w'=>e=.returned (.tuple #[])∧w'=w:=Any.slices_Sort_int_none Tryz.lays189 p cap w
def Tryz.sortEnd_ren :Go.Shelf.Ren:=⟨fun | 6=>200 | 15=>117 | 14=>204 | 28=>152 | 29=>153 | 20=>206 | 21=>207 | 22=>208 | 23=>209 | 24=>210 | 25=>211 | 26=>212 | 27=>213 | 46=>214 | 47=>177 | 48=>178 | 49=>215 | 50=>216 | 57=>217 | n=>n,fun | 22=>248 | 24=>246 | 25=>250 | 3=>3 | 39=>147 | 0=>0 | 53=>194 | 55=>196 | 4=>4 | 46=>186 | 45=>185 | 50=>191 | 5=>5 | 9=>9 | 66=>224 | 70=>228 | 76=>239 | 77=>91 | n=>n,fun | n=>n⟩
theorem Tryz.sortEnd :Go.Proofs.SlLaysF0.n6 prog Tryz.sortEnd_ren:={
 mixed:=by kernel_rfl
 f6:=⟨Tryz.f200.name,by decide,Tryz.func200.trans (congrArg some (by kernel_rfl))⟩
 f14:=⟨Tryz.f204.name,by decide,Tryz.func204.trans (congrArg some (by kernel_rfl))⟩
 f15:=Tryz.func117.trans (congrArg some (by kernel_rfl))
 f20:=⟨Tryz.f206.name,by decide,Tryz.func206.trans (congrArg some (by kernel_rfl))⟩
 f21:=⟨Tryz.f207.name,by decide,Tryz.func207.trans (congrArg some (by kernel_rfl))⟩
 f22:=⟨Tryz.f208.name,by decide,Tryz.func208.trans (congrArg some (by kernel_rfl))⟩
 f23:=⟨Tryz.f209.name,by decide,Tryz.func209.trans (congrArg some (by kernel_rfl))⟩
 f24:=⟨Tryz.f210.name,by decide,Tryz.func210.trans (congrArg some (by kernel_rfl))⟩
 f25:=⟨Tryz.f211.name,by decide,Tryz.func211.trans (congrArg some (by kernel_rfl))⟩
 f26:=⟨Tryz.f212.name,by decide,Tryz.func212.trans (congrArg some (by kernel_rfl))⟩
 f27:=⟨Tryz.f213.name,by decide,Tryz.func213.trans (congrArg some (by kernel_rfl))⟩
 f28:=Tryz.func152.trans (congrArg some (by kernel_rfl))
 f29:=Tryz.func153.trans (congrArg some (by kernel_rfl))
 f46:=⟨Tryz.f214.name,by decide,Tryz.func214.trans (congrArg some (by kernel_rfl))⟩
 f47:=Tryz.func177.trans (congrArg some (by kernel_rfl))
 f48:=Tryz.func178.trans (congrArg some (by kernel_rfl))
 f49:=⟨Tryz.f215.name,by decide,Tryz.func215.trans (congrArg some (by kernel_rfl))⟩
 f50:=⟨Tryz.f216.name,by decide,Tryz.func216.trans (congrArg some (by kernel_rfl))⟩
 f57:=⟨Tryz.f217.name,by decide,Tryz.func217.trans (congrArg some (by kernel_rfl))⟩
 t0:=Tryz.underlying0
 a0:=Tryz.isAgg0
 z0:=Tryz.sizeOf0
 v0:=Tryz.zeroValue0
 t3:=Tryz.underlying3
 a3:=Tryz.isAgg3
 z3:=Tryz.sizeOf3
 v3:=Tryz.zeroValue3
 t4:=Tryz.underlying4
 a4:=Tryz.isAgg4
 z4:=Tryz.sizeOf4
 v4:=Tryz.zeroValue4
 t5:=Tryz.underlying5
 a5:=Tryz.isAgg5
 z5:=Tryz.sizeOf5
 v5:=Tryz.zeroValue5
 t9:=Tryz.underlying9
 a9:=Tryz.isAgg9
 z9:=Tryz.sizeOf9
 v9:=Tryz.zeroValue9
 t22:=Tryz.underlying248
 a22:=Tryz.isAgg248
 z22:=Tryz.sizeOf248
 v22:=Tryz.zeroValue248
 t25:=Tryz.underlying250
 a25:=Tryz.isAgg250
 z25:=Tryz.sizeOf250
 v25:=Tryz.zeroValue250
 t39:=Tryz.underlying147
 a39:=Tryz.isAgg147
 z39:=Tryz.sizeOf147
 v39:=Tryz.zeroValue147
 t45:=Tryz.underlying185
 a45:=Tryz.isAgg185
 z45:=Tryz.sizeOf185
 v45:=Tryz.zeroValue185
 t46:=Tryz.underlying186
 a46:=Tryz.isAgg186
 z46:=Tryz.sizeOf186
 v46:=Tryz.zeroValue186
 t50:=Tryz.underlying191
 a50:=Tryz.isAgg191
 z50:=Tryz.sizeOf191
 v50:=Tryz.zeroValue191
 t53:=Tryz.underlying194
 a53:=Tryz.isAgg194
 z53:=Tryz.sizeOf194
 v53:=Tryz.zeroValue194
 t55:=Tryz.underlying196
 a55:=Tryz.isAgg196
 z55:=Tryz.sizeOf196
 v55:=Tryz.zeroValue196
 t66:=Tryz.underlying224
 a66:=Tryz.isAgg224
 z66:=Tryz.sizeOf224
 v66:=Tryz.zeroValue224
 t70:=Tryz.underlying228
 a70:=Tryz.isAgg228
 z70:=Tryz.sizeOf228
 v70:=Tryz.zeroValue228
 t76:=Tryz.underlying239
 a76:=Tryz.isAgg239
 z76:=Tryz.sizeOf239
 v76:=Tryz.zeroValue239
 t77:=Tryz.underlying91
 a77:=Tryz.isAgg91
 z77:=Tryz.sizeOf91
 v77:=Tryz.zeroValue91}
open Go.RowKit Go.Lib Go.Sort
theorem Tryz.cmpEnd (a b c a' b' c':Int) (h: -1000000000≤a∧a≤1000000000) (h': -1000000000≤a'∧a'≤1000000000) (W:World):
  Calls prog 201 #[.agg #[.int .i64 a,.int .i64 b,.int .i64 c],.agg #[.int .i64 a',.int .i64 b',.int .i64 c']] W fun e w'=>e=.returned (.int .i64 (a - a'))∧ ∃q os',w'=grow (W.drewN q) os':=by
 go_enter Tryz.func201,Tryz.ntmps201
 go_wp2
 go_ret
 exact ⟨rfl,0,_,by rw [alloc_eq_grow,alloc_eq_grow,grow_grow];rfl⟩
end Go.Proofs
namespace Go.Am
open IntKind (wrap)
open Go.Proofs.Tryz
open Go.Proofs
inductive rjsS where
 | h0 (v9:List R6) (v10:List R4) (v11:Int) (v12:Int)
 | h1 (v9:List R6) (v10:List R4) (v11:Int) (v12:Int) (v13:List R4) (v15:Int)
 | h2 (v9:List R6) (v10:List R4) (v11:Int) (v12:Int) (v14:Int)
abbrev w2b (l1:List R6) (l2:List R6) (v12:Int):=(rd (Wo (cvT l1) (cvT l2)) (tn v12))
abbrev y8e (v9:List R6) (v14:Int) (l1:List R6) (l2:List R6) (v12:Int):=(v9.set (0+(tn v14)) (R6.mk (rd v9 (0+(tn v14))).a (rd v9 (0+(tn v14))).b (rd v9 (0+(tn v14))).c (rd v9 (0+(tn v14))).d (rd v9 (0+(tn v14))).e (rd (Wo (cvT l1) (cvT l2)) (tn (wr (v12+1))))))
abbrev y8d (v9:List R6) (v13:List R4) (v15:Int) (l1:List R6) (l2:List R6) (v12:Int):=(v9++[(R6.mk (rd v13 (tn v15)).a (rd v13 (tn v15)).b (w2b l1 l2 v12) (rd v13 (tn v15)).c (rd v13 (tn v15)).d (rd (Wo (cvT l1) (cvT l2)) (tn (wr (v12+1)))))])
abbrev Vu (l1:List R6) (l2:List R6) (v12:Int):=(atV (cvT l1) (w2b l1 l2 v12))
abbrev Uz (l2:List R6) (l1:List R6) (v12:Int):=(atV (cvT l2) (w2b l1 l2 v12))
abbrev u4g (v9:List R6) (v13:List R4) (v15:Int) (l1:List R6) (l2:List R6) (v12:Int):=(Ze (Zz v9) 0 v9.length 6 [(ii (rd v13 (tn v15)).a),(ii (rd v13 (tn v15)).b),(ii (w2b l1 l2 v12)),(ii (rd v13 (tn v15)).c),(ii (rd v13 (tn v15)).d),(ii (rd (Wo (cvT l1) (cvT l2)) (tn (wr (v12+1)))))])
def v0z (l1:List R6) (l2:List R6):AVal:=(.dat (Wo (cvT l1) (cvT l2)).length (Zz (Wo (cvT l1) (cvT l2))))
def rjsC (x0:Int) (l1:List R6) (l2:List R6):rjsS→Cfg
 | .h0 v9 v10 v11 v12=>⟨⟨137,0,true⟩,none,(Zb prog 72 [1,1,1,1,1,0,1,0,0] 0),none,(Zy prog 32),⟨Yg [(0,(ii x0)),(1,(.dat l1.length (Zz l1))),(2,(.dat l2.length (Zz l2))),(8,(v0z l1 l2)),(9,(.sla 0 6 0 v9.length (.un 6))),(10,(.dat v10.length (Zz v10))),(11,(ii v11)),(12,(ii v12))],Wh [⟨Yx v9.length (Zz v9),67,some ⟨6,v9.length,(Zz v9)⟩⟩] 0,1,[],true⟩,[],.leaf⟩
 | .h1 v9 v10 v11 v12 v13 v15=>⟨⟨137,0,true⟩,none,(Zb prog 72 [1,1,1,1,1,0,1,0,0,1,0,0,1,1,1,1,1,0,0] 0),none,(Zy prog 32),⟨Yg [(0,(ii x0)),(1,(.dat l1.length (Zz l1))),(2,(.dat l2.length (Zz l2))),(8,(v0z l1 l2)),(9,(.sla 0 6 0 v9.length (.un 6))),(10,(.dat v10.length (Zz v10))),(11,(ii v11)),(12,(ii v12)),(13,(.dat v13.length (Zz v13))),(15,(ii v15))],Wh [⟨Yx v9.length (Zz v9),67,some ⟨6,v9.length,(Zz v9)⟩⟩] 0,1,[],true⟩,[],.leaf⟩
 | .h2 v9 v10 v11 v12 v14=>⟨⟨137,0,true⟩,none,(Zb prog 72 [1,1,1,1,1,0,1,0,0,1,0,0,1,1,0,1,0,0,1,0,0] 0),none,(Zy prog 32),⟨Yg [(0,(ii x0)),(1,(.dat l1.length (Zz l1))),(2,(.dat l2.length (Zz l2))),(8,(v0z l1 l2)),(9,(.sla 0 6 0 v9.length (.un 6))),(10,(.dat v10.length (Zz v10))),(11,(ii v11)),(12,(ii v12)),(14,(ii v14))],Wh [⟨Yx v9.length (Zz v9),67,some ⟨6,v9.length,(Zz v9)⟩⟩] 0,1,[],true⟩,[],.leaf⟩
def u9o :List (Option (List Nat)):=[some [0,1,2,8,9,10,11,12]]
def u9q :List (Option (List Nat)):=[]
def u9n :List (Option (List Nat)):=[some [0,1,2,8,9,10,11,12,13,15]]
def u9p :List (Option (List Nat)):=[]
def rjsN2 :List (Option (List Nat)):=[some [0,1,2,8,9,10,11,12,14]]
def rjsM2 :List (Option (List Nat)):=[]
def Vg (x0:Int) (l1:List R6) (l2:List R6):rjsS→Xv rjsS
 | .h0 v9 v10 v11 v12=>(bif (decide ((wrap .i64 (v12+1))<(((Wo (cvT l1) (cvT l2)).length :Nat):Int))) then (bif (z5n (cvT l1) (rd (Wo (cvT l1) (cvT l2)) v12.toNat)) then (bif ((decide (0≤v12∧v12<(((Wo (cvT l1) (cvT l2)).length :Nat):Int)))&&true) then (bif (z5n (cvT l2) (rd (Wo (cvT l1) (cvT l2)) v12.toNat)) then (bif (Ja x0 (cvT (atV (cvT l1) (rd (Wo (cvT l1) (cvT l2)) v12.toNat))) (cvT (atV (cvT l2) (rd (Wo (cvT l1) (cvT l2)) v12.toNat)))) then (bif (decide ((((joV x0 (cvT (atV (cvT l1) (rd (Wo (cvT l1) (cvT l2)) v12.toNat))) (cvT (atV (cvT l2) (rd (Wo (cvT l1) (cvT l2)) v12.toNat)))).length :Nat):Int)>400)) then (.ret [.nils,(.bool false)]) else (bif (Ja 2 (cvT (atV (cvT l1) (rd (Wo (cvT l1) (cvT l2)) v12.toNat))) ([]:List R4)) then (bif (decide ((((joV 2 (cvT (atV (cvT l1) (rd (Wo (cvT l1) (cvT l2)) v12.toNat))) ([]:List R4)).length :Nat):Int)>400)) then (.ret [.nils,(.bool false)]) else (bif (Ja 2 (cvT (atV (cvT l2) (rd (Wo (cvT l1) (cvT l2)) v12.toNat))) ([]:List R4)) then (bif (decide ((((joV 2 (cvT (atV (cvT l2) (rd (Wo (cvT l1) (cvT l2)) v12.toNat))) ([]:List R4)).length :Nat):Int)>400)) then (.ret [.nils,(.bool false)]) else (bif (decide (v12>0)) then (bif (Wg (cvT (joV x0 (cvT (atV (cvT l1) (rd (Wo (cvT l1) (cvT l2)) v12.toNat))) (cvT (atV (cvT l2) (rd (Wo (cvT l1) (cvT l2)) v12.toNat))))) (cvT v10)) then (bif (Ur (cvT (joV x0 (cvT (atV (cvT l1) (rd (Wo (cvT l1) (cvT l2)) v12.toNat))) (cvT (atV (cvT l2) (rd (Wo (cvT l1) (cvT l2)) v12.toNat))))) (cvT v10)) then (.to (.h2 v9 v10 v11 v12 v11)) else (.to (.h1 v9 (joV x0 (cvT (atV (cvT l1) (rd (Wo (cvT l1) (cvT l2)) v12.toNat))) (cvT (atV (cvT l2) (rd (Wo (cvT l1) (cvT l2)) v12.toNat)))) (v9.length:Int) v12 (joV x0 (cvT (atV (cvT l1) (rd (Wo (cvT l1) (cvT l2)) v12.toNat))) (cvT (atV (cvT l2) (rd (Wo (cvT l1) (cvT l2)) v12.toNat)))) 0))) else .stuck) else (.to (.h1 v9 (joV x0 (cvT (atV (cvT l1) (rd (Wo (cvT l1) (cvT l2)) v12.toNat))) (cvT (atV (cvT l2) (rd (Wo (cvT l1) (cvT l2)) v12.toNat)))) (v9.length:Int) v12 (joV x0 (cvT (atV (cvT l1) (rd (Wo (cvT l1) (cvT l2)) v12.toNat))) (cvT (atV (cvT l2) (rd (Wo (cvT l1) (cvT l2)) v12.toNat)))) 0)))) else .stuck)) else .stuck)) else .stuck) else .stuck) else .stuck) else .stuck) else (.ret [(.dat v9.length (Zz v9)),(.bool (decide ((v9.length:Int)≤400)))]))
 | .h1 v9 v10 v11 v12 v13 v15=>(bif (decide (v15<(v13.length:Int))) then (bif ((decide (0≤v12∧v12<(((Wo (cvT l1) (cvT l2)).length :Nat):Int)))&&true) then (bif ((decide (0≤v15∧v15<(v13.length:Int)))&&true) then (bif ((decide (0≤(wrap .i64 (v12+1))∧(wrap .i64 (v12+1))<(((Wo (cvT l1) (cvT l2)).length :Nat):Int)))&&true) then (bif (Nat.beq 6 6&&((decide (0+v9.length=v9.length))&&decide ((v9.length+1+1)*(48+1)≤Uw))) then (.to (.h1 (v9++[(R6.mk (rd v13 v15.toNat).a (rd v13 v15.toNat).b (rd (Wo (cvT l1) (cvT l2)) v12.toNat) (rd v13 v15.toNat).c (rd v13 v15.toNat).d (rd (Wo (cvT l1) (cvT l2)) (Int.toNat (wrap .i64 (v12+1)))))]) v10 v11 v12 v13 (wrap .i64 (v15+1)))) else .stuck) else .stuck) else .stuck) else .stuck) else (.to (.h0 v9 v10 v11 (wrap .i64 (v12+1)))))
 | .h2 v9 v10 v11 v12 v14=>(bif (decide (v14<(v9.length:Int))) then (bif ((decide (0≤(wrap .i64 (v12+1))∧(wrap .i64 (v12+1))<(((Wo (cvT l1) (cvT l2)).length :Nat):Int)))&&true) then (bif ((decide (0≤v14∧v14<(v9.length:Int)))&&true) then (bif (decide ((0+v14.toNat)<v9.length)) then (.to (.h2 (v9.set (0+v14.toNat) (R6.mk (rd v9 (0+v14.toNat)).a (rd v9 (0+v14.toNat)).b (rd v9 (0+v14.toNat)).c (rd v9 (0+v14.toNat)).d (rd v9 (0+v14.toNat)).e (rd (Wo (cvT l1) (cvT l2)) (Int.toNat (wrap .i64 (v12+1)))))) v10 v11 v12 (wrap .i64 (v14+1)))) else .stuck) else .stuck) else .stuck) else (.to (.h0 v9 v10 v11 (wrap .i64 (v12+1)))))
def y2t (x0:Int) (l1:List R6) (l2:List R6):Xv rjsS:=(bif (z8v (cvT l1) (cvT l2)) then (.to (.h0 ([]:List R6) ([]:List R4) 0 0)) else .stuck)
theorem w5u (x0:Int) (l1:List R6) (l2:List R6): ∀s,Yt prog (Zy prog 72) (rjsC x0 l1 l2) (rjsC x0 l1 l2 s) (Vg x0 l1 l2 s)
 | .h0 v9 v10 v11 v12=>(lb (fun k0=>(lo fun aG=>(lo fun aU=>(lo fun bR=>(lo fun cL=>(lb (fun k1=>(lr 137 72 [1,1,1,1,1,0,1,0,0,1,0,0,1,0,1,0,0] 1 32 [(6,.nils),(7,(.bool false))] (sl y0n 50 [] ⟨[],[],[some [6,7]],[]⟩ ⟨[],[],[]⟩ (trs 20 []) (tt k1 (pp (pp (xI R4 (Vu l1 l2 v12).length (Zz (Vu l1 l2 v12))) (pp (xI R4 (Uz l2 l1 v12).length (Zz (Uz l2 l1 v12))) (xw cL))) (pp (pp (xr l2) (xw bR)) (ww aU (pp (pp (xr l1) (xw aG)) (ww aU (tt k0 nn)))))))))) (fun k1=>(lo fun bW=>(lb (fun k2=>(lr 137 72 [1,1,1,1,1,0,1,0,0,1,0,0,1,0,1,0,0] 1 32 [(6,.nils),(7,(.bool false))] (sl y0n 50 [] ⟨[],[],[some [6,7]],[]⟩ ⟨[],[],[]⟩ (bl 20 1047553) (tt k2 (pp (pp (xI R4 (Vu l1 l2 v12).length (Zz (Vu l1 l2 v12))) (pp (xI R4 0 (fun _=>[])) (xw bW))) (pp (pp (xr l1) (xw aG)) (ww aU (tt k1 (pp (pp (xI R4 (Vu l1 l2 v12).length (Zz (Vu l1 l2 v12))) (pp (xI R4 (Uz l2 l1 v12).length (Zz (Uz l2 l1 v12))) (xw cL))) (pp (pp (xr l2) (xw bR)) (ww aU (pp (pp (xr l1) (xw aG)) (ww aU (tt k0 nn)))))))))))))) (fun k2=>(lo fun cF=>(lb (fun k3=>(lr 137 72 [1,1,1,1,1,0,1,0,0,1,0,0,1,0,1,0,0] 1 32 [(6,.nils),(7,(.bool false))] (sl y0n 50 [] ⟨[],[],[some [6,7]],[]⟩ ⟨[],[],[]⟩ (bl 20 524289) (tt k3 (pp (pp (xI R4 (Uz l2 l1 v12).length (Zz (Uz l2 l1 v12))) (pp (xI R4 0 (fun _=>[])) (xw cF))) (pp (pp (xr l2) (xw bR)) (ww aU (tt k2 (pp (pp (xI R4 (Vu l1 l2 v12).length (Zz (Vu l1 l2 v12))) (pp (xI R4 0 (fun _=>[])) (xw bW))) (pp (pp (xr l1) (xw aG)) (ww aU (tt k1 (pp (pp (xI R4 (Vu l1 l2 v12).length (Zz (Vu l1 l2 v12))) (pp (xI R4 (Uz l2 l1 v12).length (Zz (Uz l2 l1 v12))) (xw cL))) (pp (pp (xr l2) (xw bR)) (ww aU (pp (pp (xr l1) (xw aG)) (ww aU (tt k0 nn)))))))))))))))))) (fun k3=>(lb (fun k4=>(lo fun cN=>(lb (fun k5=>(sl y0n 66 [] ⟨[0],[],rjsN2,rjsM2⟩ ⟨[],[],[]⟩ (bl 24 15728641) (pp (fl v9 nn) (tt k5 (pp (pp (xI R4 (joV x0 (cvT (Vu l1 l2 v12)) (cvT (Uz l2 l1 v12))).length (Zz (joV x0 (cvT (Vu l1 l2 v12)) (cvT (Uz l2 l1 v12))))) (pp (xr v10) (xw cN))) (tt k4 (tt k3 (pp (pp (xI R4 (Uz l2 l1 v12).length (Zz (Uz l2 l1 v12))) (pp (xI R4 0 (fun _=>[])) (xw cF))) (pp (pp (xr l2) (xw bR)) (ww aU (tt k2 (pp (pp (xI R4 (Vu l1 l2 v12).length (Zz (Vu l1 l2 v12))) (pp (xI R4 0 (fun _=>[])) (xw bW))) (pp (pp (xr l1) (xw aG)) (ww aU (tt k1 (pp (pp (xI R4 (Vu l1 l2 v12).length (Zz (Vu l1 l2 v12))) (pp (xI R4 (Uz l2 l1 v12).length (Zz (Uz l2 l1 v12))) (xw cL))) (pp (pp (xr l2) (xw bR)) (ww aU (pp (pp (xr l1) (xw aG)) (ww aU (tt k0 nn))))))))))))))))))))) (fun k5=>(sl y0n 73 [] ⟨[0],[],u9n,u9p⟩ ⟨[],[],[]⟩ (bl 24 7340033) (pp (fl v9 nn) (tt k5 (pp (pp (xI R4 (joV x0 (cvT (Vu l1 l2 v12)) (cvT (Uz l2 l1 v12))).length (Zz (joV x0 (cvT (Vu l1 l2 v12)) (cvT (Uz l2 l1 v12))))) (pp (xr v10) (xw cN))) (tt k4 (tt k3 (pp (pp (xI R4 (Uz l2 l1 v12).length (Zz (Uz l2 l1 v12))) (pp (xI R4 0 (fun _=>[])) (xw cF))) (pp (pp (xr l2) (xw bR)) (ww aU (tt k2 (pp (pp (xI R4 (Vu l1 l2 v12).length (Zz (Vu l1 l2 v12))) (pp (xI R4 0 (fun _=>[])) (xw bW))) (pp (pp (xr l1) (xw aG)) (ww aU (tt k1 (pp (pp (xI R4 (Vu l1 l2 v12).length (Zz (Vu l1 l2 v12))) (pp (xI R4 (Uz l2 l1 v12).length (Zz (Uz l2 l1 v12))) (xw cL))) (pp (pp (xr l2) (xw bR)) (ww aU (pp (pp (xr l1) (xw aG)) (ww aU (tt k0 nn)))))))))))))))))))))))) (fun k4=>(sl y0n 73 [] ⟨[0],[],u9n,u9p⟩ ⟨[],[],[]⟩ (bl 24 1) (pp (fl v9 nn) (tt k4 (tt k3 (pp (pp (xI R4 (Uz l2 l1 v12).length (Zz (Uz l2 l1 v12))) (pp (xI R4 0 (fun _=>[])) (xw cF))) (pp (pp (xr l2) (xw bR)) (ww aU (tt k2 (pp (pp (xI R4 (Vu l1 l2 v12).length (Zz (Vu l1 l2 v12))) (pp (xI R4 0 (fun _=>[])) (xw bW))) (pp (pp (xr l1) (xw aG)) (ww aU (tt k1 (pp (pp (xI R4 (Vu l1 l2 v12).length (Zz (Vu l1 l2 v12))) (pp (xI R4 (Uz l2 l1 v12).length (Zz (Uz l2 l1 v12))) (xw cL))) (pp (pp (xr l2) (xw bR)) (ww aU (pp (pp (xr l1) (xw aG)) (ww aU (tt k0 nn))))))))))))))))))))))))))))))))) (fun k0=>(lr 137 3 [1,1,1,1,1,1,1,0] 1 32 [(6,(.dat v9.length (Zz v9))),(7,(.bool (decide ((v9.length:Int)≤400))))] (sl y0n 20 [] ⟨[],[0],[some [6,7]],[]⟩ ⟨[(6,.frz v9.length v9.length (Zz v9) (Zz v9))],[],[]⟩ [false] (pp (xZ (z1p 6 6 0 v9.length v9.length (Zz v9)) v9.length (Zz v9)) (pp (xL v9.length v9.length) (pp (xS v9.length (Zz v9) (Zz v9)) (pp (fl v9 nn) (tt k0 nn)))))))))
 | .h1 v9 v10 v11 v12 v13 v15=>(lb (fun k0=>(lo fun o0=>(lo fun o1=>(lo fun o2=>(lo fun o3=>(sl y0n 20 [] ⟨[2],[],u9n,u9p⟩ ⟨[(9,.len (y8d v9 v13 v15 l1 l2 v12).length)],[.rowed 6 (y8d v9 v13 v15 l1 l2 v12).length (Zz (y8d v9 v13 v15 l1 l2 v12))],[]⟩ [true] (pp (xL (v9.length+1) (y8d v9 v13 v15 l1 l2 v12).length) (pp (xL (v9.length+1) (y8d v9 v13 v15 l1 l2 v12).length) (pp (xS (v9.length+1) (u4g v9 v13 v15 l1 l2 v12) (Zz (y8d v9 v13 v15 l1 l2 v12))) (pp (pp (xF (u4g v9 v13 v15 l1 l2 v12)) nn) (ww o3 (ww o2 (ww o1 (ww o1 (ww o0 (ww o1 (ww o1 (tt k0 nn)))))))))))))))))) (fun k0=>(sl y0n 17 [] ⟨[0],[],u9o,u9q⟩ ⟨[],[],[]⟩ [false] (pp (fl v9 nn) (tt k0 nn)))))
 | .h2 v9 v10 v11 v12 v14=>(lb (fun k0=>(lo fun o0=>(lo fun o1=>(lo fun o2=>(sl y0n 32 [] ⟨[0],[],rjsN2,rjsM2⟩ ⟨[(9,.len (y8e v9 v14 l1 l2 v12).length)],[.rowed 6 (y8e v9 v14 l1 l2 v12).length (Zz (y8e v9 v14 l1 l2 v12))],[]⟩ [true] (pp (xL v9.length (y8e v9 v14 l1 l2 v12).length) (pp (xL v9.length (y8e v9 v14 l1 l2 v12).length) (pp (xS v9.length (Xo (Zz v9) (0+(tn v14)) 5 [(ii (rd (Wo (cvT l1) (cvT l2)) (tn (wr (v12+1)))))]) (Zz (y8e v9 v14 l1 l2 v12))) (pp (pp (xF (Xo (Zz v9) (0+(tn v14)) 5 [(ii (rd (Wo (cvT l1) (cvT l2)) (tn (wr (v12+1)))))])) nn) (ww o2 (ww o1 (ww o0 (tt k0 nn))))))))))))) (fun k0=>(sl y0n 17 [] ⟨[0],[],u9o,u9q⟩ ⟨[],[],[]⟩ [false] (pp (fl v9 nn) (tt k0 nn)))))
theorem x7h (x0:Int) (l1:List R6) (l2:List R6):Yt prog (Zy prog 72) (rjsC x0 l1 l2) (Za prog 72 [(.int .i64 x0),(.dat l1.length (Zz l1)),(.dat l2.length (Zz l2))] true []) (y2t x0 l1 l2):=(lo fun o0=>(sl y0n 31 [(67,6,Zz ([]:List R6))] ⟨[0],[],u9o,u9q⟩ ⟨[(9,.grow 0 6),(10,.list 0 (Zz ([]:List R4)))],[],[]⟩ [] (pp (fl ([]:List R6) nn) (pp (pp (xr l1) (pp (xr l2) (xw o0))) nn))))
theorem v8a (x0:Int) (l1:List R6) (l2:List R6) (n:Nat) (vs:List AVal) (h:Zs (Vg x0 l1 l2) n (y2t x0 l1 l2)=.ret vs):Jy prog (Zy prog 72) (Za prog 72 [(.int .i64 x0),(.dat l1.length (Zz l1)),(.dat l2.length (Zz l2))] true []) vs:=by have:=Zd (w5u x0 l1 l2) n _ (x7h x0 l1 l2);rwa [h] at this
theorem Kf (l m:List R6):(Wo l m).length ≤2*l.length+2*m.length:=by refine AL (z6c _) ?_;rw [Ar,z0t,z0t];omega
theorem w8g (l:List R6) (z:Int):(atV l z).length ≤l.length:=by unfold atV;rw [AS];exact BS _ _
def v6i (out:List R6) (first:Nat) (z:Int):List R6:=out.take first++(out.drop first).map fun r=>⟨r.a,r.b,r.c,r.d,r.e,z⟩
def j0q (z z':Int) (s:List R4):List R6:=s.map fun p=>⟨p.a,p.b,z,p.c,p.d,z'⟩
section
variable (kind:Int) (l m:List R6)
def y6y (z:Int):List R4:=joV kind (atV l z) (atV m z)
def z9t (z:Int):Bool:=decide (400<(y6y kind l m z).length)||(decide (400<(joV 2 (atV l z) []).length)||decide (400<(joV 2 (atV m z) []).length))
def jsF :Nat→Nat→List R6→List R4→Nat→Option (List R6)
 | 0,_,out,_,_=>some out
 | k+1,i,out,last,first=>
  bif z9t kind l m (rd (Wo l m) i) then none
  else bif decide (0<i)&&Ur (y6y kind l m (rd (Wo l m) i)) last then jsF k (i+1) (v6i out first (rd (Wo l m) (i+1))) last first
  else jsF k (i+1) (out++j0q (rd (Wo l m) i) (rd (Wo l m) (i+1)) (y6y kind l m (rd (Wo l m) i))) (y6y kind l m (rd (Wo l m) i)) out.length
def jsO :Option (List R6):=jsF kind l m ((Wo l m).length - 1) 0 [] [] 0
def x9e :Option (List R6)→List AVal
 | none=>[.nils,.bool false]
 | some out=>[.dat out.length (Zz out),.bool (decide ((out.length:Int)≤400))]
def Xe :List R6:=(jsO kind l m).getD []
def z2f :Bool:=match jsO kind l m with
 | none=>false
 | some out=>decide ((out.length:Int)≤400)
end
def jsZ (l:List R6):Prop:=l.length≤40000∧ ∀z,(atV l z).length ≤5000
theorem v3c {l:List R6} (h:l.length≤5000):jsZ l:=⟨by omega,fun z=>AL (w8g l z) h⟩
def z3f (_:Int) (l m:List R6):Bool:=pd (jsZ l∧jsZ m)
theorem jsV_ow {k:Int} {l m:List R6} (hl:l.length≤5000) (hm:m.length≤5000):z3f k l m=true:=pd_true ⟨v3c hl,v3c hm⟩
section
variable (kind:Int) (l m:List R6) (hl:jsZ l) (hm:jsZ m)
include hl hm
theorem u4f (last:List R4) (first:Int) (i:Nat) (hi:i+1<(Wo l m).length) (s:List R4) (hs:s.length≤1000000): ∀(k j:Nat) (out:List R6),j+k=s.length→out.length≤10000000000+j→
  ∃n,∀N,Zs (Vg kind l m) (N+n) (.to (.h1 out last first (i:Int) s (j:Int)))=Zs (Vg kind l m) N (.to (.h0 (out++j0q (rd (Wo l m) i) (rd (Wo l m) (i+1)) (s.drop j)) last first ((i+1:Nat):Int)))
 | 0,j,out,h,ho=>by have hx:=Kf l m;have hl1:=hl.1;have hm1:=hm.1;refine ⟨1,fun N=> ?_⟩;rw [At (by omega),Zv];simp (disch:=omega) only [Vg,Zg,Zq,Yz,Zk,Zx,Aa,j0q,Bb,Az]
 | k+1,j,out,h,ho=>by
  have hx:=Kf l m;have hl1:=hl.1;have hm1:=hm.1;obtain ⟨n,hn⟩:=u4f last first i hi s hs k (j+1) (out++j0q (rd (Wo l m) i) (rd (Wo l m) (i+1)) [rd s j]) (by omega) (by simp [j0q];omega)
  refine ⟨n+1,fun N=> ?_⟩;have:=hn N;rw [Yj (show j<s.length by omega),←AD,Zv];simp (disch:=omega) only [Vg,Zg,Zq,Zn,Zo,Yc,Yp,Zf,Zk,Zx,Ym,Zj,Ag,Av,Ai,Al,Ab];rw [AH] at this;exact this
omit hl hm in
theorem u1b (out:List R6) (j:Nat) (x:Int) (h:j<out.length):v6i (out.set j ⟨(rd out j).a,(rd out j).b,(rd out j).c,(rd out j).d,(rd out j).e,x⟩) (j+1) x=v6i out j x:=by
 unfold v6i;rw [Yj h,A4];have e1:(out.set j ⟨(rd out j).a,(rd out j).b,(rd out j).c,(rd out j).d,(rd out j).e,x⟩).take (j+1)=out.take j++[⟨(rd out j).a,(rd out j).b,(rd out j).c,(rd out j).d,(rd out j).e,x⟩]:=by
  apply Cs
  ·simp;omega
  ·intro n h1 h2;simp only [Bs,List.getElem_set];by_cases e:j=n
   ·subst e;rw [AB rfl,BK (by simp only [A0];omega)];simp
   ·rw [Aw e,BA (by simp at h1 ⊢;omega),Bs]
 have e2:(out.set j ⟨(rd out j).a,(rd out j).b,(rd out j).c,(rd out j).d,(rd out j).e,x⟩).drop (j+1)=out.drop (j+1):=by rw [List.drop_set];rw [AB (by omega)]
 rw [e1,e2,AH];rfl
theorem u4e (last:List R4) (first:Int) (i:Nat) (hi:i+1<(Wo l m).length): ∀(k j:Nat) (out:List R6),j+k=out.length→out.length≤10000000000→
  ∃n,∀N,Zs (Vg kind l m) (N+n) (.to (.h2 out last first (i:Int) (j:Int)))=Zs (Vg kind l m) N (.to (.h0 (v6i out j (rd (Wo l m) (i+1))) last first ((i+1:Nat):Int)))
 | 0,j,out,h,ho=>by
  have hx:=Kf l m;have hl1:=hl.1;have hm1:=hm.1;refine ⟨1,fun N=> ?_⟩;have e:v6i out j (rd (Wo l m) (i+1))=out:=by unfold v6i;rw [At (by omega),Bb,Az,AP (by omega)]
  rw [e,Zv];simp (disch:=omega) only [Vg,Zg,Zq,Yz,Zk,Zx,Aa]
 | k+1,j,out,h,ho=>by
  have hx:=Kf l m;have hl1:=hl.1;have hm1:=hm.1;obtain ⟨n,hn⟩:=u4e last first i hi k (j+1) (out.set j ⟨(rd out j).a,(rd out j).b,(rd out j).c,(rd out j).d,(rd out j).e,rd (Wo l m) (i+1)⟩) (by simp;omega) (by simpa using ho)
  refine ⟨n+1,fun N=> ?_⟩;have:=hn N;rw [u1b out j _ (by omega)] at this;rw [←AD,Zv];simp (disch:=omega) only [Vg,Zg,Zq,Zn,Zo,Yk,Yc,Yp,Zf,Zk,Zx,Ym,Zj,Ag,Av,Ai,Al,Ab];exact this
theorem v0y : ∀(k i:Nat) (out:List R6) (last:List R4) (first:Nat),k=(Wo l m).length - 1 - i→i≤(Wo l m).length →out.length≤i*400→last.length≤400→first≤out.length→
  ∃n,Zs (Vg kind l m) n (.to (.h0 out last (first:Int) (i:Int)))=.ret (x9e (jsF kind l m k i out last first))
 | 0,i,out,last,first,h,hi,ho,hla,hf=>by have hx:=Kf l m;have hl1:=hl.1;have hm1:=hm.1;refine ⟨1,?_⟩;rw [Zv];simp (disch:=omega) only [Vg,Zg,Zq,Yz,Zk,Zx,Aa,Zp,jsF,x9e]
 | k+1,i,out,last,first,h,hi,ho,hla,hf=>by
  have hx:=Kf l m;have hl1:=hl.1;have hm1:=hm.1;have hi1:i+1<(Wo l m).length :=by omega
  have hbig:i*400≤160000*400:=AJ _ (by omega);have a1:=fun z=>hl.2 z;have a2:=fun z=>hm.2 z;have w1: ∀z,z5n l z=true:=fun z=>Ah (by omega);have w2: ∀z,z5n m z=true:=fun z=>Ah (by omega);have w3: ∀k z,Ja k (atV l z) (atV m z)=true:=fun k z=>Ah (by have:=a1 z;have:=a2 z;omega);have w4: ∀k z,Ja k (atV l z) ([]:List R4)=true:=fun k z=>Ah (by have:=a1 z;simp;omega);have w5: ∀k z,Ja k (atV m z) ([]:List R4)=true:=fun k z=>Ah (by have:=a2 z;simp;omega);unfold jsF;have eA:y6y kind l m (rd (Wo l m) i)=joV kind (atV l (rd (Wo l m) i)) (atV m (rd (Wo l m) i)):=rfl;by_cases c1:400<(y6y kind l m (rd (Wo l m) i)).length
  ·refine ⟨1,?_⟩;have hb:z9t kind l m (rd (Wo l m) i)=true:=by unfold z9t;rw [Ah c1];rfl
   rw [hb,Ab,Zv];rw [eA] at c1;simp (disch:=omega) only [Vg,Zg,Zq,Zn,Yn,Zo,Zk,Zx,Zj,w1,w2,w3,w4,w5,Ai,Ab,Zp,x9e]
  by_cases c2:400<(joV 2 (atV l (rd (Wo l m) i)) []).length
  ·refine ⟨1,?_⟩;have hb:z9t kind l m (rd (Wo l m) i)=true:=by unfold z9t;rw [Ah c2,BW,Bool.or_true]
   rw [hb,Ab,Zv];rw [eA] at c1;simp (disch:=omega) only [Vg,Zg,Zq,Zn,Yn,Xm,Zo,Zk,Zx,Zj,w1,w2,w3,w4,w5,Ai,Ab,Aa,Zp,x9e]
  by_cases c3:400<(joV 2 (atV m (rd (Wo l m) i)) []).length
  ·refine ⟨1,?_⟩;have hb:z9t kind l m (rd (Wo l m) i)=true:=by unfold z9t;rw [Ah c3,Bool.or_true,Bool.or_true]
   rw [hb,Ab,Zv];rw [eA] at c1;simp (disch:=omega) only [Vg,Zg,Zq,Zn,Yn,Xm,Zo,Zk,Zx,Zj,w1,w2,w3,w4,w5,Ai,Ab,Aa,Zp,x9e]
  have hb:z9t kind l m (rd (Wo l m) i)=false:=by unfold z9t;rw [Ay c1,Ay c2,Ay c3];rfl
  rw [hb,Aa];have w6:Wg (joV kind (atV l (rd (Wo l m) i)) (atV m (rd (Wo l m) i))) last=true:=Ah (by rw [←eA];omega);rcases Yd (decide (0<i)&&Ur (y6y kind l m (rd (Wo l m) i)) last) with q | q
  ·obtain ⟨n3,h3⟩:=u4e kind l m hl hm last first i hi1 (out.length - first) first out (by omega) (by omega)
   obtain ⟨n0,h0⟩:=v0y k (i+1) (v6i out first (rd (Wo l m) (i+1))) last first (by omega) (by omega) (by simp [v6i];omega) hla (by simp [v6i];omega)
   refine ⟨n0+n3+1,?_⟩;rw [q,Ab,Zv];simp only [Ac,As] at q;obtain ⟨q1,q2⟩:=q;rw [eA] at c1 q2;simp (disch:=omega) only [Vg,Zg,Zq,Zn,Yn,Xm,Zo,Zk,Zx,Zj,w1,w2,w3,w4,w5,w6,q2,Ai,Ab,Aa];rw [h3 n0,h0]
  ·obtain ⟨n2,h2⟩:=u4f kind l m hl hm (y6y kind l m (rd (Wo l m) i)) (out.length:Int) i hi1 (y6y kind l m (rd (Wo l m) i)) (by omega) (y6y kind l m (rd (Wo l m) i)).length 0 out (Ag _) (by omega);obtain ⟨n0,h0⟩:=v0y k (i+1) (out++j0q (rd (Wo l m) i) (rd (Wo l m) (i+1)) (y6y kind l m (rd (Wo l m) i))) (y6y kind l m (rd (Wo l m) i)) out.length (by omega) (by omega) (by simp [j0q];omega) (by omega) (by simp);refine ⟨n0+n2+1,?_⟩;rw [q,Aa,Zv];have h2':=h2 n0;simp only [A3,Qo] at h2';have c1':=c1;rw [eA] at c1';by_cases hi0:0<i
   ·rw [Ah hi0,Al,eA] at q;simp (disch:=omega) only [Vg,Zg,Zq,Zn,Yn,Xm,Zo,Zk,Zx,Zj,w1,w2,w3,w4,w5,w6,q,Ai,Ab,Aa];rw [←h0];exact h2'
   ·simp (disch:=omega) only [Vg,Zg,Zq,Zn,Yn,Xm,Zo,Zk,Zx,Zj,w1,w2,w3,w4,w5,w6,Ai,Ab,Aa];rw [←h0];exact h2'
end
theorem u9m (kind:Int) (l m:List R6) (h:z3f kind l m=true): ∃N,Zs (Vg kind l m) N (y2t kind l m)=.ret (x9e (jsO kind l m)):=by obtain ⟨hl,hm⟩:=Ve h;have hl1:=hl.1;have hm1:=hm.1;obtain ⟨N,hN⟩:=v0y kind l m hl hm ((Wo l m).length - 1) 0 [] [] 0 rfl (AA _) (AA _) (AA _) (Ao _);refine ⟨N,?_⟩;have w1:z8v l m=true:=Ah ⟨by omega,by omega⟩;simp only [y2t,Zg,Zq,w1,Ab];exact hN
def fJs :List AVal→Option (AVal×Bool)
 | [.int .i64 x0,a1,a2]=>match asL R6 a1,asL R6 a2 with
  | some (L1,g1,n1),some (L2,g2,n2)=>some (.tup [.dat (Xe x0 L1 L2).length (Zz (Xe x0 L1 L2)),.bool (z2f x0 L1 L2)],isT R6 n1 g1&&(isT R6 n2 g2&&(z3f x0 L1 L2)))
  | _,_=>none
 | _=>none
theorem fJs_ok {S:Specs} (hS:Zu prog S):Zu prog (S.with u5r fJs):=by
 refine w8u hS (by kernel_rfl) fun args v h=> ?_;unfold fJs at h;split at h
 ·rename_i x0 a1 a2;split at h
  ·rename_i L1 g1 n1 L2 g2 n2 e1 e2;simp only [Ae,Ad,Ac] at h;obtain ⟨rfl,ho1,ho2,hw⟩:=h;obtain ⟨N,hN⟩:=u9m x0 L1 L2 hw;refine ⟨_,x9e (jsO x0 L1 L2),(.cons (.refl _) (.cons (asL_le e1 ho1) (.cons (asL_le e2 ho2) .nil))),?_,v8a x0 L1 L2 N _ hN,3,?_⟩
   ·unfold Xe z2f;cases jsO x0 L1 L2 with
    | none=>exact fun ρ u hu=>z5s (.cons (z6q R6) (RLe.refl _)) ρ u hu
    | some out=>exact fun ρ u hu=>hu
   ·cases jsO x0 L1 L2 <;> rfl
  ·cases h
 ·cases h
def T4 :Specs:=T3.with u5r fJs
theorem T4_ok :Zu prog T4:=fJs_ok y0n
open Go.Sort Go.Shelf Go.RowKit Go.Lib
def j4b (x:E3):List Value:=y9q x.1
theorem j4a (l:List R3) (h:y1q l=true):Go.Sort.flatK j4b 3 (x2k l h).toArray =Go.Sort.flatK y9q 3 l.toArray:=by
 have hl:=Ki l h;unfold Go.Sort.flatK;rw [show (x2k l h).toArray.size =l.toArray.size by simpa using hl];apply Array.ext
 ·simp
 ·intro t h1 h2;simp only [Array.getElem_map,Array.getElem_range];have ht:t<l.length*3:=by simpa using h1
  have hq:t / 3<l.length:=by omega
  congr 1
  rw [BU (x2k l h).toArray (t / 3) (by simpa [hl] using hq),BU l.toArray (t / 3) (by simpa using hq)];unfold j4b
  congr 1
  have:=y3u l h;have e:=AY (fun z:List R3=>z[t / 3]?) this;simp only [List.getElem?_map] at e;rw [Aq (by rw [hl];exact hq),Aq hq] at e
  simpa using e
theorem u0s (d:Array E3):Go.Sort.flatK j4b 3 d=Go.Sort.flatK y9q 3 (d.toList.map Subtype.val).toArray :=by
 unfold Go.Sort.flatK;rw [show d.size=(d.toList.map Subtype.val).toArray.size by simp];apply Array.ext
 ·simp
 ·intro t h1 h2;simp only [Array.getElem_map,Array.getElem_range];have ht:t<d.size*3:=by simpa using h1
  have hq:t / 3<d.size:=by omega
  congr 1
  rw [BU d (t / 3) hq,BU (d.toList.map Subtype.val).toArray (t / 3) (by simpa using hq)];simp [j4b]
theorem z8h (l:List R3):x1g l.length (z0w (cvT l)).length =true:=Va (by
 rw [Zg];by_cases h:y1q l=true
 ·exact (Ks l h).1.length_eq.symm
 ·unfold z0w;rw [dif_neg h])
theorem isAgg3 : ∀w,(isAgg (Tryz.sortEnd_ren.t 24)).run prog w=.ok true w:=fun w=>by rfl
theorem size3 : ∀w,(Go.sizeOf (Tryz.sortEnd_ren.t 24)).run prog w=.ok 3 w:=fun w=>by rfl
theorem w9x :x5m prog u5l (w3r R3 z0w y1q w2v):=by
 refine v4p (fun L=> ?_) (fun blk off cap L w hb hH eI hsz=> ?_) fun p cap fv w=>AnyF.slices_SortFunc_none Tryz.sortEnd p cap fv w
 ·by_cases h:y1q L=true
  ·exact (Ks L h).1.length_eq
  ·unfold z0w;rw [dif_neg h]
 ·have eg: ∀args w,(callFunc 201 args).run prog w=.ok (.enter 201 args) w:=enters_of Tryz.func201 (by kernel_rfl) rfl;have hcmp:CmpLays prog 201 #[] j4b 3 cf3 blk off (x2k L hb).toArray.size w:=fun m os dk _ x y=>by have hx:=AC x.2;have hy:=AC y.2;exact Tryz.cmpEnd x.1.a x.1.b x.1.c y.1.a y.1.b y.1.c hx hy _
  have hH':HoldsK j4b 3 w blk off (x2k L hb).toArray :=by unfold HoldsK;rw [j4a L hb];exact hH
  have hcon:=AnyQ.slices_SortFunc_eq Tryz.sortEnd 3 isAgg3 size3 j4b (fun x=>y5u x.1) (fun x v hv=>by
   obtain ⟨a,ha,rfl⟩:=AX.1 hv;have:x9f a=true:=Au.1 (u7g.num x.1) a ha;cases a <;> first | rfl | (simp [x9f] at this;done)) cf3 swo3 201 #[] blk off cap (x2k L hb).toArray w eg hcmp hH' eI (by simpa [Ki] using hsz)
  have hs:(x2k L hb).toArray.size =L.length:=by simp [Ki]
  rw [hs] at hcon;refine Calls.mono hcon fun e w' ⟨he,n,os,hw⟩=>⟨he,n,os,?_⟩
  rw [hw];unfold sortWorldK putRowK;rw [u0s];unfold z0w;rw [dif_pos hb];rfl
def Xc (zs:List Int):List Int:=zs.mergeSort fun x y=>decide (x≤y)
theorem w9w :x5m prog nSort (fRow Xc):=
 j4c (fun zs=>List.length_mergeSort zs) (fun blk off cap zs w hH hb hz=>Tryz.slices_Sort_int blk off cap zs w hH hb hz) fun p cap w=>Tryz.slices_Sort_int_none p cap w
def Wc (zs:List Int):List Int:=compact zs++List.replicate (zs.length - (compact zs).length) 0
def w8v (zs:List Int):Nat:=(compact zs).length
theorem Uq (zs:List Int):(Wc zs).length =zs.length:=by have:=compact_length_le zs;simp [Wc];omega
theorem z2e (n:Nat) (c:Nat→Int):x1g n (Wc (Yu n c)).length =true:=Va (by rw [Uq];simp [Yu])
theorem v3o (w:World):grow w #[]=w:=by simp [grow]
theorem w0q :x5m prog w2w (fCut Wc w8v):=
 j4d (fun zs=>by have:=compact_length_le zs;simp [Wc];omega) (fun zs=>compact_length_le zs)
  (fun blk off cap zs w hH hb hz dC=>(Tryz.slices_Compact_int blk off cap zs w hH (by omega) dC).mono fun e w' ⟨he,q,hw⟩=>⟨he,q, #[],by rw [hw,v3o];rfl⟩)
  fun p cap w=>Tryz.slices_Compact_int_empty p cap w
def T5 :Specs:=((T4.withE u5l (w3r R3 z0w y1q w2v)).withE nSort (fRow Xc)).withE w2w (fCut Wc w8v)
theorem z0c :Zu prog T5:=x0a (x0a (x0a T4_ok (by kernel_rfl) w9x) (by kernel_rfl) w9w) (by kernel_rfl) w0q
-- h2: index into an array (choices [true, true, false, false])
-- h2: index into an array (choices [true, false, true, false, false])
-- h2: index into an array (choices [true, false, false, true, true, false, false])
-- h2: index into an array (choices [true, false, false, true, false, false, false])
-- h2: index into an array (choices [true, false, false, false, false, false])
inductive spmS where
 | h0 (v8:Int)
 | h1 (v3:List R3) (v17:Int)
 | h2 (v5:List R3) (v6:Int) (v7:Int) (aA:Int) (aI:Int) (aP:Int) (aF:Bool) (aC:List R2)
abbrev Vs (aC:List R2) (aP:Int) (v5:List R3) (v7:Int):=(aC++[(R2.mk aP (rd v5 (0+(tn v7))).a)])
abbrev y0u (aC:List R2) (aP:Int) (v5:List R3) (v7:Int):=(Ze (Zz aC) 0 aC.length 2 [(ii aP),(ii (rd v5 (0+(tn v7))).a)])
abbrev y7o (v3:List R3) (l0:List R2) (v17:Int):=(v3++[(R3.mk (rd l0 (tn v17)).a 0 1),(R3.mk (rd l0 (tn v17)).b 0 (-1))])
def u2j (l0:List R2):AFr:=⟨⟨11,0,true⟩,(Uv prog 157 [1,1,1,0] 1),(Zb prog 157 [1,1,1,0] 1),none,(Zy prog 15),Yg [(9,(.dat l0.length (Zz l0)))]⟩
def spmC (l0:List R2):spmS→Cfg
 | .h0 v8=>⟨⟨19,0,true⟩,none,(Zb prog 195 [1,0,1,0,0] 0),none,(Zy prog 5),⟨Yg [(0,(.dat l0.length (Zz l0))),(1,(.fn 184 [])),(7,(ii (l0.length:Int))),(8,(ii v8))],Wh [] 0,0,[],true⟩,[⟨⟨9,0,true⟩,(Uv prog 183 [1,0] 2),(Zb prog 183 [1,0] 1),none,(Zy prog 5),Yg [(5,(.dat l0.length (Zz l0))),(6,(.fn 184 []))]⟩,⟨⟨11,0,true⟩,(Uv prog 157 [1,1,0,0] 1),(Zb prog 157 [1,1,0,0] 1),none,(Zy prog 15),Yg [(0,(.dat l0.length (Zz l0))),(7,(.dat l0.length (Zz l0)))]⟩],.leaf⟩
 | .h1 v3 v17=>⟨⟨38,0,true⟩,none,(Zb prog 197 [1,1,0,1,0,0,1,1,0,0,1,1,0,0] 0),none,(Zy prog 3),⟨Yg [(3,(.sla 7 3 0 v3.length (.un 3))),(4,(ii 0)),(8,(.sl 0 0 2 (.un 1))),(9,(ii 2)),(10,(ii 0)),(15,(.dat l0.length (Zz l0))),(16,(ii (l0.length:Int))),(17,(ii v17))],Wh [⟨[(.dat l0.length (Zz l0)),.nils],180,none⟩,⟨[(.fn 187 [])],213,none⟩,⟨[(ii 0),(ii 0)],142,none⟩,⟨[.nils],180,none⟩,⟨[(ii 0)],3,none⟩,⟨[(.bool false)],4,none⟩,⟨[(.fn 196 [(.ptr 5 0),(.ptr 4 0),(.ptr 3 0)])],242,none⟩,⟨Yx v3.length (Zz v3),246,some ⟨3,v3.length,(Zz v3)⟩⟩] 0,8,[],true⟩,[⟨⟨42,0,true⟩,(Uv prog 186 [1,1,1,1,1,0,0] 3),(Zb prog 186 [1,1,1,1,1,0,0] 1),none,(Zy prog 8),Yg [(5,(.ptr 1 0)),(6,.nils),(7,(.ptr 2 0)),(8,(.ptr 3 0)),(9,(.ptr 4 0)),(10,(.ptr 5 0)),(11,(.ptr 6 0)),(16,(.sl 0 0 2 (.un 1)))]⟩,(u2j l0)],.leaf⟩
 | .h2 v5 v6 v7 aA aI aP aF aC=>⟨⟨16,0,true⟩,none,(Zb prog 205 [1,0,0] 0),none,[],⟨Yg [(0,(.yld 0)),(5,(.sla 7 3 0 v5.length (.un 3))),(6,(ii v6)),(7,(ii v7))],y1c [(1,⟨[(.fn 187 [])],213,none⟩),(2,⟨[(ii aA),(ii aI)],142,none⟩),(3,⟨[(ii aP)],3,none⟩),(4,⟨[(.bool aF)],4,none⟩),(5,⟨[(.fn 196 [(.ptr 4 0),(.ptr 3 0),(.ptr 6 0)])],242,none⟩),(6,⟨[(.sla 8 2 0 aC.length (.un 2))],180,none⟩),(7,⟨Yx v5.length (Zz v5),246,some ⟨3,v5.length,(Zz v5)⟩⟩),(8,⟨Yx aC.length (Zz aC),183,some ⟨2,aC.length,(Zz aC)⟩⟩)],9,[],true⟩,[⟨⟨42,0,true⟩,none,(.inRangeFunc 0::(Zb prog 186 [1,1,1,1,1,0,1,0] 1)),none,(Zy prog 8),Yg [(6,.nils),(8,(.ptr 6 0))]⟩,(u2j l0)],(y7b [(0,⟨.ready,none,42,Yg [(5,(.ptr 1 0)),(7,(.ptr 2 0)),(9,(.ptr 3 0)),(10,(.ptr 4 0)),(11,(.ptr 5 0))],[18],(Vb prog 186 [1,1,1,1,1,0,1,0,0]),(Vb prog 186 [1,1,1,1,1,0,1,0,1])⟩)])⟩
def spmN0 :List (Option (List Nat)):=[some [0,1,7,8],some [5,6],some [0,7]]
def spmM0 :List (Option (List Nat)):=[]
def w9s :List (Option (List Nat)):=[some [3,4,8,9,10,15,16,17],some [5,6,7,8,9,10,11,16],some [9]]
def w9t :List (Option (List Nat)):=[]
def y4c :List (Option (List Nat)):=[some [0,5,6,7],some [6,8],some [9]]
def y4d :List (Option (List Nat)):=[some [5,7,9,10,11],none,none,none,none,none,none,none,none]
def Uu (l0:List R2):spmS→Xv spmS
 | .h0 v8=>(bif (decide (v8<(l0.length:Int))) then (bif ((decide (0≤v8∧v8<(l0.length:Int)))&&true) then (bif (decide ((rd l0 v8.toNat).a <(rd l0 v8.toNat).b)) then (bif (decide ((rd l0 v8.toNat).a ≥(-1000000))) then (bif (!(decide ((rd l0 v8.toNat).b ≤1000000))) then (bif (decide (v8≥0)) then (.ret [.nils,(.int .i64 8)]) else (.to (.h1 ([]:List R3) 0))) else (.to (.h0 (wrap .i64 (v8+1))))) else (bif (decide (v8≥0)) then (.ret [.nils,(.int .i64 8)]) else (.to (.h1 ([]:List R3) 0)))) else (bif (decide (v8≥0)) then (.ret [.nils,(.int .i64 8)]) else (.to (.h1 ([]:List R3) 0)))) else .stuck) else (.to (.h1 ([]:List R3) 0)))
 | .h1 v3 v17=>(bif (decide (v17<(l0.length:Int))) then (bif ((decide (0≤v17∧v17<(l0.length:Int)))&&true) then (bif (Nat.beq 3 3&&((decide (0+v3.length=v3.length))&&decide ((v3.length+2+1)*(24+1)≤Uw))) then (.to (.h1 (v3++[(R3.mk (rd l0 v17.toNat).a 0 1),(R3.mk (rd l0 v17.toNat).b 0 (-1))]) (wrap .i64 (v17+1)))) else .stuck) else .stuck) else (bif (y1q (cvT v3)) then (bif (decide (v3.length<4611686018427387904)) then (bif (decide (v3.length=v3.length)) then (.to (.h2 (z0w (cvT v3)) (v3.length:Int) 0 0 0 0 false ([]:List R2))) else .stuck) else .stuck) else .stuck))
 | .h2 v5 v6 v7 aA aI aP aF aC=>(bif (decide (v7<v6)) then (bif ((decide (0≤v7∧v7<(v5.length:Int)))&&true) then (bif (decide ((0+v7.toNat)<v5.length)) then (bif (!aF) then (bif (decide ((rd v5 (0+v7.toNat)).b =Int.ofNat 0)) then (.to (.h2 v5 v6 (wrap .i64 (v7+1)) (wrap .i64 (aA+(rd v5 (0+v7.toNat)).c)) aI (rd v5 (0+v7.toNat)).a (w3l (decide ((wrap .i64 (aA+(rd v5 (0+v7.toNat)).c))>0)) (decide (aI>0))) aC)) else (bif (decide ((rd v5 (0+v7.toNat)).b =Int.ofNat 1)) then (.to (.h2 v5 v6 (wrap .i64 (v7+1)) aA (wrap .i64 (aI+(rd v5 (0+v7.toNat)).c)) (rd v5 (0+v7.toNat)).a (w3l (decide (aA>0)) (decide ((wrap .i64 (aI+(rd v5 (0+v7.toNat)).c))>0))) aC)) else .stuck)) else (bif (aP == (rd v5 (0+v7.toNat)).a) then (bif (decide ((rd v5 (0+v7.toNat)).b =Int.ofNat 0)) then (.to (.h2 v5 v6 (wrap .i64 (v7+1)) (wrap .i64 (aA+(rd v5 (0+v7.toNat)).c)) aI (rd v5 (0+v7.toNat)).a (w3l (decide ((wrap .i64 (aA+(rd v5 (0+v7.toNat)).c))>0)) (decide (aI>0))) aC)) else (bif (decide ((rd v5 (0+v7.toNat)).b =Int.ofNat 1)) then (.to (.h2 v5 v6 (wrap .i64 (v7+1)) aA (wrap .i64 (aI+(rd v5 (0+v7.toNat)).c)) (rd v5 (0+v7.toNat)).a (w3l (decide (aA>0)) (decide ((wrap .i64 (aI+(rd v5 (0+v7.toNat)).c))>0))) aC)) else .stuck)) else (bif (decide ((aC.length:Int)>0)) then (bif ((decide (0≤(wrap .i64 ((aC.length:Int) - 1))∧(wrap .i64 ((aC.length:Int) - 1))<(aC.length:Int)))&&true) then (bif (decide ((0+(Int.toNat (wrap .i64 ((aC.length:Int) - 1))))<aC.length)) then (bif ((rd aC (0+(Int.toNat (wrap .i64 ((aC.length:Int) - 1))))).b == aP) then (bif (decide ((rd v5 (0+v7.toNat)).b =Int.ofNat 0)) then (.to (.h2 v5 v6 (wrap .i64 (v7+1)) (wrap .i64 (aA+(rd v5 (0+v7.toNat)).c)) aI (rd v5 (0+v7.toNat)).a (w3l (decide ((wrap .i64 (aA+(rd v5 (0+v7.toNat)).c))>0)) (decide (aI>0))) (aC.set (0+(Int.toNat (wrap .i64 ((aC.length:Int) - 1)))) (R2.mk (rd aC (0+(Int.toNat (wrap .i64 ((aC.length:Int) - 1))))).a (rd v5 (0+v7.toNat)).a)))) else (bif (decide ((rd v5 (0+v7.toNat)).b =Int.ofNat 1)) then (.to (.h2 v5 v6 (wrap .i64 (v7+1)) aA (wrap .i64 (aI+(rd v5 (0+v7.toNat)).c)) (rd v5 (0+v7.toNat)).a (w3l (decide (aA>0)) (decide ((wrap .i64 (aI+(rd v5 (0+v7.toNat)).c))>0))) (aC.set (0+(Int.toNat (wrap .i64 ((aC.length:Int) - 1)))) (R2.mk (rd aC (0+(Int.toNat (wrap .i64 ((aC.length:Int) - 1))))).a (rd v5 (0+v7.toNat)).a)))) else .stuck)) else (bif (Nat.beq 2 2&&((decide (0+aC.length=aC.length))&&decide ((aC.length+1+1)*(16+1)≤Uw))) then (bif (decide ((rd v5 (0+v7.toNat)).b =Int.ofNat 0)) then (.to (.h2 v5 v6 (wrap .i64 (v7+1)) (wrap .i64 (aA+(rd v5 (0+v7.toNat)).c)) aI (rd v5 (0+v7.toNat)).a (w3l (decide ((wrap .i64 (aA+(rd v5 (0+v7.toNat)).c))>0)) (decide (aI>0))) (aC++[(R2.mk aP (rd v5 (0+v7.toNat)).a)]))) else (bif (decide ((rd v5 (0+v7.toNat)).b =Int.ofNat 1)) then (.to (.h2 v5 v6 (wrap .i64 (v7+1)) aA (wrap .i64 (aI+(rd v5 (0+v7.toNat)).c)) (rd v5 (0+v7.toNat)).a (w3l (decide (aA>0)) (decide ((wrap .i64 (aI+(rd v5 (0+v7.toNat)).c))>0))) (aC++[(R2.mk aP (rd v5 (0+v7.toNat)).a)]))) else .stuck)) else .stuck)) else .stuck) else .stuck) else (bif (Nat.beq 2 2&&((decide (0+aC.length=aC.length))&&decide ((aC.length+1+1)*(16+1)≤Uw))) then (bif (decide ((rd v5 (0+v7.toNat)).b =Int.ofNat 0)) then (.to (.h2 v5 v6 (wrap .i64 (v7+1)) (wrap .i64 (aA+(rd v5 (0+v7.toNat)).c)) aI (rd v5 (0+v7.toNat)).a (w3l (decide ((wrap .i64 (aA+(rd v5 (0+v7.toNat)).c))>0)) (decide (aI>0))) (aC++[(R2.mk aP (rd v5 (0+v7.toNat)).a)]))) else (bif (decide ((rd v5 (0+v7.toNat)).b =Int.ofNat 1)) then (.to (.h2 v5 v6 (wrap .i64 (v7+1)) aA (wrap .i64 (aI+(rd v5 (0+v7.toNat)).c)) (rd v5 (0+v7.toNat)).a (w3l (decide (aA>0)) (decide ((wrap .i64 (aI+(rd v5 (0+v7.toNat)).c))>0))) (aC++[(R2.mk aP (rd v5 (0+v7.toNat)).a)]))) else .stuck)) else .stuck)))) else .stuck) else .stuck) else (.ret [(.dat aC.length (Zz aC)),(.int .i64 0)]))
def y2d (l0:List R2):Xv spmS:=(bif (decide ((l0.length:Int)>400)) then (.ret [.nils,(.int .i64 4)]) else (.to (.h0 0)))
theorem w4s (l0:List R2): ∀s,Yt prog (Zy prog 157) (spmC l0) (spmC l0 s) (Uu l0 s)
 | .h0 v8=>(lb (fun k0=>(lo fun aG=>(lb (fun k1=>(lb (fun k2=>(lb (fun k3=>(lb (fun k4=>(lr 11 157 [1,1,0,1,0,0] 1 15 [(2,.nils),(3,(ii 8))] (sl z0c 79 [] ⟨[],[],[some [2,3]],[]⟩ ⟨[],[],[]⟩ (trs 9 []) (tt k4 (tt k3 (tt k2 (tt k1 (ww aG (tt k0 nn))))))))) (fun k4=>(sl z0c 154 [(246,3,Zz ([]:List R3))] ⟨[8,2,3,4,5,6,7,9],[],w9s,w9t⟩ ⟨[(3,.grow 7 3)],[],[]⟩ (trs 8 (bl 2 2)) (pp (fl ([]:List R3) nn) (tt k4 (tt k3 (tt k2 (tt k1 (ww aG (tt k0 nn))))))))))) (fun k3=>(sl z0c 69 [] ⟨[],[],spmN0,spmM0⟩ ⟨[],[],[]⟩ (trs 7 [false]) (tt k3 (tt k2 (tt k1 (ww aG (tt k0 nn))))))))) (fun k2=>(lb (fun k3=>(lr 11 157 [1,1,0,1,0,0] 1 15 [(2,.nils),(3,(ii 8))] (sl z0c 79 [] ⟨[],[],[some [2,3]],[]⟩ ⟨[],[],[]⟩ (trs 4 (bl 5 24)) (tt k3 (tt k2 (tt k1 (ww aG (tt k0 nn)))))))) (fun k3=>(sl z0c 154 [(246,3,Zz ([]:List R3))] ⟨[8,2,3,4,5,6,7,9],[],w9s,w9t⟩ ⟨[(3,.grow 7 3)],[],[]⟩ (trs 4 (bl 6 40)) (pp (fl ([]:List R3) nn) (tt k3 (tt k2 (tt k1 (ww aG (tt k0 nn)))))))))))) (fun k1=>(lb (fun k2=>(lr 11 157 [1,1,0,1,0,0] 1 15 [(2,.nils),(3,(ii 8))] (sl z0c 79 [] ⟨[],[],[some [2,3]],[]⟩ ⟨[],[],[]⟩ (bl 9 385) (tt k2 (tt k1 (ww aG (tt k0 nn))))))) (fun k2=>(sl z0c 154 [(246,3,Zz ([]:List R3))] ⟨[8,2,3,4,5,6,7,9],[],w9s,w9t⟩ ⟨[(3,.grow 7 3)],[],[]⟩ (bl 10 641) (pp (fl ([]:List R3) nn) (tt k2 (tt k1 (ww aG (tt k0 nn)))))))))))) (fun k0=>(sl z0c 98 [(246,3,Zz ([]:List R3))] ⟨[6,0,1,2,3,4,5,7],[],w9s,w9t⟩ ⟨[(3,.grow 7 3)],[],[]⟩ (bl 3 4) (pp (fl ([]:List R3) nn) (tt k0 nn)))))
 | .h1 v3 v17=>(lb (fun k0=>(lo fun o0=>(lo fun o1=>(sl z0c 36 [] ⟨[0,1,2,3,4,5,6,10],[],w9s,w9t⟩ ⟨[(3,.len (y7o v3 l0 v17).length)],(kpB 7 [.rowed 3 (y7o v3 l0 v17).length (Zz (y7o v3 l0 v17))]),[]⟩ [true] (pp (xL (v3.length+2) (y7o v3 l0 v17).length) (pp (xL (v3.length+2) (y7o v3 l0 v17).length) (pp (xS (v3.length+2) (Ze (Zz v3) 0 v3.length 3 [(ii (rd l0 (tn v17)).a),(ii 0),(ii 1),(ii (rd l0 (tn v17)).b),(ii 0),(ii (-1))]) (Zz (y7o v3 l0 v17))) (pp (pp (xF (Ze (Zz v3) 0 v3.length 3 [(ii (rd l0 (tn v17)).a),(ii 0),(ii 1),(ii (rd l0 (tn v17)).b),(ii 0),(ii (-1))])) nn) (ww o1 (ww o0 (tt k0 nn))))))))))) (fun k0=>(lo fun o0=>(lo fun o1=>(lo fun o2=>(sl z0c 92 [(183,2,Zz ([]:List R2))] ⟨[9,1,2,4,5,6,3,7,10],[],y4c,y4d⟩ ⟨[(5,.len (z0w (cvT v3)).length)],(kpB 6 [.cells [.grow 8 2],.rowed 3 (z0w (cvT v3)).length (Zz (z0w (cvT v3))),.keep]),[]⟩ (bl 4 2) (pp (xL v3.length (z0w (cvT v3)).length (by first | exact z8h _ | exact Va rfl)) (pp (xL v3.length (z0w (cvT v3)).length (by first | exact z8h _ | exact Va rfl)) (pp (xS v3.length (Zz (z0w (cvT v3))) (Zz (z0w (cvT v3)))) (pp (fl (z0w (cvT v3)) (fl ([]:List R2) nn)) (pp (pp (xG (Nat.beq 3 3)) (pp (xG (Nat.beq 3 3)) (pp (xG (Nat.beq 0 0)) (pp (pp (xG (decide (v3.length=v3.length))) (pp (xr v3) (xG (decide (v3.length<4611686018427387904))))) (xG (y1q (cvT v3))))))) (tt k0 nn))))))))))))
 | .h2 v5 v6 v7 aA aI aP aF aC=>(lb (fun k0=>(lo fun aG=>(lo fun aU=>(lb (fun k1=>(lb (fun k2=>(sl z0c 62 [] ⟨(List.range 9),[],y4c,y4d⟩ ⟨[],[],[]⟩ (trs 5 (bl 3 0)) (pp (fl v5 (fl aC nn)) (ww k2 (tt k1 (ww aU (ww aG (tt k0 nn)))))))) (fun k2=>(lb (fun k3=>(sl z0c 62 [] ⟨(List.range 9),[],y4c,y4d⟩ ⟨[],[],[]⟩ (trs 6 (bl 4 2)) (pp (fl v5 (fl aC nn)) (ww k3 (tt k1 (ww aU (ww aG (tt k0 nn)))))))) (fun k3=>trivial))))) (fun k1=>(lb (fun k2=>(lb (fun k3=>(sl z0c 62 [] ⟨(List.range 9),[],y4c,y4d⟩ ⟨[],[],[]⟩ (bl 8 17) (pp (fl v5 (fl aC nn)) (ww k3 (tt k2 (tt k1 (ww aU (ww aG (tt k0 nn))))))))) (fun k3=>(lb (fun k4=>(sl z0c 62 [] ⟨(List.range 9),[],y4c,y4d⟩ ⟨[],[],[]⟩ (bl 10 177) (pp (fl v5 (fl aC nn)) (ww k4 (tt k2 (tt k1 (ww aU (ww aG (tt k0 nn))))))))) (fun k4=>trivial))))) (fun k2=>(lb (fun k3=>(lo fun bX=>(lo fun cM=>(lb (fun k4=>(lb (fun k5=>(sl z0c 81 [] ⟨(List.range 9),[],y4c,y4d⟩ ⟨[],(kpB 6 [.cells [.len (aC.set (0+(tn (wr ((aC.length:Int) - 1)))) (R2.mk (rd aC (0+(tn (wr ((aC.length:Int) - 1))))).a (rd v5 (0+(tn v7))).a)).length],.keep,.rowed 2 (aC.set (0+(tn (wr ((aC.length:Int) - 1)))) (R2.mk (rd aC (0+(tn (wr ((aC.length:Int) - 1))))).a (rd v5 (0+(tn v7))).a)).length (Zz (aC.set (0+(tn (wr ((aC.length:Int) - 1)))) (R2.mk (rd aC (0+(tn (wr ((aC.length:Int) - 1))))).a (rd v5 (0+(tn v7))).a)))]),[]⟩ (bl 17 16353) (pp (xL aC.length (aC.set (0+(tn (wr ((aC.length:Int) - 1)))) (R2.mk (rd aC (0+(tn (wr ((aC.length:Int) - 1))))).a (rd v5 (0+(tn v7))).a)).length) (pp (xL aC.length (aC.set (0+(tn (wr ((aC.length:Int) - 1)))) (R2.mk (rd aC (0+(tn (wr ((aC.length:Int) - 1))))).a (rd v5 (0+(tn v7))).a)).length) (pp (xS aC.length (Xo (Zz aC) (0+(tn (wr ((aC.length:Int) - 1)))) 1 [(ii (rd v5 (0+(tn v7))).a)]) (Zz (aC.set (0+(tn (wr ((aC.length:Int) - 1)))) (R2.mk (rd aC (0+(tn (wr ((aC.length:Int) - 1))))).a (rd v5 (0+(tn v7))).a)))) (pp (fl v5 (pp (xF (Xo (Zz aC) (0+(tn (wr ((aC.length:Int) - 1)))) 1 [(ii (rd v5 (0+(tn v7))).a)])) nn)) (ww k5 (ww cM (ww bX (tt k4 (ww cM (ww bX (tt k3 (tt k2 (tt k1 (ww aU (ww aG (tt k0 nn)))))))))))))))))) (fun k5=>(lb (fun k6=>(sl z0c 81 [] ⟨(List.range 9),[],y4c,y4d⟩ ⟨[],(kpB 6 [.cells [.len (aC.set (0+(tn (wr ((aC.length:Int) - 1)))) (R2.mk (rd aC (0+(tn (wr ((aC.length:Int) - 1))))).a (rd v5 (0+(tn v7))).a)).length],.keep,.rowed 2 (aC.set (0+(tn (wr ((aC.length:Int) - 1)))) (R2.mk (rd aC (0+(tn (wr ((aC.length:Int) - 1))))).a (rd v5 (0+(tn v7))).a)).length (Zz (aC.set (0+(tn (wr ((aC.length:Int) - 1)))) (R2.mk (rd aC (0+(tn (wr ((aC.length:Int) - 1))))).a (rd v5 (0+(tn v7))).a)))]),[]⟩ (bl 19 98273) (pp (xL aC.length (aC.set (0+(tn (wr ((aC.length:Int) - 1)))) (R2.mk (rd aC (0+(tn (wr ((aC.length:Int) - 1))))).a (rd v5 (0+(tn v7))).a)).length) (pp (xL aC.length (aC.set (0+(tn (wr ((aC.length:Int) - 1)))) (R2.mk (rd aC (0+(tn (wr ((aC.length:Int) - 1))))).a (rd v5 (0+(tn v7))).a)).length) (pp (xS aC.length (Xo (Zz aC) (0+(tn (wr ((aC.length:Int) - 1)))) 1 [(ii (rd v5 (0+(tn v7))).a)]) (Zz (aC.set (0+(tn (wr ((aC.length:Int) - 1)))) (R2.mk (rd aC (0+(tn (wr ((aC.length:Int) - 1))))).a (rd v5 (0+(tn v7))).a)))) (pp (fl v5 (pp (xF (Xo (Zz aC) (0+(tn (wr ((aC.length:Int) - 1)))) 1 [(ii (rd v5 (0+(tn v7))).a)])) nn)) (ww k6 (ww cM (ww bX (tt k4 (ww cM (ww bX (tt k3 (tt k2 (tt k1 (ww aU (ww aG (tt k0 nn)))))))))))))))))) (fun k6=>trivial))))) (fun k4=>(lo fun cN=>(lb (fun k5=>(sl z0c 81 [] ⟨[0,1,2,3,4,5,6,7,12],[],y4c,y4d⟩ ⟨[],(kpB 6 [.cells [.len (Vs aC aP v5 v7).length],.keep,.rowed 2 (Vs aC aP v5 v7).length (Zz (Vs aC aP v5 v7))]),[]⟩ (bl 17 8161) (pp (xL (aC.length+1) (Vs aC aP v5 v7).length) (pp (xL (aC.length+1) (Vs aC aP v5 v7).length) (pp (xS (aC.length+1) (y0u aC aP v5 v7) (Zz (Vs aC aP v5 v7))) (pp (fl v5 (pp (xF (y0u aC aP v5 v7)) nn)) (ww k5 (ww cN (tt k4 (ww cM (ww bX (tt k3 (tt k2 (tt k1 (ww aU (ww aG (tt k0 nn))))))))))))))))) (fun k5=>(lb (fun k6=>(sl z0c 81 [] ⟨[0,1,2,3,4,5,6,7,12],[],y4c,y4d⟩ ⟨[],(kpB 6 [.cells [.len (Vs aC aP v5 v7).length],.keep,.rowed 2 (Vs aC aP v5 v7).length (Zz (Vs aC aP v5 v7))]),[]⟩ (bl 19 90081) (pp (xL (aC.length+1) (Vs aC aP v5 v7).length) (pp (xL (aC.length+1) (Vs aC aP v5 v7).length) (pp (xS (aC.length+1) (y0u aC aP v5 v7) (Zz (Vs aC aP v5 v7))) (pp (fl v5 (pp (xF (y0u aC aP v5 v7)) nn)) (ww k6 (ww cN (tt k4 (ww cM (ww bX (tt k3 (tt k2 (tt k1 (ww aU (ww aG (tt k0 nn))))))))))))))))) (fun k6=>trivial)))))))))) (fun k3=>(lo fun bX=>(lb (fun k4=>(sl z0c 81 [] ⟨[0,1,2,3,4,5,6,7,12],[],y4c,y4d⟩ ⟨[],(kpB 6 [.cells [.len (Vs aC aP v5 v7).length],.keep,.rowed 2 (Vs aC aP v5 v7).length (Zz (Vs aC aP v5 v7))]),[]⟩ (bl 17 1) (pp (xL (aC.length+1) (Vs aC aP v5 v7).length) (pp (xL (aC.length+1) (Vs aC aP v5 v7).length) (pp (xS (aC.length+1) (y0u aC aP v5 v7) (Zz (Vs aC aP v5 v7))) (pp (fl v5 (pp (xF (y0u aC aP v5 v7)) nn)) (ww k4 (ww bX (tt k3 (tt k2 (tt k1 (ww aU (ww aG (tt k0 nn)))))))))))))) (fun k4=>(lb (fun k5=>(sl z0c 81 [] ⟨[0,1,2,3,4,5,6,7,12],[],y4c,y4d⟩ ⟨[],(kpB 6 [.cells [.len (Vs aC aP v5 v7).length],.keep,.rowed 2 (Vs aC aP v5 v7).length (Zz (Vs aC aP v5 v7))]),[]⟩ (bl 19 81921) (pp (xL (aC.length+1) (Vs aC aP v5 v7).length) (pp (xL (aC.length+1) (Vs aC aP v5 v7).length) (pp (xS (aC.length+1) (y0u aC aP v5 v7) (Zz (Vs aC aP v5 v7))) (pp (fl v5 (pp (xF (y0u aC aP v5 v7)) nn)) (ww k5 (ww bX (tt k3 (tt k2 (tt k1 (ww aU (ww aG (tt k0 nn)))))))))))))) (fun k5=>trivial)))))))))))))) (fun k0=>(lr 11 3 [1,1,1,1,1,1,1,0] 1 15 [(2,(.dat aC.length (Zz aC))),(3,(ii 0))] (sl z0c 19 [] ⟨[],[8],[some [2,3]],[]⟩ ⟨[(2,.frz aC.length aC.length (Zz aC) (Zz aC))],[],[]⟩ [false] (pp (xZ (z1p 2 2 0 aC.length aC.length (Zz aC)) aC.length (Zz aC)) (pp (xL aC.length aC.length) (pp (xS aC.length (Zz aC) (Zz aC)) (pp (fl aC nn) (tt k0 nn)))))))))
theorem x6f (l0:List R2):Yt prog (Zy prog 157) (spmC l0) (Za prog 157 [(.dat l0.length (Zz l0))] true []) (y2d l0):=(lb (fun k0=>(lr 11 157 [1,0,1,0,0] 1 15 [(2,.nils),(3,(ii 4))] (sl z0c 18 [] ⟨[],[],[some [2,3]],[]⟩ ⟨[],[],[]⟩ [true] (tt k0 nn)))) (fun k0=>(sl z0c 41 [] ⟨[],[],spmN0,spmM0⟩ ⟨[],[],[]⟩ [false] (tt k0 nn))))
theorem v6q (l0:List R2) (n:Nat) (vs:List AVal) (h:Zs (Uu l0) n (y2d l0)=.ret vs):Jy prog (Zy prog 157) (Za prog 157 [(.dat l0.length (Zz l0))] true []) vs:=by have:=Zd (w4s l0) n _ (x6f l0);rwa [h] at this
def z1o (s:R2):Bool:=decide (s.a<s.b)&&(decide (s.a≥ -1000000)&&decide (s.b≤1000000))
def Km (l:List R2):List R3:=l.flatMap fun s=>[⟨s.a,0,1⟩,⟨s.b,0,-1⟩]
def Vj (out:List R2) (last:Int) (inn:Bool) (at':Int):List R2:=
 bif !inn then out else bif last == at' then out else
 bif decide (0<out.length)&&((rd out (out.length - 1)).b == last) then out.set (out.length - 1) ⟨(rd out (out.length - 1)).a,at'⟩ else out++[⟨last,at'⟩]
def swF :List R3→Int→Int→Bool→List R2→List R2
 | [],_,_,_,out=>out
 | e::r,o,last,inn,out=>swF r (o+e.c) e.a (decide (o+e.c>0)) (Vj out last inn e.a)
def swV (l:List R2):List R2:=swF (z0w (Km l)) 0 0 false []
def Xr (l:List R2):List R2:=bif decide (400<l.length) then [] else bif l.all z1o then swV l else []
def u2k (l:List R2):Int:=bif decide (400<l.length) then 4 else bif l.all z1o then 0 else 8
def y4b (l:List R2):Bool:=true
def x2u (l:List R2):List AVal:=bif decide (400<l.length) then [.nils,.int .i64 4] else bif l.all z1o then [.dat (swV l).length (Zz (swV l)),.int .i64 0] else [.nils,.int .i64 8]
theorem z4t (l:List R2):(Km l).length =2*l.length:=by
 induction l with
 | nil=>rfl
 | cons r l ih=>show (_::_::Km l).length =_;simp only [AW,ih];omega
theorem z3l (out:List R2) (last:Int) (inn:Bool) (a:Int):(Vj out last inn a).length ≤out.length+1:=by
 unfold Vj;cases inn <;> simp only [AG,AK,Ab,Aa]
 ·omega
 ·cases (last == a) <;> simp only [Ab,Aa]
  ·cases (decide (0<out.length)&&((rd out (out.length - 1)).b == last)) <;> simp
  ·omega
theorem y2c (e:R3) (r:List R3) (o last:Int) (inn:Bool) (out:List R2):swF (e::r) o last inn out=swF r (o+e.c) e.a (decide (o+e.c>0)) (Vj out last inn e.a):=rfl
theorem j0t {a:Int} (k:Nat) (h:a=(k:Int)):decide (a=Int.ofNat k)=true:=Ah h
section
variable (l:List R2) (hl:l.length≤400)
include hl
theorem u2g (L:List R3) (hL:L.length≤800) (hE: ∀i,i<L.length→(rd L i).b =0∧((rd L i).c =1∨(rd L i).c = -1)): ∀(k i:Nat) (o last:Int) (inn:Bool) (out:List R2),i+k=L.length→ -(i:Int)≤o→o≤i→out.length≤i→
  ∃n,Zs (Uu l) n (.to (.h2 L (L.length:Int) (i:Int) o 0 last inn out))=.ret [.dat (swF (L.drop i) o last inn out).length (Zz (swF (L.drop i) o last inn out)),.int .i64 0]
 | 0,i,o,last,inn,out,h,ho1,ho2,hout=>by have _uhl:=hl;refine ⟨1,?_⟩;rw [Zv,At (by omega)];simp (disch:=omega) only [Uu,Yz,Aa,Zp,swF]
 | k +1,i,o,last,inn,out,h,ho1,ho2,hout=>by
  obtain ⟨hb,hc⟩:=hE i (by omega);have hcl:=z3l out last inn (rd L i).a;obtain ⟨n,hn⟩:=u2g L hL hE k (i+1) (o+(rd L i).c) (rd L i).a (decide (o+(rd L i).c >0)) (Vj out last inn (rd L i).a) (by omega) (by rcases hc with hc | hc <;> omega) (by rcases hc with hc | hc <;> omega) (by omega);refine ⟨n+1,?_⟩;rw [Yj (show i<L.length by omega),Zv];have hf: ∀b,w3l b (decide ((0:Int)>0))=b:=fun b=>rfl;have hw:wrap .i64 (o+(rd L i).c)=o+(rd L i).c :=Zk (by rcases hc with hc | hc <;> omega);rw [y2c];have hf': ∀b,w3l b false=b:=fun b=>rfl;have hz:=j0t 0 hb;unfold Vj at hn ⊢;cases inn with
  | false=>simp only [AK,Ab] at hn ⊢;simp (disch:=omega) only [Uu,AK,hz,hw,hf,hf',Zn,Zo,Yk,Zk,Zx,Zj,Ag,Ai,Ab];exact hn
  | true=>
   simp only [AG,Aa] at hn ⊢;rcases Yd (last == (rd L i).a) with q | q
   ·rw [q] at hn ⊢;simp only [Ab] at hn ⊢;simp (disch:=omega) only [Uu,AG,q,hz,hw,hf,hf',Zn,Zo,Yk,Zk,Zx,Zj,Ag,Ai,Ab,Aa];exact hn
   ·rw [q] at hn ⊢;simp only [Aa] at hn ⊢;by_cases h0:0<out.length
    ·rw [Ah h0,Al] at hn ⊢;rcases Yd ((rd out (out.length - 1)).b == last) with q2 | q2
     ·rw [q2] at hn ⊢;simp only [Ab] at hn ⊢;simp (disch:=omega) only [Uu,AG,q,q2,hz,hw,hf,hf',Zn,Yn,Zo,Yk,Zk,Zx,Zj,Zh,Ag,Ai,Ab,Aa];exact hn
     ·rw [q2] at hn ⊢;simp only [Aa] at hn ⊢;simp (disch:=omega) only [Uu,AG,q,q2,hz,hw,hf,hf',Zn,Yn,Zo,Yk,Yp,Zf,Ym,Av,Zk,Zx,Zj,Zh,Ag,Ai,Al,Ab,Aa];exact hn
    ·rw [Ay h0,Bx] at hn ⊢;simp only [Aa] at hn ⊢;simp (disch:=omega) only [Uu,AG,q,hz,hw,hf,hf',Zn,Xm,Zo,Yk,Yp,Zf,Ym,Av,Zk,Zx,Zj,Ag,Ai,Al,Ab,Aa];exact hn
theorem v4o (h:l.all z1o=true): ∀e∈Km l,bnd3 e=true∧e.b=0∧(e.c=1∨e.c= -1):=by
 have _uhl:=hl;intro e he;obtain ⟨s,hs,h1⟩:=AN.1 he;have hv:=Au.1 h s hs;simp only [z1o,Ac,As] at hv;simp only [AE,Bc,BX] at h1;rcases h1 with rfl | rfl
 ·exact ⟨Ah (by simp only;omega),rfl,.inl rfl⟩
 ·exact ⟨Ah (by simp only;omega),rfl,.inr rfl⟩
theorem u2h (hv:l.all z1o=true): ∀(k i:Nat) (acc:List R3),i+k=l.length→acc=Km (l.take i)→ ∃n,Zs (Uu l) n (.to (.h1 acc (i:Int)))=.ret [.dat (swV l).length (Zz (swV l)),.int .i64 0]
 | 0,i,acc,h,ha=>by
  have e:acc=Km l:=by rw [ha,AP (by omega)]
  subst e;have hle:=z4t l;have dY:=v4o l hl hv;have hb:y1q (Km l)=true:=Au.2 fun e he=>(dY e he).1;obtain ⟨hp,_⟩:=Ks (Km l) hb;have hpl:=hp.length_eq;obtain ⟨n,hn⟩:=u2g l hl (z0w (Km l)) (by omega) (fun i hi=>by
   rw [Yo hi];exact (dY _ (hp.mem_iff.1 (AR hi))).2) (z0w (Km l)).length 0 0 0 false [] (Ag _) (by omega) (by omega) (AA _)
  refine ⟨n+1,?_⟩;rw [Zv];simp (disch:=omega) only [Uu,Zg,Zq,hb,Yz,Yk,Yp,Av,Ab,Aa];rw [←hpl];simp only [Qo,A3] at hn;exact hn
 | k+1,i,acc,h,ha=>by
  have hle:=z4t (l.take i);have eW:acc.length≤2*i:=by rw [ha,hle];simp;omega
  obtain ⟨n,hn⟩:=u2h hv k (i+1) (acc++Km [rd l i]) (by omega) (by
   rw [ha,A9];have:l[i]? =some (rd l i):=by rw [Yo (show i<l.length by omega)];exact Aq _
   rw [this];simp [Km])
  refine ⟨n+1,?_⟩;rw [Zv];simp (disch:=omega) only [Uu,Zn,Zo,Yc,Yp,Zf,Ym,Av,Zk,Zx,Zj,Ag,Ai,Al,Ab];exact hn
theorem u2i : ∀(k i:Nat),i+k=l.length→(∀s∈l.take i,z1o s=true)→ ∃n,Zs (Uu l) n (.to (.h0 (i:Int)))=.ret (bif l.all z1o then [.dat (swV l).length (Zz (swV l)),.int .i64 0] else [.nils,.int .i64 8])
 | 0,i,h,ht=>by have hv:l.all z1o=true:=Au.2 fun s hs=>ht s (by rw [AP (by omega)];exact hs);obtain ⟨n,hn⟩:=u2h l hl hv l.length 0 [] (Ag _) rfl;refine ⟨n+1,?_⟩;rw [Zv,hv,Ab];simp (disch:=omega) only [Uu,Yz,Aa];exact hn
 | k+1,i,h,ht=>by
  have hi:i<l.length:=by omega
  rcases Yd (z1o (rd l i)) with q | q
  ·obtain ⟨n,hn⟩:=u2i k (i+1) (by omega) (fun s hs=>by
    rw [A9] at hs;have e:l[i]? =some (rd l i):=by rw [Yo hi];exact Aq _
    rw [e] at hs;simp only [Cb,AF,AT] at hs;rcases hs with hs | rfl
    ·exact ht s hs
    ·exact q)
   refine ⟨n+1,?_⟩;rw [Zv];simp only [z1o,Ac,As] at q;simp (disch:=omega) only [Uu,Zn,Wz,dge_t,Zo,Zk,Zx,Zj,AG,Ai,Ab,Aa];exact hn
  ·have hv:l.all z1o=false:=A8.2 fun e=>by have:=Au.1 e (rd l i) (by rw [Yo hi];exact AR hi);rw [this] at q;cases q
   refine ⟨1,?_⟩;rw [Zv,hv,Aa];unfold z1o at q;rcases Yd (decide ((rd l i).a <(rd l i).b)) with q1 | q1 <;> rcases Yd (decide ((rd l i).a ≥ -1000000)) with q2 | q2 <;> rcases Yd (decide ((rd l i).b ≤1000000)) with q3 | q3 <;>
    rw [q1,q2,q3] at q <;> first
    | (exfalso;revert q;decide)
    | simp (disch:=omega) only [Uu,q1,q2,q3,Zn,dge_t,Zo,Zk,Zx,Zj,AG,AK,Ai,Ab,Aa,Zp]
end
theorem u7x (l:List R2): ∃n,Zs (Uu l) n (y2d l)=.ret (x2u l):=by
 unfold y2d x2u;by_cases h:400<l.length
 ·refine ⟨0,?_⟩;rw [Ah h,Yn (show (l.length:Int)>400 by omega)];rfl
 ·obtain ⟨n,hn⟩:=u2i l (by omega) l.length 0 (Ag _) (fun s hs=>by simp at hs);refine ⟨n,?_⟩;rw [Ay h,Xm (show¬(l.length:Int)>400 by omega),Aa,Aa];exact hn
def fSpm :List AVal→Option (AVal×Bool)
 | [a1]=>match asL R2 a1 with
  | some (L1,g1,n1)=>some (.tup [.dat (Xr L1).length (Zz (Xr L1)),.int .i64 (u2k L1)],isT R2 n1 g1&&y4b L1)
  | _=>none
 | _=>none
theorem j2j {S:Specs} (hS:Zu prog S):Zu prog (S.with x3v fSpm):=by
 refine w8u hS (by kernel_rfl) fun args v h=> ?_;unfold fSpm at h;split at h
 ·rename_i a1;split at h
  ·rename_i L1 g1 n1 e1;simp only [Ae,Ad,Ac] at h;obtain ⟨rfl,ho1,hw⟩:=h;obtain ⟨N,hN⟩:=u7x L1;refine ⟨_,x2u L1,(.cons (asL_le e1 ho1) .nil),?_,v6q L1 N _ hN,3,?_⟩
   ·unfold Xr u2k x2u;cases decide (400<L1.length) <;> simp only [Ab,Aa]
    ·cases L1.all z1o <;> simp only [Ab,Aa]
     ·exact fun ρ u hu=>z5s (.cons (z6q R2) (RLe.refl _)) ρ u hu
     ·exact fun ρ u hu=>hu
    ·exact fun ρ u hu=>z5s (.cons (z6q R2) (RLe.refl _)) ρ u hu
   ·unfold x2u;cases decide (400<L1.length) <;> simp only [Ab,Aa]
    ·cases L1.all z1o <;> rfl
    ·rfl
  ·cases h
 ·cases h
def T6 :Specs:=T5.with x3v fSpm
theorem Kq :Zu prog T6:=j2j z0c
theorem y0h {γ:Type} (a b:Bool) (x y:γ):(bif a&&b then x else y)=bif a then (bif b then x else y) else y:=by cases a <;> rfl
theorem z6z {γ:Type} (a:Bool) (x y:γ):(bif !a then x else y)=bif a then y else x:=by cases a <;> rfl
structure Dim (α β:Type) where
 lo:α→Int
 hi:α→Int
 pr:α→β
 put:Int→Int→β→α
 ext:Int→α→α
 mak:List β→List β
 same:List β→List β→Bool
structure Sw (α β:Type) where
 out:List α
 last:List β
 first:Nat
 fin:Int
def Kz (zs:List Int):List Int:=compact (Xc zs)
theorem y0f (zs:List Int):w8v (Xc zs)=(Kz zs).length :=rfl
theorem Vq (zs:List Int):(Xc zs).length =zs.length:=List.length_mergeSort zs
theorem z3i (zs:List Int):(Kz zs).length ≤zs.length:=by have:=compact_length_le (Xc zs);rw [Vq] at this;exact this
theorem z4k (zs:List Int) (i:Nat) (h:i<(Kz zs).length):rd (Wc (Xc zs)) i=rd (Kz zs) i:=by change i<(compact (Xc zs)).length at h;show rd (compact (Xc zs)++_) i=rd (compact (Xc zs)) i;rw [Yo (by rw [Ar];exact Nat.lt_add_right _ h),Yo h,BA h]
theorem z0f (zs:List Int):Yu zs.length (cOf (Zz (Xc zs)))=Xc zs:=by have:=Jd (Xc zs);rw [Vq] at this;exact this
namespace Dim
variable {α β:Type} (D:Dim α β) (l:List α)
def ends :List Int:=l.flatMap fun r=>[D.lo r,D.hi r]
def cuts :List Int:=Kz (D.ends l)
def inn (x:Int):List β:=(l.filter fun r=>decide (D.lo r≤x)&&decide (x<D.hi r)).map D.pr
def sec (x:Int):List β:=D.mak (D.inn l x)
def grow (out:List α) (k:Nat) (x:Int):List α:=out.take k++(out.drop k).map (D.ext x)
def one (x x':Int) (s:Sw α β):Sw α β:=
 bif decide (0<(D.sec l x).length)&&((s.fin == x)&&D.same s.last (D.sec l x)) then ⟨D.grow s.out s.first x',s.last,s.first,x'⟩
 else ⟨s.out++(D.sec l x).map (D.put x x'),D.sec l x,s.out.length,x'⟩
def go :Nat→Nat→Sw α β→Sw α β
 | 0,_,s=>s
 | k+1,i,s=>go k (i+1) (D.one l (rd (D.cuts l) i) (rd (D.cuts l) (i+1)) s)
def out :List α:=(D.go l ((D.cuts l).length - 1) 0 ⟨[],[],0,0⟩).out
theorem ends_length :(D.ends l).length =2*l.length:=by
 induction l with
 | nil=>rfl
 | cons r l ih=>show (_::_::D.ends l).length =_;simp only [AW,ih];omega
theorem cuts_length :(D.cuts l).length ≤2*l.length:=by have:=z3i (D.ends l);rw [D.ends_length] at this;exact this
theorem ends_append (m:List α):D.ends (l++m)=D.ends l++D.ends m:=by simp [ends]
theorem inn_append (m:List α) (x:Int):D.inn (l++m) x=D.inn l x++D.inn m x:=by simp [inn]
theorem inn_length (x:Int):(D.inn l x).length ≤l.length:=by simpa [inn] using BS _ l
theorem inn_t (r:α) (x:Int) (h1:D.lo r≤x) (h2:x<D.hi r):D.inn [r] x=[D.pr r]:=by simp [inn,h1,h2]
theorem inn_f1 (r:α) (x:Int) (h1: ¬D.lo r≤x):D.inn [r] x=[]:=by simp [inn,h1]
theorem inn_f2 (r:α) (x:Int) (h1: ¬x<D.hi r):D.inn [r] x=[]:=by simp [inn,h1]
theorem grow_nil (out:List α) (k:Nat) (x:Int) (h:out.length≤k):D.grow out k x=out:=by unfold grow;rw [At h,Bb,Az,AP h]
theorem grow_length (out:List α) (k:Nat) (x:Int):(D.grow out k x).length =out.length:=by unfold grow;simp;omega
theorem grow_set [Ys α] (out:List α) (j:Nat) (x:Int) (h:j<out.length):D.grow (out.set j (D.ext x (rd out j))) (j+1) x=D.grow out j x:=by
 unfold grow;rw [Yj h,A4];have e1:(out.set j (D.ext x (rd out j))).take (j+1)=out.take j++[D.ext x (rd out j)]:=by
  apply Cs
  ·simp;omega
  ·intro n h1 h2;simp only [Bs,List.getElem_set];by_cases e:j=n
   ·subst e;rw [AB rfl,BK (by simp only [A0];omega)];simp
   ·rw [Aw e,BA (by simp at h1 ⊢;omega),Bs]
 have e2:(out.set j (D.ext x (rd out j))).drop (j+1)=out.drop (j+1):=by rw [List.drop_set];rw [AB (by omega)]
 rw [e1,e2,AH];rfl
theorem one_length (x x':Int) (s:Sw α β):(D.one l x x' s).out.length ≤s.out.length+(D.sec l x).length :=by unfold one;cases (decide (0<(D.sec l x).length)&&((s.fin == x)&&D.same s.last (D.sec l x))) <;> simp [grow_length]
end Dim
open Go.Proofs.Tryz
open Go.Proofs
inductive vl4S where
def vl4C (aO:Int) (aN:Int) (aM:Int) (bD:Int):vl4S→Cfg
 :=nofun
def x5u (aO:Int) (aN:Int) (aM:Int) (bD:Int):vl4S→Xv vl4S
 :=nofun
def y2a (aO:Int) (aN:Int) (aM:Int) (bD:Int):Xv vl4S:=(bif (decide (aO<aM)) then (bif (decide (aN<bD)) then (bif (decide (aO≥(-1000000))) then (bif (decide (aO≤1000000)) then (bif (decide (aM≥(-1000000))) then (bif (decide (aM≤1000000)) then (bif (decide (aN≥(-1000000))) then (bif (decide (aN≤1000000)) then (bif (decide (bD≥(-1000000))) then (.ret [(.bool (decide (bD≤1000000)))]) else (.ret [(.bool false)])) else (.ret [(.bool false)])) else (.ret [(.bool false)])) else (.ret [(.bool false)])) else (.ret [(.bool false)])) else (.ret [(.bool false)])) else (.ret [(.bool false)])) else (.ret [(.bool false)])) else (.ret [(.bool false)]))
theorem w4h (aO:Int) (aN:Int) (aM:Int) (bD:Int): ∀s,Yt prog (Zy prog 120) (vl4C aO aN aM bD) (vl4C aO aN aM bD s) (x5u aO aN aM bD s)
 :=nofun
theorem x5v (aO:Int) (aN:Int) (aM:Int) (bD:Int):Yt prog (Zy prog 120) (vl4C aO aN aM bD) (Za prog 120 [(.agg [(.int .i64 aO),(.int .i64 aN),(.int .i64 aM),(.int .i64 bD)])] true []) (y2a aO aN aM bD):=(lb (fun k0=>(lb (fun k1=>(lb (fun k2=>(lb (fun k3=>(lb (fun k4=>(lb (fun k5=>(lb (fun k6=>(lb (fun k7=>(lb (fun k8=>(lr 35 3 [1,1,1,1,1,1,1,0] 1 3 [(2,(.bool (decide (bD≤1000000))))] (sl Kq 101 [] ⟨[],[],[some [2]],[]⟩ ⟨[],[],[]⟩ (trs 25 []) (tt k8 (tt k7 (tt k6 (tt k5 (tt k4 (tt k3 (tt k2 (tt k1 (tt k0 nn)))))))))))) (fun k8=>(lr 35 3 [1,1,1,1,1,1,1,0] 1 3 [(2,(.bool false))] (sl Kq 101 [] ⟨[],[],[some [2]],[]⟩ ⟨[],[],[]⟩ (trs 23 [false,false]) (tt k8 (tt k7 (tt k6 (tt k5 (tt k4 (tt k3 (tt k2 (tt k1 (tt k0 nn)))))))))))))) (fun k7=>(lr 35 3 [1,1,1,1,1,1,1,0] 1 3 [(2,(.bool false))] (sl Kq 86 [] ⟨[],[],[some [2]],[]⟩ ⟨[],[],[]⟩ (trs 20 [false,false,false]) (tt k7 (tt k6 (tt k5 (tt k4 (tt k3 (tt k2 (tt k1 (tt k0 nn))))))))))))) (fun k6=>(lr 35 3 [1,1,1,1,1,1,1,0] 1 3 [(2,(.bool false))] (sl Kq 86 [] ⟨[],[],[some [2]],[]⟩ ⟨[],[],[]⟩ (trs 18 [false,false,false,false,false]) (tt k6 (tt k5 (tt k4 (tt k3 (tt k2 (tt k1 (tt k0 nn)))))))))))) (fun k5=>(lr 35 3 [1,1,1,1,1,1,1,0] 1 3 [(2,(.bool false))] (sl Kq 71 [] ⟨[],[],[some [2]],[]⟩ ⟨[],[],[]⟩ (trs 15 [false,false,false,false,false,false]) (tt k5 (tt k4 (tt k3 (tt k2 (tt k1 (tt k0 nn))))))))))) (fun k4=>(lr 35 3 [1,1,1,1,1,1,1,0] 1 3 [(2,(.bool false))] (sl Kq 71 [] ⟨[],[],[some [2]],[]⟩ ⟨[],[],[]⟩ (trs 13 [false,false,false,false,false,false,false,false]) (tt k4 (tt k3 (tt k2 (tt k1 (tt k0 nn)))))))))) (fun k3=>(lr 35 3 [1,1,1,1,1,1,1,0] 1 3 [(2,(.bool false))] (sl Kq 56 [] ⟨[],[],[some [2]],[]⟩ ⟨[],[],[]⟩ (trs 10 [false,false,false,false,false,false,false,false,false]) (tt k3 (tt k2 (tt k1 (tt k0 nn))))))))) (fun k2=>(lr 35 3 [1,1,1,1,1,1,1,0] 1 3 [(2,(.bool false))] (sl Kq 56 [] ⟨[],[],[some [2]],[]⟩ ⟨[],[],[]⟩ (trs 8 [false,false,false,false,false,false,false,false,false,false,false]) (tt k2 (tt k1 (tt k0 nn)))))))) (fun k1=>(lr 35 3 [1,1,1,1,1,1,1,0] 1 3 [(2,(.bool false))] (sl Kq 41 [] ⟨[],[],[some [2]],[]⟩ ⟨[],[],[]⟩ (trs 5 [false,false,false,false,false,false,false,false,false,false,false,false]) (tt k1 (tt k0 nn))))))) (fun k0=>(lr 35 3 [1,1,1,1,1,1,1,0] 1 3 [(2,(.bool false))] (sl Kq 41 [] ⟨[],[],[some [2]],[]⟩ ⟨[],[],[]⟩ [false,false,false,false,false,false,false,false,false,false,false,false,false,false,false,false,false] (tt k0 nn)))))
theorem v6m (aO:Int) (aN:Int) (aM:Int) (bD:Int) (n:Nat) (vs:List AVal) (h:Zs (x5u aO aN aM bD) n (y2a aO aN aM bD)=.ret vs):Jy prog (Zy prog 120) (Za prog 120 [(.agg [(.int .i64 aO),(.int .i64 aN),(.int .i64 aM),(.int .i64 bD)])] true []) vs:=by have:=Zd (w4h aO aN aM bD) n _ (x5v aO aN aM bD);rwa [h] at this
inductive madS where
 | h0 (v16:Int) (aA:List Int)
 | h1 (v4:Int) (aX:List R4) (bV:List R2) (cC:Int) (cD:Int) (aV:Nat) (bE:List Int)
 | h2 (v4:Int) (v38:Int) (aX:List R4) (bV:List R2) (cC:Int) (cD:Int) (aV:Nat) (bE:List Int) (aC:Int) (cG:Int) (aL:List R2)
 | h3 (v1:Int) (v2:Int) (v71:List R2) (v72:Int) (v73:Int) (bT:List R2) (aT:Int) (aD:List R4) (bB:List R2) (bC:Int) (aV:Nat) (bE:List Int) (aC:List R2)
 | h4 (v2:Int) (v8:Int) (cI:Int) (bT:List R2) (aT:Int) (aD:List R4) (bB:List R2) (bC:Int) (bS:Int) (cE:Nat) (cH:List Int) (aL:List R2)
abbrev y9c (aD:List R4) (v8:Int) (v2:Int):=(aD.set (0+(tn v8)) (R4.mk (rd aD (0+(tn v8))).a (rd aD (0+(tn v8))).b v2 (rd aD (0+(tn v8))).d))
abbrev y9b (aA:List Int):=(Wc (Yu aA.length (cOf (Zz (Xc (Yu aA.length (cOf (Zz aA))))))))
def u6p :AFr:=⟨⟨29,0,true⟩,none,(.inRangeFunc 0::(Zb prog 121 [1,1,0,1,0] 1)),none,(Zy prog 15),Yg [(2,.nils),(3,(ii 0)),(4,(.ptr 1 0))]⟩
def u6o :=(y7b [(0,⟨.ready,none,29,Yg [(4,(.ptr 1 0))],[11],(Vb prog 121 [1,1,0,1,0,0]),(Vb prog 121 [1,1,0,1,0,1])⟩)])
abbrev y9a (aL:List R2) (l0:List R4) (v38:Int):=(aL++[(R2.mk (rd l0 (tn v38)).b (rd l0 (tn v38)).d)])
abbrev y8z (aD:List R4) (v1:Int) (v71:List R2) (v73:Int) (v2:Int):=(aD++[(R4.mk v1 (rd v71 (tn v73)).a v2 (rd v71 (tn v73)).b)])
def x3y (l0:List R4):ABlk:=⟨[(.dat l0.length (Zz l0))],99,none⟩
abbrev y8y (aA:List Int) (l0:List R4) (v16:Int):=(aA++[(rd l0 (tn v16)).a,(rd l0 (tn v16)).c])
def madC (l0:List R4):madS→Cfg
 | .h0 v16 aA=>⟨⟨34,0,true⟩,none,(Zb prog 156 [1,1,0,1,0,0,1,1,0,0,1,1,0,0] 0),none,(Zy prog 3),⟨Yg [(1,(.ptr 0 0)),(3,(.ptr 2 0)),(8,(.sl 1 0 1 (.un 1))),(9,(ii 1)),(10,(ii 0)),(14,(.dat l0.length (Zz l0))),(15,(ii (l0.length:Int))),(16,(ii v16))],Wh [⟨[(.sl 1 0 1 (.un 1))],171,none⟩,(x3y l0),⟨[(.sla 4 1 0 aA.length (.un 1))],93,none⟩,⟨[.nils,.nils,(ii 0),(ii 0)],200,none⟩,⟨Yx aA.length (Zz aA),3,some ⟨1,aA.length,(Zz aA)⟩⟩] 0,5,[],true⟩,[⟨⟨29,0,true⟩,(Uv prog 121 [1,1,0,0] 2),(Zb prog 121 [1,1,0,0] 1),none,(Zy prog 15),Yg [(2,.nils),(3,(ii 0)),(4,(.ptr 3 0)),(9,(.sl 1 0 1 (.un 1)))]⟩],.leaf⟩
 | .h1 v4 aX bV cC cD aV bE=>⟨⟨76,0,true⟩,none,(Zb prog 182 [1,0,0] 0),none,[],⟨Yg [(0,(.yld 0)),(1,(.ptr 2 0)),(2,(.ptr 4 0)),(4,(ii v4))],y1c [(1,⟨[(.sla 6 4 0 aX.length (.un 4)),(.dat bV.length (Zz bV)),(ii cC),(ii cD)],200,none⟩),(2,⟨[(.sla 3 1 0 aV (.un 1))],93,none⟩),(3,⟨Yx bE.length (Zz bE),3,some ⟨1,bE.length,(Zz bE)⟩⟩),(4,⟨[(.sl 5 0 1 (.un 1))],171,none⟩),(5,(x3y l0)),(6,⟨Yx aX.length (Zz aX),88,some ⟨4,aX.length,(Zz aX)⟩⟩)],7,[],true⟩,[u6p],u6o⟩
 | .h2 v4 v38 aX bV cC cD aV bE aC cG aL=>⟨⟨76,0,true⟩,none,(Zb prog 182 [1,0,0,1,0,0,1,0,1,0,0,1,1,0,0,1,1,0,0] 0),none,[],⟨Yg [(0,(.yld 0)),(1,(.ptr 2 0)),(2,(.ptr 4 0)),(4,(ii v4)),(5,(.ptr 6 0)),(6,(ii 0)),(29,(.sl 5 0 1 (.un 1))),(30,(ii 1)),(31,(ii 0)),(36,(.dat l0.length (Zz l0))),(37,(ii (l0.length:Int))),(38,(ii v38))],y1c [(1,⟨[(.sla 9 4 0 aX.length (.un 4)),(.dat bV.length (Zz bV)),(ii cC),(ii cD)],200,none⟩),(2,⟨[(.sla 3 1 0 aV (.un 1))],93,none⟩),(3,⟨Yx bE.length (Zz bE),3,some ⟨1,bE.length,(Zz bE)⟩⟩),(4,⟨[(.sl 5 0 1 (.un 1))],171,none⟩),(5,(x3y l0)),(6,⟨[(ii aC),(ii cG),(.sl 7 0 1 (.ex 1))],205,none⟩),(7,⟨[(.sla 8 2 0 aL.length (.un 2))],180,none⟩),(8,⟨Yx aL.length (Zz aL),183,some ⟨2,aL.length,(Zz aL)⟩⟩),(9,⟨Yx aX.length (Zz aX),88,some ⟨4,aX.length,(Zz aX)⟩⟩)],10,[],true⟩,[u6p],u6o⟩
 | .h3 v1 v2 v71 v72 v73 bT aT aD bB bC aV bE aC=>⟨⟨94,0,true⟩,none,(Zb prog 158 [1,1,1,0,0] 0),none,[],⟨Yg [(0,(.ptr 0 0)),(1,(ii v1)),(2,(ii v2)),(71,(.dat v71.length (Zz v71))),(72,(ii v72)),(73,(ii v73))],y1c [(0,⟨[(.sla 7 4 0 aD.length (.un 4)),(.dat bB.length (Zz bB)),(ii bC),(ii v2)],200,none⟩),(2,⟨[(.sla 3 1 0 aV (.un 1))],93,none⟩),(3,⟨Yx bE.length (Zz bE),3,some ⟨1,bE.length,(Zz bE)⟩⟩),(4,⟨[(.sl 5 0 1 (.un 1))],171,none⟩),(5,(x3y l0)),(6,⟨[(.dat aC.length (Zz aC))],180,none⟩),(7,⟨Yx aD.length (Zz aD),88,some ⟨4,aD.length,(Zz aD)⟩⟩)],8,[],true⟩,[⟨⟨29,0,true⟩,(Uv prog 121 [1,1,0,1,0,1,0,1] 5),(Zb prog 121 [1,1,0,1,0,1,0,1] 1),(some 1),[],Yg [(4,(.ptr 0 0)),(21,(ii v1)),(23,(ii v2)),(24,(.dat bT.length (Zz bT)))]⟩,⟨⟨76,0,true⟩,(Uv prog 182 [1,0,0,1,0,0,1,1,0] 2),(Zb prog 182 [1,0,0,1,0,0,1,1,0] 1),none,[],Yg [(0,(.yld 1)),(1,(.ptr 2 0)),(2,(.ptr 4 0)),(4,(ii aT)),(72,(.yld 1)),(73,(.agg [(ii v1),(ii v2),(.sl 6 0 1 (.ex 1))]))]⟩,⟨⟨29,0,true⟩,none,(.inRangeFunc 1::(Zb prog 121 [1,1,0,1,0] 1)),none,(Zy prog 15),Yg [(2,.nils),(3,(ii 0)),(4,(.ptr 0 0))]⟩],(y7b [(1,⟨.busy,none,29,Yg [(4,(.ptr 0 0))],[11],(Vb prog 121 [1,1,0,1,0,0]),(Vb prog 121 [1,1,0,1,0,1])⟩)])⟩
 | .h4 v2 v8 cI bT aT aD bB bC bS cE cH aL=>⟨⟨94,0,true⟩,none,(Zb prog 158 [0,1,0,0,1,0,0] 0),none,[],⟨Yg [(0,(.ptr 0 0)),(2,(ii v2)),(8,(ii v8))],y1c [(0,⟨[(.sla 1 4 0 aD.length (.un 4)),(.dat bB.length (Zz bB)),(ii bC),(ii bS)],200,none⟩),(1,⟨Yx aD.length (Zz aD),88,some ⟨4,aD.length,(Zz aD)⟩⟩),(3,⟨[(.sla 4 1 0 cE (.un 1))],93,none⟩),(4,⟨Yx cH.length (Zz cH),3,some ⟨1,cH.length,(Zz cH)⟩⟩),(5,⟨[(.sl 6 0 1 (.un 1))],171,none⟩),(6,(x3y l0)),(7,⟨[(.dat aL.length (Zz aL))],180,none⟩)],8,[],true⟩,[⟨⟨29,0,true⟩,(Uv prog 121 [1,1,0,1,0,1,0,1] 5),(Zb prog 121 [1,1,0,1,0,1,0,1] 1),(some 2),[],Yg [(4,(.ptr 0 0)),(21,(ii cI)),(23,(ii v2)),(24,(.dat bT.length (Zz bT)))]⟩,⟨⟨76,0,true⟩,(Uv prog 182 [1,0,0,1,0,0,1,1,0] 2),(Zb prog 182 [1,0,0,1,0,0,1,1,0] 1),none,[],Yg [(0,(.yld 2)),(1,(.ptr 3 0)),(2,(.ptr 5 0)),(4,(ii aT)),(72,(.yld 2)),(73,(.agg [(ii cI),(ii v2),(.sl 7 0 1 (.ex 1))]))]⟩,⟨⟨29,0,true⟩,none,(.inRangeFunc 2::(Zb prog 121 [1,1,0,1,0] 1)),none,(Zy prog 15),Yg [(2,.nils),(3,(ii 0)),(4,(.ptr 0 0))]⟩],(y7b [(2,⟨.busy,none,29,Yg [(4,(.ptr 0 0))],[11],(Vb prog 121 [1,1,0,1,0,0]),(Vb prog 121 [1,1,0,1,0,1])⟩)])⟩
def madN0 :List (Option (List Nat)):=[some [1,3,8,9,10,14,15,16],some [2,3,4,9]]
def madM0 :List (Option (List Nat)):=[]
def j1o :List (Option (List Nat)):=[some [0,1,2,4],some [2,3,4]]
def j1p :List (Option (List Nat)):=[some [4],none,none,none,none,none,none]
def u0a :List (Option (List Nat)):=[some [0,1,2,4,5,6,29,30,31,36,37,38],some [2,3,4]]
def u0c :List (Option (List Nat)):=[some [4],none,none,none,none,none,none,none,none,none]
def v9z :List (Option (List Nat)):=[some [0,1,2,71,72,73],some [4,21,23,24],some [0,1,2,4,72,73],some [2,3,4]]
def u0b :List (Option (List Nat)):=[none,some [4],none,none,none,none,none,none]
def madN4 :List (Option (List Nat)):=[some [0,2,8],some [4,21,23,24],some [0,1,2,4,72,73],some [2,3,4]]
def madM4 :List (Option (List Nat)):=[none,none,some [4],none,none,none,none,none]
def Xi (l0:List R4):madS→Xv madS
 | .h0 v16 aA=>(bif (decide (v16<(l0.length:Int))) then (bif ((decide (0≤v16∧v16<(l0.length:Int)))&&true) then (bif (Nat.beq 1 1&&((decide (0+aA.length=aA.length))&&decide ((aA.length+2+1)*(8+1)≤Uw))) then (.to (.h0 (wrap .i64 (v16+1)) (aA++[(rd l0 v16.toNat).a,(rd l0 v16.toNat).c]))) else .stuck) else .stuck) else (bif (decide (aA.length<4611686018427387904)) then (bif (decide (aA.length=aA.length)) then (.to (.h1 1 ([]:List R4) ([]:List R2) 0 0 (w8v (Yu aA.length (cOf (Zz (Xc (Yu aA.length (cOf (Zz aA)))))))) (Wc (Yu aA.length (cOf (Zz (Xc (Yu aA.length (cOf (Zz aA)))))))))) else .stuck) else .stuck))
 | .h1 v4 aX bV cC cD aV bE=>(bif (decide (v4<((aV:Nat):Int))) then (bif ((decide (0≤(wrap .i64 (v4 - 1))∧(wrap .i64 (v4 - 1))<((aV:Nat):Int)))&&true) then (bif (decide ((0+(Int.toNat (wrap .i64 (v4 - 1))))<bE.length)) then (bif ((decide (0≤v4∧v4<((aV:Nat):Int)))&&true) then (bif (decide ((0+v4.toNat)<bE.length)) then (.to (.h2 v4 0 aX bV cC cD aV bE (rd bE (0+(Int.toNat (wrap .i64 (v4 - 1))))) (rd bE (0+v4.toNat)) ([]:List R2))) else .stuck) else .stuck) else .stuck) else .stuck) else (bif (decide ((aX.length:Int)>400)) then (.ret [.nils,(.int .i64 4)]) else (.ret [(.dat aX.length (Zz aX)),(.int .i64 0)])))
 | .h2 v4 v38 aX bV cC cD aV bE aC cG aL=>(bif (decide (v38<(l0.length:Int))) then (bif ((decide (0≤v38∧v38<(l0.length:Int)))&&true) then (bif (decide ((rd l0 v38.toNat).a ≤aC)) then (bif (decide (aC<(rd l0 v38.toNat).c)) then (bif (Nat.beq 2 2&&((decide (0+aL.length=aL.length))&&decide ((aL.length+1+1)*(16+1)≤Uw))) then (.to (.h2 v4 (wrap .i64 (v38+1)) aX bV cC cD aV bE aC cG (aL++[(R2.mk (rd l0 v38.toNat).b (rd l0 v38.toNat).d)]))) else .stuck) else (.to (.h2 v4 (wrap .i64 (v38+1)) aX bV cC cD aV bE aC cG aL))) else (.to (.h2 v4 (wrap .i64 (v38+1)) aX bV cC cD aV bE aC cG aL))) else .stuck) else (bif (y4b (cvT aL)) then (bif (decide ((((Xr (cvT aL)).length :Nat):Int)>0)) then (bif (cD == aC) then (bif (Vm (cvT bV) (cvT (Xr (cvT aL)))) then (bif (Kc (cvT bV) (cvT (Xr (cvT aL)))) then (.to (.h4 cG cC aC (Xr (cvT aL)) v4 aX bV cC cD aV bE aL)) else (.to (.h3 aC cG (Xr (cvT aL)) (((Xr (cvT aL)).length :Nat):Int) 0 (Xr (cvT aL)) v4 aX (Xr (cvT aL)) (aX.length:Int) aV bE aL))) else .stuck) else (.to (.h3 aC cG (Xr (cvT aL)) (((Xr (cvT aL)).length :Nat):Int) 0 (Xr (cvT aL)) v4 aX (Xr (cvT aL)) (aX.length:Int) aV bE aL))) else (.to (.h3 aC cG (Xr (cvT aL)) (((Xr (cvT aL)).length :Nat):Int) 0 (Xr (cvT aL)) v4 aX (Xr (cvT aL)) (aX.length:Int) aV bE aL))) else .stuck))
 | .h3 v1 v2 v71 v72 v73 bT aT aD bB bC aV bE aC=>(bif (decide (v73<v72)) then (bif ((decide (0≤v73∧v73<(v71.length:Int)))&&true) then (bif (Nat.beq 4 4&&((decide (0+aD.length=aD.length))&&decide ((aD.length+1+1)*(32+1)≤Uw))) then (.to (.h3 v1 v2 v71 v72 (wrap .i64 (v73+1)) bT aT (aD++[(R4.mk v1 (rd v71 v73.toNat).a v2 (rd v71 v73.toNat).b)]) bB bC aV bE aC)) else .stuck) else .stuck) else (.to (.h1 (wrap .i64 (aT+1)) aD bB bC v2 aV bE)))
 | .h4 v2 v8 cI bT aT aD bB bC bS cE cH aL=>(bif (decide (v8<(aD.length:Int))) then (bif ((decide (0≤v8∧v8<(aD.length:Int)))&&true) then (bif (decide ((0+v8.toNat)<aD.length)) then (.to (.h4 v2 (wrap .i64 (v8+1)) cI bT aT (aD.set (0+v8.toNat) (R4.mk (rd aD (0+v8.toNat)).a (rd aD (0+v8.toNat)).b v2 (rd aD (0+v8.toNat)).d)) bB bC bS cE cH aL)) else .stuck) else .stuck) else (.to (.h1 (wrap .i64 (aT+1)) aD bB bC v2 cE cH)))
def x0z (l0:List R4):Xv madS:=(.to (.h0 0 ([]:List Int)))
theorem w6t (l0:List R4): ∀s,Yt prog (Zy prog 121) (madC l0) (madC l0 s) (Xi l0 s)
 | .h0 v16 aA=>(lb (fun k0=>(lo fun o0=>(lo fun o1=>(sl Kq 32 [] ⟨[0,1,2,3,7],[],madN0,madM0⟩ ⟨[],[.keep,.keep,.cells [.len (y8y aA l0 v16).length],.keep,.rowed 1 (y8y aA l0 v16).length (Zz (y8y aA l0 v16))],[]⟩ [true] (pp (xL (aA.length+2) (y8y aA l0 v16).length) (pp (xL (aA.length+2) (y8y aA l0 v16).length) (pp (xS (aA.length+2) (Ze (Zz aA) 0 aA.length 1 [(ii (rd l0 (tn v16)).a),(ii (rd l0 (tn v16)).c)]) (Zz (y8y aA l0 v16))) (pp (pp (xF (Ze (Zz aA) 0 aA.length 1 [(ii (rd l0 (tn v16)).a),(ii (rd l0 (tn v16)).c)])) nn) (ww o1 (ww o0 (tt k0 nn))))))))))) (fun k0=>(lo fun o0=>(lo fun o1=>(sl Kq 46 [(88,4,Zz ([]:List R4))] ⟨[5,3,2,4,0,1,6],[],j1o,j1p⟩ ⟨[],[.keep,.cells [.grow 6 4,.list 0 (Zz ([]:List R2)),.keep,.keep],.keep,.rowed 1 (y9b aA).length (Zz (y9b aA)),.keep,.keep,.keep],[]⟩ (bl 2 0) (pp (xL aA.length (y9b aA).length (by first | exact z2e _ _ | exact Va rfl)) (pp (xS aA.length (Zz (y9b aA)) (Zz (y9b aA))) (pp (fl (y9b aA) (fl ([]:List R4) nn)) (pp (pp (xG (Nat.beq 1 1)) (pp (xG (Nat.beq 1 1)) (pp (xG (Nat.beq 0 0)) (pp (xG (decide (aA.length=aA.length))) (pp (xG (isI (Zz (Xc (Yu aA.length (cOf (Zz aA))))))) (xG (decide (aA.length<4611686018427387904)))))))) (pp (pp (xG (Nat.beq 1 1)) (pp (xG (Nat.beq 1 1)) (pp (xG (Nat.beq 0 0)) (pp (xG (decide (aA.length=aA.length))) (pp (xG (isI (Zz aA))) (xG (decide (aA.length<4611686018427387904)))))))) (tt k0 nn)))))))))))
 | .h1 v4 aX bV cC cD aV bE=>(lb (fun k0=>(lo fun o0=>(lo fun o1=>(lo fun o2=>(lo fun o3=>(sl Kq 48 [(183,2,Zz ([]:List R2))] ⟨[0,1,2,3,4,5,7,8,9,6],[],u0a,u0c⟩ ⟨[],(kpB 7 [.cells [.grow 8 2],.keep,.keep]),[]⟩ (trs 3 []) (pp (fl bE (fl ([]:List R2) (fl aX nn))) (ww o3 (ww o2 (ww o1 (ww o0 (tt k0 nn)))))))))))) (fun k0=>(lb (fun k1=>(lr 29 3 [1,1,1,1,1,1,1,0] 1 15 [(2,.nils),(3,(ii 4))] (sl Kq 43 [] ⟨[],[],[some [2,3]],[]⟩ ⟨[],[],[]⟩ (bl 2 2) (tt k1 (tt k0 nn))))) (fun k1=>(lr 29 3 [1,1,1,1,1,1,1,0] 1 15 [(2,(.dat aX.length (Zz aX))),(3,(ii 0))] (sl Kq 48 [] ⟨[],[6],[some [2,3]],[]⟩ ⟨[(2,.frz aX.length aX.length (Zz aX) (Zz aX))],[],[]⟩ (bl 2 0) (pp (xZ (z1p 4 4 0 aX.length aX.length (Zz aX)) aX.length (Zz aX)) (pp (xL aX.length aX.length) (pp (xS aX.length (Zz aX) (Zz aX)) (pp (fl aX nn) (tt k1 (tt k0 nn))))))))))))
 | .h2 v4 v38 aX bV cC cD aV bE aC cG aL=>(lb (fun k0=>(lo fun aG=>(lb (fun k1=>(lb (fun k2=>(lo fun o0=>(sl Kq 39 [] ⟨[0,1,2,3,4,5,6,7,12,9],[],u0a,u0c⟩ ⟨[],(kpB 7 [.cells [.len (y9a aL l0 v38).length],.rowed 2 (y9a aL l0 v38).length (Zz (y9a aL l0 v38)),.keep]),[]⟩ (trs 7 []) (pp (xL (aL.length+1) (y9a aL l0 v38).length) (pp (xL (aL.length+1) (y9a aL l0 v38).length) (pp (xS (aL.length+1) (Ze (Zz aL) 0 aL.length 2 [(ii (rd l0 (tn v38)).b),(ii (rd l0 (tn v38)).d)]) (Zz (y9a aL l0 v38))) (pp (fl bE (pp (xF (Ze (Zz aL) 0 aL.length 2 [(ii (rd l0 (tn v38)).b),(ii (rd l0 (tn v38)).d)])) (fl aX nn))) (ww o0 (tt k2 (tt k1 (ww aG (tt k0 nn)))))))))))) (fun k2=>(sl Kq 39 [] ⟨(List.range 10),[],u0a,u0c⟩ ⟨[],[],[]⟩ (trs 6 [false]) (pp (fl bE (fl aL (fl aX nn))) (tt k2 (tt k1 (ww aG (tt k0 nn))))))))) (fun k1=>(sl Kq 39 [] ⟨(List.range 10),[],u0a,u0c⟩ ⟨[],[],[]⟩ (bl 7 1) (pp (fl bE (fl aL (fl aX nn))) (tt k1 (ww aG (tt k0 nn))))))))) (fun k0=>(Xb (sl Kq (C':=⟨⟨29,0,true⟩,(Uv prog 121 [1,1,0,1,0,1,0,0] 4),(Zb prog 121 [1,1,0,1,0,1,0,0] 1),(some 0),[],⟨Yg [(4,(.ptr 1 0)),(5,(.ptr 3 0)),(16,(.dat aL.length (Zz aL)))],y1c [(1,⟨[(.sla 2 4 0 aX.length (.un 4)),(.dat bV.length (Zz bV)),(ii cC),(ii cD)],200,none⟩),(2,⟨Yx aX.length (Zz aX),88,some ⟨4,aX.length,(Zz aX)⟩⟩),(3,⟨[(ii aC),(ii cG),(.sl 4 0 1 (.ex 1))],205,none⟩),(4,⟨[(.dat aL.length (Zz aL))],180,none⟩),(5,⟨[(.sla 6 1 0 aV (.un 1))],93,none⟩),(6,⟨Yx bE.length (Zz bE),3,some ⟨1,bE.length,(Zz bE)⟩⟩),(7,⟨[(.sl 8 0 1 (.un 1))],171,none⟩),(8,⟨[(.dat l0.length (Zz l0))],99,none⟩)],9,[],true⟩,[⟨⟨76,0,true⟩,(Uv prog 182 [1,0,0,1,0,0,1,1,0] 2),(Zb prog 182 [1,0,0,1,0,0,1,1,0] 1),none,[],Yg [(0,(.yld 0)),(1,(.ptr 5 0)),(2,(.ptr 7 0)),(4,(ii v4)),(72,(.yld 0)),(73,(.agg [(ii aC),(ii cG),(.sl 4 0 1 (.ex 1))]))]⟩,⟨⟨29,0,true⟩,none,(.inRangeFunc 0::(Zb prog 121 [1,1,0,1,0] 1)),none,(Zy prog 15),Yg [(2,.nils),(3,(ii 0)),(4,(.ptr 1 0))]⟩],(y7b [(0,⟨.busy,none,29,Yg [(4,(.ptr 1 0))],[11],(Vb prog 121 [1,1,0,1,0,0]),(Vb prog 121 [1,1,0,1,0,1])⟩)])⟩) 37 [] ⟨[0,1,9,10,7,2,3,4,5],[8],[some [4,5,16],some [0,1,2,4,72,73],some [2,3,4]],[some [4],none,none,none,none,none,none,none,none]⟩ ⟨[(16,.frz aL.length aL.length (Zz aL) (Zz aL))],[.keep,.keep,.keep,.keep,.cells [.frz aL.length aL.length (Zz aL) (Zz aL)],.keep,.keep,.keep,.keep],[]⟩ (bl 2 0) (pp (xZ (z1p 2 2 0 aL.length aL.length (Zz aL)) aL.length (Zz aL)) (pp (xL aL.length aL.length) (pp (xS aL.length (Zz aL) (Zz aL)) (pp (xZ (z1p 2 2 0 aL.length aL.length (Zz aL)) aL.length (Zz aL)) (pp (xL aL.length aL.length) (pp (xS aL.length (Zz aL) (Zz aL)) (pp (fl aX (fl bE nn)) (pp (fl aL nn) (tt k0 nn)))))))))) (lo fun aG=>(lb (fun k1=>(lb (fun k2=>(lo fun cF=>(lb (fun k3=>(sl Kq 49 [] ⟨[1,2,0,5,6,7,8,4],[],madN4,madM4⟩ ⟨[],[],[]⟩ (trs 13 []) (pp (fl aX (fl bE nn)) (tt k3 (pp (pp (xr bV) (pp (xI R2 (Xr (cvT aL)).length (Zz (Xr (cvT aL)))) (xw cF))) (tt k2 (tt k1 (pp (pp (xr aL) (xw aG)) nn)))))))) (fun k3=>(sl Kq 69 [] ⟨[1,0,5,6,7,8,4,2],[],v9z,u0b⟩ ⟨[],[],[]⟩ (trs 12 [false]) (pp (fl bE (fl aX nn)) (tt k3 (pp (pp (xr bV) (pp (xI R2 (Xr (cvT aL)).length (Zz (Xr (cvT aL)))) (xw cF))) (tt k2 (tt k1 (pp (pp (xr aL) (xw aG)) nn))))))))))) (fun k2=>(sl Kq 69 [] ⟨[1,0,5,6,7,8,4,2],[],v9z,u0b⟩ ⟨[],[],[]⟩ (trs 6 (bl 7 0)) (pp (fl bE (fl aX nn)) (tt k2 (tt k1 (pp (pp (xr aL) (xw aG)) nn)))))))) (fun k1=>(sl Kq 69 [] ⟨[1,0,5,6,7,8,4,2],[],v9z,u0b⟩ ⟨[],[],[]⟩ (bl 13 0) (pp (fl bE (fl aX nn)) (tt k1 (pp (pp (xr aL) (xw aG)) nn))))))))))
 | .h3 v1 v2 v71 v72 v73 bT aT aD bB bC aV bE aC=>(lb (fun k0=>(lo fun o0=>(lo fun o1=>(sl Kq 23 [] ⟨[0,1,2,3,4,5,6,10],[],v9z,u0b⟩ ⟨[],[.cells [.len (y8z aD v1 v71 v73 v2).length,.keep,.keep,.keep],.keep,.keep,.keep,.keep,.keep,.keep,.rowed 4 (y8z aD v1 v71 v73 v2).length (Zz (y8z aD v1 v71 v73 v2))],[]⟩ [true] (pp (xL (aD.length+1) (y8z aD v1 v71 v73 v2).length) (pp (xL (aD.length+1) (y8z aD v1 v71 v73 v2).length) (pp (xS (aD.length+1) (Ze (Zz aD) 0 aD.length 4 [(ii v1),(ii (rd v71 (tn v73)).a),(ii v2),(ii (rd v71 (tn v73)).b)]) (Zz (y8z aD v1 v71 v73 v2))) (pp (fl bE (pp (xF (Ze (Zz aD) 0 aD.length 4 [(ii v1),(ii (rd v71 (tn v73)).a),(ii v2),(ii (rd v71 (tn v73)).b)])) nn)) (ww o1 (ww o0 (tt k0 nn))))))))))) (fun k0=>(sl Kq 22 [] ⟨[1,0,2,3,4,5,7],[],j1o,j1p⟩ ⟨[],[],[]⟩ (bl 2 0) (pp (fl bE (fl aD nn)) (tt k0 nn)))))
 | .h4 v2 v8 cI bT aT aD bB bC bS cE cH aL=>(lb (fun k0=>(lo fun o0=>(lo fun o1=>(sl Kq 33 [] ⟨(List.range 8),[],madN4,madM4⟩ ⟨[],[.cells [.len (y9c aD v8 v2).length,.keep,.keep,.keep],.rowed 4 (y9c aD v8 v2).length (Zz (y9c aD v8 v2)),.keep,.keep,.keep,.keep,.keep,.keep],[]⟩ [true] (pp (xL aD.length (y9c aD v8 v2).length) (pp (xL aD.length (y9c aD v8 v2).length) (pp (xS aD.length (Xo (Zz aD) (0+(tn v8)) 2 [(ii v2)]) (Zz (y9c aD v8 v2))) (pp (pp (xF (Xo (Zz aD) (0+(tn v8)) 2 [(ii v2)])) (fl cH nn)) (ww o1 (ww o0 (tt k0 nn))))))))))) (fun k0=>(sl Kq 36 [] ⟨[2,0,3,4,5,6,1],[],j1o,j1p⟩ ⟨[],[],[]⟩ (bl 2 0) (pp (fl cH (fl aD nn)) (tt k0 nn)))))
theorem x8u (l0:List R4):Yt prog (Zy prog 121) (madC l0) (Za prog 121 [(.dat l0.length (Zz l0))] true []) (x0z l0):=(sl Kq 56 [(3,1,Zz ([]:List Int))] ⟨[2,1,3,0,4],[],madN0,madM0⟩ ⟨[],[.keep,.keep,.cells [.grow 4 1],.keep,.keep],[]⟩ [true] (pp (fl ([]:List Int) nn) nn))
theorem v9y (l0:List R4) (n:Nat) (vs:List AVal) (h:Zs (Xi l0) n (x0z l0)=.ret vs):Jy prog (Zy prog 121) (Za prog 121 [(.dat l0.length (Zz l0))] true []) vs:=by have:=Zd (w6t l0) n _ (x8u l0);rwa [h] at this
end Go.Am
end
