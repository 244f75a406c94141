/- A part of a proof: several texts in one. -/
import Derived.Test.YtmanggcjimaehaaGreatLc2
import Derived.Sort.AssemblyPlain
import Derived.Lib.BitFns
import Derived.Shelf.GgSortFunc.InsertionK
import Derived.Shelf.Sort.Plain
import Derived.Ground.Names2Prog
import Derived.Shelf.Slices.CompactI
import Derived.Shelf.Slices.SearchI
import Derived.Shelf.Slices.Cells
import Derived.Shelf.Slices.In.SortNone
import Derived.Shelf.SlSortCmp.WholeK
import Derived.Ground.SlsfProg
import Derived.Test.YtmanggcjimaehaaGreatProg
import Derived.Shelf.SlSortCmp.NoneTotal
set_option maxRecDepth 1000000
set_option maxHeartbeats 8000000
set_option linter.unusedVariables false
set_option linter.unusedSimpArgs false
noncomputable section
namespace Go.Am
open Go.Proofs.Tryz
open Go.Proofs
inductive rsortS where
 | h0 (v3:List Int) (v4:Int)
 | h1 (v3:List Int) (v4:Int) (v5:Int)
abbrev Jw (v3:List Int) (v5:Int) (l0:List Int) (v4:Int):=((v0s (v3++[0]) (0+(tn (wr (v5+1)))) (Nat.min ((v3.length+1) - (tn v5)) ((v3.length+1) - (tn (wr (v5+1))))) (z3k (v3++[0]) (0+(tn v5)) ((v3.length+1) - (tn v5)))).set (0+(tn v5)) (rd l0 (tn v4)))
abbrev Ku (v3:List Int):=(Zi (Zz v3) 0 v3.length 1 [(ii 0)])
abbrev y0w (v3:List Int) (v5:Int):=(Nat.min ((v3.length+1) - (tn v5)) ((v3.length+1) - (tn (wr (v5+1)))))
def w6m (l0:List Int):rsortS→Cfg
 | .h0 v3 v4=>⟨⟨63,0,true⟩,none,(Zd prog 70 [1,1,0,1,0,0] 0),none,(Zy prog 3),⟨Yc [(0,(.dat l0.length (Zz l0))),(3,(.sla 0 1 0 v3.length (.un 1))),(4,(ii v4))],Un [⟨rows v3.length (Zz v3),3,some ⟨1,v3.length,(Zz v3)⟩⟩] 0,1,[],true⟩,[],.leaf⟩
 | .h1 v3 v4 v5=>⟨⟨63,0,true⟩,none,(Zd prog 70 [1,1,0,1,0,0,1,0,0,1,0,0,0] 0),none,(Zy prog 3),⟨Yc [(0,(.dat l0.length (Zz l0))),(3,(.sla 0 1 0 v3.length (.un 1))),(4,(ii v4)),(5,(ii v5))],Un [⟨rows v3.length (Zz v3),3,some ⟨1,v3.length,(Zz v3)⟩⟩] 0,1,[],true⟩,[],.leaf⟩
def y8p :List (Option (List Nat)):=[some [0,3,4]]
def y8q :List (Option (List Nat)):=[]
def w6k :List (Option (List Nat)):=[some [0,3,4,5]]
def w6l :List (Option (List Nat)):=[]
def Vc (l0:List Int):rsortS→Xo rsortS
 | .h0 v3 v4=>(bif (decide (v4<(l0.length:Int))) then (.to (.h1 v3 v4 (v3.length:Int))) else (.ret [(.dat v3.length (Zz v3))]))
 | .h1 v3 v4 v5=>(bif (decide (v5>0)) then (bif ((decide (0≤(IntKind.wrap .i64 (v5 - 1))∧(IntKind.wrap .i64 (v5 - 1))<(v3.length:Int)))&&true) then (bif (decide ((0+(Int.toNat (IntKind.wrap .i64 (v5 - 1))))<v3.length)) then (bif ((decide (0≤v4∧v4<(l0.length:Int)))&&true) then (bif (decide ((rd v3 (0+(Int.toNat (IntKind.wrap .i64 (v5 - 1)))))>(rd l0 v4.toNat))) then (.to (.h1 v3 v4 (IntKind.wrap .i64 (v5 - 1)))) else (bif ((rd v3 (0+(Int.toNat (IntKind.wrap .i64 (v5 - 1))))) == (rd l0 v4.toNat)) then (.to (.h0 v3 (IntKind.wrap .i64 (v4+1)))) else (bif (Nat.beq 1 1&&((decide (0+v3.length=v3.length))&&decide ((v3.length+1+1)*(8+1)≤Us))) then (bif (true&&((decide (0≤(IntKind.wrap .i64 (v5+1))))&&(decide ((v3.length+1)≤(v3.length+1))&&decide ((Int.toNat (IntKind.wrap .i64 (v5+1)))≤(v3.length+1))))) then (bif (true&&((decide (0≤v5))&&(decide ((v3.length+1)≤(v3.length+1))&&decide (v5.toNat≤(v3.length+1))))) then (bif (decide ((0+v5.toNat)+((v3.length+1) - v5.toNat)≤(v3.length+1))) then (bif (decide ((0+(Int.toNat (IntKind.wrap .i64 (v5+1))))+((v3.length+1) - (Int.toNat (IntKind.wrap .i64 (v5+1))))≤(v3.length+1))) then (bif ((decide (0≤v5∧v5<(((v3.length+1):Nat):Int)))&&true) then (bif (decide ((0+v5.toNat)<(v3.length+1))) then (.to (.h0 ((v0s (v3++[0]) (0+(Int.toNat (IntKind.wrap .i64 (v5+1)))) (Nat.min ((v3.length+1) - v5.toNat) ((v3.length+1) - (Int.toNat (IntKind.wrap .i64 (v5+1))))) (z3k (v3++[0]) (0+v5.toNat) ((v3.length+1) - v5.toNat))).set (0+v5.toNat) (rd l0 v4.toNat)) (IntKind.wrap .i64 (v4+1)))) else .stuck) else .stuck) else .stuck) else .stuck) else .stuck) else .stuck) else .stuck))) else .stuck) else .stuck) else .stuck) else (bif (Nat.beq 1 1&&((decide (0+v3.length=v3.length))&&decide ((v3.length+1+1)*(8+1)≤Us))) then (bif (true&&((decide (0≤(IntKind.wrap .i64 (v5+1))))&&(decide ((v3.length+1)≤(v3.length+1))&&decide ((Int.toNat (IntKind.wrap .i64 (v5+1)))≤(v3.length+1))))) then (bif (true&&((decide (0≤v5))&&(decide ((v3.length+1)≤(v3.length+1))&&decide (v5.toNat≤(v3.length+1))))) then (bif (decide ((0+v5.toNat)+((v3.length+1) - v5.toNat)≤(v3.length+1))) then (bif (decide ((0+(Int.toNat (IntKind.wrap .i64 (v5+1))))+((v3.length+1) - (Int.toNat (IntKind.wrap .i64 (v5+1))))≤(v3.length+1))) then (bif ((decide (0≤v4∧v4<(l0.length:Int)))&&true) then (bif ((decide (0≤v5∧v5<(((v3.length+1):Nat):Int)))&&true) then (bif (decide ((0+v5.toNat)<(v3.length+1))) then (.to (.h0 ((v0s (v3++[0]) (0+(Int.toNat (IntKind.wrap .i64 (v5+1)))) (Nat.min ((v3.length+1) - v5.toNat) ((v3.length+1) - (Int.toNat (IntKind.wrap .i64 (v5+1))))) (z3k (v3++[0]) (0+v5.toNat) ((v3.length+1) - v5.toNat))).set (0+v5.toNat) (rd l0 v4.toNat)) (IntKind.wrap .i64 (v4+1)))) else .stuck) else .stuck) else .stuck) else .stuck) else .stuck) else .stuck) else .stuck) else .stuck))
def z3z (l0:List Int):Xo rsortS:=(.to (.h0 ([]:List Int) 0))
theorem x1a (l0:List Int): ∀s,Xk prog (Zy prog 70) (w6m l0) (w6m l0 s) (Vc l0 s)
 | .h0 v3 v4=>(lb (fun k0=>(sl Zm 21 [] ⟨[0],[],w6k,w6l⟩ ⟨[],[],[]⟩ [true] (pp (fl v3 nn) (tt k0 nn)))) (fun k0=>(lr 63 3 [1,1,1,1,1,1,1,0] 1 3 [(2,(.dat v3.length (Zz v3)))] (sl Zm 15 [] ⟨[],[0],[some [2]],[]⟩ ⟨[(2,.frz v3.length v3.length (Zz v3) (Zz v3))],[],[]⟩ [false] (pp (xZ (z5p 1 1 0 v3.length v3.length (Zz v3)) v3.length (Zz v3)) (pp (xL v3.length v3.length) (pp (xS v3.length (Zz v3) (Zz v3)) (pp (fl v3 nn) (tt k0 nn)))))))))
 | .h1 v3 v4 v5=>(lb (fun k0=>(lo fun aG=>(lo fun bA=>(lo fun bX=>(lb (fun k1=>(sl Zm 13 [] ⟨[0],[],w6k,w6l⟩ ⟨[],[],[]⟩ (trs 11 []) (pp (fl v3 nn) (tt k1 (ww bX (ww bA (ww aG (tt k0 nn)))))))) (fun k1=>(lb (fun k2=>(sl Zm 16 [] ⟨[0],[],y8p,y8q⟩ ⟨[],[],[]⟩ (trs 10 (bl 12 4094)) (pp (fl v3 nn) (tt k2 (ww bX (ww bA (ww aG (tt k0 (tt k1 (ww bX (ww bA (ww aG (tt k0 nn))))))))))))) (fun k2=>(lo fun o0=>(lo fun o1=>(lo fun o2=>(lo fun o3=>(lo fun o4=>(lo fun o5=>(lo fun o6=>(sl Zm 36 [] ⟨[2],[],y8p,y8q⟩ ⟨[(3,.len (Jw v3 v5 l0 v4).length)],[.rowed 1 (Jw v3 v5 l0 v4).length (Zz (Jw v3 v5 l0 v4))],[]⟩ (trs 10 (bl 12 2046)) (pp (xL (v3.length+1) (Jw v3 v5 l0 v4).length) (pp (xL (v3.length+1) (Jw v3 v5 l0 v4).length) (pp (xS (v3.length+1) (Xe (Ue (Ku v3) (0+(tn (wr (v5+1)))) (y0w v3 v5) (fun k=>(Ku v3) ((0+(tn v5))+k))) (0+(tn v5)) 0 [(ii (rd l0 (tn v4)))]) (Zz (Jw v3 v5 l0 v4))) (pp (pp (xF (Xe (Ue (Ku v3) (0+(tn (wr (v5+1)))) (y0w v3 v5) (fun k=>(Ku v3) ((0+(tn v5))+k))) (0+(tn v5)) 0 [(ii (rd l0 (tn v4)))])) nn) (ww o6 (ww o5 (ww bX (pp (pp (xG (Nat.beq 1 1)) (pp (xG (Nat.beq 1 1)) (pp (xw o4) (pp (xG (Nat.beq 1 1)) (pp (xG (Nat.beq 1 1)) (pp (xG (decide ((0+(tn v5))+((v3.length+1) - (tn v5))≤(v3.length+1)))) (xG (y5l 1 ((v3.length+1) - (tn v5)) (fun k=>(Ku v3) ((0+(tn v5))+k)))))))))) (ww o2 (ww o1 (ww o0 (tt k2 (ww bX (ww bA (ww aG (tt k0 (tt k1 (ww bX (ww bA (ww aG (tt k0 nn))))))))))))))))))))))))))))))))))))) (fun k0=>(lo fun o0=>(lo fun o1=>(lo fun o2=>(lo fun o3=>(lo fun o4=>(lo fun o5=>(lo fun o6=>(lo fun o7=>(sl Zm 36 [] ⟨[2],[],y8p,y8q⟩ ⟨[(3,.len (Jw v3 v5 l0 v4).length)],[.rowed 1 (Jw v3 v5 l0 v4).length (Zz (Jw v3 v5 l0 v4))],[]⟩ (bl 22 0) (pp (xL (v3.length+1) (Jw v3 v5 l0 v4).length) (pp (xL (v3.length+1) (Jw v3 v5 l0 v4).length) (pp (xS (v3.length+1) (Xe (Ue (Ku v3) (0+(tn (wr (v5+1)))) (y0w v3 v5) (fun k=>(Ku v3) ((0+(tn v5))+k))) (0+(tn v5)) 0 [(ii (rd l0 (tn v4)))]) (Zz (Jw v3 v5 l0 v4))) (pp (pp (xF (Xe (Ue (Ku v3) (0+(tn (wr (v5+1)))) (y0w v3 v5) (fun k=>(Ku v3) ((0+(tn v5))+k))) (0+(tn v5)) 0 [(ii (rd l0 (tn v4)))])) nn) (ww o7 (ww o6 (ww o5 (pp (pp (xG (Nat.beq 1 1)) (pp (xG (Nat.beq 1 1)) (pp (xw o4) (pp (xG (Nat.beq 1 1)) (pp (xG (Nat.beq 1 1)) (pp (xG (decide ((0+(tn v5))+((v3.length+1) - (tn v5))≤(v3.length+1)))) (xG (y5l 1 ((v3.length+1) - (tn v5)) (fun k=>(Ku v3) ((0+(tn v5))+k)))))))))) (ww o2 (ww o1 (ww o0 (tt k0 (tt k0 nn))))))))))))))))))))))))
theorem y8o (l0:List Int):Xk prog (Zy prog 70) (w6m l0) (Ze prog 70 [(.dat l0.length (Zz l0))] true []) (z3z l0):=(sl Zm 15 [(3,1,Zz ([]:List Int))] ⟨[0],[],y8p,y8q⟩ ⟨[(3,.grow 0 1)],[],[]⟩ [] (pp (fl ([]:List Int) nn) nn))
theorem w2f (l0:List Int) (n:Nat) (vs:List AVal) (h:Yk (Vc l0) n (z3z l0)=.ret vs):Kv prog (Zy prog 70) (Ze prog 70 [(.dat l0.length (Zz l0))] true []) vs:=by have:=Zr (x1a l0) n _ (y8o l0);rwa [h] at this
inductive rcanS where
 | h0 (v5:List R2) (v6:Int)
def u3m (l0:List Int) (l1:List Bool):rcanS→Cfg
 | .h0 v5 v6=>⟨⟨61,0,true⟩,none,(Zd prog 142 [1,1,0,1,0,0] 0),none,(Zy prog 5),⟨Yc [(0,(.dat l0.length (Zz l0))),(1,(.dat l1.length (Zz l1))),(5,(.sla 0 2 0 v5.length (.un 2))),(6,(ii v6))],Un [⟨rows v5.length (Zz v5),183,some ⟨2,v5.length,(Zz v5)⟩⟩] 0,1,[],true⟩,[],.leaf⟩
def x1n :List (Option (List Nat)):=[some [0,1,5,6]]
def x1o :List (Option (List Nat)):=[]
def Kt (l0:List Int) (l1:List Bool):rcanS→Xo rcanS
 | .h0 v5 v6=>(bif (decide ((IntKind.wrap .i64 (v6+1))<(l0.length:Int))) then (bif ((decide (0≤v6∧v6<(l1.length:Int)))&&true) then (bif (!(rd l1 v6.toNat)) then (.to (.h0 v5 (IntKind.wrap .i64 (v6+1)))) else (bif (decide ((v5.length:Int)>0)) then (bif ((decide (0≤(IntKind.wrap .i64 ((v5.length:Int) - 1))∧(IntKind.wrap .i64 ((v5.length:Int) - 1))<(v5.length:Int)))&&true) then (bif (decide ((0+(Int.toNat (IntKind.wrap .i64 ((v5.length:Int) - 1))))<v5.length)) then (bif ((decide (0≤v6∧v6<(l0.length:Int)))&&true) then (bif ((rd v5 (0+(Int.toNat (IntKind.wrap .i64 ((v5.length:Int) - 1))))).b == (rd l0 v6.toNat)) then (bif ((decide (0≤(IntKind.wrap .i64 (v6+1))∧(IntKind.wrap .i64 (v6+1))<(l0.length:Int)))&&true) then (.to (.h0 (v5.set (0+(Int.toNat (IntKind.wrap .i64 ((v5.length:Int) - 1)))) (R2.mk (rd v5 (0+(Int.toNat (IntKind.wrap .i64 ((v5.length:Int) - 1))))).a (rd l0 (Int.toNat (IntKind.wrap .i64 (v6+1)))))) (IntKind.wrap .i64 (v6+1)))) else .stuck) else (bif ((decide (0≤(IntKind.wrap .i64 (v6+1))∧(IntKind.wrap .i64 (v6+1))<(l0.length:Int)))&&true) then (bif (Nat.beq 2 2&&((decide (0+v5.length=v5.length))&&decide ((v5.length+1+1)*(16+1)≤Us))) then (.to (.h0 (v5++[(R2.mk (rd l0 v6.toNat) (rd l0 (Int.toNat (IntKind.wrap .i64 (v6+1)))))]) (IntKind.wrap .i64 (v6+1)))) else .stuck) else .stuck)) else .stuck) else .stuck) else .stuck) else (bif ((decide (0≤v6∧v6<(l0.length:Int)))&&true) then (bif ((decide (0≤(IntKind.wrap .i64 (v6+1))∧(IntKind.wrap .i64 (v6+1))<(l0.length:Int)))&&true) then (bif (Nat.beq 2 2&&((decide (0+v5.length=v5.length))&&decide ((v5.length+1+1)*(16+1)≤Us))) then (.to (.h0 (v5++[(R2.mk (rd l0 v6.toNat) (rd l0 (Int.toNat (IntKind.wrap .i64 (v6+1)))))]) (IntKind.wrap .i64 (v6+1)))) else .stuck) else .stuck) else .stuck))) else .stuck) else (.ret [(.dat v5.length (Zz v5))]))
def z6q (l0:List Int) (l1:List Bool):Xo rcanS:=(.to (.h0 ([]:List R2) 0))
theorem x5j (l0:List Int) (l1:List Bool): ∀s,Xk prog (Zy prog 142) (u3m l0 l1) (u3m l0 l1 s) (Kt l0 l1 s)
 | .h0 v5 v6=>(lb (fun k0=>(lo fun aG=>(lb (fun k1=>(sl Zm 30 [] ⟨[0],[],x1n,x1o⟩ ⟨[],[],[]⟩ (bl 2 3) (pp (fl v5 nn) (tt k1 (ww aG (tt k0 nn)))))) (fun k1=>(lb (fun k2=>(lo fun cG=>(lo fun cQ=>(lo fun cR=>(lb (fun k3=>(lo fun o0=>(sl Zm 53 [] ⟨[0],[],x1n,x1o⟩ ⟨[(5,.len (v5.set (0+(tn (wr ((v5.length:Int) - 1)))) (R2.mk (rd v5 (0+(tn (wr ((v5.length:Int) - 1))))).a (rd l0 (tn (wr (v6+1)))))).length)],[.rowed 2 (v5.set (0+(tn (wr ((v5.length:Int) - 1)))) (R2.mk (rd v5 (0+(tn (wr ((v5.length:Int) - 1))))).a (rd l0 (tn (wr (v6+1)))))).length (Zz (v5.set (0+(tn (wr ((v5.length:Int) - 1)))) (R2.mk (rd v5 (0+(tn (wr ((v5.length:Int) - 1))))).a (rd l0 (tn (wr (v6+1)))))))],[]⟩ (bl 14 16381) (pp (xL v5.length (v5.set (0+(tn (wr ((v5.length:Int) - 1)))) (R2.mk (rd v5 (0+(tn (wr ((v5.length:Int) - 1))))).a (rd l0 (tn (wr (v6+1)))))).length) (pp (xL v5.length (v5.set (0+(tn (wr ((v5.length:Int) - 1)))) (R2.mk (rd v5 (0+(tn (wr ((v5.length:Int) - 1))))).a (rd l0 (tn (wr (v6+1)))))).length) (pp (xS v5.length (Xe (Zz v5) (0+(tn (wr ((v5.length:Int) - 1)))) 1 [(ii (rd l0 (tn (wr (v6+1)))))]) (Zz (v5.set (0+(tn (wr ((v5.length:Int) - 1)))) (R2.mk (rd v5 (0+(tn (wr ((v5.length:Int) - 1))))).a (rd l0 (tn (wr (v6+1)))))))) (pp (pp (xF (Xe (Zz v5) (0+(tn (wr ((v5.length:Int) - 1)))) 1 [(ii (rd l0 (tn (wr (v6+1)))))])) nn) (ww cQ (ww cG (ww o0 (tt k3 (ww cR (ww cQ (ww cG (tt k2 (tt k1 (ww aG (tt k0 nn)))))))))))))))))) (fun k3=>(lo fun o0=>(lo fun o1=>(sl Zm 41 [] ⟨[2],[],x1n,x1o⟩ ⟨[(5,.len (v5++[(R2.mk (rd l0 (tn v6)) (rd l0 (tn (wr (v6+1)))))]).length)],[.rowed 2 (v5++[(R2.mk (rd l0 (tn v6)) (rd l0 (tn (wr (v6+1)))))]).length (Zz (v5++[(R2.mk (rd l0 (tn v6)) (rd l0 (tn (wr (v6+1)))))]))],[]⟩ (bl 14 8189) (pp (xL (v5.length+1) (v5++[(R2.mk (rd l0 (tn v6)) (rd l0 (tn (wr (v6+1)))))]).length) (pp (xL (v5.length+1) (v5++[(R2.mk (rd l0 (tn v6)) (rd l0 (tn (wr (v6+1)))))]).length) (pp (xS (v5.length+1) (Zi (Zz v5) 0 v5.length 2 [(ii (rd l0 (tn v6))),(ii (rd l0 (tn (wr (v6+1)))))]) (Zz (v5++[(R2.mk (rd l0 (tn v6)) (rd l0 (tn (wr (v6+1)))))]))) (pp (pp (xF (Zi (Zz v5) 0 v5.length 2 [(ii (rd l0 (tn v6))),(ii (rd l0 (tn (wr (v6+1)))))])) nn) (ww o1 (ww o0 (ww cR (tt k3 (ww cR (ww cQ (ww cG (tt k2 (tt k1 (ww aG (tt k0 nn)))))))))))))))))))))))) (fun k2=>(lo fun o0=>(lo fun o1=>(lo fun o2=>(sl Zm 41 [] ⟨[2],[],x1n,x1o⟩ ⟨[(5,.len (v5++[(R2.mk (rd l0 (tn v6)) (rd l0 (tn (wr (v6+1)))))]).length)],[.rowed 2 (v5++[(R2.mk (rd l0 (tn v6)) (rd l0 (tn (wr (v6+1)))))]).length (Zz (v5++[(R2.mk (rd l0 (tn v6)) (rd l0 (tn (wr (v6+1)))))]))],[]⟩ (bl 14 1) (pp (xL (v5.length+1) (v5++[(R2.mk (rd l0 (tn v6)) (rd l0 (tn (wr (v6+1)))))]).length) (pp (xL (v5.length+1) (v5++[(R2.mk (rd l0 (tn v6)) (rd l0 (tn (wr (v6+1)))))]).length) (pp (xS (v5.length+1) (Zi (Zz v5) 0 v5.length 2 [(ii (rd l0 (tn v6))),(ii (rd l0 (tn (wr (v6+1)))))]) (Zz (v5++[(R2.mk (rd l0 (tn v6)) (rd l0 (tn (wr (v6+1)))))]))) (pp (pp (xF (Zi (Zz v5) 0 v5.length 2 [(ii (rd l0 (tn v6))),(ii (rd l0 (tn (wr (v6+1)))))])) nn) (ww o2 (ww o1 (ww o0 (tt k2 (tt k1 (ww aG (tt k0 nn))))))))))))))))))))) (fun k0=>(lr 61 3 [1,1,1,1,1,1,1,0] 1 5 [(4,(.dat v5.length (Zz v5)))] (sl Zm 16 [] ⟨[],[0],[some [4]],[]⟩ ⟨[(4,.frz v5.length v5.length (Zz v5) (Zz v5))],[],[]⟩ [false] (pp (xZ (z5p 2 2 0 v5.length v5.length (Zz v5)) v5.length (Zz v5)) (pp (xL v5.length v5.length) (pp (xS v5.length (Zz v5) (Zz v5)) (pp (fl v5 nn) (tt k0 nn)))))))))
theorem x1m (l0:List Int) (l1:List Bool):Xk prog (Zy prog 142) (u3m l0 l1) (Ze prog 142 [(.dat l0.length (Zz l0)),(.dat l1.length (Zz l1))] true []) (z6q l0 l1):=(sl Zm 15 [(183,2,Zz ([]:List R2))] ⟨[0],[],x1n,x1o⟩ ⟨[(5,.grow 0 2)],[],[]⟩ [] (pp (fl ([]:List R2) nn) nn))
theorem w7m (l0:List Int) (l1:List Bool) (n:Nat) (vs:List AVal) (h:Yk (Kt l0 l1) n (z6q l0 l1)=.ret vs):Kv prog (Zy prog 142) (Ze prog 142 [(.dat l0.length (Zz l0)),(.dat l1.length (Zz l1))] true []) vs:=by have:=Zr (x5j l0 l1) n _ (x1m l0 l1);rwa [h] at this
inductive rsmS where
 | h0 (v5:Int)
def rsmC (l0:List R2) (l1:List R2):rsmS→Cfg
 | .h0 v5=>⟨⟨26,0,true⟩,none,(Zd prog 169 [1,1,0,1,0,0] 0),none,(Zy prog 5),⟨Yc [(0,(.dat l0.length (Zz l0))),(1,(.dat l1.length (Zz l1))),(5,(ii v5))],Un [] 0,0,[],true⟩,[],.leaf⟩
def rsmN0 :List (Option (List Nat)):=[some [0,1,5]]
def rsmM0 :List (Option (List Nat)):=[]
def z5c (l0:List R2) (l1:List R2):rsmS→Xo rsmS
 | .h0 v5=>(bif (decide (v5<(l0.length:Int))) then (bif ((decide (0≤v5∧v5<(l0.length:Int)))&&true) then (bif ((decide (0≤v5∧v5<(l1.length:Int)))&&true) then (bif (!(((rd l0 v5.toNat).a == (rd l1 v5.toNat).a)&&(((rd l0 v5.toNat).b == (rd l1 v5.toNat).b)&&true))) then (.ret [(.bool false)]) else (.to (.h0 (IntKind.wrap .i64 (v5+1))))) else .stuck) else .stuck) else (.ret [(.bool true)]))
def z6f (l0:List R2) (l1:List R2):Xo rsmS:=(bif ((l0.length:Int) != (l1.length:Int)) then (.ret [(.bool false)]) else (.to (.h0 0)))
theorem w2g (l0:List R2) (l1:List R2): ∀s,Xk prog (Zy prog 169) (rsmC l0 l1) (rsmC l0 l1 s) (z5c l0 l1 s)
 | .h0 v5=>(lb (fun k0=>(lo fun aG=>(lo fun bA=>(lb (fun k1=>(lr 26 169 [1,1,0,1,0,0,1,0,0,1,0,0] 1 5 [(4,(.bool false))] (sl Zm 19 [] ⟨[],[],[some [4]],[]⟩ ⟨[],[],[]⟩ (bl 2 3) (tt k1 (ww bA (ww aG (tt k0 nn))))))) (fun k1=>(sl Zm 23 [] ⟨[],[],rsmN0,rsmM0⟩ ⟨[],[],[]⟩ (bl 2 1) (tt k1 (ww bA (ww aG (tt k0 nn)))))))))) (fun k0=>(lr 26 3 [1,1,1,1,1,1,1,0] 1 5 [(4,(.bool true))] (sl Zm 14 [] ⟨[],[],[some [4]],[]⟩ ⟨[],[],[]⟩ [false] (tt k0 nn)))))
theorem x4r (l0:List R2) (l1:List R2):Xk prog (Zy prog 169) (rsmC l0 l1) (Ze prog 169 [(.dat l0.length (Zz l0)),(.dat l1.length (Zz l1))] true []) (z6f l0 l1):=(lb (fun k0=>(lr 26 169 [1,0,1,0,0] 1 5 [(4,(.bool false))] (sl Zm 18 [] ⟨[],[],[some [4]],[]⟩ ⟨[],[],[]⟩ [true] (tt k0 nn)))) (fun k0=>(sl Zm 22 [] ⟨[],[],rsmN0,rsmM0⟩ ⟨[],[],[]⟩ [false] (tt k0 nn))))
theorem v2w (l0:List R2) (l1:List R2) (n:Nat) (vs:List AVal) (h:Yk (z5c l0 l1) n (z6f l0 l1)=.ret vs):Kv prog (Zy prog 169) (Ze prog 169 [(.dat l0.length (Zz l0)),(.dat l1.length (Zz l1))] true []) vs:=by have:=Zr (w2g l0 l1) n _ (x4r l0 l1);rwa [h] at this
inductive rhasS where
 | h0 (v7:Int)
def u3d (l0:List R4) (x1:Int) (x2:Int):rhasS→Cfg
 | .h0 v7=>⟨⟨48,0,true⟩,none,(Zd prog 168 [1,0,1,0,0] 0),none,(Zy prog 8),⟨Yc [(0,(.dat l0.length (Zz l0))),(1,(ii x1)),(2,(ii x2)),(7,(ii v7))],Un [] 0,0,[],true⟩,[],.leaf⟩
def x1d :List (Option (List Nat)):=[some [0,1,2,7]]
def x1e :List (Option (List Nat)):=[]
def z4c (l0:List R4) (x1:Int) (x2:Int):rhasS→Xo rhasS
 | .h0 v7=>(bif (decide (v7<(l0.length:Int))) then (bif ((decide (0≤v7∧v7<(l0.length:Int)))&&true) then (bif (decide ((rd l0 v7.toNat).a ≤x1)) then (bif (decide (x1<(rd l0 v7.toNat).c)) then (bif (decide ((rd l0 v7.toNat).b ≤x2)) then (bif (decide (x2<(rd l0 v7.toNat).d)) then (.ret [(.bool true)]) else (.to (.h0 (IntKind.wrap .i64 (v7+1))))) else (.to (.h0 (IntKind.wrap .i64 (v7+1))))) else (.to (.h0 (IntKind.wrap .i64 (v7+1))))) else (.to (.h0 (IntKind.wrap .i64 (v7+1))))) else .stuck) else (.ret [(.bool false)]))
def z6j (l0:List R4) (x1:Int) (x2:Int):Xo rhasS:=(.to (.h0 0))
theorem x4z (l0:List R4) (x1:Int) (x2:Int): ∀s,Xk prog (Zy prog 168) (u3d l0 x1 x2) (u3d l0 x1 x2 s) (z4c l0 x1 x2 s)
 | .h0 v7=>(lb (fun k0=>(lo fun aG=>(lb (fun k1=>(lb (fun k2=>(lb (fun k3=>(lb (fun k4=>(lr 48 168 [1,0,1,0,0,1,0,0,1,0,0] 1 8 [(6,(.bool true))] (sl Zm 54 [] ⟨[],[],[some [6]],[]⟩ ⟨[],[],[]⟩ (trs 23 []) (tt k4 (ww aG (tt k3 (ww aG (tt k2 (ww aG (tt k1 (ww aG (tt k0 nn)))))))))))) (fun k4=>(sl Zm 58 [] ⟨[],[],x1d,x1e⟩ ⟨[],[],[]⟩ (trs 22 [false]) (tt k4 (ww aG (tt k3 (ww aG (tt k2 (ww aG (tt k1 (ww aG (tt k0 nn))))))))))))) (fun k3=>(sl Zm 58 [] ⟨[],[],x1d,x1e⟩ ⟨[],[],[]⟩ (trs 15 (bl 8 0)) (tt k3 (ww aG (tt k2 (ww aG (tt k1 (ww aG (tt k0 nn))))))))))) (fun k2=>(sl Zm 58 [] ⟨[],[],x1d,x1e⟩ ⟨[],[],[]⟩ (trs 8 (bl 15 0)) (tt k2 (ww aG (tt k1 (ww aG (tt k0 nn))))))))) (fun k1=>(sl Zm 58 [] ⟨[],[],x1d,x1e⟩ ⟨[],[],[]⟩ (bl 23 1) (tt k1 (ww aG (tt k0 nn)))))))) (fun k0=>(lr 48 3 [1,1,1,1,1,1,1,0] 1 8 [(6,(.bool false))] (sl Zm 14 [] ⟨[],[],[some [6]],[]⟩ ⟨[],[],[]⟩ [false] (tt k0 nn)))))
theorem x1c (l0:List R4) (x1:Int) (x2:Int):Xk prog (Zy prog 168) (u3d l0 x1 x2) (Ze prog 168 [(.dat l0.length (Zz l0)),(.int .i64 x1),(.int .i64 x2)] true []) (z6j l0 x1 x2):=(sl Zm 11 [] ⟨[],[],x1d,x1e⟩ ⟨[],[],[]⟩ [] nn)
theorem w6w (l0:List R4) (x1:Int) (x2:Int) (n:Nat) (vs:List AVal) (h:Yk (z4c l0 x1 x2) n (z6j l0 x1 x2)=.ret vs):Kv prog (Zy prog 168) (Ze prog 168 [(.dat l0.length (Zz l0)),(.int .i64 x1),(.int .i64 x2)] true []) vs:=by have:=Zr (x4z l0 x1 x2) n _ (x1c l0 x1 x2);rwa [h] at this
inductive rsrS where
 | h0 (v5:Int)
def rsrC (l0:List R4) (l1:List R4):rsrS→Cfg
 | .h0 v5=>⟨⟨26,0,true⟩,none,(Zd prog 128 [1,1,0,1,0,0] 0),none,(Zy prog 5),⟨Yc [(0,(.dat l0.length (Zz l0))),(1,(.dat l1.length (Zz l1))),(5,(ii v5))],Un [] 0,0,[],true⟩,[],.leaf⟩
def rsrN0 :List (Option (List Nat)):=[some [0,1,5]]
def rsrM0 :List (Option (List Nat)):=[]
def z5b (l0:List R4) (l1:List R4):rsrS→Xo rsrS
 | .h0 v5=>(bif (decide (v5<(l0.length:Int))) then (bif ((decide (0≤v5∧v5<(l0.length:Int)))&&true) then (bif ((decide (0≤v5∧v5<(l1.length:Int)))&&true) then (bif (!(((rd l0 v5.toNat).a == (rd l1 v5.toNat).a)&&(((rd l0 v5.toNat).b == (rd l1 v5.toNat).b)&&(((rd l0 v5.toNat).c == (rd l1 v5.toNat).c)&&(((rd l0 v5.toNat).d == (rd l1 v5.toNat).d)&&true))))) then (.ret [(.bool false)]) else (.to (.h0 (IntKind.wrap .i64 (v5+1))))) else .stuck) else .stuck) else (.ret [(.bool true)]))
def z6e (l0:List R4) (l1:List R4):Xo rsrS:=(bif ((l0.length:Int) != (l1.length:Int)) then (.ret [(.bool false)]) else (.to (.h0 0)))
theorem w2e (l0:List R4) (l1:List R4): ∀s,Xk prog (Zy prog 128) (rsrC l0 l1) (rsrC l0 l1 s) (z5b l0 l1 s)
 | .h0 v5=>(lb (fun k0=>(lo fun aG=>(lo fun bA=>(lb (fun k1=>(lr 26 128 [1,1,0,1,0,0,1,0,0,1,0,0] 1 5 [(4,(.bool false))] (sl Zm 19 [] ⟨[],[],[some [4]],[]⟩ ⟨[],[],[]⟩ (bl 2 3) (tt k1 (ww bA (ww aG (tt k0 nn))))))) (fun k1=>(sl Zm 23 [] ⟨[],[],rsrN0,rsrM0⟩ ⟨[],[],[]⟩ (bl 2 1) (tt k1 (ww bA (ww aG (tt k0 nn)))))))))) (fun k0=>(lr 26 3 [1,1,1,1,1,1,1,0] 1 5 [(4,(.bool true))] (sl Zm 14 [] ⟨[],[],[some [4]],[]⟩ ⟨[],[],[]⟩ [false] (tt k0 nn)))))
theorem x4q (l0:List R4) (l1:List R4):Xk prog (Zy prog 128) (rsrC l0 l1) (Ze prog 128 [(.dat l0.length (Zz l0)),(.dat l1.length (Zz l1))] true []) (z6e l0 l1):=(lb (fun k0=>(lr 26 128 [1,0,1,0,0] 1 5 [(4,(.bool false))] (sl Zm 18 [] ⟨[],[],[some [4]],[]⟩ ⟨[],[],[]⟩ [true] (tt k0 nn)))) (fun k0=>(sl Zm 22 [] ⟨[],[],rsrN0,rsrM0⟩ ⟨[],[],[]⟩ [false] (tt k0 nn))))
theorem v2v (l0:List R4) (l1:List R4) (n:Nat) (vs:List AVal) (h:Yk (z5b l0 l1) n (z6e l0 l1)=.ret vs):Kv prog (Zy prog 128) (Ze prog 128 [(.dat l0.length (Zz l0)),(.dat l1.length (Zz l1))] true []) vs:=by have:=Zr (w2e l0 l1) n _ (x4q l0 l1);rwa [h] at this
inductive rsbS where
 | h0 (v5:Int)
def rsbC (l0:List R6) (l1:List R6):rsbS→Cfg
 | .h0 v5=>⟨⟨26,0,true⟩,none,(Zd prog 20 [1,1,0,1,0,0] 0),none,(Zy prog 5),⟨Yc [(0,(.dat l0.length (Zz l0))),(1,(.dat l1.length (Zz l1))),(5,(ii v5))],Un [] 0,0,[],true⟩,[],.leaf⟩
def rsbN0 :List (Option (List Nat)):=[some [0,1,5]]
def rsbM0 :List (Option (List Nat)):=[]
def z5d (l0:List R6) (l1:List R6):rsbS→Xo rsbS
 | .h0 v5=>(bif (decide (v5<(l0.length:Int))) then (bif ((decide (0≤v5∧v5<(l0.length:Int)))&&true) then (bif ((decide (0≤v5∧v5<(l1.length:Int)))&&true) then (bif (!((((rd l0 v5.toNat).a == (rd l1 v5.toNat).a)&&(((rd l0 v5.toNat).b == (rd l1 v5.toNat).b)&&(((rd l0 v5.toNat).c == (rd l1 v5.toNat).c)&&true)))&&((((rd l0 v5.toNat).d == (rd l1 v5.toNat).d)&&(((rd l0 v5.toNat).e == (rd l1 v5.toNat).e)&&(((rd l0 v5.toNat).f == (rd l1 v5.toNat).f)&&true)))&&true))) then (.ret [(.bool false)]) else (.to (.h0 (IntKind.wrap .i64 (v5+1))))) else .stuck) else .stuck) else (.ret [(.bool true)]))
def z6g (l0:List R6) (l1:List R6):Xo rsbS:=(bif ((l0.length:Int) != (l1.length:Int)) then (.ret [(.bool false)]) else (.to (.h0 0)))
theorem w2h (l0:List R6) (l1:List R6): ∀s,Xk prog (Zy prog 20) (rsbC l0 l1) (rsbC l0 l1 s) (z5d l0 l1 s)
 | .h0 v5=>(lb (fun k0=>(lo fun aG=>(lo fun bA=>(lb (fun k1=>(lr 26 20 [1,1,0,1,0,0,1,0,0,1,0,0] 1 5 [(4,(.bool false))] (sl Zm 19 [] ⟨[],[],[some [4]],[]⟩ ⟨[],[],[]⟩ (bl 2 3) (tt k1 (ww bA (ww aG (tt k0 nn))))))) (fun k1=>(sl Zm 23 [] ⟨[],[],rsbN0,rsbM0⟩ ⟨[],[],[]⟩ (bl 2 1) (tt k1 (ww bA (ww aG (tt k0 nn)))))))))) (fun k0=>(lr 26 3 [1,1,1,1,1,1,1,0] 1 5 [(4,(.bool true))] (sl Zm 14 [] ⟨[],[],[some [4]],[]⟩ ⟨[],[],[]⟩ [false] (tt k0 nn)))))
theorem x4s (l0:List R6) (l1:List R6):Xk prog (Zy prog 20) (rsbC l0 l1) (Ze prog 20 [(.dat l0.length (Zz l0)),(.dat l1.length (Zz l1))] true []) (z6g l0 l1):=(lb (fun k0=>(lr 26 20 [1,0,1,0,0] 1 5 [(4,(.bool false))] (sl Zm 18 [] ⟨[],[],[some [4]],[]⟩ ⟨[],[],[]⟩ [true] (tt k0 nn)))) (fun k0=>(sl Zm 22 [] ⟨[],[],rsbN0,rsbM0⟩ ⟨[],[],[]⟩ [false] (tt k0 nn))))
theorem v2x (l0:List R6) (l1:List R6) (n:Nat) (vs:List AVal) (h:Yk (z5d l0 l1) n (z6g l0 l1)=.ret vs):Kv prog (Zy prog 20) (Ze prog 20 [(.dat l0.length (Zz l0)),(.dat l1.length (Zz l1))] true []) vs:=by have:=Zr (w2h l0 l1) n _ (x4s l0 l1);rwa [h] at this
inductive ratS where
 | h0 (v5:List R4) (v6:Int)
def ratC (l0:List R6) (x1:Int):ratS→Cfg
 | .h0 v5 v6=>⟨⟨60,0,true⟩,none,(Zd prog 127 [1,1,0,1,0,0] 0),none,(Zy prog 5),⟨Yc [(0,(.dat l0.length (Zz l0))),(1,(ii x1)),(5,(.sla 0 4 0 v5.length (.un 4))),(6,(ii v6))],Un [⟨rows v5.length (Zz v5),88,some ⟨4,v5.length,(Zz v5)⟩⟩] 0,1,[],true⟩,[],.leaf⟩
def v3v :List (Option (List Nat)):=[some [0,1,5,6]]
def v3w :List (Option (List Nat)):=[]
def z5f (l0:List R6) (x1:Int):ratS→Xo ratS
 | .h0 v5 v6=>(bif (decide (v6<(l0.length:Int))) then (bif ((decide (0≤v6∧v6<(l0.length:Int)))&&true) then (bif (decide ((rd l0 v6.toNat).c ≤x1)) then (bif (decide (x1<(rd l0 v6.toNat).f)) then (bif (Nat.beq 4 4&&((decide (0+v5.length=v5.length))&&decide ((v5.length+1+1)*(32+1)≤Us))) then (.to (.h0 (v5++[(R4.mk (rd l0 v6.toNat).a (rd l0 v6.toNat).b (rd l0 v6.toNat).d (rd l0 v6.toNat).e)]) (IntKind.wrap .i64 (v6+1)))) else .stuck) else (.to (.h0 v5 (IntKind.wrap .i64 (v6+1))))) else (.to (.h0 v5 (IntKind.wrap .i64 (v6+1))))) else .stuck) else (.ret [(.dat v5.length (Zz v5))]))
def y1c (l0:List R6) (x1:Int):Xo ratS:=(.to (.h0 ([]:List R4) 0))
theorem w2q (l0:List R6) (x1:Int): ∀s,Xk prog (Zy prog 127) (ratC l0 x1) (ratC l0 x1 s) (z5f l0 x1 s)
 | .h0 v5 v6=>(lb (fun k0=>(lo fun aG=>(lb (fun k1=>(lb (fun k2=>(lo fun o0=>(sl Zm 42 [] ⟨[2],[],v3v,v3w⟩ ⟨[(5,.len (v5++[(R4.mk (rd l0 (tn v6)).a (rd l0 (tn v6)).b (rd l0 (tn v6)).d (rd l0 (tn v6)).e)]).length)],[.rowed 4 (v5++[(R4.mk (rd l0 (tn v6)).a (rd l0 (tn v6)).b (rd l0 (tn v6)).d (rd l0 (tn v6)).e)]).length (Zz (v5++[(R4.mk (rd l0 (tn v6)).a (rd l0 (tn v6)).b (rd l0 (tn v6)).d (rd l0 (tn v6)).e)]))],[]⟩ (trs 10 []) (pp (xL (v5.length+1) (v5++[(R4.mk (rd l0 (tn v6)).a (rd l0 (tn v6)).b (rd l0 (tn v6)).d (rd l0 (tn v6)).e)]).length) (pp (xL (v5.length+1) (v5++[(R4.mk (rd l0 (tn v6)).a (rd l0 (tn v6)).b (rd l0 (tn v6)).d (rd l0 (tn v6)).e)]).length) (pp (xS (v5.length+1) (Zi (Zz v5) 0 v5.length 4 [(ii (rd l0 (tn v6)).a),(ii (rd l0 (tn v6)).b),(ii (rd l0 (tn v6)).d),(ii (rd l0 (tn v6)).e)]) (Zz (v5++[(R4.mk (rd l0 (tn v6)).a (rd l0 (tn v6)).b (rd l0 (tn v6)).d (rd l0 (tn v6)).e)]))) (pp (pp (xF (Zi (Zz v5) 0 v5.length 4 [(ii (rd l0 (tn v6)).a),(ii (rd l0 (tn v6)).b),(ii (rd l0 (tn v6)).d),(ii (rd l0 (tn v6)).e)])) nn) (ww o0 (ww aG (ww aG (ww aG (ww aG (tt k2 (ww aG (tt k1 (ww aG (tt k0 nn))))))))))))))))) (fun k2=>(sl Zm 42 [] ⟨[0],[],v3v,v3w⟩ ⟨[],[],[]⟩ (trs 9 [false]) (pp (fl v5 nn) (tt k2 (ww aG (tt k1 (ww aG (tt k0 nn)))))))))) (fun k1=>(sl Zm 42 [] ⟨[0],[],v3v,v3w⟩ ⟨[],[],[]⟩ (bl 10 1) (pp (fl v5 nn) (tt k1 (ww aG (tt k0 nn))))))))) (fun k0=>(lr 60 3 [1,1,1,1,1,1,1,0] 1 5 [(4,(.dat v5.length (Zz v5)))] (sl Zm 15 [] ⟨[],[0],[some [4]],[]⟩ ⟨[(4,.frz v5.length v5.length (Zz v5) (Zz v5))],[],[]⟩ [false] (pp (xZ (z5p 4 4 0 v5.length v5.length (Zz v5)) v5.length (Zz v5)) (pp (xL v5.length v5.length) (pp (xS v5.length (Zz v5) (Zz v5)) (pp (fl v5 nn) (tt k0 nn)))))))))
theorem x5k (l0:List R6) (x1:Int):Xk prog (Zy prog 127) (ratC l0 x1) (Ze prog 127 [(.dat l0.length (Zz l0)),(.int .i64 x1)] true []) (y1c l0 x1):=(sl Zm 15 [(88,4,Zz ([]:List R4))] ⟨[0],[],v3v,v3w⟩ ⟨[(5,.grow 0 4)],[],[]⟩ [] (pp (fl ([]:List R4) nn) nn))
theorem v3u (l0:List R6) (x1:Int) (n:Nat) (vs:List AVal) (h:Yk (z5f l0 x1) n (y1c l0 x1)=.ret vs):Kv prog (Zy prog 127) (Ze prog 127 [(.dat l0.length (Zz l0)),(.int .i64 x1)] true []) vs:=by have:=Zr (w2q l0 x1) n _ (x5k l0 x1);rwa [h] at this
inductive eqaS where
 | h0 (v13:Int)
def eqaC (l0:List R2) (l1:List R2):eqaS→Cfg
 | .h0 v13=>⟨⟨26,0,true⟩,none,(Zd prog 188 [1,1,0,1,0,0] 0),none,(Zy prog 5),⟨Yc [(0,(.dat l0.length (Zz l0))),(1,(.dat l1.length (Zz l1))),(12,(ii (l0.length:Int))),(13,(ii v13))],Un [] 0,0,[],true⟩,[],.leaf⟩
def eqaN0 :List (Option (List Nat)):=[some [0,1,12,13]]
def eqaM0 :List (Option (List Nat)):=[]
def z5u (l0:List R2) (l1:List R2):eqaS→Xo eqaS
 | .h0 v13=>(bif (decide (v13<(l0.length:Int))) then (bif ((decide (0≤v13∧v13<(l0.length:Int)))&&true) then (bif ((decide (0≤v13∧v13<(l1.length:Int)))&&true) then (bif (!(((rd l0 v13.toNat).a == (rd l1 v13.toNat).a)&&(((rd l0 v13.toNat).b == (rd l1 v13.toNat).b)&&true))) then (.ret [(.bool false)]) else (.to (.h0 (IntKind.wrap .i64 (v13+1))))) else .stuck) else .stuck) else (.ret [(.bool true)]))
def z7e (l0:List R2) (l1:List R2):Xo eqaS:=(bif ((l0.length:Int) != (l1.length:Int)) then (.ret [(.bool false)]) else (.to (.h0 0)))
theorem w4b (l0:List R2) (l1:List R2): ∀s,Xk prog (Zy prog 188) (eqaC l0 l1) (eqaC l0 l1 s) (z5u l0 l1 s)
 | .h0 v13=>(lb (fun k0=>(lo fun aG=>(lo fun bA=>(lb (fun k1=>(lr 26 188 [1,1,0,1,0,0,1,1,0,0,1,1,0,0] 1 5 [(4,(.bool false))] (sl Zm 21 [] ⟨[],[],[some [4]],[]⟩ ⟨[],[],[]⟩ (bl 2 3) (tt k1 (ww bA (ww aG (tt k0 nn))))))) (fun k1=>(sl Zm 24 [] ⟨[],[],eqaN0,eqaM0⟩ ⟨[],[],[]⟩ (bl 2 1) (tt k1 (ww bA (ww aG (tt k0 nn)))))))))) (fun k0=>(lr 26 3 [1,1,1,1,1,1,1,0] 1 5 [(4,(.bool true))] (sl Zm 11 [] ⟨[],[],[some [4]],[]⟩ ⟨[],[],[]⟩ [false] (tt k0 nn)))))
theorem x7e (l0:List R2) (l1:List R2):Xk prog (Zy prog 188) (eqaC l0 l1) (Ze prog 188 [(.dat l0.length (Zz l0)),(.dat l1.length (Zz l1))] true []) (z7e l0 l1):=(lb (fun k0=>(lr 26 188 [1,0,1,0,0] 1 5 [(4,(.bool false))] (sl Zm 18 [] ⟨[],[],[some [4]],[]⟩ ⟨[],[],[]⟩ [true] (tt k0 nn)))) (fun k0=>(sl Zm 24 [] ⟨[],[],eqaN0,eqaM0⟩ ⟨[],[],[]⟩ [false] (tt k0 nn))))
theorem v6e (l0:List R2) (l1:List R2) (n:Nat) (vs:List AVal) (h:Yk (z5u l0 l1) n (z7e l0 l1)=.ret vs):Kv prog (Zy prog 188) (Ze prog 188 [(.dat l0.length (Zz l0)),(.dat l1.length (Zz l1))] true []) vs:=by have:=Zr (w4b l0 l1) n _ (x7e l0 l1);rwa [h] at this
inductive eqbS where
 | h0 (v13:Int)
def eqbC (l0:List R4) (l1:List R4):eqbS→Cfg
 | .h0 v13=>⟨⟨26,0,true⟩,none,(Zd prog 172 [1,1,0,1,0,0] 0),none,(Zy prog 5),⟨Yc [(0,(.dat l0.length (Zz l0))),(1,(.dat l1.length (Zz l1))),(12,(ii (l0.length:Int))),(13,(ii v13))],Un [] 0,0,[],true⟩,[],.leaf⟩
def eqbN0 :List (Option (List Nat)):=[some [0,1,12,13]]
def eqbM0 :List (Option (List Nat)):=[]
def z5t (l0:List R4) (l1:List R4):eqbS→Xo eqbS
 | .h0 v13=>(bif (decide (v13<(l0.length:Int))) then (bif ((decide (0≤v13∧v13<(l0.length:Int)))&&true) then (bif ((decide (0≤v13∧v13<(l1.length:Int)))&&true) then (bif (!(((rd l0 v13.toNat).a == (rd l1 v13.toNat).a)&&(((rd l0 v13.toNat).b == (rd l1 v13.toNat).b)&&(((rd l0 v13.toNat).c == (rd l1 v13.toNat).c)&&(((rd l0 v13.toNat).d == (rd l1 v13.toNat).d)&&true))))) then (.ret [(.bool false)]) else (.to (.h0 (IntKind.wrap .i64 (v13+1))))) else .stuck) else .stuck) else (.ret [(.bool true)]))
def z7d (l0:List R4) (l1:List R4):Xo eqbS:=(bif ((l0.length:Int) != (l1.length:Int)) then (.ret [(.bool false)]) else (.to (.h0 0)))
theorem w4a (l0:List R4) (l1:List R4): ∀s,Xk prog (Zy prog 172) (eqbC l0 l1) (eqbC l0 l1 s) (z5t l0 l1 s)
 | .h0 v13=>(lb (fun k0=>(lo fun aG=>(lo fun bA=>(lb (fun k1=>(lr 26 172 [1,1,0,1,0,0,1,1,0,0,1,1,0,0] 1 5 [(4,(.bool false))] (sl Zm 21 [] ⟨[],[],[some [4]],[]⟩ ⟨[],[],[]⟩ (bl 2 3) (tt k1 (ww bA (ww aG (tt k0 nn))))))) (fun k1=>(sl Zm 24 [] ⟨[],[],eqbN0,eqbM0⟩ ⟨[],[],[]⟩ (bl 2 1) (tt k1 (ww bA (ww aG (tt k0 nn)))))))))) (fun k0=>(lr 26 3 [1,1,1,1,1,1,1,0] 1 5 [(4,(.bool true))] (sl Zm 11 [] ⟨[],[],[some [4]],[]⟩ ⟨[],[],[]⟩ [false] (tt k0 nn)))))
theorem x7d (l0:List R4) (l1:List R4):Xk prog (Zy prog 172) (eqbC l0 l1) (Ze prog 172 [(.dat l0.length (Zz l0)),(.dat l1.length (Zz l1))] true []) (z7d l0 l1):=(lb (fun k0=>(lr 26 172 [1,0,1,0,0] 1 5 [(4,(.bool false))] (sl Zm 18 [] ⟨[],[],[some [4]],[]⟩ ⟨[],[],[]⟩ [true] (tt k0 nn)))) (fun k0=>(sl Zm 24 [] ⟨[],[],eqbN0,eqbM0⟩ ⟨[],[],[]⟩ [false] (tt k0 nn))))
theorem v6d (l0:List R4) (l1:List R4) (n:Nat) (vs:List AVal) (h:Yk (z5t l0 l1) n (z7d l0 l1)=.ret vs):Kv prog (Zy prog 172) (Ze prog 172 [(.dat l0.length (Zz l0)),(.dat l1.length (Zz l1))] true []) vs:=by have:=Zr (w4a l0 l1) n _ (x7d l0 l1);rwa [h] at this
inductive eqcS where
 | h0 (v13:Int)
def eqcC (l0:List R6) (l1:List R6):eqcS→Cfg
 | .h0 v13=>⟨⟨26,0,true⟩,none,(Zd prog 99 [1,1,0,1,0,0] 0),none,(Zy prog 5),⟨Yc [(0,(.dat l0.length (Zz l0))),(1,(.dat l1.length (Zz l1))),(12,(ii (l0.length:Int))),(13,(ii v13))],Un [] 0,0,[],true⟩,[],.leaf⟩
def eqcN0 :List (Option (List Nat)):=[some [0,1,12,13]]
def eqcM0 :List (Option (List Nat)):=[]
def z5s (l0:List R6) (l1:List R6):eqcS→Xo eqcS
 | .h0 v13=>(bif (decide (v13<(l0.length:Int))) then (bif ((decide (0≤v13∧v13<(l0.length:Int)))&&true) then (bif ((decide (0≤v13∧v13<(l1.length:Int)))&&true) then (bif (!((((rd l0 v13.toNat).a == (rd l1 v13.toNat).a)&&(((rd l0 v13.toNat).b == (rd l1 v13.toNat).b)&&(((rd l0 v13.toNat).c == (rd l1 v13.toNat).c)&&true)))&&((((rd l0 v13.toNat).d == (rd l1 v13.toNat).d)&&(((rd l0 v13.toNat).e == (rd l1 v13.toNat).e)&&(((rd l0 v13.toNat).f == (rd l1 v13.toNat).f)&&true)))&&true))) then (.ret [(.bool false)]) else (.to (.h0 (IntKind.wrap .i64 (v13+1))))) else .stuck) else .stuck) else (.ret [(.bool true)]))
def z7c (l0:List R6) (l1:List R6):Xo eqcS:=(bif ((l0.length:Int) != (l1.length:Int)) then (.ret [(.bool false)]) else (.to (.h0 0)))
theorem w3z (l0:List R6) (l1:List R6): ∀s,Xk prog (Zy prog 99) (eqcC l0 l1) (eqcC l0 l1 s) (z5s l0 l1 s)
 | .h0 v13=>(lb (fun k0=>(lo fun aG=>(lo fun bA=>(lb (fun k1=>(lr 26 99 [1,1,0,1,0,0,1,1,0,0,1,1,0,0] 1 5 [(4,(.bool false))] (sl Zm 21 [] ⟨[],[],[some [4]],[]⟩ ⟨[],[],[]⟩ (bl 2 3) (tt k1 (ww bA (ww aG (tt k0 nn))))))) (fun k1=>(sl Zm 24 [] ⟨[],[],eqcN0,eqcM0⟩ ⟨[],[],[]⟩ (bl 2 1) (tt k1 (ww bA (ww aG (tt k0 nn)))))))))) (fun k0=>(lr 26 3 [1,1,1,1,1,1,1,0] 1 5 [(4,(.bool true))] (sl Zm 11 [] ⟨[],[],[some [4]],[]⟩ ⟨[],[],[]⟩ [false] (tt k0 nn)))))
theorem x7c (l0:List R6) (l1:List R6):Xk prog (Zy prog 99) (eqcC l0 l1) (Ze prog 99 [(.dat l0.length (Zz l0)),(.dat l1.length (Zz l1))] true []) (z7c l0 l1):=(lb (fun k0=>(lr 26 99 [1,0,1,0,0] 1 5 [(4,(.bool false))] (sl Zm 18 [] ⟨[],[],[some [4]],[]⟩ ⟨[],[],[]⟩ [true] (tt k0 nn)))) (fun k0=>(sl Zm 24 [] ⟨[],[],eqcN0,eqcM0⟩ ⟨[],[],[]⟩ [false] (tt k0 nn))))
theorem v6c (l0:List R6) (l1:List R6) (n:Nat) (vs:List AVal) (h:Yk (z5s l0 l1) n (z7c l0 l1)=.ret vs):Kv prog (Zy prog 99) (Ze prog 99 [(.dat l0.length (Zz l0)),(.dat l1.length (Zz l1))] true []) vs:=by have:=Zr (w3z l0 l1) n _ (x7c l0 l1);rwa [h] at this
inductive holS where
def holC (x0:Int) (x1:Bool) (x2:Bool):holS→Cfg
 :=nofun
def x6q (x0:Int) (x1:Bool) (x2:Bool):holS→Xo holS
 :=nofun
def y1p (x0:Int) (x1:Bool) (x2:Bool):Xo holS:=(bif (x0 == 1) then (bif x1 then (.ret [(.bool x2)]) else (.ret [(.bool false)])) else (bif (x0 == 2) then (bif x1 then (.ret [(.bool true)]) else (.ret [(.bool x2)])) else (bif x1 then (.ret [(.bool (!x2))]) else (.ret [(.bool false)]))))
theorem w3o (x0:Int) (x1:Bool) (x2:Bool): ∀s,Xk prog (Zy prog 167) (holC x0 x1 x2) (holC x0 x1 x2 s) (x6q x0 x1 x2 s)
 :=nofun
theorem x6r (x0:Int) (x1:Bool) (x2:Bool):Xk prog (Zy prog 167) (holC x0 x1 x2) (Ze prog 167 [(.int .i64 x0),(.bool x1),(.bool x2)] true []) (y1p x0 x1 x2):=(lb (fun k0=>(lb (fun k1=>(lr 24 167 [1,0,1,0,0] 1 8 [(6,(.bool x2))] (sl Zm 19 [] ⟨[],[],[some [6]],[]⟩ ⟨[],[],[]⟩ [true,true] (tt k1 (tt k0 nn))))) (fun k1=>(lr 24 167 [1,0,1,0,0] 1 8 [(6,(.bool false))] (sl Zm 19 [] ⟨[],[],[some [6]],[]⟩ ⟨[],[],[]⟩ [true,false] (tt k1 (tt k0 nn))))))) (fun k0=>(lb (fun k1=>(lb (fun k2=>(lr 24 167 [1,1,0,1,0,0] 1 8 [(6,(.bool true))] (sl Zm 27 [] ⟨[],[],[some [6]],[]⟩ ⟨[],[],[]⟩ [false,true,true] (tt k2 (tt k1 (tt k0 nn)))))) (fun k2=>(lr 24 167 [1,1,0,1,0,0] 1 8 [(6,(.bool x2))] (sl Zm 27 [] ⟨[],[],[some [6]],[]⟩ ⟨[],[],[]⟩ [false,true,false] (tt k2 (tt k1 (tt k0 nn)))))))) (fun k1=>(lb (fun k2=>(lr 24 3 [1,1,1,1,1,1,1,0] 1 8 [(6,(.bool (!x2)))] (sl Zm 29 [] ⟨[],[],[some [6]],[]⟩ ⟨[],[],[]⟩ [false,false,true,true] (tt k2 (tt k1 (tt k0 nn)))))) (fun k2=>(lr 24 3 [1,1,1,1,1,1,1,0] 1 8 [(6,(.bool false))] (sl Zm 29 [] ⟨[],[],[some [6]],[]⟩ ⟨[],[],[]⟩ [false,false,false,false] (tt k2 (tt k1 (tt k0 nn)))))))))))
theorem v5o (x0:Int) (x1:Bool) (x2:Bool) (n:Nat) (vs:List AVal) (h:Yk (x6q x0 x1 x2) n (y1p x0 x1 x2)=.ret vs):Kv prog (Zy prog 167) (Ze prog 167 [(.int .i64 x0),(.bool x1),(.bool x2)] true []) vs:=by have:=Zr (w3o x0 x1 x2) n _ (x6r x0 x1 x2);rwa [h] at this
inductive fstS where
def fstC (x0:Bool) (x1:Bool):fstS→Cfg
 :=nofun
def x6t (x0:Bool) (x1:Bool):fstS→Xo fstS
 :=nofun
def y9r (x0:Bool) (x1:Bool):Xo fstS:=(.ret [(.bool x0)])
theorem w3q (x0:Bool) (x1:Bool): ∀s,Xk prog (Zy prog 187) (fstC x0 x1) (fstC x0 x1 s) (x6t x0 x1 s)
 :=nofun
theorem x6u (x0:Bool) (x1:Bool):Xk prog (Zy prog 187) (fstC x0 x1) (Ze prog 187 [(.bool x0),(.bool x1)] true []) (y9r x0 x1):=(lr 6 3 [1,1,1,1,1,1,1,0] 1 5 [(4,(.bool x0))] (sl Zm 9 [] ⟨[],[],[some [4]],[]⟩ ⟨[],[],[]⟩ [] nn))
theorem v5p (x0:Bool) (x1:Bool) (n:Nat) (vs:List AVal) (h:Yk (x6t x0 x1) n (y9r x0 x1)=.ret vs):Kv prog (Zy prog 187) (Ze prog 187 [(.bool x0),(.bool x1)] true []) vs:=by have:=Zr (w3q x0 x1) n _ (x6u x0 x1);rwa [h] at this
end Go.Am
namespace Go.Am
theorem Zt {a b:Int} (h:a<b):decide (a<b)=true:=decide_eq_true h
theorem Yv {a b:Int} (h: ¬a<b):decide (a<b)=false:=decide_eq_false h
theorem Xn {a b:Int} (h:a≤b):decide (a≤b)=true:=decide_eq_true h
theorem x7g {a b:Int} (h: ¬a≤b):decide (a≤b)=false:=decide_eq_false h
theorem Yi {a b:Int} (h:a>b):decide (a>b)=true:=decide_eq_true h
theorem Xj {a b:Int} (h: ¬a>b):decide (a>b)=false:=decide_eq_false h
theorem dge_t {a b:Int} (h:a≥b):decide (a≥b)=true:=decide_eq_true h
theorem Yu {a b:Nat} (h:a<b):decide (a<b)=true:=decide_eq_true h
theorem Yb {a b:Nat} (h:a≤b):decide (a≤b)=true:=decide_eq_true h
theorem Yq {a b:Nat} (h:a=b):decide (a=b)=true:=decide_eq_true h
theorem Yz {a b:Int} (h:0≤a∧a<b):decide (0≤a∧a<b)=true:=decide_eq_true h
theorem Zh {a:Nat} (h:a≤1099511627776):decide (a≤Us)=true:=decide_eq_true h
theorem Zq {n:Int} (h: -9223372036854775808≤n∧n≤9223372036854775807):IntKind.wrap .i64 n=n:=w_in h.1 h.2
theorem z5w :((0:Nat):Int)=0:=rfl
theorem Zx (i:Nat):(i:Int)+1=((i+1:Nat):Int):=rfl
theorem Zs (i:Nat):((i+1:Nat):Int) - 1=(i:Int):=by omega
theorem Qf {a b:Int} (h:a≠b):(a != b)=true:=by simp [h]
theorem Qh {a b:Int} (h:a=b):(a != b)=false:=by simp [h]
theorem Yp (n:Nat):Nat.beq n n=true:=Nat.beq_refl n
theorem Zj (n:Nat):Int.toNat (n:Int)=n:=Int.toNat_natCast n
theorem Yn (b:Bool):b=true∨b=false:=by cases b <;> simp
theorem Ya {α:Type} [Yh α] {L:List α} {i:Nat} (h:i<L.length):L.drop i=rd L i::L.drop (i+1):=by rw [Xv h];exact List.drop_eq_getElem_cons h
theorem z3s {P:Program} {S:Specs} (hS:Zu P S) {f:FuncId} {F:List AVal→Option (AVal×Bool)} (hf:(P.funcs[f]?).any (fun fn=>fn.body.isSome)=true)
  (hF: ∀args v,F args=some (v,true)→ ∃bs vs,Ws VLe args bs∧Je vs=v∧Kv P (Zy P f) (Ze P f bs true []) vs∧ ∃d,pf d v=true):Zu P (S.with f F):=w1d hS hf hF
end Go.Am
namespace Go.Am
open Go.Proofs
def x5n (out:List Int) (x:Int):Nat→Nat
 | 0=>0
 | k+1=>bif decide (rd out k>x) then x5n out x k else k+1
def y3o (out:List Int) (x:Int):List Int:=
 match x5n out x out.length with
 | 0=>x::out
 | k+1=>bif rd out k == x then out else out.take (k+1)++x::out.drop (k+1)
def z2o (l:List Int):List Int:=l.foldl y3o []
def Kj (l:List Int):Bool:=decide (l.length≤100000)
theorem y3n (out:List Int) (x:Int):(y3o out x).length ≤out.length+1:=by
 unfold y3o;split
 ·simp
 ·rename_i k _;cases (rd out k == x) <;> simp <;> omega
theorem x2k (out:List Int) (x:Int) (k:Nat) (hk:k≤out.length):
  (v0s (out++[0]) (k+1) (Nat.min (out.length+1 - k) (out.length+1 - (k+1))) (z3k (out++[0]) k (out.length+1 - k))).set k x=out.take k++x::out.drop k:=by
 have hm:Nat.min (out.length+1 - k) (out.length+1 - (k+1))=out.length - k:=by show min _ _=_;omega
 rw [hm];apply List.ext_getElem
 ·simp [Jv];omega
 ·intro i h1 h2;have hi:i<out.length+1:=by simpa [Jv] using h1
  rw [←Xv h1,←Xv h2];rw [v8z (by simpa [Jv] using hi)];by_cases e:i=k
  ·subst e;rw [if_pos rfl,Uw (by simp only [List.length_take];omega),Xv (by simp;omega)];simp [Nat.min_eq_left hk]
  ·rw [if_neg e,w7f (by simpa using hi)];by_cases h:i<k
   ·rw [v6r (show¬k+1≤i by omega),Bool.false_and,cond_false,Ut (by omega),Ut (by simp;omega)];rw [Xv (by omega),Xv (by simp;omega),List.getElem_take]
   ·rw [v1b (show k+1≤i by omega),v1b (show i+1≤k+1+(out.length - k) by omega),Bool.true_and,cond_true,y8u (by omega),Ut (by omega)];rw [Uw (by simp;omega),Xv (by omega),Xv (by simp;omega)];obtain ⟨j,rfl⟩: ∃j,i=k+1+j:=⟨i - k - 1,by omega⟩
    simp only [List.length_take,Nat.min_eq_left hk];rw [List.getElem_cons,dif_neg (by omega),List.getElem_drop]
    congr 1
theorem x8z (l:List Int) (out:List Int) (i:Nat) (hi:i<l.length) (hl:l.length≤100000) (ho:out.length≤i): ∀(k N:Nat),k≤out.length→
  (x5n out (rd l i) out.length=x5n out (rd l i) k)→ ∃m,∀N,Yk (Vc l) (N+m) (.to (.h1 out (i:Int) (k:Int)))=Yk (Vc l) N (.to (.h0 (y3o out (rd l i)) ((i+1:Nat):Int)))
 | 0,N,hk,hp=>by
  refine ⟨1,fun N=> ?_⟩;have hins:y3o out (rd l i)=(v0s (out++[0]) (0+1) (Nat.min (out.length+1 - 0) (out.length+1 - (0+1))) (z3k (out++[0]) 0 (out.length+1 - 0))).set 0 (rd l i):=by rw [x2k out _ 0 (Nat.zero_le _)];unfold y3o;rw [hp];rfl
  rw [hins,Zv];simp (disch:=omega) only [Vc,Zh,decide_true,Xj,Zt,Xn,Yu,Yb,Yq,Yz,Zq,Zx,Yp,Zj,Nat.zero_add,Bool.and_true,Bool.true_and,cond_true,cond_false]
 | k+1,N,hk,hp=>by
  rcases Yn (decide (rd out k>rd l i)) with h | h
  ·have hp':x5n out (rd l i) out.length=x5n out (rd l i) k:=by rw [hp];conv=>lhs;unfold x5n;rw [h,cond_true]
   obtain ⟨m,hm⟩:=x8z l out i hi hl ho k N (by omega) hp';refine ⟨m+1,fun N=> ?_⟩;rw [←hm N,←Nat.add_assoc,Zv];simp (disch:=omega) only [Vc,Zs,h,Zh,decide_true,Yi,Zt,Xn,Yu,Yb,Yq,Yz,Zq,Zx,Yp,Zj,Nat.zero_add,Bool.and_true,Bool.true_and,cond_true,cond_false]
  ·have hpk:x5n out (rd l i) out.length=k+1:=by rw [hp];unfold x5n;rw [h];rfl
   refine ⟨1,fun N=> ?_⟩;rw [Zv];rcases Yn (rd out k == rd l i) with q | q
   ·have hins:y3o out (rd l i)=out:=by unfold y3o;rw [hpk];simp only [q,cond_true]
    rw [hins];simp (disch:=omega) only [Vc,Zs,h,q,Zh,decide_true,Yi,Zt,Xn,Yu,Yb,Yq,Yz,Zq,Zx,Yp,Zj,Nat.zero_add,Bool.and_true,Bool.true_and,cond_true,cond_false]
   ·have hins:y3o out (rd l i)=(v0s (out++[0]) (k+1+1) (Nat.min (out.length+1 - (k+1)) (out.length+1 - (k+1+1))) (z3k (out++[0]) (k+1) (out.length+1 - (k+1)))).set (k+1) (rd l i):=by rw [x2k out _ (k+1) hk];unfold y3o;rw [hpk];simp only [q,cond_false]
    rw [hins];simp (disch:=omega) only [Vc,Zs,h,q,Zh,decide_true,Yi,Zt,Xn,Yu,Yb,Yq,Yz,Zq,Zx,Yp,Zj,Nat.zero_add,Bool.and_true,Bool.true_and,cond_true,cond_false]
theorem x9a (l:List Int) (hl:l.length≤100000): ∀(k i:Nat) (out:List Int),i+k=l.length→out.length≤i→ ∃m,Yk (Vc l) m (.to (.h0 out (i:Int)))=.ret [.dat ((l.drop i).foldl y3o out).length (Zz ((l.drop i).foldl y3o out))]
 | 0,i,out,h,ho=>by refine ⟨1,?_⟩;rw [Zv];simp (disch:=omega) only [Vc,Yv,cond_false];rw [List.drop_eq_nil_of_le (by omega)];rfl
 | k+1,i,out,h,ho=>by obtain ⟨m1,h1⟩:=x8z l out i (by omega) hl ho out.length 0 (Nat.le_refl _) rfl;obtain ⟨m2,h2⟩:=x9a l hl k (i+1) (y3o out (rd l i)) (by omega) (Nat.le_trans (y3n _ _) (by omega));refine ⟨m2+m1+1,?_⟩;rw [Zv];simp (disch:=omega) only [Vc,Zt,cond_true];rw [h1 m2,h2,Ya (show i<l.length by omega)];rfl
theorem w6j (l:List Int) (h:Kj l=true): ∃N,Yk (Vc l) N (z3z l)=.ret [.dat (z2o l).length (Zz (z2o l))]:=by
 have:=x9a l (of_decide_eq_true h) l.length 0 [] (by omega) (Nat.le_refl _)
 simpa [z3z,z2o] using this
end Go.Am
namespace Go.Am
open Go.Proofs
theorem Zf (n:Nat):Int.toNat ((n:Int) - 1)=n - 1:=by omega
theorem v3z (x y:R2):((x.a == y.a)&&(x.b == y.b))=decide (x=y):=by obtain ⟨a,b⟩:=x;obtain ⟨c,d⟩:=y;rw [Bool.eq_iff_iff];simp
theorem v3y (x y:R4):((x.a == y.a)&&((x.b == y.b)&&((x.c == y.c)&&(x.d == y.d))))=decide (x=y):=by obtain ⟨a,b,c,d⟩:=x;obtain ⟨e,f,g,h⟩:=y;rw [Bool.eq_iff_iff];simp
theorem v3x (x y:R6):(((x.a == y.a)&&((x.b == y.b)&&(x.c == y.c)))&&((x.d == y.d)&&((x.e == y.e)&&(x.f == y.f))))=decide (x=y):=by obtain ⟨a,b,c,d,e,f⟩:=x;obtain ⟨a',b',c',d',e',f'⟩:=y;rw [Bool.eq_iff_iff];simp [and_assoc]
def Kq (l m:List R2):Bool:=decide (l=m)
def Uo (l m:List R4):Bool:=decide (l=m)
def Jb (l m:List R6):Bool:=decide (l=m)
def Va (l m:List R2):Bool:=decide (l.length≤1000000)
def Wm (l m:List R4):Bool:=decide (l.length≤1000000)
def Vg (l m:List R6):Bool:=decide (l.length≤1000000)
theorem z4k {α:Type} [DecidableEq α] (x y:α) (l m:List α):decide (x::l=y::m)=(decide (x=y)&&decide (l=m)):=by rw [←Bool.decide_and];congr 1;simp
theorem v8e (l m:List R2) (hl:l.length≤1000000) (hm:l.length=m.length): ∀(k i:Nat),i+k=l.length→ ∃N,Yk (z5c l m) N (.to (.h0 (i:Int)))=.ret [.bool (decide (l.drop i=m.drop i))]
 | 0,i,h=>by refine ⟨1,?_⟩;rw [Zv,List.drop_eq_nil_of_le (show l.length≤i by omega),List.drop_eq_nil_of_le (show m.length≤i by omega)];simp (disch:=omega) only [z5c,Xj,Yi,Zt,Yv,Xn,Yu,Yb,Yq,Yz,Zq,Zh,Qf,Qh,decide_true,Zx,Zs,Zf,Yp,Zj,Nat.zero_add,Bool.and_true,Bool.true_and,cond_true,cond_false,Bool.not_true,Bool.not_false,Zg]
 | k+1,i,h=>by
  obtain ⟨N,hN⟩:=v8e l m hl hm k (i+1) (by omega);refine ⟨N+1,?_⟩;rw [Zv,Ya (show i<l.length by omega),Ya (show i<m.length by omega),z4k];rcases Yn (decide (rd l i=rd m i)) with q | q
  ·simp (disch:=omega) only [z5c,v3z,q,Xj,Yi,Zt,Yv,Xn,Yu,Yb,Yq,Yz,Zq,Zh,Qf,Qh,decide_true,Zx,Zs,Zf,Yp,Zj,Nat.zero_add,Bool.and_true,Bool.true_and,cond_true,cond_false,Bool.not_true,Bool.not_false,Zg];exact hN
  ·simp (disch:=omega) only [z5c,v3z,q,Xj,Yi,Zt,Yv,Xn,Yu,Yb,Yq,Yz,Zq,Zh,Qf,Qh,decide_true,Zx,Zs,Zf,Yp,Zj,Nat.zero_add,Bool.and_true,Bool.true_and,cond_true,cond_false,Bool.not_true,Bool.not_false,Zg,Bool.false_and]
theorem u2r (l m:List R2) (h:Va l m=true): ∃N,Yk (z5c l m) N (z6f l m)=.ret [.bool (Kq l m)]:=by
 have hl:l.length≤1000000:=of_decide_eq_true h;by_cases hm:l.length=m.length
 ·obtain ⟨N,hN⟩:=v8e l m hl hm l.length 0 (Nat.zero_add _);refine ⟨N,?_⟩;unfold z6f;rw [Qh (show (l.length:Int)=(m.length:Nat) by omega)];exact hN
 ·refine ⟨0,?_⟩;unfold z6f;rw [Qf (show (l.length:Int)≠(m.length:Nat) by omega)];have:Kq l m=false:=decide_eq_false fun e=>hm (by rw [e]);rw [this];rfl
theorem v8d (l m:List R4) (hl:l.length≤1000000) (hm:l.length=m.length): ∀(k i:Nat),i+k=l.length→ ∃N,Yk (z5b l m) N (.to (.h0 (i:Int)))=.ret [.bool (decide (l.drop i=m.drop i))]
 | 0,i,h=>by refine ⟨1,?_⟩;rw [Zv,List.drop_eq_nil_of_le (show l.length≤i by omega),List.drop_eq_nil_of_le (show m.length≤i by omega)];simp (disch:=omega) only [z5b,Xj,Yi,Zt,Yv,Xn,Yu,Yb,Yq,Yz,Zq,Zh,Qf,Qh,decide_true,Zx,Zs,Zf,Yp,Zj,Nat.zero_add,Bool.and_true,Bool.true_and,cond_true,cond_false,Bool.not_true,Bool.not_false,Zg]
 | k+1,i,h=>by
  obtain ⟨N,hN⟩:=v8d l m hl hm k (i+1) (by omega);refine ⟨N+1,?_⟩;rw [Zv,Ya (show i<l.length by omega),Ya (show i<m.length by omega),z4k];rcases Yn (decide (rd l i=rd m i)) with q | q
  ·simp (disch:=omega) only [z5b,v3y,q,Xj,Yi,Zt,Yv,Xn,Yu,Yb,Yq,Yz,Zq,Zh,Qf,Qh,decide_true,Zx,Zs,Zf,Yp,Zj,Nat.zero_add,Bool.and_true,Bool.true_and,cond_true,cond_false,Bool.not_true,Bool.not_false,Zg];exact hN
  ·simp (disch:=omega) only [z5b,v3y,q,Xj,Yi,Zt,Yv,Xn,Yu,Yb,Yq,Yz,Zq,Zh,Qf,Qh,decide_true,Zx,Zs,Zf,Yp,Zj,Nat.zero_add,Bool.and_true,Bool.true_and,cond_true,cond_false,Bool.not_true,Bool.not_false,Zg,Bool.false_and]
theorem u2q (l m:List R4) (h:Wm l m=true): ∃N,Yk (z5b l m) N (z6e l m)=.ret [.bool (Uo l m)]:=by
 have hl:l.length≤1000000:=of_decide_eq_true h;by_cases hm:l.length=m.length
 ·obtain ⟨N,hN⟩:=v8d l m hl hm l.length 0 (Nat.zero_add _);refine ⟨N,?_⟩;unfold z6e;rw [Qh (show (l.length:Int)=(m.length:Nat) by omega)];exact hN
 ·refine ⟨0,?_⟩;unfold z6e;rw [Qf (show (l.length:Int)≠(m.length:Nat) by omega)];have:Uo l m=false:=decide_eq_false fun e=>hm (by rw [e]);rw [this];rfl
theorem v8f (l m:List R6) (hl:l.length≤1000000) (hm:l.length=m.length): ∀(k i:Nat),i+k=l.length→ ∃N,Yk (z5d l m) N (.to (.h0 (i:Int)))=.ret [.bool (decide (l.drop i=m.drop i))]
 | 0,i,h=>by refine ⟨1,?_⟩;rw [Zv,List.drop_eq_nil_of_le (show l.length≤i by omega),List.drop_eq_nil_of_le (show m.length≤i by omega)];simp (disch:=omega) only [z5d,Xj,Yi,Zt,Yv,Xn,Yu,Yb,Yq,Yz,Zq,Zh,Qf,Qh,decide_true,Zx,Zs,Zf,Yp,Zj,Nat.zero_add,Bool.and_true,Bool.true_and,cond_true,cond_false,Bool.not_true,Bool.not_false,Zg]
 | k+1,i,h=>by
  obtain ⟨N,hN⟩:=v8f l m hl hm k (i+1) (by omega);refine ⟨N+1,?_⟩;rw [Zv,Ya (show i<l.length by omega),Ya (show i<m.length by omega),z4k];rcases Yn (decide (rd l i=rd m i)) with q | q
  ·simp (disch:=omega) only [z5d,v3x,q,Xj,Yi,Zt,Yv,Xn,Yu,Yb,Yq,Yz,Zq,Zh,Qf,Qh,decide_true,Zx,Zs,Zf,Yp,Zj,Nat.zero_add,Bool.and_true,Bool.true_and,cond_true,cond_false,Bool.not_true,Bool.not_false,Zg];exact hN
  ·simp (disch:=omega) only [z5d,v3x,q,Xj,Yi,Zt,Yv,Xn,Yu,Yb,Yq,Yz,Zq,Zh,Qf,Qh,decide_true,Zx,Zs,Zf,Yp,Zj,Nat.zero_add,Bool.and_true,Bool.true_and,cond_true,cond_false,Bool.not_true,Bool.not_false,Zg,Bool.false_and]
theorem u2s (l m:List R6) (h:Vg l m=true): ∃N,Yk (z5d l m) N (z6g l m)=.ret [.bool (Jb l m)]:=by
 have hl:l.length≤1000000:=of_decide_eq_true h;by_cases hm:l.length=m.length
 ·obtain ⟨N,hN⟩:=v8f l m hl hm l.length 0 (Nat.zero_add _);refine ⟨N,?_⟩;unfold z6g;rw [Qh (show (l.length:Int)=(m.length:Nat) by omega)];exact hN
 ·refine ⟨0,?_⟩;unfold z6g;rw [Qf (show (l.length:Int)≠(m.length:Nat) by omega)];have:Jb l m=false:=decide_eq_false fun e=>hm (by rw [e]);rw [this];rfl
theorem u0q (l m:List R2) (hl:l.length≤1000000) (hm:l.length=m.length): ∀(k i:Nat),i+k=l.length→ ∃N,Yk (z5u l m) N (.to (.h0 (i:Int)))=.ret [.bool (decide (l.drop i=m.drop i))]
 | 0,i,h=>by refine ⟨1,?_⟩;rw [Zv,List.drop_eq_nil_of_le (show l.length≤i by omega),List.drop_eq_nil_of_le (show m.length≤i by omega)];simp (disch:=omega) only [z5u,Xj,Yi,Zt,Yv,Xn,Yu,Yb,Yq,Yz,Zq,Zh,Qf,Qh,decide_true,Zx,Zs,Zf,Yp,Zj,Nat.zero_add,Bool.and_true,Bool.true_and,cond_true,cond_false,Bool.not_true,Bool.not_false,Zg]
 | k+1,i,h=>by
  obtain ⟨N,hN⟩:=u0q l m hl hm k (i+1) (by omega);refine ⟨N+1,?_⟩;rw [Zv,Ya (show i<l.length by omega),Ya (show i<m.length by omega),z4k];rcases Yn (decide (rd l i=rd m i)) with q | q
  ·simp (disch:=omega) only [z5u,v3z,q,Xj,Yi,Zt,Yv,Xn,Yu,Yb,Yq,Yz,Zq,Zh,Qf,Qh,decide_true,Zx,Zs,Zf,Yp,Zj,Nat.zero_add,Bool.and_true,Bool.true_and,cond_true,cond_false,Bool.not_true,Bool.not_false,Zg];exact hN
  ·simp (disch:=omega) only [z5u,v3z,q,Xj,Yi,Zt,Yv,Xn,Yu,Yb,Yq,Yz,Zq,Zh,Qf,Qh,decide_true,Zx,Zs,Zf,Yp,Zj,Nat.zero_add,Bool.and_true,Bool.true_and,cond_true,cond_false,Bool.not_true,Bool.not_false,Zg,Bool.false_and]
theorem u6q (l m:List R2) (h:Va l m=true): ∃N,Yk (z5u l m) N (z7e l m)=.ret [.bool (Kq l m)]:=by
 have hl:l.length≤1000000:=of_decide_eq_true h;by_cases hm:l.length=m.length
 ·obtain ⟨N,hN⟩:=u0q l m hl hm l.length 0 (Nat.zero_add _);refine ⟨N,?_⟩;unfold z7e;rw [Qh (show (l.length:Int)=(m.length:Nat) by omega)];exact hN
 ·refine ⟨0,?_⟩;unfold z7e;rw [Qf (show (l.length:Int)≠(m.length:Nat) by omega)];have:Kq l m=false:=decide_eq_false fun e=>hm (by rw [e]);rw [this];rfl
theorem u0p (l m:List R4) (hl:l.length≤1000000) (hm:l.length=m.length): ∀(k i:Nat),i+k=l.length→ ∃N,Yk (z5t l m) N (.to (.h0 (i:Int)))=.ret [.bool (decide (l.drop i=m.drop i))]
 | 0,i,h=>by refine ⟨1,?_⟩;rw [Zv,List.drop_eq_nil_of_le (show l.length≤i by omega),List.drop_eq_nil_of_le (show m.length≤i by omega)];simp (disch:=omega) only [z5t,Xj,Yi,Zt,Yv,Xn,Yu,Yb,Yq,Yz,Zq,Zh,Qf,Qh,decide_true,Zx,Zs,Zf,Yp,Zj,Nat.zero_add,Bool.and_true,Bool.true_and,cond_true,cond_false,Bool.not_true,Bool.not_false,Zg]
 | k+1,i,h=>by
  obtain ⟨N,hN⟩:=u0p l m hl hm k (i+1) (by omega);refine ⟨N+1,?_⟩;rw [Zv,Ya (show i<l.length by omega),Ya (show i<m.length by omega),z4k];rcases Yn (decide (rd l i=rd m i)) with q | q
  ·simp (disch:=omega) only [z5t,v3y,q,Xj,Yi,Zt,Yv,Xn,Yu,Yb,Yq,Yz,Zq,Zh,Qf,Qh,decide_true,Zx,Zs,Zf,Yp,Zj,Nat.zero_add,Bool.and_true,Bool.true_and,cond_true,cond_false,Bool.not_true,Bool.not_false,Zg];exact hN
  ·simp (disch:=omega) only [z5t,v3y,q,Xj,Yi,Zt,Yv,Xn,Yu,Yb,Yq,Yz,Zq,Zh,Qf,Qh,decide_true,Zx,Zs,Zf,Yp,Zj,Nat.zero_add,Bool.and_true,Bool.true_and,cond_true,cond_false,Bool.not_true,Bool.not_false,Zg,Bool.false_and]
theorem u6p (l m:List R4) (h:Wm l m=true): ∃N,Yk (z5t l m) N (z7d l m)=.ret [.bool (Uo l m)]:=by
 have hl:l.length≤1000000:=of_decide_eq_true h;by_cases hm:l.length=m.length
 ·obtain ⟨N,hN⟩:=u0p l m hl hm l.length 0 (Nat.zero_add _);refine ⟨N,?_⟩;unfold z7d;rw [Qh (show (l.length:Int)=(m.length:Nat) by omega)];exact hN
 ·refine ⟨0,?_⟩;unfold z7d;rw [Qf (show (l.length:Int)≠(m.length:Nat) by omega)];have:Uo l m=false:=decide_eq_false fun e=>hm (by rw [e]);rw [this];rfl
theorem u0o (l m:List R6) (hl:l.length≤1000000) (hm:l.length=m.length): ∀(k i:Nat),i+k=l.length→ ∃N,Yk (z5s l m) N (.to (.h0 (i:Int)))=.ret [.bool (decide (l.drop i=m.drop i))]
 | 0,i,h=>by refine ⟨1,?_⟩;rw [Zv,List.drop_eq_nil_of_le (show l.length≤i by omega),List.drop_eq_nil_of_le (show m.length≤i by omega)];simp (disch:=omega) only [z5s,Xj,Yi,Zt,Yv,Xn,Yu,Yb,Yq,Yz,Zq,Zh,Qf,Qh,decide_true,Zx,Zs,Zf,Yp,Zj,Nat.zero_add,Bool.and_true,Bool.true_and,cond_true,cond_false,Bool.not_true,Bool.not_false,Zg]
 | k+1,i,h=>by
  obtain ⟨N,hN⟩:=u0o l m hl hm k (i+1) (by omega);refine ⟨N+1,?_⟩;rw [Zv,Ya (show i<l.length by omega),Ya (show i<m.length by omega),z4k];rcases Yn (decide (rd l i=rd m i)) with q | q
  ·simp (disch:=omega) only [z5s,v3x,q,Xj,Yi,Zt,Yv,Xn,Yu,Yb,Yq,Yz,Zq,Zh,Qf,Qh,decide_true,Zx,Zs,Zf,Yp,Zj,Nat.zero_add,Bool.and_true,Bool.true_and,cond_true,cond_false,Bool.not_true,Bool.not_false,Zg];exact hN
  ·simp (disch:=omega) only [z5s,v3x,q,Xj,Yi,Zt,Yv,Xn,Yu,Yb,Yq,Yz,Zq,Zh,Qf,Qh,decide_true,Zx,Zs,Zf,Yp,Zj,Nat.zero_add,Bool.and_true,Bool.true_and,cond_true,cond_false,Bool.not_true,Bool.not_false,Zg,Bool.false_and]
theorem u6o (l m:List R6) (h:Vg l m=true): ∃N,Yk (z5s l m) N (z7c l m)=.ret [.bool (Jb l m)]:=by
 have hl:l.length≤1000000:=of_decide_eq_true h;by_cases hm:l.length=m.length
 ·obtain ⟨N,hN⟩:=u0o l m hl hm l.length 0 (Nat.zero_add _);refine ⟨N,?_⟩;unfold z7c;rw [Qh (show (l.length:Int)=(m.length:Nat) by omega)];exact hN
 ·refine ⟨0,?_⟩;unfold z7c;rw [Qf (show (l.length:Int)≠(m.length:Nat) by omega)];have:Jb l m=false:=decide_eq_false fun e=>hm (by rw [e]);rw [this];rfl
def in4 (x y:Int) (r:R4):Bool:=decide (r.a≤x)&&(decide (x<r.c)&&(decide (r.b≤y)&&decide (y<r.d)))
def has4V (l:List R4) (x y:Int):Bool:=l.any (in4 x y)
def Qq (l:List R4) (x y:Int):Bool:=decide (l.length≤1000000)
theorem w6v (l:List R4) (x y:Int) (hl:l.length≤1000000): ∀(k i:Nat),i+k=l.length→ ∃N,Yk (z4c l x y) N (.to (.h0 (i:Int)))=.ret [.bool ((l.drop i).any (in4 x y))]
 | 0,i,h=>by refine ⟨1,?_⟩;rw [Zv,List.drop_eq_nil_of_le (show l.length≤i by omega)];simp (disch:=omega) only [z4c,Xj,Yi,Zt,Yv,Xn,Yu,Yb,Yq,Yz,Zq,Zh,Qf,Qh,decide_true,Zx,Zs,Zf,Yp,Zj,Nat.zero_add,Bool.and_true,Bool.true_and,cond_true,cond_false,Bool.not_true,Bool.not_false,Zg];rfl
 | k+1,i,h=>by
  obtain ⟨N,hN⟩:=w6v l x y hl k (i+1) (by omega);refine ⟨N+1,?_⟩;rw [Zv,Ya (show i<l.length by omega),List.any_cons];unfold in4 at hN ⊢;rcases Yn (decide ((rd l i).a ≤x)) with q1 | q1 <;> rcases Yn (decide (x<(rd l i).c)) with q2 | q2 <;> rcases Yn (decide ((rd l i).b ≤y)) with q3 | q3 <;> rcases Yn (decide (y<(rd l i).d)) with q4 | q4 <;>
   simp (disch:=omega) only [z4c,q1,q2,q3,q4,Xj,Yi,Zt,Yv,Xn,Yu,Yb,Yq,Yz,Zq,Zh,Qf,Qh,decide_true,Zx,Zs,Zf,Yp,Zj,Nat.zero_add,Bool.and_true,Bool.true_and,cond_true,cond_false,Bool.not_true,Bool.not_false,Zg,Bool.false_and,Bool.and_false,Bool.false_or,Bool.true_or] <;> exact hN
theorem v3d (l:List R4) (x y:Int) (h:Qq l x y=true): ∃N,Yk (z4c l x y) N (z6j l x y)=.ret [.bool (has4V l x y)]:=by
 have:=w6v l x y (of_decide_eq_true h) l.length 0 (Nat.zero_add _)
 simpa [z6j,has4V] using this
def on6 (z:Int) (b:R6):Bool:=decide (b.c≤z)&&decide (z<b.f)
def u5c (b:R6):R4:=⟨b.a,b.b,b.d,b.e⟩
def atV (l:List R6) (z:Int):List R4:=(l.filter (on6 z)).map u5c
def z4n (l:List R6) (z:Int):Bool:=decide (l.length≤1000000)
theorem w7n (l:List R6) (z:Int) (hl:l.length≤1000000): ∀(k i:Nat) (out:List R4),i+k=l.length→out.length≤i→ ∃N,Yk (z5f l z) N (.to (.h0 out (i:Int)))=.ret [.dat (out++atV (l.drop i) z).length (Zz (out++atV (l.drop i) z))]
 | 0,i,out,h,ho=>by refine ⟨1,?_⟩;rw [Zv,List.drop_eq_nil_of_le (show l.length≤i by omega)];simp (disch:=omega) only [z5f,Xj,Yi,Zt,Yv,Xn,Yu,Yb,Yq,Yz,Zq,Zh,Qf,Qh,decide_true,Zx,Zs,Zf,Yp,Zj,Nat.zero_add,Bool.and_true,Bool.true_and,cond_true,cond_false,Bool.not_true,Bool.not_false,Zg,atV,List.filter_nil,List.map_nil,List.append_nil]
 | k+1,i,out,h,ho=>by
  rw [Ya (show i<l.length by omega)];have e:atV (rd l i::l.drop (i+1)) z=(bif on6 z (rd l i) then [u5c (rd l i)] else [])++atV (l.drop (i+1)) z:=by unfold atV;rw [List.filter_cons];cases on6 z (rd l i) <;> rfl
  rw [e,←List.append_assoc];rcases Yn (decide ((rd l i).c ≤z)) with q1 | q1 <;> rcases Yn (decide (z<(rd l i).f)) with q2 | q2
  ·obtain ⟨N,hN⟩:=w7n l z hl k (i+1) (out++[u5c (rd l i)]) (by omega) (by simp;omega);refine ⟨N+1,?_⟩;rw [Zv];simp (disch:=omega) only [z5f,q1,q2,on6,Xj,Yi,Zt,Yv,Xn,Yu,Yb,Yq,Yz,Zq,Zh,Qf,Qh,decide_true,Zx,Zs,Zf,Yp,Zj,Nat.zero_add,Bool.and_true,Bool.true_and,cond_true,cond_false,Bool.not_true,Bool.not_false,Zg];exact hN
  all_goals
   obtain ⟨N,hN⟩:=w7n l z hl k (i+1) out (by omega) (by omega);refine ⟨N+1,?_⟩;rw [Zv];simp (disch:=omega) only [z5f,q1,q2,on6,Xj,Yi,Zt,Yv,Xn,Yu,Yb,Yq,Yz,Zq,Zh,Qf,Qh,decide_true,Zx,Zs,Zf,Yp,Zj,Nat.zero_add,Bool.and_true,Bool.true_and,cond_true,cond_false,Bool.not_true,Bool.not_false,Zg,Bool.false_and,Bool.and_false,List.append_nil];exact hN
theorem u3n (l:List R6) (z:Int) (h:z4n l z=true): ∃N,Yk (z5f l z) N (y1c l z)=.ret [.dat (atV l z).length (Zz (atV l z))]:=by
 have:=w7n l z (of_decide_eq_true h) l.length 0 [] (Nat.zero_add _) (Nat.le_refl _)
 simpa [y1c] using this
def w5a (cuts:List Int) (ins:List Bool):Nat→Nat→List R2→List R2
 | 0,_,out=>out
 | k+1,i,out=>w5a cuts ins k (i+1) (bif rd ins i then (bif decide (0<out.length)&&((rd out (out.length - 1)).b == rd cuts i) then out.set (out.length - 1) ⟨(rd out (out.length - 1)).a,rd cuts (i+1)⟩ else out++[⟨rd cuts i,rd cuts (i+1)⟩]) else out)
def y0c (cuts:List Int) (ins:List Bool):List R2:=w5a cuts ins (cuts.length - 1) 0 []
def z7o (cuts:List Int) (ins:List Bool):Bool:=decide (cuts.length≤1000000∧cuts.length≤ins.length+1)
theorem y8v (cuts:List Int) (ins:List Bool) (hl:cuts.length≤1000000) (hi:cuts.length≤ins.length+1): ∀(k i:Nat) (out:List R2),k=cuts.length - 1 - i→i≤cuts.length→out.length≤i→ ∃N,Yk (Kt cuts ins) N (.to (.h0 out (i:Int)))=.ret [.dat (w5a cuts ins k i out).length (Zz (w5a cuts ins k i out))]
 | 0,i,out,h,hi2,ho=>by refine ⟨1,?_⟩;rw [Zv];simp (disch:=omega) only [Kt,Xj,Yi,Zt,Yv,Xn,Yu,Yb,Yq,Yz,Zq,Zh,Qf,Qh,decide_true,Zx,Zs,Zf,Yp,Zj,Nat.zero_add,Bool.and_true,Bool.true_and,cond_true,cond_false,Bool.not_true,Bool.not_false,Zg,w5a]
 | k+1,i,out,h,hi2,ho=>by
  unfold w5a;rcases Yn (rd ins i) with q | q
  ·rcases Yn (decide (0<out.length)&&((rd out (out.length - 1)).b == rd cuts i)) with q2 | q2
   ·obtain ⟨N,hN⟩:=y8v cuts ins hl hi k (i+1) (out.set (out.length - 1) ⟨(rd out (out.length - 1)).a,rd cuts (i+1)⟩) (by omega) (by omega) (by simp;omega);refine ⟨N+1,?_⟩;rw [Zv,q,q2];simp only [Bool.and_eq_true,decide_eq_true_eq] at q2;simp (disch:=omega) only [Kt,q,q2.2,Xj,Yi,Zt,Yv,Xn,Yu,Yb,Yq,Yz,Zq,Zh,Qf,Qh,decide_true,Zx,Zs,Zf,Yp,Zj,Nat.zero_add,Bool.and_true,Bool.true_and,cond_true,cond_false,Bool.not_true,Bool.not_false,Zg];exact hN
   ·obtain ⟨N,hN⟩:=y8v cuts ins hl hi k (i+1) (out++[⟨rd cuts i,rd cuts (i+1)⟩]) (by omega) (by omega) (by simp;omega);refine ⟨N+1,?_⟩;rw [Zv,q,q2];by_cases h0:0<out.length
    ·rw [decide_eq_true h0,Bool.true_and] at q2;simp (disch:=omega) only [Kt,q,q2,Xj,Yi,Zt,Yv,Xn,Yu,Yb,Yq,Yz,Zq,Zh,Qf,Qh,decide_true,Zx,Zs,Zf,Yp,Zj,Nat.zero_add,Bool.and_true,Bool.true_and,cond_true,cond_false,Bool.not_true,Bool.not_false,Zg];exact hN
    ·simp (disch:=omega) only [Kt,q,Xj,Yi,Zt,Yv,Xn,Yu,Yb,Yq,Yz,Zq,Zh,Qf,Qh,decide_true,Zx,Zs,Zf,Yp,Zj,Nat.zero_add,Bool.and_true,Bool.true_and,cond_true,cond_false,Bool.not_true,Bool.not_false,Zg];exact hN
  ·obtain ⟨N,hN⟩:=y8v cuts ins hl hi k (i+1) out (by omega) (by omega) (by omega);refine ⟨N+1,?_⟩;rw [Zv,q];simp (disch:=omega) only [Kt,q,Xj,Yi,Zt,Yv,Xn,Yu,Yb,Yq,Yz,Zq,Zh,Qf,Qh,decide_true,Zx,Zs,Zf,Yp,Zj,Nat.zero_add,Bool.and_true,Bool.true_and,cond_true,cond_false,Bool.not_true,Bool.not_false,Zg];exact hN
theorem v3t (cuts:List Int) (ins:List Bool) (h:z7o cuts ins=true): ∃N,Yk (Kt cuts ins) N (z6q cuts ins)=.ret [.dat (y0c cuts ins).length (Zz (y0c cuts ins))]:=by
 obtain ⟨h1,h2⟩:=of_decide_eq_true h;have:=y8v cuts ins h1 h2 (cuts.length - 1) 0 [] (by omega) (Nat.zero_le _) (Nat.le_refl _)
 simpa [z6q,y0c] using this
end Go.Am
namespace Go.Am
abbrev w8b :Nat:=70
abbrev v9u :Nat:=142
abbrev v9l :Nat:=169
abbrev v9r :Nat:=167
abbrev nHas4 :Nat:=168
abbrev v9k :Nat:=128
abbrev nXs :Nat:=165
abbrev nYs :Nat:=166
abbrev v9q :Nat:=126
abbrev v9j :Nat:=20
abbrev nAt :Nat:=127
abbrev nCuts :Nat:=125
abbrev v9p :Nat:=72
abbrev w8e :Nat:=53
abbrev nEq2 :Nat:=188
abbrev nEq4 :Nat:=172
abbrev nEq6 :Nat:=99
abbrev v9i :Nat:=200
abbrev x9v :Nat:=201
abbrev nSort :Nat:=63
abbrev x9w :Nat:=64
abbrev nFst :Nat:=187
abbrev x1w :Nat:=157
abbrev x9u :Nat:=65
abbrev w8d :Nat:=121
abbrev x9s :Nat:=120
abbrev x9r :Nat:=94
abbrev x1x :Nat:=51
abbrev x9q :Nat:=191
abbrev nSpU1 :Nat:=164
abbrev nSpE1 :Nat:=170
abbrev nSpD1 :Nat:=163
abbrev nSpU :Nat:=124
abbrev nSpE :Nat:=129
abbrev nSpD :Nat:=123
abbrev x9t :Nat:=189
abbrev nRgU :Nat:=67
abbrev nRgE :Nat:=79
abbrev nRgD :Nat:=66
abbrev w8c :Nat:=47
abbrev nSHas :Nat:=43
-- not there: gambrel/gambrelref39.Floor
abbrev nMCut :Nat:=141
abbrev w8g :Nat:=101
abbrev v9n :Nat:=52
abbrev nMOf :Nat:=15
abbrev w8f :Nat:=17
abbrev v9m :Nat:=58
abbrev y8z :Nat:=22
abbrev w8h :Nat:=24
abbrev v9o :Nat:=73
abbrev x9x :Nat:=36
abbrev v9t :Nat:=42
abbrev v9s :Nat:=37
abbrev nMv1 :Nat:=105
abbrev nMv2 :Nat:=106
abbrev nMv3 :Nat:=107
abbrev nMv4 :Nat:=108
abbrev nMv5 :Nat:=109
abbrev nMv6 :Nat:=110
abbrev nMv7 :Nat:=111
abbrev nMv8 :Nat:=112
abbrev nMv9 :Nat:=113
end Go.Am
namespace Go.Am
open Go.Proofs.Tryz
open Go.Proofs
def y3q (k:Int) (a b:Bool):Bool:=bif k == 1 then a&&b else bif k == 2 then a||b else a&& !b
def w0n (a b:Bool):Bool:=a
theorem u4z (k:Int) (a b:Bool): ∃N,Yk (x6q k a b) N (y1p k a b)=.ret [.bool (y3q k a b)]:=by
 refine ⟨0,?_⟩;unfold y1p y3q;cases a <;> cases b <;> rcases Yn (k == 1) with q | q <;> rcases Yn (k == 2) with q2 | q2 <;> rw [q] <;> (try rw [q2]) <;> rfl
theorem u5a (a b:Bool): ∃N,Yk (x6t a b) N (y9r a b)=.ret [.bool (w0n a b)]:=⟨0,rfl⟩
def fSrt :List AVal→Option (AVal×Bool)
 | [a0]=>match asL Int a0 with
  | some (L0,g0,n0)=>some (.dat (z2o L0).length (Zz (z2o L0)),isT Int n0 g0&&(Kj L0))
  | _=>none
 | _=>none
theorem u5m {S:Specs} (hS:Zu prog S):Zu prog (S.with w8b fSrt):=by
 refine z3s hS (by kernel_rfl) fun args v h=> ?_;unfold fSrt at h;split at h
 ·rename_i a0;split at h
  ·rename_i L0 g0 n0 e0;simp only [Option.some.injEq,Prod.mk.injEq,Bool.and_eq_true] at h;obtain ⟨rfl,ho0,hw⟩:=h;obtain ⟨N,hN⟩:=w6j L0 hw;exact ⟨_,_,(.cons (asL_le e0 ho0) .nil),rfl,w2f L0 N _ hN,3,rfl⟩
  ·cases h
 ·cases h
def fCan :List AVal→Option (AVal×Bool)
 | [a0,a1]=>match asL Int a0,asL Bool a1 with
  | some (L0,g0,n0),some (L1,g1,n1)=>some (.dat (y0c L0 L1).length (Zz (y0c L0 L1)),isT Int n0 g0&&(isT Bool n1 g1&&(z7o L0 L1)))
  | _,_=>none
 | _=>none
theorem u6m {S:Specs} (hS:Zu prog S):Zu prog (S.with v9u fCan):=by
 refine z3s hS (by kernel_rfl) fun args v h=> ?_;unfold fCan at h;split at h
 ·rename_i a0 a1;split at h
  ·rename_i L0 g0 n0 L1 g1 n1 e0 e1;simp only [Option.some.injEq,Prod.mk.injEq,Bool.and_eq_true] at h;obtain ⟨rfl,ho0,ho1,hw⟩:=h;obtain ⟨N,hN⟩:=v3t L0 L1 hw;exact ⟨_,_,(.cons (asL_le e0 ho0) (.cons (asL_le e1 ho1) .nil)),rfl,w7m L0 L1 N _ hN,3,rfl⟩
  ·cases h
 ·cases h
def y7o :List AVal→Option (AVal×Bool)
 | [a0,a1]=>match asL R2 a0,asL R2 a1 with
  | some (L0,g0,n0),some (L1,g1,n1)=>some (.bool (Kq L0 L1),isT R2 n0 g0&&(isT R2 n1 g1&&(Va L0 L1)))
  | _,_=>none
 | _=>none
theorem v0a {S:Specs} (hS:Zu prog S):Zu prog (S.with v9l y7o):=by
 refine z3s hS (by kernel_rfl) fun args v h=> ?_;unfold y7o at h;split at h
 ·rename_i a0 a1;split at h
  ·rename_i L0 g0 n0 L1 g1 n1 e0 e1;simp only [Option.some.injEq,Prod.mk.injEq,Bool.and_eq_true] at h;obtain ⟨rfl,ho0,ho1,hw⟩:=h;obtain ⟨N,hN⟩:=u2r L0 L1 hw;exact ⟨_,_,(.cons (asL_le e0 ho0) (.cons (asL_le e1 ho1) .nil)),rfl,v2w L0 L1 N _ hN,3,rfl⟩
  ·cases h
 ·cases h
def y7n :List AVal→Option (AVal×Bool)
 | [a0,a1]=>match asL R4 a0,asL R4 a1 with
  | some (L0,g0,n0),some (L1,g1,n1)=>some (.bool (Uo L0 L1),isT R4 n0 g0&&(isT R4 n1 g1&&(Wm L0 L1)))
  | _,_=>none
 | _=>none
theorem w9z {S:Specs} (hS:Zu prog S):Zu prog (S.with v9k y7n):=by
 refine z3s hS (by kernel_rfl) fun args v h=> ?_;unfold y7n at h;split at h
 ·rename_i a0 a1;split at h
  ·rename_i L0 g0 n0 L1 g1 n1 e0 e1;simp only [Option.some.injEq,Prod.mk.injEq,Bool.and_eq_true] at h;obtain ⟨rfl,ho0,ho1,hw⟩:=h;obtain ⟨N,hN⟩:=u2q L0 L1 hw;exact ⟨_,_,(.cons (asL_le e0 ho0) (.cons (asL_le e1 ho1) .nil)),rfl,v2v L0 L1 N _ hN,3,rfl⟩
  ·cases h
 ·cases h
def y7m :List AVal→Option (AVal×Bool)
 | [a0,a1]=>match asL R6 a0,asL R6 a1 with
  | some (L0,g0,n0),some (L1,g1,n1)=>some (.bool (Jb L0 L1),isT R6 n0 g0&&(isT R6 n1 g1&&(Vg L0 L1)))
  | _,_=>none
 | _=>none
theorem w9y {S:Specs} (hS:Zu prog S):Zu prog (S.with v9j y7m):=by
 refine z3s hS (by kernel_rfl) fun args v h=> ?_;unfold y7m at h;split at h
 ·rename_i a0 a1;split at h
  ·rename_i L0 g0 n0 L1 g1 n1 e0 e1;simp only [Option.some.injEq,Prod.mk.injEq,Bool.and_eq_true] at h;obtain ⟨rfl,ho0,ho1,hw⟩:=h;obtain ⟨N,hN⟩:=u2s L0 L1 hw;exact ⟨_,_,(.cons (asL_le e0 ho0) (.cons (asL_le e1 ho1) .nil)),rfl,v2x L0 L1 N _ hN,3,rfl⟩
  ·cases h
 ·cases h
def u6f :List AVal→Option (AVal×Bool)
 | [a0,.int .i64 x1,.int .i64 x2]=>match asL R4 a0 with
  | some (L0,g0,n0)=>some (.bool (has4V L0 x1 x2),isT R4 n0 g0&&(Qq L0 x1 x2))
  | _=>none
 | _=>none
theorem v5x {S:Specs} (hS:Zu prog S):Zu prog (S.with nHas4 u6f):=by
 refine z3s hS (by kernel_rfl) fun args v h=> ?_;unfold u6f at h;split at h
 ·rename_i a0 x1 x2;split at h
  ·rename_i L0 g0 n0 e0;simp only [Option.some.injEq,Prod.mk.injEq,Bool.and_eq_true] at h;obtain ⟨rfl,ho0,hw⟩:=h;obtain ⟨N,hN⟩:=v3d L0 x1 x2 hw;exact ⟨_,_,(.cons (asL_le e0 ho0) (.cons (.refl _) (.cons (.refl _) .nil))),rfl,w6w L0 x1 x2 N _ hN,3,rfl⟩
  ·cases h
 ·cases h
def fAt :List AVal→Option (AVal×Bool)
 | [a0,.int .i64 x1]=>match asL R6 a0 with
  | some (L0,g0,n0)=>some (.dat (atV L0 x1).length (Zz (atV L0 x1)),isT R6 n0 g0&&(z4n L0 x1))
  | _=>none
 | _=>none
theorem fAt_ok {S:Specs} (hS:Zu prog S):Zu prog (S.with nAt fAt):=by
 refine z3s hS (by kernel_rfl) fun args v h=> ?_;unfold fAt at h;split at h
 ·rename_i a0 x1;split at h
  ·rename_i L0 g0 n0 e0;simp only [Option.some.injEq,Prod.mk.injEq,Bool.and_eq_true] at h;obtain ⟨rfl,ho0,hw⟩:=h;obtain ⟨N,hN⟩:=u3n L0 x1 hw;exact ⟨_,_,(.cons (asL_le e0 ho0) (.cons (.refl _) .nil)),rfl,v3u L0 x1 N _ hN,3,rfl⟩
  ·cases h
 ·cases h
def v0d :List AVal→Option (AVal×Bool)
 | [.int .i64 x0,.bool b1,.bool b2]=>some (.bool (y3q x0 b1 b2),true)
 | _=>none
theorem v0c {S:Specs} (hS:Zu prog S):Zu prog (S.with v9r v0d):=by
 refine z3s hS (by kernel_rfl) fun args v h=> ?_;unfold v0d at h;split at h
 ·rename_i x0 b1 b2;simp only [Option.some.injEq,Prod.mk.injEq,and_true] at h;subst h;obtain ⟨N,hN⟩:=u4z x0 b1 b2;exact ⟨_,_,(.cons (.refl _) (.cons (.refl _) (.cons (.refl _) .nil))),rfl,v5o x0 b1 b2 N _ hN,3,rfl⟩
 ·cases h
def fFst :List AVal→Option (AVal×Bool)
 | [.bool b0,.bool b1]=>some (.bool (w0n b0 b1),true)
 | _=>none
theorem u6g {S:Specs} (hS:Zu prog S):Zu prog (S.with nFst fFst):=by
 refine z3s hS (by kernel_rfl) fun args v h=> ?_;unfold fFst at h;split at h
 ·rename_i b0 b1;simp only [Option.some.injEq,Prod.mk.injEq,and_true] at h;subst h;obtain ⟨N,hN⟩:=u5a b0 b1;exact ⟨_,_,(.cons (.refl _) (.cons (.refl _) .nil)),rfl,v5p b0 b1 N _ hN,3,rfl⟩
 ·cases h
theorem w3x {S:Specs} (hS:Zu prog S):Zu prog (S.with nEq2 y7o):=by
 refine z3s hS (by kernel_rfl) fun args v h=> ?_;unfold y7o at h;split at h
 ·rename_i a0 a1;split at h
  ·rename_i L0 g0 n0 L1 g1 n1 e0 e1;simp only [Option.some.injEq,Prod.mk.injEq,Bool.and_eq_true] at h;obtain ⟨rfl,ho0,ho1,hw⟩:=h;obtain ⟨N,hN⟩:=u6q L0 L1 hw;exact ⟨_,_,(.cons (asL_le e0 ho0) (.cons (asL_le e1 ho1) .nil)),rfl,v6e L0 L1 N _ hN,3,rfl⟩
  ·cases h
 ·cases h
theorem w3w {S:Specs} (hS:Zu prog S):Zu prog (S.with nEq4 y7n):=by
 refine z3s hS (by kernel_rfl) fun args v h=> ?_;unfold y7n at h;split at h
 ·rename_i a0 a1;split at h
  ·rename_i L0 g0 n0 L1 g1 n1 e0 e1;simp only [Option.some.injEq,Prod.mk.injEq,Bool.and_eq_true] at h;obtain ⟨rfl,ho0,ho1,hw⟩:=h;obtain ⟨N,hN⟩:=u6p L0 L1 hw;exact ⟨_,_,(.cons (asL_le e0 ho0) (.cons (asL_le e1 ho1) .nil)),rfl,v6d L0 L1 N _ hN,3,rfl⟩
  ·cases h
 ·cases h
theorem w3v {S:Specs} (hS:Zu prog S):Zu prog (S.with nEq6 y7m):=by
 refine z3s hS (by kernel_rfl) fun args v h=> ?_;unfold y7m at h;split at h
 ·rename_i a0 a1;split at h
  ·rename_i L0 g0 n0 L1 g1 n1 e0 e1;simp only [Option.some.injEq,Prod.mk.injEq,Bool.and_eq_true] at h;obtain ⟨rfl,ho0,ho1,hw⟩:=h;obtain ⟨N,hN⟩:=u6o L0 L1 hw;exact ⟨_,_,(.cons (asL_le e0 ho0) (.cons (asL_le e1 ho1) .nil)),rfl,v6c L0 L1 N _ hN,3,rfl⟩
  ·cases h
 ·cases h
def T1 :Specs:=((((((((((((noSpecs.with w8b fSrt).with v9u fCan).with v9l y7o).with v9k y7n).with v9j y7m).with nHas4 u6f).with nAt fAt).with v9r v0d).with nFst fFst).with nEq2 y7o).with nEq4 y7n).with nEq6 y7m)
theorem z2l :Zu prog T1:=w3v (w3w (w3x (u6g (v0c (fAt_ok (v5x (w9y (w9z (v0a (u6m (u5m Zm)))))))))))
end Go.Am
namespace Go.Am
open Go.Proofs.Tryz
open Go.Proofs
inductive rxsS where
 | h0 (v5:List Int) (v6:Int)
 | h1 (v5:List Int) (v7:Int)
def rxsC (l0:List R4) (l1:List R4):rxsS→Cfg
 | .h0 v5 v6=>⟨⟨48,0,true⟩,none,(Zd prog 165 [1,1,0,1,0,0] 0),none,(Zy prog 5),⟨Yc [(0,(.dat l0.length (Zz l0))),(1,(.dat l1.length (Zz l1))),(5,(.sla 0 1 0 v5.length (.un 1))),(6,(ii v6))],Un [⟨rows v5.length (Zz v5),3,some ⟨1,v5.length,(Zz v5)⟩⟩] 0,1,[],true⟩,[],.leaf⟩
 | .h1 v5 v7=>⟨⟨48,0,true⟩,none,(Zd prog 165 [1,1,1,0,1,0,0] 0),none,(Zy prog 5),⟨Yc [(1,(.dat l1.length (Zz l1))),(5,(.sla 0 1 0 v5.length (.un 1))),(7,(ii v7))],Un [⟨rows v5.length (Zz v5),3,some ⟨1,v5.length,(Zz v5)⟩⟩] 0,1,[],true⟩,[],.leaf⟩
def rxsN0 :List (Option (List Nat)):=[some [0,1,5,6]]
def rxsM0 :List (Option (List Nat)):=[]
def rxsN1 :List (Option (List Nat)):=[some [1,5,7]]
def rxsM1 :List (Option (List Nat)):=[]
def z1p (l0:List R4) (l1:List R4):rxsS→Xo rxsS
 | .h0 v5 v6=>(bif (decide (v6<(l0.length:Int))) then (bif ((decide (0≤v6∧v6<(l0.length:Int)))&&true) then (bif (Nat.beq 1 1&&((decide (0+v5.length=v5.length))&&decide ((v5.length+2+1)*(8+1)≤Us))) then (.to (.h0 (v5++[(rd l0 v6.toNat).a,(rd l0 v6.toNat).c]) (IntKind.wrap .i64 (v6+1)))) else .stuck) else .stuck) else (.to (.h1 v5 0)))
 | .h1 v5 v7=>(bif (decide (v7<(l1.length:Int))) then (bif ((decide (0≤v7∧v7<(l1.length:Int)))&&true) then (bif (Nat.beq 1 1&&((decide (0+v5.length=v5.length))&&decide ((v5.length+2+1)*(8+1)≤Us))) then (.to (.h1 (v5++[(rd l1 v7.toNat).a,(rd l1 v7.toNat).c]) (IntKind.wrap .i64 (v7+1)))) else .stuck) else .stuck) else (bif (Kj (cvT v5)) then (.ret [(.dat (z2o (cvT v5)).length (Zz (z2o (cvT v5))))]) else .stuck))
def y0v (l0:List R4) (l1:List R4):Xo rxsS:=(.to (.h0 ([]:List Int) 0))
theorem w2d (l0:List R4) (l1:List R4): ∀s,Xk prog (Zy prog 165) (rxsC l0 l1) (rxsC l0 l1 s) (z1p l0 l1 s)
 | .h0 v5 v6=>(lb (fun k0=>(lo fun o0=>(lo fun o1=>(sl z2l 20 [] ⟨[2],[],rxsN0,rxsM0⟩ ⟨[(5,.len (v5++[(rd l0 (tn v6)).a,(rd l0 (tn v6)).c]).length)],[.rowed 1 (v5++[(rd l0 (tn v6)).a,(rd l0 (tn v6)).c]).length (Zz (v5++[(rd l0 (tn v6)).a,(rd l0 (tn v6)).c]))],[]⟩ [true] (pp (xL (v5.length+2) (v5++[(rd l0 (tn v6)).a,(rd l0 (tn v6)).c]).length) (pp (xL (v5.length+2) (v5++[(rd l0 (tn v6)).a,(rd l0 (tn v6)).c]).length) (pp (xS (v5.length+2) (Zi (Zz v5) 0 v5.length 1 [(ii (rd l0 (tn v6)).a),(ii (rd l0 (tn v6)).c)]) (Zz (v5++[(rd l0 (tn v6)).a,(rd l0 (tn v6)).c]))) (pp (pp (xF (Zi (Zz v5) 0 v5.length 1 [(ii (rd l0 (tn v6)).a),(ii (rd l0 (tn v6)).c)])) nn) (ww o1 (ww o0 (ww o0 (tt k0 nn)))))))))))) (fun k0=>(sl z2l 17 [] ⟨[0],[],rxsN1,rxsM1⟩ ⟨[],[],[]⟩ [false] (pp (fl v5 nn) (tt k0 nn)))))
 | .h1 v5 v7=>(lb (fun k0=>(lo fun o0=>(lo fun o1=>(sl z2l 20 [] ⟨[2],[],rxsN1,rxsM1⟩ ⟨[(5,.len (v5++[(rd l1 (tn v7)).a,(rd l1 (tn v7)).c]).length)],[.rowed 1 (v5++[(rd l1 (tn v7)).a,(rd l1 (tn v7)).c]).length (Zz (v5++[(rd l1 (tn v7)).a,(rd l1 (tn v7)).c]))],[]⟩ [true] (pp (xL (v5.length+2) (v5++[(rd l1 (tn v7)).a,(rd l1 (tn v7)).c]).length) (pp (xL (v5.length+2) (v5++[(rd l1 (tn v7)).a,(rd l1 (tn v7)).c]).length) (pp (xS (v5.length+2) (Zi (Zz v5) 0 v5.length 1 [(ii (rd l1 (tn v7)).a),(ii (rd l1 (tn v7)).c)]) (Zz (v5++[(rd l1 (tn v7)).a,(rd l1 (tn v7)).c]))) (pp (pp (xF (Zi (Zz v5) 0 v5.length 1 [(ii (rd l1 (tn v7)).a),(ii (rd l1 (tn v7)).c)])) nn) (ww o1 (ww o0 (ww o0 (tt k0 nn)))))))))))) (fun k0=>(Wh (sl z2l (C':=⟨⟨48,0,true⟩,(Ui prog 165 [1,1,1,1,0] 1),(Zd prog 165 [1,1,1,1,0] 1),none,(Zy prog 5),⟨Yc [(46,(.dat v5.length (Zz v5)))],Un [] 0,0,[],true⟩,[],.leaf⟩) 13 [] ⟨[],[0],[some [46]],[]⟩ ⟨[(46,.frz v5.length v5.length (Zz v5) (Zz v5))],[],[]⟩ [false] (pp (xZ (z5p 1 1 0 v5.length v5.length (Zz v5)) v5.length (Zz v5)) (pp (xL v5.length v5.length) (pp (xS v5.length (Zz v5) (Zz v5)) (pp (fl v5 nn) (tt k0 nn)))))) (lo fun o0=>(lr 48 3 [1,1,1,1,1,1,1,0] 1 5 [(4,(.dat (z2o (cvT v5)).length (Zz (z2o (cvT v5)))))] (sl z2l 3 [] ⟨[],[],[some [4]],[]⟩ ⟨[],[],[]⟩ [] (pp (pp (xr v5) (xw o0)) nn)))))))
theorem x4p (l0:List R4) (l1:List R4):Xk prog (Zy prog 165) (rxsC l0 l1) (Ze prog 165 [(.dat l0.length (Zz l0)),(.dat l1.length (Zz l1))] true []) (y0v l0 l1):=(sl z2l 15 [(3,1,Zz ([]:List Int))] ⟨[0],[],rxsN0,rxsM0⟩ ⟨[(5,.grow 0 1)],[],[]⟩ [] (pp (fl ([]:List Int) nn) nn))
theorem v2u (l0:List R4) (l1:List R4) (n:Nat) (vs:List AVal) (h:Yk (z1p l0 l1) n (y0v l0 l1)=.ret vs):Kv prog (Zy prog 165) (Ze prog 165 [(.dat l0.length (Zz l0)),(.dat l1.length (Zz l1))] true []) vs:=by have:=Zr (w2d l0 l1) n _ (x4p l0 l1);rwa [h] at this
inductive rysS where
 | h0 (v5:List Int) (v6:Int)
 | h1 (v5:List Int) (v7:Int)
def rysC (l0:List R4) (l1:List R4):rysS→Cfg
 | .h0 v5 v6=>⟨⟨48,0,true⟩,none,(Zd prog 166 [1,1,0,1,0,0] 0),none,(Zy prog 5),⟨Yc [(0,(.dat l0.length (Zz l0))),(1,(.dat l1.length (Zz l1))),(5,(.sla 0 1 0 v5.length (.un 1))),(6,(ii v6))],Un [⟨rows v5.length (Zz v5),3,some ⟨1,v5.length,(Zz v5)⟩⟩] 0,1,[],true⟩,[],.leaf⟩
 | .h1 v5 v7=>⟨⟨48,0,true⟩,none,(Zd prog 166 [1,1,1,0,1,0,0] 0),none,(Zy prog 5),⟨Yc [(1,(.dat l1.length (Zz l1))),(5,(.sla 0 1 0 v5.length (.un 1))),(7,(ii v7))],Un [⟨rows v5.length (Zz v5),3,some ⟨1,v5.length,(Zz v5)⟩⟩] 0,1,[],true⟩,[],.leaf⟩
def rysN0 :List (Option (List Nat)):=[some [0,1,5,6]]
def rysM0 :List (Option (List Nat)):=[]
def rysN1 :List (Option (List Nat)):=[some [1,5,7]]
def rysM1 :List (Option (List Nat)):=[]
def z1o (l0:List R4) (l1:List R4):rysS→Xo rysS
 | .h0 v5 v6=>(bif (decide (v6<(l0.length:Int))) then (bif ((decide (0≤v6∧v6<(l0.length:Int)))&&true) then (bif (Nat.beq 1 1&&((decide (0+v5.length=v5.length))&&decide ((v5.length+2+1)*(8+1)≤Us))) then (.to (.h0 (v5++[(rd l0 v6.toNat).b,(rd l0 v6.toNat).d]) (IntKind.wrap .i64 (v6+1)))) else .stuck) else .stuck) else (.to (.h1 v5 0)))
 | .h1 v5 v7=>(bif (decide (v7<(l1.length:Int))) then (bif ((decide (0≤v7∧v7<(l1.length:Int)))&&true) then (bif (Nat.beq 1 1&&((decide (0+v5.length=v5.length))&&decide ((v5.length+2+1)*(8+1)≤Us))) then (.to (.h1 (v5++[(rd l1 v7.toNat).b,(rd l1 v7.toNat).d]) (IntKind.wrap .i64 (v7+1)))) else .stuck) else .stuck) else (bif (Kj (cvT v5)) then (.ret [(.dat (z2o (cvT v5)).length (Zz (z2o (cvT v5))))]) else .stuck))
def y0u (l0:List R4) (l1:List R4):Xo rysS:=(.to (.h0 ([]:List Int) 0))
theorem w2c (l0:List R4) (l1:List R4): ∀s,Xk prog (Zy prog 166) (rysC l0 l1) (rysC l0 l1 s) (z1o l0 l1 s)
 | .h0 v5 v6=>(lb (fun k0=>(lo fun o0=>(lo fun o1=>(sl z2l 20 [] ⟨[2],[],rysN0,rysM0⟩ ⟨[(5,.len (v5++[(rd l0 (tn v6)).b,(rd l0 (tn v6)).d]).length)],[.rowed 1 (v5++[(rd l0 (tn v6)).b,(rd l0 (tn v6)).d]).length (Zz (v5++[(rd l0 (tn v6)).b,(rd l0 (tn v6)).d]))],[]⟩ [true] (pp (xL (v5.length+2) (v5++[(rd l0 (tn v6)).b,(rd l0 (tn v6)).d]).length) (pp (xL (v5.length+2) (v5++[(rd l0 (tn v6)).b,(rd l0 (tn v6)).d]).length) (pp (xS (v5.length+2) (Zi (Zz v5) 0 v5.length 1 [(ii (rd l0 (tn v6)).b),(ii (rd l0 (tn v6)).d)]) (Zz (v5++[(rd l0 (tn v6)).b,(rd l0 (tn v6)).d]))) (pp (pp (xF (Zi (Zz v5) 0 v5.length 1 [(ii (rd l0 (tn v6)).b),(ii (rd l0 (tn v6)).d)])) nn) (ww o1 (ww o0 (ww o0 (tt k0 nn)))))))))))) (fun k0=>(sl z2l 17 [] ⟨[0],[],rysN1,rysM1⟩ ⟨[],[],[]⟩ [false] (pp (fl v5 nn) (tt k0 nn)))))
 | .h1 v5 v7=>(lb (fun k0=>(lo fun o0=>(lo fun o1=>(sl z2l 20 [] ⟨[2],[],rysN1,rysM1⟩ ⟨[(5,.len (v5++[(rd l1 (tn v7)).b,(rd l1 (tn v7)).d]).length)],[.rowed 1 (v5++[(rd l1 (tn v7)).b,(rd l1 (tn v7)).d]).length (Zz (v5++[(rd l1 (tn v7)).b,(rd l1 (tn v7)).d]))],[]⟩ [true] (pp (xL (v5.length+2) (v5++[(rd l1 (tn v7)).b,(rd l1 (tn v7)).d]).length) (pp (xL (v5.length+2) (v5++[(rd l1 (tn v7)).b,(rd l1 (tn v7)).d]).length) (pp (xS (v5.length+2) (Zi (Zz v5) 0 v5.length 1 [(ii (rd l1 (tn v7)).b),(ii (rd l1 (tn v7)).d)]) (Zz (v5++[(rd l1 (tn v7)).b,(rd l1 (tn v7)).d]))) (pp (pp (xF (Zi (Zz v5) 0 v5.length 1 [(ii (rd l1 (tn v7)).b),(ii (rd l1 (tn v7)).d)])) nn) (ww o1 (ww o0 (ww o0 (tt k0 nn)))))))))))) (fun k0=>(Wh (sl z2l (C':=⟨⟨48,0,true⟩,(Ui prog 166 [1,1,1,1,0] 1),(Zd prog 166 [1,1,1,1,0] 1),none,(Zy prog 5),⟨Yc [(46,(.dat v5.length (Zz v5)))],Un [] 0,0,[],true⟩,[],.leaf⟩) 13 [] ⟨[],[0],[some [46]],[]⟩ ⟨[(46,.frz v5.length v5.length (Zz v5) (Zz v5))],[],[]⟩ [false] (pp (xZ (z5p 1 1 0 v5.length v5.length (Zz v5)) v5.length (Zz v5)) (pp (xL v5.length v5.length) (pp (xS v5.length (Zz v5) (Zz v5)) (pp (fl v5 nn) (tt k0 nn)))))) (lo fun o0=>(lr 48 3 [1,1,1,1,1,1,1,0] 1 5 [(4,(.dat (z2o (cvT v5)).length (Zz (z2o (cvT v5)))))] (sl z2l 3 [] ⟨[],[],[some [4]],[]⟩ ⟨[],[],[]⟩ [] (pp (pp (xr v5) (xw o0)) nn)))))))
theorem x4o (l0:List R4) (l1:List R4):Xk prog (Zy prog 166) (rysC l0 l1) (Ze prog 166 [(.dat l0.length (Zz l0)),(.dat l1.length (Zz l1))] true []) (y0u l0 l1):=(sl z2l 15 [(3,1,Zz ([]:List Int))] ⟨[0],[],rysN0,rysM0⟩ ⟨[(5,.grow 0 1)],[],[]⟩ [] (pp (fl ([]:List Int) nn) nn))
theorem v2t (l0:List R4) (l1:List R4) (n:Nat) (vs:List AVal) (h:Yk (z1o l0 l1) n (y0u l0 l1)=.ret vs):Kv prog (Zy prog 166) (Ze prog 166 [(.dat l0.length (Zz l0)),(.dat l1.length (Zz l1))] true []) vs:=by have:=Zr (w2c l0 l1) n _ (x4o l0 l1);rwa [h] at this
inductive rcutS where
 | h0 (v5:List Int) (v6:Int)
 | h1 (v5:List Int) (v7:Int)
def u3k (l0:List R6) (l1:List R6):rcutS→Cfg
 | .h0 v5 v6=>⟨⟨52,0,true⟩,none,(Zd prog 125 [1,1,0,1,0,0] 0),none,(Zy prog 5),⟨Yc [(0,(.dat l0.length (Zz l0))),(1,(.dat l1.length (Zz l1))),(5,(.sla 0 1 0 v5.length (.un 1))),(6,(ii v6))],Un [⟨rows v5.length (Zz v5),3,some ⟨1,v5.length,(Zz v5)⟩⟩] 0,1,[],true⟩,[],.leaf⟩
 | .h1 v5 v7=>⟨⟨52,0,true⟩,none,(Zd prog 125 [1,1,1,0,1,0,0] 0),none,(Zy prog 5),⟨Yc [(1,(.dat l1.length (Zz l1))),(5,(.sla 0 1 0 v5.length (.un 1))),(7,(ii v7))],Un [⟨rows v5.length (Zz v5),3,some ⟨1,v5.length,(Zz v5)⟩⟩] 0,1,[],true⟩,[],.leaf⟩
def v9b :List (Option (List Nat)):=[some [0,1,5,6]]
def v9d :List (Option (List Nat)):=[]
def v9a :List (Option (List Nat)):=[some [1,5,7]]
def v9c :List (Option (List Nat)):=[]
def Ks (l0:List R6) (l1:List R6):rcutS→Xo rcutS
 | .h0 v5 v6=>(bif (decide (v6<(l0.length:Int))) then (bif ((decide (0≤v6∧v6<(l0.length:Int)))&&true) then (bif (Nat.beq 1 1&&((decide (0+v5.length=v5.length))&&decide ((v5.length+2+1)*(8+1)≤Us))) then (.to (.h0 (v5++[(rd l0 v6.toNat).c,(rd l0 v6.toNat).f]) (IntKind.wrap .i64 (v6+1)))) else .stuck) else .stuck) else (.to (.h1 v5 0)))
 | .h1 v5 v7=>(bif (decide (v7<(l1.length:Int))) then (bif ((decide (0≤v7∧v7<(l1.length:Int)))&&true) then (bif (Nat.beq 1 1&&((decide (0+v5.length=v5.length))&&decide ((v5.length+2+1)*(8+1)≤Us))) then (.to (.h1 (v5++[(rd l1 v7.toNat).c,(rd l1 v7.toNat).f]) (IntKind.wrap .i64 (v7+1)))) else .stuck) else .stuck) else (bif (Kj (cvT v5)) then (.ret [(.dat (z2o (cvT v5)).length (Zz (z2o (cvT v5))))]) else .stuck))
def z6o (l0:List R6) (l1:List R6):Xo rcutS:=(.to (.h0 ([]:List Int) 0))
theorem x5h (l0:List R6) (l1:List R6): ∀s,Xk prog (Zy prog 125) (u3k l0 l1) (u3k l0 l1 s) (Ks l0 l1 s)
 | .h0 v5 v6=>(lb (fun k0=>(lo fun o0=>(lo fun o1=>(sl z2l 20 [] ⟨[2],[],v9b,v9d⟩ ⟨[(5,.len (v5++[(rd l0 (tn v6)).c,(rd l0 (tn v6)).f]).length)],[.rowed 1 (v5++[(rd l0 (tn v6)).c,(rd l0 (tn v6)).f]).length (Zz (v5++[(rd l0 (tn v6)).c,(rd l0 (tn v6)).f]))],[]⟩ [true] (pp (xL (v5.length+2) (v5++[(rd l0 (tn v6)).c,(rd l0 (tn v6)).f]).length) (pp (xL (v5.length+2) (v5++[(rd l0 (tn v6)).c,(rd l0 (tn v6)).f]).length) (pp (xS (v5.length+2) (Zi (Zz v5) 0 v5.length 1 [(ii (rd l0 (tn v6)).c),(ii (rd l0 (tn v6)).f)]) (Zz (v5++[(rd l0 (tn v6)).c,(rd l0 (tn v6)).f]))) (pp (pp (xF (Zi (Zz v5) 0 v5.length 1 [(ii (rd l0 (tn v6)).c),(ii (rd l0 (tn v6)).f)])) nn) (ww o1 (ww o0 (ww o0 (tt k0 nn)))))))))))) (fun k0=>(sl z2l 17 [] ⟨[0],[],v9a,v9c⟩ ⟨[],[],[]⟩ [false] (pp (fl v5 nn) (tt k0 nn)))))
 | .h1 v5 v7=>(lb (fun k0=>(lo fun o0=>(lo fun o1=>(sl z2l 20 [] ⟨[2],[],v9a,v9c⟩ ⟨[(5,.len (v5++[(rd l1 (tn v7)).c,(rd l1 (tn v7)).f]).length)],[.rowed 1 (v5++[(rd l1 (tn v7)).c,(rd l1 (tn v7)).f]).length (Zz (v5++[(rd l1 (tn v7)).c,(rd l1 (tn v7)).f]))],[]⟩ [true] (pp (xL (v5.length+2) (v5++[(rd l1 (tn v7)).c,(rd l1 (tn v7)).f]).length) (pp (xL (v5.length+2) (v5++[(rd l1 (tn v7)).c,(rd l1 (tn v7)).f]).length) (pp (xS (v5.length+2) (Zi (Zz v5) 0 v5.length 1 [(ii (rd l1 (tn v7)).c),(ii (rd l1 (tn v7)).f)]) (Zz (v5++[(rd l1 (tn v7)).c,(rd l1 (tn v7)).f]))) (pp (pp (xF (Zi (Zz v5) 0 v5.length 1 [(ii (rd l1 (tn v7)).c),(ii (rd l1 (tn v7)).f)])) nn) (ww o1 (ww o0 (ww o0 (tt k0 nn)))))))))))) (fun k0=>(Wh (sl z2l (C':=⟨⟨52,0,true⟩,(Ui prog 125 [1,1,1,1,0] 1),(Zd prog 125 [1,1,1,1,0] 1),none,(Zy prog 5),⟨Yc [(50,(.dat v5.length (Zz v5)))],Un [] 0,0,[],true⟩,[],.leaf⟩) 13 [] ⟨[],[0],[some [50]],[]⟩ ⟨[(50,.frz v5.length v5.length (Zz v5) (Zz v5))],[],[]⟩ [false] (pp (xZ (z5p 1 1 0 v5.length v5.length (Zz v5)) v5.length (Zz v5)) (pp (xL v5.length v5.length) (pp (xS v5.length (Zz v5) (Zz v5)) (pp (fl v5 nn) (tt k0 nn)))))) (lo fun o0=>(lr 52 3 [1,1,1,1,1,1,1,0] 1 5 [(4,(.dat (z2o (cvT v5)).length (Zz (z2o (cvT v5)))))] (sl z2l 3 [] ⟨[],[],[some [4]],[]⟩ ⟨[],[],[]⟩ [] (pp (pp (xr v5) (xw o0)) nn)))))))
theorem x1k (l0:List R6) (l1:List R6):Xk prog (Zy prog 125) (u3k l0 l1) (Ze prog 125 [(.dat l0.length (Zz l0)),(.dat l1.length (Zz l1))] true []) (z6o l0 l1):=(sl z2l 15 [(3,1,Zz ([]:List Int))] ⟨[0],[],v9b,v9d⟩ ⟨[(5,.grow 0 1)],[],[]⟩ [] (pp (fl ([]:List Int) nn) nn))
theorem w7i (l0:List R6) (l1:List R6) (n:Nat) (vs:List AVal) (h:Yk (Ks l0 l1) n (z6o l0 l1)=.ret vs):Kv prog (Zy prog 125) (Ze prog 125 [(.dat l0.length (Zz l0)),(.dat l1.length (Zz l1))] true []) vs:=by have:=Zr (x5h l0 l1) n _ (x1k l0 l1);rwa [h] at this
end Go.Am
namespace Go.Am
open Go.Proofs.Tryz
open Go.Proofs
def z2r (l:List R4):List Int:=l.flatMap fun r=>[r.a,r.c]
def z1i (l:List R4):List Int:=l.flatMap fun r=>[r.b,r.d]
def z2q (l:List R6):List Int:=l.flatMap fun r=>[r.c,r.f]
def xsV (l m:List R4):List Int:=z2o (z2r l++z2r m)
def y0l (l m:List R4):Bool:=decide (l.length≤10000∧m.length≤10000)
theorem Qs (l:List R4):(z2r l).length =2*l.length:=by
 induction l with
 | nil=>rfl
 | cons r l ih=>show (_::_::z2r l).length =_;simp only [List.length_cons,ih];omega
theorem y5t (l:List R4) (i:Nat) (h:i<l.length):z2r (l.drop i)=z2r [rd l i]++z2r (l.drop (i+1)):=by rw [Ya h];rfl
theorem v8b (l m:List R4) (hl:l.length≤10000) (hm:m.length≤10000): ∀(k i:Nat) (out:List Int),i+k=m.length→out.length=2*l.length+2*i→ ∃N,Yk (z1p l m) N (.to (.h1 out (i:Int)))=.ret [.dat (z2o (out++z2r (m.drop i))).length (Zz (z2o (out++z2r (m.drop i))))]
 | 0,i,out,h,ho=>by refine ⟨1,?_⟩;have hw:Kj out=true:=decide_eq_true (by omega);rw [Zv,List.drop_eq_nil_of_le (show m.length≤i by omega),show z2r []=[] from rfl,List.append_nil];simp (disch:=omega) only [z1p,Xj,Yi,Zt,Yv,Xn,Yu,Yb,Yq,Yz,Zq,Zh,Qf,Qh,decide_true,Zx,Zs,Zf,Yp,Zj,Nat.zero_add,Bool.and_true,Bool.true_and,cond_true,cond_false,Bool.not_true,Bool.not_false,Zg,Zb,Zk,Vf,Ys,hw]
 | k+1,i,out,h,ho=>by obtain ⟨N,hN⟩:=v8b l m hl hm k (i+1) (out++z2r [rd m i]) (by omega) (by rw [List.length_append,Qs];simp;omega);refine ⟨N+1,?_⟩;rw [y5t m i (by omega),←List.append_assoc,Zv];simp (disch:=omega) only [z1p,Xj,Yi,Zt,Yv,Xn,Yu,Yb,Yq,Yz,Zq,Zh,Qf,Qh,decide_true,Zx,Zs,Zf,Yp,Zj,Nat.zero_add,Bool.and_true,Bool.true_and,cond_true,cond_false,Bool.not_true,Bool.not_false,Zg,Zb,Zk,Vf,Ys];exact hN
theorem v8c (l m:List R4) (hl:l.length≤10000) (hm:m.length≤10000): ∀(k i:Nat) (out:List Int),i+k=l.length→out.length=2*i→ ∃N,Yk (z1p l m) N (.to (.h0 out (i:Int)))=.ret [.dat (z2o (out++z2r (l.drop i)++z2r m)).length (Zz (z2o (out++z2r (l.drop i)++z2r m)))]
 | 0,i,out,h,ho=>by obtain ⟨N,hN⟩:=v8b l m hl hm m.length 0 out (Nat.zero_add _) (by omega);refine ⟨N+1,?_⟩;rw [Zv,List.drop_eq_nil_of_le (show l.length≤i by omega),show z2r []=[] from rfl,List.append_nil];simp (disch:=omega) only [z1p,Xj,Yi,Zt,Yv,Xn,Yu,Yb,Yq,Yz,Zq,Zh,Qf,Qh,decide_true,Zx,Zs,Zf,Yp,Zj,Nat.zero_add,Bool.and_true,Bool.true_and,cond_true,cond_false,Bool.not_true,Bool.not_false,Zg,Zb,Zk,Vf,Ys];exact hN
 | k+1,i,out,h,ho=>by obtain ⟨N,hN⟩:=v8c l m hl hm k (i+1) (out++z2r [rd l i]) (by omega) (by rw [List.length_append,Qs];simp;omega);refine ⟨N+1,?_⟩;rw [y5t l i (by omega),←List.append_assoc,Zv];simp (disch:=omega) only [z1p,Xj,Yi,Zt,Yv,Xn,Yu,Yb,Yq,Yz,Zq,Zh,Qf,Qh,decide_true,Zx,Zs,Zf,Yp,Zj,Nat.zero_add,Bool.and_true,Bool.true_and,cond_true,cond_false,Bool.not_true,Bool.not_false,Zg,Zb,Zk,Vf,Ys];exact hN
theorem u2o (l m:List R4) (h:y0l l m=true): ∃N,Yk (z1p l m) N (y0v l m)=.ret [.dat (xsV l m).length (Zz (xsV l m))]:=by
 obtain ⟨h1,h2⟩:=of_decide_eq_true h;have:=v8c l m h1 h2 l.length 0 [] (Nat.zero_add _) rfl
 simpa [y0v,xsV] using this
def ysV (l m:List R4):List Int:=z2o (z1i l++z1i m)
def y0k (l m:List R4):Bool:=decide (l.length≤10000∧m.length≤10000)
theorem Qr (l:List R4):(z1i l).length =2*l.length:=by
 induction l with
 | nil=>rfl
 | cons r l ih=>show (_::_::z1i l).length =_;simp only [List.length_cons,ih];omega
theorem y5s (l:List R4) (i:Nat) (h:i<l.length):z1i (l.drop i)=z1i [rd l i]++z1i (l.drop (i+1)):=by rw [Ya h];rfl
theorem v7z (l m:List R4) (hl:l.length≤10000) (hm:m.length≤10000): ∀(k i:Nat) (out:List Int),i+k=m.length→out.length=2*l.length+2*i→ ∃N,Yk (z1o l m) N (.to (.h1 out (i:Int)))=.ret [.dat (z2o (out++z1i (m.drop i))).length (Zz (z2o (out++z1i (m.drop i))))]
 | 0,i,out,h,ho=>by refine ⟨1,?_⟩;have hw:Kj out=true:=decide_eq_true (by omega);rw [Zv,List.drop_eq_nil_of_le (show m.length≤i by omega),show z1i []=[] from rfl,List.append_nil];simp (disch:=omega) only [z1o,Xj,Yi,Zt,Yv,Xn,Yu,Yb,Yq,Yz,Zq,Zh,Qf,Qh,decide_true,Zx,Zs,Zf,Yp,Zj,Nat.zero_add,Bool.and_true,Bool.true_and,cond_true,cond_false,Bool.not_true,Bool.not_false,Zg,Zb,Zk,Vf,Ys,hw]
 | k+1,i,out,h,ho=>by obtain ⟨N,hN⟩:=v7z l m hl hm k (i+1) (out++z1i [rd m i]) (by omega) (by rw [List.length_append,Qr];simp;omega);refine ⟨N+1,?_⟩;rw [y5s m i (by omega),←List.append_assoc,Zv];simp (disch:=omega) only [z1o,Xj,Yi,Zt,Yv,Xn,Yu,Yb,Yq,Yz,Zq,Zh,Qf,Qh,decide_true,Zx,Zs,Zf,Yp,Zj,Nat.zero_add,Bool.and_true,Bool.true_and,cond_true,cond_false,Bool.not_true,Bool.not_false,Zg,Zb,Zk,Vf,Ys];exact hN
theorem v8a (l m:List R4) (hl:l.length≤10000) (hm:m.length≤10000): ∀(k i:Nat) (out:List Int),i+k=l.length→out.length=2*i→ ∃N,Yk (z1o l m) N (.to (.h0 out (i:Int)))=.ret [.dat (z2o (out++z1i (l.drop i)++z1i m)).length (Zz (z2o (out++z1i (l.drop i)++z1i m)))]
 | 0,i,out,h,ho=>by obtain ⟨N,hN⟩:=v7z l m hl hm m.length 0 out (Nat.zero_add _) (by omega);refine ⟨N+1,?_⟩;rw [Zv,List.drop_eq_nil_of_le (show l.length≤i by omega),show z1i []=[] from rfl,List.append_nil];simp (disch:=omega) only [z1o,Xj,Yi,Zt,Yv,Xn,Yu,Yb,Yq,Yz,Zq,Zh,Qf,Qh,decide_true,Zx,Zs,Zf,Yp,Zj,Nat.zero_add,Bool.and_true,Bool.true_and,cond_true,cond_false,Bool.not_true,Bool.not_false,Zg,Zb,Zk,Vf,Ys];exact hN
 | k+1,i,out,h,ho=>by obtain ⟨N,hN⟩:=v8a l m hl hm k (i+1) (out++z1i [rd l i]) (by omega) (by rw [List.length_append,Qr];simp;omega);refine ⟨N+1,?_⟩;rw [y5s l i (by omega),←List.append_assoc,Zv];simp (disch:=omega) only [z1o,Xj,Yi,Zt,Yv,Xn,Yu,Yb,Yq,Yz,Zq,Zh,Qf,Qh,decide_true,Zx,Zs,Zf,Yp,Zj,Nat.zero_add,Bool.and_true,Bool.true_and,cond_true,cond_false,Bool.not_true,Bool.not_false,Zg,Zb,Zk,Vf,Ys];exact hN
theorem u2n (l m:List R4) (h:y0k l m=true): ∃N,Yk (z1o l m) N (y0u l m)=.ret [.dat (ysV l m).length (Zz (ysV l m))]:=by
 obtain ⟨h1,h2⟩:=of_decide_eq_true h;have:=v8a l m h1 h2 l.length 0 [] (Nat.zero_add _) rfl
 simpa [y0u,ysV] using this
def Vx (l m:List R6):List Int:=z2o (z2q l++z2q m)
def z7l (l m:List R6):Bool:=decide (l.length≤10000∧m.length≤10000)
theorem Qo (l:List R6):(z2q l).length =2*l.length:=by
 induction l with
 | nil=>rfl
 | cons r l ih=>show (_::_::z2q l).length =_;simp only [List.length_cons,ih];omega
theorem y5p (l:List R6) (i:Nat) (h:i<l.length):z2q (l.drop i)=z2q [rd l i]++z2q (l.drop (i+1)):=by rw [Ya h];rfl
theorem w7g (l m:List R6) (hl:l.length≤10000) (hm:m.length≤10000): ∀(k i:Nat) (out:List Int),i+k=m.length→out.length=2*l.length+2*i→ ∃N,Yk (Ks l m) N (.to (.h1 out (i:Int)))=.ret [.dat (z2o (out++z2q (m.drop i))).length (Zz (z2o (out++z2q (m.drop i))))]
 | 0,i,out,h,ho=>by refine ⟨1,?_⟩;have hw:Kj out=true:=decide_eq_true (by omega);rw [Zv,List.drop_eq_nil_of_le (show m.length≤i by omega),show z2q []=[] from rfl,List.append_nil];simp (disch:=omega) only [Ks,Xj,Yi,Zt,Yv,Xn,Yu,Yb,Yq,Yz,Zq,Zh,Qf,Qh,decide_true,Zx,Zs,Zf,Yp,Zj,Nat.zero_add,Bool.and_true,Bool.true_and,cond_true,cond_false,Bool.not_true,Bool.not_false,Zg,Zb,Zk,Vf,Ys,hw]
 | k+1,i,out,h,ho=>by obtain ⟨N,hN⟩:=w7g l m hl hm k (i+1) (out++z2q [rd m i]) (by omega) (by rw [List.length_append,Qo];simp;omega);refine ⟨N+1,?_⟩;rw [y5p m i (by omega),←List.append_assoc,Zv];simp (disch:=omega) only [Ks,Xj,Yi,Zt,Yv,Xn,Yu,Yb,Yq,Yz,Zq,Zh,Qf,Qh,decide_true,Zx,Zs,Zf,Yp,Zj,Nat.zero_add,Bool.and_true,Bool.true_and,cond_true,cond_false,Bool.not_true,Bool.not_false,Zg,Zb,Zk,Vf,Ys];exact hN
theorem w7h (l m:List R6) (hl:l.length≤10000) (hm:m.length≤10000): ∀(k i:Nat) (out:List Int),i+k=l.length→out.length=2*i→ ∃N,Yk (Ks l m) N (.to (.h0 out (i:Int)))=.ret [.dat (z2o (out++z2q (l.drop i)++z2q m)).length (Zz (z2o (out++z2q (l.drop i)++z2q m)))]
 | 0,i,out,h,ho=>by obtain ⟨N,hN⟩:=w7g l m hl hm m.length 0 out (Nat.zero_add _) (by omega);refine ⟨N+1,?_⟩;rw [Zv,List.drop_eq_nil_of_le (show l.length≤i by omega),show z2q []=[] from rfl,List.append_nil];simp (disch:=omega) only [Ks,Xj,Yi,Zt,Yv,Xn,Yu,Yb,Yq,Yz,Zq,Zh,Qf,Qh,decide_true,Zx,Zs,Zf,Yp,Zj,Nat.zero_add,Bool.and_true,Bool.true_and,cond_true,cond_false,Bool.not_true,Bool.not_false,Zg,Zb,Zk,Vf,Ys];exact hN
 | k+1,i,out,h,ho=>by obtain ⟨N,hN⟩:=w7h l m hl hm k (i+1) (out++z2q [rd l i]) (by omega) (by rw [List.length_append,Qo];simp;omega);refine ⟨N+1,?_⟩;rw [y5p l i (by omega),←List.append_assoc,Zv];simp (disch:=omega) only [Ks,Xj,Yi,Zt,Yv,Xn,Yu,Yb,Yq,Yz,Zq,Zh,Qf,Qh,decide_true,Zx,Zs,Zf,Yp,Zj,Nat.zero_add,Bool.and_true,Bool.true_and,cond_true,cond_false,Bool.not_true,Bool.not_false,Zg,Zb,Zk,Vf,Ys];exact hN
theorem v3r (l m:List R6) (h:z7l l m=true): ∃N,Yk (Ks l m) N (z6o l m)=.ret [.dat (Vx l m).length (Zz (Vx l m))]:=by
 obtain ⟨h1,h2⟩:=of_decide_eq_true h;have:=w7h l m h1 h2 l.length 0 [] (Nat.zero_add _) rfl
 simpa [z6o,Vx] using this
def fXs :List AVal→Option (AVal×Bool)
 | [a0,a1]=>match asL R4 a0,asL R4 a1 with
  | some (L0,g0,n0),some (L1,g1,n1)=>some (.dat (xsV L0 L1).length (Zz (xsV L0 L1)),isT R4 n0 g0&&(isT R4 n1 g1&&(y0l L0 L1)))
  | _,_=>none
 | _=>none
theorem fXs_ok {S:Specs} (hS:Zu prog S):Zu prog (S.with nXs fXs):=by
 refine z3s hS (by kernel_rfl) fun args v h=> ?_;unfold fXs at h;split at h
 ·rename_i a0 a1;split at h
  ·rename_i L0 g0 n0 L1 g1 n1 e0 e1;simp only [Option.some.injEq,Prod.mk.injEq,Bool.and_eq_true] at h;obtain ⟨rfl,ho0,ho1,hw⟩:=h;obtain ⟨N,hN⟩:=u2o L0 L1 hw;exact ⟨_,_,(.cons (asL_le e0 ho0) (.cons (asL_le e1 ho1) .nil)),rfl,v2u L0 L1 N _ hN,3,rfl⟩
  ·cases h
 ·cases h
def fYs :List AVal→Option (AVal×Bool)
 | [a0,a1]=>match asL R4 a0,asL R4 a1 with
  | some (L0,g0,n0),some (L1,g1,n1)=>some (.dat (ysV L0 L1).length (Zz (ysV L0 L1)),isT R4 n0 g0&&(isT R4 n1 g1&&(y0k L0 L1)))
  | _,_=>none
 | _=>none
theorem fYs_ok {S:Specs} (hS:Zu prog S):Zu prog (S.with nYs fYs):=by
 refine z3s hS (by kernel_rfl) fun args v h=> ?_;unfold fYs at h;split at h
 ·rename_i a0 a1;split at h
  ·rename_i L0 g0 n0 L1 g1 n1 e0 e1;simp only [Option.some.injEq,Prod.mk.injEq,Bool.and_eq_true] at h;obtain ⟨rfl,ho0,ho1,hw⟩:=h;obtain ⟨N,hN⟩:=u2n L0 L1 hw;exact ⟨_,_,(.cons (asL_le e0 ho0) (.cons (asL_le e1 ho1) .nil)),rfl,v2t L0 L1 N _ hN,3,rfl⟩
  ·cases h
 ·cases h
def u6k :List AVal→Option (AVal×Bool)
 | [a0,a1]=>match asL R6 a0,asL R6 a1 with
  | some (L0,g0,n0),some (L1,g1,n1)=>some (.dat (Vx L0 L1).length (Zz (Vx L0 L1)),isT R6 n0 g0&&(isT R6 n1 g1&&(z7l L0 L1)))
  | _,_=>none
 | _=>none
theorem v5y {S:Specs} (hS:Zu prog S):Zu prog (S.with nCuts u6k):=by
 refine z3s hS (by kernel_rfl) fun args v h=> ?_;unfold u6k at h;split at h
 ·rename_i a0 a1;split at h
  ·rename_i L0 g0 n0 L1 g1 n1 e0 e1;simp only [Option.some.injEq,Prod.mk.injEq,Bool.and_eq_true] at h;obtain ⟨rfl,ho0,ho1,hw⟩:=h;obtain ⟨N,hN⟩:=v3r L0 L1 hw;exact ⟨_,_,(.cons (asL_le e0 ho0) (.cons (asL_le e1 ho1) .nil)),rfl,w7i L0 L1 N _ hN,3,rfl⟩
  ·cases h
 ·cases h
def T2 :Specs:=((T1.with nXs fXs).with nYs fYs).with nCuts u6k
theorem z9c :Zu prog T2:=v5y (fYs_ok (fXs_ok z2l))
end Go.Am
namespace Go.Am
open Go.Proofs.Tryz
open Go.Proofs
inductive rjoS where
 | h0 (v9:List R4) (v10:List R2) (v11:Int) (v12:Int)
 | h1 (v9:List R4) (v10:List R2) (v11:Int) (v12:Int) (v13:List Bool) (v14:Int)
 | h2 (v9:List R4) (v10:List R2) (v11:Int) (v12:Int) (v15:List R2) (v17:Int)
 | h3 (v9:List R4) (v10:List R2) (v11:Int) (v12:Int) (v16:Int)
abbrev z9j (x0:Int) (l1:List R4) (l2:List R4) (v12:Int) (v14:Int):=(y3q x0 (has4V (cvT l1) (rd (xsV (cvT l1) (cvT l2)) (tn v12)) (rd (ysV (cvT l1) (cvT l2)) (tn v14))) (has4V (cvT l2) (rd (xsV (cvT l1) (cvT l2)) (tn v12)) (rd (ysV (cvT l1) (cvT l2)) (tn v14))))
abbrev y6l (v9:List R4) (v16:Int) (l1:List R4) (l2:List R4) (v12:Int):=(v9.set (0+(tn v16)) (R4.mk (rd v9 (0+(tn v16))).a (rd v9 (0+(tn v16))).b (rd (xsV (cvT l1) (cvT l2)) (tn (wr (v12+1)))) (rd v9 (0+(tn v16))).d))
abbrev y6k (v9:List R4) (l1:List R4) (l2:List R4) (v12:Int) (v15:List R2) (v17:Int):=(v9++[(R4.mk (rd (xsV (cvT l1) (cvT l2)) (tn v12)) (rd v15 (tn v17)).a (rd (xsV (cvT l1) (cvT l2)) (tn (wr (v12+1)))) (rd v15 (tn v17)).b)])
abbrev Ki (l1:List R4) (l2:List R4):=(ysV (cvT l1) (cvT l2))
def x9e (l1:List R4) (l2:List R4):AVal:=(.dat (xsV (cvT l1) (cvT l2)).length (Zz (xsV (cvT l1) (cvT l2))))
def x9d (l1:List R4) (l2:List R4):AVal:=(.dat (Ki l1 l2).length (Zz (Ki l1 l2)))
def rjoC (x0:Int) (l1:List R4) (l2:List R4):rjoS→Cfg
 | .h0 v9 v10 v11 v12=>⟨⟨121,0,true⟩,none,(Zd prog 126 [1,1,1,1,1,0,1,0,0] 0),none,(Zy prog 8),⟨Yc [(0,(ii x0)),(1,(.dat l1.length (Zz l1))),(2,(.dat l2.length (Zz l2))),(7,(x9e l1 l2)),(8,(x9d l1 l2)),(9,(.sla 0 4 0 v9.length (.un 4))),(10,(.dat v10.length (Zz v10))),(11,(ii v11)),(12,(ii v12))],Un [⟨rows v9.length (Zz v9),88,some ⟨4,v9.length,(Zz v9)⟩⟩] 0,1,[],true⟩,[],.leaf⟩
 | .h1 v9 v10 v11 v12 v13 v14=>⟨⟨121,0,true⟩,none,(Zd prog 126 [1,1,1,1,1,0,1,0,0,1,0,0,1,0,1,0,0] 0),none,(Zy prog 8),⟨Yc [(0,(ii x0)),(1,(.dat l1.length (Zz l1))),(2,(.dat l2.length (Zz l2))),(7,(x9e l1 l2)),(8,(x9d l1 l2)),(9,(.sla 1 4 0 v9.length (.un 4))),(10,(.dat v10.length (Zz v10))),(11,(ii v11)),(12,(ii v12)),(13,(.sla 0 1 0 v13.length (.un 1))),(14,(ii v14))],Un [⟨rows v13.length (Zz v13),4,some ⟨1,v13.length,(Zz v13)⟩⟩,⟨rows v9.length (Zz v9),88,some ⟨4,v9.length,(Zz v9)⟩⟩] 0,2,[],true⟩,[],.leaf⟩
 | .h2 v9 v10 v11 v12 v15 v17=>⟨⟨121,0,true⟩,none,(Zd prog 126 [1,1,1,1,1,0,1,0,0,1,0,0,1,1,1,1,1,1,0,0] 0),none,(Zy prog 8),⟨Yc [(0,(ii x0)),(1,(.dat l1.length (Zz l1))),(2,(.dat l2.length (Zz l2))),(7,(x9e l1 l2)),(8,(x9d l1 l2)),(9,(.sla 0 4 0 v9.length (.un 4))),(10,(.dat v10.length (Zz v10))),(11,(ii v11)),(12,(ii v12)),(15,(.dat v15.length (Zz v15))),(17,(ii v17))],Un [⟨rows v9.length (Zz v9),88,some ⟨4,v9.length,(Zz v9)⟩⟩] 0,1,[],true⟩,[],.leaf⟩
 | .h3 v9 v10 v11 v12 v16=>⟨⟨121,0,true⟩,none,(Zd prog 126 [1,1,1,1,1,0,1,0,0,1,0,0,1,1,1,0,1,0,0,1,0,0] 0),none,(Zy prog 8),⟨Yc [(0,(ii x0)),(1,(.dat l1.length (Zz l1))),(2,(.dat l2.length (Zz l2))),(7,(x9e l1 l2)),(8,(x9d l1 l2)),(9,(.sla 0 4 0 v9.length (.un 4))),(10,(.dat v10.length (Zz v10))),(11,(ii v11)),(12,(ii v12)),(16,(ii v16))],Un [⟨rows v9.length (Zz v9),88,some ⟨4,v9.length,(Zz v9)⟩⟩] 0,1,[],true⟩,[],.leaf⟩
def u3a :List (Option (List Nat)):=[some [0,1,2,7,8,9,10,11,12]]
def u3c :List (Option (List Nat)):=[]
def rjoN1 :List (Option (List Nat)):=[some [0,1,2,7,8,9,10,11,12,13,14]]
def rjoM1 :List (Option (List Nat)):=[]
def u2z :List (Option (List Nat)):=[some [0,1,2,7,8,9,10,11,12,15,17]]
def u3b :List (Option (List Nat)):=[]
def rjoN3 :List (Option (List Nat)):=[some [0,1,2,7,8,9,10,11,12,16]]
def rjoM3 :List (Option (List Nat)):=[]
def Vw (x0:Int) (l1:List R4) (l2:List R4):rjoS→Xo rjoS
 | .h0 v9 v10 v11 v12=>(bif (decide ((IntKind.wrap .i64 (v12+1))<(((xsV (cvT l1) (cvT l2)).length :Nat):Int))) then (.to (.h1 v9 v10 v11 v12 ([]:List Bool) 0)) else (.ret [(.dat v9.length (Zz v9))]))
 | .h1 v9 v10 v11 v12 v13 v14=>(bif (decide (v14<(((ysV (cvT l1) (cvT l2)).length :Nat):Int))) then (bif (Qq (cvT l1) (rd (xsV (cvT l1) (cvT l2)) v12.toNat) (rd (ysV (cvT l1) (cvT l2)) v14.toNat)) then (bif ((decide (0≤v12∧v12<(((xsV (cvT l1) (cvT l2)).length :Nat):Int)))&&true) then (bif ((decide (0≤v14∧v14<(((ysV (cvT l1) (cvT l2)).length :Nat):Int)))&&true) then (bif (Qq (cvT l2) (rd (xsV (cvT l1) (cvT l2)) v12.toNat) (rd (ysV (cvT l1) (cvT l2)) v14.toNat)) then (bif (Nat.beq 1 1&&((decide (0+v13.length=v13.length))&&decide ((v13.length+1+1)*(1+1)≤Us))) then (.to (.h1 v9 v10 v11 v12 (v13++[(y3q x0 (has4V (cvT l1) (rd (xsV (cvT l1) (cvT l2)) v12.toNat) (rd (ysV (cvT l1) (cvT l2)) v14.toNat)) (has4V (cvT l2) (rd (xsV (cvT l1) (cvT l2)) v12.toNat) (rd (ysV (cvT l1) (cvT l2)) v14.toNat)))]) (IntKind.wrap .i64 (v14+1)))) else .stuck) else .stuck) else .stuck) else .stuck) else .stuck) else (bif (z7o (cvT (ysV (cvT l1) (cvT l2))) (cvT v13)) then (bif (decide (v12>0)) then (bif (Va (cvT (y0c (cvT (ysV (cvT l1) (cvT l2))) (cvT v13))) (cvT v10)) then (bif (Kq (cvT (y0c (cvT (ysV (cvT l1) (cvT l2))) (cvT v13))) (cvT v10)) then (.to (.h3 v9 v10 v11 v12 v11)) else (.to (.h2 v9 (y0c (cvT (ysV (cvT l1) (cvT l2))) (cvT v13)) (v9.length:Int) v12 (y0c (cvT (ysV (cvT l1) (cvT l2))) (cvT v13)) 0))) else .stuck) else (.to (.h2 v9 (y0c (cvT (ysV (cvT l1) (cvT l2))) (cvT v13)) (v9.length:Int) v12 (y0c (cvT (ysV (cvT l1) (cvT l2))) (cvT v13)) 0))) else .stuck))
 | .h2 v9 v10 v11 v12 v15 v17=>(bif (decide (v17<(v15.length:Int))) then (bif ((decide (0≤v12∧v12<(((xsV (cvT l1) (cvT l2)).length :Nat):Int)))&&true) then (bif ((decide (0≤(IntKind.wrap .i64 (v12+1))∧(IntKind.wrap .i64 (v12+1))<(((xsV (cvT l1) (cvT l2)).length :Nat):Int)))&&true) then (bif ((decide (0≤v17∧v17<(v15.length:Int)))&&true) then (bif (Nat.beq 4 4&&((decide (0+v9.length=v9.length))&&decide ((v9.length+1+1)*(32+1)≤Us))) then (.to (.h2 (v9++[(R4.mk (rd (xsV (cvT l1) (cvT l2)) v12.toNat) (rd v15 v17.toNat).a (rd (xsV (cvT l1) (cvT l2)) (Int.toNat (IntKind.wrap .i64 (v12+1)))) (rd v15 v17.toNat).b)]) v10 v11 v12 v15 (IntKind.wrap .i64 (v17+1)))) else .stuck) else .stuck) else .stuck) else .stuck) else (.to (.h0 v9 v10 v11 (IntKind.wrap .i64 (v12+1)))))
 | .h3 v9 v10 v11 v12 v16=>(bif (decide (v16<(v9.length:Int))) then (bif ((decide (0≤(IntKind.wrap .i64 (v12+1))∧(IntKind.wrap .i64 (v12+1))<(((xsV (cvT l1) (cvT l2)).length :Nat):Int)))&&true) then (bif ((decide (0≤v16∧v16<(v9.length:Int)))&&true) then (bif (decide ((0+v16.toNat)<v9.length)) then (.to (.h3 (v9.set (0+v16.toNat) (R4.mk (rd v9 (0+v16.toNat)).a (rd v9 (0+v16.toNat)).b (rd (xsV (cvT l1) (cvT l2)) (Int.toNat (IntKind.wrap .i64 (v12+1)))) (rd v9 (0+v16.toNat)).d)) v10 v11 v12 (IntKind.wrap .i64 (v16+1)))) else .stuck) else .stuck) else .stuck) else (.to (.h0 v9 v10 v11 (IntKind.wrap .i64 (v12+1)))))
def y1a (x0:Int) (l1:List R4) (l2:List R4):Xo rjoS:=(bif (y0l (cvT l1) (cvT l2)) then (bif (y0k (cvT l1) (cvT l2)) then (.to (.h0 ([]:List R4) ([]:List R2) 0 0)) else .stuck) else .stuck)
theorem w2j (x0:Int) (l1:List R4) (l2:List R4): ∀s,Xk prog (Zy prog 126) (rjoC x0 l1 l2) (rjoC x0 l1 l2 s) (Vw x0 l1 l2 s)
 | .h0 v9 v10 v11 v12=>(lb (fun k0=>(sl z9c 24 [(4,1,Zz ([]:List Bool))] ⟨[1,0],[],rjoN1,rjoM1⟩ ⟨[(13,.grow 0 1)],[],[]⟩ [true] (pp (fl ([]:List Bool) (fl v9 nn)) (tt k0 nn)))) (fun k0=>(lr 121 3 [1,1,1,1,1,1,1,0] 1 8 [(6,(.dat v9.length (Zz v9)))] (sl z9c 16 [] ⟨[],[0],[some [6]],[]⟩ ⟨[(6,.frz v9.length v9.length (Zz v9) (Zz v9))],[],[]⟩ [false] (pp (xZ (z5p 4 4 0 v9.length v9.length (Zz v9)) v9.length (Zz v9)) (pp (xL v9.length v9.length) (pp (xS v9.length (Zz v9) (Zz v9)) (pp (fl v9 nn) (tt k0 nn)))))))))
 | .h1 v9 v10 v11 v12 v13 v14=>(lb (fun k0=>(lo fun o0=>(lo fun o1=>(lo fun o2=>(lo fun o3=>(lo fun o4=>(sl z9c 20 [] ⟨[3,1],[],rjoN1,rjoM1⟩ ⟨[(13,.len (v13++[(z9j x0 l1 l2 v12 v14)]).length)],[.rowed 1 (v13++[(z9j x0 l1 l2 v12 v14)]).length (Zz (v13++[(z9j x0 l1 l2 v12 v14)])),.keep],[]⟩ [true] (pp (xL (v13.length+1) (v13++[(z9j x0 l1 l2 v12 v14)]).length) (pp (xL (v13.length+1) (v13++[(z9j x0 l1 l2 v12 v14)]).length) (pp (xS (v13.length+1) (Zi (Zz v13) 0 v13.length 1 [(.bool (z9j x0 l1 l2 v12 v14))]) (Zz (v13++[(z9j x0 l1 l2 v12 v14)]))) (pp (pp (xF (Zi (Zz v13) 0 v13.length 1 [(.bool (z9j x0 l1 l2 v12 v14))])) (fl v9 nn)) (ww o4 (pp (pp (xr l2) (xw o3)) (ww o2 (ww o1 (pp (pp (xr l1) (xw o0)) (ww o2 (ww o1 (tt k0 nn))))))))))))))))))) (fun k0=>(Wh (sl z9c (C':=⟨⟨121,0,true⟩,(Ui prog 126 [1,1,1,1,1,0,1,0,0,1,0,0,1,1,0] 2),(Zd prog 126 [1,1,1,1,1,0,1,0,0,1,0,0,1,1,0] 1),none,(Zy prog 8),⟨Yc [(0,(ii x0)),(1,(.dat l1.length (Zz l1))),(2,(.dat l2.length (Zz l2))),(7,(.dat (xsV (cvT l1) (cvT l2)).length (Zz (xsV (cvT l1) (cvT l2))))),(8,(.dat (Ki l1 l2).length (Zz (Ki l1 l2)))),(9,(.sla 0 4 0 v9.length (.un 4))),(10,(.dat v10.length (Zz v10))),(11,(ii v11)),(12,(ii v12)),(62,(.dat (Ki l1 l2).length (Zz (Ki l1 l2)))),(63,(.dat v13.length (Zz v13)))],Un [⟨rows v9.length (Zz v9),88,some ⟨4,v9.length,(Zz v9)⟩⟩] 0,1,[],true⟩,[],.leaf⟩) 14 [] ⟨[1],[0],[some [0,1,2,7,8,9,10,11,12,62,63]],[]⟩ ⟨[(63,.frz v13.length v13.length (Zz v13) (Zz v13))],[],[]⟩ [false] (pp (xZ (z5p 1 1 0 v13.length v13.length (Zz v13)) v13.length (Zz v13)) (pp (xL v13.length v13.length) (pp (xS v13.length (Zz v13) (Zz v13)) (pp (fl v9 nn) (pp (fl v13 nn) (tt k0 nn))))))) (lo fun aG=>(lb (fun k1=>(lo fun bS=>(lb (fun k2=>(sl z9c 23 [] ⟨[0],[],rjoN3,rjoM3⟩ ⟨[],[],[]⟩ (trs 4 []) (pp (fl v9 nn) (tt k2 (pp (pp (xI R2 (y0c (cvT (Ki l1 l2)) (cvT v13)).length (Zz (y0c (cvT (Ki l1 l2)) (cvT v13)))) (pp (xr v10) (xw bS))) (tt k1 (pp (pp (xI Int (Ki l1 l2).length (Zz (Ki l1 l2))) (pp (xr v13) (xw aG))) nn))))))) (fun k2=>(sl z9c 30 [] ⟨[0],[],u2z,u3b⟩ ⟨[],[],[]⟩ (trs 3 [false]) (pp (fl v9 nn) (tt k2 (pp (pp (xI R2 (y0c (cvT (Ki l1 l2)) (cvT v13)).length (Zz (y0c (cvT (Ki l1 l2)) (cvT v13)))) (pp (xr v10) (xw bS))) (tt k1 (pp (pp (xI Int (Ki l1 l2).length (Zz (Ki l1 l2))) (pp (xr v13) (xw aG))) nn)))))))))) (fun k1=>(sl z9c 30 [] ⟨[0],[],u2z,u3b⟩ ⟨[],[],[]⟩ (bl 4 0) (pp (fl v9 nn) (tt k1 (pp (pp (xI Int (Ki l1 l2).length (Zz (Ki l1 l2))) (pp (xr v13) (xw aG))) nn))))))))))
 | .h2 v9 v10 v11 v12 v15 v17=>(lb (fun k0=>(lo fun o0=>(lo fun o1=>(lo fun o2=>(lo fun o3=>(sl z9c 20 [] ⟨[2],[],u2z,u3b⟩ ⟨[(9,.len (y6k v9 l1 l2 v12 v15 v17).length)],[.rowed 4 (y6k v9 l1 l2 v12 v15 v17).length (Zz (y6k v9 l1 l2 v12 v15 v17))],[]⟩ [true] (pp (xL (v9.length+1) (y6k v9 l1 l2 v12 v15 v17).length) (pp (xL (v9.length+1) (y6k v9 l1 l2 v12 v15 v17).length) (pp (xS (v9.length+1) (Zi (Zz v9) 0 v9.length 4 [(ii (rd (xsV (cvT l1) (cvT l2)) (tn v12))),(ii (rd v15 (tn v17)).a),(ii (rd (xsV (cvT l1) (cvT l2)) (tn (wr (v12+1))))),(ii (rd v15 (tn v17)).b)]) (Zz (y6k v9 l1 l2 v12 v15 v17))) (pp (pp (xF (Zi (Zz v9) 0 v9.length 4 [(ii (rd (xsV (cvT l1) (cvT l2)) (tn v12))),(ii (rd v15 (tn v17)).a),(ii (rd (xsV (cvT l1) (cvT l2)) (tn (wr (v12+1))))),(ii (rd v15 (tn v17)).b)])) nn) (ww o3 (ww o2 (ww o1 (ww o2 (ww o0 (tt k0 nn)))))))))))))))) (fun k0=>(sl z9c 17 [] ⟨[0],[],u3a,u3c⟩ ⟨[],[],[]⟩ [false] (pp (fl v9 nn) (tt k0 nn)))))
 | .h3 v9 v10 v11 v12 v16=>(lb (fun k0=>(lo fun o0=>(lo fun o1=>(lo fun o2=>(sl z9c 31 [] ⟨[0],[],rjoN3,rjoM3⟩ ⟨[(9,.len (y6l v9 v16 l1 l2 v12).length)],[.rowed 4 (y6l v9 v16 l1 l2 v12).length (Zz (y6l v9 v16 l1 l2 v12))],[]⟩ [true] (pp (xL v9.length (y6l v9 v16 l1 l2 v12).length) (pp (xL v9.length (y6l v9 v16 l1 l2 v12).length) (pp (xS v9.length (Xe (Zz v9) (0+(tn v16)) 2 [(ii (rd (xsV (cvT l1) (cvT l2)) (tn (wr (v12+1)))))]) (Zz (y6l v9 v16 l1 l2 v12))) (pp (pp (xF (Xe (Zz v9) (0+(tn v16)) 2 [(ii (rd (xsV (cvT l1) (cvT l2)) (tn (wr (v12+1)))))])) nn) (ww o2 (ww o1 (ww o0 (tt k0 nn))))))))))))) (fun k0=>(sl z9c 17 [] ⟨[0],[],u3a,u3c⟩ ⟨[],[],[]⟩ [false] (pp (fl v9 nn) (tt k0 nn)))))
theorem x4x (x0:Int) (l1:List R4) (l2:List R4):Xk prog (Zy prog 126) (rjoC x0 l1 l2) (Ze prog 126 [(.int .i64 x0),(.dat l1.length (Zz l1)),(.dat l2.length (Zz l2))] true []) (y1a x0 l1 l2):=(lo fun o0=>(lo fun o1=>(sl z9c 34 [(88,4,Zz ([]:List R4))] ⟨[0],[],u3a,u3c⟩ ⟨[(9,.grow 0 4),(10,.list 0 (Zz ([]:List R2)))],[],[]⟩ [] (pp (fl ([]:List R4) nn) (pp (pp (xr l1) (pp (xr l2) (xw o1))) (pp (pp (xr l1) (pp (xr l2) (xw o0))) nn))))))
theorem v3b (x0:Int) (l1:List R4) (l2:List R4) (n:Nat) (vs:List AVal) (h:Yk (Vw x0 l1 l2) n (y1a x0 l1 l2)=.ret vs):Kv prog (Zy prog 126) (Ze prog 126 [(.int .i64 x0),(.dat l1.length (Zz l1)),(.dat l2.length (Zz l2))] true []) vs:=by have:=Zr (w2j x0 l1 l2) n _ (x4x x0 l1 l2);rwa [h] at this
end Go.Am
namespace Go.Am
open Go.Proofs
theorem z1b : ∀(l out:List Int),(l.foldl y3o out).length ≤out.length+l.length
 | [],out=>Nat.le_refl _
 | x::l,out=>Nat.le_trans (z1b l (y3o out x)) (by have:=y3n out x;simp;omega)
theorem z4y (l:List Int):(z2o l).length ≤l.length:=by
 have:=z1b l []
 simpa [z2o] using this
theorem y4f (cuts:List Int) (ins:List Bool): ∀(k i:Nat) (out:List R2),(w5a cuts ins k i out).length ≤out.length+k
 | 0,_,out=>Nat.le_refl _
 | k+1,i,out=>by
  unfold w5a;refine Nat.le_trans (y4f cuts ins k (i+1) _) ?_;cases rd ins i
  ·simp only [cond_false];omega
  ·simp only [cond_true];cases (decide (0<out.length)&&((rd out (out.length - 1)).b == rd cuts i)) <;> simp <;> omega
theorem x7u (cuts:List Int) (ins:List Bool):(y0c cuts ins).length ≤cuts.length:=by have:=y4f cuts ins (cuts.length - 1) 0 [];unfold y0c;simp only [List.length_nil] at this;omega
section
variable (kind:Int) (l m:List R4)
def v6m (x:Int) (y:Int):Bool:=y3q kind (has4V l x y) (has4V m x y)
def x8v (x:Int):List R2:=y0c (ysV l m) ((ysV l m).map (v6m kind l m x))
def v1v (out:List R4) (first:Nat) (x:Int):List R4:=out.take first++(out.drop first).map fun r=>⟨r.a,r.b,x,r.d⟩
def u3q (x x':Int) (s:List R2):List R4:=s.map fun p=>⟨x,p.a,x',p.b⟩
def jF :Nat→Nat→List R4→List R2→Nat→List R4
 | 0,_,out,_,_=>out
 | k+1,i,out,last,first=>
  bif decide (0<i)&&Kq (x8v kind l m (rd (xsV l m) i)) last then jF k (i+1) (v1v out first (rd (xsV l m) (i+1))) last first
  else jF k (i+1) (out++u3q (rd (xsV l m) i) (rd (xsV l m) (i+1)) (x8v kind l m (rd (xsV l m) i))) (x8v kind l m (rd (xsV l m) i)) out.length
def joV :List R4:=jF kind l m ((xsV l m).length - 1) 0 [] [] 0
end
def z0h (_:Int) (l m:List R4):Bool:=decide (l.length≤10000∧m.length≤10000)
theorem Jr (l m:List R4):(xsV l m).length ≤2*l.length+2*m.length:=by refine Nat.le_trans (z4y _) ?_;rw [List.length_append,Qs,Qs];omega
theorem y5q (l m:List R4):(ysV l m).length ≤2*l.length+2*m.length:=by refine Nat.le_trans (z4y _) ?_;rw [List.length_append,Qr,Qr];omega
section
variable (kind:Int) (l m:List R4) (hl:l.length≤10000) (hm:m.length≤10000)
include hl hm
theorem v8m (out:List R4) (last:List R2) (first:Int) (i:Nat) (hi:i+1<(xsV l m).length): ∀(k j:Nat) (acc:List Bool),j+k=(ysV l m).length →acc.length=j→
  ∃n,∀N,Yk (Vw kind l m) (N+n) (.to (.h1 out last first (i:Int) acc (j:Int)))=Yk (Vw kind l m) N (.to (.h1 out last first (i:Int) (acc++((ysV l m).drop j).map (v6m kind l m (rd (xsV l m) i))) ((ysV l m).length :Int)))
 | 0,j,acc,h,ha=>by refine ⟨0,fun N=> ?_⟩;rw [List.drop_eq_nil_of_le (by omega),List.map_nil,List.append_nil,Nat.add_zero];rw [show j=(ysV l m).length by omega]
 | k+1,j,acc,h,ha=>by
  have hx:=Jr l m;have hy:=y5q l m;obtain ⟨n,hn⟩:=v8m out last first i hi k (j+1) (acc++[v6m kind l m (rd (xsV l m) i) (rd (ysV l m) j)]) (by omega) (by simp [ha])
  refine ⟨n+1,fun N=> ?_⟩;have w1: ∀x y,Qq l x y=true:=fun x y=>decide_eq_true (by omega);have w2: ∀x y,Qq m x y=true:=fun x y=>decide_eq_true (by omega);rw [Ya (show j<(ysV l m).length by omega),List.map_cons,←Nat.add_assoc,Zv];simp (disch:=omega) only [Vw,Zb,Zk,w1,w2,Zt,Yz,Yb,Yq,Zh,Zq,Zx,Yp,Zj,Nat.zero_add,decide_true,Bool.and_true,Bool.true_and,cond_true];have:=hn N;rw [List.append_assoc] at this;exact this
theorem v8l (last:List R2) (first:Int) (i:Nat) (hi:i+1<(xsV l m).length) (s:List R2) (hs:s.length≤1000000): ∀(k j:Nat) (out:List R4),j+k=s.length→out.length≤10000000000+j→
  ∃n,∀N,Yk (Vw kind l m) (N+n) (.to (.h2 out last first (i:Int) s (j:Int)))=Yk (Vw kind l m) N (.to (.h0 (out++u3q (rd (xsV l m) i) (rd (xsV l m) (i+1)) (s.drop j)) last first ((i+1:Nat):Int)))
 | 0,j,out,h,ho=>by have hx:=Jr l m;refine ⟨1,fun N=> ?_⟩;rw [List.drop_eq_nil_of_le (by omega),Zv];simp (disch:=omega) only [Vw,Zb,Zk,Yv,Zq,Zx,cond_false,u3q,List.map_nil,List.append_nil]
 | k+1,j,out,h,ho=>by
  have hx:=Jr l m;obtain ⟨n,hn⟩:=v8l last first i hi s hs k (j+1) (out++u3q (rd (xsV l m) i) (rd (xsV l m) (i+1)) [rd s j]) (by omega) (by simp [u3q];omega)
  refine ⟨n+1,fun N=> ?_⟩;have:=hn N;rw [Ya (show j<s.length by omega),←Nat.add_assoc,Zv];simp (disch:=omega) only [Vw,Zb,Zk,Zt,Yz,Yb,Yq,Zh,Zq,Zx,Yp,Zj,Nat.zero_add,decide_true,Bool.and_true,Bool.true_and,cond_true];rw [List.append_assoc] at this;exact this
theorem v6a (out:List R4) (j:Nat) (x:Int) (h:j<out.length):v1v (out.set j ⟨(rd out j).a,(rd out j).b,x,(rd out j).d⟩) (j+1) x=v1v out j x:=by
 have _uhl:=hl;have _uhm:=hm;unfold v1v;rw [Ya h,List.map_cons];have e1:(out.set j ⟨(rd out j).a,(rd out j).b,x,(rd out j).d⟩).take (j+1)=out.take j++[⟨(rd out j).a,(rd out j).b,x,(rd out j).d⟩]:=by
  apply List.ext_getElem
  ·simp;omega
  ·intro n h1 h2;simp only [List.getElem_take,List.getElem_set];by_cases e:j=n
   ·subst e;rw [if_pos rfl,List.getElem_append_right (by simp only [List.length_take];omega)];simp
   ·rw [if_neg e,List.getElem_append_left (by simp at h1 ⊢;omega),List.getElem_take]
 have e2:(out.set j ⟨(rd out j).a,(rd out j).b,x,(rd out j).d⟩).drop (j+1)=out.drop (j+1):=by rw [List.drop_set];rw [if_pos (by omega)]
 rw [e1,e2,List.append_assoc];rfl
theorem v8k (last:List R2) (first:Int) (i:Nat) (hi:i+1<(xsV l m).length): ∀(k j:Nat) (out:List R4),j+k=out.length→out.length≤10000000000→
  ∃n,∀N,Yk (Vw kind l m) (N+n) (.to (.h3 out last first (i:Int) (j:Int)))=Yk (Vw kind l m) N (.to (.h0 (v1v out j (rd (xsV l m) (i+1))) last first ((i+1:Nat):Int)))
 | 0,j,out,h,ho=>by
  have hx:=Jr l m;refine ⟨1,fun N=> ?_⟩;have e:v1v out j (rd (xsV l m) (i+1))=out:=by unfold v1v;rw [List.drop_eq_nil_of_le (by omega),List.map_nil,List.append_nil,List.take_of_length_le (by omega)]
  rw [e,Zv];simp (disch:=omega) only [Vw,Zb,Zk,Yv,Zq,Zx,cond_false]
 | k+1,j,out,h,ho=>by
  have hx:=Jr l m;obtain ⟨n,hn⟩:=v8k last first i hi k (j+1) (out.set j ⟨(rd out j).a,(rd out j).b,rd (xsV l m) (i+1),(rd out j).d⟩) (by simp;omega) (by simpa using ho)
  refine ⟨n+1,fun N=> ?_⟩;have:=hn N;rw [v6a l m hl hm out j _ (by omega)] at this;rw [←Nat.add_assoc,Zv];simp (disch:=omega) only [Vw,Zb,Zk,Zt,Yz,Yu,Yb,Yq,Zh,Zq,Zx,Yp,Zj,Nat.zero_add,decide_true,Bool.and_true,Bool.true_and,cond_true];exact this
theorem w6u : ∀(k i:Nat) (out:List R4) (last:List R2) (first:Nat),k=(xsV l m).length - 1 - i→i≤(xsV l m).length →out.length≤i*40000→last.length≤40000→first≤out.length→
  ∃n,Yk (Vw kind l m) n (.to (.h0 out last (first:Int) (i:Int)))=.ret [.dat (jF kind l m k i out last first).length (Zz (jF kind l m k i out last first))]
 | 0,i,out,last,first,h,hi,ho,hla,hf=>by have hx:=Jr l m;refine ⟨1,?_⟩;rw [Zv];simp (disch:=omega) only [Vw,Zb,Zk,Yv,Zq,Zx,cond_false,Zg,jF]
 | k+1,i,out,last,first,h,hi,ho,hla,hf=>by
  have hx:=Jr l m;have hy:=y5q l m;have hi1:i+1<(xsV l m).length :=by omega
  have hsl:(x8v kind l m (rd (xsV l m) i)).length ≤40000:=Nat.le_trans (x7u _ _) (by omega);have hbig:i*40000≤40000*40000:=Nat.mul_le_mul_right _ (by omega);obtain ⟨n1,h1⟩:=v8m kind l m hl hm out last first i hi1 (ysV l m).length 0 [] (Nat.zero_add _) rfl
  simp only [List.drop_zero,List.nil_append,z5w] at h1;have w3:z7o (ysV l m) ((ysV l m).map (v6m kind l m (rd (xsV l m) i)))=true:=decide_eq_true ⟨by omega,by rw [List.length_map];omega⟩;have w4:Va (y0c (ysV l m) ((ysV l m).map (v6m kind l m (rd (xsV l m) i)))) last=true:=decide_eq_true (Nat.le_trans hsl (by omega));have hy2:((ysV l m).length :Int)=(((ysV l m).length :Nat):Int):=rfl;unfold jF;rcases Yn (decide (0<i)&&Kq (x8v kind l m (rd (xsV l m) i)) last) with q | q
  ·obtain ⟨n3,h3⟩:=v8k kind l m hl hm last first i hi1 (out.length - first) first out (by omega) (by omega)
   obtain ⟨n0,h0⟩:=w6u k (i+1) (v1v out first (rd (xsV l m) (i+1))) last first (by omega) (by omega) (by simp [v1v];omega) hla (by simp [v1v];omega)
   refine ⟨n0+n3+1+n1+1,?_⟩;rw [q,cond_true,Zv];simp only [Bool.and_eq_true,decide_eq_true_eq] at q;have q2:Kq (y0c (ysV l m) ((ysV l m).map (v6m kind l m (rd (xsV l m) i)))) last=true:=q.2;simp (disch:=omega) only [Vw,Zb,Zk,Zt,Zq,Zx,cond_true];have h1':=h1 (n0+n3+1);rw [h1',Zv];simp (disch:=omega) only [Vw,Zb,Zk,Yv,Yi,q2,w3,w4,cond_true,cond_false];rw [h3 n0,h0]
  ·obtain ⟨n2,h2⟩:=v8l kind l m hl hm (x8v kind l m (rd (xsV l m) i)) (out.length:Int) i hi1 (x8v kind l m (rd (xsV l m) i)) (by omega) (x8v kind l m (rd (xsV l m) i)).length 0 out (Nat.zero_add _) (by omega);obtain ⟨n0,h0⟩:=w6u k (i+1) (out++u3q (rd (xsV l m) i) (rd (xsV l m) (i+1)) (x8v kind l m (rd (xsV l m) i))) (x8v kind l m (rd (xsV l m) i)) out.length (by omega) (by omega) (by simp [u3q];omega) hsl (by simp);refine ⟨n0+n2+1+n1+1,?_⟩;rw [q,cond_false,Zv];simp (disch:=omega) only [Vw,Zb,Zk,Zt,Zq,Zx,cond_true];have h1':=h1 (n0+n2+1);rw [h1',Zv];have h2':=h2 n0;simp only [List.drop_zero,z5w] at h2';by_cases hi0:0<i
   ·rw [decide_eq_true hi0,Bool.true_and] at q;have q2:Kq (y0c (ysV l m) ((ysV l m).map (v6m kind l m (rd (xsV l m) i)))) last=false:=q;simp (disch:=omega) only [Vw,Zb,Zk,Yv,Yi,q2,w3,w4,cond_true,cond_false];rw [←h0];exact h2'
   ·simp (disch:=omega) only [Vw,Zb,Zk,Yv,Xj,w3,w4,cond_true,cond_false];rw [←h0];exact h2'
end
theorem u2y (kind:Int) (l m:List R4) (h:z0h kind l m=true): ∃N,Yk (Vw kind l m) N (y1a kind l m)=.ret [.dat (joV kind l m).length (Zz (joV kind l m))]:=by obtain ⟨hl,hm⟩:=of_decide_eq_true h;obtain ⟨N,hN⟩:=w6u kind l m hl hm ((xsV l m).length - 1) 0 [] [] 0 rfl (Nat.zero_le _) (Nat.zero_le _) (Nat.zero_le _) (Nat.le_refl _);refine ⟨N,?_⟩;have w1:y0l l m=true:=decide_eq_true ⟨hl,hm⟩;have w2:y0k l m=true:=decide_eq_true ⟨hl,hm⟩;simp only [y1a,Zb,Zk,w1,w2,cond_true];exact hN
end Go.Am
namespace Go.Am
open Go.Proofs.Tryz
open Go.Proofs
theorem w4x {P:Program} {S:Specs} (hS:Zu P S) {f:FuncId} {F:List AVal→Option (AVal×Bool)} (hf:(P.funcs[f]?).any (fun fn=>fn.body.isSome)=true)
  (hF: ∀args v,F args=some (v,true)→ ∃bs vs,Ws VLe args bs∧(∀(ρ:Rho) (u:Value),Yy ρ (Je vs) u→Yy ρ v u)∧Kv P (Zy P f) (Ze P f bs true []) vs∧ ∃d,pf d (Je vs)=true):Zu P (S.with f F):=
 w1e hS hf fun args v h=>by obtain ⟨bs,vs,h1,h2,h3,d,h4⟩:=hF args v h;exact ⟨vs,h2,x2r h1 h3,d,h4⟩
theorem z2w {cs cs':List AVal} (h:RLe cs cs') (ρ:Rho) (u:Value) (hv:Yy ρ (.tup cs) u):Yy ρ (.tup cs') u:=by
 cases hv with
 | tup _ vs hl hh=>exact .tup cs' vs (by rw [←h.len];exact hl) fun i h1 h2=>h.sound i (by rw [h.len];exact h1) h1 (hh i (by rw [h.len];exact h1) h2)
theorem z5j (α:Type) [Yh α]:VLe .nils (.dat ([]:List α).length (Zz ([]:List α))):=.nild _
def fJo :List AVal→Option (AVal×Bool)
 | [.int .i64 x0,a1,a2]=>match asL R4 a1,asL R4 a2 with
  | some (L1,g1,n1),some (L2,g2,n2)=>some (.dat (joV x0 L1 L2).length (Zz (joV x0 L1 L2)),isT R4 n1 g1&&(isT R4 n2 g2&&(z0h x0 L1 L2)))
  | _,_=>none
 | _=>none
theorem fJo_ok {S:Specs} (hS:Zu prog S):Zu prog (S.with v9q fJo):=by
 refine z3s hS (by kernel_rfl) fun args v h=> ?_;unfold fJo at h;split at h
 ·rename_i x0 a1 a2;split at h
  ·rename_i L1 g1 n1 L2 g2 n2 e1 e2;simp only [Option.some.injEq,Prod.mk.injEq,Bool.and_eq_true] at h;obtain ⟨rfl,ho1,ho2,hw⟩:=h;obtain ⟨N,hN⟩:=u2y x0 L1 L2 hw;exact ⟨_,_,(.cons (.refl _) (.cons (asL_le e1 ho1) (.cons (asL_le e2 ho2) .nil))),rfl,v3b x0 L1 L2 N _ hN,3,rfl⟩
  ·cases h
 ·cases h
def T3 :Specs:=T2.with v9q fJo
theorem z9b :Zu prog T3:=fJo_ok z9c
end Go.Am
namespace Go.Am
open Go.Proofs Go.Sort
def bnd3 (r:R3):Bool:=decide (-1000000000≤r.a∧r.a≤1000000000)
def y0d (l:List R3):Bool:=l.all bnd3
abbrev E3 :={r:R3 // bnd3 r=true}
instance : Inhabited E3:=⟨⟨⟨0,0,0⟩,rfl⟩⟩
def cf3 (x y:E3):Int:=x.1.a - y.1.a
def lt3 (x y:E3):Bool:=decide (cf3 x y<0)
theorem swo3 :SWO lt3 where
 irrefl x:=by unfold lt3 cf3;simp
 trans x y z h1 h2:=by unfold lt3 cf3 at*;simp at*;omega
 ntrans x y z h1 h2:=by unfold lt3 cf3 at*;simp at*;omega
def x0o :(l:List R3)→y0d l=true→List E3
 | [],_=>[]
 | r::l,h=>⟨r,by simp [y0d] at h;exact h.1⟩::x0o l (by simp [y0d] at h ⊢;exact h.2)
theorem y1w : ∀(l:List R3) (h:y0d l=true),(x0o l h).map Subtype.val=l
 | [],_=>rfl
 | r::l,h=>by rw [x0o,List.map_cons,y1w l]
theorem Ky (l:List R3) (h:y0d l=true):(x0o l h).length =l.length:=by
 have:=congrArg List.length (y1w l h)
 simpa using this
def z0a (l:List R3):List R3:=if h:y0d l=true then (pdq lt3 (x0o l h).toArray 0 l.length (Lib.bitLen l.length) true true).toList.map Subtype.val else l
theorem Kk (l:List R3) (h:y0d l=true):(z0a l).Perm l∧ ∀i j,i<j→j<(z0a l).length →(rd (z0a l) i).a ≤(rd (z0a l) j).a :=by
 have hp:=pdq_sorts lt3 swo3 (x0o l h).toArray 0 l.length (Lib.bitLen l.length) true true (Nat.zero_le _) (by simp [Ky]) (Or.inl rfl);obtain ⟨⟨h1,h2,h3⟩,h4⟩:=hp;have e:z0a l=(pdq lt3 (x0o l h).toArray 0 l.length (Lib.bitLen l.length) true true).toList.map Subtype.val:=by unfold z0a;rw [dif_pos h]
 generalize pdq lt3 (x0o l h).toArray 0 l.length (Lib.bitLen l.length) true true=d at*;have hs:d.size=l.length:=by rw [h1];simp [Ky]
 constructor
 ·rw [e];have x1:(d.extract 0 l.length).toList =d.toList:=by rw [←hs];simp
  have x2:((x0o l h).toArray.extract 0 l.length).toList =x0o l h:=by rw [show l.length=(x0o l h).toArray.size by simp [Ky]];simp
  rw [x1,x2] at h3;have:=h3.map Subtype.val;rw [y1w] at this;exact this
 ·intro i j hij hj;rw [e] at hj ⊢;have hj':j<d.size:=by simpa using hj
  have:=h4 i j (Nat.zero_le _) hij (by omega);rw [getElem!_pos d i (by omega),getElem!_pos d j hj'] at this;rw [Xv (by simp;omega),Xv hj];simp only [List.getElem_map,Array.getElem_toList];unfold lt3 cf3 at this;have:=of_decide_eq_false this;omega
end Go.Am
namespace Go.Am
open Go.Sort Go.RowKit Go.Proofs Go.Shelf
variable {P:Program} {ρ:Rho}
def valOf :AVal→Value
 | .int k n=>.int k n
 | .bool b=>.bool b
 | _=>.tuple #[]
def x6n :AVal→Bool
 | .int _ _=>true
 | .bool _=>true
 | _=>false
theorem w5f {a:AVal} (h:x6n a=true):Yy ρ a (valOf a):=by
 cases a <;> first
  | exact .int _ _
  | exact .bool _
  | (simp [x6n] at h;done)
theorem w7d {a:AVal} {v:Value} (h:x6n a=true) (hv:Yy ρ a v):v=valOf a:=by
 cases hv <;> first
  | rfl
  | (simp [x6n] at h;done)
class u0z (α:Type) extends Yh α where
 num: ∀a:α,(cells a).all x6n=true
instance : u0z R2 where num _:=rfl
instance : u0z R3 where num _:=rfl
instance : u0z R4 where num _:=rfl
instance : u0z R6 where num _:=rfl
instance {α :Type} [Yh α]:Inhabited α:=⟨Yh.d⟩
section
variable {α:Type} [u0z α]
def y7s (a:α):List Value:=(Yh.cells a).map valOf
theorem y4a (a:α):(y7s a).length =Yh.w α:=by rw [y7s,List.length_map,Yh.len]
theorem w0q (L:List α) (t:Nat) (h:t<L.length*Yh.w α):(flatK y7s (Yh.w α) L.toArray)[t]? =(Yh.cells (rd L (t / Yh.w α)))[t %Yh.w α]?.map valOf:=by
 have hw:=Yh.pos (α:=α);have hq:t / Yh.w α<L.length:=Nat.div_lt_of_lt_mul (by rw [Nat.mul_comm];exact h);have hj:t %Yh.w α<Yh.w α:=Nat.mod_lt _ hw;have hs:t<(flatK y7s (Yh.w α) L.toArray).size :=by rw [size_flatK];exact h
 rw [Array.getElem?_eq_getElem hs,←getElem!_pos (flatK y7s (Yh.w α) L.toArray) t hs,get_flatK y7s (Yh.w α) L.toArray t (by simpa using h)];have e1:L.toArray[t / Yh.w α]! =rd L (t / Yh.w α):=by rw [Xv hq,getElem!_pos L.toArray _ (by simpa using hq)];simp
 rw [e1];have hl:t %Yh.w α<(y7s (rd L (t / Yh.w α))).length :=by rw [y4a];exact hj
 have hl2:t %Yh.w α<(Yh.cells (rd L (t / Yh.w α))).length :=by rw [Yh.len];exact hj
 rw [getElem!_pos (y7s (rd L (t / Yh.w α))) _ hl,List.getElem?_eq_getElem hl2];simp [y7s]
theorem w6p (L:List α) (N t:Nat) (h:t<N*Yh.w α):(rows N (Zz L))[t]? =(Yh.cells (rd L (t / Yh.w α)))[t %Yh.w α]? :=by have hw:=Yh.pos (α:=α);have:=Wn (get:=Zz L) (sz:=Yh.w α) N (fun _ _=>Yh.len _) (t / Yh.w α) (t %Yh.w α) (Nat.div_lt_of_lt_mul (by rw [Nat.mul_comm];exact h)) (Nat.mod_lt _ hw);rw [show t / Yh.w α*Yh.w α+t %Yh.w α=t by rw [Nat.mul_comm];exact Nat.div_add_mod t _] at this;exact this
theorem z0s (L:List α) (N:Nat):(rows N (Zz L)).length =N*Yh.w α:=Yj N fun _ _=>Yh.len _
theorem y3r (w:World) (n blk off:Nat) (d:Array Value) (os:Array Obj) (k:Nat) (hk:k<w.heap.size):
  (grow (putRow id (Go.Sort.ahead w n) blk off d) os).heap[k]? =if k=blk then (w.heap[k]?).map (onCells (putCells id off d)) else w.heap[k]? :=by
 show (((Go.Sort.ahead w n).heap.modify blk (onCells (putCells id off d)))++os)[k]? =_;rw [Array.getElem?_append_left (by simp;exact hk),Array.getElem?_modify];show (if blk=k then _ else _)=_;by_cases h:k=blk
 ·rw [if_pos h.symm,if_pos h];rfl
 ·rw [if_neg (fun e=>h e.symm),if_neg h];rfl
def w0s (α:Type) [Yh α] (srt:List α→List α) (bnd:List α→Bool) (g:FuncId) (args:List AVal) (mem:Mem):Option (AVal×Nat×ABlk×Bool):=match args with
 | [.sla b sz off n cap,.fn f []]=>bif Nat.beq f g then match Yd mem b with
  | some ⟨_,ty,some A⟩=>some (.tup [],b,⟨rows A.n (Zz (srt (lst α n A.get))),ty,some ⟨Yh.w α,A.n,Zz (srt (lst α n A.get))⟩⟩,
    Nat.beq sz (Yh.w α)&&(Nat.beq A.sz (Yh.w α)&&(Nat.beq off 0&&((decide (n=A.n)&&(isT α n A.get&&decide (n<4611686018427387904)))&&bnd (lst α n A.get)))))
  | _=>none
  else none
 | _=>none
theorem v0i {f g:FuncId} {srt:List α→List α} {bnd:List α→Bool} (hsl: ∀L,(srt L).length =L.length)
  (hC: ∀(blk off cap:Nat) (L:List α) (w:World),bnd L=true→HoldsK y7s (Yh.w α) w blk off L.toArray→blk<w.heap.size→L.length<4611686018427387904→
   Calls P f #[.slice (some ⟨blk,off,none⟩) L.length cap,.func (.func g) #[] #[]] w fun e w'=>e=.returned (.tuple #[])∧ ∃n os,w'=sortWorldK y7s (Yh.w α) w blk off n (srt L).toArray os)
  (hN: ∀(p:Option Addr) (cap:Nat) (fv:Value) (w:World),Calls P f #[.slice p 0 cap,fv] w fun e w'=>e=.returned (.tuple #[])∧w'=w):x3n P f (w0s α srt bnd g):=by
 intro args mem v b blk h fA ρ next floor vals w hfl cY cU
 have hw0:=Yh.pos (α:=α);unfold w0s at h;split at h
 ·rename_i b0 sz off n cap f0;obtain ⟨hfg,h'⟩:=Qy h;clear h;obtain rfl:=Nat.eq_of_beq_eq_true hfg;have h:=h';clear h';split at h
  ·rename_i cells ty A hm;obtain ⟨asz,an,get⟩:=A;simp only [Option.some.injEq,Prod.mk.injEq,Bool.and_eq_true] at h;obtain ⟨rfl,rfl,rfl,h1,h2,h3,⟨h4,h5,h6⟩,h7⟩:=h;have g1:=Nat.eq_of_beq_eq_true h1;have g2:=Nat.eq_of_beq_eq_true h2;have g3:=Nat.eq_of_beq_eq_true h3;have g4:n=an:=of_decide_eq_true h4;have h6:n<4611686018427387904:=of_decide_eq_true h6;have g2:asz=Yh.w α:=g2;subst g1;subst g2;subst g3;subst g4;have h7:bnd (lst α n get.get)=true:=h7;have dD:=w0j h5;have dD: ∀i,i<n→get.get i=Zz (lst α n get.get) i:=dD;have hrows:rows n get.get=rows n (Zz (lst α n get.get)):=z4a n dD;obtain ⟨u,hu,hvals⟩: ∃u,Yy ρ (.sla b0 (Yh.w α) 0 n cap) u∧vals= #[u,.func (.func f0) #[] #[]]:=by
    obtain ⟨vl⟩:=vals;cases cY with
    | cons q1 q2=>cases q2 with
     | cons q3 q4=>
      cases q4;cases q3 with
      | fn _ _ cvs hl _=>have:cvs= #[]:=Array.eq_empty_of_size_eq_zero (by simpa using hl.symm);subst this;exact ⟨_,q1,rfl⟩
   subst hvals;have hlt:b0<next:=by
    rcases Nat.lt_or_ge b0 next with q | q
    ·exact q
    ·have:=cU.bd b0 q;rw [hm] at this;cases this
   show Calls P f _ w _;have hAget:(Arr.get ⟨Yh.w α,n,get⟩)=get.get:=rfl;rw [hAget] at*;generalize hI:lst α n get.get=I at*;have hIl:I.length=n:=by rw [←hI];exact z0z _ _
   generalize hL:srt I=L;have hLl:L.length=n:=by rw [←hL,hsl,hIl]
   have hnn:ρ b0=none→ ∀cs ty',Yd mem b0≠some ⟨cs,ty',none⟩:=fun _ cs ty' e=>by rw [hm] at e;cases e
   cases hu with
   | sla _ _ _ _ _ l cc e hc cW=>
    have hbk:=cU.blk b0 l _ e hm;obtain ⟨har,_,_⟩:=hbk.arr _ rfl;have har:cells=rows n get.get:=har;rw [hrows] at har;subst har;obtain ⟨cur,el,hh,hsz,dA⟩:=hbk.cells;simp only [z0s] at dA;have htot:=hbk.tot;have hln:=hbk.n;simp only [z0s] at hln;have dV: ∀t,t<n*Yh.w α→cur[l.base+t]? =(Yh.cells (rd I (t / Yh.w α)))[t %Yh.w α]?.map valOf:=fun t ht=>by
     obtain ⟨v,e1,e2⟩:=dA t ht;have hj:t %Yh.w α<Yh.w α:=Nat.mod_lt _ hw0;have hl2:t %Yh.w α<(Yh.cells (rd I (t / Yh.w α))).length :=by rw [Yh.len];exact hj
     have e3:=w6p I n t ht;rw [List.getElem?_eq_getElem (by rw [z0s];exact ht),List.getElem?_eq_getElem hl2] at e3;rw [Option.some.inj e3] at e2;rw [e1,List.getElem?_eq_getElem hl2,Option.map_some,w7d (List.all_eq_true.1 (u0z.num _) _ (List.getElem_mem hl2)) e2]
    have eH:=cU.real b0 l e;have hH:HoldsK y7s (Yh.w α) w l.blk (l.base+0*Yh.w α) I.toArray:=fun j hj=>by
     have hj:j<n*Yh.w α:=(by simpa [hIl] using hj);have hs:j<(flatK y7s (Yh.w α) I.toArray).size :=(by simpa [hIl] using hj);have e1:=w0q I j (by rw [hIl];exact hj);rw [Array.getElem?_eq_getElem hs] at e1;refine ⟨?_,?_⟩
     ·simp only [World.cell?,hh,Nat.zero_mul,Nat.add_zero,id];rw [dV j hj,←e1,getElem!_pos (flatK y7s (Yh.w α) I.toArray) j hs];simp
     ·simp [World.frozen?,hh]
    have dK:=hC l.blk (l.base+0*Yh.w α) cc I w h7 hH eH (by omega);rw [hIl,hL] at dK;refine dK.mono fun e' w' ⟨he,q,os,hw'⟩=>⟨_,he,?_,?_,?_⟩
    ·exact .tup [] #[] rfl fun i h1 h2=>absurd h1 (Nat.not_lt_zero _)
    ·subst hw';refine Rel.setArr ?_ ⟨Yh.w α,n,.flat (Zz L)⟩ rfl hw0 fun _ _=>Yh.len _;refine Rel.rewritten cU e hm (by simp only [z0s]) (fun k hk hne=> ?_) ?_ ?_
     ·exact (y3r _ _ _ _ _ _ _ hk).trans (if_neg hne)
     ·show _≤(((Go.Sort.ahead w q).heap.modify _ _)++os).size;simp only [Array.size_append,Array.size_modify];exact Nat.le_add_right _ _
     ·refine ⟨putCells id (l.base+0*Yh.w α) (flatK y7s (Yh.w α) L.toArray) cur,el,?_,?_,fun i hi=> ?_⟩
      ·refine (y3r _ _ _ _ _ _ _ eH).trans ?_;rw [if_pos rfl,hh];rfl
      ·simp only [putCells,Array.size_mapIdx];exact hsz
      ·rw [z0s] at hi;have hj:i %Yh.w α<Yh.w α:=Nat.mod_lt _ hw0;have hl2:i %Yh.w α<(Yh.cells (rd L (i / Yh.w α))).length :=by rw [Yh.len];exact hj
       have hl3:i %Yh.w α<(Yh.cells (rd I (i / Yh.w α))).length :=by rw [Yh.len];exact hj
       have e1:=w0q L i (by rw [hLl];exact hi);rw [List.getElem?_eq_getElem hl2,Option.map_some] at e1;have hs:i<(flatK y7s (Yh.w α) L.toArray).size :=(by simpa [hLl] using hi);rw [Array.getElem?_eq_getElem hs] at e1;have e3:=w6p L n i hi;rw [List.getElem?_eq_getElem (by rw [z0s];exact hi),List.getElem?_eq_getElem hl2] at e3;refine ⟨valOf (Yh.cells (rd L (i / Yh.w α)))[i %Yh.w α],?_,?_⟩
       ·have hc0:=dV i hi;rw [List.getElem?_eq_getElem hl3,Option.map_some] at hc0;simp only [putCells,Array.getElem?_mapIdx,hc0,Option.map_some,Nat.zero_mul,Nat.add_zero];rw [if_pos ⟨by omega,by omega⟩]
        congr 1
        rw [show l.base+i - l.base=i by omega,id,getElem!_pos (flatK y7s (Yh.w α) L.toArray) i hs];exact Option.some.inj e1
       ·rw [Option.some.inj e3];exact w5f (List.all_eq_true.1 (u0z.num _) _ (List.getElem_mem hl2))
    ·subst hw';refine Ev.rewritten cU _ (fun l' _=>hfl) hnn (fun k hk hne=> ?_) ?_ rfl rfl rfl
     ·exact (y3r _ _ _ _ _ _ _ hk).trans (if_neg (hne l e))
     ·show _≤(((Go.Sort.ahead w q).heap.modify _ _)++os).size;simp only [Array.size_append,Array.size_modify];exact Nat.le_add_right _ _
   | slan=>
    have hI0:I=[]:=List.eq_nil_of_length_eq_zero hIl;have hL0:L=[]:=List.eq_nil_of_length_eq_zero hLl;refine (hN none 0 _ w).mono fun e' w' ⟨he,hw'⟩=>⟨_,he,?_,?_,?_⟩
    ·exact .tup [] #[] rfl fun i h1 h2=>absurd h1 (Nat.not_lt_zero _)
    ·subst hw';refine cU.reblk hm fun l hρ hbk=> ?_;obtain ⟨har,eY,_⟩:=hbk.arr _ rfl;have har:cells=rows 0 get.get:=har;subst har;exact ⟨hbk.n,hbk.tot,fun B hB=>by obtain rfl:=Option.some.inj hB;exact ⟨rfl,hw0,fun i hi=>absurd hi (Nat.not_lt_zero _)⟩,hbk.cells⟩
    ·subst hw';exact Ev.rewritten cU _ (fun l' _=>hfl) hnn (fun _ _ _=>rfl) (Nat.le_refl _) rfl rfl rfl
  ·cases h
 ·cases h
end
def Specs.withE (S:Specs) (f:FuncId) (F:List AVal→Mem→Option (AVal×Nat×ABlk×Bool)):Specs:=fun g=>bif Nat.beq g f then some (.eff F) else S g
theorem y8c {P:Program} {S:Specs} (hS:Zu P S) {f:FuncId} {F:List AVal→Mem→Option (AVal×Nat×ABlk×Bool)} (hf:(P.funcs[f]?).any (fun fn=>fn.body.isSome)=true) (hF:x3n P f F):Zu P (S.withE f F):=by
 intro g G hg;unfold Specs.withE at hg;cases hgf:Nat.beq g f with
 | false=>rw [hgf] at hg;exact hS g G hg
 | true=>
  rw [hgf] at hg;obtain rfl:Spec.eff F=G:=Option.some.inj hg;obtain rfl:g=f:=Nat.eq_of_beq_eq_true hgf;refine ⟨?_,hF⟩;cases hfn:P.funcs[g]? with
  | none=>rw [hfn] at hf;cases hf
  | some fn=>rw [hfn] at hf;exact ⟨fn,rfl,hf⟩
end Go.Am
namespace Go.Proofs
open Go.Proofs.Tryz
open Go.Shelf
def Tryz.lays189_ren :Go.Shelf.Ren:=⟨fun | 189=>63 | 125=>117 | 257=>116 | 128=>152 | 129=>153 | 294=>143 | 295=>144 | 296=>145 | 297=>146 | 298=>147 | 299=>148 | 216=>149 | 300=>150 | 301=>151 | 328=>176 | 329=>177 | 330=>178 | 331=>179 | 332=>180 | 215=>181 | 343=>194 | n=>n,fun | 28=>93 | 3=>3 | 46=>147 | 0=>0 | 51=>194 | 53=>196 | 4=>4 | 183=>186 | 182=>185 | 131=>191 | 5=>5 | 9=>9 | 218=>224 | 222=>228 | 228=>239 | 229=>91 | n=>n,fun | n=>n⟩
theorem Tryz.lays189 :Go.Proofs.Lays.n189 prog Tryz.lays189_ren:={
 mixed:=by kernel_rfl
 f125:=Tryz.func117.trans (congrArg some (by kernel_rfl))
 f128:=Tryz.func152.trans (congrArg some (by kernel_rfl))
 f129:=Tryz.func153.trans (congrArg some (by kernel_rfl))
 f189:=Tryz.func63.trans (congrArg some (by kernel_rfl))
 f215:=Tryz.func181.trans (congrArg some (by kernel_rfl))
 f216:=Tryz.func149.trans (congrArg some (by kernel_rfl))
 f257:=Tryz.func116.trans (congrArg some (by kernel_rfl))
 f294:=Tryz.func143.trans (congrArg some (by kernel_rfl))
 f295:=Tryz.func144.trans (congrArg some (by kernel_rfl))
 f296:=Tryz.func145.trans (congrArg some (by kernel_rfl))
 f297:=Tryz.func146.trans (congrArg some (by kernel_rfl))
 f298:=Tryz.func147.trans (congrArg some (by kernel_rfl))
 f299:=Tryz.func148.trans (congrArg some (by kernel_rfl))
 f300:=Tryz.func150.trans (congrArg some (by kernel_rfl))
 f301:=Tryz.func151.trans (congrArg some (by kernel_rfl))
 f328:=Tryz.func176.trans (congrArg some (by kernel_rfl))
 f329:=Tryz.func177.trans (congrArg some (by kernel_rfl))
 f330:=Tryz.func178.trans (congrArg some (by kernel_rfl))
 f331:=Tryz.func179.trans (congrArg some (by kernel_rfl))
 f332:=Tryz.func180.trans (congrArg some (by kernel_rfl))
 f343:=Tryz.func194.trans (congrArg some (by kernel_rfl))
 t0:=Tryz.underlying0
 a0:=Tryz.isAgg0
 z0:=Tryz.sizeOf0
 v0:=Tryz.zeroValue0
 t3:=Tryz.underlying3
 a3:=Tryz.isAgg3
 z3:=Tryz.sizeOf3
 v3:=Tryz.zeroValue3
 t4:=Tryz.underlying4
 a4:=Tryz.isAgg4
 z4:=Tryz.sizeOf4
 v4:=Tryz.zeroValue4
 t5:=Tryz.underlying5
 a5:=Tryz.isAgg5
 z5:=Tryz.sizeOf5
 v5:=Tryz.zeroValue5
 t9:=Tryz.underlying9
 a9:=Tryz.isAgg9
 z9:=Tryz.sizeOf9
 v9:=Tryz.zeroValue9
 t28:=Tryz.underlying93
 a28:=Tryz.isAgg93
 z28:=Tryz.sizeOf93
 v28:=Tryz.zeroValue93
 t46:=Tryz.underlying147
 a46:=Tryz.isAgg147
 z46:=Tryz.sizeOf147
 v46:=Tryz.zeroValue147
 t51:=Tryz.underlying194
 a51:=Tryz.isAgg194
 z51:=Tryz.sizeOf194
 v51:=Tryz.zeroValue194
 t53:=Tryz.underlying196
 a53:=Tryz.isAgg196
 z53:=Tryz.sizeOf196
 v53:=Tryz.zeroValue196
 t131:=Tryz.underlying191
 a131:=Tryz.isAgg191
 z131:=Tryz.sizeOf191
 v131:=Tryz.zeroValue191
 t182:=Tryz.underlying185
 a182:=Tryz.isAgg185
 z182:=Tryz.sizeOf185
 v182:=Tryz.zeroValue185
 t183:=Tryz.underlying186
 a183:=Tryz.isAgg186
 z183:=Tryz.sizeOf186
 v183:=Tryz.zeroValue186
 t218:=Tryz.underlying224
 a218:=Tryz.isAgg224
 z218:=Tryz.sizeOf224
 v218:=Tryz.zeroValue224
 t222:=Tryz.underlying228
 a222:=Tryz.isAgg228
 z222:=Tryz.sizeOf228
 v222:=Tryz.zeroValue228
 t228:=Tryz.underlying239
 a228:=Tryz.isAgg239
 z228:=Tryz.sizeOf239
 v228:=Tryz.zeroValue239
 t229:=Tryz.underlying91
 a229:=Tryz.isAgg91
 z229:=Tryz.sizeOf91
 v229:=Tryz.zeroValue91}
open Go.Sort Go.RowKit in
theorem Tryz.slices_Sort_int (blk off cap:Nat) (zs:List Int) (w:World) (hH:Holds (Value.int .i64) w blk off zs.toArray) (eH:blk<w.heap.size) (hsz:zs.length<4611686018427387904):
  Calls prog 63 #[.slice (some ⟨blk,off,none⟩) zs.length cap] w fun e w'=>
   e=.returned (.tuple #[])∧ ∃n os,w'=grow (putRow (Value.int .i64) (Sort.ahead w n) blk off (zs.mergeSort fun x y=>decide (x≤y)).toArray) os:=Any.slices_Sort_int Tryz.lays189 blk off cap zs w hH eH hsz
def Tryz.laysNm220_ren :Go.Shelf.Ren:=⟨fun | 20=>64 | n=>n,fun | 22=>93 | 3=>3 | 4=>4 | 0=>0 | n=>n,fun | n=>n⟩
theorem Tryz.laysNm220 :Go.Proofs.Lays2.n20 prog Tryz.laysNm220_ren:={
 mixed:=by kernel_rfl
 f20:=Tryz.func64.trans (congrArg some (by kernel_rfl))
 t0:=Tryz.underlying0
 a0:=Tryz.isAgg0
 z0:=Tryz.sizeOf0
 v0:=Tryz.zeroValue0
 t3:=Tryz.underlying3
 a3:=Tryz.isAgg3
 z3:=Tryz.sizeOf3
 v3:=Tryz.zeroValue3
 t4:=Tryz.underlying4
 a4:=Tryz.isAgg4
 z4:=Tryz.sizeOf4
 v4:=Tryz.zeroValue4
 t22:=Tryz.underlying93
 a22:=Tryz.isAgg93
 z22:=Tryz.sizeOf93
 v22:=Tryz.zeroValue93
 i3:=by kernel_rfl}
open Go.RowKit Go.Lib Go.Sort in
theorem Tryz.slices_Compact_int (blk off cap:Nat) (zs:List Int) (w:World) (hH:Holds (Value.int .i64) w blk off zs.toArray) (hsz:zs.length≤9223372036854775807) (dB:zs.length≤cap):
  Calls prog 64 #[.slice (some ⟨blk,off,none⟩) zs.length cap] w fun e w'=>e=.returned (.slice (some ⟨blk,off,none⟩) (Lib.compact zs).length cap)∧ ∃q,w'=putRow (Value.int .i64) (Sort.ahead w q) blk off (Lib.compact zs++List.replicate (zs.length - (Lib.compact zs).length) 0).toArray :=Any.slices_Compact_int Tryz.laysNm220 blk off cap zs w hH hsz dB
open Go.RowKit Go.Lib Go.Sort in
theorem Tryz.slices_Compact_int_empty (a:Option Addr) (cap:Nat) (w:World):
  Calls prog 64 #[.slice a 0 cap] w fun e w'=>e=.returned (.slice a 0 cap)∧w'=w:=Any.slices_Compact_int_empty Tryz.laysNm220 a cap w
open Go.RowKit Go.Sort in
theorem Tryz.slices_Sort_int_none (p:Option Addr) (cap:Nat) (w:World):
  Calls prog 63 #[.slice p 0 cap] w fun e w'=>e=.returned (.tuple #[])∧w'=w:=Any.slices_Sort_int_none Tryz.lays189 p cap w
def Tryz.sortEnd_ren :Go.Shelf.Ren:=⟨fun | 6=>200 | 15=>117 | 14=>204 | 28=>152 | 29=>153 | 20=>206 | 21=>207 | 22=>208 | 23=>209 | 24=>210 | 25=>211 | 26=>212 | 27=>213 | 46=>214 | 47=>177 | 48=>178 | 49=>215 | 50=>216 | 57=>217 | n=>n,fun | 22=>248 | 24=>246 | 25=>250 | 3=>3 | 39=>147 | 0=>0 | 53=>194 | 55=>196 | 4=>4 | 46=>186 | 45=>185 | 50=>191 | 5=>5 | 9=>9 | 66=>224 | 70=>228 | 76=>239 | 77=>91 | n=>n,fun | n=>n⟩
theorem Tryz.sortEnd :Go.Proofs.SlLaysF0.n6 prog Tryz.sortEnd_ren:={
 mixed:=by kernel_rfl
 f6:=⟨Tryz.f200.name,by decide,Tryz.func200.trans (congrArg some (by kernel_rfl))⟩
 f14:=⟨Tryz.f204.name,by decide,Tryz.func204.trans (congrArg some (by kernel_rfl))⟩
 f15:=Tryz.func117.trans (congrArg some (by kernel_rfl))
 f20:=⟨Tryz.f206.name,by decide,Tryz.func206.trans (congrArg some (by kernel_rfl))⟩
 f21:=⟨Tryz.f207.name,by decide,Tryz.func207.trans (congrArg some (by kernel_rfl))⟩
 f22:=⟨Tryz.f208.name,by decide,Tryz.func208.trans (congrArg some (by kernel_rfl))⟩
 f23:=⟨Tryz.f209.name,by decide,Tryz.func209.trans (congrArg some (by kernel_rfl))⟩
 f24:=⟨Tryz.f210.name,by decide,Tryz.func210.trans (congrArg some (by kernel_rfl))⟩
 f25:=⟨Tryz.f211.name,by decide,Tryz.func211.trans (congrArg some (by kernel_rfl))⟩
 f26:=⟨Tryz.f212.name,by decide,Tryz.func212.trans (congrArg some (by kernel_rfl))⟩
 f27:=⟨Tryz.f213.name,by decide,Tryz.func213.trans (congrArg some (by kernel_rfl))⟩
 f28:=Tryz.func152.trans (congrArg some (by kernel_rfl))
 f29:=Tryz.func153.trans (congrArg some (by kernel_rfl))
 f46:=⟨Tryz.f214.name,by decide,Tryz.func214.trans (congrArg some (by kernel_rfl))⟩
 f47:=Tryz.func177.trans (congrArg some (by kernel_rfl))
 f48:=Tryz.func178.trans (congrArg some (by kernel_rfl))
 f49:=⟨Tryz.f215.name,by decide,Tryz.func215.trans (congrArg some (by kernel_rfl))⟩
 f50:=⟨Tryz.f216.name,by decide,Tryz.func216.trans (congrArg some (by kernel_rfl))⟩
 f57:=⟨Tryz.f217.name,by decide,Tryz.func217.trans (congrArg some (by kernel_rfl))⟩
 t0:=Tryz.underlying0
 a0:=Tryz.isAgg0
 z0:=Tryz.sizeOf0
 v0:=Tryz.zeroValue0
 t3:=Tryz.underlying3
 a3:=Tryz.isAgg3
 z3:=Tryz.sizeOf3
 v3:=Tryz.zeroValue3
 t4:=Tryz.underlying4
 a4:=Tryz.isAgg4
 z4:=Tryz.sizeOf4
 v4:=Tryz.zeroValue4
 t5:=Tryz.underlying5
 a5:=Tryz.isAgg5
 z5:=Tryz.sizeOf5
 v5:=Tryz.zeroValue5
 t9:=Tryz.underlying9
 a9:=Tryz.isAgg9
 z9:=Tryz.sizeOf9
 v9:=Tryz.zeroValue9
 t22:=Tryz.underlying248
 a22:=Tryz.isAgg248
 z22:=Tryz.sizeOf248
 v22:=Tryz.zeroValue248
 t25:=Tryz.underlying250
 a25:=Tryz.isAgg250
 z25:=Tryz.sizeOf250
 v25:=Tryz.zeroValue250
 t39:=Tryz.underlying147
 a39:=Tryz.isAgg147
 z39:=Tryz.sizeOf147
 v39:=Tryz.zeroValue147
 t45:=Tryz.underlying185
 a45:=Tryz.isAgg185
 z45:=Tryz.sizeOf185
 v45:=Tryz.zeroValue185
 t46:=Tryz.underlying186
 a46:=Tryz.isAgg186
 z46:=Tryz.sizeOf186
 v46:=Tryz.zeroValue186
 t50:=Tryz.underlying191
 a50:=Tryz.isAgg191
 z50:=Tryz.sizeOf191
 v50:=Tryz.zeroValue191
 t53:=Tryz.underlying194
 a53:=Tryz.isAgg194
 z53:=Tryz.sizeOf194
 v53:=Tryz.zeroValue194
 t55:=Tryz.underlying196
 a55:=Tryz.isAgg196
 z55:=Tryz.sizeOf196
 v55:=Tryz.zeroValue196
 t66:=Tryz.underlying224
 a66:=Tryz.isAgg224
 z66:=Tryz.sizeOf224
 v66:=Tryz.zeroValue224
 t70:=Tryz.underlying228
 a70:=Tryz.isAgg228
 z70:=Tryz.sizeOf228
 v70:=Tryz.zeroValue228
 t76:=Tryz.underlying239
 a76:=Tryz.isAgg239
 z76:=Tryz.sizeOf239
 v76:=Tryz.zeroValue239
 t77:=Tryz.underlying91
 a77:=Tryz.isAgg91
 z77:=Tryz.sizeOf91
 v77:=Tryz.zeroValue91}
end Go.Proofs
namespace Go.Proofs
open Go.Proofs.Tryz
open Go.Shelf Go.RowKit Go.Lib Go.Sort
theorem Tryz.cmpEnd (a b c a' b' c':Int) (h: -1000000000≤a∧a≤1000000000) (h': -1000000000≤a'∧a'≤1000000000) (W:World):
  Calls prog 201 #[.agg #[.int .i64 a,.int .i64 b,.int .i64 c],.agg #[.int .i64 a',.int .i64 b',.int .i64 c']] W fun e w'=>e=.returned (.int .i64 (a - a'))∧ ∃q os',w'=grow (W.drewN q) os':=by
 go_enter Tryz.func201,Tryz.ntmps201
 go_wp2
 go_ret
 exact ⟨rfl,0,_,by rw [alloc_eq_grow,alloc_eq_grow,grow_grow];rfl⟩
end Go.Proofs
namespace Go.Am
open Go.Proofs.Tryz
open Go.Proofs
inductive rjsS where
 | h0 (v9:List R6) (v10:List R4) (v11:Int) (v12:Int)
 | h1 (v9:List R6) (v10:List R4) (v11:Int) (v12:Int) (v13:List R4) (v15:Int)
 | h2 (v9:List R6) (v10:List R4) (v11:Int) (v12:Int) (v14:Int)
abbrev x9c (l1:List R6) (l2:List R6) (v12:Int):=(rd (Vx (cvT l1) (cvT l2)) (tn v12))
abbrev y6j (v9:List R6) (v14:Int) (l1:List R6) (l2:List R6) (v12:Int):=(v9.set (0+(tn v14)) (R6.mk (rd v9 (0+(tn v14))).a (rd v9 (0+(tn v14))).b (rd v9 (0+(tn v14))).c (rd v9 (0+(tn v14))).d (rd v9 (0+(tn v14))).e (rd (Vx (cvT l1) (cvT l2)) (tn (wr (v12+1))))))
abbrev y6i (v9:List R6) (v13:List R4) (v15:Int) (l1:List R6) (l2:List R6) (v12:Int):=(v9++[(R6.mk (rd v13 (tn v15)).a (rd v13 (tn v15)).b (x9c l1 l2 v12) (rd v13 (tn v15)).c (rd v13 (tn v15)).d (rd (Vx (cvT l1) (cvT l2)) (tn (wr (v12+1)))))])
abbrev Vq (l1:List R6) (l2:List R6) (v12:Int):=(atV (cvT l1) (x9c l1 l2 v12))
abbrev Vr (l2:List R6) (l1:List R6) (v12:Int):=(atV (cvT l2) (x9c l1 l2 v12))
abbrev v8j (v9:List R6) (v13:List R4) (v15:Int) (l1:List R6) (l2:List R6) (v12:Int):=(Zi (Zz v9) 0 v9.length 6 [(ii (rd v13 (tn v15)).a),(ii (rd v13 (tn v15)).b),(ii (x9c l1 l2 v12)),(ii (rd v13 (tn v15)).c),(ii (rd v13 (tn v15)).d),(ii (rd (Vx (cvT l1) (cvT l2)) (tn (wr (v12+1)))))])
def w6t (l1:List R6) (l2:List R6):AVal:=(.dat (Vx (cvT l1) (cvT l2)).length (Zz (Vx (cvT l1) (cvT l2))))
def rjsC (x0:Int) (l1:List R6) (l2:List R6):rjsS→Cfg
 | .h0 v9 v10 v11 v12=>⟨⟨137,0,true⟩,none,(Zd prog 72 [1,1,1,1,1,0,1,0,0] 0),none,(Zy prog 32),⟨Yc [(0,(ii x0)),(1,(.dat l1.length (Zz l1))),(2,(.dat l2.length (Zz l2))),(8,(w6t l1 l2)),(9,(.sla 0 6 0 v9.length (.un 6))),(10,(.dat v10.length (Zz v10))),(11,(ii v11)),(12,(ii v12))],Un [⟨rows v9.length (Zz v9),67,some ⟨6,v9.length,(Zz v9)⟩⟩] 0,1,[],true⟩,[],.leaf⟩
 | .h1 v9 v10 v11 v12 v13 v15=>⟨⟨137,0,true⟩,none,(Zd prog 72 [1,1,1,1,1,0,1,0,0,1,0,0,1,1,1,1,1,0,0] 0),none,(Zy prog 32),⟨Yc [(0,(ii x0)),(1,(.dat l1.length (Zz l1))),(2,(.dat l2.length (Zz l2))),(8,(w6t l1 l2)),(9,(.sla 0 6 0 v9.length (.un 6))),(10,(.dat v10.length (Zz v10))),(11,(ii v11)),(12,(ii v12)),(13,(.dat v13.length (Zz v13))),(15,(ii v15))],Un [⟨rows v9.length (Zz v9),67,some ⟨6,v9.length,(Zz v9)⟩⟩] 0,1,[],true⟩,[],.leaf⟩
 | .h2 v9 v10 v11 v12 v14=>⟨⟨137,0,true⟩,none,(Zd prog 72 [1,1,1,1,1,0,1,0,0,1,0,0,1,1,0,1,0,0,1,0,0] 0),none,(Zy prog 32),⟨Yc [(0,(ii x0)),(1,(.dat l1.length (Zz l1))),(2,(.dat l2.length (Zz l2))),(8,(w6t l1 l2)),(9,(.sla 0 6 0 v9.length (.un 6))),(10,(.dat v10.length (Zz v10))),(11,(ii v11)),(12,(ii v12)),(14,(ii v14))],Un [⟨rows v9.length (Zz v9),67,some ⟨6,v9.length,(Zz v9)⟩⟩] 0,1,[],true⟩,[],.leaf⟩
def u2v :List (Option (List Nat)):=[some [0,1,2,8,9,10,11,12]]
def u2x :List (Option (List Nat)):=[]
def u2u :List (Option (List Nat)):=[some [0,1,2,8,9,10,11,12,13,15]]
def u2w :List (Option (List Nat)):=[]
def rjsN2 :List (Option (List Nat)):=[some [0,1,2,8,9,10,11,12,14]]
def rjsM2 :List (Option (List Nat)):=[]
def Vb (x0:Int) (l1:List R6) (l2:List R6):rjsS→Xo rjsS
 | .h0 v9 v10 v11 v12=>(bif (decide ((IntKind.wrap .i64 (v12+1))<(((Vx (cvT l1) (cvT l2)).length :Nat):Int))) then (bif (z4n (cvT l1) (rd (Vx (cvT l1) (cvT l2)) v12.toNat)) then (bif ((decide (0≤v12∧v12<(((Vx (cvT l1) (cvT l2)).length :Nat):Int)))&&true) then (bif (z4n (cvT l2) (rd (Vx (cvT l1) (cvT l2)) v12.toNat)) then (bif (z0h x0 (cvT (atV (cvT l1) (rd (Vx (cvT l1) (cvT l2)) v12.toNat))) (cvT (atV (cvT l2) (rd (Vx (cvT l1) (cvT l2)) v12.toNat)))) then (bif (decide ((((joV x0 (cvT (atV (cvT l1) (rd (Vx (cvT l1) (cvT l2)) v12.toNat))) (cvT (atV (cvT l2) (rd (Vx (cvT l1) (cvT l2)) v12.toNat)))).length :Nat):Int)>400)) then (.ret [.nils,(.bool false)]) else (bif (z0h 2 (cvT (atV (cvT l1) (rd (Vx (cvT l1) (cvT l2)) v12.toNat))) ([]:List R4)) then (bif (decide ((((joV 2 (cvT (atV (cvT l1) (rd (Vx (cvT l1) (cvT l2)) v12.toNat))) ([]:List R4)).length :Nat):Int)>400)) then (.ret [.nils,(.bool false)]) else (bif (z0h 2 (cvT (atV (cvT l2) (rd (Vx (cvT l1) (cvT l2)) v12.toNat))) ([]:List R4)) then (bif (decide ((((joV 2 (cvT (atV (cvT l2) (rd (Vx (cvT l1) (cvT l2)) v12.toNat))) ([]:List R4)).length :Nat):Int)>400)) then (.ret [.nils,(.bool false)]) else (bif (decide (v12>0)) then (bif (Wm (cvT (joV x0 (cvT (atV (cvT l1) (rd (Vx (cvT l1) (cvT l2)) v12.toNat))) (cvT (atV (cvT l2) (rd (Vx (cvT l1) (cvT l2)) v12.toNat))))) (cvT v10)) then (bif (Uo (cvT (joV x0 (cvT (atV (cvT l1) (rd (Vx (cvT l1) (cvT l2)) v12.toNat))) (cvT (atV (cvT l2) (rd (Vx (cvT l1) (cvT l2)) v12.toNat))))) (cvT v10)) then (.to (.h2 v9 v10 v11 v12 v11)) else (.to (.h1 v9 (joV x0 (cvT (atV (cvT l1) (rd (Vx (cvT l1) (cvT l2)) v12.toNat))) (cvT (atV (cvT l2) (rd (Vx (cvT l1) (cvT l2)) v12.toNat)))) (v9.length:Int) v12 (joV x0 (cvT (atV (cvT l1) (rd (Vx (cvT l1) (cvT l2)) v12.toNat))) (cvT (atV (cvT l2) (rd (Vx (cvT l1) (cvT l2)) v12.toNat)))) 0))) else .stuck) else (.to (.h1 v9 (joV x0 (cvT (atV (cvT l1) (rd (Vx (cvT l1) (cvT l2)) v12.toNat))) (cvT (atV (cvT l2) (rd (Vx (cvT l1) (cvT l2)) v12.toNat)))) (v9.length:Int) v12 (joV x0 (cvT (atV (cvT l1) (rd (Vx (cvT l1) (cvT l2)) v12.toNat))) (cvT (atV (cvT l2) (rd (Vx (cvT l1) (cvT l2)) v12.toNat)))) 0)))) else .stuck)) else .stuck)) else .stuck) else .stuck) else .stuck) else .stuck) else (.ret [(.dat v9.length (Zz v9)),(.bool (decide ((v9.length:Int)≤400)))]))
 | .h1 v9 v10 v11 v12 v13 v15=>(bif (decide (v15<(v13.length:Int))) then (bif ((decide (0≤v12∧v12<(((Vx (cvT l1) (cvT l2)).length :Nat):Int)))&&true) then (bif ((decide (0≤v15∧v15<(v13.length:Int)))&&true) then (bif ((decide (0≤(IntKind.wrap .i64 (v12+1))∧(IntKind.wrap .i64 (v12+1))<(((Vx (cvT l1) (cvT l2)).length :Nat):Int)))&&true) then (bif (Nat.beq 6 6&&((decide (0+v9.length=v9.length))&&decide ((v9.length+1+1)*(48+1)≤Us))) then (.to (.h1 (v9++[(R6.mk (rd v13 v15.toNat).a (rd v13 v15.toNat).b (rd (Vx (cvT l1) (cvT l2)) v12.toNat) (rd v13 v15.toNat).c (rd v13 v15.toNat).d (rd (Vx (cvT l1) (cvT l2)) (Int.toNat (IntKind.wrap .i64 (v12+1)))))]) v10 v11 v12 v13 (IntKind.wrap .i64 (v15+1)))) else .stuck) else .stuck) else .stuck) else .stuck) else (.to (.h0 v9 v10 v11 (IntKind.wrap .i64 (v12+1)))))
 | .h2 v9 v10 v11 v12 v14=>(bif (decide (v14<(v9.length:Int))) then (bif ((decide (0≤(IntKind.wrap .i64 (v12+1))∧(IntKind.wrap .i64 (v12+1))<(((Vx (cvT l1) (cvT l2)).length :Nat):Int)))&&true) then (bif ((decide (0≤v14∧v14<(v9.length:Int)))&&true) then (bif (decide ((0+v14.toNat)<v9.length)) then (.to (.h2 (v9.set (0+v14.toNat) (R6.mk (rd v9 (0+v14.toNat)).a (rd v9 (0+v14.toNat)).b (rd v9 (0+v14.toNat)).c (rd v9 (0+v14.toNat)).d (rd v9 (0+v14.toNat)).e (rd (Vx (cvT l1) (cvT l2)) (Int.toNat (IntKind.wrap .i64 (v12+1)))))) v10 v11 v12 (IntKind.wrap .i64 (v14+1)))) else .stuck) else .stuck) else .stuck) else (.to (.h0 v9 v10 v11 (IntKind.wrap .i64 (v12+1)))))
def y0z (x0:Int) (l1:List R6) (l2:List R6):Xo rjsS:=(bif (z7l (cvT l1) (cvT l2)) then (.to (.h0 ([]:List R6) ([]:List R4) 0 0)) else .stuck)
theorem w2i (x0:Int) (l1:List R6) (l2:List R6): ∀s,Xk prog (Zy prog 72) (rjsC x0 l1 l2) (rjsC x0 l1 l2 s) (Vb x0 l1 l2 s)
 | .h0 v9 v10 v11 v12=>(lb (fun k0=>(lo fun aG=>(lo fun bA=>(lo fun bX=>(lo fun cO=>(lb (fun k1=>(lr 137 72 [1,1,1,1,1,0,1,0,0,1,0,0,1,0,1,0,0] 1 32 [(6,.nils),(7,(.bool false))] (sl z9b 50 [] ⟨[],[],[some [6,7]],[]⟩ ⟨[],[],[]⟩ (trs 20 []) (tt k1 (pp (pp (xI R4 (Vq l1 l2 v12).length (Zz (Vq l1 l2 v12))) (pp (xI R4 (Vr l2 l1 v12).length (Zz (Vr l2 l1 v12))) (xw cO))) (pp (pp (xr l2) (xw bX)) (ww bA (pp (pp (xr l1) (xw aG)) (ww bA (tt k0 nn)))))))))) (fun k1=>(lo fun bS=>(lb (fun k2=>(lr 137 72 [1,1,1,1,1,0,1,0,0,1,0,0,1,0,1,0,0] 1 32 [(6,.nils),(7,(.bool false))] (sl z9b 50 [] ⟨[],[],[some [6,7]],[]⟩ ⟨[],[],[]⟩ (bl 20 1047553) (tt k2 (pp (pp (xI R4 (Vq l1 l2 v12).length (Zz (Vq l1 l2 v12))) (pp (xI R4 0 (fun _=>[])) (xw bS))) (pp (pp (xr l1) (xw aG)) (ww bA (tt k1 (pp (pp (xI R4 (Vq l1 l2 v12).length (Zz (Vq l1 l2 v12))) (pp (xI R4 (Vr l2 l1 v12).length (Zz (Vr l2 l1 v12))) (xw cO))) (pp (pp (xr l2) (xw bX)) (ww bA (pp (pp (xr l1) (xw aG)) (ww bA (tt k0 nn)))))))))))))) (fun k2=>(lo fun cG=>(lb (fun k3=>(lr 137 72 [1,1,1,1,1,0,1,0,0,1,0,0,1,0,1,0,0] 1 32 [(6,.nils),(7,(.bool false))] (sl z9b 50 [] ⟨[],[],[some [6,7]],[]⟩ ⟨[],[],[]⟩ (bl 20 524289) (tt k3 (pp (pp (xI R4 (Vr l2 l1 v12).length (Zz (Vr l2 l1 v12))) (pp (xI R4 0 (fun _=>[])) (xw cG))) (pp (pp (xr l2) (xw bX)) (ww bA (tt k2 (pp (pp (xI R4 (Vq l1 l2 v12).length (Zz (Vq l1 l2 v12))) (pp (xI R4 0 (fun _=>[])) (xw bS))) (pp (pp (xr l1) (xw aG)) (ww bA (tt k1 (pp (pp (xI R4 (Vq l1 l2 v12).length (Zz (Vq l1 l2 v12))) (pp (xI R4 (Vr l2 l1 v12).length (Zz (Vr l2 l1 v12))) (xw cO))) (pp (pp (xr l2) (xw bX)) (ww bA (pp (pp (xr l1) (xw aG)) (ww bA (tt k0 nn)))))))))))))))))) (fun k3=>(lb (fun k4=>(lo fun cM=>(lb (fun k5=>(sl z9b 66 [] ⟨[0],[],rjsN2,rjsM2⟩ ⟨[],[],[]⟩ (bl 24 15728641) (pp (fl v9 nn) (tt k5 (pp (pp (xI R4 (joV x0 (cvT (Vq l1 l2 v12)) (cvT (Vr l2 l1 v12))).length (Zz (joV x0 (cvT (Vq l1 l2 v12)) (cvT (Vr l2 l1 v12))))) (pp (xr v10) (xw cM))) (tt k4 (tt k3 (pp (pp (xI R4 (Vr l2 l1 v12).length (Zz (Vr l2 l1 v12))) (pp (xI R4 0 (fun _=>[])) (xw cG))) (pp (pp (xr l2) (xw bX)) (ww bA (tt k2 (pp (pp (xI R4 (Vq l1 l2 v12).length (Zz (Vq l1 l2 v12))) (pp (xI R4 0 (fun _=>[])) (xw bS))) (pp (pp (xr l1) (xw aG)) (ww bA (tt k1 (pp (pp (xI R4 (Vq l1 l2 v12).length (Zz (Vq l1 l2 v12))) (pp (xI R4 (Vr l2 l1 v12).length (Zz (Vr l2 l1 v12))) (xw cO))) (pp (pp (xr l2) (xw bX)) (ww bA (pp (pp (xr l1) (xw aG)) (ww bA (tt k0 nn))))))))))))))))))))) (fun k5=>(sl z9b 73 [] ⟨[0],[],u2u,u2w⟩ ⟨[],[],[]⟩ (bl 24 7340033) (pp (fl v9 nn) (tt k5 (pp (pp (xI R4 (joV x0 (cvT (Vq l1 l2 v12)) (cvT (Vr l2 l1 v12))).length (Zz (joV x0 (cvT (Vq l1 l2 v12)) (cvT (Vr l2 l1 v12))))) (pp (xr v10) (xw cM))) (tt k4 (tt k3 (pp (pp (xI R4 (Vr l2 l1 v12).length (Zz (Vr l2 l1 v12))) (pp (xI R4 0 (fun _=>[])) (xw cG))) (pp (pp (xr l2) (xw bX)) (ww bA (tt k2 (pp (pp (xI R4 (Vq l1 l2 v12).length (Zz (Vq l1 l2 v12))) (pp (xI R4 0 (fun _=>[])) (xw bS))) (pp (pp (xr l1) (xw aG)) (ww bA (tt k1 (pp (pp (xI R4 (Vq l1 l2 v12).length (Zz (Vq l1 l2 v12))) (pp (xI R4 (Vr l2 l1 v12).length (Zz (Vr l2 l1 v12))) (xw cO))) (pp (pp (xr l2) (xw bX)) (ww bA (pp (pp (xr l1) (xw aG)) (ww bA (tt k0 nn)))))))))))))))))))))))) (fun k4=>(sl z9b 73 [] ⟨[0],[],u2u,u2w⟩ ⟨[],[],[]⟩ (bl 24 1) (pp (fl v9 nn) (tt k4 (tt k3 (pp (pp (xI R4 (Vr l2 l1 v12).length (Zz (Vr l2 l1 v12))) (pp (xI R4 0 (fun _=>[])) (xw cG))) (pp (pp (xr l2) (xw bX)) (ww bA (tt k2 (pp (pp (xI R4 (Vq l1 l2 v12).length (Zz (Vq l1 l2 v12))) (pp (xI R4 0 (fun _=>[])) (xw bS))) (pp (pp (xr l1) (xw aG)) (ww bA (tt k1 (pp (pp (xI R4 (Vq l1 l2 v12).length (Zz (Vq l1 l2 v12))) (pp (xI R4 (Vr l2 l1 v12).length (Zz (Vr l2 l1 v12))) (xw cO))) (pp (pp (xr l2) (xw bX)) (ww bA (pp (pp (xr l1) (xw aG)) (ww bA (tt k0 nn))))))))))))))))))))))))))))))))) (fun k0=>(lr 137 3 [1,1,1,1,1,1,1,0] 1 32 [(6,(.dat v9.length (Zz v9))),(7,(.bool (decide ((v9.length:Int)≤400))))] (sl z9b 20 [] ⟨[],[0],[some [6,7]],[]⟩ ⟨[(6,.frz v9.length v9.length (Zz v9) (Zz v9))],[],[]⟩ [false] (pp (xZ (z5p 6 6 0 v9.length v9.length (Zz v9)) v9.length (Zz v9)) (pp (xL v9.length v9.length) (pp (xS v9.length (Zz v9) (Zz v9)) (pp (fl v9 nn) (tt k0 nn)))))))))
 | .h1 v9 v10 v11 v12 v13 v15=>(lb (fun k0=>(lo fun o0=>(lo fun o1=>(lo fun o2=>(lo fun o3=>(sl z9b 20 [] ⟨[2],[],u2u,u2w⟩ ⟨[(9,.len (y6i v9 v13 v15 l1 l2 v12).length)],[.rowed 6 (y6i v9 v13 v15 l1 l2 v12).length (Zz (y6i v9 v13 v15 l1 l2 v12))],[]⟩ [true] (pp (xL (v9.length+1) (y6i v9 v13 v15 l1 l2 v12).length) (pp (xL (v9.length+1) (y6i v9 v13 v15 l1 l2 v12).length) (pp (xS (v9.length+1) (v8j v9 v13 v15 l1 l2 v12) (Zz (y6i v9 v13 v15 l1 l2 v12))) (pp (pp (xF (v8j v9 v13 v15 l1 l2 v12)) nn) (ww o3 (ww o2 (ww o1 (ww o1 (ww o0 (ww o1 (ww o1 (tt k0 nn)))))))))))))))))) (fun k0=>(sl z9b 17 [] ⟨[0],[],u2v,u2x⟩ ⟨[],[],[]⟩ [false] (pp (fl v9 nn) (tt k0 nn)))))
 | .h2 v9 v10 v11 v12 v14=>(lb (fun k0=>(lo fun o0=>(lo fun o1=>(lo fun o2=>(sl z9b 32 [] ⟨[0],[],rjsN2,rjsM2⟩ ⟨[(9,.len (y6j v9 v14 l1 l2 v12).length)],[.rowed 6 (y6j v9 v14 l1 l2 v12).length (Zz (y6j v9 v14 l1 l2 v12))],[]⟩ [true] (pp (xL v9.length (y6j v9 v14 l1 l2 v12).length) (pp (xL v9.length (y6j v9 v14 l1 l2 v12).length) (pp (xS v9.length (Xe (Zz v9) (0+(tn v14)) 5 [(ii (rd (Vx (cvT l1) (cvT l2)) (tn (wr (v12+1)))))]) (Zz (y6j v9 v14 l1 l2 v12))) (pp (pp (xF (Xe (Zz v9) (0+(tn v14)) 5 [(ii (rd (Vx (cvT l1) (cvT l2)) (tn (wr (v12+1)))))])) nn) (ww o2 (ww o1 (ww o0 (tt k0 nn))))))))))))) (fun k0=>(sl z9b 17 [] ⟨[0],[],u2v,u2x⟩ ⟨[],[],[]⟩ [false] (pp (fl v9 nn) (tt k0 nn)))))
theorem x4w (x0:Int) (l1:List R6) (l2:List R6):Xk prog (Zy prog 72) (rjsC x0 l1 l2) (Ze prog 72 [(.int .i64 x0),(.dat l1.length (Zz l1)),(.dat l2.length (Zz l2))] true []) (y0z x0 l1 l2):=(lo fun o0=>(sl z9b 31 [(67,6,Zz ([]:List R6))] ⟨[0],[],u2v,u2x⟩ ⟨[(9,.grow 0 6),(10,.list 0 (Zz ([]:List R4)))],[],[]⟩ [] (pp (fl ([]:List R6) nn) (pp (pp (xr l1) (pp (xr l2) (xw o0))) nn))))
theorem v3a (x0:Int) (l1:List R6) (l2:List R6) (n:Nat) (vs:List AVal) (h:Yk (Vb x0 l1 l2) n (y0z x0 l1 l2)=.ret vs):Kv prog (Zy prog 72) (Ze prog 72 [(.int .i64 x0),(.dat l1.length (Zz l1)),(.dat l2.length (Zz l2))] true []) vs:=by have:=Zr (w2i x0 l1 l2) n _ (x4w x0 l1 l2);rwa [h] at this
end Go.Am
namespace Go.Am
open Go.Proofs.Tryz
open Go.Proofs
theorem Kz (l m:List R6):(Vx l m).length ≤2*l.length+2*m.length:=by refine Nat.le_trans (z4y _) ?_;rw [List.length_append,Qo,Qo];omega
theorem z1f (l:List R6) (z:Int):(atV l z).length ≤l.length:=by unfold atV;rw [List.length_map];exact List.length_filter_le _ _
def v1u (out:List R6) (first:Nat) (z:Int):List R6:=out.take first++(out.drop first).map fun r=>⟨r.a,r.b,r.c,r.d,r.e,z⟩
def u3p (z z':Int) (s:List R4):List R6:=s.map fun p=>⟨p.a,p.b,z,p.c,p.d,z'⟩
section
variable (kind:Int) (l m:List R6)
def x0n (z:Int):List R4:=joV kind (atV l z) (atV m z)
def y0b (z:Int):Bool:=decide (400<(x0n kind l m z).length)||(decide (400<(joV 2 (atV l z) []).length)||decide (400<(joV 2 (atV m z) []).length))
def jsF :Nat→Nat→List R6→List R4→Nat→Option (List R6)
 | 0,_,out,_,_=>some out
 | k+1,i,out,last,first=>
  bif y0b kind l m (rd (Vx l m) i) then none
  else bif decide (0<i)&&Uo (x0n kind l m (rd (Vx l m) i)) last then jsF k (i+1) (v1u out first (rd (Vx l m) (i+1))) last first
  else jsF k (i+1) (out++u3p (rd (Vx l m) i) (rd (Vx l m) (i+1)) (x0n kind l m (rd (Vx l m) i))) (x0n kind l m (rd (Vx l m) i)) out.length
def jsO :Option (List R6):=jsF kind l m ((Vx l m).length - 1) 0 [] [] 0
def x6l :Option (List R6)→List AVal
 | none=>[.nils,.bool false]
 | some out=>[.dat out.length (Zz out),.bool (decide ((out.length:Int)≤400))]
def z5m :List R6:=(jsO kind l m).getD []
def x2h :Bool:=match jsO kind l m with
 | none=>false
 | some out=>decide ((out.length:Int)≤400)
end
def y1m (_:Int) (l m:List R6):Bool:=decide (l.length≤5000∧m.length≤5000)
section
variable (kind:Int) (l m:List R6) (hl:l.length≤5000) (hm:m.length≤5000)
include hl hm
theorem v8i (last:List R4) (first:Int) (i:Nat) (hi:i+1<(Vx l m).length) (s:List R4) (hs:s.length≤1000000): ∀(k j:Nat) (out:List R6),j+k=s.length→out.length≤10000000000+j→
  ∃n,∀N,Yk (Vb kind l m) (N+n) (.to (.h1 out last first (i:Int) s (j:Int)))=Yk (Vb kind l m) N (.to (.h0 (out++u3p (rd (Vx l m) i) (rd (Vx l m) (i+1)) (s.drop j)) last first ((i+1:Nat):Int)))
 | 0,j,out,h,ho=>by have hx:=Kz l m;refine ⟨1,fun N=> ?_⟩;rw [List.drop_eq_nil_of_le (by omega),Zv];simp (disch:=omega) only [Vb,Zb,Zk,Yv,Zq,Zx,cond_false,u3p,List.map_nil,List.append_nil]
 | k+1,j,out,h,ho=>by
  have hx:=Kz l m;obtain ⟨n,hn⟩:=v8i last first i hi s hs k (j+1) (out++u3p (rd (Vx l m) i) (rd (Vx l m) (i+1)) [rd s j]) (by omega) (by simp [u3p];omega)
  refine ⟨n+1,fun N=> ?_⟩;have:=hn N;rw [Ya (show j<s.length by omega),←Nat.add_assoc,Zv];simp (disch:=omega) only [Vb,Zb,Zk,Zt,Yz,Yb,Yq,Zh,Zq,Zx,Yp,Zj,Nat.zero_add,decide_true,Bool.and_true,Bool.true_and,cond_true];rw [List.append_assoc] at this;exact this
omit hl hm in
theorem v5z (out:List R6) (j:Nat) (x:Int) (h:j<out.length):v1u (out.set j ⟨(rd out j).a,(rd out j).b,(rd out j).c,(rd out j).d,(rd out j).e,x⟩) (j+1) x=v1u out j x:=by
 unfold v1u;rw [Ya h,List.map_cons];have e1:(out.set j ⟨(rd out j).a,(rd out j).b,(rd out j).c,(rd out j).d,(rd out j).e,x⟩).take (j+1)=out.take j++[⟨(rd out j).a,(rd out j).b,(rd out j).c,(rd out j).d,(rd out j).e,x⟩]:=by
  apply List.ext_getElem
  ·simp;omega
  ·intro n h1 h2;simp only [List.getElem_take,List.getElem_set];by_cases e:j=n
   ·subst e;rw [if_pos rfl,List.getElem_append_right (by simp only [List.length_take];omega)];simp
   ·rw [if_neg e,List.getElem_append_left (by simp at h1 ⊢;omega),List.getElem_take]
 have e2:(out.set j ⟨(rd out j).a,(rd out j).b,(rd out j).c,(rd out j).d,(rd out j).e,x⟩).drop (j+1)=out.drop (j+1):=by rw [List.drop_set];rw [if_pos (by omega)]
 rw [e1,e2,List.append_assoc];rfl
theorem v8h (last:List R4) (first:Int) (i:Nat) (hi:i+1<(Vx l m).length): ∀(k j:Nat) (out:List R6),j+k=out.length→out.length≤10000000000→
  ∃n,∀N,Yk (Vb kind l m) (N+n) (.to (.h2 out last first (i:Int) (j:Int)))=Yk (Vb kind l m) N (.to (.h0 (v1u out j (rd (Vx l m) (i+1))) last first ((i+1:Nat):Int)))
 | 0,j,out,h,ho=>by
  have hx:=Kz l m;refine ⟨1,fun N=> ?_⟩;have e:v1u out j (rd (Vx l m) (i+1))=out:=by unfold v1u;rw [List.drop_eq_nil_of_le (by omega),List.map_nil,List.append_nil,List.take_of_length_le (by omega)]
  rw [e,Zv];simp (disch:=omega) only [Vb,Zb,Zk,Yv,Zq,Zx,cond_false]
 | k+1,j,out,h,ho=>by
  have hx:=Kz l m;obtain ⟨n,hn⟩:=v8h last first i hi k (j+1) (out.set j ⟨(rd out j).a,(rd out j).b,(rd out j).c,(rd out j).d,(rd out j).e,rd (Vx l m) (i+1)⟩) (by simp;omega) (by simpa using ho)
  refine ⟨n+1,fun N=> ?_⟩;have:=hn N;rw [v5z out j _ (by omega)] at this;rw [←Nat.add_assoc,Zv];simp (disch:=omega) only [Vb,Zb,Zk,Zt,Yz,Yu,Yb,Yq,Zh,Zq,Zx,Yp,Zj,Nat.zero_add,decide_true,Bool.and_true,Bool.true_and,cond_true];exact this
theorem w6s : ∀(k i:Nat) (out:List R6) (last:List R4) (first:Nat),k=(Vx l m).length - 1 - i→i≤(Vx l m).length →out.length≤i*400→last.length≤400→first≤out.length→
  ∃n,Yk (Vb kind l m) n (.to (.h0 out last (first:Int) (i:Int)))=.ret (x6l (jsF kind l m k i out last first))
 | 0,i,out,last,first,h,hi,ho,hla,hf=>by have hx:=Kz l m;refine ⟨1,?_⟩;rw [Zv];simp (disch:=omega) only [Vb,Zb,Zk,Yv,Zq,Zx,cond_false,Zg,jsF,x6l]
 | k+1,i,out,last,first,h,hi,ho,hla,hf=>by
  have hx:=Kz l m;have hi1:i+1<(Vx l m).length :=by omega
  have hbig:i*400≤20000*400:=Nat.mul_le_mul_right _ (by omega);have a1:=fun z=>z1f l z;have a2:=fun z=>z1f m z;have w1: ∀z,z4n l z=true:=fun z=>decide_eq_true (by omega);have w2: ∀z,z4n m z=true:=fun z=>decide_eq_true (by omega);have w3: ∀k z,z0h k (atV l z) (atV m z)=true:=fun k z=>decide_eq_true (by have:=a1 z;have:=a2 z;omega);have w4: ∀k z,z0h k (atV l z) ([]:List R4)=true:=fun k z=>decide_eq_true (by have:=a1 z;simp;omega);have w5: ∀k z,z0h k (atV m z) ([]:List R4)=true:=fun k z=>decide_eq_true (by have:=a2 z;simp;omega);unfold jsF;have dZ:x0n kind l m (rd (Vx l m) i)=joV kind (atV l (rd (Vx l m) i)) (atV m (rd (Vx l m) i)):=rfl;by_cases c1:400<(x0n kind l m (rd (Vx l m) i)).length
  ·refine ⟨1,?_⟩;have hb:y0b kind l m (rd (Vx l m) i)=true:=by unfold y0b;rw [decide_eq_true c1];rfl
   rw [hb,cond_true,Zv];rw [dZ] at c1;simp (disch:=omega) only [Vb,Zb,Zk,Zt,Yi,Yz,Zq,Zx,Zj,w1,w2,w3,w4,w5,Bool.and_true,cond_true,Zg,x6l]
  by_cases c2:400<(joV 2 (atV l (rd (Vx l m) i)) []).length
  ·refine ⟨1,?_⟩;have hb:y0b kind l m (rd (Vx l m) i)=true:=by unfold y0b;rw [decide_eq_true c2,Bool.true_or,Bool.or_true]
   rw [hb,cond_true,Zv];rw [dZ] at c1;simp (disch:=omega) only [Vb,Zb,Zk,Zt,Yi,Xj,Yz,Zq,Zx,Zj,w1,w2,w3,w4,w5,Bool.and_true,cond_true,cond_false,Zg,x6l]
  by_cases c3:400<(joV 2 (atV m (rd (Vx l m) i)) []).length
  ·refine ⟨1,?_⟩;have hb:y0b kind l m (rd (Vx l m) i)=true:=by unfold y0b;rw [decide_eq_true c3,Bool.or_true,Bool.or_true]
   rw [hb,cond_true,Zv];rw [dZ] at c1;simp (disch:=omega) only [Vb,Zb,Zk,Zt,Yi,Xj,Yz,Zq,Zx,Zj,w1,w2,w3,w4,w5,Bool.and_true,cond_true,cond_false,Zg,x6l]
  have hb:y0b kind l m (rd (Vx l m) i)=false:=by unfold y0b;rw [decide_eq_false c1,decide_eq_false c2,decide_eq_false c3];rfl
  rw [hb,cond_false];have w6:Wm (joV kind (atV l (rd (Vx l m) i)) (atV m (rd (Vx l m) i))) last=true:=decide_eq_true (by rw [←dZ];omega);rcases Yn (decide (0<i)&&Uo (x0n kind l m (rd (Vx l m) i)) last) with q | q
  ·obtain ⟨n3,h3⟩:=v8h kind l m hl hm last first i hi1 (out.length - first) first out (by omega) (by omega)
   obtain ⟨n0,h0⟩:=w6s k (i+1) (v1u out first (rd (Vx l m) (i+1))) last first (by omega) (by omega) (by simp [v1u];omega) hla (by simp [v1u];omega)
   refine ⟨n0+n3+1,?_⟩;rw [q,cond_true,Zv];simp only [Bool.and_eq_true,decide_eq_true_eq] at q;obtain ⟨q1,q2⟩:=q;rw [dZ] at c1 q2;simp (disch:=omega) only [Vb,Zb,Zk,Zt,Yi,Xj,Yz,Zq,Zx,Zj,w1,w2,w3,w4,w5,w6,q2,Bool.and_true,cond_true,cond_false];rw [h3 n0,h0]
  ·obtain ⟨n2,h2⟩:=v8i kind l m hl hm (x0n kind l m (rd (Vx l m) i)) (out.length:Int) i hi1 (x0n kind l m (rd (Vx l m) i)) (by omega) (x0n kind l m (rd (Vx l m) i)).length 0 out (Nat.zero_add _) (by omega);obtain ⟨n0,h0⟩:=w6s k (i+1) (out++u3p (rd (Vx l m) i) (rd (Vx l m) (i+1)) (x0n kind l m (rd (Vx l m) i))) (x0n kind l m (rd (Vx l m) i)) out.length (by omega) (by omega) (by simp [u3p];omega) (by omega) (by simp);refine ⟨n0+n2+1,?_⟩;rw [q,cond_false,Zv];have h2':=h2 n0;simp only [List.drop_zero,z5w] at h2';have c1':=c1;rw [dZ] at c1';by_cases hi0:0<i
   ·rw [decide_eq_true hi0,Bool.true_and,dZ] at q;simp (disch:=omega) only [Vb,Zb,Zk,Zt,Yi,Xj,Yz,Zq,Zx,Zj,w1,w2,w3,w4,w5,w6,q,Bool.and_true,cond_true,cond_false];rw [←h0];exact h2'
   ·simp (disch:=omega) only [Vb,Zb,Zk,Zt,Yi,Xj,Yz,Zq,Zx,Zj,w1,w2,w3,w4,w5,w6,Bool.and_true,cond_true,cond_false];rw [←h0];exact h2'
end
theorem u2t (kind:Int) (l m:List R6) (h:y1m kind l m=true): ∃N,Yk (Vb kind l m) N (y0z kind l m)=.ret (x6l (jsO kind l m)):=by obtain ⟨hl,hm⟩:=of_decide_eq_true h;obtain ⟨N,hN⟩:=w6s kind l m hl hm ((Vx l m).length - 1) 0 [] [] 0 rfl (Nat.zero_le _) (Nat.zero_le _) (Nat.zero_le _) (Nat.le_refl _);refine ⟨N,?_⟩;have w1:z7l l m=true:=decide_eq_true ⟨by omega,by omega⟩;simp only [y0z,Zb,Zk,w1,cond_true];exact hN
def fJs :List AVal→Option (AVal×Bool)
 | [.int .i64 x0,a1,a2]=>match asL R6 a1,asL R6 a2 with
  | some (L1,g1,n1),some (L2,g2,n2)=>some (.tup [.dat (z5m x0 L1 L2).length (Zz (z5m x0 L1 L2)),.bool (x2h x0 L1 L2)],isT R6 n1 g1&&(isT R6 n2 g2&&(y1m x0 L1 L2)))
  | _,_=>none
 | _=>none
theorem fJs_ok {S:Specs} (hS:Zu prog S):Zu prog (S.with v9p fJs):=by
 refine w4x hS (by kernel_rfl) fun args v h=> ?_;unfold fJs at h;split at h
 ·rename_i x0 a1 a2;split at h
  ·rename_i L1 g1 n1 L2 g2 n2 e1 e2;simp only [Option.some.injEq,Prod.mk.injEq,Bool.and_eq_true] at h;obtain ⟨rfl,ho1,ho2,hw⟩:=h;obtain ⟨N,hN⟩:=u2t x0 L1 L2 hw;refine ⟨_,x6l (jsO x0 L1 L2),(.cons (.refl _) (.cons (asL_le e1 ho1) (.cons (asL_le e2 ho2) .nil))),?_,v3a x0 L1 L2 N _ hN,3,?_⟩
   ·unfold z5m x2h;cases jsO x0 L1 L2 with
    | none=>exact fun ρ u hu=>z2w (.cons (z5j R6) (RLe.refl _)) ρ u hu
    | some out=>exact fun ρ u hu=>hu
   ·cases jsO x0 L1 L2 <;> rfl
  ·cases h
 ·cases h
def T4 :Specs:=T3.with v9p fJs
theorem T4_ok :Zu prog T4:=fJs_ok z9b
end Go.Am
namespace Go.Am
open Go.Proofs.Tryz
open Go.Proofs Go.Sort Go.Shelf Go.RowKit Go.Lib
def u6s (x:E3):List Value:=y7s x.1
theorem u6r (l:List R3) (h:y0d l=true):Go.Sort.flatK u6s 3 (x0o l h).toArray =Go.Sort.flatK y7s 3 l.toArray:=by
 have hl:=Ky l h;unfold Go.Sort.flatK;rw [show (x0o l h).toArray.size =l.toArray.size by simpa using hl];apply Array.ext
 ·simp
 ·intro t h1 h2;simp only [Array.getElem_map,Array.getElem_range];have ht:t<l.length*3:=by simpa using h1
  have hq:t / 3<l.length:=by omega
  congr 1
  rw [getElem!_pos (x0o l h).toArray (t / 3) (by simpa [hl] using hq),getElem!_pos l.toArray (t / 3) (by simpa using hq)];unfold u6s
  congr 1
  have:=y1w l h;have e:=congrArg (fun z:List R3=>z[t / 3]?) this;simp only [List.getElem?_map] at e;rw [List.getElem?_eq_getElem (by rw [hl];exact hq),List.getElem?_eq_getElem hq] at e
  simpa using e
theorem v5r (d:Array E3):Go.Sort.flatK u6s 3 d=Go.Sort.flatK y7s 3 (d.toList.map Subtype.val).toArray :=by
 unfold Go.Sort.flatK;rw [show d.size=(d.toList.map Subtype.val).toArray.size by simp];apply Array.ext
 ·simp
 ·intro t h1 h2;simp only [Array.getElem_map,Array.getElem_range];have ht:t<d.size*3:=by simpa using h1
  have hq:t / 3<d.size:=by omega
  congr 1
  rw [getElem!_pos d (t / 3) hq,getElem!_pos (d.toList.map Subtype.val).toArray (t / 3) (by simpa using hq)];simp [u6s]
theorem z6x (l:List R3):y9l l.length (z0a (cvT l)).length =true:=Wo (by
 rw [Zb];by_cases h:y0d l=true
 ·exact (Kk l h).1.length_eq.symm
 ·unfold z0a;rw [dif_neg h])
theorem isAgg3 : ∀w,(isAgg (Tryz.sortEnd_ren.t 24)).run prog w=.ok true w:=fun w=>by rfl
theorem size3 : ∀w,(Go.sizeOf (Tryz.sortEnd_ren.t 24)).run prog w=.ok 3 w:=fun w=>by rfl
theorem w5v :x3n prog v9i (w0s R3 z0a y0d x9v):=by
 refine v0i (fun L=> ?_) (fun blk off cap L w hb hH eH hsz=> ?_) fun p cap fv w=>AnyF.slices_SortFunc_none Tryz.sortEnd p cap fv w
 ·by_cases h:y0d L=true
  ·exact (Kk L h).1.length_eq
  ·unfold z0a;rw [dif_neg h]
 ·have eg: ∀args w,(callFunc 201 args).run prog w=.ok (.enter 201 args) w:=enters_of Tryz.func201 (by kernel_rfl) rfl;have hcmp:CmpLays prog 201 #[] u6s 3 cf3 blk off (x0o L hb).toArray.size w:=fun m os dk _ x y=>by have hx:=of_decide_eq_true x.2;have hy:=of_decide_eq_true y.2;exact Tryz.cmpEnd x.1.a x.1.b x.1.c y.1.a y.1.b y.1.c hx hy _
  have hH':HoldsK u6s 3 w blk off (x0o L hb).toArray :=by unfold HoldsK;rw [u6r L hb];exact hH
  have hcon:=AnyQ.slices_SortFunc_eq Tryz.sortEnd 3 isAgg3 size3 u6s (fun x=>y4a x.1) (fun x v hv=>by
   obtain ⟨a,ha,rfl⟩:=List.mem_map.1 hv;have:x6n a=true:=List.all_eq_true.1 (u0z.num x.1) a ha;cases a <;> first | rfl | (simp [x6n] at this;done)) cf3 swo3 201 #[] blk off cap (x0o L hb).toArray w eg hcmp hH' eH (by simpa [Ky] using hsz)
  have hs:(x0o L hb).toArray.size =L.length:=by simp [Ky]
  rw [hs] at hcon;refine Calls.mono hcon fun e w' ⟨he,n,os,hw⟩=>⟨he,n,os,?_⟩
  rw [hw];unfold sortWorldK putRowK;rw [v5r];unfold z0a;rw [dif_pos hb];rfl
def Yo (zs:List Int):List Int:=zs.mergeSort fun x y=>decide (x≤y)
theorem w5u :x3n prog nSort (fRow Yo):=
 u6t (fun zs=>List.length_mergeSort zs) (fun blk off cap zs w hH hb hz=>Tryz.slices_Sort_int blk off cap zs w hH hb hz) fun p cap w=>Tryz.slices_Sort_int_none p cap w
def Wx (zs:List Int):List Int:=compact zs++List.replicate (zs.length - (compact zs).length) 0
def w4z (zs:List Int):Nat:=(compact zs).length
theorem Uu (zs:List Int):(Wx zs).length =zs.length:=by have:=compact_length_le zs;simp [Wx];omega
theorem z1a (n:Nat) (c:Nat→Int):y9l n (Wx (Zc n c)).length =true:=Wo (by rw [Uu];simp [Zc])
theorem w9j (w:World):grow w #[]=w:=by simp [grow]
theorem x7q :x3n prog x9w (fCut Wx w4z):=
 u6u (fun zs=>by have:=compact_length_le zs;simp [Wx];omega) (fun zs=>compact_length_le zs)
  (fun blk off cap zs w hH hb hz dB=>(Tryz.slices_Compact_int blk off cap zs w hH (by omega) dB).mono fun e w' ⟨he,q,hw⟩=>⟨he,q, #[],by rw [hw,w9j];rfl⟩)
  fun p cap w=>Tryz.slices_Compact_int_empty p cap w
def T5 :Specs:=((T4.withE v9i (w0s R3 z0a y0d x9v)).withE nSort (fRow Yo)).withE x9w (fCut Wx w4z)
theorem Qv :Zu prog T5:=y8c (y8c (y8c T4_ok (by kernel_rfl) w5v) (by kernel_rfl) w5u) (by kernel_rfl) x7q
end Go.Am
namespace Go.Am
open Go.Proofs.Tryz
open Go.Proofs
-- h2: index into an array (choices [true, true, false, false])
-- h2: index into an array (choices [true, false, true, false, false])
-- h2: index into an array (choices [true, false, false, true, true, false, false])
-- h2: index into an array (choices [true, false, false, true, false, false, false])
-- h2: index into an array (choices [true, false, false, false, false, false])
inductive spmS where
 | h0 (v8:Int)
 | h1 (v3:List R3) (v17:Int)
 | h2 (v5:List R3) (v6:Int) (v7:Int) (aA:Int) (aI:Int) (aM:Int) (aF:Bool) (aC:List R2)
abbrev Vn (aC:List R2) (aM:Int) (v5:List R3) (v7:Int):=(aC++[(R2.mk aM (rd v5 (0+(tn v7))).a)])
abbrev z9h (aC:List R2) (aM:Int) (v5:List R3) (v7:Int):=(Zi (Zz aC) 0 aC.length 2 [(ii aM),(ii (rd v5 (0+(tn v7))).a)])
abbrev y5y (v3:List R3) (l0:List R2) (v17:Int):=(v3++[(R3.mk (rd l0 (tn v17)).a 0 1),(R3.mk (rd l0 (tn v17)).b 0 (-1))])
def v7e (l0:List R2):AFr:=⟨⟨11,0,true⟩,(Ui prog 157 [1,1,1,0] 1),(Zd prog 157 [1,1,1,0] 1),none,(Zy prog 15),Yc [(9,(.dat l0.length (Zz l0)))]⟩
def spmC (l0:List R2):spmS→Cfg
 | .h0 v8=>⟨⟨19,0,true⟩,none,(Zd prog 195 [1,0,1,0,0] 0),none,(Zy prog 5),⟨Yc [(0,(.dat l0.length (Zz l0))),(1,(.fn 184 [])),(7,(ii (l0.length:Int))),(8,(ii v8))],Un [] 0,0,[],true⟩,[⟨⟨9,0,true⟩,(Ui prog 183 [1,0] 2),(Zd prog 183 [1,0] 1),none,(Zy prog 5),Yc [(5,(.dat l0.length (Zz l0))),(6,(.fn 184 []))]⟩,⟨⟨11,0,true⟩,(Ui prog 157 [1,1,0,0] 1),(Zd prog 157 [1,1,0,0] 1),none,(Zy prog 15),Yc [(0,(.dat l0.length (Zz l0))),(7,(.dat l0.length (Zz l0)))]⟩],.leaf⟩
 | .h1 v3 v17=>⟨⟨38,0,true⟩,none,(Zd prog 197 [1,1,0,1,0,0,1,1,0,0,1,1,0,0] 0),none,(Zy prog 3),⟨Yc [(3,(.sla 7 3 0 v3.length (.un 3))),(4,(ii 0)),(8,(.sl 0 0 2 (.un 1))),(9,(ii 2)),(10,(ii 0)),(15,(.dat l0.length (Zz l0))),(16,(ii (l0.length:Int))),(17,(ii v17))],Un [⟨[(.dat l0.length (Zz l0)),.nils],180,none⟩,⟨[(.fn 187 [])],213,none⟩,⟨[(ii 0),(ii 0)],142,none⟩,⟨[.nils],180,none⟩,⟨[(ii 0)],3,none⟩,⟨[(.bool false)],4,none⟩,⟨[(.fn 196 [(.ptr 5 0),(.ptr 4 0),(.ptr 3 0)])],242,none⟩,⟨rows v3.length (Zz v3),246,some ⟨3,v3.length,(Zz v3)⟩⟩] 0,8,[],true⟩,[⟨⟨42,0,true⟩,(Ui prog 186 [1,1,1,1,1,0,0] 3),(Zd prog 186 [1,1,1,1,1,0,0] 1),none,(Zy prog 8),Yc [(5,(.ptr 1 0)),(6,.nils),(7,(.ptr 2 0)),(8,(.ptr 3 0)),(9,(.ptr 4 0)),(10,(.ptr 5 0)),(11,(.ptr 6 0)),(16,(.sl 0 0 2 (.un 1)))]⟩,(v7e l0)],.leaf⟩
 | .h2 v5 v6 v7 aA aI aM aF aC=>⟨⟨16,0,true⟩,none,(Zd prog 205 [1,0,0] 0),none,[],⟨Yc [(0,(.yld 0)),(5,(.sla 7 3 0 v5.length (.un 3))),(6,(ii v6)),(7,(ii v7))],z9o [(1,⟨[(.fn 187 [])],213,none⟩),(2,⟨[(ii aA),(ii aI)],142,none⟩),(3,⟨[(ii aM)],3,none⟩),(4,⟨[(.bool aF)],4,none⟩),(5,⟨[(.fn 196 [(.ptr 4 0),(.ptr 3 0),(.ptr 6 0)])],242,none⟩),(6,⟨[(.sla 8 2 0 aC.length (.un 2))],180,none⟩),(7,⟨rows v5.length (Zz v5),246,some ⟨3,v5.length,(Zz v5)⟩⟩),(8,⟨rows aC.length (Zz aC),183,some ⟨2,aC.length,(Zz aC)⟩⟩)],9,[],true⟩,[⟨⟨42,0,true⟩,none,(.inRangeFunc 0::(Zd prog 186 [1,1,1,1,1,0,1,0] 1)),none,(Zy prog 8),Yc [(6,.nils),(8,(.ptr 6 0))]⟩,(v7e l0)],(y5b [(0,⟨.ready,none,42,Yc [(5,(.ptr 1 0)),(7,(.ptr 2 0)),(9,(.ptr 3 0)),(10,(.ptr 4 0)),(11,(.ptr 5 0))],[18],(Vv prog 186 [1,1,1,1,1,0,1,0,0]),(Vv prog 186 [1,1,1,1,1,0,1,0,1])⟩)])⟩
def spmN0 :List (Option (List Nat)):=[some [0,1,7,8],some [5,6],some [0,7]]
def spmM0 :List (Option (List Nat)):=[]
def w5q :List (Option (List Nat)):=[some [3,4,8,9,10,15,16,17],some [5,6,7,8,9,10,11,16],some [9]]
def w5r :List (Option (List Nat)):=[]
def y2h :List (Option (List Nat)):=[some [0,5,6,7],some [6,8],some [9]]
def y2i :List (Option (List Nat)):=[some [5,7,9,10,11],none,none,none,none,none,none,none,none]
def Uy (l0:List R2):spmS→Xo spmS
 | .h0 v8=>(bif (decide (v8<(l0.length:Int))) then (bif ((decide (0≤v8∧v8<(l0.length:Int)))&&true) then (bif (decide ((rd l0 v8.toNat).a <(rd l0 v8.toNat).b)) then (bif (decide ((rd l0 v8.toNat).a ≥(-1000000))) then (bif (!(decide ((rd l0 v8.toNat).b ≤1000000))) then (bif (decide (v8≥0)) then (.ret [.nils,(.int .i64 8)]) else (.to (.h1 ([]:List R3) 0))) else (.to (.h0 (IntKind.wrap .i64 (v8+1))))) else (bif (decide (v8≥0)) then (.ret [.nils,(.int .i64 8)]) else (.to (.h1 ([]:List R3) 0)))) else (bif (decide (v8≥0)) then (.ret [.nils,(.int .i64 8)]) else (.to (.h1 ([]:List R3) 0)))) else .stuck) else (.to (.h1 ([]:List R3) 0)))
 | .h1 v3 v17=>(bif (decide (v17<(l0.length:Int))) then (bif ((decide (0≤v17∧v17<(l0.length:Int)))&&true) then (bif (Nat.beq 3 3&&((decide (0+v3.length=v3.length))&&decide ((v3.length+2+1)*(24+1)≤Us))) then (.to (.h1 (v3++[(R3.mk (rd l0 v17.toNat).a 0 1),(R3.mk (rd l0 v17.toNat).b 0 (-1))]) (IntKind.wrap .i64 (v17+1)))) else .stuck) else .stuck) else (bif (y0d (cvT v3)) then (bif (decide (v3.length<4611686018427387904)) then (bif (decide (v3.length=v3.length)) then (.to (.h2 (z0a (cvT v3)) (v3.length:Int) 0 0 0 0 false ([]:List R2))) else .stuck) else .stuck) else .stuck))
 | .h2 v5 v6 v7 aA aI aM aF aC=>(bif (decide (v7<v6)) then (bif ((decide (0≤v7∧v7<(v5.length:Int)))&&true) then (bif (decide ((0+v7.toNat)<v5.length)) then (bif (!aF) then (bif (decide ((rd v5 (0+v7.toNat)).b =Int.ofNat 0)) then (.to (.h2 v5 v6 (IntKind.wrap .i64 (v7+1)) (IntKind.wrap .i64 (aA+(rd v5 (0+v7.toNat)).c)) aI (rd v5 (0+v7.toNat)).a (w0n (decide ((IntKind.wrap .i64 (aA+(rd v5 (0+v7.toNat)).c))>0)) (decide (aI>0))) aC)) else (bif (decide ((rd v5 (0+v7.toNat)).b =Int.ofNat 1)) then (.to (.h2 v5 v6 (IntKind.wrap .i64 (v7+1)) aA (IntKind.wrap .i64 (aI+(rd v5 (0+v7.toNat)).c)) (rd v5 (0+v7.toNat)).a (w0n (decide (aA>0)) (decide ((IntKind.wrap .i64 (aI+(rd v5 (0+v7.toNat)).c))>0))) aC)) else .stuck)) else (bif (aM == (rd v5 (0+v7.toNat)).a) then (bif (decide ((rd v5 (0+v7.toNat)).b =Int.ofNat 0)) then (.to (.h2 v5 v6 (IntKind.wrap .i64 (v7+1)) (IntKind.wrap .i64 (aA+(rd v5 (0+v7.toNat)).c)) aI (rd v5 (0+v7.toNat)).a (w0n (decide ((IntKind.wrap .i64 (aA+(rd v5 (0+v7.toNat)).c))>0)) (decide (aI>0))) aC)) else (bif (decide ((rd v5 (0+v7.toNat)).b =Int.ofNat 1)) then (.to (.h2 v5 v6 (IntKind.wrap .i64 (v7+1)) aA (IntKind.wrap .i64 (aI+(rd v5 (0+v7.toNat)).c)) (rd v5 (0+v7.toNat)).a (w0n (decide (aA>0)) (decide ((IntKind.wrap .i64 (aI+(rd v5 (0+v7.toNat)).c))>0))) aC)) else .stuck)) else (bif (decide ((aC.length:Int)>0)) then (bif ((decide (0≤(IntKind.wrap .i64 ((aC.length:Int) - 1))∧(IntKind.wrap .i64 ((aC.length:Int) - 1))<(aC.length:Int)))&&true) then (bif (decide ((0+(Int.toNat (IntKind.wrap .i64 ((aC.length:Int) - 1))))<aC.length)) then (bif ((rd aC (0+(Int.toNat (IntKind.wrap .i64 ((aC.length:Int) - 1))))).b == aM) then (bif (decide ((rd v5 (0+v7.toNat)).b =Int.ofNat 0)) then (.to (.h2 v5 v6 (IntKind.wrap .i64 (v7+1)) (IntKind.wrap .i64 (aA+(rd v5 (0+v7.toNat)).c)) aI (rd v5 (0+v7.toNat)).a (w0n (decide ((IntKind.wrap .i64 (aA+(rd v5 (0+v7.toNat)).c))>0)) (decide (aI>0))) (aC.set (0+(Int.toNat (IntKind.wrap .i64 ((aC.length:Int) - 1)))) (R2.mk (rd aC (0+(Int.toNat (IntKind.wrap .i64 ((aC.length:Int) - 1))))).a (rd v5 (0+v7.toNat)).a)))) else (bif (decide ((rd v5 (0+v7.toNat)).b =Int.ofNat 1)) then (.to (.h2 v5 v6 (IntKind.wrap .i64 (v7+1)) aA (IntKind.wrap .i64 (aI+(rd v5 (0+v7.toNat)).c)) (rd v5 (0+v7.toNat)).a (w0n (decide (aA>0)) (decide ((IntKind.wrap .i64 (aI+(rd v5 (0+v7.toNat)).c))>0))) (aC.set (0+(Int.toNat (IntKind.wrap .i64 ((aC.length:Int) - 1)))) (R2.mk (rd aC (0+(Int.toNat (IntKind.wrap .i64 ((aC.length:Int) - 1))))).a (rd v5 (0+v7.toNat)).a)))) else .stuck)) else (bif (Nat.beq 2 2&&((decide (0+aC.length=aC.length))&&decide ((aC.length+1+1)*(16+1)≤Us))) then (bif (decide ((rd v5 (0+v7.toNat)).b =Int.ofNat 0)) then (.to (.h2 v5 v6 (IntKind.wrap .i64 (v7+1)) (IntKind.wrap .i64 (aA+(rd v5 (0+v7.toNat)).c)) aI (rd v5 (0+v7.toNat)).a (w0n (decide ((IntKind.wrap .i64 (aA+(rd v5 (0+v7.toNat)).c))>0)) (decide (aI>0))) (aC++[(R2.mk aM (rd v5 (0+v7.toNat)).a)]))) else (bif (decide ((rd v5 (0+v7.toNat)).b =Int.ofNat 1)) then (.to (.h2 v5 v6 (IntKind.wrap .i64 (v7+1)) aA (IntKind.wrap .i64 (aI+(rd v5 (0+v7.toNat)).c)) (rd v5 (0+v7.toNat)).a (w0n (decide (aA>0)) (decide ((IntKind.wrap .i64 (aI+(rd v5 (0+v7.toNat)).c))>0))) (aC++[(R2.mk aM (rd v5 (0+v7.toNat)).a)]))) else .stuck)) else .stuck)) else .stuck) else .stuck) else (bif (Nat.beq 2 2&&((decide (0+aC.length=aC.length))&&decide ((aC.length+1+1)*(16+1)≤Us))) then (bif (decide ((rd v5 (0+v7.toNat)).b =Int.ofNat 0)) then (.to (.h2 v5 v6 (IntKind.wrap .i64 (v7+1)) (IntKind.wrap .i64 (aA+(rd v5 (0+v7.toNat)).c)) aI (rd v5 (0+v7.toNat)).a (w0n (decide ((IntKind.wrap .i64 (aA+(rd v5 (0+v7.toNat)).c))>0)) (decide (aI>0))) (aC++[(R2.mk aM (rd v5 (0+v7.toNat)).a)]))) else (bif (decide ((rd v5 (0+v7.toNat)).b =Int.ofNat 1)) then (.to (.h2 v5 v6 (IntKind.wrap .i64 (v7+1)) aA (IntKind.wrap .i64 (aI+(rd v5 (0+v7.toNat)).c)) (rd v5 (0+v7.toNat)).a (w0n (decide (aA>0)) (decide ((IntKind.wrap .i64 (aI+(rd v5 (0+v7.toNat)).c))>0))) (aC++[(R2.mk aM (rd v5 (0+v7.toNat)).a)]))) else .stuck)) else .stuck)))) else .stuck) else .stuck) else (.ret [(.dat aC.length (Zz aC)),(.int .i64 0)]))
def y0p (l0:List R2):Xo spmS:=(bif (decide ((l0.length:Int)>400)) then (.ret [.nils,(.int .i64 4)]) else (.to (.h0 0)))
theorem w1p (l0:List R2): ∀s,Xk prog (Zy prog 157) (spmC l0) (spmC l0 s) (Uy l0 s)
 | .h0 v8=>(lb (fun k0=>(lo fun aG=>(lb (fun k1=>(lb (fun k2=>(lb (fun k3=>(lb (fun k4=>(lr 11 157 [1,1,0,1,0,0] 1 15 [(2,.nils),(3,(ii 8))] (sl Qv 79 [] ⟨[],[],[some [2,3]],[]⟩ ⟨[],[],[]⟩ (trs 9 []) (tt k4 (tt k3 (tt k2 (tt k1 (ww aG (tt k0 nn))))))))) (fun k4=>(sl Qv 154 [(246,3,Zz ([]:List R3))] ⟨[8,2,3,4,5,6,7,9],[],w5q,w5r⟩ ⟨[(3,.grow 7 3)],[],[]⟩ (trs 8 (bl 2 2)) (pp (fl ([]:List R3) nn) (tt k4 (tt k3 (tt k2 (tt k1 (ww aG (tt k0 nn))))))))))) (fun k3=>(sl Qv 69 [] ⟨[],[],spmN0,spmM0⟩ ⟨[],[],[]⟩ (trs 7 [false]) (tt k3 (tt k2 (tt k1 (ww aG (tt k0 nn))))))))) (fun k2=>(lb (fun k3=>(lr 11 157 [1,1,0,1,0,0] 1 15 [(2,.nils),(3,(ii 8))] (sl Qv 79 [] ⟨[],[],[some [2,3]],[]⟩ ⟨[],[],[]⟩ (trs 4 (bl 5 24)) (tt k3 (tt k2 (tt k1 (ww aG (tt k0 nn)))))))) (fun k3=>(sl Qv 154 [(246,3,Zz ([]:List R3))] ⟨[8,2,3,4,5,6,7,9],[],w5q,w5r⟩ ⟨[(3,.grow 7 3)],[],[]⟩ (trs 4 (bl 6 40)) (pp (fl ([]:List R3) nn) (tt k3 (tt k2 (tt k1 (ww aG (tt k0 nn)))))))))))) (fun k1=>(lb (fun k2=>(lr 11 157 [1,1,0,1,0,0] 1 15 [(2,.nils),(3,(ii 8))] (sl Qv 79 [] ⟨[],[],[some [2,3]],[]⟩ ⟨[],[],[]⟩ (bl 9 385) (tt k2 (tt k1 (ww aG (tt k0 nn))))))) (fun k2=>(sl Qv 154 [(246,3,Zz ([]:List R3))] ⟨[8,2,3,4,5,6,7,9],[],w5q,w5r⟩ ⟨[(3,.grow 7 3)],[],[]⟩ (bl 10 641) (pp (fl ([]:List R3) nn) (tt k2 (tt k1 (ww aG (tt k0 nn)))))))))))) (fun k0=>(sl Qv 98 [(246,3,Zz ([]:List R3))] ⟨[6,0,1,2,3,4,5,7],[],w5q,w5r⟩ ⟨[(3,.grow 7 3)],[],[]⟩ (bl 3 4) (pp (fl ([]:List R3) nn) (tt k0 nn)))))
 | .h1 v3 v17=>(lb (fun k0=>(lo fun o0=>(lo fun o1=>(sl Qv 36 [] ⟨[0,1,2,3,4,5,6,10],[],w5q,w5r⟩ ⟨[(3,.len (y5y v3 l0 v17).length)],(kpB 7 [.rowed 3 (y5y v3 l0 v17).length (Zz (y5y v3 l0 v17))]),[]⟩ [true] (pp (xL (v3.length+2) (y5y v3 l0 v17).length) (pp (xL (v3.length+2) (y5y v3 l0 v17).length) (pp (xS (v3.length+2) (Zi (Zz v3) 0 v3.length 3 [(ii (rd l0 (tn v17)).a),(ii 0),(ii 1),(ii (rd l0 (tn v17)).b),(ii 0),(ii (-1))]) (Zz (y5y v3 l0 v17))) (pp (pp (xF (Zi (Zz v3) 0 v3.length 3 [(ii (rd l0 (tn v17)).a),(ii 0),(ii 1),(ii (rd l0 (tn v17)).b),(ii 0),(ii (-1))])) nn) (ww o1 (ww o0 (tt k0 nn))))))))))) (fun k0=>(lo fun o0=>(lo fun o1=>(lo fun o2=>(sl Qv 92 [(183,2,Zz ([]:List R2))] ⟨[9,1,2,4,5,6,3,7,10],[],y2h,y2i⟩ ⟨[(5,.len (z0a (cvT v3)).length)],(kpB 6 [.cells [.grow 8 2],.rowed 3 (z0a (cvT v3)).length (Zz (z0a (cvT v3))),.keep]),[]⟩ (bl 4 2) (pp (xL v3.length (z0a (cvT v3)).length (by first | exact z6x _ | exact Wo rfl)) (pp (xL v3.length (z0a (cvT v3)).length (by first | exact z6x _ | exact Wo rfl)) (pp (xS v3.length (Zz (z0a (cvT v3))) (Zz (z0a (cvT v3)))) (pp (fl (z0a (cvT v3)) (fl ([]:List R2) nn)) (pp (pp (xG (Nat.beq 3 3)) (pp (xG (Nat.beq 3 3)) (pp (xG (Nat.beq 0 0)) (pp (pp (xG (decide (v3.length=v3.length))) (pp (xr v3) (xG (decide (v3.length<4611686018427387904))))) (xG (y0d (cvT v3))))))) (tt k0 nn))))))))))))
 | .h2 v5 v6 v7 aA aI aM aF aC=>(lb (fun k0=>(lo fun aG=>(lo fun bA=>(lb (fun k1=>(lb (fun k2=>(sl Qv 62 [] ⟨(List.range 9),[],y2h,y2i⟩ ⟨[],[],[]⟩ (trs 5 (bl 3 0)) (pp (fl v5 (fl aC nn)) (ww k2 (tt k1 (ww bA (ww aG (tt k0 nn)))))))) (fun k2=>(lb (fun k3=>(sl Qv 62 [] ⟨(List.range 9),[],y2h,y2i⟩ ⟨[],[],[]⟩ (trs 6 (bl 4 2)) (pp (fl v5 (fl aC nn)) (ww k3 (tt k1 (ww bA (ww aG (tt k0 nn)))))))) (fun k3=>trivial))))) (fun k1=>(lb (fun k2=>(lb (fun k3=>(sl Qv 62 [] ⟨(List.range 9),[],y2h,y2i⟩ ⟨[],[],[]⟩ (bl 8 17) (pp (fl v5 (fl aC nn)) (ww k3 (tt k2 (tt k1 (ww bA (ww aG (tt k0 nn))))))))) (fun k3=>(lb (fun k4=>(sl Qv 62 [] ⟨(List.range 9),[],y2h,y2i⟩ ⟨[],[],[]⟩ (bl 10 177) (pp (fl v5 (fl aC nn)) (ww k4 (tt k2 (tt k1 (ww bA (ww aG (tt k0 nn))))))))) (fun k4=>trivial))))) (fun k2=>(lb (fun k3=>(lo fun bT=>(lo fun cN=>(lb (fun k4=>(lb (fun k5=>(sl Qv 81 [] ⟨(List.range 9),[],y2h,y2i⟩ ⟨[],(kpB 6 [.cells [.len (aC.set (0+(tn (wr ((aC.length:Int) - 1)))) (R2.mk (rd aC (0+(tn (wr ((aC.length:Int) - 1))))).a (rd v5 (0+(tn v7))).a)).length],.keep,.rowed 2 (aC.set (0+(tn (wr ((aC.length:Int) - 1)))) (R2.mk (rd aC (0+(tn (wr ((aC.length:Int) - 1))))).a (rd v5 (0+(tn v7))).a)).length (Zz (aC.set (0+(tn (wr ((aC.length:Int) - 1)))) (R2.mk (rd aC (0+(tn (wr ((aC.length:Int) - 1))))).a (rd v5 (0+(tn v7))).a)))]),[]⟩ (bl 17 16353) (pp (xL aC.length (aC.set (0+(tn (wr ((aC.length:Int) - 1)))) (R2.mk (rd aC (0+(tn (wr ((aC.length:Int) - 1))))).a (rd v5 (0+(tn v7))).a)).length) (pp (xL aC.length (aC.set (0+(tn (wr ((aC.length:Int) - 1)))) (R2.mk (rd aC (0+(tn (wr ((aC.length:Int) - 1))))).a (rd v5 (0+(tn v7))).a)).length) (pp (xS aC.length (Xe (Zz aC) (0+(tn (wr ((aC.length:Int) - 1)))) 1 [(ii (rd v5 (0+(tn v7))).a)]) (Zz (aC.set (0+(tn (wr ((aC.length:Int) - 1)))) (R2.mk (rd aC (0+(tn (wr ((aC.length:Int) - 1))))).a (rd v5 (0+(tn v7))).a)))) (pp (fl v5 (pp (xF (Xe (Zz aC) (0+(tn (wr ((aC.length:Int) - 1)))) 1 [(ii (rd v5 (0+(tn v7))).a)])) nn)) (ww k5 (ww cN (ww bT (tt k4 (ww cN (ww bT (tt k3 (tt k2 (tt k1 (ww bA (ww aG (tt k0 nn)))))))))))))))))) (fun k5=>(lb (fun k6=>(sl Qv 81 [] ⟨(List.range 9),[],y2h,y2i⟩ ⟨[],(kpB 6 [.cells [.len (aC.set (0+(tn (wr ((aC.length:Int) - 1)))) (R2.mk (rd aC (0+(tn (wr ((aC.length:Int) - 1))))).a (rd v5 (0+(tn v7))).a)).length],.keep,.rowed 2 (aC.set (0+(tn (wr ((aC.length:Int) - 1)))) (R2.mk (rd aC (0+(tn (wr ((aC.length:Int) - 1))))).a (rd v5 (0+(tn v7))).a)).length (Zz (aC.set (0+(tn (wr ((aC.length:Int) - 1)))) (R2.mk (rd aC (0+(tn (wr ((aC.length:Int) - 1))))).a (rd v5 (0+(tn v7))).a)))]),[]⟩ (bl 19 98273) (pp (xL aC.length (aC.set (0+(tn (wr ((aC.length:Int) - 1)))) (R2.mk (rd aC (0+(tn (wr ((aC.length:Int) - 1))))).a (rd v5 (0+(tn v7))).a)).length) (pp (xL aC.length (aC.set (0+(tn (wr ((aC.length:Int) - 1)))) (R2.mk (rd aC (0+(tn (wr ((aC.length:Int) - 1))))).a (rd v5 (0+(tn v7))).a)).length) (pp (xS aC.length (Xe (Zz aC) (0+(tn (wr ((aC.length:Int) - 1)))) 1 [(ii (rd v5 (0+(tn v7))).a)]) (Zz (aC.set (0+(tn (wr ((aC.length:Int) - 1)))) (R2.mk (rd aC (0+(tn (wr ((aC.length:Int) - 1))))).a (rd v5 (0+(tn v7))).a)))) (pp (fl v5 (pp (xF (Xe (Zz aC) (0+(tn (wr ((aC.length:Int) - 1)))) 1 [(ii (rd v5 (0+(tn v7))).a)])) nn)) (ww k6 (ww cN (ww bT (tt k4 (ww cN (ww bT (tt k3 (tt k2 (tt k1 (ww bA (ww aG (tt k0 nn)))))))))))))))))) (fun k6=>trivial))))) (fun k4=>(lo fun cM=>(lb (fun k5=>(sl Qv 81 [] ⟨[0,1,2,3,4,5,6,7,12],[],y2h,y2i⟩ ⟨[],(kpB 6 [.cells [.len (Vn aC aM v5 v7).length],.keep,.rowed 2 (Vn aC aM v5 v7).length (Zz (Vn aC aM v5 v7))]),[]⟩ (bl 17 8161) (pp (xL (aC.length+1) (Vn aC aM v5 v7).length) (pp (xL (aC.length+1) (Vn aC aM v5 v7).length) (pp (xS (aC.length+1) (z9h aC aM v5 v7) (Zz (Vn aC aM v5 v7))) (pp (fl v5 (pp (xF (z9h aC aM v5 v7)) nn)) (ww k5 (ww cM (tt k4 (ww cN (ww bT (tt k3 (tt k2 (tt k1 (ww bA (ww aG (tt k0 nn))))))))))))))))) (fun k5=>(lb (fun k6=>(sl Qv 81 [] ⟨[0,1,2,3,4,5,6,7,12],[],y2h,y2i⟩ ⟨[],(kpB 6 [.cells [.len (Vn aC aM v5 v7).length],.keep,.rowed 2 (Vn aC aM v5 v7).length (Zz (Vn aC aM v5 v7))]),[]⟩ (bl 19 90081) (pp (xL (aC.length+1) (Vn aC aM v5 v7).length) (pp (xL (aC.length+1) (Vn aC aM v5 v7).length) (pp (xS (aC.length+1) (z9h aC aM v5 v7) (Zz (Vn aC aM v5 v7))) (pp (fl v5 (pp (xF (z9h aC aM v5 v7)) nn)) (ww k6 (ww cM (tt k4 (ww cN (ww bT (tt k3 (tt k2 (tt k1 (ww bA (ww aG (tt k0 nn))))))))))))))))) (fun k6=>trivial)))))))))) (fun k3=>(lo fun bT=>(lb (fun k4=>(sl Qv 81 [] ⟨[0,1,2,3,4,5,6,7,12],[],y2h,y2i⟩ ⟨[],(kpB 6 [.cells [.len (Vn aC aM v5 v7).length],.keep,.rowed 2 (Vn aC aM v5 v7).length (Zz (Vn aC aM v5 v7))]),[]⟩ (bl 17 1) (pp (xL (aC.length+1) (Vn aC aM v5 v7).length) (pp (xL (aC.length+1) (Vn aC aM v5 v7).length) (pp (xS (aC.length+1) (z9h aC aM v5 v7) (Zz (Vn aC aM v5 v7))) (pp (fl v5 (pp (xF (z9h aC aM v5 v7)) nn)) (ww k4 (ww bT (tt k3 (tt k2 (tt k1 (ww bA (ww aG (tt k0 nn)))))))))))))) (fun k4=>(lb (fun k5=>(sl Qv 81 [] ⟨[0,1,2,3,4,5,6,7,12],[],y2h,y2i⟩ ⟨[],(kpB 6 [.cells [.len (Vn aC aM v5 v7).length],.keep,.rowed 2 (Vn aC aM v5 v7).length (Zz (Vn aC aM v5 v7))]),[]⟩ (bl 19 81921) (pp (xL (aC.length+1) (Vn aC aM v5 v7).length) (pp (xL (aC.length+1) (Vn aC aM v5 v7).length) (pp (xS (aC.length+1) (z9h aC aM v5 v7) (Zz (Vn aC aM v5 v7))) (pp (fl v5 (pp (xF (z9h aC aM v5 v7)) nn)) (ww k5 (ww bT (tt k3 (tt k2 (tt k1 (ww bA (ww aG (tt k0 nn)))))))))))))) (fun k5=>trivial)))))))))))))) (fun k0=>(lr 11 3 [1,1,1,1,1,1,1,0] 1 15 [(2,(.dat aC.length (Zz aC))),(3,(ii 0))] (sl Qv 19 [] ⟨[],[8],[some [2,3]],[]⟩ ⟨[(2,.frz aC.length aC.length (Zz aC) (Zz aC))],[],[]⟩ [false] (pp (xZ (z5p 2 2 0 aC.length aC.length (Zz aC)) aC.length (Zz aC)) (pp (xL aC.length aC.length) (pp (xS aC.length (Zz aC) (Zz aC)) (pp (fl aC nn) (tt k0 nn)))))))))
theorem x4a (l0:List R2):Xk prog (Zy prog 157) (spmC l0) (Ze prog 157 [(.dat l0.length (Zz l0))] true []) (y0p l0):=(lb (fun k0=>(lr 11 157 [1,0,1,0,0] 1 15 [(2,.nils),(3,(ii 4))] (sl Qv 18 [] ⟨[],[],[some [2,3]],[]⟩ ⟨[],[],[]⟩ [true] (tt k0 nn)))) (fun k0=>(sl Qv 41 [] ⟨[],[],spmN0,spmM0⟩ ⟨[],[],[]⟩ [false] (tt k0 nn))))
theorem v2a (l0:List R2) (n:Nat) (vs:List AVal) (h:Yk (Uy l0) n (y0p l0)=.ret vs):Kv prog (Zy prog 157) (Ze prog 157 [(.dat l0.length (Zz l0))] true []) vs:=by have:=Zr (w1p l0) n _ (x4a l0);rwa [h] at this
end Go.Am
namespace Go.Am
open Go.Proofs
def Qt (s:R2):Bool:=decide (s.a<s.b)&&(decide (s.a≥ -1000000)&&decide (s.b≤1000000))
def Jn (l:List R2):List R3:=l.flatMap fun s=>[⟨s.a,0,1⟩,⟨s.b,0,-1⟩]
def Vp (out:List R2) (last:Int) (inn:Bool) (at':Int):List R2:=
 bif !inn then out else bif last == at' then out else
 bif decide (0<out.length)&&((rd out (out.length - 1)).b == last) then out.set (out.length - 1) ⟨(rd out (out.length - 1)).a,at'⟩ else out++[⟨last,at'⟩]
def swF :List R3→Int→Int→Bool→List R2→List R2
 | [],_,_,_,out=>out
 | e::r,o,last,inn,out=>swF r (o+e.c) e.a (decide (o+e.c>0)) (Vp out last inn e.a)
def swV (l:List R2):List R2:=swF (z0a (Jn l)) 0 0 false []
def Xb (l:List R2):List R2:=bif decide (400<l.length) then [] else bif l.all Qt then swV l else []
def v7f (l:List R2):Int:=bif decide (400<l.length) then 4 else bif l.all Qt then 0 else 8
def y2g (l:List R2):Bool:=true
def x0w (l:List R2):List AVal:=bif decide (400<l.length) then [.nils,.int .i64 4] else bif l.all Qt then [.dat (swV l).length (Zz (swV l)),.int .i64 0] else [.nils,.int .i64 8]
theorem z3t (l:List R2):(Jn l).length =2*l.length:=by
 induction l with
 | nil=>rfl
 | cons r l ih=>show (_::_::Jn l).length =_;simp only [List.length_cons,ih];omega
theorem z2f (out:List R2) (last:Int) (inn:Bool) (a:Int):(Vp out last inn a).length ≤out.length+1:=by
 unfold Vp;cases inn <;> simp only [Bool.not_true,Bool.not_false,cond_true,cond_false]
 ·omega
 ·cases (last == a) <;> simp only [cond_true,cond_false]
  ·cases (decide (0<out.length)&&((rd out (out.length - 1)).b == last)) <;> simp
  ·omega
theorem y0o (e:R3) (r:List R3) (o last:Int) (inn:Bool) (out:List R2):swF (e::r) o last inn out=swF r (o+e.c) e.a (decide (o+e.c>0)) (Vp out last inn e.a):=rfl
theorem u3r {a:Int} (k:Nat) (h:a=(k:Int)):decide (a=Int.ofNat k)=true:=decide_eq_true h
section
variable (l:List R2) (hl:l.length≤400)
include hl
theorem v7b (L:List R3) (hL:L.length≤800) (hE: ∀i,i<L.length→(rd L i).b =0∧((rd L i).c =1∨(rd L i).c = -1)): ∀(k i:Nat) (o last:Int) (inn:Bool) (out:List R2),i+k=L.length→ -(i:Int)≤o→o≤i→out.length≤i→
  ∃n,Yk (Uy l) n (.to (.h2 L (L.length:Int) (i:Int) o 0 last inn out))=.ret [.dat (swF (L.drop i) o last inn out).length (Zz (swF (L.drop i) o last inn out)),.int .i64 0]
 | 0,i,o,last,inn,out,h,ho1,ho2,hout=>by have _uhl:=hl;refine ⟨1,?_⟩;rw [Zv,List.drop_eq_nil_of_le (by omega)];simp (disch:=omega) only [Uy,Yv,cond_false,Zg,swF]
 | k +1,i,o,last,inn,out,h,ho1,ho2,hout=>by
  obtain ⟨hb,hc⟩:=hE i (by omega);have hcl:=z2f out last inn (rd L i).a;obtain ⟨n,hn⟩:=v7b L hL hE k (i+1) (o+(rd L i).c) (rd L i).a (decide (o+(rd L i).c >0)) (Vp out last inn (rd L i).a) (by omega) (by rcases hc with hc | hc <;> omega) (by rcases hc with hc | hc <;> omega) (by omega);refine ⟨n+1,?_⟩;rw [Ya (show i<L.length by omega),Zv];have hf: ∀b,w0n b (decide ((0:Int)>0))=b:=fun b=>rfl;have hw:IntKind.wrap .i64 (o+(rd L i).c)=o+(rd L i).c :=Zq (by rcases hc with hc | hc <;> omega);rw [y0o];have hf': ∀b,w0n b false=b:=fun b=>rfl;have hz:=u3r 0 hb;unfold Vp at hn ⊢;cases inn with
  | false=>simp only [Bool.not_false,cond_true] at hn ⊢;simp (disch:=omega) only [Uy,Bool.not_false,hz,hw,hf,hf',Zt,Yz,Yu,Zq,Zx,Zj,Nat.zero_add,Bool.and_true,cond_true];exact hn
  | true=>
   simp only [Bool.not_true,cond_false] at hn ⊢;rcases Yn (last == (rd L i).a) with q | q
   ·rw [q] at hn ⊢;simp only [cond_true] at hn ⊢;simp (disch:=omega) only [Uy,Bool.not_true,q,hz,hw,hf,hf',Zt,Yz,Yu,Zq,Zx,Zj,Nat.zero_add,Bool.and_true,cond_true,cond_false];exact hn
   ·rw [q] at hn ⊢;simp only [cond_false] at hn ⊢;by_cases h0:0<out.length
    ·rw [decide_eq_true h0,Bool.true_and] at hn ⊢;rcases Yn ((rd out (out.length - 1)).b == last) with q2 | q2
     ·rw [q2] at hn ⊢;simp only [cond_true] at hn ⊢;simp (disch:=omega) only [Uy,Bool.not_true,q,q2,hz,hw,hf,hf',Zt,Yi,Yz,Yu,Zq,Zx,Zj,Zf,Nat.zero_add,Bool.and_true,cond_true,cond_false];exact hn
     ·rw [q2] at hn ⊢;simp only [cond_false] at hn ⊢;simp (disch:=omega) only [Uy,Bool.not_true,q,q2,hz,hw,hf,hf',Zt,Yi,Yz,Yu,Yq,Zh,Yp,decide_true,Zq,Zx,Zj,Zf,Nat.zero_add,Bool.and_true,Bool.true_and,cond_true,cond_false];exact hn
    ·rw [decide_eq_false h0,Bool.false_and] at hn ⊢;simp only [cond_false] at hn ⊢;simp (disch:=omega) only [Uy,Bool.not_true,q,hz,hw,hf,hf',Zt,Xj,Yz,Yu,Yq,Zh,Yp,decide_true,Zq,Zx,Zj,Nat.zero_add,Bool.and_true,Bool.true_and,cond_true,cond_false];exact hn
theorem v0h (h:l.all Qt=true): ∀e∈Jn l,bnd3 e=true∧e.b=0∧(e.c=1∨e.c= -1):=by
 have _uhl:=hl;intro e he;obtain ⟨s,hs,h1⟩:=List.mem_flatMap.1 he;have hv:=List.all_eq_true.1 h s hs;simp only [Qt,Bool.and_eq_true,decide_eq_true_eq] at hv;simp only [List.mem_cons,List.not_mem_nil,or_false] at h1;rcases h1 with rfl | rfl
 ·exact ⟨decide_eq_true (by simp only;omega),rfl,.inl rfl⟩
 ·exact ⟨decide_eq_true (by simp only;omega),rfl,.inr rfl⟩
theorem v7c (hv:l.all Qt=true): ∀(k i:Nat) (acc:List R3),i+k=l.length→acc=Jn (l.take i)→ ∃n,Yk (Uy l) n (.to (.h1 acc (i:Int)))=.ret [.dat (swV l).length (Zz (swV l)),.int .i64 0]
 | 0,i,acc,h,ha=>by
  have e:acc=Jn l:=by rw [ha,List.take_of_length_le (by omega)]
  subst e;have hle:=z3t l;have dX:=v0h l hl hv;have hb:y0d (Jn l)=true:=List.all_eq_true.2 fun e he=>(dX e he).1;obtain ⟨hp,_⟩:=Kk (Jn l) hb;have hpl:=hp.length_eq;obtain ⟨n,hn⟩:=v7b l hl (z0a (Jn l)) (by omega) (fun i hi=>by
   rw [Xv hi];exact (dX _ (hp.mem_iff.1 (List.getElem_mem hi))).2) (z0a (Jn l)).length 0 0 0 false [] (Nat.zero_add _) (by omega) (by omega) (Nat.zero_le _)
  refine ⟨n+1,?_⟩;rw [Zv];simp (disch:=omega) only [Uy,Zb,Zk,hb,Yv,Yu,Yq,decide_true,cond_true,cond_false];rw [←hpl];simp only [z5w,List.drop_zero] at hn;exact hn
 | k+1,i,acc,h,ha=>by
  have hle:=z3t (l.take i);have fG:acc.length≤2*i:=by rw [ha,hle];simp;omega
  obtain ⟨n,hn⟩:=v7c hv k (i+1) (acc++Jn [rd l i]) (by omega) (by
   rw [ha,List.take_add_one];have:l[i]? =some (rd l i):=by rw [Xv (show i<l.length by omega)];exact List.getElem?_eq_getElem _
   rw [this];simp [Jn])
  refine ⟨n+1,?_⟩;rw [Zv];simp (disch:=omega) only [Uy,Zt,Yz,Yb,Yq,Zh,Yp,decide_true,Zq,Zx,Zj,Nat.zero_add,Bool.and_true,Bool.true_and,cond_true];exact hn
theorem v7d : ∀(k i:Nat),i+k=l.length→(∀s∈l.take i,Qt s=true)→ ∃n,Yk (Uy l) n (.to (.h0 (i:Int)))=.ret (bif l.all Qt then [.dat (swV l).length (Zz (swV l)),.int .i64 0] else [.nils,.int .i64 8])
 | 0,i,h,ht=>by have hv:l.all Qt=true:=List.all_eq_true.2 fun s hs=>ht s (by rw [List.take_of_length_le (by omega)];exact hs);obtain ⟨n,hn⟩:=v7c l hl hv l.length 0 [] (Nat.zero_add _) rfl;refine ⟨n+1,?_⟩;rw [Zv,hv,cond_true];simp (disch:=omega) only [Uy,Yv,cond_false];exact hn
 | k+1,i,h,ht=>by
  have hi:i<l.length:=by omega
  rcases Yn (Qt (rd l i)) with q | q
  ·obtain ⟨n,hn⟩:=v7d k (i+1) (by omega) (fun s hs=>by
    rw [List.take_add_one] at hs;have e:l[i]? =some (rd l i):=by rw [Xv hi];exact List.getElem?_eq_getElem _
    rw [e] at hs;simp only [Option.toList_some,List.mem_append,List.mem_singleton] at hs;rcases hs with hs | rfl
    ·exact ht s hs
    ·exact q)
   refine ⟨n+1,?_⟩;rw [Zv];simp only [Qt,Bool.and_eq_true,decide_eq_true_eq] at q;simp (disch:=omega) only [Uy,Zt,Xn,dge_t,Yz,Zq,Zx,Zj,Bool.not_true,Bool.and_true,cond_true,cond_false];exact hn
  ·have hv:l.all Qt=false:=Bool.eq_false_iff.2 fun e=>by have:=List.all_eq_true.1 e (rd l i) (by rw [Xv hi];exact List.getElem_mem hi);rw [this] at q;cases q
   refine ⟨1,?_⟩;rw [Zv,hv,cond_false];unfold Qt at q;rcases Yn (decide ((rd l i).a <(rd l i).b)) with q1 | q1 <;> rcases Yn (decide ((rd l i).a ≥ -1000000)) with q2 | q2 <;> rcases Yn (decide ((rd l i).b ≤1000000)) with q3 | q3 <;>
    rw [q1,q2,q3] at q <;> first
    | (exfalso;revert q;decide)
    | simp (disch:=omega) only [Uy,q1,q2,q3,Zt,dge_t,Yz,Zq,Zx,Zj,Bool.not_true,Bool.not_false,Bool.and_true,cond_true,cond_false,Zg]
end
theorem u1o (l:List R2): ∃n,Yk (Uy l) n (y0p l)=.ret (x0w l):=by
 unfold y0p x0w;by_cases h:400<l.length
 ·refine ⟨0,?_⟩;rw [decide_eq_true h,Yi (show (l.length:Int)>400 by omega)];rfl
 ·obtain ⟨n,hn⟩:=v7d l (by omega) l.length 0 (Nat.zero_add _) (fun s hs=>by simp at hs);refine ⟨n,?_⟩;rw [decide_eq_false h,Xj (show¬(l.length:Int)>400 by omega),cond_false,cond_false];exact hn
end Go.Am
namespace Go.Am
open Go.Proofs.Tryz
open Go.Proofs
def fSpm :List AVal→Option (AVal×Bool)
 | [a1]=>match asL R2 a1 with
  | some (L1,g1,n1)=>some (.tup [.dat (Xb L1).length (Zz (Xb L1)),.int .i64 (v7f L1)],isT R2 n1 g1&&y2g L1)
  | _=>none
 | _=>none
theorem u5n {S:Specs} (hS:Zu prog S):Zu prog (S.with x1w fSpm):=by
 refine w4x hS (by kernel_rfl) fun args v h=> ?_;unfold fSpm at h;split at h
 ·rename_i a1;split at h
  ·rename_i L1 g1 n1 e1;simp only [Option.some.injEq,Prod.mk.injEq,Bool.and_eq_true] at h;obtain ⟨rfl,ho1,hw⟩:=h;obtain ⟨N,hN⟩:=u1o L1;refine ⟨_,x0w L1,(.cons (asL_le e1 ho1) .nil),?_,v2a L1 N _ hN,3,?_⟩
   ·unfold Xb v7f x0w;cases decide (400<L1.length) <;> simp only [cond_true,cond_false]
    ·cases L1.all Qt <;> simp only [cond_true,cond_false]
     ·exact fun ρ u hu=>z2w (.cons (z5j R2) (RLe.refl _)) ρ u hu
     ·exact fun ρ u hu=>hu
    ·exact fun ρ u hu=>z2w (.cons (z5j R2) (RLe.refl _)) ρ u hu
   ·unfold x0w;cases decide (400<L1.length) <;> simp only [cond_true,cond_false]
    ·cases L1.all Qt <;> rfl
    ·rfl
  ·cases h
 ·cases h
def T6 :Specs:=T5.with x1w fSpm
theorem Ji :Zu prog T6:=u5n Qv
end Go.Am
namespace Go.Am
open Go.Proofs Go.Sort Go.Shelf Go.RowKit Go.Lib
theorem y4j {γ:Type} (a b:Bool) (x y:γ):(bif a&&b then x else y)=bif a then (bif b then x else y) else y:=by cases a <;> rfl
theorem z5x {γ:Type} (a:Bool) (x y:γ):(bif !a then x else y)=bif a then y else x:=by cases a <;> rfl
structure Dim (α β:Type) where
 lo:α→Int
 hi:α→Int
 pr:α→β
 put:Int→Int→β→α
 ext:Int→α→α
 mak:List β→List β
 same:List β→List β→Bool
structure Sw (α β:Type) where
 out:List α
 last:List β
 first:Nat
 fin:Int
def Ur (zs:List Int):List Int:=compact (Yo zs)
theorem z8s (zs:List Int):w4z (Yo zs)=(Ur zs).length :=rfl
theorem Wz (zs:List Int):(Yo zs).length =zs.length:=List.length_mergeSort zs
theorem z2d (zs:List Int):(Ur zs).length ≤zs.length:=by have:=compact_length_le (Yo zs);rw [Wz] at this;exact this
theorem z3f (zs:List Int) (i:Nat) (h:i<(Ur zs).length):rd (Wx (Yo zs)) i=rd (Ur zs) i:=by change i<(compact (Yo zs)).length at h;show rd (compact (Yo zs)++_) i=rd (compact (Yo zs)) i;rw [Xv (by rw [List.length_append];exact Nat.lt_add_right _ h),Xv h,List.getElem_append_left h]
theorem Qk (zs:List Int):Zc zs.length (cOf (Zz (Yo zs)))=Yo zs:=by have:=Wg (Yo zs);rw [Wz] at this;exact this
namespace Dim
variable {α β:Type} (D:Dim α β) (l:List α)
def ends :List Int:=l.flatMap fun r=>[D.lo r,D.hi r]
def cuts :List Int:=Ur (D.ends l)
def inn (x:Int):List β:=(l.filter fun r=>decide (D.lo r≤x)&&decide (x<D.hi r)).map D.pr
def sec (x:Int):List β:=D.mak (D.inn l x)
def grow (out:List α) (k:Nat) (x:Int):List α:=out.take k++(out.drop k).map (D.ext x)
def one (x x':Int) (s:Sw α β):Sw α β:=
 bif decide (0<(D.sec l x).length)&&((s.fin == x)&&D.same s.last (D.sec l x)) then ⟨D.grow s.out s.first x',s.last,s.first,x'⟩
 else ⟨s.out++(D.sec l x).map (D.put x x'),D.sec l x,s.out.length,x'⟩
def go :Nat→Nat→Sw α β→Sw α β
 | 0,_,s=>s
 | k+1,i,s=>go k (i+1) (D.one l (rd (D.cuts l) i) (rd (D.cuts l) (i+1)) s)
def out :List α:=(D.go l ((D.cuts l).length - 1) 0 ⟨[],[],0,0⟩).out
theorem ends_length :(D.ends l).length =2*l.length:=by
 induction l with
 | nil=>rfl
 | cons r l ih=>show (_::_::D.ends l).length =_;simp only [List.length_cons,ih];omega
theorem cuts_length :(D.cuts l).length ≤2*l.length:=by have:=z2d (D.ends l);rw [D.ends_length] at this;exact this
theorem ends_append (m:List α):D.ends (l++m)=D.ends l++D.ends m:=by simp [ends]
theorem inn_append (m:List α) (x:Int):D.inn (l++m) x=D.inn l x++D.inn m x:=by simp [inn]
theorem inn_length (x:Int):(D.inn l x).length ≤l.length:=by simpa [inn] using List.length_filter_le _ l
theorem inn_t (r:α) (x:Int) (h1:D.lo r≤x) (h2:x<D.hi r):D.inn [r] x=[D.pr r]:=by simp [inn,h1,h2]
theorem inn_f1 (r:α) (x:Int) (h1: ¬D.lo r≤x):D.inn [r] x=[]:=by simp [inn,h1]
theorem inn_f2 (r:α) (x:Int) (h1: ¬x<D.hi r):D.inn [r] x=[]:=by simp [inn,h1]
theorem grow_nil (out:List α) (k:Nat) (x:Int) (h:out.length≤k):D.grow out k x=out:=by unfold grow;rw [List.drop_eq_nil_of_le h,List.map_nil,List.append_nil,List.take_of_length_le h]
theorem grow_length (out:List α) (k:Nat) (x:Int):(D.grow out k x).length =out.length:=by unfold grow;simp;omega
theorem grow_set [Yh α] (out:List α) (j:Nat) (x:Int) (h:j<out.length):D.grow (out.set j (D.ext x (rd out j))) (j+1) x=D.grow out j x:=by
 unfold grow;rw [Ya h,List.map_cons];have e1:(out.set j (D.ext x (rd out j))).take (j+1)=out.take j++[D.ext x (rd out j)]:=by
  apply List.ext_getElem
  ·simp;omega
  ·intro n h1 h2;simp only [List.getElem_take,List.getElem_set];by_cases e:j=n
   ·subst e;rw [if_pos rfl,List.getElem_append_right (by simp only [List.length_take];omega)];simp
   ·rw [if_neg e,List.getElem_append_left (by simp at h1 ⊢;omega),List.getElem_take]
 have e2:(out.set j (D.ext x (rd out j))).drop (j+1)=out.drop (j+1):=by rw [List.drop_set];rw [if_pos (by omega)]
 rw [e1,e2,List.append_assoc];rfl
theorem one_length (x x':Int) (s:Sw α β):(D.one l x x' s).out.length ≤s.out.length+(D.sec l x).length :=by unfold one;cases (decide (0<(D.sec l x).length)&&((s.fin == x)&&D.same s.last (D.sec l x))) <;> simp [grow_length]
end Dim
end Go.Am
namespace Go.Am
open Go.Proofs.Tryz
open Go.Proofs
inductive vl4S where
def vl4C (aT:Int) (aU:Int) (aV:Int) (bP:Int):vl4S→Cfg
 :=nofun
def x3t (aT:Int) (aU:Int) (aV:Int) (bP:Int):vl4S→Xo vl4S
 :=nofun
def y0n (aT:Int) (aU:Int) (aV:Int) (bP:Int):Xo vl4S:=(bif (decide (aT<aV)) then (bif (decide (aU<bP)) then (bif (decide (aT≥(-1000000))) then (bif (decide (aT≤1000000)) then (bif (decide (aV≥(-1000000))) then (bif (decide (aV≤1000000)) then (bif (decide (aU≥(-1000000))) then (bif (decide (aU≤1000000)) then (bif (decide (bP≥(-1000000))) then (.ret [(.bool (decide (bP≤1000000)))]) else (.ret [(.bool false)])) else (.ret [(.bool false)])) else (.ret [(.bool false)])) else (.ret [(.bool false)])) else (.ret [(.bool false)])) else (.ret [(.bool false)])) else (.ret [(.bool false)])) else (.ret [(.bool false)])) else (.ret [(.bool false)]))
theorem w1g (aT:Int) (aU:Int) (aV:Int) (bP:Int): ∀s,Xk prog (Zy prog 120) (vl4C aT aU aV bP) (vl4C aT aU aV bP s) (x3t aT aU aV bP s)
 :=nofun
theorem x3u (aT:Int) (aU:Int) (aV:Int) (bP:Int):Xk prog (Zy prog 120) (vl4C aT aU aV bP) (Ze prog 120 [(.agg [(.int .i64 aT),(.int .i64 aU),(.int .i64 aV),(.int .i64 bP)])] true []) (y0n aT aU aV bP):=(lb (fun k0=>(lb (fun k1=>(lb (fun k2=>(lb (fun k3=>(lb (fun k4=>(lb (fun k5=>(lb (fun k6=>(lb (fun k7=>(lb (fun k8=>(lr 35 3 [1,1,1,1,1,1,1,0] 1 3 [(2,(.bool (decide (bP≤1000000))))] (sl Ji 101 [] ⟨[],[],[some [2]],[]⟩ ⟨[],[],[]⟩ (trs 25 []) (tt k8 (tt k7 (tt k6 (tt k5 (tt k4 (tt k3 (tt k2 (tt k1 (tt k0 nn)))))))))))) (fun k8=>(lr 35 3 [1,1,1,1,1,1,1,0] 1 3 [(2,(.bool false))] (sl Ji 101 [] ⟨[],[],[some [2]],[]⟩ ⟨[],[],[]⟩ (trs 23 [false,false]) (tt k8 (tt k7 (tt k6 (tt k5 (tt k4 (tt k3 (tt k2 (tt k1 (tt k0 nn)))))))))))))) (fun k7=>(lr 35 3 [1,1,1,1,1,1,1,0] 1 3 [(2,(.bool false))] (sl Ji 86 [] ⟨[],[],[some [2]],[]⟩ ⟨[],[],[]⟩ (trs 20 [false,false,false]) (tt k7 (tt k6 (tt k5 (tt k4 (tt k3 (tt k2 (tt k1 (tt k0 nn))))))))))))) (fun k6=>(lr 35 3 [1,1,1,1,1,1,1,0] 1 3 [(2,(.bool false))] (sl Ji 86 [] ⟨[],[],[some [2]],[]⟩ ⟨[],[],[]⟩ (trs 18 [false,false,false,false,false]) (tt k6 (tt k5 (tt k4 (tt k3 (tt k2 (tt k1 (tt k0 nn)))))))))))) (fun k5=>(lr 35 3 [1,1,1,1,1,1,1,0] 1 3 [(2,(.bool false))] (sl Ji 71 [] ⟨[],[],[some [2]],[]⟩ ⟨[],[],[]⟩ (trs 15 [false,false,false,false,false,false]) (tt k5 (tt k4 (tt k3 (tt k2 (tt k1 (tt k0 nn))))))))))) (fun k4=>(lr 35 3 [1,1,1,1,1,1,1,0] 1 3 [(2,(.bool false))] (sl Ji 71 [] ⟨[],[],[some [2]],[]⟩ ⟨[],[],[]⟩ (trs 13 [false,false,false,false,false,false,false,false]) (tt k4 (tt k3 (tt k2 (tt k1 (tt k0 nn)))))))))) (fun k3=>(lr 35 3 [1,1,1,1,1,1,1,0] 1 3 [(2,(.bool false))] (sl Ji 56 [] ⟨[],[],[some [2]],[]⟩ ⟨[],[],[]⟩ (trs 10 [false,false,false,false,false,false,false,false,false]) (tt k3 (tt k2 (tt k1 (tt k0 nn))))))))) (fun k2=>(lr 35 3 [1,1,1,1,1,1,1,0] 1 3 [(2,(.bool false))] (sl Ji 56 [] ⟨[],[],[some [2]],[]⟩ ⟨[],[],[]⟩ (trs 8 [false,false,false,false,false,false,false,false,false,false,false]) (tt k2 (tt k1 (tt k0 nn)))))))) (fun k1=>(lr 35 3 [1,1,1,1,1,1,1,0] 1 3 [(2,(.bool false))] (sl Ji 41 [] ⟨[],[],[some [2]],[]⟩ ⟨[],[],[]⟩ (trs 5 [false,false,false,false,false,false,false,false,false,false,false,false]) (tt k1 (tt k0 nn))))))) (fun k0=>(lr 35 3 [1,1,1,1,1,1,1,0] 1 3 [(2,(.bool false))] (sl Ji 41 [] ⟨[],[],[some [2]],[]⟩ ⟨[],[],[]⟩ [false,false,false,false,false,false,false,false,false,false,false,false,false,false,false,false,false] (tt k0 nn)))))
theorem v1x (aT:Int) (aU:Int) (aV:Int) (bP:Int) (n:Nat) (vs:List AVal) (h:Yk (x3t aT aU aV bP) n (y0n aT aU aV bP)=.ret vs):Kv prog (Zy prog 120) (Ze prog 120 [(.agg [(.int .i64 aT),(.int .i64 aU),(.int .i64 aV),(.int .i64 bP)])] true []) vs:=by have:=Zr (w1g aT aU aV bP) n _ (x3u aT aU aV bP);rwa [h] at this
inductive madS where
 | h0 (v16:Int) (aA:List Int)
 | h1 (v4:Int) (aN:List R4) (aX:List R2) (bF:Int) (bG:Int) (aS:Nat) (bE:List Int)
 | h2 (v4:Int) (v38:Int) (aN:List R4) (aX:List R2) (bF:Int) (bG:Int) (aS:Nat) (bE:List Int) (aC:Int) (cH:Int) (aL:List R2)
 | h3 (v1:Int) (v2:Int) (v71:List R2) (v72:Int) (v73:Int) (bU:List R2) (aR:Int) (aD:List R4) (bC:List R2) (bD:Int) (aS:Nat) (bE:List Int) (aC:List R2)
 | h4 (v2:Int) (v8:Int) (cJ:Int) (bU:List R2) (aR:Int) (aD:List R4) (bC:List R2) (bD:Int) (bR:Int) (cF:Nat) (cI:List Int) (aL:List R2)
abbrev y7d (aD:List R4) (v8:Int) (v2:Int):=(aD.set (0+(tn v8)) (R4.mk (rd aD (0+(tn v8))).a (rd aD (0+(tn v8))).b v2 (rd aD (0+(tn v8))).d))
abbrev y7c (aA:List Int):=(Wx (Zc aA.length (cOf (Zz (Yo (Zc aA.length (cOf (Zz aA))))))))
def u0j :AFr:=⟨⟨29,0,true⟩,none,(.inRangeFunc 0::(Zd prog 121 [1,1,0,1,0] 1)),none,(Zy prog 15),Yc [(2,.nils),(3,(ii 0)),(4,(.ptr 1 0))]⟩
def u0i :=(y5b [(0,⟨.ready,none,29,Yc [(4,(.ptr 1 0))],[11],(Vv prog 121 [1,1,0,1,0,0]),(Vv prog 121 [1,1,0,1,0,1])⟩)])
abbrev y7b (aL:List R2) (l0:List R4) (v38:Int):=(aL++[(R2.mk (rd l0 (tn v38)).b (rd l0 (tn v38)).d)])
abbrev y7a (aD:List R4) (v1:Int) (v71:List R2) (v73:Int) (v2:Int):=(aD++[(R4.mk v1 (rd v71 (tn v73)).a v2 (rd v71 (tn v73)).b)])
def x1y (l0:List R4):ABlk:=⟨[(.dat l0.length (Zz l0))],99,none⟩
abbrev y6z (aA:List Int) (l0:List R4) (v16:Int):=(aA++[(rd l0 (tn v16)).a,(rd l0 (tn v16)).c])
def madC (l0:List R4):madS→Cfg
 | .h0 v16 aA=>⟨⟨34,0,true⟩,none,(Zd prog 156 [1,1,0,1,0,0,1,1,0,0,1,1,0,0] 0),none,(Zy prog 3),⟨Yc [(1,(.ptr 0 0)),(3,(.ptr 2 0)),(8,(.sl 1 0 1 (.un 1))),(9,(ii 1)),(10,(ii 0)),(14,(.dat l0.length (Zz l0))),(15,(ii (l0.length:Int))),(16,(ii v16))],Un [⟨[(.sl 1 0 1 (.un 1))],171,none⟩,(x1y l0),⟨[(.sla 4 1 0 aA.length (.un 1))],93,none⟩,⟨[.nils,.nils,(ii 0),(ii 0)],200,none⟩,⟨rows aA.length (Zz aA),3,some ⟨1,aA.length,(Zz aA)⟩⟩] 0,5,[],true⟩,[⟨⟨29,0,true⟩,(Ui prog 121 [1,1,0,0] 2),(Zd prog 121 [1,1,0,0] 1),none,(Zy prog 15),Yc [(2,.nils),(3,(ii 0)),(4,(.ptr 3 0)),(9,(.sl 1 0 1 (.un 1)))]⟩],.leaf⟩
 | .h1 v4 aN aX bF bG aS bE=>⟨⟨76,0,true⟩,none,(Zd prog 182 [1,0,0] 0),none,[],⟨Yc [(0,(.yld 0)),(1,(.ptr 2 0)),(2,(.ptr 4 0)),(4,(ii v4))],z9o [(1,⟨[(.sla 6 4 0 aN.length (.un 4)),(.dat aX.length (Zz aX)),(ii bF),(ii bG)],200,none⟩),(2,⟨[(.sla 3 1 0 aS (.un 1))],93,none⟩),(3,⟨rows bE.length (Zz bE),3,some ⟨1,bE.length,(Zz bE)⟩⟩),(4,⟨[(.sl 5 0 1 (.un 1))],171,none⟩),(5,(x1y l0)),(6,⟨rows aN.length (Zz aN),88,some ⟨4,aN.length,(Zz aN)⟩⟩)],7,[],true⟩,[u0j],u0i⟩
 | .h2 v4 v38 aN aX bF bG aS bE aC cH aL=>⟨⟨76,0,true⟩,none,(Zd prog 182 [1,0,0,1,0,0,1,0,1,0,0,1,1,0,0,1,1,0,0] 0),none,[],⟨Yc [(0,(.yld 0)),(1,(.ptr 2 0)),(2,(.ptr 4 0)),(4,(ii v4)),(5,(.ptr 6 0)),(6,(ii 0)),(29,(.sl 5 0 1 (.un 1))),(30,(ii 1)),(31,(ii 0)),(36,(.dat l0.length (Zz l0))),(37,(ii (l0.length:Int))),(38,(ii v38))],z9o [(1,⟨[(.sla 9 4 0 aN.length (.un 4)),(.dat aX.length (Zz aX)),(ii bF),(ii bG)],200,none⟩),(2,⟨[(.sla 3 1 0 aS (.un 1))],93,none⟩),(3,⟨rows bE.length (Zz bE),3,some ⟨1,bE.length,(Zz bE)⟩⟩),(4,⟨[(.sl 5 0 1 (.un 1))],171,none⟩),(5,(x1y l0)),(6,⟨[(ii aC),(ii cH),(.sl 7 0 1 (.ex 1))],205,none⟩),(7,⟨[(.sla 8 2 0 aL.length (.un 2))],180,none⟩),(8,⟨rows aL.length (Zz aL),183,some ⟨2,aL.length,(Zz aL)⟩⟩),(9,⟨rows aN.length (Zz aN),88,some ⟨4,aN.length,(Zz aN)⟩⟩)],10,[],true⟩,[u0j],u0i⟩
 | .h3 v1 v2 v71 v72 v73 bU aR aD bC bD aS bE aC=>⟨⟨94,0,true⟩,none,(Zd prog 158 [1,1,1,0,0] 0),none,[],⟨Yc [(0,(.ptr 0 0)),(1,(ii v1)),(2,(ii v2)),(71,(.dat v71.length (Zz v71))),(72,(ii v72)),(73,(ii v73))],z9o [(0,⟨[(.sla 7 4 0 aD.length (.un 4)),(.dat bC.length (Zz bC)),(ii bD),(ii v2)],200,none⟩),(2,⟨[(.sla 3 1 0 aS (.un 1))],93,none⟩),(3,⟨rows bE.length (Zz bE),3,some ⟨1,bE.length,(Zz bE)⟩⟩),(4,⟨[(.sl 5 0 1 (.un 1))],171,none⟩),(5,(x1y l0)),(6,⟨[(.dat aC.length (Zz aC))],180,none⟩),(7,⟨rows aD.length (Zz aD),88,some ⟨4,aD.length,(Zz aD)⟩⟩)],8,[],true⟩,[⟨⟨29,0,true⟩,(Ui prog 121 [1,1,0,1,0,1,0,1] 5),(Zd prog 121 [1,1,0,1,0,1,0,1] 1),(some 1),[],Yc [(4,(.ptr 0 0)),(21,(ii v1)),(23,(ii v2)),(24,(.dat bU.length (Zz bU)))]⟩,⟨⟨76,0,true⟩,(Ui prog 182 [1,0,0,1,0,0,1,1,0] 2),(Zd prog 182 [1,0,0,1,0,0,1,1,0] 1),none,[],Yc [(0,(.yld 1)),(1,(.ptr 2 0)),(2,(.ptr 4 0)),(4,(ii aR)),(72,(.yld 1)),(73,(.agg [(ii v1),(ii v2),(.sl 6 0 1 (.ex 1))]))]⟩,⟨⟨29,0,true⟩,none,(.inRangeFunc 1::(Zd prog 121 [1,1,0,1,0] 1)),none,(Zy prog 15),Yc [(2,.nils),(3,(ii 0)),(4,(.ptr 0 0))]⟩],(y5b [(1,⟨.busy,none,29,Yc [(4,(.ptr 0 0))],[11],(Vv prog 121 [1,1,0,1,0,0]),(Vv prog 121 [1,1,0,1,0,1])⟩)])⟩
 | .h4 v2 v8 cJ bU aR aD bC bD bR cF cI aL=>⟨⟨94,0,true⟩,none,(Zd prog 158 [0,1,0,0,1,0,0] 0),none,[],⟨Yc [(0,(.ptr 0 0)),(2,(ii v2)),(8,(ii v8))],z9o [(0,⟨[(.sla 1 4 0 aD.length (.un 4)),(.dat bC.length (Zz bC)),(ii bD),(ii bR)],200,none⟩),(1,⟨rows aD.length (Zz aD),88,some ⟨4,aD.length,(Zz aD)⟩⟩),(3,⟨[(.sla 4 1 0 cF (.un 1))],93,none⟩),(4,⟨rows cI.length (Zz cI),3,some ⟨1,cI.length,(Zz cI)⟩⟩),(5,⟨[(.sl 6 0 1 (.un 1))],171,none⟩),(6,(x1y l0)),(7,⟨[(.dat aL.length (Zz aL))],180,none⟩)],8,[],true⟩,[⟨⟨29,0,true⟩,(Ui prog 121 [1,1,0,1,0,1,0,1] 5),(Zd prog 121 [1,1,0,1,0,1,0,1] 1),(some 2),[],Yc [(4,(.ptr 0 0)),(21,(ii cJ)),(23,(ii v2)),(24,(.dat bU.length (Zz bU)))]⟩,⟨⟨76,0,true⟩,(Ui prog 182 [1,0,0,1,0,0,1,1,0] 2),(Zd prog 182 [1,0,0,1,0,0,1,1,0] 1),none,[],Yc [(0,(.yld 2)),(1,(.ptr 3 0)),(2,(.ptr 5 0)),(4,(ii aR)),(72,(.yld 2)),(73,(.agg [(ii cJ),(ii v2),(.sl 7 0 1 (.ex 1))]))]⟩,⟨⟨29,0,true⟩,none,(.inRangeFunc 2::(Zd prog 121 [1,1,0,1,0] 1)),none,(Zy prog 15),Yc [(2,.nils),(3,(ii 0)),(4,(.ptr 0 0))]⟩],(y5b [(2,⟨.busy,none,29,Yc [(4,(.ptr 0 0))],[11],(Vv prog 121 [1,1,0,1,0,0]),(Vv prog 121 [1,1,0,1,0,1])⟩)])⟩
def madN0 :List (Option (List Nat)):=[some [1,3,8,9,10,14,15,16],some [2,3,4,9]]
def madM0 :List (Option (List Nat)):=[]
def u4r :List (Option (List Nat)):=[some [0,1,2,4],some [2,3,4]]
def u4s :List (Option (List Nat)):=[some [4],none,none,none,none,none,none]
def v4y :List (Option (List Nat)):=[some [0,1,2,4,5,6,29,30,31,36,37,38],some [2,3,4]]
def v5a :List (Option (List Nat)):=[some [4],none,none,none,none,none,none,none,none,none]
def v4x :List (Option (List Nat)):=[some [0,1,2,71,72,73],some [4,21,23,24],some [0,1,2,4,72,73],some [2,3,4]]
def v4z :List (Option (List Nat)):=[none,some [4],none,none,none,none,none,none]
def madN4 :List (Option (List Nat)):=[some [0,2,8],some [4,21,23,24],some [0,1,2,4,72,73],some [2,3,4]]
def madM4 :List (Option (List Nat)):=[none,none,some [4],none,none,none,none,none]
def Xd (l0:List R4):madS→Xo madS
 | .h0 v16 aA=>(bif (decide (v16<(l0.length:Int))) then (bif ((decide (0≤v16∧v16<(l0.length:Int)))&&true) then (bif (Nat.beq 1 1&&((decide (0+aA.length=aA.length))&&decide ((aA.length+2+1)*(8+1)≤Us))) then (.to (.h0 (IntKind.wrap .i64 (v16+1)) (aA++[(rd l0 v16.toNat).a,(rd l0 v16.toNat).c]))) else .stuck) else .stuck) else (bif (decide (aA.length<4611686018427387904)) then (bif (decide (aA.length=aA.length)) then (.to (.h1 1 ([]:List R4) ([]:List R2) 0 0 (w4z (Zc aA.length (cOf (Zz (Yo (Zc aA.length (cOf (Zz aA)))))))) (Wx (Zc aA.length (cOf (Zz (Yo (Zc aA.length (cOf (Zz aA)))))))))) else .stuck) else .stuck))
 | .h1 v4 aN aX bF bG aS bE=>(bif (decide (v4<((aS:Nat):Int))) then (bif ((decide (0≤(IntKind.wrap .i64 (v4 - 1))∧(IntKind.wrap .i64 (v4 - 1))<((aS:Nat):Int)))&&true) then (bif (decide ((0+(Int.toNat (IntKind.wrap .i64 (v4 - 1))))<bE.length)) then (bif ((decide (0≤v4∧v4<((aS:Nat):Int)))&&true) then (bif (decide ((0+v4.toNat)<bE.length)) then (.to (.h2 v4 0 aN aX bF bG aS bE (rd bE (0+(Int.toNat (IntKind.wrap .i64 (v4 - 1))))) (rd bE (0+v4.toNat)) ([]:List R2))) else .stuck) else .stuck) else .stuck) else .stuck) else (bif (decide ((aN.length:Int)>400)) then (.ret [.nils,(.int .i64 4)]) else (.ret [(.dat aN.length (Zz aN)),(.int .i64 0)])))
 | .h2 v4 v38 aN aX bF bG aS bE aC cH aL=>(bif (decide (v38<(l0.length:Int))) then (bif ((decide (0≤v38∧v38<(l0.length:Int)))&&true) then (bif (decide ((rd l0 v38.toNat).a ≤aC)) then (bif (decide (aC<(rd l0 v38.toNat).c)) then (bif (Nat.beq 2 2&&((decide (0+aL.length=aL.length))&&decide ((aL.length+1+1)*(16+1)≤Us))) then (.to (.h2 v4 (IntKind.wrap .i64 (v38+1)) aN aX bF bG aS bE aC cH (aL++[(R2.mk (rd l0 v38.toNat).b (rd l0 v38.toNat).d)]))) else .stuck) else (.to (.h2 v4 (IntKind.wrap .i64 (v38+1)) aN aX bF bG aS bE aC cH aL))) else (.to (.h2 v4 (IntKind.wrap .i64 (v38+1)) aN aX bF bG aS bE aC cH aL))) else .stuck) else (bif (y2g (cvT aL)) then (bif (decide ((((Xb (cvT aL)).length :Nat):Int)>0)) then (bif (bG == aC) then (bif (Va (cvT aX) (cvT (Xb (cvT aL)))) then (bif (Kq (cvT aX) (cvT (Xb (cvT aL)))) then (.to (.h4 cH bF aC (Xb (cvT aL)) v4 aN aX bF bG aS bE aL)) else (.to (.h3 aC cH (Xb (cvT aL)) (((Xb (cvT aL)).length :Nat):Int) 0 (Xb (cvT aL)) v4 aN (Xb (cvT aL)) (aN.length:Int) aS bE aL))) else .stuck) else (.to (.h3 aC cH (Xb (cvT aL)) (((Xb (cvT aL)).length :Nat):Int) 0 (Xb (cvT aL)) v4 aN (Xb (cvT aL)) (aN.length:Int) aS bE aL))) else (.to (.h3 aC cH (Xb (cvT aL)) (((Xb (cvT aL)).length :Nat):Int) 0 (Xb (cvT aL)) v4 aN (Xb (cvT aL)) (aN.length:Int) aS bE aL))) else .stuck))
 | .h3 v1 v2 v71 v72 v73 bU aR aD bC bD aS bE aC=>(bif (decide (v73<v72)) then (bif ((decide (0≤v73∧v73<(v71.length:Int)))&&true) then (bif (Nat.beq 4 4&&((decide (0+aD.length=aD.length))&&decide ((aD.length+1+1)*(32+1)≤Us))) then (.to (.h3 v1 v2 v71 v72 (IntKind.wrap .i64 (v73+1)) bU aR (aD++[(R4.mk v1 (rd v71 v73.toNat).a v2 (rd v71 v73.toNat).b)]) bC bD aS bE aC)) else .stuck) else .stuck) else (.to (.h1 (IntKind.wrap .i64 (aR+1)) aD bC bD v2 aS bE)))
 | .h4 v2 v8 cJ bU aR aD bC bD bR cF cI aL=>(bif (decide (v8<(aD.length:Int))) then (bif ((decide (0≤v8∧v8<(aD.length:Int)))&&true) then (bif (decide ((0+v8.toNat)<aD.length)) then (.to (.h4 v2 (IntKind.wrap .i64 (v8+1)) cJ bU aR (aD.set (0+v8.toNat) (R4.mk (rd aD (0+v8.toNat)).a (rd aD (0+v8.toNat)).b v2 (rd aD (0+v8.toNat)).d)) bC bD bR cF cI aL)) else .stuck) else .stuck) else (.to (.h1 (IntKind.wrap .i64 (aR+1)) aD bC bD v2 cF cI)))
def y9h (l0:List R4):Xo madS:=(.to (.h0 0 ([]:List Int)))
theorem w3d (l0:List R4): ∀s,Xk prog (Zy prog 121) (madC l0) (madC l0 s) (Xd l0 s)
 | .h0 v16 aA=>(lb (fun k0=>(lo fun o0=>(lo fun o1=>(sl Ji 32 [] ⟨[0,1,2,3,7],[],madN0,madM0⟩ ⟨[],[.keep,.keep,.cells [.len (y6z aA l0 v16).length],.keep,.rowed 1 (y6z aA l0 v16).length (Zz (y6z aA l0 v16))],[]⟩ [true] (pp (xL (aA.length+2) (y6z aA l0 v16).length) (pp (xL (aA.length+2) (y6z aA l0 v16).length) (pp (xS (aA.length+2) (Zi (Zz aA) 0 aA.length 1 [(ii (rd l0 (tn v16)).a),(ii (rd l0 (tn v16)).c)]) (Zz (y6z aA l0 v16))) (pp (pp (xF (Zi (Zz aA) 0 aA.length 1 [(ii (rd l0 (tn v16)).a),(ii (rd l0 (tn v16)).c)])) nn) (ww o1 (ww o0 (tt k0 nn))))))))))) (fun k0=>(lo fun o0=>(lo fun o1=>(sl Ji 46 [(88,4,Zz ([]:List R4))] ⟨[5,3,2,4,0,1,6],[],u4r,u4s⟩ ⟨[],[.keep,.cells [.grow 6 4,.list 0 (Zz ([]:List R2)),.keep,.keep],.keep,.rowed 1 (y7c aA).length (Zz (y7c aA)),.keep,.keep,.keep],[]⟩ (bl 2 0) (pp (xL aA.length (y7c aA).length (by first | exact z1a _ _ | exact Wo rfl)) (pp (xS aA.length (Zz (y7c aA)) (Zz (y7c aA))) (pp (fl (y7c aA) (fl ([]:List R4) nn)) (pp (pp (xG (Nat.beq 1 1)) (pp (xG (Nat.beq 1 1)) (pp (xG (Nat.beq 0 0)) (pp (xG (decide (aA.length=aA.length))) (pp (xG (isI (Zz (Yo (Zc aA.length (cOf (Zz aA))))))) (xG (decide (aA.length<4611686018427387904)))))))) (pp (pp (xG (Nat.beq 1 1)) (pp (xG (Nat.beq 1 1)) (pp (xG (Nat.beq 0 0)) (pp (xG (decide (aA.length=aA.length))) (pp (xG (isI (Zz aA))) (xG (decide (aA.length<4611686018427387904)))))))) (tt k0 nn)))))))))))
 | .h1 v4 aN aX bF bG aS bE=>(lb (fun k0=>(lo fun o0=>(lo fun o1=>(lo fun o2=>(lo fun o3=>(sl Ji 48 [(183,2,Zz ([]:List R2))] ⟨[0,1,2,3,4,5,7,8,9,6],[],v4y,v5a⟩ ⟨[],(kpB 7 [.cells [.grow 8 2],.keep,.keep]),[]⟩ (trs 3 []) (pp (fl bE (fl ([]:List R2) (fl aN nn))) (ww o3 (ww o2 (ww o1 (ww o0 (tt k0 nn)))))))))))) (fun k0=>(lb (fun k1=>(lr 29 3 [1,1,1,1,1,1,1,0] 1 15 [(2,.nils),(3,(ii 4))] (sl Ji 43 [] ⟨[],[],[some [2,3]],[]⟩ ⟨[],[],[]⟩ (bl 2 2) (tt k1 (tt k0 nn))))) (fun k1=>(lr 29 3 [1,1,1,1,1,1,1,0] 1 15 [(2,(.dat aN.length (Zz aN))),(3,(ii 0))] (sl Ji 48 [] ⟨[],[6],[some [2,3]],[]⟩ ⟨[(2,.frz aN.length aN.length (Zz aN) (Zz aN))],[],[]⟩ (bl 2 0) (pp (xZ (z5p 4 4 0 aN.length aN.length (Zz aN)) aN.length (Zz aN)) (pp (xL aN.length aN.length) (pp (xS aN.length (Zz aN) (Zz aN)) (pp (fl aN nn) (tt k1 (tt k0 nn))))))))))))
 | .h2 v4 v38 aN aX bF bG aS bE aC cH aL=>(lb (fun k0=>(lo fun aG=>(lb (fun k1=>(lb (fun k2=>(lo fun o0=>(sl Ji 39 [] ⟨[0,1,2,3,4,5,6,7,12,9],[],v4y,v5a⟩ ⟨[],(kpB 7 [.cells [.len (y7b aL l0 v38).length],.rowed 2 (y7b aL l0 v38).length (Zz (y7b aL l0 v38)),.keep]),[]⟩ (trs 7 []) (pp (xL (aL.length+1) (y7b aL l0 v38).length) (pp (xL (aL.length+1) (y7b aL l0 v38).length) (pp (xS (aL.length+1) (Zi (Zz aL) 0 aL.length 2 [(ii (rd l0 (tn v38)).b),(ii (rd l0 (tn v38)).d)]) (Zz (y7b aL l0 v38))) (pp (fl bE (pp (xF (Zi (Zz aL) 0 aL.length 2 [(ii (rd l0 (tn v38)).b),(ii (rd l0 (tn v38)).d)])) (fl aN nn))) (ww o0 (tt k2 (tt k1 (ww aG (tt k0 nn)))))))))))) (fun k2=>(sl Ji 39 [] ⟨(List.range 10),[],v4y,v5a⟩ ⟨[],[],[]⟩ (trs 6 [false]) (pp (fl bE (fl aL (fl aN nn))) (tt k2 (tt k1 (ww aG (tt k0 nn))))))))) (fun k1=>(sl Ji 39 [] ⟨(List.range 10),[],v4y,v5a⟩ ⟨[],[],[]⟩ (bl 7 1) (pp (fl bE (fl aL (fl aN nn))) (tt k1 (ww aG (tt k0 nn))))))))) (fun k0=>(Wh (sl Ji (C':=⟨⟨29,0,true⟩,(Ui prog 121 [1,1,0,1,0,1,0,0] 4),(Zd prog 121 [1,1,0,1,0,1,0,0] 1),(some 0),[],⟨Yc [(4,(.ptr 1 0)),(5,(.ptr 3 0)),(16,(.dat aL.length (Zz aL)))],z9o [(1,⟨[(.sla 2 4 0 aN.length (.un 4)),(.dat aX.length (Zz aX)),(ii bF),(ii bG)],200,none⟩),(2,⟨rows aN.length (Zz aN),88,some ⟨4,aN.length,(Zz aN)⟩⟩),(3,⟨[(ii aC),(ii cH),(.sl 4 0 1 (.ex 1))],205,none⟩),(4,⟨[(.dat aL.length (Zz aL))],180,none⟩),(5,⟨[(.sla 6 1 0 aS (.un 1))],93,none⟩),(6,⟨rows bE.length (Zz bE),3,some ⟨1,bE.length,(Zz bE)⟩⟩),(7,⟨[(.sl 8 0 1 (.un 1))],171,none⟩),(8,⟨[(.dat l0.length (Zz l0))],99,none⟩)],9,[],true⟩,[⟨⟨76,0,true⟩,(Ui prog 182 [1,0,0,1,0,0,1,1,0] 2),(Zd prog 182 [1,0,0,1,0,0,1,1,0] 1),none,[],Yc [(0,(.yld 0)),(1,(.ptr 5 0)),(2,(.ptr 7 0)),(4,(ii v4)),(72,(.yld 0)),(73,(.agg [(ii aC),(ii cH),(.sl 4 0 1 (.ex 1))]))]⟩,⟨⟨29,0,true⟩,none,(.inRangeFunc 0::(Zd prog 121 [1,1,0,1,0] 1)),none,(Zy prog 15),Yc [(2,.nils),(3,(ii 0)),(4,(.ptr 1 0))]⟩],(y5b [(0,⟨.busy,none,29,Yc [(4,(.ptr 1 0))],[11],(Vv prog 121 [1,1,0,1,0,0]),(Vv prog 121 [1,1,0,1,0,1])⟩)])⟩) 37 [] ⟨[0,1,9,10,7,2,3,4,5],[8],[some [4,5,16],some [0,1,2,4,72,73],some [2,3,4]],[some [4],none,none,none,none,none,none,none,none]⟩ ⟨[(16,.frz aL.length aL.length (Zz aL) (Zz aL))],[.keep,.keep,.keep,.keep,.cells [.frz aL.length aL.length (Zz aL) (Zz aL)],.keep,.keep,.keep,.keep],[]⟩ (bl 2 0) (pp (xZ (z5p 2 2 0 aL.length aL.length (Zz aL)) aL.length (Zz aL)) (pp (xL aL.length aL.length) (pp (xS aL.length (Zz aL) (Zz aL)) (pp (xZ (z5p 2 2 0 aL.length aL.length (Zz aL)) aL.length (Zz aL)) (pp (xL aL.length aL.length) (pp (xS aL.length (Zz aL) (Zz aL)) (pp (fl aN (fl bE nn)) (pp (fl aL nn) (tt k0 nn)))))))))) (lo fun aG=>(lb (fun k1=>(lb (fun k2=>(lo fun cG=>(lb (fun k3=>(sl Ji 49 [] ⟨[1,2,0,5,6,7,8,4],[],madN4,madM4⟩ ⟨[],[],[]⟩ (trs 13 []) (pp (fl aN (fl bE nn)) (tt k3 (pp (pp (xr aX) (pp (xI R2 (Xb (cvT aL)).length (Zz (Xb (cvT aL)))) (xw cG))) (tt k2 (tt k1 (pp (pp (xr aL) (xw aG)) nn)))))))) (fun k3=>(sl Ji 69 [] ⟨[1,0,5,6,7,8,4,2],[],v4x,v4z⟩ ⟨[],[],[]⟩ (trs 12 [false]) (pp (fl bE (fl aN nn)) (tt k3 (pp (pp (xr aX) (pp (xI R2 (Xb (cvT aL)).length (Zz (Xb (cvT aL)))) (xw cG))) (tt k2 (tt k1 (pp (pp (xr aL) (xw aG)) nn))))))))))) (fun k2=>(sl Ji 69 [] ⟨[1,0,5,6,7,8,4,2],[],v4x,v4z⟩ ⟨[],[],[]⟩ (trs 6 (bl 7 0)) (pp (fl bE (fl aN nn)) (tt k2 (tt k1 (pp (pp (xr aL) (xw aG)) nn)))))))) (fun k1=>(sl Ji 69 [] ⟨[1,0,5,6,7,8,4,2],[],v4x,v4z⟩ ⟨[],[],[]⟩ (bl 13 0) (pp (fl bE (fl aN nn)) (tt k1 (pp (pp (xr aL) (xw aG)) nn))))))))))
 | .h3 v1 v2 v71 v72 v73 bU aR aD bC bD aS bE aC=>(lb (fun k0=>(lo fun o0=>(lo fun o1=>(sl Ji 23 [] ⟨[0,1,2,3,4,5,6,10],[],v4x,v4z⟩ ⟨[],[.cells [.len (y7a aD v1 v71 v73 v2).length,.keep,.keep,.keep],.keep,.keep,.keep,.keep,.keep,.keep,.rowed 4 (y7a aD v1 v71 v73 v2).length (Zz (y7a aD v1 v71 v73 v2))],[]⟩ [true] (pp (xL (aD.length+1) (y7a aD v1 v71 v73 v2).length) (pp (xL (aD.length+1) (y7a aD v1 v71 v73 v2).length) (pp (xS (aD.length+1) (Zi (Zz aD) 0 aD.length 4 [(ii v1),(ii (rd v71 (tn v73)).a),(ii v2),(ii (rd v71 (tn v73)).b)]) (Zz (y7a aD v1 v71 v73 v2))) (pp (fl bE (pp (xF (Zi (Zz aD) 0 aD.length 4 [(ii v1),(ii (rd v71 (tn v73)).a),(ii v2),(ii (rd v71 (tn v73)).b)])) nn)) (ww o1 (ww o0 (tt k0 nn))))))))))) (fun k0=>(sl Ji 22 [] ⟨[1,0,2,3,4,5,7],[],u4r,u4s⟩ ⟨[],[],[]⟩ (bl 2 0) (pp (fl bE (fl aD nn)) (tt k0 nn)))))
 | .h4 v2 v8 cJ bU aR aD bC bD bR cF cI aL=>(lb (fun k0=>(lo fun o0=>(lo fun o1=>(sl Ji 33 [] ⟨(List.range 8),[],madN4,madM4⟩ ⟨[],[.cells [.len (y7d aD v8 v2).length,.keep,.keep,.keep],.rowed 4 (y7d aD v8 v2).length (Zz (y7d aD v8 v2)),.keep,.keep,.keep,.keep,.keep,.keep],[]⟩ [true] (pp (xL aD.length (y7d aD v8 v2).length) (pp (xL aD.length (y7d aD v8 v2).length) (pp (xS aD.length (Xe (Zz aD) (0+(tn v8)) 2 [(ii v2)]) (Zz (y7d aD v8 v2))) (pp (pp (xF (Xe (Zz aD) (0+(tn v8)) 2 [(ii v2)])) (fl cI nn)) (ww o1 (ww o0 (tt k0 nn))))))))))) (fun k0=>(sl Ji 36 [] ⟨[2,0,3,4,5,6,1],[],u4r,u4s⟩ ⟨[],[],[]⟩ (bl 2 0) (pp (fl cI (fl aD nn)) (tt k0 nn)))))
theorem x6c (l0:List R4):Xk prog (Zy prog 121) (madC l0) (Ze prog 121 [(.dat l0.length (Zz l0))] true []) (y9h l0):=(sl Ji 56 [(3,1,Zz ([]:List Int))] ⟨[2,1,3,0,4],[],madN0,madM0⟩ ⟨[],[.keep,.keep,.cells [.grow 4 1],.keep,.keep],[]⟩ [true] (pp (fl ([]:List Int) nn) nn))
theorem v4w (l0:List R4) (n:Nat) (vs:List AVal) (h:Yk (Xd l0) n (y9h l0)=.ret vs):Kv prog (Zy prog 121) (Ze prog 121 [(.dat l0.length (Zz l0))] true []) vs:=by have:=Zr (w3d l0) n _ (x6c l0);rwa [h] at this
end Go.Am
end
