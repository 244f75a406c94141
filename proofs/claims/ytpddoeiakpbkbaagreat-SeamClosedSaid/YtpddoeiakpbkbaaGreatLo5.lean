/- A part. -/
import Derived.Test.YtpddoeiakpbkbaaGreatLo4
set_option maxRecDepth 99999
set_option maxHeartbeats 0
set_option linter.unusedVariables false
set_option linter.unusedSimpArgs false
noncomputable section
namespace Go.Am
open IntKind (wrap)
open Go.Proofs.Tryz
open Go.Proofs
inductive IF where
 | h0 (v16:Int) (cC:List R7)
 | h1 (v5:List Int) (v10:Int) (bW:Int) (cH:Int) (aC:Int) (aB:List R7) (aO:Int) (aT:Int)
 | h2 (cP:Nat) (v6:Int) (v7:Int) (bW:Int) (aB:List R7) (aO:Int) (aT:Int) (bG:List Int)
 | h3 (v9:Int) (v55:List R4) (v56:Int) (v57:Int) (cA:Nat) (cS:Int) (cT:Int) (cL:Int) (aB:List R7) (aO:Int) (aT:Int) (bG:List Int)
abbrev x1n (aB:List R7) (aO:Int) (aT:Int) (v9:Int) (v55:List R4) (v57:Int):=(aB++[(R7.mk (wrap IntKind.u8 aO) (Cb aT v9 (rd v55 (tn v57)).a (rd v55 (tn v57)).b).a (Cb aT v9 (rd v55 (tn v57)).a (rd v55 (tn v57)).b).b (Cb aT v9 (rd v55 (tn v57)).a (rd v55 (tn v57)).b).c (Cb aT v9 (rd v55 (tn v57)).c (rd v55 (tn v57)).d).a (Cb aT v9 (rd v55 (tn v57)).c (rd v55 (tn v57)).d).b (Cb aT v9 (rd v55 (tn v57)).c (rd v55 (tn v57)).d).c)])
abbrev x1m (v5:List Int) (aC:Int) (l0:List Pa) (x1:Int) (v10:Int):=(v5++[(DO aC (rd (rd l0 (tn x1)).s (tn v10)).a (rd (rd l0 (tn x1)).s (tn v10)).b (rd (rd l0 (tn x1)).s (tn v10)).c),(DO aC (rd (rd l0 (tn x1)).s (tn v10)).d (rd (rd l0 (tn x1)).s (tn v10)).e (rd (rd l0 (tn x1)).s (tn v10)).f)])
def v7c (l0:List Pa) (x1:Int):CV:=⟨⟨39,0,true⟩,(Vm prog 16 [1,1,1,1,1,0] 6),(Zg prog 16 [1,1,1,1,1,0] 1),none,(Zy prog 16),Yj [(34,(.dat (rd l0 (tn x1)).s.length (Zz (rd l0 (tn x1)).s))),(35,(.fn 46 [(.ptr 3 0)]))]⟩
abbrev TB (v5:List Int):=(Wk (Yq v5.length (CP (Zz (Xm (Yq v5.length (CP (Zz v5))))))))
def Nn (l0:List Pa) (x1:Int):B2:=(.dat (rd l0 (tn x1)).s.length (Zz (rd l0 (tn x1)).s))
def w7d (l0:List Pa):CG:=⟨[(.dat (Yv (B3 l0)).length (Zz (Yv (B3 l0))))],33,none⟩
abbrev j2g (v5:List Int) (aC:Int) (l0:List Pa) (x1:Int) (v10:Int):=(Zt (Zz v5) 0 v5.length 1 [(ii (DO aC (rd (rd l0 (tn x1)).s (tn v10)).a (rd (rd l0 (tn x1)).s (tn v10)).b (rd (rd l0 (tn x1)).s (tn v10)).c)),(ii (DO aC (rd (rd l0 (tn x1)).s (tn v10)).d (rd (rd l0 (tn x1)).s (tn v10)).e (rd (rd l0 (tn x1)).s (tn v10)).f))])
abbrev Ja (bG:List Int) (v7:Int):=(rd bG (0+(tn v7)))
abbrev GD (l0:List Pa):=(B3 (Yv (B3 l0)))
abbrev TC (aT:Int) (v9:Int) (v55:List R4) (v57:Int):=(Cb aT v9 (rd v55 (tn v57)).a (rd v55 (tn v57)).b)
abbrev Sg (aT:Int) (v9:Int) (v55:List R4) (v57:Int):=(Cb aT v9 (rd v55 (tn v57)).c (rd v55 (tn v57)).d)
abbrev H8 (l0:List Pa) (x1:Int):=(B3 (rd l0 (tn x1)).s)
def Og (l0:List Pa) (x1:Int):IF->CB
 | .h0 v16 cC=>⟨⟨87,0,true⟩,none,(Zg prog 45 [1,1,0,1,0,0] 0),none,(Zy prog 45),⟨Yj [(2,(.ptr 0 0)),(3,(.ptr 1 0)),(4,(.ptr 3 0)),(5,(.ptr 4 0)),(6,(.ptr 5 0)),(16,(ii v16))],Vk [⟨[(Nn l0 x1)],33,none⟩,⟨[(.fn 46 [(.ptr 2 0)])],85,none⟩,(w7d l0),⟨[.nils],38,none⟩,⟨[(ii 0)],24,none⟩,⟨[(.sla 6 7 0 cC.length (.un 7))],38,none⟩,⟨Ya cC.length (Zz cC),96,some ⟨7,cC.length,(Zz cC)⟩⟩] 0,7,[],true⟩,[⟨⟨39,0,true⟩,(Vm prog 16 [1,1,1,1,1,0] 6),(Zg prog 16 [1,1,1,1,1,0] 1),none,(Zy prog 16),Yj [(34,(Nn l0 x1)),(35,(.fn 46 [(.ptr 2 0)]))]⟩],.leaf⟩
 | .h1 v5 v10 bW cH aC aB aO aT=>⟨⟨31,0,true⟩,none,(Zg prog 79 [1,1,0,1,0,0] 0),none,(Zy prog 6),⟨Yj [(2,(.ptr 0 0)),(5,(.sla 9 1 0 v5.length (.un 1))),(8,(Nn l0 x1)),(9,(ii (((rd l0 (tn x1)).s.length :Nat):Int))),(10,(ii v10))],Vk [⟨[(ii aC)],79,none⟩,⟨[(Nn l0 x1)],33,none⟩,⟨[(.fn 46 [(.ptr 3 0)])],85,none⟩,(w7d l0),⟨[.nils],38,none⟩,⟨[(ii 0)],24,none⟩,⟨[(.sla 10 7 0 aB.length (.un 7))],38,none⟩,⟨[(ii aO)],3,none⟩,⟨[(ii aT)],79,none⟩,⟨Ya v5.length (Zz v5),3,some ⟨1,v5.length,(Zz v5)⟩⟩,⟨Ya aB.length (Zz aB),96,some ⟨7,aB.length,(Zz aB)⟩⟩] 0,11,[],true⟩,[⟨⟨87,0,true⟩,(Vm prog 45 [1,1,0,1,0,0,1,1,0,0,1,1,0] 2),(Zg prog 45 [1,1,0,1,0,0,1,1,0,0,1,1,0] 1),none,(Zy prog 45),Yj [(2,(.ptr 1 0)),(3,(.ptr 2 0)),(4,(.ptr 4 0)),(5,(.ptr 5 0)),(6,(.ptr 6 0)),(7,(.ptr 7 0)),(8,(.ptr 8 0)),(16,(ii bW)),(22,(.agg [(ii cH)])),(23,(Nn l0 x1))]⟩,(v7c l0 x1)],.leaf⟩
 | .h2 cP v6 v7 bW aB aO aT bG=>⟨⟨16,0,true⟩,none,(Zg prog 152 [1,0,0] 0),none,[],⟨Yj [(0,(.yld 0)),(5,(.sla 9 1 0 cP (.un 1))),(6,(ii v6)),(7,(ii v7))],Ch [(1,⟨[(Nn l0 x1)],33,none⟩),(2,⟨[(.fn 46 [(.ptr 3 0)])],85,none⟩),(3,(w7d l0)),(4,⟨[.nils],38,none⟩),(5,⟨[(ii 0)],24,none⟩),(6,⟨[(.sla 10 7 0 aB.length (.un 7))],38,none⟩),(7,⟨[(ii aO)],3,none⟩),(8,⟨[(ii aT)],79,none⟩),(9,⟨Ya bG.length (Zz bG),3,some ⟨1,bG.length,(Zz bG)⟩⟩),(10,⟨Ya aB.length (Zz aB),96,some ⟨7,aB.length,(Zz aB)⟩⟩)],11,[],true⟩,[⟨⟨87,0,true⟩,none,(.inRangeFunc 0::(Zg prog 45 [1,1,0,1,0,0,1,1,0,0,1,1,1,0] 1)),none,(Zy prog 45),Yj [(2,(.ptr 1 0)),(3,(.ptr 2 0)),(4,(.ptr 4 0)),(5,(.ptr 5 0)),(6,(.ptr 6 0)),(16,(ii bW))]⟩,(v7c l0 x1)],(DH [(0,⟨.ready,none,87,Yj [(2,(.ptr 1 0)),(3,(.ptr 2 0)),(4,(.ptr 4 0)),(5,(.ptr 5 0)),(6,(.ptr 6 0)),(7,(.ptr 7 0)),(8,(.ptr 8 0))],[25],(Wc prog 45 [1,1,0,1,0,0,1,1,0,0,1,1,1,0,0]),(Wc prog 45 [1,1,0,1,0,0,1,1,0,0,1,1,1,0,1])⟩)])⟩
 | .h3 v9 v55 v56 v57 cA cS cT cL aB aO aT bG=>⟨⟨87,0,true⟩,none,(Zg prog 45 [1,1,0,1,0,0,1,1,0,0,1,1,1,0,1,0,1,1,1,1,1,1,0,0] 0),(some 0),[],⟨Yj [(6,(.ptr 6 0)),(7,(.ptr 7 0)),(8,(.ptr 8 0)),(9,(ii v9)),(55,(.dat v55.length (Zz v55))),(56,(ii v56)),(57,(ii v57))],Ch [(1,⟨[(Nn l0 x1)],33,none⟩),(2,⟨[(.fn 46 [(.ptr 3 0)])],85,none⟩),(3,(w7d l0)),(4,⟨[.nils],38,none⟩),(5,⟨[(ii 0)],24,none⟩),(6,⟨[(.sla 10 7 0 aB.length (.un 7))],38,none⟩),(7,⟨[(ii aO)],3,none⟩),(8,⟨[(ii aT)],79,none⟩),(9,⟨Ya bG.length (Zz bG),3,some ⟨1,bG.length,(Zz bG)⟩⟩),(10,⟨Ya aB.length (Zz aB),96,some ⟨7,aB.length,(Zz aB)⟩⟩)],11,[],true⟩,[⟨⟨16,0,true⟩,(Vm prog 152 [1,0,0,1,1,0,0,1,0] 2),(Zg prog 152 [1,0,0,1,1,0,0,1,0] 1),none,[],Yj [(0,(.yld 0)),(5,(.sla 9 1 0 cA (.un 1))),(6,(ii cS)),(7,(ii cT)),(11,(.yld 0)),(12,(ii v9))]⟩,⟨⟨87,0,true⟩,none,(.inRangeFunc 0::(Zg prog 45 [1,1,0,1,0,0,1,1,0,0,1,1,1,0] 1)),none,(Zy prog 45),Yj [(2,(.ptr 1 0)),(3,(.ptr 2 0)),(4,(.ptr 4 0)),(5,(.ptr 5 0)),(6,(.ptr 6 0)),(16,(ii cL))]⟩,(v7c l0 x1)],(DH [(0,⟨.busy,none,87,Yj [(2,(.ptr 1 0)),(3,(.ptr 2 0)),(4,(.ptr 4 0)),(5,(.ptr 5 0)),(6,(.ptr 6 0)),(7,(.ptr 7 0)),(8,(.ptr 8 0))],[25],(Wc prog 45 [1,1,0,1,0,0,1,1,0,0,1,1,1,0,0]),(Wc prog 45 [1,1,0,1,0,0,1,1,0,0,1,1,1,0,1])⟩)])⟩
def LT :List (Option (List Nat)):=[some [2,3,4,5,6,16],some [34,35]]
def LW :List (Option (List Nat)):=[]
def LS :List (Option (List Nat)):=[some [2,5,8,9,10],some [2,3,4,5,6,7,8,16,22,23],some [34,35]]
def LV :List (Option (List Nat)):=[]
def LR :List (Option (List Nat)):=[some [0,5,6,7],some [2,3,4,5,6,16],some [34,35]]
def LU :List (Option (List Nat)):=[some [2,3,4,5,6,7,8],none,none,none,none,none,none,none,none,none,none]
def j8o :List (Option (List Nat)):=[some [6,7,8,9,55,56,57],some [0,5,6,7,11,12],some [2,3,4,5,6,16],some [34,35]]
def j8p :List (Option (List Nat)):=[some [2,3,4,5,6,7,8],none,none,none,none,none,none,none,none,none,none]
def Vw (l0:List Pa) (x1:Int):IF->Xz IF
 | .h0 v16 cC=>(bif (decide (v16<6)) then (.to (.h1 ([]:List Int) 0 v16 (wrap .i64 (Int.tdiv v16 2)) (wrap .i64 (Int.tdiv v16 2)) cC v16 (wrap .i64 (Int.tdiv v16 2)))) else (bif (decide ((cC.length:Int)>3000)) then (.ret [.nils,(.int .i64 4)]) else (.ret [(.dat cC.length (Zz cC)),(.int .i64 0)])))
 | .h1 v5 v10 bW cH aC aB aO aT=>(bif (decide (v10<(((rd l0 x1.toNat).s.length :Nat):Int))) then (bif ((decide (0<=v10/\v10<(((rd l0 x1.toNat).s.length :Nat):Int)))&&true) then (bif (Jv aC (rd (rd l0 x1.toNat).s v10.toNat).a (rd (rd l0 x1.toNat).s v10.toNat).b (rd (rd l0 x1.toNat).s v10.toNat).c) then (bif (Jv aC (rd (rd l0 x1.toNat).s v10.toNat).d (rd (rd l0 x1.toNat).s v10.toNat).e (rd (rd l0 x1.toNat).s v10.toNat).f) then (bif (Nat.beq 1 1&&((decide (0+v5.length=v5.length))&&decide ((v5.length+2+1)*(8+1)<=CF))) then (.to (.h1 (v5++[(DO aC (rd (rd l0 x1.toNat).s v10.toNat).a (rd (rd l0 x1.toNat).s v10.toNat).b (rd (rd l0 x1.toNat).s v10.toNat).c),(DO aC (rd (rd l0 x1.toNat).s v10.toNat).d (rd (rd l0 x1.toNat).s v10.toNat).e (rd (rd l0 x1.toNat).s v10.toNat).f)]) (wrap .i64 (v10+1)) bW cH aC aB aO aT)) else .stuck) else .stuck) else .stuck) else .stuck) else (bif (decide (v5.length<4611686018427387904)) then (bif (decide (v5.length=v5.length)) then (.to (.h2 (GN (Yq v5.length (CP (Zz (Xm (Yq v5.length (CP (Zz v5)))))))) (((GN (Yq v5.length (CP (Zz (Xm (Yq v5.length (CP (Zz v5)))))))):Nat):Int) 0 bW aB aO aT (Wk (Yq v5.length (CP (Zz (Xm (Yq v5.length (CP (Zz v5)))))))))) else .stuck) else .stuck))
 | .h2 cP v6 v7 bW aB aO aT bG=>(bif (decide (v7<v6)) then (bif ((decide (0<=v7/\v7<((cP:Nat):Int)))&&true) then (bif (decide ((0+v7.toNat)<bG.length)) then (bif ((Int.tmod aO 2) == 1) then (bif (Wm aT (B3 (rd l0 x1.toNat).s) (rd bG (0+v7.toNat))) then (bif ((Wz aT (B3 (rd l0 x1.toNat).s) (rd bG (0+v7.toNat))) == 0) then (bif (Wm aT (B3 (Yv (B3 l0))) (wrap .i64 ((rd bG (0+v7.toNat)) - 1))) then (bif ((Wz aT (B3 (Yv (B3 l0))) (wrap .i64 ((rd bG (0+v7.toNat)) - 1))) != 0) then (.ret [.nils,(.int .i64 (Wz aT (B3 (Yv (B3 l0))) (wrap .i64 ((rd bG (0+v7.toNat)) - 1))))]) else (bif (Ke .d (B3 (Ze aT (B3 (rd l0 x1.toNat).s) (rd bG (0+v7.toNat)))) (B3 (Ze aT (B3 (Yv (B3 l0))) (wrap .i64 ((rd bG (0+v7.toNat)) - 1))))) then (bif ((Qq .d (B3 (Ze aT (B3 (rd l0 x1.toNat).s) (rd bG (0+v7.toNat)))) (B3 (Ze aT (B3 (Yv (B3 l0))) (wrap .i64 ((rd bG (0+v7.toNat)) - 1))))) != 0) then (.ret [.nils,(.int .i64 (Qq .d (B3 (Ze aT (B3 (rd l0 x1.toNat).s) (rd bG (0+v7.toNat)))) (B3 (Ze aT (B3 (Yv (B3 l0))) (wrap .i64 ((rd bG (0+v7.toNat)) - 1))))))]) else (.to (.h3 (rd bG (0+v7.toNat)) (Wi .d (B3 (Ze aT (B3 (rd l0 x1.toNat).s) (rd bG (0+v7.toNat)))) (B3 (Ze aT (B3 (Yv (B3 l0))) (wrap .i64 ((rd bG (0+v7.toNat)) - 1))))) (((Wi .d (B3 (Ze aT (B3 (rd l0 x1.toNat).s) (rd bG (0+v7.toNat)))) (B3 (Ze aT (B3 (Yv (B3 l0))) (wrap .i64 ((rd bG (0+v7.toNat)) - 1))))).length :Nat):Int) 0 cP v6 v7 bW aB aO aT bG))) else .stuck)) else .stuck) else (.ret [.nils,(.int .i64 (Wz aT (B3 (rd l0 x1.toNat).s) (rd bG (0+v7.toNat))))])) else .stuck) else (bif (Wm aT (B3 (rd l0 x1.toNat).s) (wrap .i64 ((rd bG (0+v7.toNat)) - 1))) then (bif ((Wz aT (B3 (rd l0 x1.toNat).s) (wrap .i64 ((rd bG (0+v7.toNat)) - 1))) == 0) then (bif (Wm aT (B3 (Yv (B3 l0))) (rd bG (0+v7.toNat))) then (bif ((Wz aT (B3 (Yv (B3 l0))) (rd bG (0+v7.toNat))) != 0) then (.ret [.nils,(.int .i64 (Wz aT (B3 (Yv (B3 l0))) (rd bG (0+v7.toNat))))]) else (bif (Ke .d (B3 (Ze aT (B3 (rd l0 x1.toNat).s) (wrap .i64 ((rd bG (0+v7.toNat)) - 1)))) (B3 (Ze aT (B3 (Yv (B3 l0))) (rd bG (0+v7.toNat))))) then (bif ((Qq .d (B3 (Ze aT (B3 (rd l0 x1.toNat).s) (wrap .i64 ((rd bG (0+v7.toNat)) - 1)))) (B3 (Ze aT (B3 (Yv (B3 l0))) (rd bG (0+v7.toNat))))) != 0) then (.ret [.nils,(.int .i64 (Qq .d (B3 (Ze aT (B3 (rd l0 x1.toNat).s) (wrap .i64 ((rd bG (0+v7.toNat)) - 1)))) (B3 (Ze aT (B3 (Yv (B3 l0))) (rd bG (0+v7.toNat))))))]) else (.to (.h3 (rd bG (0+v7.toNat)) (Wi .d (B3 (Ze aT (B3 (rd l0 x1.toNat).s) (wrap .i64 ((rd bG (0+v7.toNat)) - 1)))) (B3 (Ze aT (B3 (Yv (B3 l0))) (rd bG (0+v7.toNat))))) (((Wi .d (B3 (Ze aT (B3 (rd l0 x1.toNat).s) (wrap .i64 ((rd bG (0+v7.toNat)) - 1)))) (B3 (Ze aT (B3 (Yv (B3 l0))) (rd bG (0+v7.toNat))))).length :Nat):Int) 0 cP v6 v7 bW aB aO aT bG))) else .stuck)) else .stuck) else (.ret [.nils,(.int .i64 (Wz aT (B3 (rd l0 x1.toNat).s) (wrap .i64 ((rd bG (0+v7.toNat)) - 1))))])) else .stuck)) else .stuck) else .stuck) else (.to (.h0 (wrap .i64 (bW+1)) aB)))
 | .h3 v9 v55 v56 v57 cA cS cT cL aB aO aT bG=>(bif (decide (v57<v56)) then (bif ((decide (0<=v57/\v57<(v55.length:Int)))&&true) then (bif (Qg aT v9 (rd v55 v57.toNat).a (rd v55 v57.toNat).b) then (bif (Qg aT v9 (rd v55 v57.toNat).c (rd v55 v57.toNat).d) then (bif (Nat.beq 7 7&&((decide (0+aB.length=aB.length))&&decide ((aB.length+1+1)*(56+1)<=CF))) then (.to (.h3 v9 v55 v56 (wrap .i64 (v57+1)) cA cS cT cL (aB++[(R7.mk (wrap IntKind.u8 aO) (Cb aT v9 (rd v55 v57.toNat).a (rd v55 v57.toNat).b).a (Cb aT v9 (rd v55 v57.toNat).a (rd v55 v57.toNat).b).b (Cb aT v9 (rd v55 v57.toNat).a (rd v55 v57.toNat).b).c (Cb aT v9 (rd v55 v57.toNat).c (rd v55 v57.toNat).d).a (Cb aT v9 (rd v55 v57.toNat).c (rd v55 v57.toNat).d).b (Cb aT v9 (rd v55 v57.toNat).c (rd v55 v57.toNat).d).c)]) aO aT bG)) else .stuck) else .stuck) else .stuck) else .stuck) else (.to (.h2 cA cS (wrap .i64 (cT+1)) cL aB aO aT bG)))
def ZJ (l0:List Pa) (x1:Int):Xz IF:=(bif (J7 (B3 l0)) then (bif ((Qe (B3 l0)) != 0) then (.ret [.nils,(.int .i64 (Qe (B3 l0)))]) else (bif (decide (x1<0)) then (.ret [.nils,(.int .i64 2)]) else (bif (decide (x1>=(l0.length:Int))) then (.ret [.nils,(.int .i64 2)]) else (bif (Jl (B3 l0)) then (bif ((Kt (B3 l0)) != 0) then (.ret [.nils,(.int .i64 (Kt (B3 l0)))]) else (bif ((decide (0<=x1/\x1<(l0.length:Int)))&&true) then (.to (.h0 0 ([]:List R7))) else .stuck)) else .stuck)))) else .stuck)
theorem v1a (l0:List Pa) (x1:Int): ∀s,Xw prog (Zy prog 16) (Og l0 x1) (Og l0 x1 s) (Vw l0 x1 s)
 | .h0 v16 cC=>(lb (fun k0=>(sl Xq 46 [(3,1,Zz ([]:List Int))] ⟨[9,0,1,2,3,4,5,7,8,10,6],[],LS,LV⟩ ⟨[(5,.grow 9 1)],[],[]⟩ [true] (pp (fl ([]:List Int) (fl cC nn)) (tt k0 nn)))) (fun k0=>(lb (fun k1=>(lr 39 3 [1,1,1,1,0] 1 16 [(4,.nils),(5,(ii 4))] (sl Xq 26 [] (a8 [4,5]) a6 (bl 2 2) (tt k1 (tt k0 nn))))) (fun k1=>(lr 39 3 [1,1,1,1,0] 1 16 [(4,(.dat cC.length (Zz cC))),(5,(ii 0))] (sl Xq 28 [] ⟨[],[6],[some [4,5]],[]⟩ ⟨[(4,.frz cC.length cC.length (Zz cC) (Zz cC))],[],[]⟩ (bl 2 0) (pp (xZ (Cm 7 7 0 cC.length cC.length (Zz cC)) cC.length (Zz cC)) (pp (xL cC.length cC.length) (pp (xS cC.length (Zz cC) (Zz cC)) (pp (fl cC nn) (tt k1 (tt k0 nn))))))))))))
 | .h1 v5 v10 bW cH aC aB aO aT=>(lb (fun k0=>(lo fun o0=>(lo fun o1=>(lo fun o2=>(lo fun o3=>let b:=xL (v5.length+2) (x1m v5 aC l0 x1 v10).length;let d:=x1m v5 aC l0 x1 v10;(sl Xq 23 [] ⟨[0,1,2,3,4,5,6,7,8,13,10],[],LS,LV⟩ ⟨[(5,.len d.length)],(Cl 9 [.rowed 1 d.length (Zz d),.keep]),[]⟩ [true] (pp b (pp b (pp (xS (v5.length+2) (j2g v5 aC l0 x1 v10) (Zz (x1m v5 aC l0 x1 v10))) (pp (pp (xF (j2g v5 aC l0 x1 v10)) (fl aB nn)) (ww o3 (ww o2 (ww o1 (ww o0 (tt k0 nn))))))))))))))) (fun k0=>(lo fun o0=>(lo fun o1=>let a:=xG (Nat.beq 1 1);let c:=xG (decide (v5.length<4611686018427387904));let e:=xG (decide (v5.length=v5.length));let f:=xG (Nat.beq 0 0);(sl Xq 42 [] ⟨[12,1,2,3,4,5,6,7,8,9,10],[],LR,LU⟩ ⟨[],(Cl 9 [.rowed 1 (TB v5).length (Zz (TB v5)),.keep]),[]⟩ [false] (pp (xL v5.length (TB v5).length (by first | exact N4 _ _ | exact Uu rfl)) (pp (xS v5.length (Zz (TB v5)) (Zz (TB v5))) (pp (fl (TB v5) (fl aB nn)) (pp (pp a (pp a (pp f (pp e (pp (xG (EP (Zz (Xm (Yq v5.length (CP (Zz v5))))))) c))))) (pp (pp a (pp a (pp f (pp e (pp (xG (EP (Zz v5))) c))))) (tt k0 nn)))))))))))
 | .h2 cP v6 v7 bW aB aO aT bG=>(lb (fun k0=>(lo fun aE=>(lo fun bI=>let a:=ww bI (ww aE (tt k0 nn));let b:=wr ((Ja bG v7) - 1);let c:=H8 l0 x1;let e:=fl bG (fl aB nn);let f:=List.range 11;(lb (fun k1=>(lo fun bU=>(lb (fun k2=>(lo fun cG=>(lb (fun k3=>(lr 39 3 [1,1,1,1,0] 1 16 [(4,.nils),(5,(ii (Wz aT (GD l0) b)))] (sl Xq 136 [] (a8 [4,5]) a6 (CA 6 []) (tt k3 (tt k3 (pp (pp (xI R6 (Yv (B3 l0)).length (Zz (Yv (B3 l0)))) (xw cG)) (tt k2 (pp (pp (xI R6 (rd l0 (tn x1)).s.length (Zz (rd l0 (tn x1)).s)) (xw bU)) (tt k1 a))))))))) (fun k3=>(lo fun bZ=>(lb (fun k4=>(lr 39 3 [1,1,1,1,0] 1 16 [(4,.nils),(5,(ii (Qq .d (B3 (Ze aT c (Ja bG v7))) (B3 (Ze aT (GD l0) b)))))] (sl Xq 141 [] (a8 [4,5]) a6 (CA 3 (bl 3 6)) (tt k4 (pp (pp (xI R4 (Ze aT (H8 l0 x1) (Ja bG v7)).length (Zz (Ze aT (H8 l0 x1) (Ja bG v7)))) (pp (xI R4 (Ze aT (GD l0) (wr ((Ja bG v7) - 1))).length (Zz (Ze aT (GD l0) (wr ((Ja bG v7) - 1))))) (xw bZ))) (tt k3 (pp (pp (xI R6 (Yv (B3 l0)).length (Zz (Yv (B3 l0)))) (xw cG)) (tt k2 (pp (pp (xI R6 (rd l0 (tn x1)).s.length (Zz (rd l0 (tn x1)).s)) (xw bU)) (tt k1 a)))))))))) (fun k4=>(sl Xq 132 [] ⟨f,[],j8o,j8p⟩ a6 (CA 3 (bl 2 0)) (pp e (tt k4 (pp (pp (xI R4 (Ze aT (H8 l0 x1) (Ja bG v7)).length (Zz (Ze aT (H8 l0 x1) (Ja bG v7)))) (pp (xI R4 (Ze aT (GD l0) (wr ((Ja bG v7) - 1))).length (Zz (Ze aT (GD l0) (wr ((Ja bG v7) - 1))))) (xw bZ))) (tt k3 (pp (pp (xI R6 (Yv (B3 l0)).length (Zz (Yv (B3 l0)))) (xw cG)) (tt k2 (pp (pp (xI R6 (rd l0 (tn x1)).s.length (Zz (rd l0 (tn x1)).s)) (xw bU)) (tt k1 a)))))))))))))))) (fun k2=>(lr 39 3 [1,1,1,1,0] 1 16 [(4,.nils),(5,(ii (Wz aT c (Ja bG v7))))] (sl Xq 93 [] (a8 [4,5]) a6 (bl 5 27) (yt (TI k2) (tt k2 (pp (pp (xI R6 (rd l0 (tn x1)).s.length (Zz (rd l0 (tn x1)).s)) (xw bU)) (tt k1 a)))))))))) (fun k1=>(lo fun bU=>(lb (fun k2=>(lo fun cG=>(lb (fun k3=>(lr 39 3 [1,1,1,1,0] 1 16 [(4,.nils),(5,(ii (Wz aT (GD l0) (Ja bG v7))))] (sl Xq 130 [] (a8 [4,5]) a6 (bl 6 61) (tt k3 (tt k3 (pp (pp (xI R6 (Yv (B3 l0)).length (Zz (Yv (B3 l0)))) (xw cG)) (tt k2 (pp (pp (xI R6 (rd l0 (tn x1)).s.length (Zz (rd l0 (tn x1)).s)) (xw bU)) (tt k1 a))))))))) (fun k3=>(lo fun bZ=>(lb (fun k4=>(lr 39 3 [1,1,1,1,0] 1 16 [(4,.nils),(5,(ii (Qq .d (B3 (Ze aT c b)) (B3 (Ze aT (GD l0) (Ja bG v7))))))] (sl Xq 135 [] (a8 [4,5]) a6 (bl 6 53) (tt k4 (pp (pp (xI R4 (Ze aT (H8 l0 x1) (wr ((Ja bG v7) - 1))).length (Zz (Ze aT (H8 l0 x1) (wr ((Ja bG v7) - 1))))) (pp (xI R4 (Ze aT (GD l0) (Ja bG v7)).length (Zz (Ze aT (GD l0) (Ja bG v7)))) (xw bZ))) (tt k3 (pp (pp (xI R6 (Yv (B3 l0)).length (Zz (Yv (B3 l0)))) (xw cG)) (tt k2 (pp (pp (xI R6 (rd l0 (tn x1)).s.length (Zz (rd l0 (tn x1)).s)) (xw bU)) (tt k1 a)))))))))) (fun k4=>(sl Xq 126 [] ⟨f,[],j8o,j8p⟩ a6 (bl 5 5) (pp e (tt k4 (pp (pp (xI R4 (Ze aT (H8 l0 x1) (wr ((Ja bG v7) - 1))).length (Zz (Ze aT (H8 l0 x1) (wr ((Ja bG v7) - 1))))) (pp (xI R4 (Ze aT (GD l0) (Ja bG v7)).length (Zz (Ze aT (GD l0) (Ja bG v7)))) (xw bZ))) (tt k3 (pp (pp (xI R6 (Yv (B3 l0)).length (Zz (Yv (B3 l0)))) (xw cG)) (tt k2 (pp (pp (xI R6 (rd l0 (tn x1)).s.length (Zz (rd l0 (tn x1)).s)) (xw bU)) (tt k1 a)))))))))))))))) (fun k2=>(lr 39 3 [1,1,1,1,0] 1 16 [(4,.nils),(5,(ii (Wz aT c b)))] (sl Xq 87 [] (a8 [4,5]) a6 (bl 5 25) (yt (TI k2) (tt k2 (pp (pp (xI R6 (rd l0 (tn x1)).s.length (Zz (rd l0 (tn x1)).s)) (xw bU)) (tt k1 a)))))))))))))) (fun k0=>(sl Xq 16 [] ⟨[1,2,3,4,5,6,10],[],LT,LW⟩ a6 [false] (pp (fl aB nn) (tt k0 nn)))))
 | .h3 v9 v55 v56 v57 cA cS cT cL aB aO aT bG=>(lb (fun k0=>(lo fun o0=>(lo fun o1=>(lo fun o2=>(lo fun o3=>let d:=xL (aB.length+1) (x1n aB aO aT v9 v55 v57).length;let e:=x1n aB aO aT v9 v55 v57;(sl Xq 23 [] ⟨[0,1,2,3,4,5,6,7,8,9,13],[],j8o,j8p⟩ ⟨[],(Cl 6 [.cells [.len e.length],.keep,.keep,.keep,.rowed 7 e.length (Zz e)]),[]⟩ [true] (pp d (pp d (pp (xS (aB.length+1) (Zt (Zz aB) 0 aB.length 7 [(.int .u8 (wrap IntKind.u8 aO)),(ii (TC aT v9 v55 v57).a),(ii (TC aT v9 v55 v57).b),(ii (TC aT v9 v55 v57).c),(ii (Sg aT v9 v55 v57).a),(ii (Sg aT v9 v55 v57).b),(ii (Sg aT v9 v55 v57).c)]) (Zz (x1n aB aO aT v9 v55 v57))) (pp (fl bG (pp (xF (Zt (Zz aB) 0 aB.length 7 [(.int .u8 (wrap IntKind.u8 aO)),(ii (TC aT v9 v55 v57).a),(ii (TC aT v9 v55 v57).b),(ii (TC aT v9 v55 v57).c),(ii (Sg aT v9 v55 v57).a),(ii (Sg aT v9 v55 v57).b),(ii (Sg aT v9 v55 v57).c)])) nn)) (ww o3 (ww o2 (ww o1 (ww o0 (tt k0 nn))))))))))))))) (fun k0=>(sl Xq 19 [] ⟨(List.range 11),[],LR,LU⟩ a6 (bl 2 0) (pp (fl bG (fl aB nn)) (tt k0 nn)))))
theorem w0u (l0:List Pa) (x1:Int):Xw prog (Zy prog 16) (Og l0 x1) (Zm prog 16 [(.dat l0.length (Zz l0)),(.int .i64 x1)] true []) (ZJ l0 x1):=(lo fun bN=>let a:=pp (pp (xr l0) (xw bN)) nn;(lb (fun k0=>(lr 39 16 [1,0,1,1,0,0] 1 16 [(4,.nils),(5,(ii (Qe (B3 l0))))] (sl Xq 24 [] (a8 [4,5]) a6 [true] (tt k0 a)))) (fun k0=>(lb (fun k1=>(lr 39 16 [1,1,0,1,0,0] 1 16 [(4,.nils),(5,(ii 2))] (sl Xq 37 [] (a8 [4,5]) a6 (bl 6 62) (tt k1 (tt k0 a))))) (fun k1=>let c:=tt k1 (tt k0 a);(lb (fun k2=>(lr 39 16 [1,1,0,1,0,0] 1 16 [(4,.nils),(5,(ii 2))] (sl Xq 37 [] (a8 [4,5]) a6 (bl 6 32) (tt k2 c)))) (fun k2=>(lo fun cG=>let b:=pp (pp (xr l0) (xw cG)) (tt k2 c);(lb (fun k3=>(lr 39 16 [1,1,1,1,0,1,0,0] 1 16 [(4,.nils),(5,(ii (Kt (B3 l0))))] (sl Xq 57 [] (a8 [4,5]) a6 (bl 7 64) (tt k3 b)))) (fun k3=>(lo fun o0=>(sl Xq 79 [(96,7,Zz ([]:List R7))] ⟨[1,2,0,3,4,5,6],[],LT,LW⟩ ⟨[],(Cl 5 [.cells [.grow 6 7],.keep]),[]⟩ (bl 7 0) (pp (fl ([]:List R7) nn) (ww o0 (tt k3 b)))))))))))))))
theorem u5d (l0:List Pa) (x1:Int) (n:Nat) (vs:List B2) (h:Zo (Vw l0 x1) n (ZJ l0 x1)=.ret vs):Uj prog (Zy prog 16) (Zm prog 16 [(.dat l0.length (Zz l0)),(.int .i64 x1)] true []) vs:=by have:=Zb (v1a l0 x1) n _ (w0u l0 x1);rwa [h] at this
inductive Hx where
 | h0 (v16:Int) (aB:List R7)
 | h1 (v5:List Int) (v10:Int) (bW:Int) (cH:Int) (aC:Int) (aO:List R7) (aT:Int) (aG:Int)
 | h2 (cP:Nat) (v6:Int) (v7:Int) (bW:Int) (aO:List R7) (aT:Int) (aG:Int) (aN:List Int)
 | h3 (v9:Int) (v55:List R4) (v56:Int) (v57:Int) (cA:Nat) (cS:Int) (cT:Int) (cL:Int) (aO:List R7) (aT:Int) (aG:Int) (aN:List Int)
abbrev Jp (l0:List Pa) (x2:Int):=(R6.mk (rd l0 (tn x2)).a (rd l0 (tn x2)).b (rd l0 (tn x2)).c (rd l0 (tn x2)).d (rd l0 (tn x2)).e (rd l0 (tn x2)).f)
abbrev x1a (aO:List R7) (aT:Int) (aG:Int) (v9:Int) (v55:List R4) (v57:Int):=(aO++[(R7.mk (wrap IntKind.u8 aT) (Cb aG v9 (rd v55 (tn v57)).a (rd v55 (tn v57)).b).a (Cb aG v9 (rd v55 (tn v57)).a (rd v55 (tn v57)).b).b (Cb aG v9 (rd v55 (tn v57)).a (rd v55 (tn v57)).b).c (Cb aG v9 (rd v55 (tn v57)).c (rd v55 (tn v57)).d).a (Cb aG v9 (rd v55 (tn v57)).c (rd v55 (tn v57)).d).b (Cb aG v9 (rd v55 (tn v57)).c (rd v55 (tn v57)).d).c)])
abbrev x0z (v5:List Int) (aC:Int) (l0:List Pa) (x1:Int) (v10:Int):=(v5++[(DO aC (rd (rd l0 (tn x1)).s (tn v10)).a (rd (rd l0 (tn x1)).s (tn v10)).b (rd (rd l0 (tn x1)).s (tn v10)).c),(DO aC (rd (rd l0 (tn x1)).s (tn v10)).d (rd (rd l0 (tn x1)).s (tn v10)).e (rd (rd l0 (tn x1)).s (tn v10)).f)])
abbrev Km (aN:List Int) (v7:Int):=(rd aN (0+(tn v7)))
def v6a (l0:List Pa) (x1:Int):CV:=⟨⟨46,0,true⟩,(Vm prog 18 [1,1,1,0] 6),(Zg prog 18 [1,1,1,0] 1),none,(Zy prog 10),Yj [(41,(.dat (rd l0 (tn x1)).s.length (Zz (rd l0 (tn x1)).s))),(42,(.fn 50 [(.ptr 3 0),(.ptr 4 0)]))]⟩
abbrev TE (v5:List Int):=(Wk (Yq v5.length (CP (Zz (Xm (Yq v5.length (CP (Zz v5))))))))
abbrev GX (aG:Int) (l0:List Pa) (x2:Int) (aN:List Int) (v7:Int):=(Ze aG (B3 (rd l0 (tn x2)).s) (wr ((Km aN v7) - 1)))
def Nr (l0:List Pa) (x1:Int):B2:=(.dat (rd l0 (tn x1)).s.length (Zz (rd l0 (tn x1)).s))
abbrev GY (aG:Int) (l0:List Pa) (x2:Int) (aN:List Int) (v7:Int):=(Ze aG (B3 (rd l0 (tn x2)).s) (Km aN v7))
abbrev j1a (v5:List Int) (aC:Int) (l0:List Pa) (x1:Int) (v10:Int):=(Zt (Zz v5) 0 v5.length 1 [(ii (DO aC (rd (rd l0 (tn x1)).s (tn v10)).a (rd (rd l0 (tn x1)).s (tn v10)).b (rd (rd l0 (tn x1)).s (tn v10)).c)),(ii (DO aC (rd (rd l0 (tn x1)).s (tn v10)).d (rd (rd l0 (tn x1)).s (tn v10)).e (rd (rd l0 (tn x1)).s (tn v10)).f))])
abbrev GJ (l0:List Pa) (x1:Int):=(Zz (rd l0 (tn x1)).s)
abbrev Sh (aG:Int) (v9:Int) (v55:List R4) (v57:Int):=(Cb aG v9 (rd v55 (tn v57)).a (rd v55 (tn v57)).b)
abbrev Si (aG:Int) (v9:Int) (v55:List R4) (v57:Int):=(Cb aG v9 (rd v55 (tn v57)).c (rd v55 (tn v57)).d)
def w0i :CG:=⟨[(.fn 50 [(.ptr 3 0),(.ptr 4 0)])],85,none⟩
abbrev Jk (aN:List Int) (v7:Int):=((Km aN v7) - 1)
abbrev H9 (l0:List Pa) (x1:Int):=(B3 (rd l0 (tn x1)).s)
abbrev HJ (l0:List Pa) (x2:Int):=(Zz (rd l0 (tn x2)).s)
def x3s (l0:List Pa):CG:=⟨[(.dat l0.length (Zz l0))],22,none⟩
def O4 (l0:List Pa) (x1:Int) (x2:Int):Hx->CB
 | .h0 v16 aB=>⟨⟨87,0,true⟩,none,(Zg prog 45 [1,1,0,1,0,0] 0),none,(Zy prog 45),⟨Yj [(2,(.ptr 0 0)),(3,(.ptr 1 0)),(4,(.ptr 4 0)),(5,(.ptr 5 0)),(6,(.ptr 6 0)),(16,(ii v16))],Vk [⟨[(Nr l0 x1)],33,none⟩,⟨[(.fn 50 [(.ptr 2 0),(.ptr 3 0)])],85,none⟩,(x3s l0),⟨[(ii x2)],3,none⟩,⟨[.nils],38,none⟩,⟨[(ii 0)],24,none⟩,⟨[(.sla 7 7 0 aB.length (.un 7))],38,none⟩,⟨Ya aB.length (Zz aB),96,some ⟨7,aB.length,(Zz aB)⟩⟩] 0,8,[],true⟩,[⟨⟨46,0,true⟩,(Vm prog 18 [1,1,1,0] 6),(Zg prog 18 [1,1,1,0] 1),none,(Zy prog 10),Yj [(41,(Nr l0 x1)),(42,(.fn 50 [(.ptr 2 0),(.ptr 3 0)]))]⟩],.leaf⟩
 | .h1 v5 v10 bW cH aC aO aT aG=>⟨⟨31,0,true⟩,none,(Zg prog 79 [1,1,0,1,0,0] 0),none,(Zy prog 6),⟨Yj [(2,(.ptr 0 0)),(5,(.sla 10 1 0 v5.length (.un 1))),(8,(Nr l0 x1)),(9,(ii (((rd l0 (tn x1)).s.length :Nat):Int))),(10,(ii v10))],Vk [⟨[(ii aC)],79,none⟩,⟨[(Nr l0 x1)],33,none⟩,w0i,(x3s l0),⟨[(ii x2)],3,none⟩,⟨[.nils],38,none⟩,⟨[(ii 0)],24,none⟩,⟨[(.sla 11 7 0 aO.length (.un 7))],38,none⟩,⟨[(ii aT)],3,none⟩,⟨[(ii aG)],79,none⟩,⟨Ya v5.length (Zz v5),3,some ⟨1,v5.length,(Zz v5)⟩⟩,⟨Ya aO.length (Zz aO),96,some ⟨7,aO.length,(Zz aO)⟩⟩] 0,12,[],true⟩,[⟨⟨87,0,true⟩,(Vm prog 45 [1,1,0,1,0,0,1,1,0,0,1,1,0] 2),(Zg prog 45 [1,1,0,1,0,0,1,1,0,0,1,1,0] 1),none,(Zy prog 45),Yj [(2,(.ptr 1 0)),(3,(.ptr 2 0)),(4,(.ptr 5 0)),(5,(.ptr 6 0)),(6,(.ptr 7 0)),(7,(.ptr 8 0)),(8,(.ptr 9 0)),(16,(ii bW)),(22,(.agg [(ii cH)])),(23,(Nr l0 x1))]⟩,(v6a l0 x1)],.leaf⟩
 | .h2 cP v6 v7 bW aO aT aG aN=>⟨⟨16,0,true⟩,none,(Zg prog 152 [1,0,0] 0),none,[],⟨Yj [(0,(.yld 0)),(5,(.sla 10 1 0 cP (.un 1))),(6,(ii v6)),(7,(ii v7))],Ch [(1,⟨[(Nr l0 x1)],33,none⟩),(2,w0i),(3,(x3s l0)),(4,⟨[(ii x2)],3,none⟩),(5,⟨[.nils],38,none⟩),(6,⟨[(ii 0)],24,none⟩),(7,⟨[(.sla 11 7 0 aO.length (.un 7))],38,none⟩),(8,⟨[(ii aT)],3,none⟩),(9,⟨[(ii aG)],79,none⟩),(10,⟨Ya aN.length (Zz aN),3,some ⟨1,aN.length,(Zz aN)⟩⟩),(11,⟨Ya aO.length (Zz aO),96,some ⟨7,aO.length,(Zz aO)⟩⟩)],12,[],true⟩,[⟨⟨87,0,true⟩,none,(.inRangeFunc 0::(Zg prog 45 [1,1,0,1,0,0,1,1,0,0,1,1,1,0] 1)),none,(Zy prog 45),Yj [(2,(.ptr 1 0)),(3,(.ptr 2 0)),(4,(.ptr 5 0)),(5,(.ptr 6 0)),(6,(.ptr 7 0)),(16,(ii bW))]⟩,(v6a l0 x1)],(DH [(0,⟨.ready,none,87,Yj [(2,(.ptr 1 0)),(3,(.ptr 2 0)),(4,(.ptr 5 0)),(5,(.ptr 6 0)),(6,(.ptr 7 0)),(7,(.ptr 8 0)),(8,(.ptr 9 0))],[25],(Wc prog 45 [1,1,0,1,0,0,1,1,0,0,1,1,1,0,0]),(Wc prog 45 [1,1,0,1,0,0,1,1,0,0,1,1,1,0,1])⟩)])⟩
 | .h3 v9 v55 v56 v57 cA cS cT cL aO aT aG aN=>⟨⟨87,0,true⟩,none,(Zg prog 45 [1,1,0,1,0,0,1,1,0,0,1,1,1,0,1,0,1,1,1,1,1,1,0,0] 0),(some 0),[],⟨Yj [(6,(.ptr 7 0)),(7,(.ptr 8 0)),(8,(.ptr 9 0)),(9,(ii v9)),(55,(.dat v55.length (Zz v55))),(56,(ii v56)),(57,(ii v57))],Ch [(1,⟨[(Nr l0 x1)],33,none⟩),(2,w0i),(3,(x3s l0)),(4,⟨[(ii x2)],3,none⟩),(5,⟨[.nils],38,none⟩),(6,⟨[(ii 0)],24,none⟩),(7,⟨[(.sla 11 7 0 aO.length (.un 7))],38,none⟩),(8,⟨[(ii aT)],3,none⟩),(9,⟨[(ii aG)],79,none⟩),(10,⟨Ya aN.length (Zz aN),3,some ⟨1,aN.length,(Zz aN)⟩⟩),(11,⟨Ya aO.length (Zz aO),96,some ⟨7,aO.length,(Zz aO)⟩⟩)],12,[],true⟩,[⟨⟨16,0,true⟩,(Vm prog 152 [1,0,0,1,1,0,0,1,0] 2),(Zg prog 152 [1,0,0,1,1,0,0,1,0] 1),none,[],Yj [(0,(.yld 0)),(5,(.sla 10 1 0 cA (.un 1))),(6,(ii cS)),(7,(ii cT)),(11,(.yld 0)),(12,(ii v9))]⟩,⟨⟨87,0,true⟩,none,(.inRangeFunc 0::(Zg prog 45 [1,1,0,1,0,0,1,1,0,0,1,1,1,0] 1)),none,(Zy prog 45),Yj [(2,(.ptr 1 0)),(3,(.ptr 2 0)),(4,(.ptr 5 0)),(5,(.ptr 6 0)),(6,(.ptr 7 0)),(16,(ii cL))]⟩,(v6a l0 x1)],(DH [(0,⟨.busy,none,87,Yj [(2,(.ptr 1 0)),(3,(.ptr 2 0)),(4,(.ptr 5 0)),(5,(.ptr 6 0)),(6,(.ptr 7 0)),(7,(.ptr 8 0)),(8,(.ptr 9 0))],[25],(Wc prog 45 [1,1,0,1,0,0,1,1,0,0,1,1,1,0,0]),(Wc prog 45 [1,1,0,1,0,0,1,1,0,0,1,1,1,0,1])⟩)])⟩
def KY :List (Option (List Nat)):=[some [2,3,4,5,6,16],some [41,42]]
def K1 :List (Option (List Nat)):=[]
def KX :List (Option (List Nat)):=[some [2,5,8,9,10],some [2,3,4,5,6,7,8,16,22,23],some [41,42]]
def K0 :List (Option (List Nat)):=[]
def KW :List (Option (List Nat)):=[some [0,5,6,7],some [2,3,4,5,6,16],some [41,42]]
def KZ :List (Option (List Nat)):=[some [2,3,4,5,6,7,8],none,none,none,none,none,none,none,none,none,none,none]
def j7p :List (Option (List Nat)):=[some [6,7,8,9,55,56,57],some [0,5,6,7,11,12],some [2,3,4,5,6,16],some [41,42]]
def j7q :List (Option (List Nat)):=[some [2,3,4,5,6,7,8],none,none,none,none,none,none,none,none,none,none,none]
def Vy (l0:List Pa) (x1:Int) (x2:Int):Hx->Xz Hx
 | .h0 v16 aB=>(bif (decide (v16<6)) then (.to (.h1 ([]:List Int) 0 v16 (wrap .i64 (Int.tdiv v16 2)) (wrap .i64 (Int.tdiv v16 2)) aB v16 (wrap .i64 (Int.tdiv v16 2)))) else (bif (decide ((aB.length:Int)>3000)) then (.ret [.nils,(.int .i64 4)]) else (.ret [(.dat aB.length (Zz aB)),(.int .i64 0)])))
 | .h1 v5 v10 bW cH aC aO aT aG=>(bif (decide (v10<(((rd l0 x1.toNat).s.length :Nat):Int))) then (bif ((decide (0<=v10/\v10<(((rd l0 x1.toNat).s.length :Nat):Int)))&&true) then (bif (Jv aC (rd (rd l0 x1.toNat).s v10.toNat).a (rd (rd l0 x1.toNat).s v10.toNat).b (rd (rd l0 x1.toNat).s v10.toNat).c) then (bif (Jv aC (rd (rd l0 x1.toNat).s v10.toNat).d (rd (rd l0 x1.toNat).s v10.toNat).e (rd (rd l0 x1.toNat).s v10.toNat).f) then (bif (Nat.beq 1 1&&((decide (0+v5.length=v5.length))&&decide ((v5.length+2+1)*(8+1)<=CF))) then (.to (.h1 (v5++[(DO aC (rd (rd l0 x1.toNat).s v10.toNat).a (rd (rd l0 x1.toNat).s v10.toNat).b (rd (rd l0 x1.toNat).s v10.toNat).c),(DO aC (rd (rd l0 x1.toNat).s v10.toNat).d (rd (rd l0 x1.toNat).s v10.toNat).e (rd (rd l0 x1.toNat).s v10.toNat).f)]) (wrap .i64 (v10+1)) bW cH aC aO aT aG)) else .stuck) else .stuck) else .stuck) else .stuck) else (bif (decide (v5.length<4611686018427387904)) then (bif (decide (v5.length=v5.length)) then (.to (.h2 (GN (Yq v5.length (CP (Zz (Xm (Yq v5.length (CP (Zz v5)))))))) (((GN (Yq v5.length (CP (Zz (Xm (Yq v5.length (CP (Zz v5)))))))):Nat):Int) 0 bW aO aT aG (Wk (Yq v5.length (CP (Zz (Xm (Yq v5.length (CP (Zz v5)))))))))) else .stuck) else .stuck))
 | .h2 cP v6 v7 bW aO aT aG aN=>(bif (decide (v7<v6)) then (bif ((decide (0<=v7/\v7<((cP:Nat):Int)))&&true) then (bif (decide ((0+v7.toNat)<aN.length)) then (bif ((Int.tmod aT 2) == 1) then (bif (Wm aG (B3 (rd l0 x1.toNat).s) (rd aN (0+v7.toNat))) then (bif ((Wz aG (B3 (rd l0 x1.toNat).s) (rd aN (0+v7.toNat))) == 0) then (bif (Wm aG ([(R6.mk (rd l0 x2.toNat).a (rd l0 x2.toNat).b (rd l0 x2.toNat).c (rd l0 x2.toNat).d (rd l0 x2.toNat).e (rd l0 x2.toNat).f)]:List R6) (wrap .i64 ((rd aN (0+v7.toNat)) - 1))) then (bif ((decide (0<=x2/\x2<(l0.length:Int)))&&true) then (bif (Wm aG (B3 (rd l0 x2.toNat).s) (wrap .i64 ((rd aN (0+v7.toNat)) - 1))) then (bif ((Wz aG ([(R6.mk (rd l0 x2.toNat).a (rd l0 x2.toNat).b (rd l0 x2.toNat).c (rd l0 x2.toNat).d (rd l0 x2.toNat).e (rd l0 x2.toNat).f)]:List R6) (wrap .i64 ((rd aN (0+v7.toNat)) - 1))) != 0) then (.ret [.nils,(.int .i64 4)]) else (bif ((Wz aG (B3 (rd l0 x2.toNat).s) (wrap .i64 ((rd aN (0+v7.toNat)) - 1))) != 0) then (.ret [.nils,(.int .i64 4)]) else (bif (Ke .d (B3 (Ze aG ([(R6.mk (rd l0 x2.toNat).a (rd l0 x2.toNat).b (rd l0 x2.toNat).c (rd l0 x2.toNat).d (rd l0 x2.toNat).e (rd l0 x2.toNat).f)]:List R6) (wrap .i64 ((rd aN (0+v7.toNat)) - 1)))) (B3 (Ze aG (B3 (rd l0 x2.toNat).s) (wrap .i64 ((rd aN (0+v7.toNat)) - 1))))) then (bif ((Qq .d (B3 (Ze aG ([(R6.mk (rd l0 x2.toNat).a (rd l0 x2.toNat).b (rd l0 x2.toNat).c (rd l0 x2.toNat).d (rd l0 x2.toNat).e (rd l0 x2.toNat).f)]:List R6) (wrap .i64 ((rd aN (0+v7.toNat)) - 1)))) (B3 (Ze aG (B3 (rd l0 x2.toNat).s) (wrap .i64 ((rd aN (0+v7.toNat)) - 1))))) != 0) then (.ret [.nils,(.int .i64 (Qq .d (B3 (Ze aG ([(R6.mk (rd l0 x2.toNat).a (rd l0 x2.toNat).b (rd l0 x2.toNat).c (rd l0 x2.toNat).d (rd l0 x2.toNat).e (rd l0 x2.toNat).f)]:List R6) (wrap .i64 ((rd aN (0+v7.toNat)) - 1)))) (B3 (Ze aG (B3 (rd l0 x2.toNat).s) (wrap .i64 ((rd aN (0+v7.toNat)) - 1))))))]) else (bif (Ke .e (B3 (Ze aG (B3 (rd l0 x1.toNat).s) (rd aN (0+v7.toNat)))) (B3 (Wi .d (B3 (Ze aG ([(R6.mk (rd l0 x2.toNat).a (rd l0 x2.toNat).b (rd l0 x2.toNat).c (rd l0 x2.toNat).d (rd l0 x2.toNat).e (rd l0 x2.toNat).f)]:List R6) (wrap .i64 ((rd aN (0+v7.toNat)) - 1)))) (B3 (Ze aG (B3 (rd l0 x2.toNat).s) (wrap .i64 ((rd aN (0+v7.toNat)) - 1))))))) then (bif ((Qq .e (B3 (Ze aG (B3 (rd l0 x1.toNat).s) (rd aN (0+v7.toNat)))) (B3 (Wi .d (B3 (Ze aG ([(R6.mk (rd l0 x2.toNat).a (rd l0 x2.toNat).b (rd l0 x2.toNat).c (rd l0 x2.toNat).d (rd l0 x2.toNat).e (rd l0 x2.toNat).f)]:List R6) (wrap .i64 ((rd aN (0+v7.toNat)) - 1)))) (B3 (Ze aG (B3 (rd l0 x2.toNat).s) (wrap .i64 ((rd aN (0+v7.toNat)) - 1))))))) != 0) then (.ret [.nils,(.int .i64 (Qq .e (B3 (Ze aG (B3 (rd l0 x1.toNat).s) (rd aN (0+v7.toNat)))) (B3 (Wi .d (B3 (Ze aG ([(R6.mk (rd l0 x2.toNat).a (rd l0 x2.toNat).b (rd l0 x2.toNat).c (rd l0 x2.toNat).d (rd l0 x2.toNat).e (rd l0 x2.toNat).f)]:List R6) (wrap .i64 ((rd aN (0+v7.toNat)) - 1)))) (B3 (Ze aG (B3 (rd l0 x2.toNat).s) (wrap .i64 ((rd aN (0+v7.toNat)) - 1))))))))]) else (.to (.h3 (rd aN (0+v7.toNat)) (Wi .e (B3 (Ze aG (B3 (rd l0 x1.toNat).s) (rd aN (0+v7.toNat)))) (B3 (Wi .d (B3 (Ze aG ([(R6.mk (rd l0 x2.toNat).a (rd l0 x2.toNat).b (rd l0 x2.toNat).c (rd l0 x2.toNat).d (rd l0 x2.toNat).e (rd l0 x2.toNat).f)]:List R6) (wrap .i64 ((rd aN (0+v7.toNat)) - 1)))) (B3 (Ze aG (B3 (rd l0 x2.toNat).s) (wrap .i64 ((rd aN (0+v7.toNat)) - 1))))))) (((Wi .e (B3 (Ze aG (B3 (rd l0 x1.toNat).s) (rd aN (0+v7.toNat)))) (B3 (Wi .d (B3 (Ze aG ([(R6.mk (rd l0 x2.toNat).a (rd l0 x2.toNat).b (rd l0 x2.toNat).c (rd l0 x2.toNat).d (rd l0 x2.toNat).e (rd l0 x2.toNat).f)]:List R6) (wrap .i64 ((rd aN (0+v7.toNat)) - 1)))) (B3 (Ze aG (B3 (rd l0 x2.toNat).s) (wrap .i64 ((rd aN (0+v7.toNat)) - 1))))))).length :Nat):Int) 0 cP v6 v7 bW aO aT aG aN))) else .stuck)) else .stuck))) else .stuck) else .stuck) else .stuck) else (.ret [.nils,(.int .i64 (Wz aG (B3 (rd l0 x1.toNat).s) (rd aN (0+v7.toNat))))])) else .stuck) else (bif (Wm aG (B3 (rd l0 x1.toNat).s) (wrap .i64 ((rd aN (0+v7.toNat)) - 1))) then (bif ((Wz aG (B3 (rd l0 x1.toNat).s) (wrap .i64 ((rd aN (0+v7.toNat)) - 1))) == 0) then (bif (Wm aG ([(R6.mk (rd l0 x2.toNat).a (rd l0 x2.toNat).b (rd l0 x2.toNat).c (rd l0 x2.toNat).d (rd l0 x2.toNat).e (rd l0 x2.toNat).f)]:List R6) (rd aN (0+v7.toNat))) then (bif ((decide (0<=x2/\x2<(l0.length:Int)))&&true) then (bif (Wm aG (B3 (rd l0 x2.toNat).s) (rd aN (0+v7.toNat))) then (bif ((Wz aG ([(R6.mk (rd l0 x2.toNat).a (rd l0 x2.toNat).b (rd l0 x2.toNat).c (rd l0 x2.toNat).d (rd l0 x2.toNat).e (rd l0 x2.toNat).f)]:List R6) (rd aN (0+v7.toNat))) != 0) then (.ret [.nils,(.int .i64 4)]) else (bif ((Wz aG (B3 (rd l0 x2.toNat).s) (rd aN (0+v7.toNat))) != 0) then (.ret [.nils,(.int .i64 4)]) else (bif (Ke .d (B3 (Ze aG ([(R6.mk (rd l0 x2.toNat).a (rd l0 x2.toNat).b (rd l0 x2.toNat).c (rd l0 x2.toNat).d (rd l0 x2.toNat).e (rd l0 x2.toNat).f)]:List R6) (rd aN (0+v7.toNat)))) (B3 (Ze aG (B3 (rd l0 x2.toNat).s) (rd aN (0+v7.toNat))))) then (bif ((Qq .d (B3 (Ze aG ([(R6.mk (rd l0 x2.toNat).a (rd l0 x2.toNat).b (rd l0 x2.toNat).c (rd l0 x2.toNat).d (rd l0 x2.toNat).e (rd l0 x2.toNat).f)]:List R6) (rd aN (0+v7.toNat)))) (B3 (Ze aG (B3 (rd l0 x2.toNat).s) (rd aN (0+v7.toNat))))) != 0) then (.ret [.nils,(.int .i64 (Qq .d (B3 (Ze aG ([(R6.mk (rd l0 x2.toNat).a (rd l0 x2.toNat).b (rd l0 x2.toNat).c (rd l0 x2.toNat).d (rd l0 x2.toNat).e (rd l0 x2.toNat).f)]:List R6) (rd aN (0+v7.toNat)))) (B3 (Ze aG (B3 (rd l0 x2.toNat).s) (rd aN (0+v7.toNat))))))]) else (bif (Ke .e (B3 (Ze aG (B3 (rd l0 x1.toNat).s) (wrap .i64 ((rd aN (0+v7.toNat)) - 1)))) (B3 (Wi .d (B3 (Ze aG ([(R6.mk (rd l0 x2.toNat).a (rd l0 x2.toNat).b (rd l0 x2.toNat).c (rd l0 x2.toNat).d (rd l0 x2.toNat).e (rd l0 x2.toNat).f)]:List R6) (rd aN (0+v7.toNat)))) (B3 (Ze aG (B3 (rd l0 x2.toNat).s) (rd aN (0+v7.toNat))))))) then (bif ((Qq .e (B3 (Ze aG (B3 (rd l0 x1.toNat).s) (wrap .i64 ((rd aN (0+v7.toNat)) - 1)))) (B3 (Wi .d (B3 (Ze aG ([(R6.mk (rd l0 x2.toNat).a (rd l0 x2.toNat).b (rd l0 x2.toNat).c (rd l0 x2.toNat).d (rd l0 x2.toNat).e (rd l0 x2.toNat).f)]:List R6) (rd aN (0+v7.toNat)))) (B3 (Ze aG (B3 (rd l0 x2.toNat).s) (rd aN (0+v7.toNat))))))) != 0) then (.ret [.nils,(.int .i64 (Qq .e (B3 (Ze aG (B3 (rd l0 x1.toNat).s) (wrap .i64 ((rd aN (0+v7.toNat)) - 1)))) (B3 (Wi .d (B3 (Ze aG ([(R6.mk (rd l0 x2.toNat).a (rd l0 x2.toNat).b (rd l0 x2.toNat).c (rd l0 x2.toNat).d (rd l0 x2.toNat).e (rd l0 x2.toNat).f)]:List R6) (rd aN (0+v7.toNat)))) (B3 (Ze aG (B3 (rd l0 x2.toNat).s) (rd aN (0+v7.toNat))))))))]) else (.to (.h3 (rd aN (0+v7.toNat)) (Wi .e (B3 (Ze aG (B3 (rd l0 x1.toNat).s) (wrap .i64 ((rd aN (0+v7.toNat)) - 1)))) (B3 (Wi .d (B3 (Ze aG ([(R6.mk (rd l0 x2.toNat).a (rd l0 x2.toNat).b (rd l0 x2.toNat).c (rd l0 x2.toNat).d (rd l0 x2.toNat).e (rd l0 x2.toNat).f)]:List R6) (rd aN (0+v7.toNat)))) (B3 (Ze aG (B3 (rd l0 x2.toNat).s) (rd aN (0+v7.toNat))))))) (((Wi .e (B3 (Ze aG (B3 (rd l0 x1.toNat).s) (wrap .i64 ((rd aN (0+v7.toNat)) - 1)))) (B3 (Wi .d (B3 (Ze aG ([(R6.mk (rd l0 x2.toNat).a (rd l0 x2.toNat).b (rd l0 x2.toNat).c (rd l0 x2.toNat).d (rd l0 x2.toNat).e (rd l0 x2.toNat).f)]:List R6) (rd aN (0+v7.toNat)))) (B3 (Ze aG (B3 (rd l0 x2.toNat).s) (rd aN (0+v7.toNat))))))).length :Nat):Int) 0 cP v6 v7 bW aO aT aG aN))) else .stuck)) else .stuck))) else .stuck) else .stuck) else .stuck) else (.ret [.nils,(.int .i64 (Wz aG (B3 (rd l0 x1.toNat).s) (wrap .i64 ((rd aN (0+v7.toNat)) - 1))))])) else .stuck)) else .stuck) else .stuck) else (.to (.h0 (wrap .i64 (bW+1)) aO)))
 | .h3 v9 v55 v56 v57 cA cS cT cL aO aT aG aN=>(bif (decide (v57<v56)) then (bif ((decide (0<=v57/\v57<(v55.length:Int)))&&true) then (bif (Qg aG v9 (rd v55 v57.toNat).a (rd v55 v57.toNat).b) then (bif (Qg aG v9 (rd v55 v57.toNat).c (rd v55 v57.toNat).d) then (bif (Nat.beq 7 7&&((decide (0+aO.length=aO.length))&&decide ((aO.length+1+1)*(56+1)<=CF))) then (.to (.h3 v9 v55 v56 (wrap .i64 (v57+1)) cA cS cT cL (aO++[(R7.mk (wrap IntKind.u8 aT) (Cb aG v9 (rd v55 v57.toNat).a (rd v55 v57.toNat).b).a (Cb aG v9 (rd v55 v57.toNat).a (rd v55 v57.toNat).b).b (Cb aG v9 (rd v55 v57.toNat).a (rd v55 v57.toNat).b).c (Cb aG v9 (rd v55 v57.toNat).c (rd v55 v57.toNat).d).a (Cb aG v9 (rd v55 v57.toNat).c (rd v55 v57.toNat).d).b (Cb aG v9 (rd v55 v57.toNat).c (rd v55 v57.toNat).d).c)]) aT aG aN)) else .stuck) else .stuck) else .stuck) else .stuck) else (.to (.h2 cA cS (wrap .i64 (cT+1)) cL aO aT aG aN)))
def ZP (l0:List Pa) (x1:Int) (x2:Int):Xz Hx:=(bif (J7 (B3 l0)) then (bif ((Qe (B3 l0)) != 0) then (.ret [.nils,(.int .i64 (Qe (B3 l0)))]) else (bif (decide (x1<0)) then (.ret [.nils,(.int .i64 2)]) else (bif (decide (x1>=(l0.length:Int))) then (.ret [.nils,(.int .i64 2)]) else (bif (decide (x2<0)) then (.ret [.nils,(.int .i64 2)]) else (bif (decide (x2>=(l0.length:Int))) then (.ret [.nils,(.int .i64 2)]) else (bif (x1 == x2) then (.ret [.nils,(.int .i64 2)]) else (bif ((decide (0<=x1/\x1<(l0.length:Int)))&&true) then (.to (.h0 0 ([]:List R7))) else .stuck))))))) else .stuck)
theorem v0i (l0:List Pa) (x1:Int) (x2:Int): ∀s,Xw prog (Zy prog 18) (O4 l0 x1 x2) (O4 l0 x1 x2 s) (Vy l0 x1 x2 s)
 | .h0 v16 aB=>(lb (fun k0=>(sl Xq 46 [(3,1,Zz ([]:List Int))] ⟨[10,0,1,2,3,4,5,6,8,9,11,7],[],KX,K0⟩ ⟨[(5,.grow 10 1)],[],[]⟩ [true] (pp (fl ([]:List Int) (fl aB nn)) (tt k0 nn)))) (fun k0=>(lb (fun k1=>(lr 46 3 [1,1,1,1,0] 1 10 [(6,.nils),(7,(ii 4))] (sl Xq 26 [] (a8 [6,7]) a6 (bl 2 2) (tt k1 (tt k0 nn))))) (fun k1=>(lr 46 3 [1,1,1,1,0] 1 10 [(6,(.dat aB.length (Zz aB))),(7,(ii 0))] (sl Xq 28 [] ⟨[],[7],[some [6,7]],[]⟩ ⟨[(6,.frz aB.length aB.length (Zz aB) (Zz aB))],[],[]⟩ (bl 2 0) (pp (xZ (Cm 7 7 0 aB.length aB.length (Zz aB)) aB.length (Zz aB)) (pp (xL aB.length aB.length) (pp (xS aB.length (Zz aB) (Zz aB)) (pp (fl aB nn) (tt k1 (tt k0 nn))))))))))))
 | .h1 v5 v10 bW cH aC aO aT aG=>(lb (fun k0=>(lo fun o0=>(lo fun o1=>(lo fun o2=>(lo fun o3=>let b:=xL (v5.length+2) (x0z v5 aC l0 x1 v10).length;let d:=x0z v5 aC l0 x1 v10;(sl Xq 23 [] ⟨[0,1,2,3,4,5,6,7,8,9,14,11],[],KX,K0⟩ ⟨[(5,.len d.length)],(Cl 10 [.rowed 1 d.length (Zz d),.keep]),[]⟩ [true] (pp b (pp b (pp (xS (v5.length+2) (j1a v5 aC l0 x1 v10) (Zz (x0z v5 aC l0 x1 v10))) (pp (pp (xF (j1a v5 aC l0 x1 v10)) (fl aO nn)) (ww o3 (ww o2 (ww o1 (ww o0 (tt k0 nn))))))))))))))) (fun k0=>(lo fun o0=>(lo fun o1=>let a:=xG (Nat.beq 1 1);let c:=xG (decide (v5.length<4611686018427387904));let e:=xG (decide (v5.length=v5.length));let f:=xG (Nat.beq 0 0);(sl Xq 42 [] ⟨[13,1,2,3,4,5,6,7,8,9,10,11],[],KW,KZ⟩ ⟨[],(Cl 10 [.rowed 1 (TE v5).length (Zz (TE v5)),.keep]),[]⟩ [false] (pp (xL v5.length (TE v5).length (by first | exact N4 _ _ | exact Uu rfl)) (pp (xS v5.length (Zz (TE v5)) (Zz (TE v5))) (pp (fl (TE v5) (fl aO nn)) (pp (pp a (pp a (pp f (pp e (pp (xG (EP (Zz (Xm (Yq v5.length (CP (Zz v5))))))) c))))) (pp (pp a (pp a (pp f (pp e (pp (xG (EP (Zz v5))) c))))) (tt k0 nn)))))))))))
 | .h2 cP v6 v7 bW aO aT aG aN=>(lb (fun k0=>(lo fun aE=>(lo fun bI=>let g:=ww bI (ww aE (tt k0 nn));let j:=H9 l0 x1;let l:=wr (Jk aN v7);let o:=fl aN (fl aO nn);let p:=List.range 12;(lb (fun k1=>(lo fun bU=>(lb (fun k2=>(lo fun cG=>(lo fun cU=>(lo fun dJ=>(lb (fun k3=>(lr 46 3 [1,1,1,1,0] 1 10 [(6,.nils),(7,(ii 4))] (sl Xq 131 [] (a8 [6,7]) a6 (CA 8 []) (tt k3 (pp (pp (xI R6 (rd l0 (tn x2)).s.length (HJ l0 x2)) (xw dJ)) (ww cU (pp (pp (xI R6 1 (fun k=>([(ii (rd l0 (tn x2)).a),(ii (rd l0 (tn x2)).b),(ii (rd l0 (tn x2)).c),(ii (rd l0 (tn x2)).d),(ii (rd l0 (tn x2)).e),(ii (rd l0 (tn x2)).f)].drop (k*6)).take 6)) (xw cG)) (ww cU (tt k2 (pp (pp (xI R6 (rd l0 (tn x1)).s.length (GJ l0 x1)) (xw bU)) (tt k1 g))))))))))) (fun k3=>(lb (fun k4=>(lr 46 3 [1,1,1,1,0] 1 10 [(6,.nils),(7,(ii 4))] (sl Xq 131 [] (a8 [6,7]) a6 (CA 3 (bl 5 28)) (tt k4 (tt k3 (pp (pp (xI R6 (rd l0 (tn x2)).s.length (HJ l0 x2)) (xw dJ)) (ww cU (pp (pp (xI R6 1 (fun k=>([(ii (rd l0 (tn x2)).a),(ii (rd l0 (tn x2)).b),(ii (rd l0 (tn x2)).c),(ii (rd l0 (tn x2)).d),(ii (rd l0 (tn x2)).e),(ii (rd l0 (tn x2)).f)].drop (k*6)).take 6)) (xw cG)) (ww cU (tt k2 (pp (pp (xI R6 (rd l0 (tn x1)).s.length (GJ l0 x1)) (xw bU)) (tt k1 g)))))))))))) (fun k4=>(lo fun cJ=>let h:=B3 (Ze aG ([(Jp l0 x2)]:List R6) l);let m:=B3 (GX aG l0 x2 aN v7);(lb (fun k5=>(lr 46 3 [1,1,1,1,0] 1 10 [(6,.nils),(7,(ii (Qq .d h m)))] (sl Xq 151 [] (a8 [6,7]) a6 (CA 3 (bl 6 56)) (tt k5 (tt k5 (pp (pp (xI R4 (Ze aG ([(Jp l0 x2)]:List R6) (wr (Jk aN v7))).length (Zz (Ze aG ([(Jp l0 x2)]:List R6) (wr (Jk aN v7))))) (pp (xI R4 (GX aG l0 x2 aN v7).length (Zz (GX aG l0 x2 aN v7))) (xw cJ))) (tt k4 (tt k3 (pp (pp (xI R6 (rd l0 (tn x2)).s.length (HJ l0 x2)) (xw dJ)) (ww cU (pp (pp (xI R6 1 (fun k=>([(ii (rd l0 (tn x2)).a),(ii (rd l0 (tn x2)).b),(ii (rd l0 (tn x2)).c),(ii (rd l0 (tn x2)).d),(ii (rd l0 (tn x2)).e),(ii (rd l0 (tn x2)).f)].drop (k*6)).take 6)) (xw cG)) (ww cU (tt k2 (pp (pp (xI R6 (rd l0 (tn x1)).s.length (GJ l0 x1)) (xw bU)) (tt k1 g))))))))))))))) (fun k5=>(lo fun dM=>(lb (fun k6=>(lr 46 3 [1,1,1,1,0] 1 10 [(6,.nils),(7,(ii (Qq .e (B3 (Ze aG j (Km aN v7))) (B3 (Wi .d h m)))))] (sl Xq 156 [] (a8 [6,7]) a6 (CA 3 (bl 6 48)) (tt k6 (pp (pp (xI R4 (Ze aG (H9 l0 x1) (Km aN v7)).length (Zz (Ze aG (H9 l0 x1) (Km aN v7)))) (pp (xI R4 (Wi .d (B3 (Ze aG ([(Jp l0 x2)]:List R6) (wr (Jk aN v7)))) (B3 (GX aG l0 x2 aN v7))).length (Zz (Wi .d (B3 (Ze aG ([(Jp l0 x2)]:List R6) (wr (Jk aN v7)))) (B3 (GX aG l0 x2 aN v7))))) (xw dM))) (tt k5 (pp (pp (xI R4 (Ze aG ([(Jp l0 x2)]:List R6) (wr (Jk aN v7))).length (Zz (Ze aG ([(Jp l0 x2)]:List R6) (wr (Jk aN v7))))) (pp (xI R4 (GX aG l0 x2 aN v7).length (Zz (GX aG l0 x2 aN v7))) (xw cJ))) (tt k4 (tt k3 (pp (pp (xI R6 (rd l0 (tn x2)).s.length (HJ l0 x2)) (xw dJ)) (ww cU (pp (pp (xI R6 1 (fun k=>([(ii (rd l0 (tn x2)).a),(ii (rd l0 (tn x2)).b),(ii (rd l0 (tn x2)).c),(ii (rd l0 (tn x2)).d),(ii (rd l0 (tn x2)).e),(ii (rd l0 (tn x2)).f)].drop (k*6)).take 6)) (xw cG)) (ww cU (tt k2 (pp (pp (xI R6 (rd l0 (tn x1)).s.length (GJ l0 x1)) (xw bU)) (tt k1 g)))))))))))))))) (fun k6=>(sl Xq 147 [] ⟨p,[],j7p,j7q⟩ a6 (CA 3 (bl 5 0)) (pp o (tt k6 (pp (pp (xI R4 (Ze aG (H9 l0 x1) (Km aN v7)).length (Zz (Ze aG (H9 l0 x1) (Km aN v7)))) (pp (xI R4 (Wi .d (B3 (Ze aG ([(Jp l0 x2)]:List R6) (wr (Jk aN v7)))) (B3 (GX aG l0 x2 aN v7))).length (Zz (Wi .d (B3 (Ze aG ([(Jp l0 x2)]:List R6) (wr (Jk aN v7)))) (B3 (GX aG l0 x2 aN v7))))) (xw dM))) (tt k5 (pp (pp (xI R4 (Ze aG ([(Jp l0 x2)]:List R6) (wr (Jk aN v7))).length (Zz (Ze aG ([(Jp l0 x2)]:List R6) (wr (Jk aN v7))))) (pp (xI R4 (GX aG l0 x2 aN v7).length (Zz (GX aG l0 x2 aN v7))) (xw cJ))) (tt k4 (tt k3 (pp (pp (xI R6 (rd l0 (tn x2)).s.length (HJ l0 x2)) (xw dJ)) (ww cU (pp (pp (xI R6 1 (fun k=>([(ii (rd l0 (tn x2)).a),(ii (rd l0 (tn x2)).b),(ii (rd l0 (tn x2)).c),(ii (rd l0 (tn x2)).d),(ii (rd l0 (tn x2)).e),(ii (rd l0 (tn x2)).f)].drop (k*6)).take 6)) (xw cG)) (ww cU (tt k2 (pp (pp (xI R6 (rd l0 (tn x1)).s.length (GJ l0 x1)) (xw bU)) (tt k1 g))))))))))))))))))))))))))))) (fun k2=>(lr 46 3 [1,1,1,1,0] 1 10 [(6,.nils),(7,(ii (Wz aG j (Km aN v7))))] (sl Xq 93 [] (a8 [6,7]) a6 (bl 5 27) (yt (TI k2) (tt k2 (pp (pp (xI R6 (rd l0 (tn x1)).s.length (GJ l0 x1)) (xw bU)) (tt k1 g)))))))))) (fun k1=>(lo fun bU=>(lb (fun k2=>(lo fun cG=>(lo fun cU=>(lo fun dJ=>(lb (fun k3=>(lr 46 3 [1,1,1,1,0] 1 10 [(6,.nils),(7,(ii 4))] (sl Xq 125 [] (a8 [6,7]) a6 (bl 8 253) (tt k3 (pp (pp (xI R6 (rd l0 (tn x2)).s.length (HJ l0 x2)) (xw dJ)) (ww cU (pp (pp (xI R6 1 (fun k=>([(ii (rd l0 (tn x2)).a),(ii (rd l0 (tn x2)).b),(ii (rd l0 (tn x2)).c),(ii (rd l0 (tn x2)).d),(ii (rd l0 (tn x2)).e),(ii (rd l0 (tn x2)).f)].drop (k*6)).take 6)) (xw cG)) (ww cU (tt k2 (pp (pp (xI R6 (rd l0 (tn x1)).s.length (GJ l0 x1)) (xw bU)) (tt k1 g))))))))))) (fun k3=>(lb (fun k4=>(lr 46 3 [1,1,1,1,0] 1 10 [(6,.nils),(7,(ii 4))] (sl Xq 125 [] (a8 [6,7]) a6 (bl 8 229) (tt k4 (tt k3 (pp (pp (xI R6 (rd l0 (tn x2)).s.length (HJ l0 x2)) (xw dJ)) (ww cU (pp (pp (xI R6 1 (fun k=>([(ii (rd l0 (tn x2)).a),(ii (rd l0 (tn x2)).b),(ii (rd l0 (tn x2)).c),(ii (rd l0 (tn x2)).d),(ii (rd l0 (tn x2)).e),(ii (rd l0 (tn x2)).f)].drop (k*6)).take 6)) (xw cG)) (ww cU (tt k2 (pp (pp (xI R6 (rd l0 (tn x1)).s.length (GJ l0 x1)) (xw bU)) (tt k1 g)))))))))))) (fun k4=>(lo fun cJ=>let i:=B3 (Ze aG ([(Jp l0 x2)]:List R6) (Km aN v7));let n:=B3 (GY aG l0 x2 aN v7);(lb (fun k5=>(lr 46 3 [1,1,1,1,0] 1 10 [(6,.nils),(7,(ii (Qq .d i n)))] (sl Xq 145 [] (a8 [6,7]) a6 (bl 9 453) (tt k5 (tt k5 (pp (pp (xI R4 (Ze aG ([(Jp l0 x2)]:List R6) (Km aN v7)).length (Zz (Ze aG ([(Jp l0 x2)]:List R6) (Km aN v7)))) (pp (xI R4 (GY aG l0 x2 aN v7).length (Zz (GY aG l0 x2 aN v7))) (xw cJ))) (tt k4 (tt k3 (pp (pp (xI R6 (rd l0 (tn x2)).s.length (HJ l0 x2)) (xw dJ)) (ww cU (pp (pp (xI R6 1 (fun k=>([(ii (rd l0 (tn x2)).a),(ii (rd l0 (tn x2)).b),(ii (rd l0 (tn x2)).c),(ii (rd l0 (tn x2)).d),(ii (rd l0 (tn x2)).e),(ii (rd l0 (tn x2)).f)].drop (k*6)).take 6)) (xw cG)) (ww cU (tt k2 (pp (pp (xI R6 (rd l0 (tn x1)).s.length (GJ l0 x1)) (xw bU)) (tt k1 g))))))))))))))) (fun k5=>(lo fun dM=>(lb (fun k6=>(lr 46 3 [1,1,1,1,0] 1 10 [(6,.nils),(7,(ii (Qq .e (B3 (Ze aG j l)) (B3 (Wi .d i n)))))] (sl Xq 150 [] (a8 [6,7]) a6 (bl 9 389) (tt k6 (pp (pp (xI R4 (Ze aG (H9 l0 x1) (wr (Jk aN v7))).length (Zz (Ze aG (H9 l0 x1) (wr (Jk aN v7))))) (pp (xI R4 (Wi .d (B3 (Ze aG ([(Jp l0 x2)]:List R6) (Km aN v7))) (B3 (GY aG l0 x2 aN v7))).length (Zz (Wi .d (B3 (Ze aG ([(Jp l0 x2)]:List R6) (Km aN v7))) (B3 (GY aG l0 x2 aN v7))))) (xw dM))) (tt k5 (pp (pp (xI R4 (Ze aG ([(Jp l0 x2)]:List R6) (Km aN v7)).length (Zz (Ze aG ([(Jp l0 x2)]:List R6) (Km aN v7)))) (pp (xI R4 (GY aG l0 x2 aN v7).length (Zz (GY aG l0 x2 aN v7))) (xw cJ))) (tt k4 (tt k3 (pp (pp (xI R6 (rd l0 (tn x2)).s.length (HJ l0 x2)) (xw dJ)) (ww cU (pp (pp (xI R6 1 (fun k=>([(ii (rd l0 (tn x2)).a),(ii (rd l0 (tn x2)).b),(ii (rd l0 (tn x2)).c),(ii (rd l0 (tn x2)).d),(ii (rd l0 (tn x2)).e),(ii (rd l0 (tn x2)).f)].drop (k*6)).take 6)) (xw cG)) (ww cU (tt k2 (pp (pp (xI R6 (rd l0 (tn x1)).s.length (GJ l0 x1)) (xw bU)) (tt k1 g)))))))))))))))) (fun k6=>(sl Xq 141 [] ⟨p,[],j7p,j7q⟩ a6 (bl 8 5) (pp o (tt k6 (pp (pp (xI R4 (Ze aG (H9 l0 x1) (wr (Jk aN v7))).length (Zz (Ze aG (H9 l0 x1) (wr (Jk aN v7))))) (pp (xI R4 (Wi .d (B3 (Ze aG ([(Jp l0 x2)]:List R6) (Km aN v7))) (B3 (GY aG l0 x2 aN v7))).length (Zz (Wi .d (B3 (Ze aG ([(Jp l0 x2)]:List R6) (Km aN v7))) (B3 (GY aG l0 x2 aN v7))))) (xw dM))) (tt k5 (pp (pp (xI R4 (Ze aG ([(Jp l0 x2)]:List R6) (Km aN v7)).length (Zz (Ze aG ([(Jp l0 x2)]:List R6) (Km aN v7)))) (pp (xI R4 (GY aG l0 x2 aN v7).length (Zz (GY aG l0 x2 aN v7))) (xw cJ))) (tt k4 (tt k3 (pp (pp (xI R6 (rd l0 (tn x2)).s.length (HJ l0 x2)) (xw dJ)) (ww cU (pp (pp (xI R6 1 (fun k=>([(ii (rd l0 (tn x2)).a),(ii (rd l0 (tn x2)).b),(ii (rd l0 (tn x2)).c),(ii (rd l0 (tn x2)).d),(ii (rd l0 (tn x2)).e),(ii (rd l0 (tn x2)).f)].drop (k*6)).take 6)) (xw cG)) (ww cU (tt k2 (pp (pp (xI R6 (rd l0 (tn x1)).s.length (GJ l0 x1)) (xw bU)) (tt k1 g))))))))))))))))))))))))))))) (fun k2=>(lr 46 3 [1,1,1,1,0] 1 10 [(6,.nils),(7,(ii (Wz aG j l)))] (sl Xq 87 [] (a8 [6,7]) a6 (bl 5 25) (yt (TI k2) (tt k2 (pp (pp (xI R6 (rd l0 (tn x1)).s.length (GJ l0 x1)) (xw bU)) (tt k1 g)))))))))))))) (fun k0=>(sl Xq 16 [] ⟨[1,2,3,4,5,6,7,11],[],KY,K1⟩ a6 [false] (pp (fl aO nn) (tt k0 nn)))))
 | .h3 v9 v55 v56 v57 cA cS cT cL aO aT aG aN=>(lb (fun k0=>(lo fun o0=>(lo fun o1=>(lo fun o2=>(lo fun o3=>let d:=xL (aO.length+1) (x1a aO aT aG v9 v55 v57).length;let e:=x1a aO aT aG v9 v55 v57;(sl Xq 23 [] ⟨[0,1,2,3,4,5,6,7,8,9,10,14],[],j7p,j7q⟩ ⟨[],(Cl 7 [.cells [.len e.length],.keep,.keep,.keep,.rowed 7 e.length (Zz e)]),[]⟩ [true] (pp d (pp d (pp (xS (aO.length+1) (Zt (Zz aO) 0 aO.length 7 [(.int .u8 (wrap IntKind.u8 aT)),(ii (Sh aG v9 v55 v57).a),(ii (Sh aG v9 v55 v57).b),(ii (Sh aG v9 v55 v57).c),(ii (Si aG v9 v55 v57).a),(ii (Si aG v9 v55 v57).b),(ii (Si aG v9 v55 v57).c)]) (Zz (x1a aO aT aG v9 v55 v57))) (pp (fl aN (pp (xF (Zt (Zz aO) 0 aO.length 7 [(.int .u8 (wrap IntKind.u8 aT)),(ii (Sh aG v9 v55 v57).a),(ii (Sh aG v9 v55 v57).b),(ii (Sh aG v9 v55 v57).c),(ii (Si aG v9 v55 v57).a),(ii (Si aG v9 v55 v57).b),(ii (Si aG v9 v55 v57).c)])) nn)) (ww o3 (ww o2 (ww o1 (ww o0 (tt k0 nn))))))))))))))) (fun k0=>(sl Xq 19 [] ⟨(List.range 12),[],KW,KZ⟩ a6 (bl 2 0) (pp (fl aN (fl aO nn)) (tt k0 nn)))))
theorem w0g (l0:List Pa) (x1:Int) (x2:Int):Xw prog (Zy prog 18) (O4 l0 x1 x2) (Zm prog 18 [(.dat l0.length (Zz l0)),(.int .i64 x1),(.int .i64 x2)] true []) (ZP l0 x1 x2):=(lo fun bN=>let c:=pp (pp (xr l0) (xw bN)) nn;(lb (fun k0=>(lr 46 18 [1,0,1,1,0,0] 1 10 [(6,.nils),(7,(ii (Qe (B3 l0))))] (sl Xq 26 [] (a8 [6,7]) a6 [true] (tt k0 c)))) (fun k0=>let a:=tt k0 c;(lb (fun k1=>(lr 46 18 [1,1,0,1,0,0] 1 10 [(6,.nils),(7,(ii 2))] (sl Xq 54 [] (a8 [6,7]) a6 (bl 15 32766) (tt k1 a)))) (fun k1=>(lb (fun k2=>(lr 46 18 [1,1,0,1,0,0] 1 10 [(6,.nils),(7,(ii 2))] (sl Xq 54 [] (a8 [6,7]) a6 (bl 15 32736) (tt k2 (tt k1 a))))) (fun k2=>let d:=tt k2 (tt k1 a);(lb (fun k3=>(lr 46 18 [1,1,0,1,0,0] 1 10 [(6,.nils),(7,(ii 2))] (sl Xq 54 [] (a8 [6,7]) a6 (bl 15 32640) (tt k3 d)))) (fun k3=>let b:=tt k3 d;(lb (fun k4=>(lr 46 18 [1,1,0,1,0,0] 1 10 [(6,.nils),(7,(ii 2))] (sl Xq 54 [] (a8 [6,7]) a6 (bl 15 30720) (tt k4 b)))) (fun k4=>(lb (fun k5=>(lr 46 18 [1,1,0,1,0,0] 1 10 [(6,.nils),(7,(ii 2))] (sl Xq 54 [] (a8 [6,7]) a6 (bl 15 16384) (tt k5 (tt k4 b))))) (fun k5=>(lo fun o0=>(sl Xq 77 [(96,7,Zz ([]:List R7))] ⟨[2,3,0,1,4,5,6,7],[],KY,K1⟩ ⟨[],(Cl 6 [.cells [.grow 7 7],.keep]),[]⟩ (bl 15 0) (pp (fl ([]:List R7) nn) (ww o0 (tt k5 (tt k4 b)))))))))))))))))))
theorem u4h (l0:List Pa) (x1:Int) (x2:Int) (n:Nat) (vs:List B2) (h:Zo (Vy l0 x1 x2) n (ZP l0 x1 x2)=.ret vs):Uj prog (Zy prog 18) (Zm prog 18 [(.dat l0.length (Zz l0)),(.int .i64 x1),(.int .i64 x2)] true []) vs:=by have:=Zb (v0i l0 x1 x2) n _ (w0g l0 x1 x2);rwa [h] at this
open Go.Sort Go.Shelf Go.RowKit Go.Lib
theorem j8j (q:Op) (a b:List R6):(Qu q a b).length <=400:=by
 unfold Qu D8;rcases Zs (Da q a b != 0) with g | g
 .grind
 .rw [g,Aa];have h:Da q a b=0:=by simpa using g
  unfold Da at h;rcases Zs (Zf a != 0) with g1 | g1
  .grind
  rcases Zs (Zf b != 0) with g2 | g2
  .grind
  rw [g1,g2,Aa,Aa] at h;unfold eJ at h;revert h;generalize Cv (Ck q a b) _ _ _=e;intro h;rcases Zs (e != 0) with g3 | g3;all_goals simp_all [UG]
theorem x4q (q:Op) (a b:List R4):(Wi q a b).length <=400:=by
 unfold Wi D8;rcases Zs (Dr q a b != 0) with g | g
 .grind
 .rw [g,Aa];have h:Dr q a b=0:=by simpa using g
  unfold Dr at h;rcases Zs (Cz a != 0) with g1 | g1
  .grind
  rcases Zs (Cz b != 0) with g2 | g2
  .grind
  rw [g1,g2,Aa,Aa] at h;unfold eJ at h;revert h;generalize Cv (Db q a b) _ _ _=e;intro h;rcases Zs (e != 0) with g3 | g3;all_goals simp_all [UG]
theorem v5o : ∀(l:List Pa) (acc:List R6),acc.length<=400->(CT acc l).length <=400
 | [],_,h=>h
 | x::r,acc,_=>v5o r _ (j8j .u acc x.s)
theorem j7k (l:List Pa):(Yv l).length <=400:=by grind [Yv,D8,v5o]
theorem x4a : ∀{l:List Pa},Ec l=0-> ∀x∈l,Zf x.s=0
 | [],_,x,hx=>by cases hx
 | y::l,h,x,hx=>by
  unfold Ec at h;rcases Zs (Zf y.s != 0) with q | q
  .rw [q,Ab] at h;rw [h] at q;cases q
  .rw [q,Aa] at h;rcases AH.1 hx with rfl | hx
   .simpa using q
   .exact x4a h x hx
theorem w7f {l:List Pa} (h:Qe l=0):l.length<=50/\Ec l=0/\Fm l l.length 0=0:=by
 unfold Qe at h
 grind
theorem UB {l:List Pa} (h:Qe l=0) {i:Nat} (hi:i<l.length):Zf (rd l i).s =0/\(rd l i).s.length <=400:=by grind [x4a,w7f,Yo,Tr]
def B5 (d:Int):Int:=wrap .i64 (Int.tdiv d 2)
def Cc (d a p:Int) (t:R4):R7:=⟨wrap IntKind.u8 d,(Cb a p t.a t.b).a,(Cb a p t.a t.b).b,(Cb a p t.a t.b).c,(Cb a p t.c t.d).a,(Cb a p t.c t.d).b,(Cb a p t.c t.d).c⟩
def Kq (a:Int) (L:List R6):List Int:=L.flatMap fun r=>[DO a r.a r.b r.c,DO a r.d r.e r.f]
theorem Jt (a:Int) (L:List R6):(Kq a L).length =2*L.length:=by
 induction L with
 | nil=>rfl
 | cons r l ih=>grind [Kq]
def CE (a:Int) (L:List R6):List Int:=Kz (Kq a L)
theorem SY (a:Int) (L:List R6):(CE a L).length <=2*L.length:=by have h1:=Ui (Xm (Kq a L));have h2:=compact_length_le (Xm (Kq a L));rw [Uz,Jt] at h2;exact h2
def DE (E:Int->Int):List Int->Int
 | []=>0
 | p::r=>bif E p != 0 then E p else DE E r
def Kj (M:Int->Int->List R4) (d:Int) (ps:List Int):List R7:=ps.flatMap fun p=>(M d p).map (Cc d (B5 d) p)
theorem z8x {M:Int->Int->List R4} (hM: ∀d p,(M d p).length <=400) (d:Int): ∀ps,(Kj M d ps).length <=400*ps.length
 | []=>Aq _
 | p::ps=>by have:=z8x hM d ps;have h:=hM d p;show ((M d p).map (Cc d (B5 d) p)++Kj M d ps).length <=_;rw [AP,Bu,Bn];omega
def E9 (E:Int->Int->Int) (S:List R6):Nat->Nat->Int
 | 0,_=>0
 | k+1,d=>bif DE (E (d:Int)) (CE (B5 (d:Int)) S) != 0 then DE (E (d:Int)) (CE (B5 (d:Int)) S) else E9 E S k (d+1)
def DB (M:Int->Int->List R4) (S:List R6):Nat->Nat->List R7
 | 0,_=>[]
 | k+1,d=>Kj M (d:Int) (CE (B5 (d:Int)) S)++DB M S k (d+1)
def Ei (E:Int->Int->Int) (M:Int->Int->List R4) (S:List R6):Int:=bif E9 E S 6 0 != 0 then E9 E S 6 0 else bif decide (((DB M S 6 0).length :Int)>3000) then 4 else 0
def EZ (d p:Int):Int:=bif Int.tmod d 2 == 1 then p else wrap .i64 (p - 1)
def Dg (d p:Int):Int:=bif Int.tmod d 2 == 1 then wrap .i64 (p - 1) else p
theorem Sn {d:Nat} (h:d<6):Es (B5 (d:Int))=true:=by
 have:d=0\/d=1\/d=2\/d=3\/d=4\/d=5:=by omega
 rcases this with rfl | rfl | rfl | rfl | rfl | rfl <;> rfl
def DG (S A:List R6) (d p:Int):Int:=bif Wz (B5 d) S (EZ d p) == 0 then (bif Wz (B5 d) A (Dg d p) != 0 then Wz (B5 d) A (Dg d p) else Qq .d (Ze (B5 d) S (EZ d p)) (Ze (B5 d) A (Dg d p))) else Wz (B5 d) S (EZ d p)
def Qd (S A:List R6) (d p:Int):List R4:=Wi .d (Ze (B5 d) S (EZ d p)) (Ze (B5 d) A (Dg d p))
def D1 (S T:List R6) (b:R6) (d p:Int):Int:=bif Wz (B5 d) S (EZ d p) == 0 then
  (bif Wz (B5 d) [b] (Dg d p) != 0 then 4 else bif Wz (B5 d) T (Dg d p) != 0 then 4 else bif Qq .d (Ze (B5 d) [b] (Dg d p)) (Ze (B5 d) T (Dg d p)) != 0 then Qq .d (Ze (B5 d) [b] (Dg d p)) (Ze (B5 d) T (Dg d p)) else
   Qq .e (Ze (B5 d) S (EZ d p)) (Wi .d (Ze (B5 d) [b] (Dg d p)) (Ze (B5 d) T (Dg d p))))
 else Wz (B5 d) S (EZ d p)
def Kh (S T:List R6) (b:R6) (d p:Int):List R4:=Wi .e (Ze (B5 d) S (EZ d p)) (Wi .d (Ze (B5 d) [b] (Dg d p)) (Ze (B5 d) T (Dg d p)))
theorem WT {α:Type} (x0 x1 x2 x3 x4:Int) (R:Int->α) (T:α):(bif x0 == 0 then (bif x1 != 0 then R 4 else bif x2 != 0 then R 4 else bif x3 != 0 then R x3 else bif x4 != 0 then R x4 else T) else R x0)=bif (bif x0 == 0 then (bif x1 != 0 then 4 else bif x2 != 0 then 4 else bif x3 != 0 then x3 else x4) else x0) != 0 then R (bif x0 == 0 then (bif x1 != 0 then 4 else bif x2 != 0 then 4 else bif x3 != 0 then x3 else x4) else x0) else T:=by grind
section
variable (l:List Pa) (x1:Int) (hx:0<=x1/\x1<(l.length:Int)) (hS:(rd l x1.toNat).s.length <=400)
include hx hS
theorem j2e (d:Int) (hd:Es (B5 d)=true) (out:List R7): ∀(k j:Nat) (acc:List Int),j+k=(rd l x1.toNat).s.length ->acc=Kq (B5 d) ((rd l x1.toNat).s.take j)->
  ∃n,∀N,Zo (Vw l x1) (N+n) (.to (.h1 acc (j:Int) d (B5 d) (B5 d) out d (B5 d)))=Zo (Vw l x1) N (.to (.h2 (CE (B5 d) (rd l x1.toNat).s).length ((CE (B5 d) (rd l x1.toNat).s).length :Int) 0 d out d (B5 d) (Wk (Xm (Kq (B5 d) (rd l x1.toNat).s)))))
 | 0,j,acc,h,h'=>by
  have _u:=hS;have _v:=hx;have e:acc=Kq (B5 d) (rd l x1.toNat).s :=by grind
  subst e;have hle:=Jt (B5 d) (rd l x1.toNat).s;refine ⟨1,fun N=> ?_⟩;rw [Zx];simp (disch:=omega) only [Vw,Jo,N8,NH,Yh,Yu,Yk,Ao,Ab,Aa];rfl
 | k+1,j,acc,h,h'=>by
  have hle:acc.length<=2*j:=by grind [Jt]
  have oA: ∀x y z,Jv (B5 d) x y z=true:=fun _ _ _=>hd;obtain ⟨n,hn⟩:=j2e d hd out k (j+1) (acc++Kq (B5 d) [rd (rd l x1.toNat).s j]) (by omega) (by
   rw [h',AW]
   grind [Yo,Kq])
  refine ⟨n+1,fun N=> ?_⟩;rw [<-AD,Zx,<-hn N];simp (disch:=omega) only [Vw,oA,Zd,Zq,Yy,Yz,Yd,Yu,Yk,Zh,Zj,Zw,Yc,Zk,Af,Ao,Ah,Ai,Ab,Aa];rfl
theorem j2c (d:Int) (hd:Es (B5 d)=true) (p:Int) (R:List R4) (hR:R.length<=400) (n5:Nat) (v6 v7:Int) (P:List Int): ∀(k j:Nat) (out:List R7),j+k=R.length->out.length<=10000000+j->
  ∃n,∀N,Zo (Vw l x1) (N+n) (.to (.h3 p R (R.length:Int) (j:Int) n5 v6 v7 d out d (B5 d) P))=Zo (Vw l x1) N (.to (.h2 n5 v6 (wrap .i64 (v7+1)) d (out++(R.drop j).map (Cc d (B5 d) p)) d (B5 d) P))
 | 0,j,out,h,h'=>by
  have _u:=hS;have _v:=hx;refine ⟨1,fun N=> ?_⟩
  grind [Zx,Vw]
 | k+1,j,out,h,h'=>by
  have hj:j<R.length:=by omega
  have oB: ∀x y z,Qg (B5 d) x y z=true:=fun _ _ _=>hd;obtain ⟨n,hn⟩:=j2c d hd p R hR n5 v6 v7 P k (j+1) (out++[Cc d (B5 d) p (rd R j)]) (by omega) (by grind);refine ⟨n+1,fun N=> ?_⟩;rw [Yg hj,AT,<-AD,Zx,show out++Cc d (B5 d) p (rd R j)::(R.drop (j+1)).map (Cc d (B5 d) p)=(out++[Cc d (B5 d) p (rd R j)])++(R.drop (j+1)).map (Cc d (B5 d) p) by simp,<-hn N];simp (disch:=omega) only [Vw,oB,Zd,Zq,Yy,Yz,Yd,Yu,Yk,Zh,Zj,Zw,show Nat.beq 7 7=true from rfl,Zk,Af,Ao,Ah,Ai,Ab,Aa];rfl
theorem Of (d:Nat) (hd6:d<6) (i:Nat) (hi:i<(CE (B5 (d:Int)) (rd l x1.toNat).s).length) (out:List R7):Vw l x1 (.h2 (CE (B5 (d:Int)) (rd l x1.toNat).s).length ((CE (B5 (d:Int)) (rd l x1.toNat).s).length :Int) (i:Int) (d:Int) out (d:Int) (B5 (d:Int)) (Wk (Xm (Kq (B5 (d:Int)) (rd l x1.toNat).s))))=bif (DG (rd l x1.toNat).s (Yv l)) (d:Int) (rd (CE (B5 (d:Int)) (rd l x1.toNat).s) i) != 0 then .ret [.nils,.int .i64 ((DG (rd l x1.toNat).s (Yv l)) (d:Int) (rd (CE (B5 (d:Int)) (rd l x1.toNat).s) i))] else
   .to (.h3 (rd (CE (B5 (d:Int)) (rd l x1.toNat).s) i) ((Qd (rd l x1.toNat).s (Yv l)) (d:Int) (rd (CE (B5 (d:Int)) (rd l x1.toNat).s) i)) (((Qd (rd l x1.toNat).s (Yv l)) (d:Int) (rd (CE (B5 (d:Int)) (rd l x1.toNat).s) i)).length :Int) ((0:Nat):Int) (CE (B5 (d:Int)) (rd l x1.toNat).s).length ((CE (B5 (d:Int)) (rd l x1.toNat).s).length :Int) (i:Int) (d:Int) out (d:Int) (B5 (d:Int)) (Wk (Xm (Kq (B5 (d:Int)) (rd l x1.toNat).s)))):=by
  have _v:=hx;have hd:=Sn hd6;have hp:=SY (B5 (d:Int)) (rd l x1.toNat).s;have hpl:(Wk (Xm (Kq (B5 (d:Int)) (rd l x1.toNat).s))).length =2*(rd l x1.toNat).s.length :=by rw [Ui,Uz,Jt]
  have r0:rd (Wk (Xm (Kq (B5 (d:Int)) (rd l x1.toNat).s))) i=rd (CE (B5 (d:Int)) (rd l x1.toNat).s) i:=GC _ _ hi;have o: ∀L p,L.length<=400->Wm (B5 (d:Int)) L p=true:=fun L p hL=>by
   show (Es (B5 (d:Int))&&decide (L.length<=1000))=true
   grind
  have oS: ∀p,Wm (B5 (d:Int)) (rd l x1.toNat).s p=true:=fun p=>o _ _ hS;have oW: ∀p,Wm (B5 (d:Int)) (Yv l) p=true:=fun p=>o _ _ (j7k l);have ow:Jl l=Jl l:=rfl;have oR: ∀q a b,Ke q a b=true:=fun _ _ _=>rfl;rcases Zs (Int.tmod (d:Int) 2 == 1) with q | q
  .simp (disch:=omega) only [Vw,q,r0,oS,oW,oR,Zd,Zq,Yy,Yz,Yd,Yu,Yk,Zk,Af,Ao,Ah,Ai,Ab,Aa,DG,Qd,EZ,Dg]
   grind
  .simp (disch:=omega) only [Vw,q,r0,oS,oW,oR,Zd,Zq,Yy,Yz,Yd,Yu,Yk,Zk,Af,Ao,Ah,Ai,Ab,Aa,DG,Qd,EZ,Dg]
   grind
theorem j2d (d:Nat) (hd6:d<6): ∀(k i:Nat) (out:List R7),i+k=(CE (B5 (d:Int)) (rd l x1.toNat).s).length ->out.length+400*k<=8000000->
  (DE ((DG (rd l x1.toNat).s (Yv l)) (d:Int)) ((CE (B5 (d:Int)) (rd l x1.toNat).s).drop i)=0-> ∃n,∀N,Zo (Vw l x1) (N+n) (.to (.h2 (CE (B5 (d:Int)) (rd l x1.toNat).s).length ((CE (B5 (d:Int)) (rd l x1.toNat).s).length :Int) (i:Int) (d:Int) out (d:Int) (B5 (d:Int)) (Wk (Xm (Kq (B5 (d:Int)) (rd l x1.toNat).s)))))=Zo (Vw l x1) N (.to (.h0 ((d+1:Nat):Int) (out++Kj (Qd (rd l x1.toNat).s (Yv l)) (d:Int) ((CE (B5 (d:Int)) (rd l x1.toNat).s).drop i)))))/\
  ((DE ((DG (rd l x1.toNat).s (Yv l)) (d:Int)) ((CE (B5 (d:Int)) (rd l x1.toNat).s).drop i) != 0)=true-> ∃n,∀N,Zo (Vw l x1) (N+n) (.to (.h2 (CE (B5 (d:Int)) (rd l x1.toNat).s).length ((CE (B5 (d:Int)) (rd l x1.toNat).s).length :Int) (i:Int) (d:Int) out (d:Int) (B5 (d:Int)) (Wk (Xm (Kq (B5 (d:Int)) (rd l x1.toNat).s)))))=.ret [.nils,.int .i64 (DE ((DG (rd l x1.toNat).s (Yv l)) (d:Int)) ((CE (B5 (d:Int)) (rd l x1.toNat).s).drop i))])
 | 0,i,out,h,h'=>by
  rw [As (show (CE (B5 (d:Int)) (rd l x1.toNat).s).length <=i by omega)];refine ⟨fun _=>⟨1,fun N=> ?_⟩,fun e=>by cases e⟩
  grind [Kj,Zx,Vw,Zj]
 | k+1,i,out,h,h'=>by
  have hi:i<(CE (B5 (d:Int)) (rd l x1.toNat).s).length :=by omega
  have hp:=SY (B5 (d:Int)) (rd l x1.toNat).s;rw [Yg hi];have eE:DE ((DG (rd l x1.toNat).s (Yv l)) (d:Int)) (rd (CE (B5 (d:Int)) (rd l x1.toNat).s) i::(CE (B5 (d:Int)) (rd l x1.toNat).s).drop (i+1))=bif (DG (rd l x1.toNat).s (Yv l)) (d:Int) (rd (CE (B5 (d:Int)) (rd l x1.toNat).s) i) != 0 then (DG (rd l x1.toNat).s (Yv l)) (d:Int) (rd (CE (B5 (d:Int)) (rd l x1.toNat).s) i) else DE ((DG (rd l x1.toNat).s (Yv l)) (d:Int)) ((CE (B5 (d:Int)) (rd l x1.toNat).s).drop (i+1)):=rfl;have eM:Kj (Qd (rd l x1.toNat).s (Yv l)) (d:Int) (rd (CE (B5 (d:Int)) (rd l x1.toNat).s) i::(CE (B5 (d:Int)) (rd l x1.toNat).s).drop (i+1))=((Qd (rd l x1.toNat).s (Yv l)) (d:Int) (rd (CE (B5 (d:Int)) (rd l x1.toNat).s) i)).map (Cc (d:Int) (B5 (d:Int)) (rd (CE (B5 (d:Int)) (rd l x1.toNat).s) i))++Kj (Qd (rd l x1.toNat).s (Yv l)) (d:Int) ((CE (B5 (d:Int)) (rd l x1.toNat).s).drop (i+1)):=rfl;rw [eE,eM];have eS:=Of l x1 hx hS d hd6 i hi out;rcases Zs ((DG (rd l x1.toNat).s (Yv l)) (d:Int) (rd (CE (B5 (d:Int)) (rd l x1.toNat).s) i) != 0) with z | z
  .rw [z,Ab];refine ⟨fun e=>(by grind),fun _=>⟨1,fun N=> ?_⟩⟩
   grind [Zx,Zp]
  .rw [z,Aa];have hm:((Qd (rd l x1.toNat).s (Yv l)) (d:Int) (rd (CE (B5 (d:Int)) (rd l x1.toNat).s) i)).length <=400:=x4q _ _ _;obtain ⟨n2,h2⟩:=j2c l x1 hx hS (d:Int) (Sn hd6) (rd (CE (B5 (d:Int)) (rd l x1.toNat).s) i) ((Qd (rd l x1.toNat).s (Yv l)) (d:Int) (rd (CE (B5 (d:Int)) (rd l x1.toNat).s) i)) hm (CE (B5 (d:Int)) (rd l x1.toNat).s).length ((CE (B5 (d:Int)) (rd l x1.toNat).s).length :Int) (i:Int) (Wk (Xm (Kq (B5 (d:Int)) (rd l x1.toNat).s))) ((Qd (rd l x1.toNat).s (Yv l)) (d:Int) (rd (CE (B5 (d:Int)) (rd l x1.toNat).s) i)).length 0 out (Af _) (by omega);rw [AS] at h2;obtain ⟨a1,a2⟩:=j2d d hd6 k (i+1) (out++((Qd (rd l x1.toNat).s (Yv l)) (d:Int) (rd (CE (B5 (d:Int)) (rd l x1.toNat).s) i)).map (Cc (d:Int) (B5 (d:Int)) (rd (CE (B5 (d:Int)) (rd l x1.toNat).s) i))) (by omega) (by grind);have ew:wrap .i64 ((i:Int)+1)=((i+1:Nat):Int):=by grind [Zj]
   have st: ∀N,Zo (Vw l x1) (N+n2+1) (.to (.h2 (CE (B5 (d:Int)) (rd l x1.toNat).s).length ((CE (B5 (d:Int)) (rd l x1.toNat).s).length :Int) (i:Int) (d:Int) out (d:Int) (B5 (d:Int)) (Wk (Xm (Kq (B5 (d:Int)) (rd l x1.toNat).s)))))=Zo (Vw l x1) N (.to (.h2 (CE (B5 (d:Int)) (rd l x1.toNat).s).length ((CE (B5 (d:Int)) (rd l x1.toNat).s).length :Int) ((i+1:Nat):Int) (d:Int) (out++((Qd (rd l x1.toNat).s (Yv l)) (d:Int) (rd (CE (B5 (d:Int)) (rd l x1.toNat).s) i)).map (Cc (d:Int) (B5 (d:Int)) (rd (CE (B5 (d:Int)) (rd l x1.toNat).s) i))) (d:Int) (B5 (d:Int)) (Wk (Xm (Kq (B5 (d:Int)) (rd l x1.toNat).s))))):=fun N=>by
    grind [Zx]
   refine ⟨fun e=> ?_,fun e=> ?_⟩
   .obtain ⟨n,hn⟩:=a1 e;refine ⟨n+n2+1,fun N=> ?_⟩
    grind
   .obtain ⟨n,hn⟩:=a2 e;refine ⟨n+n2+1,fun N=> ?_⟩;rw [<-hn N,<-st (N+n),AD N,AD N,AD n]
theorem j2f : ∀(k d:Nat) (out:List R7),d+k=6->out.length<=400000*d->
  ∃n,Zo (Vw l x1) n (.to (.h0 (d:Int) out))=.ret (Cy (bif E9 (DG (rd l x1.toNat).s (Yv l)) (rd l x1.toNat).s k d != 0 then E9 (DG (rd l x1.toNat).s (Yv l)) (rd l x1.toNat).s k d else bif decide (((out++DB (Qd (rd l x1.toNat).s (Yv l)) (rd l x1.toNat).s k d).length :Int)>3000) then 4 else 0) (out++DB (Qd (rd l x1.toNat).s (Yv l)) (rd l x1.toNat).s k d))
 | 0,d,out,h,h'=>by refine ⟨1,?_⟩;rw [Zx,show DB (Qd (rd l x1.toNat).s (Yv l)) (rd l x1.toNat).s 0 d=[] from rfl,AE];simp (disch:=omega) only [Vw,Yh,Aa];show Zo (Vw l x1) 0 _=.ret (Cy (bif decide ((out.length:Int)>3000) then 4 else 0) out);cases decide ((out.length:Int)>3000) <;> rfl
 | k+1,d,out,h,h'=>by
  have hp:=SY (B5 (d:Int)) (rd l x1.toNat).s;obtain ⟨n1,h1⟩:=j2e l x1 hx hS (d:Int) (Sn (show d<6 by omega)) out (rd l x1.toNat).s.length 0 [] (Af _) rfl;obtain ⟨a1,a2⟩:=j2d l x1 hx hS d (by omega) (CE (B5 (d:Int)) (rd l x1.toNat).s).length 0 out (Af _) (by omega);rw [AS] at a1 a2;have e0:Vw l x1 (.h0 (d:Int) out)=.to (.h1 [] ((0:Nat):Int) (d:Int) (B5 (d:Int)) (B5 (d:Int)) out (d:Int) (B5 (d:Int))):=by simp (disch:=omega) only [Vw,Yy,Ab];rfl
  have eE:E9 (DG (rd l x1.toNat).s (Yv l)) (rd l x1.toNat).s (k+1) d=bif DE ((DG (rd l x1.toNat).s (Yv l)) (d:Int)) (CE (B5 (d:Int)) (rd l x1.toNat).s) != 0 then DE ((DG (rd l x1.toNat).s (Yv l)) (d:Int)) (CE (B5 (d:Int)) (rd l x1.toNat).s) else E9 (DG (rd l x1.toNat).s (Yv l)) (rd l x1.toNat).s k (d+1):=rfl;have eN:DB (Qd (rd l x1.toNat).s (Yv l)) (rd l x1.toNat).s (k+1) d=Kj (Qd (rd l x1.toNat).s (Yv l)) (d:Int) (CE (B5 (d:Int)) (rd l x1.toNat).s)++DB (Qd (rd l x1.toNat).s (Yv l)) (rd l x1.toNat).s k (d+1):=rfl;rw [eE,eN];rcases Zs (DE ((DG (rd l x1.toNat).s (Yv l)) (d:Int)) (CE (B5 (d:Int)) (rd l x1.toNat).s) != 0) with z | z
  .obtain ⟨n2,h2⟩:=a2 z;refine ⟨0+n2+n1+1,?_⟩;rw [Zx,e0,h1 (0+n2),z,Ab,Uv _ (by grind),z,Ab];exact h2 0
  .obtain ⟨n2,h2⟩:=a1 (by simpa using z);have hl:=z8x (M:=(Qd (rd l x1.toNat).s (Yv l))) (fun _ _=>x4q _ _ _) (d:Int) (CE (B5 (d:Int)) (rd l x1.toNat).s);obtain ⟨n3,h3⟩:=j2f k (d+1) (out++Kj (Qd (rd l x1.toNat).s (Yv l)) (d:Int) (CE (B5 (d:Int)) (rd l x1.toNat).s)) (by omega) (by grind);refine ⟨n3+n2+n1+1,?_⟩
   grind [Zx]
end
section
variable (l:List Pa) (x1 x2:Int) (hx:0<=x1/\x1<(l.length:Int)) (hS:(rd l x1.toNat).s.length <=400) (hy:0<=x2/\x2<(l.length:Int)) (hT:(rd l x2.toNat).s.length <=400)
include hx hS hy hT
theorem j0y (d:Int) (hd:Es (B5 d)=true) (out:List R7): ∀(k j:Nat) (acc:List Int),j+k=(rd l x1.toNat).s.length ->acc=Kq (B5 d) ((rd l x1.toNat).s.take j)->
  ∃n,∀N,Zo (Vy l x1 x2) (N+n) (.to (.h1 acc (j:Int) d (B5 d) (B5 d) out d (B5 d)))=Zo (Vy l x1 x2) N (.to (.h2 (CE (B5 d) (rd l x1.toNat).s).length ((CE (B5 d) (rd l x1.toNat).s).length :Int) 0 d out d (B5 d) (Wk (Xm (Kq (B5 d) (rd l x1.toNat).s)))))
 | 0,j,acc,h,h'=>by
  have _u:=hS;have _v:=hx;have _w:=hy;have _y:=hT;have e:acc=Kq (B5 d) (rd l x1.toNat).s :=by grind
  subst e;have hle:=Jt (B5 d) (rd l x1.toNat).s;refine ⟨1,fun N=> ?_⟩;rw [Zx];simp (disch:=omega) only [Vy,Jo,N8,NH,Yh,Yu,Yk,Ao,Ab,Aa];rfl
 | k+1,j,acc,h,h'=>by
  have hle:acc.length<=2*j:=by grind [Jt]
  have oA: ∀x y z,Jv (B5 d) x y z=true:=fun _ _ _=>hd;obtain ⟨n,hn⟩:=j0y d hd out k (j+1) (acc++Kq (B5 d) [rd (rd l x1.toNat).s j]) (by omega) (by
   rw [h',AW]
   grind [Yo,Kq])
  refine ⟨n+1,fun N=> ?_⟩;rw [<-AD,Zx,<-hn N];simp (disch:=omega) only [Vy,oA,Zd,Zq,Yy,Yz,Yd,Yu,Yk,Zh,Zj,Zw,Yc,Zk,Af,Ao,Ah,Ai,Ab,Aa];rfl
theorem j0w (d:Int) (hd:Es (B5 d)=true) (p:Int) (R:List R4) (hR:R.length<=400) (n5:Nat) (v6 v7:Int) (P:List Int): ∀(k j:Nat) (out:List R7),j+k=R.length->out.length<=10000000+j->
  ∃n,∀N,Zo (Vy l x1 x2) (N+n) (.to (.h3 p R (R.length:Int) (j:Int) n5 v6 v7 d out d (B5 d) P))=Zo (Vy l x1 x2) N (.to (.h2 n5 v6 (wrap .i64 (v7+1)) d (out++(R.drop j).map (Cc d (B5 d) p)) d (B5 d) P))
 | 0,j,out,h,h'=>by
  have _u:=hS;have _v:=hx;have _w:=hy;have _y:=hT;refine ⟨1,fun N=> ?_⟩
  grind [Zx,Vy]
 | k+1,j,out,h,h'=>by
  have hj:j<R.length:=by omega
  have oB: ∀x y z,Qg (B5 d) x y z=true:=fun _ _ _=>hd;obtain ⟨n,hn⟩:=j0w d hd p R hR n5 v6 v7 P k (j+1) (out++[Cc d (B5 d) p (rd R j)]) (by omega) (by grind);refine ⟨n+1,fun N=> ?_⟩;rw [Yg hj,AT,<-AD,Zx,show out++Cc d (B5 d) p (rd R j)::(R.drop (j+1)).map (Cc d (B5 d) p)=(out++[Cc d (B5 d) p (rd R j)])++(R.drop (j+1)).map (Cc d (B5 d) p) by simp,<-hn N];simp (disch:=omega) only [Vy,oB,Zd,Zq,Yy,Yz,Yd,Yu,Yk,Zh,Zj,Zw,show Nat.beq 7 7=true from rfl,Zk,Af,Ao,Ah,Ai,Ab,Aa];rfl
theorem O2 (d:Nat) (hd6:d<6) (i:Nat) (hi:i<(CE (B5 (d:Int)) (rd l x1.toNat).s).length) (out:List R7):Vy l x1 x2 (.h2 (CE (B5 (d:Int)) (rd l x1.toNat).s).length ((CE (B5 (d:Int)) (rd l x1.toNat).s).length :Int) (i:Int) (d:Int) out (d:Int) (B5 (d:Int)) (Wk (Xm (Kq (B5 (d:Int)) (rd l x1.toNat).s))))=bif (D1 (rd l x1.toNat).s (rd l x2.toNat).s (CH (rd l x2.toNat))) (d:Int) (rd (CE (B5 (d:Int)) (rd l x1.toNat).s) i) != 0 then .ret [.nils,.int .i64 ((D1 (rd l x1.toNat).s (rd l x2.toNat).s (CH (rd l x2.toNat))) (d:Int) (rd (CE (B5 (d:Int)) (rd l x1.toNat).s) i))] else
   .to (.h3 (rd (CE (B5 (d:Int)) (rd l x1.toNat).s) i) ((Kh (rd l x1.toNat).s (rd l x2.toNat).s (CH (rd l x2.toNat))) (d:Int) (rd (CE (B5 (d:Int)) (rd l x1.toNat).s) i)) (((Kh (rd l x1.toNat).s (rd l x2.toNat).s (CH (rd l x2.toNat))) (d:Int) (rd (CE (B5 (d:Int)) (rd l x1.toNat).s) i)).length :Int) ((0:Nat):Int) (CE (B5 (d:Int)) (rd l x1.toNat).s).length ((CE (B5 (d:Int)) (rd l x1.toNat).s).length :Int) (i:Int) (d:Int) out (d:Int) (B5 (d:Int)) (Wk (Xm (Kq (B5 (d:Int)) (rd l x1.toNat).s)))):=by
  have _v:=hx;have _w:=hy;have _y:=hT;have hd:=Sn hd6;have hp:=SY (B5 (d:Int)) (rd l x1.toNat).s;have hpl:(Wk (Xm (Kq (B5 (d:Int)) (rd l x1.toNat).s))).length =2*(rd l x1.toNat).s.length :=by rw [Ui,Uz,Jt]
  have r0:rd (Wk (Xm (Kq (B5 (d:Int)) (rd l x1.toNat).s))) i=rd (CE (B5 (d:Int)) (rd l x1.toNat).s) i:=GC _ _ hi;have o: ∀L p,L.length<=400->Wm (B5 (d:Int)) L p=true:=fun L p hL=>by
   show (Es (B5 (d:Int))&&decide (L.length<=1000))=true
   grind
  have oS: ∀p,Wm (B5 (d:Int)) (rd l x1.toNat).s p=true:=fun p=>o _ _ hS;have oW: ∀p,Wm (B5 (d:Int)) (rd l x2.toNat).s p=true:=fun p=>o _ _ hT;have oB: ∀p,Wm (B5 (d:Int)) [CH (rd l x2.toNat)] p=true:=fun p=>o _ _ (show 1<=400 by decide);unfold CH at oB;have oR: ∀q a b,Ke q a b=true:=fun _ _ _=>rfl;rcases Zs (Int.tmod (d:Int) 2 == 1) with q | q
  .simp (disch:=omega) only [Vy,q,r0,oS,oW,oB,oR,Zd,Zq,Yy,Yz,Yd,Yu,Yk,Zk,Af,Ao,Ah,Ai,Ab,Aa,D1,Kh,EZ,Dg];exact WT _ _ _ _ _ (fun e=>Xz.ret [.nils,.int .i64 e]) _
  .simp (disch:=omega) only [Vy,q,r0,oS,oW,oB,oR,Zd,Zq,Yy,Yz,Yd,Yu,Yk,Zk,Af,Ao,Ah,Ai,Ab,Aa,D1,Kh,EZ,Dg];exact WT _ _ _ _ _ (fun e=>Xz.ret [.nils,.int .i64 e]) _
theorem j0x (d:Nat) (hd6:d<6): ∀(k i:Nat) (out:List R7),i+k=(CE (B5 (d:Int)) (rd l x1.toNat).s).length ->out.length+400*k<=8000000->
  (DE ((D1 (rd l x1.toNat).s (rd l x2.toNat).s (CH (rd l x2.toNat))) (d:Int)) ((CE (B5 (d:Int)) (rd l x1.toNat).s).drop i)=0-> ∃n,∀N,Zo (Vy l x1 x2) (N+n) (.to (.h2 (CE (B5 (d:Int)) (rd l x1.toNat).s).length ((CE (B5 (d:Int)) (rd l x1.toNat).s).length :Int) (i:Int) (d:Int) out (d:Int) (B5 (d:Int)) (Wk (Xm (Kq (B5 (d:Int)) (rd l x1.toNat).s)))))=Zo (Vy l x1 x2) N (.to (.h0 ((d+1:Nat):Int) (out++Kj (Kh (rd l x1.toNat).s (rd l x2.toNat).s (CH (rd l x2.toNat))) (d:Int) ((CE (B5 (d:Int)) (rd l x1.toNat).s).drop i)))))/\
  ((DE ((D1 (rd l x1.toNat).s (rd l x2.toNat).s (CH (rd l x2.toNat))) (d:Int)) ((CE (B5 (d:Int)) (rd l x1.toNat).s).drop i) != 0)=true-> ∃n,∀N,Zo (Vy l x1 x2) (N+n) (.to (.h2 (CE (B5 (d:Int)) (rd l x1.toNat).s).length ((CE (B5 (d:Int)) (rd l x1.toNat).s).length :Int) (i:Int) (d:Int) out (d:Int) (B5 (d:Int)) (Wk (Xm (Kq (B5 (d:Int)) (rd l x1.toNat).s)))))=.ret [.nils,.int .i64 (DE ((D1 (rd l x1.toNat).s (rd l x2.toNat).s (CH (rd l x2.toNat))) (d:Int)) ((CE (B5 (d:Int)) (rd l x1.toNat).s).drop i))])
 | 0,i,out,h,h'=>by
  rw [As (show (CE (B5 (d:Int)) (rd l x1.toNat).s).length <=i by omega)];refine ⟨fun _=>⟨1,fun N=> ?_⟩,fun e=>by cases e⟩
  grind [Kj,Zx,Vy,Zj]
 | k+1,i,out,h,h'=>by
  have hi:i<(CE (B5 (d:Int)) (rd l x1.toNat).s).length :=by omega
  have hp:=SY (B5 (d:Int)) (rd l x1.toNat).s;rw [Yg hi];have eE:DE ((D1 (rd l x1.toNat).s (rd l x2.toNat).s (CH (rd l x2.toNat))) (d:Int)) (rd (CE (B5 (d:Int)) (rd l x1.toNat).s) i::(CE (B5 (d:Int)) (rd l x1.toNat).s).drop (i+1))=bif (D1 (rd l x1.toNat).s (rd l x2.toNat).s (CH (rd l x2.toNat))) (d:Int) (rd (CE (B5 (d:Int)) (rd l x1.toNat).s) i) != 0 then (D1 (rd l x1.toNat).s (rd l x2.toNat).s (CH (rd l x2.toNat))) (d:Int) (rd (CE (B5 (d:Int)) (rd l x1.toNat).s) i) else DE ((D1 (rd l x1.toNat).s (rd l x2.toNat).s (CH (rd l x2.toNat))) (d:Int)) ((CE (B5 (d:Int)) (rd l x1.toNat).s).drop (i+1)):=rfl;have eM:Kj (Kh (rd l x1.toNat).s (rd l x2.toNat).s (CH (rd l x2.toNat))) (d:Int) (rd (CE (B5 (d:Int)) (rd l x1.toNat).s) i::(CE (B5 (d:Int)) (rd l x1.toNat).s).drop (i+1))=((Kh (rd l x1.toNat).s (rd l x2.toNat).s (CH (rd l x2.toNat))) (d:Int) (rd (CE (B5 (d:Int)) (rd l x1.toNat).s) i)).map (Cc (d:Int) (B5 (d:Int)) (rd (CE (B5 (d:Int)) (rd l x1.toNat).s) i))++Kj (Kh (rd l x1.toNat).s (rd l x2.toNat).s (CH (rd l x2.toNat))) (d:Int) ((CE (B5 (d:Int)) (rd l x1.toNat).s).drop (i+1)):=rfl;rw [eE,eM];have eS:=O2 l x1 x2 hx hS hy hT d hd6 i hi out;rcases Zs ((D1 (rd l x1.toNat).s (rd l x2.toNat).s (CH (rd l x2.toNat))) (d:Int) (rd (CE (B5 (d:Int)) (rd l x1.toNat).s) i) != 0) with z | z
  .rw [z,Ab];refine ⟨fun e=>(by grind),fun _=>⟨1,fun N=> ?_⟩⟩
   grind [Zx,Zp]
  .rw [z,Aa];have hm:((Kh (rd l x1.toNat).s (rd l x2.toNat).s (CH (rd l x2.toNat))) (d:Int) (rd (CE (B5 (d:Int)) (rd l x1.toNat).s) i)).length <=400:=x4q _ _ _;obtain ⟨n2,h2⟩:=j0w l x1 x2 hx hS hy hT (d:Int) (Sn hd6) (rd (CE (B5 (d:Int)) (rd l x1.toNat).s) i) ((Kh (rd l x1.toNat).s (rd l x2.toNat).s (CH (rd l x2.toNat))) (d:Int) (rd (CE (B5 (d:Int)) (rd l x1.toNat).s) i)) hm (CE (B5 (d:Int)) (rd l x1.toNat).s).length ((CE (B5 (d:Int)) (rd l x1.toNat).s).length :Int) (i:Int) (Wk (Xm (Kq (B5 (d:Int)) (rd l x1.toNat).s))) ((Kh (rd l x1.toNat).s (rd l x2.toNat).s (CH (rd l x2.toNat))) (d:Int) (rd (CE (B5 (d:Int)) (rd l x1.toNat).s) i)).length 0 out (Af _) (by omega);rw [AS] at h2;obtain ⟨a1,a2⟩:=j0x d hd6 k (i+1) (out++((Kh (rd l x1.toNat).s (rd l x2.toNat).s (CH (rd l x2.toNat))) (d:Int) (rd (CE (B5 (d:Int)) (rd l x1.toNat).s) i)).map (Cc (d:Int) (B5 (d:Int)) (rd (CE (B5 (d:Int)) (rd l x1.toNat).s) i))) (by omega) (by grind);have ew:wrap .i64 ((i:Int)+1)=((i+1:Nat):Int):=by grind [Zj]
   have st: ∀N,Zo (Vy l x1 x2) (N+n2+1) (.to (.h2 (CE (B5 (d:Int)) (rd l x1.toNat).s).length ((CE (B5 (d:Int)) (rd l x1.toNat).s).length :Int) (i:Int) (d:Int) out (d:Int) (B5 (d:Int)) (Wk (Xm (Kq (B5 (d:Int)) (rd l x1.toNat).s)))))=Zo (Vy l x1 x2) N (.to (.h2 (CE (B5 (d:Int)) (rd l x1.toNat).s).length ((CE (B5 (d:Int)) (rd l x1.toNat).s).length :Int) ((i+1:Nat):Int) (d:Int) (out++((Kh (rd l x1.toNat).s (rd l x2.toNat).s (CH (rd l x2.toNat))) (d:Int) (rd (CE (B5 (d:Int)) (rd l x1.toNat).s) i)).map (Cc (d:Int) (B5 (d:Int)) (rd (CE (B5 (d:Int)) (rd l x1.toNat).s) i))) (d:Int) (B5 (d:Int)) (Wk (Xm (Kq (B5 (d:Int)) (rd l x1.toNat).s))))):=fun N=>by
    grind [Zx]
   refine ⟨fun e=> ?_,fun e=> ?_⟩
   .obtain ⟨n,hn⟩:=a1 e;refine ⟨n+n2+1,fun N=> ?_⟩
    grind
   .obtain ⟨n,hn⟩:=a2 e;refine ⟨n+n2+1,fun N=> ?_⟩;rw [<-hn N,<-st (N+n),AD N,AD N,AD n]
theorem j0z : ∀(k d:Nat) (out:List R7),d+k=6->out.length<=400000*d->
  ∃n,Zo (Vy l x1 x2) n (.to (.h0 (d:Int) out))=.ret (Cy (bif E9 (D1 (rd l x1.toNat).s (rd l x2.toNat).s (CH (rd l x2.toNat))) (rd l x1.toNat).s k d != 0 then E9 (D1 (rd l x1.toNat).s (rd l x2.toNat).s (CH (rd l x2.toNat))) (rd l x1.toNat).s k d else bif decide (((out++DB (Kh (rd l x1.toNat).s (rd l x2.toNat).s (CH (rd l x2.toNat))) (rd l x1.toNat).s k d).length :Int)>3000) then 4 else 0) (out++DB (Kh (rd l x1.toNat).s (rd l x2.toNat).s (CH (rd l x2.toNat))) (rd l x1.toNat).s k d))
 | 0,d,out,h,h'=>by refine ⟨1,?_⟩;rw [Zx,show DB (Kh (rd l x1.toNat).s (rd l x2.toNat).s (CH (rd l x2.toNat))) (rd l x1.toNat).s 0 d=[] from rfl,AE];simp (disch:=omega) only [Vy,Yh,Aa];show Zo (Vy l x1 x2) 0 _=.ret (Cy (bif decide ((out.length:Int)>3000) then 4 else 0) out);cases decide ((out.length:Int)>3000) <;> rfl
 | k+1,d,out,h,h'=>by
  have hp:=SY (B5 (d:Int)) (rd l x1.toNat).s;obtain ⟨n1,h1⟩:=j0y l x1 x2 hx hS hy hT (d:Int) (Sn (show d<6 by omega)) out (rd l x1.toNat).s.length 0 [] (Af _) rfl;obtain ⟨a1,a2⟩:=j0x l x1 x2 hx hS hy hT d (by omega) (CE (B5 (d:Int)) (rd l x1.toNat).s).length 0 out (Af _) (by omega);rw [AS] at a1 a2;have e0:Vy l x1 x2 (.h0 (d:Int) out)=.to (.h1 [] ((0:Nat):Int) (d:Int) (B5 (d:Int)) (B5 (d:Int)) out (d:Int) (B5 (d:Int))):=by simp (disch:=omega) only [Vy,Yy,Ab];rfl
  have eE:E9 (D1 (rd l x1.toNat).s (rd l x2.toNat).s (CH (rd l x2.toNat))) (rd l x1.toNat).s (k+1) d=bif DE ((D1 (rd l x1.toNat).s (rd l x2.toNat).s (CH (rd l x2.toNat))) (d:Int)) (CE (B5 (d:Int)) (rd l x1.toNat).s) != 0 then DE ((D1 (rd l x1.toNat).s (rd l x2.toNat).s (CH (rd l x2.toNat))) (d:Int)) (CE (B5 (d:Int)) (rd l x1.toNat).s) else E9 (D1 (rd l x1.toNat).s (rd l x2.toNat).s (CH (rd l x2.toNat))) (rd l x1.toNat).s k (d+1):=rfl;have eN:DB (Kh (rd l x1.toNat).s (rd l x2.toNat).s (CH (rd l x2.toNat))) (rd l x1.toNat).s (k+1) d=Kj (Kh (rd l x1.toNat).s (rd l x2.toNat).s (CH (rd l x2.toNat))) (d:Int) (CE (B5 (d:Int)) (rd l x1.toNat).s)++DB (Kh (rd l x1.toNat).s (rd l x2.toNat).s (CH (rd l x2.toNat))) (rd l x1.toNat).s k (d+1):=rfl;rw [eE,eN];rcases Zs (DE ((D1 (rd l x1.toNat).s (rd l x2.toNat).s (CH (rd l x2.toNat))) (d:Int)) (CE (B5 (d:Int)) (rd l x1.toNat).s) != 0) with z | z
  .obtain ⟨n2,h2⟩:=a2 z;refine ⟨0+n2+n1+1,?_⟩;rw [Zx,e0,h1 (0+n2),z,Ab,Uv _ (by grind),z,Ab];exact h2 0
  .obtain ⟨n2,h2⟩:=a1 (by simpa using z);have hl:=z8x (M:=(Kh (rd l x1.toNat).s (rd l x2.toNat).s (CH (rd l x2.toNat)))) (fun _ _=>x4q _ _ _) (d:Int) (CE (B5 (d:Int)) (rd l x1.toNat).s);obtain ⟨n3,h3⟩:=j0z k (d+1) (out++Kj (Kh (rd l x1.toNat).s (rd l x2.toNat).s (CH (rd l x2.toNat))) (d:Int) (CE (B5 (d:Int)) (rd l x1.toNat).s)) (by omega) (by grind);refine ⟨n3+n2+n1+1,?_⟩
   grind [Zx]
end
def Gq (l:List Pa) (x:Int):List R7:=DB (Qd (rd l x.toNat).s (Yv l)) (rd l x.toNat).s 6 0
def Kg (l:List Pa) (x:Int):Int:=bif Qe l != 0 then Qe l else bif decide (x<0)||decide (x>=(l.length:Int)) then 2 else bif Kt l != 0 then Kt l else Ei (DG (rd l x.toNat).s (Yv l)) (Qd (rd l x.toNat).s (Yv l)) (rd l x.toNat).s
def Xe (l:List Pa) (x:Int):List R7:=D8 (Kg l x) (Gq l x)
def ST (l:List Pa) (_:Int):Bool:=smP l
theorem j8m (l:List Pa) (x:Int) (h:ST l x=true): ∃n,Zo (Vw l x) n (ZJ l x)=.ret (Cy (Kg l x) (Gq l x)):=by
 have h:smP l=true:=h;have o2:Jl l=true:=Al (NY h);unfold ZJ Kg;simp only [Zd,show J7 l=true from h,o2,Ab];rcases Zs (Qe l != 0) with q | q
 .exact ⟨0,by rw [q,Ab,Ab,Uv _ q];rfl⟩
 by_cases g1:x<0
 .exact ⟨0,by rw [q,Al g1];rfl⟩
 by_cases g2:x>=(l.length:Int)
 .exact ⟨0,by rw [q,Av g1,Al g2];rfl⟩
 rcases Zs (Kt l != 0) with q2 | q2
 .exact ⟨0,by rw [q,Av g1,Av g2,q2];simp only [Ab,Aa,Bool.or_false];rw [Uv _ q2];rfl⟩
 have hx:0<=x/\x<(l.length:Int):=by omega
 obtain ⟨n,hn⟩:=j2f l x hx (UB (by simpa using q) (show Int.toNat x<l.length by omega)).2 6 0 [] rfl (AA _)
 grind [Ei,Gq]
def QJ :List B2->Option (B2×Bool)
 | [a0,.int .i64 x1]=>match CS Pa a0 with
  | some (L0,g0,n0)=>some (.tup [.dat (Xe L0 x1).length (Zz (Xe L0 x1)),.int .i64 (Kg L0 x1)],CO Pa n0 g0&&(ST L0 x1))
  | _=>none
 | _=>none
theorem t2y {S:B4} (hS:Zv prog S):Zv prog (S.with M0 QJ):=by
 refine Em hS (by kernel_rfl) fun args v h=> ?_;unfold QJ at h;split at h
 .rename_i a0 x1;split at h
  .rename_i L0 g0 n0 e0;simp only [Ad,Ac,Ae] at h;obtain ⟨rfl,ho0,hw⟩:=h;obtain ⟨N,hN⟩:=j8m L0 x1 hw;exact ⟨_,_,(.cons (Yn e0 ho0) (.cons (.refl _) .nil)),H7 _ _,u5d L0 x1 N _ hN,3,JU _ _⟩
  .cases h
 .cases h
def O3 (l:List Pa) (x y:Int):List R7:=DB (Kh (rd l x.toNat).s (rd l y.toNat).s (CH (rd l y.toNat))) (rd l x.toNat).s 6 0
def EX (l:List Pa) (x y:Int):Int:=bif Qe l != 0 then Qe l else bif decide (x<0)||(decide (x>=(l.length:Int))||(decide (y<0)||(decide (y>=(l.length:Int))||(x == y)))) then 2 else Ei (D1 (rd l x.toNat).s (rd l y.toNat).s (CH (rd l y.toNat))) (Kh (rd l x.toNat).s (rd l y.toNat).s (CH (rd l y.toNat))) (rd l x.toNat).s
def Wd (l:List Pa) (x y:Int):List R7:=D8 (EX l x y) (O3 l x y)
def SV (l:List Pa) (_ _:Int):Bool:=smP l
theorem j7o (l:List Pa) (x y:Int) (h:SV l x y=true): ∃n,Zo (Vy l x y) n (ZP l x y)=.ret (Cy (EX l x y) (O3 l x y)):=by
 have h:smP l=true:=h;unfold ZP EX;simp only [Zd,show J7 l=true from h,Ab];rcases Zs (Qe l != 0) with q | q
 .exact ⟨0,by rw [q,Ab,Ab,Uv _ q];rfl⟩
 by_cases g1:x<0
 .exact ⟨0,by rw [q,Al g1];rfl⟩
 by_cases g2:x>=(l.length:Int)
 .exact ⟨0,by rw [q,Av g1,Al g2];rfl⟩
 by_cases g3:y<0
 .exact ⟨0,by rw [q,Av g1,Av g2,Al g3];rfl⟩
 by_cases g4:y>=(l.length:Int)
 .exact ⟨0,by rw [q,Av g1,Av g2,Av g3,Al g4];rfl⟩
 rcases Zs (x == y) with q2 | q2
 .exact ⟨0,by rw [q,Av g1,Av g2,Av g3,Av g4,q2];rfl⟩
 have hx:0<=x/\x<(l.length:Int):=by omega
 have hy:0<=y/\y<(l.length:Int):=by omega
 obtain ⟨n,hn⟩:=j0z l x y hx (UB (by simpa using q) (show Int.toNat x<l.length by omega)).2 hy (UB (by simpa using q) (show Int.toNat y<l.length by omega)).2 6 0 [] rfl (AA _)
 grind [Ei,O3]
def QD :List B2->Option (B2×Bool)
 | [a0,.int .i64 x1,.int .i64 x2]=>match CS Pa a0 with
  | some (L0,g0,n0)=>some (.tup [.dat (Wd L0 x1 x2).length (Zz (Wd L0 x1 x2)),.int .i64 (EX L0 x1 x2)],CO Pa n0 g0&&(SV L0 x1 x2))
  | _=>none
 | _=>none
theorem t2s {S:B4} (hS:Zv prog S):Zv prog (S.with MY QD):=by
 refine Em hS (by kernel_rfl) fun args v h=> ?_;unfold QD at h;split at h
 .rename_i a0 x1 x2;split at h
  .rename_i L0 g0 n0 e0;simp only [Ad,Ac,Ae] at h;obtain ⟨rfl,ho0,hw⟩:=h;obtain ⟨N,hN⟩:=j7o L0 x1 x2 hw;exact ⟨_,_,(.cons (Yn e0 ho0) (.cons (.refl _) (.cons (.refl _) .nil))),H7 _ _,u4h L0 x1 x2 N _ hN,3,JU _ _⟩
  .cases h
 .cases h
def Vg0 :B4:=((Vc.with M0 QJ).with MY QD)
theorem UP :Zv prog Vg0:=(t2s (t2y Xq))
inductive IE where
 | h0 (v4:List R7) (v5:Int)
def Od (l0:List Pa):IE->CB
 | .h0 v4 v5=>⟨⟨26,0,true⟩,none,(Zg prog 34 [1,1,0,1,0,0] 0),none,(Zy prog 14),⟨Yj [(0,(.dat l0.length (Zz l0))),(4,(.sla 0 7 0 v4.length (.un 7))),(5,(ii v5))],Vk [⟨Ya v4.length (Zz v4),96,some ⟨7,v4.length,(Zz v4)⟩⟩] 0,1,[],true⟩,[],.leaf⟩
def LP :List (Option (List Nat)):=[some [0,4,5]]
def LQ :List (Option (List Nat)):=[]
def UC (l0:List Pa):IE->Xz IE
 | .h0 v4 v5=>(bif (decide (v5<(l0.length:Int))) then (bif (ST (B3 l0) v5) then (bif ((Kg (B3 l0) v5) != 0) then (.ret [.nils,(.bool false)]) else (bif (decide ((v4.length+(Xe (B3 l0) v5).length +1)*(56+1)<=CF)) then (bif (Nat.beq 7 7&&(Nat.beq 7 7&&decide (0+v4.length<=v4.length))) then (.to (.h0 (v4++(Xe (B3 l0) v5)) (wrap .i64 (v5+1)))) else .stuck) else .stuck)) else .stuck) else (.ret [(.dat v4.length (Zz v4)),(.bool true)]))
def w7c (l0:List Pa):Xz IE:=(.to (.h0 ([]:List R7) 0))
theorem v0z (l0:List Pa): ∀s,Xw prog (Zy prog 34) (Od l0) (Od l0 s) (UC l0 s)
 | .h0 v4 v5=>(lb (fun k0=>(lo fun aE=>let c:=pp (pp (xr l0) (xw aE)) (tt k0 nn);(lb (fun k1=>(lr 26 34 [1,1,0,1,0,0,1,0,0,1,0,1,0,0] 1 14 [(2,.nils),(3,(.bool false))] (sl UP 35 [] (a8 [2,3]) a6 (bl 2 3) (tt k1 c)))) (fun k1=>(lo fun o0=>(lo fun o1=>let a:=xL (v4.length+(Xe (B3 l0) v5).length) (v4++(Xe (B3 l0) v5)).length;let b:=v4++(Xe (B3 l0) v5);(sl UP 44 [] ⟨[1],[],LP,LQ⟩ ⟨[(4,.len b.length)],[.rowed 7 b.length (Zz b)],[]⟩ (bl 2 1) (pp a (pp a (pp (xS (v4.length+(Xe (B3 l0) v5).length) (Jw (fun k=>(Zz v4) (0+k)) v4.length (Zz (Xe (B3 l0) v5))) (Zz (v4++(Xe (B3 l0) v5)))) (pp (pp (xF (Jw (fun k=>(Zz v4) (0+k)) v4.length (Zz (Xe (B3 l0) v5)))) nn) (pp (pp (xw o1) (pp (xG (G8 7 (Xe (B3 l0) v5).length (Zz (Xe (B3 l0) v5)))) (xw o0))) (tt k1 c))))))))))))) (fun k0=>(lr 26 3 [1,1,1,1,0] 1 14 [(2,(.dat v4.length (Zz v4))),(3,(.bool true))] (sl UP 16 [] ⟨[],[0],[some [2,3]],[]⟩ ⟨[(2,.frz v4.length v4.length (Zz v4) (Zz v4))],[],[]⟩ [false] (pp (xZ (Cm 7 7 0 v4.length v4.length (Zz v4)) v4.length (Zz v4)) (pp (xL v4.length v4.length) (pp (xS v4.length (Zz v4) (Zz v4)) (pp (fl v4 nn) (tt k0 nn)))))))))
theorem w0t (l0:List Pa):Xw prog (Zy prog 34) (Od l0) (Zm prog 34 [(.dat l0.length (Zz l0))] true []) (w7c l0):=(sl UP 16 [(96,7,Zz ([]:List R7))] ⟨[0],[],LP,LQ⟩ ⟨[(4,.grow 0 7)],[],[]⟩ [] (pp (fl ([]:List R7) nn) nn))
theorem u5b (l0:List Pa) (n:Nat) (vs:List B2) (h:Zo (UC l0) n (w7c l0)=.ret vs):Uj prog (Zy prog 34) (Zm prog 34 [(.dat l0.length (Zz l0))] true []) vs:=by have:=Zb (v0z l0) n _ (w0t l0);rwa [h] at this
def CY (X:List R6) (x y z:Int):Prop:= ∃r∈X,(r.a<=x/\x<r.d)/\(r.b<=y/\y<r.e)/\(r.c<=z/\z<r.f)
theorem Jr (X:List R6) (x y z:Int):CY X x y z↔CI C5.inB X (z,x,y):=by
 constructor
 .rintro ⟨r,hr,h1,h2,h3⟩;exact ⟨r,hr,h3.1,h3.2,h1.1,h1.2,h2.1,h2.2⟩
 .rintro ⟨r,hr,h1,h2,h3,h4,h5,h6⟩;exact ⟨r,hr,⟨h3,h4⟩,⟨h5,h6⟩,h1,h2⟩
namespace CJ
variable {α β:Type} {D:CJ α β}
theorem t2e (hD:D.Fair) (s:List β) (a b x:Int):D.inn (s.map (D.put a b)) x=if a<=x/\x<b then s else []:=by
 unfold inn;have e:(s.map (D.put a b)).filter (fun r=>decide (D.lo r<=x)&&decide (x<D.hi r))=if a<=x/\x<b then s.map (D.put a b) else []:=by
  split
  .rename_i h;refine List.filter_eq_self.2 fun r hr=> ?_;obtain ⟨c,_,rfl⟩:=AO.1 hr;rw [hD.lo_put,hD.hi_put,Al h.1,Al h.2];rfl
  .rename_i h;refine List.filter_eq_nil_iff.2 fun r hr hq=>h ?_;obtain ⟨c,_,rfl⟩:=AO.1 hr;rw [hD.lo_put,hD.hi_put,Ae] at hq
   grind
 rw [e];split
 .rw [List.map_map];exact (BR fun c _=>hD.pr_put a b c).trans (List.map_id _)
 .rfl
theorem inn_can (hD:D.Fair) {γ:Type} (M:Sem β γ) (x:Int): ∀G:List (CU β),C6 M G->M.can (D.inn (D.flat G) x)
 | [],_=>M.nil
 | g::r,h=>by
  rw [show D.flat (g::r)=g.s.map (D.put g.a g.b)++D.flat r from rfl,D.inn_append,t2e hD];split
  .rename_i hx;have e:D.inn (D.flat r) x=[]:=by unfold inn;rw [List.map_eq_nil_iff,List.filter_eq_nil_iff];intro a ha hq;obtain ⟨k,hk,ha⟩:=AK.1 ha;obtain ⟨c,_,rfl⟩:=AO.1 ha;rw [hD.lo_put,Ae] at hq;have h1:=Az hq.1;have:=h.later k hk;omega
   rw [e,AE];exact h.head.2.1
  .rw [Bc];exact inn_can hD M x r h.tail
end CJ
theorem SL {L:List R6} (hl:L.length<=400) (hv: ∀r∈L,Qv r=true) (hc:C5.can L):Zf L=0:=by
 have hi: ∀z,D4.out (D6.inn L z)=D6.inn L z:=fun z=>by obtain ⟨h1,h2⟩:=Ko (NG hv z) (AF (D6.inn_length L z) hl);obtain ⟨G,hG,e⟩:=hc;exact Xr.uniq _ _ h1 (by grind [CJ.inn_can,HE]) h2
 have hs:W4 L:=fun z=>by rw [hi z];exact AF (D6.inn_length L z) hl
 obtain ⟨h1,h2⟩:=j7y hv hl hs;have e:=C5.uniq _ _ h1 hc h2;have ok: ∀k i,Ct L k i=true:=fun k=>by
  induction k with
  | zero=>intro i;rfl
  | succ k ih=>
   intro i;show (bif Xk (D6.inn L (rd (D6.cuts L) i)) != 0 then false else Ct L k (i+1))=true;rw [(Qk (NG hv _) (AF (D6.inn_length L _) hl) (hs _)).2]
   grind
 grind [Zf,E6]
theorem w5u {L:List R6} (hc:C5.can L) (hb: ∀x y z,CY L x y z->(-1000000<=x/\x<1000000)/\(-1000000<=y/\y<1000000)/\(-1000000<=z/\z<1000000)): ∀r∈L,Qv r=true:=fun r hr=>by
 have hp:r.a<r.d/\r.b<r.e/\r.c<r.f:=by obtain ⟨G,hG,e⟩:=hc;rw [e] at hr;obtain ⟨g,hg,hr⟩:=AK.1 hr;obtain ⟨b,hb,rfl⟩:=AO.1 hr;obtain ⟨h1,⟨H,hH,e2⟩,_⟩:=hG.all g hg;rw [e2] at hb;obtain ⟨k,hk,hb⟩:=AK.1 hb;obtain ⟨c,hc,rfl⟩:=AO.1 hb;obtain ⟨h2,h3,_⟩:=hH.all k hk;exact ⟨h2,Co.pos h3 c hc,h1⟩
 have h1:=hb r.a r.b r.c ⟨r,hr,by omega,by omega,by omega⟩;have h2:=hb (r.d - 1) (r.e - 1) (r.f - 1) ⟨r,hr,by omega,by omega,by omega⟩
 grind [U7,Ej]
open Go.Proofs.Tryz
open Go.Proofs
inductive Ik where
def Pb (aI:Int) (aL:Int) (aM:Int) (aS:Int) (aV:Int) (aU:Int) (aP:Int) (aQ:Int) (aR:Int) (bJ:Int) (bK:Int) (bL:Int):Ik->CB
 :=nofun
def w3p (aI:Int) (aL:Int) (aM:Int) (aS:Int) (aV:Int) (aU:Int) (aP:Int) (aQ:Int) (aR:Int) (bJ:Int) (bK:Int) (bL:Int):Ik->Xz Ik
 :=nofun
def YR (aI:Int) (aL:Int) (aM:Int) (aS:Int) (aV:Int) (aU:Int) (aP:Int) (aQ:Int) (aR:Int) (bJ:Int) (bK:Int) (bL:Int):Xz Ik:=(bif ((wrap .i64 ((Wt aS bJ) - (Wf aI aP))) == 0) then (bif (decide ((wrap .i64 ((Wt aV bK) - (Wf aL aQ)))>0)) then (bif (decide ((wrap .i64 ((Wt aU bL) - (Wf aM aR)))>0)) then (.ret [(.int .i64 (wrap .i64 ((wrap .i64 ((Wt aV bK) - (Wf aL aQ)))*(wrap .i64 ((Wt aU bL) - (Wf aM aR))))))]) else (bif (decide ((wrap .i64 ((Wt aS bJ) - (Wf aI aP)))>0)) then (bif ((wrap .i64 ((Wt aV bK) - (Wf aL aQ))) == 0) then (bif ((wrap .i64 ((Wt aU bL) - (Wf aM aR))) == 0) then (.ret [(.int .i64 (wrap .i64 ((wrap .i64 ((Wt aS bJ) - (Wf aI aP)))*(wrap .i64 ((Wt aV bK) - (Wf aL aQ))))))]) else (.ret [(.int .i64 0)])) else (bif ((wrap .i64 ((Wt aU bL) - (Wf aM aR))) == 0) then (.ret [(.int .i64 (wrap .i64 ((wrap .i64 ((Wt aS bJ) - (Wf aI aP)))*(wrap .i64 ((Wt aV bK) - (Wf aL aQ))))))]) else (.ret [(.int .i64 0)]))) else (.ret [(.int .i64 0)]))) else (bif (decide ((wrap .i64 ((Wt aS bJ) - (Wf aI aP)))>0)) then (bif ((wrap .i64 ((Wt aV bK) - (Wf aL aQ))) == 0) then (bif (decide ((wrap .i64 ((Wt aU bL) - (Wf aM aR)))>0)) then (.ret [(.int .i64 (wrap .i64 ((wrap .i64 ((Wt aS bJ) - (Wf aI aP)))*(wrap .i64 ((Wt aU bL) - (Wf aM aR))))))]) else (.ret [(.int .i64 0)])) else (.ret [(.int .i64 0)])) else (.ret [(.int .i64 0)]))) else (bif (decide ((wrap .i64 ((Wt aS bJ) - (Wf aI aP)))>0)) then (bif ((wrap .i64 ((Wt aV bK) - (Wf aL aQ))) == 0) then (bif (decide ((wrap .i64 ((Wt aU bL) - (Wf aM aR)))>0)) then (.ret [(.int .i64 (wrap .i64 ((wrap .i64 ((Wt aS bJ) - (Wf aI aP)))*(wrap .i64 ((Wt aU bL) - (Wf aM aR))))))]) else (bif (decide ((wrap .i64 ((Wt aV bK) - (Wf aL aQ)))>0)) then (bif ((wrap .i64 ((Wt aU bL) - (Wf aM aR))) == 0) then (.ret [(.int .i64 (wrap .i64 ((wrap .i64 ((Wt aS bJ) - (Wf aI aP)))*(wrap .i64 ((Wt aV bK) - (Wf aL aQ))))))]) else (.ret [(.int .i64 0)])) else (.ret [(.int .i64 0)]))) else (bif (decide ((wrap .i64 ((Wt aV bK) - (Wf aL aQ)))>0)) then (bif ((wrap .i64 ((Wt aU bL) - (Wf aM aR))) == 0) then (.ret [(.int .i64 (wrap .i64 ((wrap .i64 ((Wt aS bJ) - (Wf aI aP)))*(wrap .i64 ((Wt aV bK) - (Wf aL aQ))))))]) else (.ret [(.int .i64 0)])) else (.ret [(.int .i64 0)]))) else (.ret [(.int .i64 0)])))
theorem v3i (aI:Int) (aL:Int) (aM:Int) (aS:Int) (aV:Int) (aU:Int) (aP:Int) (aQ:Int) (aR:Int) (bJ:Int) (bK:Int) (bL:Int): ∀s,Xw prog (Zy prog 68) (Pb aI aL aM aS aV aU aP aQ aR bJ bK bL) (Pb aI aL aM aS aV aU aP aQ aR bJ bK bL s) (w3p aI aL aM aS aV aU aP aQ aR bJ bK bL s)
 :=nofun
theorem w3q (aI:Int) (aL:Int) (aM:Int) (aS:Int) (aV:Int) (aU:Int) (aP:Int) (aQ:Int) (aR:Int) (bJ:Int) (bK:Int) (bL:Int):Xw prog (Zy prog 68) (Pb aI aL aM aS aV aU aP aQ aR bJ bK bL) (Zm prog 68 [(.agg [(.int .i64 aI),(.int .i64 aL),(.int .i64 aM),(.int .i64 aS),(.int .i64 aV),(.int .i64 aU)]),(.agg [(.int .i64 aP),(.int .i64 aQ),(.int .i64 aR),(.int .i64 bJ),(.int .i64 bK),(.int .i64 bL)])] true []) (YR aI aL aM aS aV aU aP aQ aR bJ bK bL):=let j:=wr ((Wt aS bJ) - (Wf aI aP));let l:=wr ((Wt aV bK) - (Wf aL aQ));let a:=ii (wr (j*l));let m:=wr ((Wt aU bL) - (Wf aM aR));let d:=ii (wr (j*m));(lb (fun k0=>(lb (fun k1=>let n:=tt k1 (tt k0 nn);(lb (fun k2=>(lr 95 68 [1,1,1,1,0,0,1,0,0] 1 6 [(4,(ii (wr (l*m))))] (sl Vp 87 [] (a8 [4]) a6 (CA 5 []) (tt k2 n)))) (fun k2=>let b:=tt k2 n;(lb (fun k3=>(lb (fun k4=>let g:=tt k1 (tt k3 (tt k2 (tt k4 (tt k3 b))));(lb (fun k5=>(lr 95 68 [1,1,1,1,0,0,1,0,0] 1 6 [(4,a)] (sl Vp 117 [] (a8 [4]) a6 (CA 4 (bl 11 2014)) (tt k5 g)))) (fun k5=>(lr 95 3 [1,1,1,1,0] 1 6 [(4,(ii 0))] (sl Vp 116 [] (a8 [4]) a6 (CA 4 (bl 11 990)) (tt k5 g)))))) (fun k4=>let h:=tt k1 (tt k3 (tt k4 (tt k3 b)));(lb (fun k5=>(lr 95 68 [1,1,1,1,0,0,1,0,0] 1 6 [(4,a)] (sl Vp 117 [] (a8 [4]) a6 (CA 4 (bl 11 1990)) (tt k5 h)))) (fun k5=>(lr 95 3 [1,1,1,1,0] 1 6 [(4,(ii 0))] (sl Vp 116 [] (a8 [4]) a6 (CA 4 (bl 11 966)) (tt k5 h)))))))) (fun k3=>(lr 95 3 [1,1,1,1,0] 1 6 [(4,(ii 0))] (sl Vp 116 [] (a8 [4]) a6 (CA 4 (bl 11 0)) (tt k3 (tt k3 b))))))))) (fun k1=>let e:=tt k1 (tt k0 nn);(lb (fun k2=>(lb (fun k3=>let o:=tt k3 (tt k2 e);(lb (fun k4=>(lr 95 68 [1,1,1,1,0,0,1,0,0] 1 6 [(4,d)] (sl Vp 102 [] (a8 [4]) a6 (bl 10 995) (tt k4 o)))) (fun k4=>(lr 95 3 [1,1,1,1,0] 1 6 [(4,(ii 0))] (sl Vp 116 [] (a8 [4]) a6 (bl 15 3555) (tt k1 (tt k2 (tt k4 o)))))))) (fun k3=>(lr 95 3 [1,1,1,1,0] 1 6 [(4,(ii 0))] (sl Vp 116 [] (a8 [4]) a6 (bl 15 3171) (tt k1 (tt k2 (tt k3 (tt k2 e))))))))) (fun k2=>(lr 95 3 [1,1,1,1,0] 1 6 [(4,(ii 0))] (sl Vp 116 [] (a8 [4]) a6 (bl 15 3) (tt k2 (tt k2 e))))))))) (fun k0=>(lb (fun k1=>let c:=tt k1 (tt k0 nn);(lb (fun k2=>(lb (fun k3=>(lr 95 68 [1,1,1,1,0,0,1,0,0] 1 6 [(4,d)] (sl Vp 102 [] (a8 [4]) a6 (bl 10 992) (tt k3 (tt k2 c))))) (fun k3=>let f:=tt k1 (tt k3 (tt k2 c));(lb (fun k4=>(lb (fun k5=>(lr 95 68 [1,1,1,1,0,0,1,0,0] 1 6 [(4,a)] (sl Vp 117 [] (a8 [4]) a6 (bl 15 32224) (tt k5 (tt k4 f))))) (fun k5=>(lr 95 3 [1,1,1,1,0] 1 6 [(4,(ii 0))] (sl Vp 116 [] (a8 [4]) a6 (bl 15 15840) (tt k5 (tt k4 f))))))) (fun k4=>(lr 95 3 [1,1,1,1,0] 1 6 [(4,(ii 0))] (sl Vp 116 [] (a8 [4]) a6 (bl 15 3552) (tt k4 f)))))))) (fun k2=>let i:=tt k1 (tt k2 c);(lb (fun k3=>(lb (fun k4=>(lr 95 68 [1,1,1,1,0,0,1,0,0] 1 6 [(4,a)] (sl Vp 117 [] (a8 [4]) a6 (bl 15 31840) (tt k4 (tt k3 i))))) (fun k4=>(lr 95 3 [1,1,1,1,0] 1 6 [(4,(ii 0))] (sl Vp 116 [] (a8 [4]) a6 (bl 15 15456) (tt k4 (tt k3 i))))))) (fun k3=>(lr 95 3 [1,1,1,1,0] 1 6 [(4,(ii 0))] (sl Vp 116 [] (a8 [4]) a6 (bl 15 3168) (tt k3 i)))))))) (fun k1=>(lr 95 3 [1,1,1,1,0] 1 6 [(4,(ii 0))] (sl Vp 116 [] (a8 [4]) a6 (bl 15 0) (tt k1 (tt k1 (tt k0 nn)))))))))
theorem u8o (aI:Int) (aL:Int) (aM:Int) (aS:Int) (aV:Int) (aU:Int) (aP:Int) (aQ:Int) (aR:Int) (bJ:Int) (bK:Int) (bL:Int) (n:Nat) (vs:List B2) (h:Zo (w3p aI aL aM aS aV aU aP aQ aR bJ bK bL) n (YR aI aL aM aS aV aU aP aQ aR bJ bK bL)=.ret vs):Uj prog (Zy prog 68) (Zm prog 68 [(.agg [(.int .i64 aI),(.int .i64 aL),(.int .i64 aM),(.int .i64 aS),(.int .i64 aV),(.int .i64 aU)]),(.agg [(.int .i64 aP),(.int .i64 aQ),(.int .i64 aR),(.int .i64 bJ),(.int .i64 bK),(.int .i64 bL)])] true []) vs:=by have:=Zb (v3i aI aL aM aS aV aU aP aQ aR bJ bK bL) n _ (w3q aI aL aM aS aV aU aP aQ aR bJ bK bL);rwa [h] at this
open Go.Sort Go.Shelf Go.RowKit Go.Lib
def kX (a d a' d':Int):Int:=wrap .i64 (Wt d d' - Wf a a')
def kT (x y z:Int):Int:=bif x == 0&&(decide (y>0)&&decide (z>0)) then wrap .i64 (y*z) else bif decide (x>0)&&(y == 0&&decide (z>0)) then wrap .i64 (x*z) else bif decide (x>0)&&(decide (y>0)&&z == 0) then wrap .i64 (x*y) else 0
def Fv (a b c d e f a' b' c' d' e' f':Int):Int:=kT (kX a d a' d') (kX b e b' e') (kX c f c' f')
theorem Fi (t:Int):((t == 0)=true/\decide (t>0)=false)\/((t == 0)=false/\decide (t>0)=true)\/((t == 0)=false/\decide (t>0)=false):=by
 rcases Int.lt_trichotomy t 0 with h | h | h
 .exact .inr (.inr ⟨j6o (by omega),Av (by omega)⟩)
 .exact .inl ⟨beq_t' h,Av (by omega)⟩
 .exact .inr (.inl ⟨j6o (by omega),Al (by omega)⟩)
theorem t1x (a b c d e f a' b' c' d' e' f':Int): ∃N,Zo (w3p a b c d e f a' b' c' d' e' f') N (YR a b c d e f a' b' c' d' e' f')=.ret [.int .i64 (Fv a b c d e f a' b' c' d' e' f')]:=⟨0,by
 unfold YR Fv;show Zo _ 0 _=Xz.ret [.int .i64 (kT (wrap .i64 (Wt d d' - Wf a a')) (wrap .i64 (Wt e e' - Wf b b')) (wrap .i64 (Wt f f' - Wf c c')))];generalize wrap .i64 (Wt d d' - Wf a a')=x;generalize wrap .i64 (Wt e e' - Wf b b')=y;generalize wrap .i64 (Wt f f' - Wf c c')=z;unfold kT;rcases Fi x with ⟨h1,h2⟩ | ⟨h1,h2⟩ | ⟨h1,h2⟩ <;> rcases Fi y with ⟨h3,h4⟩ | ⟨h3,h4⟩ | ⟨h3,h4⟩ <;> rcases Fi z with ⟨h5,h6⟩ | ⟨h5,h6⟩ | ⟨h5,h6⟩ <;> rw [h1,h2,h3,h4,h5,h6] <;> rfl⟩
def Q4 :List B2->Option (B2×Bool)
 | [.agg [.int .i64 aI,.int .i64 aL,.int .i64 aM,.int .i64 aS,.int .i64 aV,.int .i64 aU],.agg [.int .i64 aP,.int .i64 aQ,.int .i64 aR,.int .i64 bJ,.int .i64 bK,.int .i64 bL]]=>some (.int .i64 (Fv aI aL aM aS aV aU aP aQ aR bJ bK bL),true)
 | _=>none
theorem t3u {S:B4} (hS:Zv prog S):Zv prog (S.with v9y Q4):=by
 refine Qn hS (by kernel_rfl) fun args v h=> ?_;unfold Q4 at h;split at h
 .rename_i aI aL aM aS aV aU aP aQ aR bJ bK bL;simp only [Ad,Ac,Bh] at h;subst h;obtain ⟨N,hN⟩:=t1x aI aL aM aS aV aU aP aQ aR bJ bK bL;exact ⟨_,_,(.cons (.refl _) (.cons (.refl _) .nil)),rfl,u8o aI aL aM aS aV aU aP aQ aR bJ bK bL N _ hN,3,rfl⟩
 .cases h
def Ue :B4:=(Ud.with v9y Q4)
theorem TF :Zv prog Ue:=(t3u Vp)
inductive IB where
 | h0 (v5:Int) (v20:Int)
 | h1 (v5:Int) (v20:Int) (v47:List R6) (v48:Int) (v49:Int) (aC:Int) (bD:Int) (aZ:Int) (bT:Int) (cN:Int) (cO:Int)
def O9 (l0:List R6):IB->CB
 | .h0 v5 v20=>⟨⟨62,0,true⟩,none,(Zg prog 35 [1,1,1,0,1,0,0] 0),none,(Zy prog 14),⟨Yj [(0,(.dat l0.length (Zz l0))),(5,(ii v5)),(18,(.dat l0.length (Zz l0))),(19,(ii (l0.length:Int))),(20,(ii v20))],Vk [] 0,0,[],true⟩,[],.leaf⟩
 | .h1 v5 v20 v47 v48 v49 aC bD aZ bT cN cO=>⟨⟨62,0,true⟩,none,(Zg prog 35 [1,1,1,0,1,0,0,1,1,0,0,1,1,1,1,0,0] 0),none,(Zy prog 14),⟨Yj [(0,(.dat l0.length (Zz l0))),(5,(ii v5)),(7,(.ptr 0 0)),(18,(.dat l0.length (Zz l0))),(19,(ii (l0.length:Int))),(20,(ii v20)),(47,(.dat v47.length (Zz v47))),(48,(ii v48)),(49,(ii v49))],Vk [⟨[(ii aC),(ii bD),(ii aZ),(ii bT),(ii cN),(ii cO)],57,none⟩] 0,1,[],true⟩,[],.leaf⟩
def LB :List (Option (List Nat)):=[some [0,5,18,19,20]]
def LD :List (Option (List Nat)):=[]
def LA :List (Option (List Nat)):=[some [0,5,7,18,19,20,47,48,49]]
def LC :List (Option (List Nat)):=[]
def G6 (l0:List R6):IB->Xz IB
 | .h0 v5 v20=>(bif (decide (v20<(l0.length:Int))) then (bif ((decide (0<=v20/\v20<(l0.length:Int)))&&true) then (bif (decide (0<=v20.toNat)) then (bif (decide (v20.toNat<=l0.length)) then (bif (decide (0<=v20)) then (.to (.h1 (wrap .i64 (v5+(wrap .i64 (2*(wrap .i64 ((wrap .i64 ((wrap .i64 ((wrap .i64 ((rd l0 v20.toNat).d - (rd l0 v20.toNat).a))*(wrap .i64 ((rd l0 v20.toNat).e - (rd l0 v20.toNat).b))))+(wrap .i64 ((wrap .i64 ((rd l0 v20.toNat).d - (rd l0 v20.toNat).a))*(wrap .i64 ((rd l0 v20.toNat).f - (rd l0 v20.toNat).c))))))+(wrap .i64 ((wrap .i64 ((rd l0 v20.toNat).e - (rd l0 v20.toNat).b))*(wrap .i64 ((rd l0 v20.toNat).f - (rd l0 v20.toNat).c)))))))))) v20 (Wy l0 0 v20.toNat) ((v20.toNat:Nat):Int) 0 (rd l0 v20.toNat).a (rd l0 v20.toNat).b (rd l0 v20.toNat).c (rd l0 v20.toNat).d (rd l0 v20.toNat).e (rd l0 v20.toNat).f)) else .stuck) else .stuck) else .stuck) else .stuck) else (.ret [(.int .i64 v5),(.int .i64 0)]))
 | .h1 v5 v20 v47 v48 v49 aC bD aZ bT cN cO=>(bif (decide (v49<v48)) then (bif ((decide (0<=v49/\v49<(v47.length:Int)))&&true) then (.to (.h1 (wrap .i64 (v5 - (wrap .i64 (2*(Fv aC bD aZ bT cN cO (rd v47 v49.toNat).a (rd v47 v49.toNat).b (rd v47 v49.toNat).c (rd v47 v49.toNat).d (rd v47 v49.toNat).e (rd v47 v49.toNat).f))))) v20 v47 v48 (wrap .i64 (v49+1)) aC bD aZ bT cN cO)) else .stuck) else (.to (.h0 v5 (wrap .i64 (v20+1)))))
def ZM (l0:List R6):Xz IB:=(bif (We (B3 l0)) then (bif ((Zf (B3 l0)) != 0) then (.ret [(.int .i64 0),(.int .i64 (Zf (B3 l0)))]) else (.to (.h0 0 0))) else .stuck)
theorem v0w (l0:List R6): ∀s,Xw prog (Zy prog 35) (O9 l0) (O9 l0 s) (G6 l0 s)
 | .h0 v5 v20=>(lb (fun k0=>(lo fun o0=>(lo fun o1=>(lo fun o2=>(lo fun o3=>let a:=Wy l0 0 (tn v20);(sl TF 68 [] ⟨[0],[],LA,LC⟩ ⟨[(47,.list a.length (Zz a))],[],[]⟩ [true] (pp (xL (tn v20) (Wy l0 0 (tn v20)).length) (pp (xS (tn v20) (fun k=>(Zz l0) (0+k)) (Zz (Wy l0 0 (tn v20)))) (pp (pp (xw o3) (pp nn (pp (xG (decide ((tn v20)<=l0.length))) (pp (xG (decide (0<=(tn v20)))) (xG (Gu l0.length (Zz l0) 6)))))) (ww o0 (tt k0 nn))))))))))) (fun k0=>(lr 62 3 [1,1,1,1,0] 1 14 [(2,(ii v5)),(3,(ii 0))] (sl TF 13 [] (a8 [2,3]) a6 [false] (tt k0 nn)))))
 | .h1 v5 v20 v47 v48 v49 aC bD aZ bT cN cO=>(lb (fun k0=>(lo fun o0=>(sl TF 31 [] ⟨[0],[],LA,LC⟩ a6 [true] (ww o0 (tt k0 nn))))) (fun k0=>(sl TF 13 [] ⟨[],[],LB,LD⟩ a6 [false] (tt k0 nn))))
theorem w0o (l0:List R6):Xw prog (Zy prog 35) (O9 l0) (Zm prog 35 [(.dat l0.length (Zz l0))] true []) (ZM l0):=(lo fun bN=>let a:=pp (pp (xr l0) (xw bN)) nn;(lb (fun k0=>(lr 62 35 [1,0,1,1,0,0] 1 14 [(2,(ii 0)),(3,(ii (Zf (B3 l0))))] (sl TF 24 [] (a8 [2,3]) a6 [true] (tt k0 a)))) (fun k0=>(sl TF 32 [] ⟨[],[],LB,LD⟩ a6 [false] (tt k0 a)))))
theorem u4k (l0:List R6) (n:Nat) (vs:List B2) (h:Zo (G6 l0) n (ZM l0)=.ret vs):Uj prog (Zy prog 35) (Zm prog 35 [(.dat l0.length (Zz l0))] true []) vs:=by have:=Zb (v0w l0) n _ (w0o l0);rwa [h] at this
def L5 (r:R6):Int:=2*((r.d - r.a)*(r.e - r.b)+(r.d - r.a)*(r.f - r.c)+(r.e - r.b)*(r.f - r.c))
def kR (r s:R6):Int:=Fv r.a r.b r.c r.d r.e r.f s.a s.b s.c s.d s.e s.f
def rowS (l:List R6) (i:Nat):Int:=L5 (rd l i) - sm (Wy l 0 i) fun s=>2*kR (rd l i) s
def Ed (l:List R6):Nat->Int
 | 0=>0
 | k+1=>Ed l k+rowS l k
theorem j1n (l:List R6) (hl:l.length<=400) (i:Nat) (hi:i<l.length) (r:R6): ∀(k j:Nat) (S:Int),j+k=(Wy l 0 i).length ->
  ∃n,∀N,Zo (G6 l) (N+n) (.to (.h1 (wrap .i64 S) (i:Int) (Wy l 0 i) (i:Int) (j:Int) r.a r.b r.c r.d r.e r.f))=Zo (G6 l) N (.to (.h0 (wrap .i64 (S - sm ((Wy l 0 i).drop j) fun s=>2*kR r s)) ((i+1:Nat):Int)))
 | 0,j,S,h=>by refine ⟨1,fun N=> ?_⟩;have e:(Wy l 0 i).length =i:=Ts ..;rw [As (by omega),Zx,GF,Int.sub_zero];simp (disch:=omega) only [G6,Yh,Zj,Zw,Aa]
 | k+1,j,S,h=>by
  have e:(Wy l 0 i).length =i:=Ts ..;obtain ⟨n,hn⟩:=j1n l hl i hi r k (j+1) (S - 2*kR r (rd (Wy l 0 i) j)) (by omega);refine ⟨n+1,fun N=> ?_⟩;have hn:=hn N;rw [Yg (show j<(Wy l 0 i).length by omega),Wr,<-AD,Zx];have w:wrap .i64 (wrap .i64 S - wrap .i64 (2*kR r (rd (Wy l 0 i) j)))=wrap .i64 (S - 2*kR r (rd (Wy l 0 i) j)):=Cg.eq ((Cg.wrap S).sub (Cg.wrap _));have k':Fv r.a r.b r.c r.d r.e r.f (rd (Wy l 0 i) j).a (rd (Wy l 0 i) j).b (rd (Wy l 0 i) j).c (rd (Wy l 0 i) j).d (rd (Wy l 0 i) j).e (rd (Wy l 0 i) j).f =kR r (rd (Wy l 0 i) j):=rfl;have g1:decide ((j:Int)<(i:Int))=true:=Al (by omega);have g2:decide (0<=(j:Int)/\(j:Int)<(((Wy l 0 i).length :Nat):Int))=true:=Al (by omega);have w3:wrap .i64 ((j:Int)+1)=((j+1:Nat):Int):=by rw [Zj (by omega)];rfl
  simp only [G6,g1,g2,w3,Zk,k',w,Ah,Ab];rw [show S - (2*kR r (rd (Wy l 0 i) j)+sm ((Wy l 0 i).drop (j+1)) fun s=>2*kR r s)=S - 2*kR r (rd (Wy l 0 i) j) - sm ((Wy l 0 i).drop (j+1)) fun s=>2*kR r s by omega];exact hn
theorem j1o (l:List R6) (hl:l.length<=400): ∀(k i:Nat),i+k=l.length-> ∃n,Zo (G6 l) n (.to (.h0 (wrap .i64 (Ed l i)) (i:Int)))=.ret [.int .i64 (wrap .i64 (Ed l l.length)),.int .i64 0]
 | 0,i,h=>by
  refine ⟨1,?_⟩;have:i=l.length:=by omega
  subst this;rw [Zx];simp (disch:=omega) only [G6,Yh,Aa,Zp]
 | k+1,i,h=>by
  have hi:i<l.length:=by omega
  have e:(Wy l 0 i).length =i:=Ts ..;obtain ⟨n,hn⟩:=j1o l hl k (i+1) (by omega);obtain ⟨n1,h1⟩:=j1n l hl i hi (rd l i) i 0 (Ed l i+L5 (rd l i)) (by omega);refine ⟨n+n1+1,?_⟩;rw [Zx];have w:wrap .i64 (wrap .i64 (Ed l i)+wrap .i64 (2*wrap .i64 (wrap .i64 (wrap .i64 (wrap .i64 ((rd l i).d - (rd l i).a)*wrap .i64 ((rd l i).e - (rd l i).b))+wrap .i64 (wrap .i64 ((rd l i).d - (rd l i).a)*wrap .i64 ((rd l i).f - (rd l i).c)))+wrap .i64 (wrap .i64 ((rd l i).e - (rd l i).b)*wrap .i64 ((rd l i).f - (rd l i).c)))))=wrap .i64 (Ed l i+L5 (rd l i)):=
   Cg.eq ((Cg.wrap _).add (Cg.w ((Cg.refl 2).mul (Cg.w ((Cg.w ((Cg.w ((Cg.wrap _).mul (Cg.wrap _))).add (Cg.w ((Cg.wrap _).mul (Cg.wrap _))))).add (Cg.w ((Cg.wrap _).mul (Cg.wrap _))))))))
  have hs:G6 l (.h0 (wrap .i64 (Ed l i)) (i:Int))=.to (.h1 (wrap .i64 (Ed l i+L5 (rd l i))) (i:Int) (Wy l 0 i) (i:Int) 0 (rd l i).a (rd l i).b (rd l i).c (rd l i).d (rd l i).e (rd l i).f):=by have g1:decide ((i:Int)<(l.length:Int))=true:=Al (by omega);have g2:decide (0<=(i:Int)/\(i:Int)<(l.length:Int))=true:=Al (by omega);have g3:decide (0<=i)=true:=Al (by omega);have g4:decide (i<=l.length)=true:=Al (by omega);have g5:decide (0<=(i:Int))=true:=Al (by omega);simp only [G6,g1,g2,g3,g4,g5,Zk,w,Ah,Ab]
  rw [hs];have h1:=h1 n;rw [Du] at h1;rw [h1,AS,show Ed l i+L5 (rd l i) - (sm (Wy l 0 i) fun s=>2*kR (rd l i) s)=Ed l (i+1) from Int.add_sub_assoc ..];exact hn
def KF (l:List R6):Int:=bif Zf l != 0 then 0 else wrap .i64 (Ed l l.length)
def Nq (l:List R6):Int:=Zf l
def XK (l:List R6):Bool:=true
theorem j8b (l:List R6) (h:XK l=true): ∃n,Zo (G6 l) n (ZM l)=.ret [.int .i64 (KF l),.int .i64 (Nq l)]:=by
 unfold ZM KF Nq;simp only [Zd,show We l=true from rfl,Ab];rcases Zs (Zf l != 0) with q1 | q1
 .exact ⟨0,by simp only [q1,Ab];rfl⟩
 .obtain ⟨n,hn⟩:=j1o l (Tr q1) l.length 0 (Af _);refine ⟨n,?_⟩;simp only [q1,Aa];rw [show Zf l=0 by simpa using q1];exact hn
def QG :List B2->Option (B2×Bool)
 | [a0]=>match CS R6 a0 with
  | some (L0,g0,n0)=>some (.tup [.int .i64 (KF L0),.int .i64 (Nq L0)],CO R6 n0 g0&&(XK L0))
  | _=>none
 | _=>none
theorem t2v {S:B4} (hS:Zv prog S):Zv prog (S.with v9w QG):=by
 refine Qn hS (by kernel_rfl) fun args v h=> ?_;unfold QG at h;split at h
 .rename_i a0;split at h
  .rename_i L0 g0 n0 e0;simp only [Ad,Ac,Ae] at h;obtain ⟨rfl,ho0,hw⟩:=h;obtain ⟨N,hN⟩:=j8b L0 hw;exact ⟨_,_,(.cons (Yn e0 ho0) .nil),rfl,u4k L0 N _ hN,3,rfl⟩
  .cases h
 .cases h
def Cu (a b t:Int):Int:=if a<=t/\t<b then 1 else 0
def GP (lo:Int) (n:Nat):List Int:=(List.range n).map fun (k:Nat)=>lo+(k:Int)
theorem u0w (a b lo:Int): ∀n:Nat,sm (GP lo n) (Cu a b)=CK a b lo (lo+n)
 | 0=>by show (0:Int)=_;unfold CK;omega
 | n+1=>by unfold GP;rw [Bj,A8,Ji];have:=u0w a b lo n;unfold GP at this;rw [this,AT,Bi,Wr,GF];unfold Cu CK;split <;> omega
theorem w4d (a b c d t:Int):Cu a b t*Cu c d t=Cu (max a c) (min b d) t:=by
 unfold Cu;by_cases h1:a<=t/\t<b
 .by_cases h2:c<=t/\t<d
  .rw [AG h1,AG h2,AG (by omega)];rfl
  .rw [AG h1,Aw h2,Aw (by omega)];rfl
 .rw [Aw h1,Bp,Aw (by omega)]
theorem y2n (a b t:Int):0<=Cu a b t:=by unfold Cu;split <;> omega
def Rt (p:List Int):Prop:=(∀a b,-1000005<=a/\b<=1000005->sm p (Cu a b)=max 0 (b - a))/\p.length=2000010
def S3 (p:List Int) (f:Int->Int->Int->Int):Int:=sm p fun x=>sm p fun y=>sm p fun z=>f x y z
theorem t5p {p:List Int} {α:Type} (l:List α) (f:α->Int->Int->Int->Int):S3 p (fun x y z=>sm l fun a=>f a x y z)=sm l fun a=>S3 p (f a):=by unfold S3;rw [G7 l p];refine Yp fun x _=> ?_;rw [G7 l p];exact Yp fun y _=>G7 _ _ _
theorem j6s {p:List Int} (f g h:Int->Int):S3 p (fun x y z=>f x*g y*h z)=sm p f*sm p g*sm p h:=by unfold S3;simp only [UD,BZ];rw [<-w6z];refine Yp fun x _=> ?_;rw [<-w6z]
def inR (r:R6) (x y z:Int):Int:=Cu r.a r.d x*Cu r.b r.e y*Cu r.c r.f z
theorem x2w (r:R6) (x y z:Int):0<=inR r x y z:=Int.mul_nonneg (Int.mul_nonneg (y2n ..) (y2n ..)) (y2n ..)
theorem w9b (r:R6) (x y z:Int):inR r x y z=if (r.a<=x/\x<r.d)/\(r.b<=y/\y<r.e)/\(r.c<=z/\z<r.f) then 1 else 0:=by unfold inR Cu;by_cases h1:r.a<=x/\x<r.d <;> by_cases h2:r.b<=y/\y<r.e <;> by_cases h3:r.c<=z/\z<r.f <;> simp [h1,h2,h3]
def t1k (r:R6):Prop:= -1000002<=r.a/\r.d<=1000002/\ -1000002<=r.b/\r.e<=1000002/\ -1000002<=r.c/\r.f<=1000002
theorem VV {p:List Int} (hp:Rt p) (r s:R6) (hr:t1k r):S3 p (fun x y z=>inR r x y z*inR s x y z)=ov r s:=by
 obtain ⟨h1,h2,h3,h4,h5,h6⟩:=hr;have e:(fun x y z=>inR r x y z*inR s x y z)=fun x y z=>Cu (max r.a s.a) (min r.d s.d) x*Cu (max r.b s.b) (min r.e s.e) y*Cu (max r.c s.c) (min r.f s.f) z:=by
  funext x y z
  rw [<-w4d,<-w4d,<-w4d];unfold inR;simp only [Int.mul_comm,Int.mul_left_comm,BZ]
 rw [e,j6s,hp.1 _ _ (by omega),hp.1 _ _ (by omega),hp.1 _ _ (by omega)];rfl
def DK (X:List R6) (x y z:Int):Int:=sm X fun r=>inR r x y z
theorem v4i (X:List R6) (x y z:Int):0<=DK X x y z:=x6t fun r _=>x2w r x y z
theorem j6k : ∀(X:List R6),X.Pairwise EQ-> ∀x y z,DK X x y z<=1
 | [],_,x,y,z=>by show (0:Int)<=1;omega
 | r::X,h,x,y,z=>by
  obtain ⟨h1,h2⟩:=AQ.1 h;have ih:=j6k X h2 x y z;have e:DK (r::X) x y z=inR r x y z+DK X x y z:=Wr _ _ _;rw [e,w9b];split
  .rename_i hp;have:DK X x y z=0:=by
    have:DK X x y z=sm X fun _=>0:=Yp fun s hs=>by rw [w9b];refine Aw fun hq=> ?_;have:=h1 s hs;unfold EQ at this;omega
    rw [this,GI]
   omega
  .omega
theorem W5 {p:List Int} (hp:Rt p) (X Y:List R6) (hX: ∀r∈X,t1k r):S2 X Y=S3 p fun x y z=>DK X x y z*DK Y x y z:=by
 have e:(fun x y z=>DK X x y z*DK Y x y z)=fun x y z=>sm X fun r=>sm Y fun s=>inR r x y z*inR s x y z:=by
  funext x y z
  unfold DK;rw [<-w6z];exact Yp fun r _=>(UD _ _ _).symm
 rw [e,t5p];unfold S2;refine Yp fun r hr=> ?_;rw [t5p];exact Yp fun s _=>(VV hp r s (hX r hr)).symm
theorem R0 (X:List R6) (hX:X.Pairwise EQ) (x y z:Int):(CY X x y z->DK X x y z=1)/\(¬CY X x y z->DK X x y z=0):=by
 have h0:=v4i X x y z;have h1:=j6k X hX x y z;constructor
 .rintro ⟨r,hr,hp⟩;have:DK X x y z≠0:=fun e=>by have:=v0v (fun r _=>x2w r x y z) e r hr;rw [w9b,AG hp] at this;cases this
  omega
 .intro hn;have:DK X x y z=sm X fun _=>0:=Yp fun r hr=>by rw [w9b];exact Aw fun hp=>hn ⟨r,hr,hp⟩
  rw [this,GI]
structure TZ (X:List R6):Prop where
 len:X.length<=400
 val: ∀r∈X,Qv r=true
 ap:X.Pairwise EQ
theorem TZ.of {X:List R6} (h:Zf X=0):TZ X:=⟨(Xs h).1,(Xs h).2.1,(Xs h).2.2.2⟩
theorem WS {p:List Int} (hp:Rt p) (r:R6) (hr:Qv r=true):S3 p (inR r)=DW r:=by have hv:=Wq hr;show S3 p (fun x y z=>Cu r.a r.d x*Cu r.b r.e y*Cu r.c r.f z)=_;rw [j6s,hp.1 _ _ (by omega),hp.1 _ _ (by omega),hp.1 _ _ (by omega)];unfold DW;rw [show max 0 (r.d - r.a)=r.d - r.a by omega,show max 0 (r.e - r.b)=r.e - r.b by omega,show max 0 (r.f - r.c)=r.f - r.c by omega]
theorem OL {p:List Int} (hp:Rt p) {X:List R6} (h:TZ X):sm X DW=S3 p (DK X):=by show _=S3 p (fun x y z=>sm X fun r=>inR r x y z);rw [t5p];exact Yp fun r hr=>(WS hp r (h.val r hr)).symm
def F6 (r s:R6):Int:=ov (nx 0 r) s+ov (nx 1 r) s+ov (nx 2 r) s+ov (nx 3 r) s+ov (nx 4 r) s+ov (nx 5 r) s
theorem t5w (r s:R6):F6 r s=F6 s r:=by unfold F6;rw [OG 0 (by omega),OG 1 (by omega),OG 2 (by omega),OG 3 (by omega),OG 4 (by omega),OG 5 (by omega)];show ov (nx 1 s) r+ov (nx 0 s) r+ov (nx 3 s) r+ov (nx 2 s) r+ov (nx 5 s) r+ov (nx 4 s) r=_;omega
theorem x4y {a d a' d':Int} (h:a<d) (h':a'<d') (hx:min d d' - max a a'<=0):CK (a+1) (d+1) a' d'+CK (a+ -1) (d+ -1) a' d'=if min d d' - max a a'=0 then 1 else 0:=by unfold CK;split <;> omega
theorem ND (r s:R6):F6 r s=(CK (r.a+1) (r.d+1) s.a s.d+CK (r.a+ -1) (r.d+ -1) s.a s.d)*CK r.b r.e s.b s.e*CK r.c r.f s.c s.f+CK r.a r.d s.a s.d*(CK (r.b+1) (r.e+1) s.b s.e+CK (r.b+ -1) (r.e+ -1) s.b s.e)*CK r.c r.f s.c s.f+CK r.a r.d s.a s.d*CK r.b r.e s.b s.e*(CK (r.c+1) (r.f+1) s.c s.f+CK (r.c+ -1) (r.f+ -1) s.c s.f):=by rw [Int.add_mul,Int.add_mul,Int.mul_add,Int.add_mul,Int.mul_add];show CK (r.a+1) (r.d+1) s.a s.d*CK r.b r.e s.b s.e*CK r.c r.f s.c s.f+CK (r.a+ -1) (r.d+ -1) s.a s.d*CK r.b r.e s.b s.e*CK r.c r.f s.c s.f+CK r.a r.d s.a s.d*CK (r.b+1) (r.e+1) s.b s.e*CK r.c r.f s.c s.f+CK r.a r.d s.a s.d*CK (r.b+ -1) (r.e+ -1) s.b s.e*CK r.c r.f s.c s.f+CK r.a r.d s.a s.d*CK r.b r.e s.b s.e*CK (r.c+1) (r.f+1) s.c s.f+CK r.a r.d s.a s.d*CK r.b r.e s.b s.e*CK (r.c+ -1) (r.f+ -1) s.c s.f=_;omega
theorem w2s {y z:Int} (hy:0<y/\y<=2000000) (hz:0<z/\z<=2000000):wrap .i64 (y*z)=y*z:=by have h1:y*z<=2000000*2000000:=Int.mul_le_mul hy.2 hz.2 (by omega) (by omega);have h2:0<y*z:=Int.mul_pos hy.1 hz.1;exact Zj (by omega)
theorem W9 {r s:R6} (hr:Qv r=true) (hs:Qv s=true) (h:EQ r s):F6 r s=kR r s:=by
 have v1:=Wq hr;have v2:=Wq hs;have ex:kX r.a r.d s.a s.d=min r.d s.d - max r.a s.a:=by unfold kX;rw [Sa,NL];exact Zj (by omega)
 have ey:kX r.b r.e s.b s.e=min r.e s.e - max r.b s.b:=by unfold kX;rw [Sa,NL];exact Zj (by omega)
 have ez:kX r.c r.f s.c s.f=min r.f s.f - max r.c s.c:=by unfold kX;rw [Sa,NL];exact Zj (by omega)
 have hk:kR r s=kT (kX r.a r.d s.a s.d) (kX r.b r.e s.b s.e) (kX r.c r.f s.c s.f):=rfl;rw [hk,ex,ey,ez,ND];have hap:min r.d s.d - max r.a s.a<=0\/min r.e s.e - max r.b s.b<=0\/min r.f s.f - max r.c s.c<=0:=by unfold EQ at h;omega
 have bx:min r.d s.d - max r.a s.a<=2000000:=by omega
 have bY:min r.e s.e - max r.b s.b<=2000000:=by omega
 have bz:min r.f s.f - max r.c s.c<=2000000:=by omega
 have sx:=x4y (a:=r.a) (d:=r.d) (a':=s.a) (d':=s.d) (by omega) (by omega);have sy:=x4y (a:=r.b) (d:=r.e) (a':=s.b) (d':=s.e) (by omega) (by omega);have sz:=x4y (a:=r.c) (d:=r.f) (a':=s.c) (d':=s.f) (by omega) (by omega);have ox:CK r.a r.d s.a s.d=max 0 (min r.d s.d - max r.a s.a):=rfl;have oy:CK r.b r.e s.b s.e=max 0 (min r.e s.e - max r.b s.b):=rfl;have oz:CK r.c r.f s.c s.f=max 0 (min r.f s.f - max r.c s.c):=rfl;rw [ox,oy,oz];generalize CK (r.a+1) (r.d+1) s.a s.d+CK (r.a+ -1) (r.d+ -1) s.a s.d=X at*;generalize CK (r.b+1) (r.e+1) s.b s.e+CK (r.b+ -1) (r.e+ -1) s.b s.e=Y at*;generalize CK (r.c+1) (r.f+1) s.c s.f+CK (r.c+ -1) (r.f+ -1) s.c s.f=Z at*;clear ox oy oz ex ey ez hk;generalize min r.d s.d - max r.a s.a=x at*;generalize min r.e s.e - max r.b s.b=y at*;generalize min r.f s.f - max r.c s.c=z at*;have pos: ∀t:Int,0<t->max 0 t=t:=fun t ht=>by omega
 have neg: ∀t:Int,¬0<t->max 0 t=0:=fun t ht=>by omega
 unfold kT;rcases Fi x with ⟨h1,h2⟩ | ⟨h1,h2⟩ | ⟨h1,h2⟩ <;> rcases Fi y with ⟨h3,h4⟩ | ⟨h3,h4⟩ | ⟨h3,h4⟩ <;> rcases Fi z with ⟨h5,h6⟩ | ⟨h5,h6⟩ | ⟨h5,h6⟩ <;> rw [h1,h2,h3,h4,h5,h6] <;>
  simp only [beq_iff_eq,beq_eq_false_iff_ne,Ar,Bk] at h1 h2 h3 h4 h5 h6 <;>
  simp only [Ah,Bool.and_false,Ai,Be,Ab,Aa]
 all_goals first
  | omega
  | (rw [neg x (by omega),neg y (by omega)];simp only [BO,Bp,Bv];done)
  | (rw [neg x (by omega),neg z (by omega)];simp only [BO,Bp,Bv];done)
  | (rw [neg y (by omega),neg z (by omega)];simp only [BO,Bp,Bv];done)
  | (rw [neg x (by omega),sx (by omega),pos y (by omega),pos z (by omega),AG (by omega),w2s (by omega) (by omega)];simp only [Int.one_mul,Bp,Bv];done)
  | (rw [neg x (by omega),sx (by omega),Aw (by omega)];simp only [BO,Bp,Bv];done)
  | (rw [neg y (by omega),sy (by omega),pos x (by omega),pos z (by omega),AG (by omega),w2s (by omega) (by omega)];simp only [Int.mul_one,BO,Bp,Bv,BL];done)
  | (rw [neg y (by omega),sy (by omega),Aw (by omega)];simp only [BO,Bp,Bv];done)
  | (rw [neg z (by omega),sz (by omega),pos x (by omega),pos y (by omega),AG (by omega),w2s (by omega) (by omega)];simp only [Int.mul_one,BO,Bp,Bv,BL];done)
  | (rw [neg z (by omega),sz (by omega),Aw (by omega)];simp only [BO,Bp,Bv];done)
theorem t5v {r:R6} (hr:Qv r=true):6*DW r - F6 r r=L5 r:=by
 have v:=Wq hr;rw [ND];have e: ∀a d:Int,a<d->CK (a+1) (d+1) a d+CK (a+ -1) (d+ -1) a d=2*(d - a) - 2:=fun a d h=>by unfold CK;omega
 have e0: ∀a d:Int,a<d->CK a d a d=d - a:=fun a d h=>by unfold CK;omega
 rw [e _ _ v.1,e _ _ v.2.1,e _ _ v.2.2.1,e0 _ _ v.1,e0 _ _ v.2.1,e0 _ _ v.2.2.1];unfold DW L5;generalize r.d - r.a=x;generalize r.e - r.b=y;generalize r.f - r.c=z;simp only [Int.sub_mul,Int.mul_sub,Int.mul_add,Int.add_mul];have a1:6*(x*y*z) - (2*x*y*z - 2*y*z+(x*(2*y)*z - x*2*z)+(x*y*(2*z) - x*y*2))=2*(x*y)+2*(x*z)+2*(y*z):=by rw [show 2*x*y*z=2*(x*y*z) by simp only [BZ],show x*(2*y)*z=2*(x*y*z) by rw [Int.mul_left_comm,BZ],show x*y*(2*z)=2*(x*y*z) by rw [Int.mul_left_comm],show x*y*2=2*(x*y) by rw [Int.mul_comm],show x*2*z=2*(x*z) by rw [Int.mul_comm x 2,BZ],BZ 2 y z];omega
 exact a1
def TY (l:List R6):Int:=sm l fun r=>6*DW r - sm l fun s=>F6 r s
theorem j0n (l:List R6) (r:R6):TY (l++[r])=TY l+(6*DW r - F6 r r) - sm l (fun s=>2*F6 r s):=by
 unfold TY;rw [Ji,Wr,GF,Ji,Wr,GF];have e:sm l (fun x=>6*DW x - sm (l++[r]) fun s=>F6 x s)=sm l (fun x=>6*DW x - sm l fun s=>F6 x s) - sm l fun x=>F6 r x:=by rw [<-KG];refine Yp fun x _=> ?_;rw [Ji,Wr,GF,t5w x r];omega
 have ee:(sm l fun x=>F6 r x)=sm l (F6 r):=rfl;rw [e,UD];omega
theorem v7i {X:List R6} (hv: ∀r∈X,Qv r=true) (ha:X.Pairwise EQ): ∀k,k<=X.length->Ed X k=TY (X.take k)
 | 0,_=>rfl
 | k+1,h=>by
  have hk:k<X.length:=by omega
  have e:X.take (k+1)=X.take k++[rd X k]:=by rw [AW,Au hk,Yo hk];rfl
  have er:rd X k∈X:=by rw [Yo hk];exact AV hk
  rw [e,j0n,<-v7i hv ha k (by omega)];show Ed X k+(L5 (rd X k) - sm (Wy X 0 k) fun s=>2*kR (rd X k) s)=_;rw [u7p (show 0+k<=X.length by omega),AS,t5v (hv _ er)];have:(sm (X.take k) fun s=>2*kR (rd X k) s)=sm (X.take k) fun s=>2*F6 (rd X k) s:=Yp fun s hs=>by
   obtain ⟨j,hj,rfl⟩:=AJ hs;rw [Br];have hj':j<k:=by have:=hj;rw [BX] at this;omega
   rw [W9 (hv _ er) (hv _ (AV _))];have:=AY.1 ha j k (by omega) hk hj';rw [Yo hk];unfold EQ at this ⊢;omega
  rw [this];omega
def u5f (X:List R6):Int:=(sm X DW - E2 0 X X)+(sm X DW - E2 1 X X)+(sm X DW - E2 2 X X)+(sm X DW - E2 3 X X)+(sm X DW - E2 4 X X)+(sm X DW - E2 5 X X)
theorem u3n (X:List R6):TY X=u5f X:=by
 unfold TY u5f;rw [KG,UD];have e:(sm X fun x=>sm X fun s=>F6 x s)=E2 0 X X+E2 1 X X+E2 2 X X+E2 3 X X+E2 4 X X+E2 5 X X:=by unfold E2;rw [<-Eh,<-Eh,<-Eh,<-Eh,<-Eh];refine Yp fun x _=> ?_;rw [<-Eh,<-Eh,<-Eh,<-Eh,<-Eh];rfl
 rw [e];omega
theorem x3r {X:List R6} (h:TZ X):Ed X X.length=u5f X:=by rw [v7i h.val h.ap X.length (Aq _),A2 (Aq _),u3n]
theorem u0x (a b t x:Int):Cu (a+t) (b+t) x=Cu a b (x - t):=by
 unfold Cu;by_cases h:a<=x - t/\x - t<b
 .rw [AG h,AG (by omega)]
 .rw [Aw h,Aw (by omega)]
theorem t1i (d:Int) (hd:0<=d/\d<=5) {r:R6} (h:Qv r=true):t1k (nx d r):=by
 have v:=Wq h;have:d=0\/d=1\/d=2\/d=3\/d=4\/d=5:=by omega
 rcases this with rfl | rfl | rfl | rfl | rfl | rfl
 .refine ⟨?_,?_,?_,?_,?_,?_⟩ <;> first | (show _<=r.a+1;omega) | (show r.d+1<=_;omega) | (show _<=r.b;omega) | (show r.e<=_;omega) | (show _<=r.c;omega) | (show r.f<=_;omega)
 .refine ⟨?_,?_,?_,?_,?_,?_⟩ <;> first | (show _<=r.a+ -1;omega) | (show r.d+ -1<=_;omega) | (show _<=r.b;omega) | (show r.e<=_;omega) | (show _<=r.c;omega) | (show r.f<=_;omega)
 .refine ⟨?_,?_,?_,?_,?_,?_⟩ <;> first | (show _<=r.b+1;omega) | (show r.e+1<=_;omega) | (show _<=r.a;omega) | (show r.d<=_;omega) | (show _<=r.c;omega) | (show r.f<=_;omega)
 .refine ⟨?_,?_,?_,?_,?_,?_⟩ <;> first | (show _<=r.b+ -1;omega) | (show r.e+ -1<=_;omega) | (show _<=r.a;omega) | (show r.d<=_;omega) | (show _<=r.c;omega) | (show r.f<=_;omega)
 .refine ⟨?_,?_,?_,?_,?_,?_⟩ <;> first | (show _<=r.c+1;omega) | (show r.f+1<=_;omega) | (show _<=r.a;omega) | (show r.d<=_;omega) | (show _<=r.b;omega) | (show r.e<=_;omega)
 .refine ⟨?_,?_,?_,?_,?_,?_⟩ <;> first | (show _<=r.c+ -1;omega) | (show r.f+ -1<=_;omega) | (show _<=r.a;omega) | (show r.d<=_;omega) | (show _<=r.b;omega) | (show r.e<=_;omega)
theorem Wl {p:List Int} (hp:Rt p) (d:Int) (hd:0<=d/\d<=5) {X:List R6} (Y:List R6) (hX: ∀r∈X,Qv r=true):E2 d X Y=S3 p fun x y z=>DK (X.map (nx d)) x y z*DK Y x y z:=by rw [<-Rx,W5 hp];intro r hr;obtain ⟨s,hs,rfl⟩:=AO.1 hr;exact t1i d hd (hX s hs)
theorem WQ {L:List R2} (h:Co L) {y:Int} (hy:y∈Ey L) (hS:pt L (y - 1)↔pt L y):False:=by
 obtain ⟨s,hs,h1⟩:=AK.1 hy;have hp:=h.pos s hs;have sepL: ∀t∈L,t=s\/t.b<s.a\/s.b<t.a:=fun t ht=>by
  obtain ⟨i,hi,ei⟩:=AJ hs;obtain ⟨j,hj,ej⟩:=AJ ht;have pw:=AY.1 h.sep
  grind
 simp only [AH,Bo,B1] at h1;rcases h1 with rfl | rfl
 .obtain ⟨t,ht,t1,t2⟩:=hS.2 ⟨s,hs,A5 _,hp⟩
  grind
 .obtain ⟨t,ht,t1,t2⟩:=hS.1 ⟨s,hs,by omega,by omega⟩
  grind
theorem y8l : ∀(l S:List Int),l.Pairwise (· ≠ ·)->(∀x∈l,x∈S)->l.length<=S.length
 | [],S,_,_=>AA _
 | x::l,S,h,hs=>by
  obtain ⟨h1,h2⟩:=AQ.1 h;have hx:=hs x (by simp);have:=y8l l (S.erase x) h2 fun y hy=>(List.mem_erase_of_ne (fun e=>h1 y hy e.symm)).2 (hs y (by simp [hy]))
  grind
theorem j7e {a b:List R2} (ha:a.all C7=true) (hb:b.all C7=true):(Cx 2 a b).length +(Cx 2 b a).length <=a.length+b.length:=by
 obtain ⟨c1,p1⟩:=UE 2 ha hb;obtain ⟨c2,p2⟩:=UE 2 hb ha;have q1: ∀y,pt (Cx 2 a b) y↔pt a y/\ ¬pt b y:=fun y=>by rw [show pt (Cx 2 a b) y↔_ from p1 y];unfold Cp;simp
 have q2: ∀y,pt (Cx 2 b a) y↔pt b y/\ ¬pt a y:=fun y=>by rw [show pt (Cx 2 b a) y↔_ from p2 y];unfold Cp;simp
 have f: ∀y:Int,∃z,(z=2*y/\ ¬(pt a (y - 1)↔pt a y))\/(z=2*y+1/\(pt a (y - 1)↔pt a y)):=fun y=>by
  by_cases h:pt a (y - 1)↔pt a y;all_goals simp_all
 have g: ∀y:Int,∃z,(z=2*y+1/\ ¬(pt b (y - 1)↔pt b y))\/(z=2*y/\(pt b (y - 1)↔pt b y)):=fun y=>by
  by_cases h:pt b (y - 1)↔pt b y;all_goals simp_all
 obtain ⟨f,hf⟩:=Classical.axiomOfChoice f;obtain ⟨g,hg⟩:=Classical.axiomOfChoice g;have key:=y8l ((Ey (Cx 2 a b)).map f++(Ey (Cx 2 b a)).map g) ((Ey a).map (2* ·)++(Ey b).map (2* · +1)) (by
  refine BE.2 ⟨List.pairwise_map.2 ((ZZ c1).imp fun {x y} h=> ?_),List.pairwise_map.2 ((ZZ c2).imp fun {x y} h=> ?_),?_⟩
  .grind
  .grind
  .intro x hx z hz;obtain ⟨y,hy,rfl⟩:=AO.1 hx;obtain ⟨y',hy',rfl⟩:=AO.1 hz;intro e;have e1:y'=y:=by have:=hf y;have:=hg y';omega
   subst e1;have n1:=WQ c1 hy;have n2:=WQ c2 hy'
   grind) (by
  intro x hx;rcases AI.1 hx with hx | hx
  .obtain ⟨y,hy,rfl⟩:=AO.1 hx;have n1:=WQ c1 hy
   grind [x4v]
  .obtain ⟨y,hy,rfl⟩:=AO.1 hx;have n1:=WQ c2 hy
   grind [x4v])
 grind [XY]
theorem y2y : ∀(l m:List Int),l.Pairwise (· < ·)->m.Pairwise (· < ·)->(∀x,x∈l↔x∈m)->l=m
 | [],[],_,_,_=>rfl
 | [],y::m,_,_,h=>by have:=(h y).2 (by simp);cases this
 | x::l,[],_,_,h=>by have:=(h x).1 (by simp);cases this
 | x::l,y::m,hl,hm,h=>by
  obtain ⟨l1,l2⟩:=AQ.1 hl;obtain ⟨m1,m2⟩:=AQ.1 hm;have e:x=y:=by
   have hx:=(h x).1 (by simp);have hy:=(h y).2 (by simp);rcases AH.1 hx with hx | hx
   .exact hx
   .rcases AH.1 hy with hy | hy
    .exact hy.symm
    .have:=l1 y hy;have:=m1 x hx;omega
  subst e
  congr 1
  refine y2y l m l2 m2 fun z=>⟨fun hz=> ?_,fun hz=> ?_⟩
  .have:=l1 z hz;rcases AH.1 ((h z).1 (by simp [hz])) with q | q
   .omega
   .exact q
  .have:=m1 z hz;rcases AH.1 ((h z).2 (by simp [hz])) with q | q
   .omega
   .exact q
namespace CJ
variable {α β:Type} {D:CJ α β}
theorem w9n (l:List α):(D.cuts l).Pairwise (· < ·):=by show (Kz (D.ends l)).Pairwise (· < ·);rw [Kp];exact (Wp _).1
theorem u9x (l:List α) (x:Int):x∈D.cuts l↔x∈D.ends l:=by show x∈Kz (D.ends l)↔_;rw [Kp];exact (Wp _).2 x
theorem u9r (l:List α) (x:Int):x∈D.ends l↔ ∃r∈l,x=D.lo r\/x=D.hi r:=by
 induction l with
 | nil=>exact ⟨fun h=>(by cases h),fun ⟨r,h,_⟩=>(by cases h)⟩
 | cons r l ih=>
  show x∈D.lo r::D.hi r::D.ends l↔_
  grind
theorem cuts_comm (a b:List α):D.cuts (a++b)=D.cuts (b++a):=y2y _ _ (w9n _) (w9n _) fun x=>by
 grind [u9x,u9r]
end CJ
theorem u6z {a b:List R4} (ha: ∀r∈a,Vo r=true) (hb: ∀r∈b,Vo r=true):(DI 2 a b).length +(DI 2 b a).length <=(a.length+b.length)*(a.length+b.length):=by
 have hv: ∀r∈a++b,D4.lo r<D4.hi r:=fun r hr=>by
  have hv:Vo r=true:=by
   grind
  simp only [Vo,Ae,Ar] at hv;exact hv.1
 have g1:=D4.goS_length (fun x=>Cx 2 (D4.inn a x) (D4.inn b x)) (D4.cuts (a++b)) ((D4.cuts (a++b)).length - 1) 0 ⟨[],[],0,0⟩;have g2:=D4.goS_length (fun x=>Cx 2 (D4.inn b x) (D4.inn a x)) (D4.cuts (a++b)) ((D4.cuts (a++b)).length - 1) 0 ⟨[],[],0,0⟩;have h2:=D4.open_sum (a++b) hv ((D4.cuts (a++b)).length - 1) (Nat.sub_le _ _);have e1:(DI 2 b a).length =(D4.goS (fun x=>Cx 2 (D4.inn b x) (D4.inn a x)) (D4.cuts (a++b)) ((D4.cuts (a++b)).length - 1) 0 ⟨[],[],0,0⟩).out.length :=by unfold DI;rw [CJ.cuts_comm b a]
 have e2:(DI 2 a b).length =(D4.goS (fun x=>Cx 2 (D4.inn a x) (D4.inn b x)) (D4.cuts (a++b)) ((D4.cuts (a++b)).length - 1) 0 ⟨[],[],0,0⟩).out.length :=rfl;rw [e1,e2];rw [AP] at h2;refine AF (Nat.add_le_add g1 g2) (AF ?_ h2);simp only [List.length_nil,Af];generalize (D4.cuts (a++b)).length - 1=k
 induction k with
 | zero=>grind
 | succ k ih=>rw [Bj,A8,A8,A8,BG,BG,BG];have:=j7e (Ku ha (rd (D4.cuts (a++b)) k)) (Ku hb (rd (D4.cuts (a++b)) k));simp only [AT,Bi,BT,List.sum_nil];rw [D4.inn_append,AP];omega
open Go.Proofs Go.Sort Go.Shelf Go.RowKit Go.Lib
def My (q:Ax) (L:List R6):List Int:=L.flatMap fun r=>[q.lo r,q.hi r]
def CR (q:Ax) (L:List R6):List Int:=Kz (My q L)
def Ax.inB (q:Ax) (r:R6) (p u v:Int):Prop:=(q.lo r<=p/\p<q.hi r)/\((q.rc r).a <=u/\u<(q.rc r).c)/\((q.rc r).b <=v/\v<(q.rc r).d)
def Ax.inL (q:Ax) (L:List R6) (p u v:Int):Prop:= ∃r∈L,q.inB r p u v
def Ax.to (q:Ax) (p u v:Int):Int×Int×Int:=match q with
 | .x =>(p,u,v)
 | .y =>(u,p,v)
 | .z =>(u,v,p)
theorem Ax.inL_S (q:Ax) (L:List R6) (p u v:Int):q.inL L p u v↔CY L (q.to p u v).1 (q.to p u v).2.1 (q.to p u v).2.2:=by
 cases q <;> constructor <;> rintro ⟨r,hr,h1,h2,h3⟩
 .exact ⟨r,hr,h1,h2,h3⟩
 .exact ⟨r,hr,h1,h2,h3⟩
 .exact ⟨r,hr,h2,h1,h3⟩
 .exact ⟨r,hr,h2,h1,h3⟩
 .exact ⟨r,hr,h2,h3,h1⟩
 .exact ⟨r,hr,h3,h1,h2⟩
theorem HQ (l:List R4) (u v:Int):CI Xr.inB l (u,v)↔ ∃r∈l,(r.a<=u/\u<r.c)/\(r.b<=v/\v<r.d):=by
 constructor
 .rintro ⟨r,hr,h1,h2,h3,h4⟩;exact ⟨r,hr,⟨h1,h2⟩,h3,h4⟩
 .rintro ⟨r,hr,⟨h1,h2⟩,h3,h4⟩;exact ⟨r,hr,h1,h2,h3,h4⟩
theorem UQ (q:Ax) (L:List R6) (p u v:Int):CI Xr.inB (Cf q L p) (u,v)↔q.inL L p u v:=by
 rw [HQ];constructor
 .rintro ⟨s,hs,h⟩;obtain ⟨r,hr,rfl⟩:=AO.1 hs;obtain ⟨h1,h2⟩:=AX.1 hr;simp only [Ae,Ar] at h2;exact ⟨r,h1,h2,h⟩
 .rintro ⟨r,hr,h1,h2⟩;exact ⟨q.rc r,AO.2 ⟨r,AX.2 ⟨hr,by grind⟩,rfl⟩,h2⟩
theorem Ax.val (q:Ax) {r:R6} (h:Qv r=true):Vo (q.rc r)=true/\q.lo r<q.hi r/\ -1000000<=q.lo r/\q.hi r<=1000000:=by
 have:=Wq h;cases q
 .refine ⟨?_,by show r.a<r.d;omega,by show _<=r.a;omega,by show r.d<=_;omega⟩;show Vo ⟨r.b,r.c,r.e,r.f⟩=true
  grind [Vo]
 .refine ⟨?_,by show r.b<r.e;omega,by show _<=r.b;omega,by show r.e<=_;omega⟩;show Vo ⟨r.a,r.c,r.d,r.f⟩=true
  grind [Vo]
 .refine ⟨?_,by show r.c<r.f;omega,by show _<=r.c;omega,by show r.f<=_;omega⟩;show Vo ⟨r.a,r.b,r.d,r.e⟩=true
  grind [Vo]
theorem S8 (q:Ax) {L:List R6} (hv: ∀r∈L,Qv r=true) (p:Int): ∀s∈Cf q L p,Vo s=true:=fun s hs=>by obtain ⟨r,hr,rfl⟩:=AO.1 hs;exact (q.val (hv r (AX.1 hr).1)).1
theorem x5r (q:Ax) (L:List R6) (p:Int):(Cf q L p).length <=L.length:=by grind [Cf]
theorem YD {l:List R4} (hc:Xr.can l) (hb: ∀u v,CI Xr.inB l (u,v)->(-1000000<=u/\u<1000000)/\(-1000000<=v/\v<1000000)): ∀r∈l,Vo r=true:=fun r hr=>by
 have hp:r.a<r.c/\r.b<r.d:=by obtain ⟨G,hG,e⟩:=hc;rw [e] at hr;obtain ⟨g,hg,hr⟩:=AK.1 hr;obtain ⟨b,hb,rfl⟩:=AO.1 hr;obtain ⟨h1,h2,_⟩:=hG.all g hg;exact ⟨h1,Co.pos h2 b hb⟩
 have h1:=hb r.a r.b ((HQ _ _ _).2 ⟨r,hr,by omega,by omega⟩);have h2:=hb (r.c - 1) (r.d - 1) ((HQ _ _ _).2 ⟨r,hr,by omega,by omega⟩)
 grind [Vo]
theorem x3p {l:List R4} (hv: ∀r∈l,Vo r=true) {u v:Int} (h:CI Xr.inB l (u,v)):(-1000000<=u/\u<1000000)/\(-1000000<=v/\v<1000000):=by grind [HQ,Vo]
structure Few (c l:List R4) (n:Nat):Prop where
 can:Xr.can l
 pts: ∀u v,CI Xr.inB l (u,v)↔CI Xr.inB c (u,v)
 val: ∀r∈l,Vo r=true
 len:l.length<=n*n
 sec: ∀x,(D4.inn l x).length <=n
theorem t1b {l:List R4} (hv: ∀r∈l,Vo r=true) (hl:l.length<=400):(D4.out l).length <=l.length*l.length:=by
 have h:=GH 0 hv (fun r (h:r∈([]:List R4))=>by cases h);have e:DI 0 l []=D4.out l:=Xr.uniq _ _ h.1 (Ko hv hl).1 fun p=>by
  grind [Ko,JT,Cp]
 grind
theorem YO {l:List R4} (hc:Xr.can l) (x:Int):Ci.can (D4.inn l x):=by
 obtain ⟨G,hG,e⟩:=hc
 grind [CJ.inn_can,GZ]
theorem u1m {c:List R4} (hv: ∀r∈c,Vo r=true) (hl:c.length<=20):Few c (D4.out c) c.length:=by
 obtain ⟨h1,h2⟩:=Ko hv (by omega);refine ⟨h1,fun u v=>h2 (u,v),YD h1 fun u v h=>x3p hv ((h2 _).1 h),t1b hv (by omega),fun x=> ?_⟩;have h3:=XS 0 (a:=D4.inn c x) (b:=[]) (Ku hv x) rfl;have h4:=UE 0 (a:=D4.inn c x) (b:=[]) (Ku hv x) rfl;have e:Cx 0 (D4.inn c x) []=D4.inn (D4.out c) x:=Ci.uniq _ _ h4.1 (YO h1 x) fun y=>by
  rw [h4.2];have a1:=UA c x y;have a2:=UA (D4.out c) x y;have: ¬pt [] y:=fun ⟨_,h,_⟩=>by cases h
  show _↔pt (D4.inn (D4.out c) x) y
  grind [Cp]
 rw [<-e];have:=D4.inn_length c x
 grind
theorem w7r {l:List R4} (hl:l.length<=400) (hv: ∀r∈l,Vo r=true) (hc:Xr.can l):Cz l=0:=by
 obtain ⟨h1,h2⟩:=Ko hv hl;have e:D4.out l=l:=Xr.uniq _ _ h1 hc h2
 grind [F5,D7,Ws,D8,Mi,Cz,Fp,Uw]
theorem w4u {E:Int->Int} {cs:List Int} (h: ∀x,E x=0): ∀k i,Cv E cs k i=0
 | 0,i=>rfl
 | k+1,i=>by show (bif E (rd cs i) != 0 then E (rd cs i) else Cv E cs k (i+1))=0;rw [h];exact w4u h k (i+1)
theorem x4s (o:Op) {a b:List R4} (la:a.length<=400) (lb:b.length<=400) (va: ∀r∈a,Vo r=true) (vb: ∀r∈b,Vo r=true) (ca:Xr.can a) (cb:Xr.can b)
  (sa: ∀x,(D4.inn a x).length +(D4.inn b x).length <=400) (lj:(DI o.k a b).length <=400):Dr o a b=0:=by
 have sc: ∀(l:List R4) (x:Int),l.length<=400->(∀r∈l,Vo r=true)->Xr.can l->Dp (D4.inn l x)=0:=fun l x hl hv hc=>
  (ZE _).2 ⟨AF (D4.inn_length l x) hl,Ku hv x,YO hc x⟩
 have hz: ∀x,Db o a b x=0:=fun x=>by
  unfold Db HS;rw [sc a x la va ca,sc b x lb vb cb]
  grind [XS,Ku,D7]
 unfold Dr;rw [w7r la va ca,w7r lb vb cb,w4u hz];show D7 _=0
 grind [D7]
def FY (q:Ax) (L:List R6) (p:Int):List R4:=(L.filter fun r=>decide (q.hi r=p)).map q.rc
def FW (q:Ax) (L:List R6) (p:Int):List R4:=(L.filter fun r=>decide (q.lo r=p)).map q.rc
theorem v5t (q:Ax) {L:List R6} (hv: ∀r∈L,q.lo r<q.hi r) (p:Int):(FY q L p).length +(FW q L p).length <=L.length:=by
 unfold FY FW;rw [Bu,Bu]
 induction L with
 | nil=>grind
 | cons r L ih=>
  grind
theorem Mp (q:Ax) (L:List R6) (p u v:Int):CI Xr.inB (FY q L p) (u,v)↔ ∃r∈L,q.hi r=p/\((q.rc r).a <=u/\u<(q.rc r).c)/\((q.rc r).b <=v/\v<(q.rc r).d):=by
 rw [HQ];constructor
 .rintro ⟨s,hs,h⟩;obtain ⟨r,hr,rfl⟩:=AO.1 hs
  grind
 .rintro ⟨r,hr,h1,h2⟩;exact ⟨q.rc r,AO.2 ⟨r,AX.2 ⟨hr,Al h1⟩,rfl⟩,h2⟩
theorem Me (q:Ax) (L:List R6) (p u v:Int):CI Xr.inB (FW q L p) (u,v)↔ ∃r∈L,q.lo r=p/\((q.rc r).a <=u/\u<(q.rc r).c)/\((q.rc r).b <=v/\v<(q.rc r).d):=by
 rw [HQ];constructor
 .rintro ⟨s,hs,h⟩;obtain ⟨r,hr,rfl⟩:=AO.1 hs
  grind
 .rintro ⟨r,hr,h1,h2⟩;exact ⟨q.rc r,AO.2 ⟨r,AX.2 ⟨hr,Al h1⟩,rfl⟩,h2⟩
theorem EQ.not (q:Ax) {r s:R6} (h:EQ r s) {p u v:Int} (h1:q.inB r p u v) (h2:q.inB s p u v):False:=by obtain ⟨a1,a2,a3⟩:=h1;obtain ⟨b1,b2,b3⟩:=h2;unfold EQ at h;cases q <;> simp only [Ax.lo,Ax.hi,Ax.rc] at* <;> omega
theorem j4w {L:List R6} (hL:L.Pairwise EQ) (q:Ax) {r s:R6} (hr:r∈L) (hs:s∈L) {p u v:Int} (h1:q.inB r p u v) (h2:q.inB s p u v):r=s:=by
 obtain ⟨i,hi,ei⟩:=AJ hr;obtain ⟨j,hj,ej⟩:=AJ hs;have pw:=AY.1 hL;rcases Bm i j with h | h | h
 .have:=pw i j hi hj h;rw [ei,ej] at this;exact (this.not q h1 h2).elim
 .grind
 .have:=pw j i hj hi h;rw [ei,ej] at this;exact (this.not q h2 h1).elim
theorem u4c (q:Ax) {L:List R6} (hL:L.Pairwise EQ) (hv: ∀r∈L,q.lo r<q.hi r) (p u v:Int):
  (q.inL L (p - 1) u v/\ ¬q.inL L p u v)↔(CI Xr.inB (FY q L p) (u,v)/\ ¬CI Xr.inB (FW q L p) (u,v)):=by
 rw [Mp,Me];constructor
 .rintro ⟨⟨r,hr,h1,h2⟩,h3⟩;refine ⟨⟨r,hr,?_,h2⟩,fun ⟨s,hs,k1,k2⟩=>h3 ⟨s,hs,⟨by omega,by grind⟩,k2⟩⟩;refine Ba fun hn=>h3 ⟨r,hr,⟨by omega,by omega⟩,h2⟩
 .rintro ⟨⟨r,hr,h1,h2⟩,h3⟩;have hlt:=hv r hr;have hb:q.inB r (p - 1) u v:=⟨⟨by omega,by omega⟩,h2⟩
  refine ⟨⟨r,hr,hb⟩,fun ⟨s,hs,k1,k2⟩=> ?_⟩;by_cases e:q.lo s=p
  .grind
  .have:=j4w hL q hr hs hb ⟨⟨by omega,by omega⟩,k2⟩
   grind
theorem v4d (q:Ax) {L:List R6} (hL:L.Pairwise EQ) (hv: ∀r∈L,q.lo r<q.hi r) (p u v:Int):
  (q.inL L p u v/\ ¬q.inL L (p - 1) u v)↔(CI Xr.inB (FW q L p) (u,v)/\ ¬CI Xr.inB (FY q L p) (u,v)):=by
 rw [Mp,Me];constructor
 .rintro ⟨⟨r,hr,h1,h2⟩,h3⟩;refine ⟨⟨r,hr,?_,h2⟩,fun ⟨s,hs,k1,k2⟩=>h3 ⟨s,hs,⟨by grind,by omega⟩,k2⟩⟩;refine Ba fun hn=>h3 ⟨r,hr,⟨by omega,by omega⟩,h2⟩
 .rintro ⟨⟨r,hr,h1,h2⟩,h3⟩;have hlt:=hv r hr;have hb:q.inB r p u v:=⟨⟨by omega,by omega⟩,h2⟩
  refine ⟨⟨r,hr,hb⟩,fun ⟨s,hs,k1,k2⟩=> ?_⟩;by_cases e:q.hi s=p
  .grind
  .have:=j4w hL q hr hs hb ⟨⟨by omega,by omega⟩,k2⟩
   grind
def TT (q:Ax) (L:List R6) (p:Int):List R4:=DI 2 (D4.out (Cf q L (p - 1))) (D4.out (Cf q L p))
def TX (q:Ax) (L:List R6) (p:Int):List R4:=DI 2 (D4.out (Cf q L p)) (D4.out (Cf q L (p - 1)))
section
variable (q:Ax) {L:List R6} (hv: ∀r∈L,Qv r=true) (hl:L.length<=20) (hL:L.Pairwise EQ)
include hv hl
theorem fw (p:Int):Few (Cf q L p) (D4.out (Cf q L p)) (Cf q L p).length :=u1m (S8 q hv p) (AF (x5r q L p) hl)
theorem v5r (p:Int):Xr.can (TT q L p)/\ ∀u v,CI Xr.inB (TT q L p) (u,v)↔(q.inL L (p - 1) u v/\ ¬q.inL L p u v):=by have f1:=fw q hv hl (p - 1);have f2:=fw q hv hl p;obtain ⟨h1,h2,_⟩:=GH 2 f1.val f2.val;refine ⟨h1,fun u v=> ?_⟩;rw [show CI Xr.inB (TT q L p) (u,v)↔_ from h2 (u,v),<-UQ,<-UQ,<-f1.pts,<-f2.pts];simp [Cp]
theorem u2e (p:Int):Xr.can (TX q L p)/\ ∀u v,CI Xr.inB (TX q L p) (u,v)↔(q.inL L p u v/\ ¬q.inL L (p - 1) u v):=by have f1:=fw q hv hl (p - 1);have f2:=fw q hv hl p;obtain ⟨h1,h2,_⟩:=GH 2 f2.val f1.val;refine ⟨h1,fun u v=> ?_⟩;rw [show CI Xr.inB (TX q L p) (u,v)↔_ from h2 (u,v),<-UQ,<-UQ,<-f1.pts,<-f2.pts];simp [Cp]
include hL
theorem u4b (p:Int):(TT q L p).length +(TX q L p).length <=((FY q L p).length +(FW q L p).length)*((FY q L p).length +(FW q L p).length):=by
 have hr: ∀r∈L,q.lo r<q.hi r:=fun r h=>(q.val (hv r h)).2.1;have va: ∀s∈FY q L p,Vo s=true:=fun s hs=>by obtain ⟨r,hr,rfl⟩:=AO.1 hs;exact (q.val (hv r (AX.1 hr).1)).1
 have vb: ∀s∈FW q L p,Vo s=true:=fun s hs=>by obtain ⟨r,hr,rfl⟩:=AO.1 hs;exact (q.val (hv r (AX.1 hr).1)).1
 obtain ⟨a1,a2,_⟩:=GH 2 va vb;obtain ⟨b1,b2,_⟩:=GH 2 vb va;obtain ⟨u1,u2⟩:=v5r q hv hl p;obtain ⟨d1,d2⟩:=u2e q hv hl p;have e1:TT q L p=DI 2 (FY q L p) (FW q L p):=Xr.uniq _ _ u1 a1 fun ⟨u,v⟩=>by
  grind [u4c,Cp]
 have e2:TX q L p=DI 2 (FW q L p) (FY q L p):=Xr.uniq _ _ d1 b1 fun ⟨u,v⟩=>by
  grind [v4d,Cp]
 rw [e1,e2];exact u6z va vb
end
def HW (q:Ax) (s:Bool) (L:List R6) (p:Int):List R4:=match s with
 | true=>TT q L p
 | false=>TX q L p
theorem NP (q:Ax) (L:List R6):(CR q L).Pairwise (· < ·):=by grind [CR,Kp,Wp]
theorem Tz (q:Ax) (L:List R6) (p:Int):p∈CR q L↔ ∃r∈L,p=q.lo r\/p=q.hi r:=by grind [CR,Kp,Wp,My]
theorem w0e (a:Int): ∀P:List Int,P.Pairwise (· < ·)->(P.map fun p=>if a=p then 1 else 0).sum <=1
 | [],_=>AA _
 | p::P,h=>by
  obtain ⟨h1,h2⟩:=AQ.1 h;rw [AT,BT];by_cases e:a=p
  .rw [AG e];have:(P.map fun p=>if a=p then 1 else 0)=P.map fun _=>0:=BR fun x hx=>by
    grind
   rw [this];have: ∀l:List Int,(l.map fun _=>0).sum =0:=fun l=>by induction l with
    | nil=>rfl
    | cons _ _ ih=>grind
   grind
  simp_all [w0e]
theorem y7c (f:R6->Int) (P:List Int) (hP:P.Pairwise (· < ·)) (g:R6->R4): ∀L:List R6,(P.map fun p=>((L.filter fun r=>decide (f r=p)).map g).length).sum <=L.length
 | []=>by
  have: ∀l:List Int,(l.map fun p=>((([]:List R6).filter fun r=>decide (f r=p)).map g).length).sum =0:=fun l=>by induction l with
   | nil=>rfl
   | cons _ _ ih=>grind
  grind
 | r::L=>by
  have ih:=y7c f P hP g L;have h1:=w0e (f r) P hP;have: ∀l:List Int,(l.map fun p=>(((r::L).filter fun r=>decide (f r=p)).map g).length).sum =(l.map fun p=>if f r=p then 1 else 0).sum +(l.map fun p=>((L.filter fun r=>decide (f r=p)).map g).length).sum :=fun l=>by
   induction l with
   | nil=>rfl
   | cons p l ih=>
    grind
  grind
def Qf (P:Prop):Nat:= @ite _ P (Classical.propDecidable P) 1 0
theorem Vv {P:Prop} (h:P):Qf P=1:= @AG _ (Classical.propDecidable P) h _ _ _
theorem Xy {P:Prop} (h: ¬P):Qf P=0:= @Aw _ (Classical.propDecidable P) h _ _ _
theorem x3i (w:Int): ∀s:List R2,Co s->(s.filter fun t=>decide (t.a<=w)&&decide (w<t.b)).length =Qf (pt s w)
 | [],_=>(Xy fun ⟨_,h,_⟩=>by cases h).symm
 | t::s,h=>by
  have ih:=x3i w s h.tail;have hd:=h.head;rw [List.filter_cons];by_cases q:t.a<=w/\w<t.b
  .rw [AG (by simp [q.1,q.2])];have e:(s.filter fun t=>decide (t.a<=w)&&decide (w<t.b))=[]:=List.filter_eq_nil_iff.2 fun r hr k=>by have:=hd r hr;simp only [Ae,Ar] at k;omega
   rw [e,Vv ⟨t,by simp,q⟩];rfl
  .rw [Aw (by simpa using q),ih];by_cases g:pt s w
   .rw [Vv g];obtain ⟨r,hr,k⟩:=g;rw [Vv ⟨r,by simp [hr],k⟩]
   .rw [Xy g,Xy];rintro ⟨r,hr,k⟩;rcases AH.1 hr with rfl | hr
    .exact q k
    .exact g ⟨r,hr,k⟩
def Gv (u w:Int) (t:R4):Bool:=(decide (t.a<=u)&&decide (u<t.c))&&(decide (t.b<=w)&&decide (w<t.d))
theorem u2y {l:List R4} (hc:Xr.can l) (u w:Int):(l.filter (Gv u w)).length =Qf (CI Xr.inB l (u,w)):=by
 have h1:=x3i w (D4.inn l u) (YO hc u);have e:((D4.inn l u).filter fun t=>decide (t.a<=w)&&decide (w<t.b)).length =(l.filter (Gv u w)).length :=by
  show (((l.filter fun r=>decide (r.a<=u)&&decide (u<r.c)).map fun r=>(⟨r.b,r.d⟩:R2)).filter _).length =_;rw [List.filter_map,Bu,List.filter_filter]
  congr 1
  refine List.filter_congr fun r _=> ?_;unfold Gv;simp only [Function.comp];exact Bool.and_comm _ _
 rw [<-e,h1];have:pt (D4.inn l u) w↔CI Xr.inB l (u,w):=UA l u w;by_cases g:pt (D4.inn l u) w
 .rw [Vv g,Vv (this.1 g)]
 .rw [Xy g,Xy fun k=>g (this.2 k)]
def Fw (q:Ax) (L:List R6) (u w p:Int):Int:=(Qf (q.inL L p u w):Int)
theorem v2q (A B:Prop):(Qf (A/\ ¬B):Int) - (Qf (B/\ ¬A):Int)=(Qf A:Int) - (Qf B:Int):=by
 by_cases a:A <;> by_cases b:B
 .rw [Xy fun k=>k.2 b,Xy fun k=>k.2 a,Vv a,Vv b];rfl
 .rw [Vv ⟨a,b⟩,Xy fun k=>b k.1,Vv a,Xy b]
 .rw [Xy fun k=>a k.1,Vv ⟨b,a⟩,Xy a,Vv b]
 .rw [Xy fun k=>a k.1,Xy fun k=>b k.1,Xy a,Xy b]
theorem v6q (g:Int->Int) (c:Int): ∀P:List Int,c ∉ P->sm P (fun x=>if x=c then g x else 0)=0
 | [],_=>rfl
 | x::P,h=>by rw [Wr,v6q g c P (fun k=>h (by simp [k])),Aw (fun e=>h (by simp [e]))];rfl
theorem j1l (g:Int->Int) (c:Int): ∀P:List Int,P.Pairwise (· < ·)->(c ∉ P->g c=0)->sm P (fun x=>if x=c then g x else 0)=g c
 | [],_,h=>(h (by simp)).symm
 | x::P,hP,h=>by
  obtain ⟨h1,h2⟩:=AQ.1 hP;rw [Wr];by_cases e:x=c
  .subst e;rw [AG rfl,v6q g x P fun k=>by have:=h1 x k;omega];omega
  .rw [Aw e,j1l g c P h2 fun k=>h (by simp [k,Ne.symm e])];omega
theorem j1k (g:Int->Int) (lo:Int) (P:List Int) (hP:P.Pairwise (· < ·)) (hl: ∀x∈P,lo<=x) (hz: ∀x,x ∉ P->g x=0): ∀n:Nat,sm P (fun x=>if x<lo+(n:Int) then g x else 0)=sm (GP lo n) g
 | 0=>by show _=(0:Int);rw [Yp (g:=fun _=>0) fun x hx=>Aw (by have:=hl x hx;omega),GI]
 | n+1=>by
  have ih:=j1k g lo P hP hl hz n;unfold GP at ih ⊢;rw [Bj,A8,Ji,<-ih,AT,Bi,Wr,GF,<-j1l g (lo+(n:Int)) P hP (hz _),Bv,<-Eh];exact Yp fun x _=>by
   by_cases h1:x<lo+(n:Int)
   .rw [AG h1,AG (by omega),Aw (by omega)];omega
   .by_cases h2:x=lo+(n:Int)
    .rw [Aw h1,AG h2,AG (by omega)];omega
    .rw [Aw h1,Aw h2,Aw (by omega)];rfl
theorem KR (f:Int->Int) (lo:Int): ∀n:Nat,sm (GP lo n) (fun x=>f (x - 1) - f x)=f (lo - 1) - f (lo+(n:Int) - 1)
 | 0=>by show (0:Int)=_;rw [show lo+((0:Nat):Int) - 1=lo - 1 by omega];omega
 | n+1=>by have ih:=KR f lo n;unfold GP at ih ⊢;rw [Bj,A8,Ji,ih,AT,Bi,Wr,GF,show lo+((n+1:Nat):Int) - 1=lo+(n:Int) by omega];omega
theorem j6r (f:Int->Int) (lo:Int): ∀n:Nat,sm (GP lo n) (fun x=>x*(f (x - 1) - f x))=sm (GP lo n) f+lo*f (lo - 1) - (lo+(n:Int))*f (lo+(n:Int) - 1)
 | 0=>by show (0:Int)=0+_ - _;rw [show lo+((0:Nat):Int)=lo by omega];omega
 | n+1=>by have ih:=j6r f lo n;unfold GP at ih ⊢;rw [Bj,A8,Ji,Ji,ih,AT,Bi,Wr,GF,Wr,GF,show lo+((n+1:Nat):Int) - 1=lo+(n:Int) by omega,show lo+((n+1:Nat):Int)=(lo+(n:Int))+1 by omega];generalize lo+(n:Int)=c;rw [Int.mul_sub,Int.add_mul c 1,Int.one_mul];omega
structure Ru (p:List Int):Prop where
 pts:Rt p
 sum: ∀(g:Int->Int) (P:List Int),P.Pairwise (· < ·)->(∀x∈P,-1000005<=x/\x<1000005)->(∀x,x ∉ P->g x=0)->sm P g=sm p g
 tel: ∀f:Int->Int,f (-1000006)=0->f 1000004=0->sm p (fun x=>f (x - 1) - f x)=0
 abel: ∀f:Int->Int,f (-1000006)=0->f 1000004=0->sm p (fun x=>x*(f (x - 1) - f x))=sm p f
theorem PQ : ∃p,Ru p:=by
 have key: ∀N:Nat,(N:Int)=2000010->Ru (GP (-1000005) N):=fun N hN=>by
  have e1:(-1000005:Int) - 1= -1000006:=by decide
  have e2:(-1000005:Int)+(N:Int) - 1=1000004:=by omega
  refine ⟨⟨fun a b h=> ?_,?_⟩,fun g P hP hb hz=> ?_,fun f h1 h2=> ?_,fun f h1 h2=> ?_⟩
  .rw [u0w];unfold CK;omega
  .simp only [GP,Bu,List.length_range];omega
  .rw [<-j1k g (-1000005) P hP (fun x hx=>(hb x hx).1) hz N];exact Yp fun x hx=>(AG (by have:=hb x hx;omega)).symm
  .rw [KR,e1,e2,h1,h2];rfl
  .rw [j6r,e1,e2,h1,h2];omega
 exact ⟨_,key 2000010 rfl⟩
def A4 (l:List R4):Int:=sm l fun t=>(t.c - t.a)*(t.d - t.b)
theorem K9 (u w:Int): ∀l:List R4,sm l (fun t=>Cu t.a t.c u*Cu t.b t.d w)=((l.filter (Gv u w)).length :Int)
 | []=>rfl
 | t::l=>by
  rw [Wr,K9 u w l,List.filter_cons];unfold Cu Gv;by_cases h1:t.a<=u/\u<t.c <;> by_cases h2:t.b<=w/\w<t.d
  .rw [AG h1,AG h2,AG (by simp [h1,h2]),Bn];omega
  .rw [AG h1,Aw h2,Aw (by simpa [h1] using h2)];omega
  .rw [Aw h1,Bp,Aw (by simp only [Ae,Ar];exact fun k=>h1 k.1)];omega
  .rw [Aw h1,Bp,Aw (by simp only [Ae,Ar];exact fun k=>h1 k.1)];omega
theorem SA {p:List Int} (hp:Rt p) {l:List R4} (hc:Xr.can l) (hv: ∀r∈l,Vo r=true):A4 l=sm p fun u=>sm p fun w=>((Qf (CI Xr.inB l (u,w)):Nat):Int):=by
 have one: ∀t∈l,(t.c - t.a)*(t.d - t.b)=sm p fun u=>sm p fun w=>Cu t.a t.c u*Cu t.b t.d w:=fun t ht=>by have v:=hv t ht;simp only [Vo,Ae,Ar] at v;rw [Yp (fun u _=>UD p (Cu t.b t.d) (Cu t.a t.c u)),w6z,hp.1 _ _ (by omega),hp.1 _ _ (by omega)];rw [show max 0 (t.c - t.a)=t.c - t.a by omega,show max 0 (t.d - t.b)=t.d - t.b by omega]
 unfold A4;rw [Yp one,G7 l p];refine Yp fun u _=> ?_;rw [G7 l p];exact Yp fun w _=>by rw [K9,u2y hc]
def upI (q:Ax) (L:List R6) (u w x:Int):Int:=(Qf (q.inL L (x - 1) u w/\ ¬q.inL L x u w):Int)
def dnI (q:Ax) (L:List R6) (u w x:Int):Int:=(Qf (q.inL L x u w/\ ¬q.inL L (x - 1) u w):Int)
def faI (s:Bool) (q:Ax) (L:List R6) (u w x:Int):Int:=match s with
 | true=>upI q L u w x
 | false=>dnI q L u w x
theorem VC (q:Ax) (L:List R6) (u w x:Int):upI q L u w x - dnI q L u w x=Fw q L u w (x - 1) - Fw q L u w x:=v2q _ _
theorem Qt {P Q:Prop} (h:P↔Q):Qf P=Qf Q:=by
 by_cases g:P
 .rw [Vv g,Vv (h.1 g)]
 .rw [Xy g,Xy fun k=>g (h.2 k)]
def FA (p:List Int) (q:Ax) (s:Bool) (L:List R6):Int:=sm p fun u=>sm p fun w=>sm p fun x=>faI s q L u w x
theorem u0y {L:List R6} (hv: ∀r∈L,Qv r=true) (q:Ax) {x u w:Int} (h:q.inL L x u w):(-1000000<=x/\x<1000000)/\(-1000000<=u/\u<1000000)/\(-1000000<=w/\w<1000000):=by obtain ⟨r,hr,⟨h1,h2⟩,h3,h4⟩:=h;obtain ⟨v,_,h5,h6⟩:=q.val (hv r hr);simp only [Vo,Ae,Ar] at v;omega
theorem u0z {L:List R6} (hv: ∀r∈L,Qv r=true) (q:Ax) (u w:Int) {x:Int} (hx:x< -1000000\/1000000<=x):Fw q L u w x=0:=by unfold Fw;rw [Xy];rfl;intro k;have:=(u0y hv q k).1;omega
theorem t5u {L:List R6} (hv: ∀r∈L,Qv r=true) {p:List Int} (hp:Ru p) (q:Ax):FA p q true L=FA p q false L:=by
 have h:FA p q true L - FA p q false L=0:=by unfold FA;rw [<-KG,Yp (g:=fun _=>0),GI];intro u _;rw [<-KG,Yp (g:=fun _=>0),GI];intro w _;rw [<-KG,<-hp.tel (Fw q L u w) (u0z hv q u w (.inl (by decide))) (u0z hv q u w (.inr (by decide)))];exact Yp fun x _=>VC q L u w x
 omega
theorem W8 {L:List R6} {p:List Int} (q:Ax):FA p q false L=(sm p fun u=>sm p fun w=>sm p fun x=>Fw q L u w x) - sm p fun u=>sm p fun w=>sm p fun x=>Fw q L u w (x - 1)*Fw q L u w x:=by
 unfold FA;rw [<-KG];refine Yp fun u _=> ?_;rw [<-KG];refine Yp fun w _=> ?_;rw [<-KG];refine Yp fun x _=> ?_;show ((Qf (q.inL L x u w/\ ¬q.inL L (x - 1) u w):Nat):Int)=(Qf (q.inL L x u w):Int) - (Qf (q.inL L (x - 1) u w):Int)*(Qf (q.inL L x u w):Int);by_cases a:q.inL L x u w <;> by_cases b:q.inL L (x - 1) u w
 .rw [Vv a,Vv b,Xy fun k=>k.2 b];rfl
 .rw [Vv a,Xy b,Vv ⟨a,b⟩];rfl
 .rw [Xy a,Vv b,Xy fun k=>a k.1];rfl
 .rw [Xy a,Xy b,Xy fun k=>a k.1];rfl
theorem KQ (p:List Int) (q:Ax) (G:Int×Int×Int->Int):(sm p fun u=>sm p fun w=>sm p fun t=>G (q.to t u w))=S3 p fun x y z=>G (x,y,z):=by
 cases q
 .show (sm p fun u=>sm p fun w=>sm p fun t=>G (t,u,w))=sm p fun x=>sm p fun y=>sm p fun z=>G (x,y,z);rw [G7 p p fun x y=>sm p fun z=>G (x,y,z)];exact Yp fun u _=>G7 p p _
 .exact Yp fun u _=>G7 p p _
 .rfl
theorem w4e {L:List R6} (ha:L.Pairwise EQ) (q:Ax) (u w x:Int):Fw q L u w x=DK L (q.to x u w).1 (q.to x u w).2.1 (q.to x u w).2.2:=by
 obtain ⟨c1,c2⟩:=R0 L ha (q.to x u w).1 (q.to x u w).2.1 (q.to x u w).2.2;unfold Fw;rw [Qt (q.inL_S L x u w)];by_cases g:CY L (q.to x u w).1 (q.to x u w).2.1 (q.to x u w).2.2
 .rw [Vv g,c1 g];rfl
 .rw [Xy g,c2 g];rfl
theorem RZ (q:Ax) (X:List R6) (t u w:Int):DK (X.map (nx (2*q.ix))) (q.to t u w).1 (q.to t u w).2.1 (q.to t u w).2.2=DK X (q.to (t - 1) u w).1 (q.to (t - 1) u w).2.1 (q.to (t - 1) u w).2.2:=by
 unfold DK;rw [v6r];refine Yp fun r _=> ?_;cases q
 .show Cu (r.a+1) (r.d+1) t*_*_=_;rw [u0x];rfl
 .show _*Cu (r.b+1) (r.e+1) t*_=_;rw [u0x];rfl
 .show _*_*Cu (r.c+1) (r.f+1) t=_;rw [u0x];rfl
theorem S5 {L:List R6} (h:Zf L=0) {p:List Int} (hp:Ru p) (q:Ax) (s:Bool):FA p q s L=sm L DW - E2 (2*q.ix) L L:=by
 have hs:=TZ.of h;have e:FA p q s L=FA p q false L:=by
  cases s
  .rfl
  .exact t5u hs.val hp q
 rw [e,W8 q,OL hp.pts hs,Wl hp.pts (2*q.ix) (by cases q <;> decide) L hs.val,<-KQ p q fun v=>DK L v.1 v.2.1 v.2.2,<-KQ p q fun v=>DK (L.map (nx (2*q.ix))) v.1 v.2.1 v.2.2*DK L v.1 v.2.1 v.2.2];have e1:(sm p fun u=>sm p fun w=>sm p fun x=>Fw q L u w x)=sm p fun u=>sm p fun w=>sm p fun t=>DK L (q.to t u w).1 (q.to t u w).2.1 (q.to t u w).2.2:=Yp fun u _=>Yp fun w _=>Yp fun x _=>w4e hs.ap q u w x;have e2:(sm p fun u=>sm p fun w=>sm p fun x=>Fw q L u w (x - 1)*Fw q L u w x)=sm p fun u=>sm p fun w=>sm p fun t=>DK (L.map (nx (2*q.ix))) (q.to t u w).1 (q.to t u w).2.1 (q.to t u w).2.2*DK L (q.to t u w).1 (q.to t u w).2.1 (q.to t u w).2.2:=Yp fun u _=>Yp fun w _=>Yp fun x _=>by rw [w4e hs.ap,w4e hs.ap,RZ]
 rw [e1,e2]
theorem Rw {L:List R6} (h:Zf L=0) {p:List Int} (hp:Ru p):FA p .x true L+FA p .x false L+(FA p .y true L+FA p .y false L)+(FA p .z true L+FA p .z false L)=Ed L L.length:=by have hs:=TZ.of h;rw [x3r hs,S5 h hp .x true,S5 h hp .x false,S5 h hp .y true,S5 h hp .y false,S5 h hp .z true,S5 h hp .z false];have e0:E2 1 L L=E2 0 L L:=w6r 1 (by omega) L L;have e1:E2 3 L L=E2 2 L L:=w6r 3 (by omega) L L;have e2:E2 5 L L=E2 4 L L:=w6r 5 (by omega) L L;show sm L DW - E2 0 L L+(sm L DW - E2 0 L L)+(sm L DW - E2 2 L L+(sm L DW - E2 2 L L))+(sm L DW - E2 4 L L+(sm L DW - E2 4 L L))=_;unfold u5f;rw [e0,e1,e2];omega
theorem x8k (E:Int->Int) (cs:List Int): ∀(k i:Nat),Cv E cs k i=0-> ∀j,i<=j->j<i+k->E (rd cs j)=0
 | 0,i,_,j,h1,h2=>by omega
 | k+1,i,h,j,h1,h2=>by
  change (bif E (rd cs i) != 0 then E (rd cs i) else Cv E cs k (i+1))=0 at h;cases g:(E (rd cs i) != 0) with
  | true=>rw [g,Ab] at h;rw [h] at g;cases g
  | false=>
   rw [g,Aa] at h;rcases A1 h1 with e | e
   .rw [<-e];simpa using g
   .exact x8k E cs k (i+1) h j e (by omega)
theorem CJ.goS_congr {α β:Type} (D:CJ α β) (f g:Int->List β) (cs:List Int): ∀(k i:Nat) (s:Sw α β),(∀j,i<=j->j<i+k->f (rd cs j)=g (rd cs j))->D.goS f cs k i s=D.goS g cs k i s
 | 0,i,s,_=>rfl
 | k+1,i,s,h=>by show D.goS f cs k (i+1) (D.oneS (f (rd cs i)) _ _ s)=D.goS g cs k (i+1) (D.oneS (g (rd cs i)) _ _ s);rw [h i (Aq _) (by omega)];exact goS_congr D f g cs k (i+1) _ fun j h1 h2=>h j (by omega) (by omega)
theorem x3y {q:Op} {a b:List R6} (h:Da q a b=0):Zf a=0/\Zf b=0/\Cv (Ck q a b) (D6.cuts (a++b)) ((D6.cuts (a++b)).length - 1) 0=0:=by
 unfold Da at h;cases g1:(Zf a != 0) with
 | true=>rw [g1,Ab] at h;rw [h] at g1;cases g1
 | false=>
  cases g2:(Zf b != 0) with
  | true=>rw [g1,g2,Aa,Ab] at h;rw [h] at g2;cases g2
  | false=>
   rw [g1,g2,Aa,Aa] at h;unfold eJ at h;refine ⟨by simpa using g1,by simpa using g2,?_⟩;cases g3:(Cv (Ck q a b) (D6.cuts (a++b)) ((D6.cuts (a++b)).length - 1) 0 != 0) with
   | true=>rw [g3,Ab] at h;rw [h] at g3;cases g3
   | false=>simpa using g3
theorem v8p {l:List R4} (h:Cz l=0): ∀r∈l,Vo r=true:=by
 unfold Cz at h;cases g1:decide (400<l.length) with
 | true=>rw [g1] at h;cases h
 | false=>
  cases g2:l.all Vo with
  | false=>rw [g1,g2] at h;cases h
  | true=>exact At.1 g2
theorem v8k {l:List R4} (h:Xk l=0):l.length<=400/\(∀r∈l,Vo r=true)/\Za l=D4.out l:=by
 unfold Xk at h;cases g1:decide (400<l.length) with
 | true=>rw [g1] at h;cases h
 | false=>
  cases g2:l.all Vo with
  | false=>rw [g1,g2] at h;cases h
  | true=>
   rw [g1,g2,Aa,Ab] at h;have hl:l.length<=400:=by have:=Bf g1;omega
   refine ⟨hl,At.1 g2,?_⟩;have h2:(D4.out l).length <=400:=UG h;exact (Qk (At.1 g2) hl h2).1
instance ptDec6 (l:List R6) (p:Int×Int×Int):Decidable (CI C5.inB l p):=Classical.propDecidable _
theorem v7b {q:Op} {a b:List R6} {x:Int} (h:Ck q a b x=0):Xr.can (C9 q a b x)/\ ∀p,CI Xr.inB (C9 q a b x) p↔Cp q.k (decide (CI C5.inB a (x,p))) (decide (CI C5.inB b (x,p)))=true:=by
 obtain ⟨h1,h2,h3⟩:=x3z h;obtain ⟨c1,c2,_⟩:=x4r h3;obtain ⟨k1,k2,_⟩:=GH q.k (v8p c1) (v8p c2);refine ⟨k1,fun p=> ?_⟩;have e: ∀l:List R6,Xk (D6.inn l x)=0->decide (CI Xr.inB (Za (D6.inn l x)) p)=decide (CI C5.inB l (x,p)):=fun l hl=>by
  obtain ⟨m1,m2,m3⟩:=v8k hl;have:CI Xr.inB (Za (D6.inn l x)) p↔CI C5.inB l (x,p):=by rw [m3,(Ko m2 m1).2 p];exact CJ.pt_inn (D:=D6) Xr.inB l x p
  exact decide_eq_decide.2 this
 rw [show CI Xr.inB (C9 q a b x) p↔_ from k2 p,e a h1,e b h2]
theorem u4z {q:Op} {a b:List R6} (h:Cv (Ck q a b) (D6.cuts (a++b)) ((D6.cuts (a++b)).length - 1) 0=0):C5.can (Dq q a b)/\ ∀p,CI C5.inB (Dq q a b) p↔Cp q.k (decide (CI C5.inB a p)) (decide (CI C5.inB b p))=true:=by
 have hf:=x8k _ _ _ _ h;have hc:(D6.cuts (a++b)).Pairwise (· < ·):=by show (Kz (D6.ends (a++b))).Pairwise (· < ·);rw [Kp];exact (Wp _).1
 have eS:Dq q a b=(D6.goS (fun x=>bif Ck q a b x != 0 then [] else C9 q a b x) (D6.cuts (a++b)) ((D6.cuts (a++b)).length - 1) 0 ⟨[],[],0,0⟩).out :=by unfold Dq;rw [D6.goS_congr (C9 q a b) (fun x=>bif Ck q a b x != 0 then [] else C9 q a b x)];intro j h1 h2;show _=bif Ck q a b _ != 0 then _ else _;rw [hf j h1 h2];rfl
 have hs: ∀x,Xr.can (bif Ck q a b x != 0 then [] else C9 q a b x):=fun x=>by
  cases g:(Ck q a b x != 0) with
  | true=>exact Xr.nil
  | false=>exact (v7b (by simpa using g)).1
 obtain ⟨h1,h2⟩:=CJ.goS_can HE SS Xr (cs:=D6.cuts (a++b)) hc hs;rw [eS];refine ⟨h1,fun ⟨x,p⟩=> ?_⟩;rw [show CI C5.inB _ (x,p)↔_ from h2 x p];have ia: ∀j,j+1<(D6.cuts (a++b)).length ->rd (D6.cuts (a++b)) j<=x->x<rd (D6.cuts (a++b)) (j+1)->(CI Xr.inB (bif Ck q a b (rd (D6.cuts (a++b)) j) != 0 then [] else C9 q a b (rd (D6.cuts (a++b)) j)) p↔Cp q.k (decide (CI C5.inB a (x,p))) (decide (CI C5.inB b (x,p)))=true):=fun j j1 j2 j3=>by
  have z:=hf j (AA _) (by omega);have e: ∀l:List R6,(∀r∈l,r∈a++b)->decide (CI C5.inB l (rd (D6.cuts (a++b)) j,p))=decide (CI C5.inB l (x,p)):=fun l hl=>by
   have:CI C5.inB l (rd (D6.cuts (a++b)) j,p)↔CI C5.inB l (x,p):=by rw [show CI C5.inB l (rd (D6.cuts (a++b)) j,p)↔_ from (CJ.pt_inn (D:=D6) Xr.inB l _ p).symm,CJ.inn_slab (a++b) l hl j1 j2 j3];exact CJ.pt_inn (D:=D6) Xr.inB l x p
   exact decide_eq_decide.2 this
  rw [z,show ((0:Int) != 0)=false from rfl,Aa,(v7b z).2,e a fun r hr=>AI.2 (.inl hr),e b fun r hr=>AI.2 (.inr hr)]
 constructor
 .rintro ⟨j,j1,j2,j3,j4⟩;exact (ia j j1 j2 j3).1 j4
 .intro hp;refine Ba fun hn=> ?_;have hx: ∀j,j+1<(D6.cuts (a++b)).length -> ¬(rd (D6.cuts (a++b)) j<=x/\x<rd (D6.cuts (a++b)) (j+1)):=fun j j1 j2=>hn ⟨j,j1,j2.1,j2.2,(ia j j1 j2.1 j2.2).2 hp⟩;have e: ∀l:List R6,(∀r∈l,r∈a++b)->decide (CI C5.inB l (x,p))=false:=fun l hl=>Av fun g=>by have g:=(CJ.pt_inn (D:=D6) Xr.inB l x p).2 g;rw [CJ.inn_out (a++b) l hl hx] at g;exact JT _ _ g
  rw [e a fun r hr=>AI.2 (.inl hr),e b fun r hr=>AI.2 (.inr hr),v9k] at hp;cases hp
instance inSDec (l:List R6) (x y z:Int):Decidable (CY l x y z):=Classical.propDecidable _
theorem w0s {q:Op} {a b:List R6} (h:Da q a b=0):C5.can (Dq q a b)/\ ∀p,CI C5.inB (Dq q a b) p↔Cp q.k (decide (CI C5.inB a p)) (decide (CI C5.inB b p))=true:=u4z (x3y h).2.2
open Go.Proofs.Tryz
inductive IC where
 | h0 (v8:Int)
 | h1 (v16:Int) (aD:List Int)
 | h2 (v4:Int) (aH:List R6) (aW:List R4) (bE:Int) (bF:Int) (aF:Nat) (aK:List Int)
 | h3 (v4:Int) (v38:Int) (aH:List R6) (aW:List R4) (bE:Int) (bF:Int) (aF:Nat) (aK:List Int) (aG:Int) (bC:Int) (aA:List R4)
 | h4 (v1:Int) (v2:Int) (v72:List R4) (v73:Int) (v74:Int) (bR:List R4) (aY:Int) (aC:List R6) (bD:List R4) (aZ:Int) (aF:Nat) (aK:List Int) (aG:List R4)
 | h5 (v2:Int) (v8:Int) (cB:Int) (bR:List R4) (aY:Int) (aC:List R6) (bD:List R4) (aZ:Int) (bT:Int) (bP:Nat) (bX:List Int) (aA:List R4)
def Oa (l0:List R6):IC->CB
 | .h0 v8=>⟨⟨19,0,true⟩,none,(Zg prog 148 [1,0,1,0,0] 0),none,(Zy prog 6),⟨Yj [(0,(.dat l0.length (Zz l0))),(1,(.fn 104 [])),(7,(ii (l0.length:Int))),(8,(ii v8))],Vk [] 0,0,[],true⟩,[⟨⟨9,0,true⟩,(Vm prog 103 [1,0] 2),(Zg prog 103 [1,0] 1),none,(Zy prog 6),Yj [(5,(.dat l0.length (Zz l0))),(6,(.fn 104 []))]⟩,⟨⟨15,0,true⟩,(Vm prog 74 [1,1,0,0] 1),(Zg prog 74 [1,1,0,0] 1),none,(Zy prog 14),Yj [(0,(.dat l0.length (Zz l0))),(7,(.dat l0.length (Zz l0)))]⟩],.leaf⟩
 | .h1 v16 aD=>⟨⟨36,0,true⟩,none,(Zg prog 135 [1,1,0,1,0,0,1,1,0,0,1,1,0,0] 0),none,(Zy prog 9),⟨Yj [(1,(.ptr 0 0)),(3,(.ptr 2 0)),(8,(.sl 1 0 1 (.un 1))),(9,(ii 1)),(10,(ii 0)),(14,(.dat l0.length (Zz l0))),(15,(ii (l0.length:Int))),(16,(ii v16))],Vk [⟨[(.sl 1 0 1 (.un 1))],177,none⟩,⟨[(.dat l0.length (Zz l0))],32,none⟩,⟨[(.sla 7 1 0 aD.length (.un 1))],125,none⟩,⟨[.nilf],101,none⟩,⟨[.nils],33,none⟩,⟨[(ii 0)],24,none⟩,⟨[.nils,.nils,(ii 0),(ii 0)],179,none⟩,⟨Ya aD.length (Zz aD),3,some ⟨1,aD.length,(Zz aD)⟩⟩] 0,8,[],true⟩,[⟨⟨65,0,true⟩,(Vm prog 93 [1,1,0,0] 1),(Zg prog 93 [1,1,0,0] 1),none,(Zy prog 93),Yj [(2,(.ptr 3 0)),(4,(.ptr 4 0)),(5,(.ptr 5 0)),(6,(.ptr 6 0)),(13,(.sl 1 0 1 (.un 1)))]⟩,⟨⟨15,0,true⟩,(Vm prog 74 [1,1,1,0] 3),(Zg prog 74 [1,1,1,0] 1),none,(Zy prog 14),Yj [(9,(.agg [.nilf])),(11,(.sl 1 0 1 (.un 1)))]⟩],.leaf⟩
 | .h2 v4 aH aW bE bF aF aK=>⟨⟨86,0,true⟩,none,(Zg prog 162 [1,0,0] 0),none,[],⟨Yj [(0,(.yld 0)),(1,(.ptr 5 0)),(2,(.ptr 7 0)),(4,(ii v4))],Ch [(1,⟨[.nilf],101,none⟩),(2,⟨[.nils],33,none⟩),(3,⟨[(ii 0)],24,none⟩),(4,⟨[(.sla 9 6 0 aH.length (.un 6)),(.dat aW.length (Zz aW)),(ii bE),(ii bF)],179,none⟩),(5,⟨[(.sla 6 1 0 aF (.un 1))],125,none⟩),(6,⟨Ya aK.length (Zz aK),3,some ⟨1,aK.length,(Zz aK)⟩⟩),(7,⟨[(.sl 8 0 1 (.un 1))],177,none⟩),(8,⟨[(.dat l0.length (Zz l0))],32,none⟩),(9,⟨Ya aH.length (Zz aH),57,some ⟨6,aH.length,(Zz aH)⟩⟩)],10,[],true⟩,[⟨⟨65,0,true⟩,none,(.inRangeFunc 0::(Zg prog 93 [1,1,0,1,0] 1)),none,(Zy prog 93),Yj [(4,(.ptr 2 0)),(5,(.ptr 3 0)),(6,(.ptr 4 0))]⟩,⟨⟨15,0,true⟩,(Vm prog 74 [1,1,1,0] 3),(Zg prog 74 [1,1,1,0] 1),none,(Zy prog 14),Yj [(9,(.agg [.nilf])),(11,(.sl 8 0 1 (.un 1)))]⟩],(DH [(0,⟨.ready,none,65,Yj [(2,(.ptr 1 0)),(4,(.ptr 2 0)),(5,(.ptr 3 0)),(6,(.ptr 4 0))],[15],(Wc prog 93 [1,1,0,1,0,0]),(Wc prog 93 [1,1,0,1,0,1])⟩)])⟩
 | .h3 v4 v38 aH aW bE bF aF aK aG bC aA=>⟨⟨86,0,true⟩,none,(Zg prog 162 [1,0,0,1,0,0,1,0,1,0,0,1,1,0,0,1,1,0,0] 0),none,[],⟨Yj [(0,(.yld 0)),(1,(.ptr 5 0)),(2,(.ptr 7 0)),(4,(ii v4)),(5,(.ptr 9 0)),(6,(ii 0)),(29,(.sl 8 0 1 (.un 1))),(30,(ii 1)),(31,(ii 0)),(36,(.dat l0.length (Zz l0))),(37,(ii (l0.length:Int))),(38,(ii v38))],Ch [(1,⟨[.nilf],101,none⟩),(2,⟨[.nils],33,none⟩),(3,⟨[(ii 0)],24,none⟩),(4,⟨[(.sla 12 6 0 aH.length (.un 6)),(.dat aW.length (Zz aW)),(ii bE),(ii bF)],179,none⟩),(5,⟨[(.sla 6 1 0 aF (.un 1))],125,none⟩),(6,⟨Ya aK.length (Zz aK),3,some ⟨1,aK.length,(Zz aK)⟩⟩),(7,⟨[(.sl 8 0 1 (.un 1))],177,none⟩),(8,⟨[(.dat l0.length (Zz l0))],32,none⟩),(9,⟨[(ii aG),(ii bC),(.sl 10 0 1 (.ex 1))],184,none⟩),(10,⟨[(.sla 11 4 0 aA.length (.un 4))],80,none⟩),(11,⟨Ya aA.length (Zz aA),116,some ⟨4,aA.length,(Zz aA)⟩⟩),(12,⟨Ya aH.length (Zz aH),57,some ⟨6,aH.length,(Zz aH)⟩⟩)],13,[],true⟩,[⟨⟨65,0,true⟩,none,(.inRangeFunc 0::(Zg prog 93 [1,1,0,1,0] 1)),none,(Zy prog 93),Yj [(4,(.ptr 2 0)),(5,(.ptr 3 0)),(6,(.ptr 4 0))]⟩,⟨⟨15,0,true⟩,(Vm prog 74 [1,1,1,0] 3),(Zg prog 74 [1,1,1,0] 1),none,(Zy prog 14),Yj [(9,(.agg [.nilf])),(11,(.sl 8 0 1 (.un 1)))]⟩],(DH [(0,⟨.ready,none,65,Yj [(2,(.ptr 1 0)),(4,(.ptr 2 0)),(5,(.ptr 3 0)),(6,(.ptr 4 0))],[15],(Wc prog 93 [1,1,0,1,0,0]),(Wc prog 93 [1,1,0,1,0,1])⟩)])⟩
 | .h4 v1 v2 v72 v73 v74 bR aY aC bD aZ aF aK aG=>⟨⟨101,0,true⟩,none,(Zg prog 136 [1,1,1,0,0] 0),none,[],⟨Yj [(0,(.ptr 0 0)),(1,(ii v1)),(2,(ii v2)),(72,(.dat v72.length (Zz v72))),(73,(ii v73)),(74,(ii v74))],Ch [(0,⟨[(.sla 10 6 0 aC.length (.un 6)),(.dat bD.length (Zz bD)),(ii aZ),(ii v2)],179,none⟩),(2,⟨[.nilf],101,none⟩),(3,⟨[.nils],33,none⟩),(4,⟨[(ii 0)],24,none⟩),(5,⟨[(.sla 6 1 0 aF (.un 1))],125,none⟩),(6,⟨Ya aK.length (Zz aK),3,some ⟨1,aK.length,(Zz aK)⟩⟩),(7,⟨[(.sl 8 0 1 (.un 1))],177,none⟩),(8,⟨[(.dat l0.length (Zz l0))],32,none⟩),(9,⟨[(.dat aG.length (Zz aG))],80,none⟩),(10,⟨Ya aC.length (Zz aC),57,some ⟨6,aC.length,(Zz aC)⟩⟩)],11,[],true⟩,[⟨⟨65,0,true⟩,(Vm prog 93 [1,1,0,1,0,1,0,1,1,1] 5),(Zg prog 93 [1,1,0,1,0,1,0,1,1,1] 1),(some 1),[],Yj [(6,(.ptr 0 0)),(54,(ii v1)),(56,(ii v2)),(57,(.dat bR.length (Zz bR)))]⟩,⟨⟨86,0,true⟩,(Vm prog 162 [1,0,0,1,0,0,1,1,0] 2),(Zg prog 162 [1,0,0,1,0,0,1,1,0] 1),none,[],Yj [(0,(.yld 1)),(1,(.ptr 5 0)),(2,(.ptr 7 0)),(4,(ii aY)),(82,(.yld 1)),(83,(.agg [(ii v1),(ii v2),(.sl 9 0 1 (.ex 1))]))]⟩,⟨⟨65,0,true⟩,none,(.inRangeFunc 1::(Zg prog 93 [1,1,0,1,0] 1)),none,(Zy prog 93),Yj [(4,(.ptr 3 0)),(5,(.ptr 4 0)),(6,(.ptr 0 0))]⟩,⟨⟨15,0,true⟩,(Vm prog 74 [1,1,1,0] 3),(Zg prog 74 [1,1,1,0] 1),none,(Zy prog 14),Yj [(9,(.agg [.nilf])),(11,(.sl 8 0 1 (.un 1)))]⟩],(DH [(1,⟨.busy,none,65,Yj [(2,(.ptr 2 0)),(4,(.ptr 3 0)),(5,(.ptr 4 0)),(6,(.ptr 0 0))],[15],(Wc prog 93 [1,1,0,1,0,0]),(Wc prog 93 [1,1,0,1,0,1])⟩)])⟩
 | .h5 v2 v8 cB bR aY aC bD aZ bT bP bX aA=>⟨⟨101,0,true⟩,none,(Zg prog 136 [0,1,0,0,1,0,0] 0),none,[],⟨Yj [(0,(.ptr 0 0)),(2,(ii v2)),(8,(ii v8))],Ch [(0,⟨[(.sla 1 6 0 aC.length (.un 6)),(.dat bD.length (Zz bD)),(ii aZ),(ii bT)],179,none⟩),(1,⟨Ya aC.length (Zz aC),57,some ⟨6,aC.length,(Zz aC)⟩⟩),(3,⟨[.nilf],101,none⟩),(4,⟨[.nils],33,none⟩),(5,⟨[(ii 0)],24,none⟩),(6,⟨[(.sla 7 1 0 bP (.un 1))],125,none⟩),(7,⟨Ya bX.length (Zz bX),3,some ⟨1,bX.length,(Zz bX)⟩⟩),(8,⟨[(.sl 9 0 1 (.un 1))],177,none⟩),(9,⟨[(.dat l0.length (Zz l0))],32,none⟩),(10,⟨[(.dat aA.length (Zz aA))],80,none⟩)],11,[],true⟩,[⟨⟨65,0,true⟩,(Vm prog 93 [1,1,0,1,0,1,0,1,1,1] 5),(Zg prog 93 [1,1,0,1,0,1,0,1,1,1] 1),(some 2),[],Yj [(6,(.ptr 0 0)),(54,(ii cB)),(56,(ii v2)),(57,(.dat bR.length (Zz bR)))]⟩,⟨⟨86,0,true⟩,(Vm prog 162 [1,0,0,1,0,0,1,1,0] 2),(Zg prog 162 [1,0,0,1,0,0,1,1,0] 1),none,[],Yj [(0,(.yld 2)),(1,(.ptr 6 0)),(2,(.ptr 8 0)),(4,(ii aY)),(82,(.yld 2)),(83,(.agg [(ii cB),(ii v2),(.sl 10 0 1 (.ex 1))]))]⟩,⟨⟨65,0,true⟩,none,(.inRangeFunc 2::(Zg prog 93 [1,1,0,1,0] 1)),none,(Zy prog 93),Yj [(4,(.ptr 4 0)),(5,(.ptr 5 0)),(6,(.ptr 0 0))]⟩,⟨⟨15,0,true⟩,(Vm prog 74 [1,1,1,0] 3),(Zg prog 74 [1,1,1,0] 1),none,(Zy prog 14),Yj [(9,(.agg [.nilf])),(11,(.sl 9 0 1 (.un 1)))]⟩],(DH [(2,⟨.busy,none,65,Yj [(2,(.ptr 3 0)),(4,(.ptr 4 0)),(5,(.ptr 5 0)),(6,(.ptr 0 0))],[15],(Wc prog 93 [1,1,0,1,0,0]),(Wc prog 93 [1,1,0,1,0,1])⟩)])⟩
def LF :List (Option (List Nat)):=[some [0,1,7,8],some [5,6],some [0,7]]
def LH :List (Option (List Nat)):=[]
def j8e :List (Option (List Nat)):=[some [1,3,8,9,10,14,15,16],some [2,4,5,6,13],some [9,11]]
def j8g :List (Option (List Nat)):=[]
def j8d :List (Option (List Nat)):=[some [0,1,2,4],some [4,5,6],some [9,11]]
def j8f :List (Option (List Nat)):=[some [2,4,5,6],none,none,none,none,none,none,none,none,none]
def u4o :List (Option (List Nat)):=[some [0,1,2,4,5,6,29,30,31,36,37,38],some [4,5,6],some [9,11]]
def u4q :List (Option (List Nat)):=[some [2,4,5,6],none,none,none,none,none,none,none,none,none,none,none,none]
def u4n :List (Option (List Nat)):=[some [0,1,2,72,73,74],some [6,54,56,57],some [0,1,2,4,82,83],some [4,5,6],some [9,11]]
def u4p :List (Option (List Nat)):=[none,some [2,4,5,6],none,none,none,none,none,none,none,none,none]
def LE :List (Option (List Nat)):=[some [0,2,8],some [6,54,56,57],some [0,1,2,4,82,83],some [4,5,6],some [9,11]]
def LG :List (Option (List Nat)):=[none,none,some [2,4,5,6],none,none,none,none,none,none,none,none]
def Xd (l0:List R6):IC->Xz IC
 | .h0 v8=>(bif (decide (v8<(l0.length:Int))) then (bif ((decide (0<=v8/\v8<(l0.length:Int)))&&true) then (bif (!(Pk (rd l0 v8.toNat).a (rd l0 v8.toNat).b (rd l0 v8.toNat).c (rd l0 v8.toNat).d (rd l0 v8.toNat).e (rd l0 v8.toNat).f)) then (bif (decide (v8>=0)) then (.ret [.nils,(.int .i64 8)]) else (.to (.h1 0 ([]:List Int)))) else (.to (.h0 (wrap .i64 (v8+1))))) else .stuck) else (.to (.h1 0 ([]:List Int))))
 | .h1 v16 aD=>(bif (decide (v16<(l0.length:Int))) then (bif ((decide (0<=v16/\v16<(l0.length:Int)))&&true) then (bif (Nat.beq 1 1&&((decide (0+aD.length=aD.length))&&decide ((aD.length+2+1)*(8+1)<=CF))) then (.to (.h1 (wrap .i64 (v16+1)) (aD++[(rd l0 v16.toNat).c,(rd l0 v16.toNat).f]))) else .stuck) else .stuck) else (bif (decide (aD.length<4611686018427387904)) then (bif (decide (aD.length=aD.length)) then (.to (.h2 1 ([]:List R6) ([]:List R4) 0 0 (GN (Yq aD.length (CP (Zz (Xm (Yq aD.length (CP (Zz aD)))))))) (Wk (Yq aD.length (CP (Zz (Xm (Yq aD.length (CP (Zz aD)))))))))) else .stuck) else .stuck))
 | .h2 v4 aH aW bE bF aF aK=>(bif (decide (v4<((aF:Nat):Int))) then (bif ((decide (0<=(wrap .i64 (v4 - 1))/\(wrap .i64 (v4 - 1))<((aF:Nat):Int)))&&true) then (bif (decide ((0+(Int.toNat (wrap .i64 (v4 - 1))))<aK.length)) then (bif ((decide (0<=v4/\v4<((aF:Nat):Int)))&&true) then (bif (decide ((0+v4.toNat)<aK.length)) then (.to (.h3 v4 0 aH aW bE bF aF aK (rd aK (0+(Int.toNat (wrap .i64 (v4 - 1))))) (rd aK (0+v4.toNat)) ([]:List R4))) else .stuck) else .stuck) else .stuck) else .stuck) else (bif (decide ((aH.length:Int)>400)) then (.ret [.nils,(.int .i64 4)]) else (.ret [(.dat aH.length (Zz aH)),(.int .i64 0)])))
 | .h3 v4 v38 aH aW bE bF aF aK aG bC aA=>(bif (decide (v38<(l0.length:Int))) then (bif ((decide (0<=v38/\v38<(l0.length:Int)))&&true) then (bif (decide ((rd l0 v38.toNat).c <=aG)) then (bif (decide (aG<(rd l0 v38.toNat).f)) then (bif (Nat.beq 4 4&&((decide (0+aA.length=aA.length))&&decide ((aA.length+1+1)*(32+1)<=CF))) then (.to (.h3 v4 (wrap .i64 (v38+1)) aH aW bE bF aF aK aG bC (aA++[(R4.mk (rd l0 v38.toNat).a (rd l0 v38.toNat).b (rd l0 v38.toNat).d (rd l0 v38.toNat).e)]))) else .stuck) else (.to (.h3 v4 (wrap .i64 (v38+1)) aH aW bE bF aF aK aG bC aA))) else (.to (.h3 v4 (wrap .i64 (v38+1)) aH aW bE bF aF aK aG bC aA))) else .stuck) else (bif (Us (B3 aA)) then (bif ((Xk (B3 aA)) != 0) then (.ret [.nils,(.int .i64 (Xk (B3 aA)))]) else (bif (decide ((((Za (B3 aA)).length :Nat):Int)>0)) then (bif (bF == aG) then (bif (Wg (B3 aW) (B3 (Za (B3 aA)))) then (bif (Uw (B3 aW) (B3 (Za (B3 aA)))) then (.to (.h5 bC bE aG (Za (B3 aA)) v4 aH aW bE bF aF aK aA)) else (.to (.h4 aG bC (Za (B3 aA)) (((Za (B3 aA)).length :Nat):Int) 0 (Za (B3 aA)) v4 aH (Za (B3 aA)) (aH.length:Int) aF aK aA))) else .stuck) else (.to (.h4 aG bC (Za (B3 aA)) (((Za (B3 aA)).length :Nat):Int) 0 (Za (B3 aA)) v4 aH (Za (B3 aA)) (aH.length:Int) aF aK aA))) else (.to (.h4 aG bC (Za (B3 aA)) (((Za (B3 aA)).length :Nat):Int) 0 (Za (B3 aA)) v4 aH (Za (B3 aA)) (aH.length:Int) aF aK aA)))) else .stuck))
 | .h4 v1 v2 v72 v73 v74 bR aY aC bD aZ aF aK aG=>(bif (decide (v74<v73)) then (bif ((decide (0<=v74/\v74<(v72.length:Int)))&&true) then (bif (Nat.beq 6 6&&((decide (0+aC.length=aC.length))&&decide ((aC.length+1+1)*(48+1)<=CF))) then (.to (.h4 v1 v2 v72 v73 (wrap .i64 (v74+1)) bR aY (aC++[(R6.mk (rd v72 v74.toNat).a (rd v72 v74.toNat).b v1 (rd v72 v74.toNat).c (rd v72 v74.toNat).d v2)]) bD aZ aF aK aG)) else .stuck) else .stuck) else (.to (.h2 (wrap .i64 (aY+1)) aC bD aZ v2 aF aK)))
 | .h5 v2 v8 cB bR aY aC bD aZ bT bP bX aA=>(bif (decide (v8<(aC.length:Int))) then (bif ((decide (0<=v8/\v8<(aC.length:Int)))&&true) then (bif (decide ((0+v8.toNat)<aC.length)) then (.to (.h5 v2 (wrap .i64 (v8+1)) cB bR aY (aC.set (0+v8.toNat) (R6.mk (rd aC (0+v8.toNat)).a (rd aC (0+v8.toNat)).b (rd aC (0+v8.toNat)).c (rd aC (0+v8.toNat)).d (rd aC (0+v8.toNat)).e v2)) bD aZ bT bP bX aA)) else .stuck) else .stuck) else (.to (.h2 (wrap .i64 (aY+1)) aC bD aZ v2 bP bX)))
def ZL (l0:List R6):Xz IC:=(bif (decide ((l0.length:Int)>400)) then (.ret [.nils,(.int .i64 4)]) else (.to (.h0 0)))
theorem v0x (l0:List R6): ∀s,Xw prog (Zy prog 74) (Oa l0) (Oa l0 s) (Xd l0 s)
 | .h0 v8=>let b:=fl ([]:List Int) nn;(lb (fun k0=>(lo fun aE=>let a:=ww aE (tt k0 nn);(lb (fun k1=>(lb (fun k2=>(lr 15 74 [1,1,0,1,0,0] 1 14 [(2,.nils),(3,(ii 8))] (sl Xq 54 [] (a8 [2,3]) a6 (CA 3 []) (tt k2 (tt k1 a))))) (fun k2=>(sl Xq 112 [(3,1,Zz ([]:List Int))] ⟨[6,1,7,2,3,4,5,8],[],j8e,j8g⟩ ⟨[],[.keep,.keep,.cells [.grow 7 1],.keep,.keep,.keep,.keep,.keep],[]⟩ (bl 4 11) (pp b (tt k2 (tt k1 a))))))) (fun k1=>(sl Xq 44 [] ⟨[],[],LF,LH⟩ a6 (bl 2 1) (tt k1 a)))))) (fun k0=>(sl Xq 81 [(3,1,Zz ([]:List Int))] ⟨[5,0,6,1,2,3,4,7],[],j8e,j8g⟩ ⟨[],[.keep,.keep,.cells [.grow 7 1],.keep,.keep,.keep,.keep,.keep],[]⟩ (bl 3 4) (pp b (tt k0 nn)))))
 | .h1 v16 aD=>(lb (fun k0=>(lo fun o0=>(lo fun o1=>let j:=rd l0 (tn v16);let b:=aD++[j.c,j.f];let d:=xL (aD.length+2) (aD++[(rd l0 (tn v16)).c,(rd l0 (tn v16)).f]).length;(sl Xq 34 [] ⟨[0,1,2,3,4,5,6,10],[],j8e,j8g⟩ ⟨[],[.keep,.keep,.cells [.len b.length],.keep,.keep,.keep,.keep,.rowed 1 b.length (Zz b)],[]⟩ [true] (pp d (pp d (pp (xS (aD.length+2) (Zt (Zz aD) 0 aD.length 1 [(ii (rd l0 (tn v16)).c),(ii (rd l0 (tn v16)).f)]) (Zz (aD++[(rd l0 (tn v16)).c,(rd l0 (tn v16)).f]))) (pp (pp (xF (Zt (Zz aD) 0 aD.length 1 [(ii (rd l0 (tn v16)).c),(ii (rd l0 (tn v16)).f)])) nn) (ww o1 (ww o0 (tt k0 nn))))))))))) (fun k0=>(lo fun o0=>(lo fun o1=>let a:=Wk (Yq aD.length (CP (Zz (Xm (Yq aD.length (CP (Zz aD)))))));let e:=xG (Nat.beq 1 1);let g:=xG (decide (aD.length<4611686018427387904));let h:=xG (decide (aD.length=aD.length));let i:=xG (Nat.beq 0 0);(sl Xq 46 [(57,6,Zz ([]:List R6))] ⟨[8,3,4,5,6,2,7,0,1,9],[],j8d,j8f⟩ ⟨[],(Cl 4 [.cells [.grow 9 6,.list 0 (Zz ([]:List R4)),.keep,.keep],.keep,.rowed 1 a.length (Zz a),.keep,.keep,.keep]),[]⟩ (bl 2 0) (pp (xL aD.length (Wk (Yq aD.length (CP (Zz (Xm (Yq aD.length (CP (Zz aD)))))))).length (by first | exact N4 _ _ | exact Uu rfl)) (pp (xS aD.length (Zz (Wk (Yq aD.length (CP (Zz (Xm (Yq aD.length (CP (Zz aD))))))))) (Zz (Wk (Yq aD.length (CP (Zz (Xm (Yq aD.length (CP (Zz aD)))))))))) (pp (fl a (fl ([]:List R6) nn)) (pp (pp e (pp e (pp i (pp h (pp (xG (EP (Zz (Xm (Yq aD.length (CP (Zz aD))))))) g))))) (pp (pp e (pp e (pp i (pp h (pp (xG (EP (Zz aD))) g))))) (tt k0 nn)))))))))))
 | .h2 v4 aH aW bE bF aF aK=>(lb (fun k0=>(lo fun o0=>(lo fun o1=>(lo fun o2=>(lo fun o3=>(sl Xq 48 [(116,4,Zz ([]:List R4))] ⟨[0,1,2,3,4,5,6,7,8,10,11,12,9],[],u4o,u4q⟩ ⟨[],(Cl 10 [.cells [.grow 11 4],.keep,.keep]),[]⟩ (CA 3 []) (pp (fl aK (fl ([]:List R4) (fl aH nn))) (ww o3 (ww o2 (ww o1 (ww o0 (tt k0 nn)))))))))))) (fun k0=>(lb (fun k1=>(lr 15 3 [1,1,1,1,0] 1 14 [(2,.nils),(3,(ii 4))] (sl Xq 33 [] (a8 [2,3]) a6 (bl 2 2) (tt k1 (tt k0 nn))))) (fun k1=>(lr 15 3 [1,1,1,1,0] 1 14 [(2,(.dat aH.length (Zz aH))),(3,(ii 0))] (sl Xq 36 [] ⟨[],[9],[some [2,3]],[]⟩ ⟨[(2,.frz aH.length aH.length (Zz aH) (Zz aH))],[],[]⟩ (bl 2 0) (pp (xZ (Cm 6 6 0 aH.length aH.length (Zz aH)) aH.length (Zz aH)) (pp (xL aH.length aH.length) (pp (xS aH.length (Zz aH) (Zz aH)) (pp (fl aH nn) (tt k1 (tt k0 nn))))))))))))
 | .h3 v4 v38 aH aW bE bF aF aK aG bC aA=>(lb (fun k0=>(lo fun aE=>let j:=ww aE (tt k0 nn);let o:=fl aK (fl aA (fl aH nn));let r:=List.range 13;(lb (fun k1=>(lb (fun k2=>(lo fun o0=>let i:=rd l0 (tn v38);let c:=aA++[(R4.mk i.a i.b i.d i.e)];let f:=xL (aA.length+1) (aA++[(R4.mk (rd l0 (tn v38)).a (rd l0 (tn v38)).b (rd l0 (tn v38)).d (rd l0 (tn v38)).e)]).length;(sl Xq 41 [] ⟨[0,1,2,3,4,5,6,7,8,9,10,15,12],[],u4o,u4q⟩ ⟨[],(Cl 10 [.cells [.len c.length],.rowed 4 c.length (Zz c),.keep]),[]⟩ (CA 8 []) (pp f (pp f (pp (xS (aA.length+1) (Zt (Zz aA) 0 aA.length 4 [(ii (rd l0 (tn v38)).a),(ii (rd l0 (tn v38)).b),(ii (rd l0 (tn v38)).d),(ii (rd l0 (tn v38)).e)]) (Zz (aA++[(R4.mk (rd l0 (tn v38)).a (rd l0 (tn v38)).b (rd l0 (tn v38)).d (rd l0 (tn v38)).e)]))) (pp (fl aK (pp (xF (Zt (Zz aA) 0 aA.length 4 [(ii (rd l0 (tn v38)).a),(ii (rd l0 (tn v38)).b),(ii (rd l0 (tn v38)).d),(ii (rd l0 (tn v38)).e)])) (fl aH nn))) (ww o0 (tt k2 (tt k1 j)))))))))) (fun k2=>(sl Xq 41 [] ⟨r,[],u4o,u4q⟩ a6 (CA 7 [false]) (pp o (tt k2 (tt k1 j))))))) (fun k1=>(sl Xq 41 [] ⟨r,[],u4o,u4q⟩ a6 (bl 8 1) (pp o (tt k1 j))))))) (fun k0=>let h:=xZ (Cm 4 4 0 aA.length aA.length (Zz aA)) aA.length (Zz aA);let n:=xS aA.length (Zz aA) (Zz aA);let p:=xL aA.length aA.length;let q:=fl aH (fl aK nn);(Xh (sl Xq (C':=⟨⟨65,0,true⟩,(Vm prog 93 [1,1,0,1,0,1,0,0] 4),(Zg prog 93 [1,1,0,1,0,1,0,0] 1),(some 0),[],⟨Yj [(2,(.ptr 1 0)),(4,(.ptr 2 0)),(5,(.ptr 3 0)),(6,(.ptr 4 0)),(7,(.ptr 6 0)),(20,(.dat aA.length (Zz aA)))],Ch [(1,⟨[.nilf],101,none⟩),(2,⟨[.nils],33,none⟩),(3,⟨[(ii 0)],24,none⟩),(4,⟨[(.sla 5 6 0 aH.length (.un 6)),(.dat aW.length (Zz aW)),(ii bE),(ii bF)],179,none⟩),(5,⟨Ya aH.length (Zz aH),57,some ⟨6,aH.length,(Zz aH)⟩⟩),(6,⟨[(ii aG),(ii bC),(.sl 7 0 1 (.ex 1))],184,none⟩),(7,⟨[(.dat aA.length (Zz aA))],80,none⟩),(8,⟨[(.sla 9 1 0 aF (.un 1))],125,none⟩),(9,⟨Ya aK.length (Zz aK),3,some ⟨1,aK.length,(Zz aK)⟩⟩),(10,⟨[(.sl 11 0 1 (.un 1))],177,none⟩),(11,⟨[(.dat l0.length (Zz l0))],32,none⟩)],12,[],true⟩,[⟨⟨86,0,true⟩,(Vm prog 162 [1,0,0,1,0,0,1,1,0] 2),(Zg prog 162 [1,0,0,1,0,0,1,1,0] 1),none,[],Yj [(0,(.yld 0)),(1,(.ptr 8 0)),(2,(.ptr 10 0)),(4,(ii v4)),(82,(.yld 0)),(83,(.agg [(ii aG),(ii bC),(.sl 7 0 1 (.ex 1))]))]⟩,⟨⟨65,0,true⟩,none,(.inRangeFunc 0::(Zg prog 93 [1,1,0,1,0] 1)),none,(Zy prog 93),Yj [(4,(.ptr 2 0)),(5,(.ptr 3 0)),(6,(.ptr 4 0))]⟩,⟨⟨15,0,true⟩,(Vm prog 74 [1,1,1,0] 3),(Zg prog 74 [1,1,1,0] 1),none,(Zy prog 14),Yj [(9,(.agg [.nilf])),(11,(.sl 11 0 1 (.un 1)))]⟩],(DH [(0,⟨.busy,none,65,Yj [(2,(.ptr 1 0)),(4,(.ptr 2 0)),(5,(.ptr 3 0)),(6,(.ptr 4 0))],[15],(Wc prog 93 [1,1,0,1,0,0]),(Wc prog 93 [1,1,0,1,0,1])⟩)])⟩) 37 [] ⟨[0,1,2,3,4,12,13,10,5,6,7,8],[11],[some [2,4,5,6,7,20],some [0,1,2,4,82,83],some [4,5,6],some [9,11]],[some [2,4,5,6],none,none,none,none,none,none,none,none,none,none,none]⟩ ⟨[(20,.frz aA.length aA.length (Zz aA) (Zz aA))],[.keep,.keep,.keep,.keep,.keep,.keep,.keep,.cells [.frz aA.length aA.length (Zz aA) (Zz aA)],.keep,.keep,.keep,.keep],[]⟩ (bl 2 0) (pp h (pp p (pp n (pp h (pp p (pp n (pp q (pp (fl aA nn) (tt k0 nn)))))))))) (lo fun aE=>let g:=pp (pp (xr aA) (xw aE)) nn;(lb (fun k1=>(lr 15 3 [1,1,1,1,0] 1 14 [(2,.nils),(3,(ii (Xk (B3 aA))))] (sl Xq 50 [] (a8 [2,3]) a6 (bl 3 6) (tt k1 g)))) (fun k1=>let l:=fl aK (fl aH nn);(lb (fun k2=>let m:=tt k2 (tt k1 g);(lb (fun k3=>(lo fun bZ=>(lb (fun k4=>(sl Xq 75 [] ⟨[4,5,0,1,2,3,8,9,10,11,7],[],LE,LG⟩ a6 (bl 15 32764) (pp q (tt k4 (pp (pp (xr aW) (pp (xI R4 (Za (B3 aA)).length (Zz (Za (B3 aA)))) (xw bZ))) (tt k3 m)))))) (fun k4=>(sl Xq 95 [] ⟨[4,0,1,2,3,8,9,10,11,7,5],[],u4n,u4p⟩ a6 (bl 15 16380) (pp l (tt k4 (pp (pp (xr aW) (pp (xI R4 (Za (B3 aA)).length (Zz (Za (B3 aA)))) (xw bZ))) (tt k3 m))))))))) (fun k3=>(sl Xq 95 [] ⟨[4,0,1,2,3,8,9,10,11,7,5],[],u4n,u4p⟩ a6 (bl 15 252) (pp l (tt k3 m)))))) (fun k2=>(sl Xq 95 [] ⟨[4,0,1,2,3,8,9,10,11,7,5],[],u4n,u4p⟩ a6 (bl 15 0) (pp l (tt k2 (tt k1 g))))))))))))
 | .h4 v1 v2 v72 v73 v74 bR aY aC bD aZ aF aK aG=>(lb (fun k0=>(lo fun o0=>(lo fun o1=>let g:=rd v72 (tn v74);let e:=aC++[(R6.mk g.a g.b v1 g.c g.d v2)];let f:=xL (aC.length+1) (aC++[(R6.mk (rd v72 (tn v74)).a (rd v72 (tn v74)).b v1 (rd v72 (tn v74)).c (rd v72 (tn v74)).d v2)]).length;(sl Xq 23 [] ⟨[0,1,2,3,4,5,6,7,8,9,13],[],u4n,u4p⟩ ⟨[],[.cells [.len e.length,.keep,.keep,.keep],.keep,.keep,.keep,.keep,.keep,.keep,.keep,.keep,.keep,.rowed 6 e.length (Zz e)],[]⟩ [true] (pp f (pp f (pp (xS (aC.length+1) (Zt (Zz aC) 0 aC.length 6 [(ii (rd v72 (tn v74)).a),(ii (rd v72 (tn v74)).b),(ii v1),(ii (rd v72 (tn v74)).c),(ii (rd v72 (tn v74)).d),(ii v2)]) (Zz (aC++[(R6.mk (rd v72 (tn v74)).a (rd v72 (tn v74)).b v1 (rd v72 (tn v74)).c (rd v72 (tn v74)).d v2)]))) (pp (fl aK (pp (xF (Zt (Zz aC) 0 aC.length 6 [(ii (rd v72 (tn v74)).a),(ii (rd v72 (tn v74)).b),(ii v1),(ii (rd v72 (tn v74)).c),(ii (rd v72 (tn v74)).d),(ii v2)])) nn)) (ww o1 (ww o0 (tt k0 nn))))))))))) (fun k0=>(sl Xq 22 [] ⟨[1,2,3,4,0,5,6,7,8,10],[],j8d,j8f⟩ a6 (bl 2 0) (pp (fl aK (fl aC nn)) (tt k0 nn)))))
 | .h5 v2 v8 cB bR aY aC bD aZ bT bP bX aA=>(lb (fun k0=>(lo fun o0=>(lo fun o1=>let h:=rd aC (0+(tn v8));let f:=aC.set (0+(tn v8)) (R6.mk h.a h.b h.c h.d h.e v2);let g:=xL aC.length (aC.set (0+(tn v8)) (R6.mk (rd aC (0+(tn v8))).a (rd aC (0+(tn v8))).b (rd aC (0+(tn v8))).c (rd aC (0+(tn v8))).d (rd aC (0+(tn v8))).e v2)).length;(sl Xq 34 [] ⟨(List.range 11),[],LE,LG⟩ ⟨[],[.cells [.len f.length,.keep,.keep,.keep],.rowed 6 f.length (Zz f),.keep,.keep,.keep,.keep,.keep,.keep,.keep,.keep,.keep],[]⟩ [true] (pp g (pp g (pp (xS aC.length (Xa (Zz aC) (0+(tn v8)) 5 [(ii v2)]) (Zz (aC.set (0+(tn v8)) (R6.mk (rd aC (0+(tn v8))).a (rd aC (0+(tn v8))).b (rd aC (0+(tn v8))).c (rd aC (0+(tn v8))).d (rd aC (0+(tn v8))).e v2)))) (pp (pp (xF (Xa (Zz aC) (0+(tn v8)) 5 [(ii v2)])) (fl bX nn)) (ww o1 (ww o0 (tt k0 nn))))))))))) (fun k0=>(sl Xq 36 [] ⟨[2,3,4,5,0,6,7,8,9,1],[],j8d,j8f⟩ a6 (bl 2 0) (pp (fl bX (fl aC nn)) (tt k0 nn)))))
theorem w0p (l0:List R6):Xw prog (Zy prog 74) (Oa l0) (Zm prog 74 [(.dat l0.length (Zz l0))] true []) (ZL l0):=(lb (fun k0=>(lr 15 74 [1,0,1,0,0] 1 14 [(2,.nils),(3,(ii 4))] (sl Xq 18 [] (a8 [2,3]) a6 [true] (tt k0 nn)))) (fun k0=>(sl Xq 41 [] ⟨[],[],LF,LH⟩ a6 [false] (tt k0 nn))))
theorem u4m (l0:List R6) (n:Nat) (vs:List B2) (h:Zo (Xd l0) n (ZL l0)=.ret vs):Uj prog (Zy prog 74) (Zm prog 74 [(.dat l0.length (Zz l0))] true []) vs:=by have:=Zb (v0x l0) n _ (w0p l0);rwa [h] at this
inductive JF where
def RR (x0:Int) (x1:Int):JF->CB
 :=nofun
def w5c (x0:Int) (x1:Int):JF->Xz JF
 :=nofun
def YH (x0:Int) (x1:Int):Xz JF:=(bif (!decide (x1=0)) then (bif (decide ((wrap .i64 ((wrap .i64 (Int.tdiv x0 x1))*x1))>x0)) then (.ret [(.int .i64 (wrap .i64 ((wrap .i64 ((wrap .i64 (Int.tdiv x0 x1)) - 1))*x1)))]) else (.ret [(.int .i64 (wrap .i64 ((wrap .i64 (Int.tdiv x0 x1))*x1)))])) else .stuck)
theorem v4b (x0:Int) (x1:Int): ∀s,Xw prog (Zy prog 72) (RR x0 x1) (RR x0 x1 s) (w5c x0 x1 s)
 :=nofun
theorem w5d (x0:Int) (x1:Int):Xw prog (Zy prog 72) (RR x0 x1) (Zm prog 72 [(.int .i64 x0),(.int .i64 x1)] true []) (YH x0 x1):=(lo fun bN=>let a:=wr (Int.tdiv x0 x1);(lb (fun k0=>(lr 19 3 [1,1,1,1,0] 1 6 [(4,(ii (wr ((wr (a - 1))*x1))))] (sl Xq 33 [] (a8 [4]) a6 [true] (tt k0 (ww bN nn))))) (fun k0=>(lr 19 3 [1,1,1,1,0] 1 6 [(4,(ii (wr (a*x1))))] (sl Xq 29 [] (a8 [4]) a6 [false] (tt k0 (ww bN nn)))))))
theorem u9s (x0:Int) (x1:Int) (n:Nat) (vs:List B2) (h:Zo (w5c x0 x1) n (YH x0 x1)=.ret vs):Uj prog (Zy prog 72) (Zm prog 72 [(.int .i64 x0),(.int .i64 x1)] true []) vs:=by have:=Zb (v4b x0 x1) n _ (w5d x0 x1);rwa [h] at this
def VK :List B2:=[.nils,.int .i64 8]
def eF (l:List R6):Nat->Nat->Int
 | 0,_=>0
 | k+1,i=>bif Gi l (rd (D6.cuts l) i) then Xk (D6.inn l (rd (D6.cuts l) i)) else eF l k (i+1)
def Fj (l:List R6) (k i:Nat):List B2:=[.nils,.int .i64 (eF l k i)]
section
variable (l:List R6) (hl:l.length<=400)
include hl
theorem j1r (i:Nat) (out:List R6) (last:List R4) (first fin x x':Int): ∀(k j:Nat) (acc:List R4),j+k=l.length->acc.length<=j->
  ∃n,∀N,Zo (Xd l) (N+n) (.to (.h3 (i:Int) (j:Int) out last first fin ((D6.cuts l).length) (Wk (Xm (D6.ends l))) x x' acc))=Zo (Xd l) N (.to (.h3 (i:Int) (l.length:Int) out last first fin ((D6.cuts l).length) (Wk (Xm (D6.ends l))) x x' (acc++D6.inn (l.drop j) x)))
 | 0,j,acc,h,ha=>by refine ⟨0,fun N=> ?_⟩;rw [As (by omega),show D6.inn ([]:List R6) x=[] from rfl,AE,Bd,show j=l.length by omega]
 | k+1,j,acc,h,ha=>by
  have hj:j<l.length:=by omega
  obtain ⟨n,hn⟩:=j1r i out last first fin x x' k (j+1) (acc++D6.inn [rd l j] x) (by omega) (by have:=D6.inn_length [rd l j] x;simp only [AP,List.length_singleton] at*;omega)
  refine ⟨n+1,fun N=> ?_⟩;have e:D6.inn (l.drop j) x=D6.inn [rd l j] x++D6.inn (l.drop (j+1)) x:=by rw [Yg hj,<-D6.inn_append];rfl
  rw [e,<-AD,Zx,<-AM,<-hn N];by_cases h1:D6.lo (rd l j)<=x
  .by_cases h2:x<D6.hi (rd l j)
   .rw [D6.inn_t _ _ h1 h2];simp only [D6] at h1 h2 ⊢;simp (disch:=omega) only [Xd,Wj,Zd,Zq,Yy,Yz,Yd,Yu,Yk,Zh,Zj,Zw,Yc,Zk,Af,Ao,Ah,Ai,Ab,Aa]
   .rw [D6.inn_f2 _ _ h2,AE];simp only [D6] at h1 h2;simp (disch:=omega) only [Xd,Wj,Yh,Zd,Zq,Yy,Yz,Yd,Yu,Yk,Zh,Zj,Zw,Yc,Zk,Af,Ao,Ah,Ai,Ab,Aa]
  .rw [D6.inn_f1 _ _ h1,AE];simp only [D6] at h1;simp (disch:=omega) only [Xd,Nx,Zd,Zq,Yy,Yz,Yd,Yu,Yk,Zh,Zj,Zw,Yc,Zk,Af,Ao,Ah,Ai,Ab,Aa]
theorem j1q (i:Nat) (hi:i<=1000) (x x':Int) (s last:List R4) (first:Int) (inn:List R4) (hs:s.length<=1000): ∀(k j:Nat) (out:List R6),j+k=s.length->out.length<=10000000+j->
  ∃n,∀N,Zo (Xd l) (N+n) (.to (.h4 x x' s (s.length:Int) (j:Int) s (i:Int) out last first ((D6.cuts l).length) (Wk (Xm (D6.ends l))) inn))=Zo (Xd l) N (.to (.h2 ((i+1:Nat):Int) (out++(s.drop j).map (D6.put x x')) last first x' ((D6.cuts l).length) (Wk (Xm (D6.ends l)))))
 | 0,j,out,h,ho=>by have _u:=hl;refine ⟨1,fun N=> ?_⟩;rw [As (by omega),Zx];simp (disch:=omega) only [Xd,Yh,Zj,Zw,Aa,Bi,AE]
 | k+1,j,out,h,ho=>by
  obtain ⟨n,hn⟩:=j1q i hi x x' s last first inn hs k (j+1) (out++[D6.put x x' (rd s j)]) (by omega) (by simp;omega)
  refine ⟨n+1,fun N=> ?_⟩;have:=hn N;rw [Yg (show j<s.length by omega),AT,<-AD,Zx];simp (disch:=omega) only [Xd,Zd,Zq,Yy,Yz,Yd,Yu,Yk,Zh,Zj,Zw,Yc,Zk,Af,Ao,Ah,Ai,Ab,Aa];rw [AM] at this;exact this
theorem j1p (i:Nat) (hi:i<=1000) (x x' fin:Int) (s last:List R4) (first:Int) (inn:List R4): ∀(k j:Nat) (out:List R6),j+k=out.length->out.length<=10000000->
  ∃n,∀N,Zo (Xd l) (N+n) (.to (.h5 x' (j:Int) x s (i:Int) out last first fin ((D6.cuts l).length) (Wk (Xm (D6.ends l))) inn))=Zo (Xd l) N (.to (.h2 ((i+1:Nat):Int) (D6.grow out j x') last first x' ((D6.cuts l).length) (Wk (Xm (D6.ends l)))))
 | 0,j,out,h,ho=>by have _u:=hl;refine ⟨1,fun N=> ?_⟩;rw [D6.grow_nil _ _ _ (by omega),Zx];simp (disch:=omega) only [Xd,Yh,Zj,Zw,Aa]
 | k+1,j,out,h,ho=>by
  obtain ⟨n,hn⟩:=j1p i hi x x' fin s last first inn k (j+1) (out.set j (D6.ext x' (rd out j))) (by simp;omega) (by simpa using ho)
  refine ⟨n+1,fun N=> ?_⟩;have:=hn N;rw [D6.grow_set out j _ (by omega)] at this;rw [<-AD,Zx];simp (disch:=omega) only [Xd,Zd,Zq,Yy,Yz,Yd,Yu,Yk,Zh,Zj,Zw,Yc,Zk,Af,Ao,Ah,Ai,Ab,Aa];exact this
theorem v6u : ∀(k i:Nat) (s:Sw R6 R4),k=(D6.cuts l).length - 1 - i->i<=(D6.cuts l).length ->s.out.length<=i*1000->s.last.length<=1000->s.first<=s.out.length->
  ∃n,Zo (Xd l) n (.to (.h2 ((i+1:Nat):Int) s.out s.last (s.first:Int) s.fin ((D6.cuts l).length) (Wk (Xm (D6.ends l)))))=.ret ((bif Ct l k i then Qo (D6.go l k i s).out else Fj l k i))
 | 0,i,s,h,hi,ho,hla,hf=>by
  have hc:=D6.cuts_length l;refine ⟨1,?_⟩;rw [Zx,show D6.go l 0 i s=s from rfl,show Ct l 0 i=true from rfl,Ab];unfold Qo;by_cases q:(s.out.length:Int)>400
  .simp (disch:=omega) only [Xd,Yh,Yt,Ab,Aa,Zp]
  .simp (disch:=omega) only [Xd,Zd,Yh,Wu,Ab,Aa,Zp]
 | k +1,i,s,h,hi,ho,hla,hf=>by
  have hc:=D6.cuts_length l;have hi1:i+1<(D6.cuts l).length :=by omega
  have hpl:(Wk (Xm (D6.ends l))).length =2*l.length:=by rw [Ui,Uz,D6.ends_length]
  have r0:rd (Wk (Xm (D6.ends l))) i=rd (D6.cuts l) i:=GC _ _ (by show i<(D6.cuts l).length;omega);have r1:rd (Wk (Xm (D6.ends l))) (i+1)=rd (D6.cuts l) (i+1):=GC _ _ (by show i+1<(D6.cuts l).length;omega);have hbig:i*1000<=1000*1000:=AC _ (by omega);have hsl:=j6v l (rd (D6.cuts l) i);have hsd:D6.sec l (rd (D6.cuts l) i)=Za (D6.inn l (rd (D6.cuts l) i)):=rfl;obtain ⟨n3,h3⟩:=j1r l hl (i+1) s.out s.last (s.first:Int) s.fin (rd (D6.cuts l) i) (rd (D6.cuts l) (i+1)) l.length 0 [] (Af _) (Aq _);simp only [AS,Bc,Du] at h3;have w1:Us (D6.inn l (rd (D6.cuts l) i))=true:=rfl;have w2:Wg s.last (Za (D6.inn l (rd (D6.cuts l) i)))=true:=Al (by omega);have ol:=D6.one_length l (rd (D6.cuts l) i) (rd (D6.cuts l) (i+1)) s;have st0: ∀N,Zo (Xd l) (N+n3+1) (.to (.h2 ((i+1:Nat):Int) s.out s.last (s.first:Int) s.fin ((D6.cuts l).length) (Wk (Xm (D6.ends l)))))=Zo (Xd l) N (.to (.h3 ((i+1:Nat):Int) (l.length:Int) s.out s.last (s.first:Int) s.fin ((D6.cuts l).length) (Wk (Xm (D6.ends l))) (rd (D6.cuts l) i) (rd (D6.cuts l) (i+1)) (D6.inn l (rd (D6.cuts l) i)))):=fun N=>by
   rw [<-h3 N,Zx];have e1:wrap .i64 (((i+1:Nat):Int) - 1)=(i:Int):=by rw [Yx];exact Zj (by omega)
   simp (disch:=omega) only [Xd,e1,r0,r1,Zd,Zq,Yy,Yz,Yd,Yu,Yk,Zh,Zj,Zw,Yc,Zk,Af,Ao,Ah,Ai,Ab,Aa]
  rcases Zs (Gi l (rd (D6.cuts l) i)) with q0 | q0
  .refine ⟨1+n3+1,?_⟩;rw [st0 1,Zx];simp only [Ct,Fj,eF,q0,Ab,Aa];have q0':(Xk (D6.inn l (rd (D6.cuts l) i)) != 0)=true:=q0;simp (disch:=omega) only [Xd,Zd,Zq,Yh,q0',w1,Ab,Aa,Zp]
  have q0':(Xk (D6.inn l (rd (D6.cuts l) i)) != 0)=false:=q0;rcases Zs (decide (0<(D6.sec l (rd (D6.cuts l) i)).length)&&((s.fin == rd (D6.cuts l) i)&&D6.same s.last (D6.sec l (rd (D6.cuts l) i)))) with q | q
  .obtain ⟨n5,h5⟩:=j1p l hl (i+1) (by omega) (rd (D6.cuts l) i) (rd (D6.cuts l) (i+1)) s.fin (D6.sec l (rd (D6.cuts l) i)) s.last (s.first:Int) (D6.inn l (rd (D6.cuts l) i)) (s.out.length - s.first) s.first s.out (by omega) (by omega)
   have e:D6.one l (rd (D6.cuts l) i) (rd (D6.cuts l) (i+1)) s=⟨D6.grow s.out s.first (rd (D6.cuts l) (i+1)),s.last,s.first,rd (D6.cuts l) (i+1)⟩:=by unfold CJ.one;rw [q];rfl
   obtain ⟨n0,h0⟩:=v6u k (i+1) (D6.one l (rd (D6.cuts l) i) (rd (D6.cuts l) (i+1)) s) (by omega) (by omega) (by omega) (by rw [e];exact hla) (by rw [e];simpa [CJ.grow_length] using hf);refine ⟨n0+n5+1+n3+1,?_⟩;rw [st0 (n0+n5+1),Zx];simp only [Ae,Ar] at q;obtain ⟨q1,q2,q3⟩:=q;have q3':Uw s.last (Za (D6.inn l (rd (D6.cuts l) i)))=true:=q3;rw [hsd] at q1;simp (disch:=omega) only [Xd,Zd,Zq,Yh,Yt,q0',q2,q3',w1,w2,Ab,Aa];rw [<-hsd,h5 n0];simp only [Ct,Fj,eF,q0,Aa];simp only [CJ.go];rw [e] at h0 ⊢;exact h0
  .obtain ⟨n4,h4⟩:=j1q l hl (i+1) (by omega) (rd (D6.cuts l) i) (rd (D6.cuts l) (i+1)) (D6.sec l (rd (D6.cuts l) i)) (D6.sec l (rd (D6.cuts l) i)) (s.out.length:Int) (D6.inn l (rd (D6.cuts l) i)) hsl (D6.sec l (rd (D6.cuts l) i)).length 0 s.out (Af _) (by omega);simp only [AS,Du] at h4;have e:D6.one l (rd (D6.cuts l) i) (rd (D6.cuts l) (i+1)) s=⟨s.out++(D6.sec l (rd (D6.cuts l) i)).map (D6.put (rd (D6.cuts l) i) (rd (D6.cuts l) (i+1))),D6.sec l (rd (D6.cuts l) i),s.out.length,rd (D6.cuts l) (i+1)⟩:=by unfold CJ.one;rw [q];rfl
   obtain ⟨n0,h0⟩:=v6u k (i+1) (D6.one l (rd (D6.cuts l) i) (rd (D6.cuts l) (i+1)) s) (by omega) (by omega) (by omega) (by rw [e];exact hsl) (by rw [e];simp);have hg:Zo (Xd l) 1 (.to (.h3 ((i+1:Nat):Int) (l.length:Int) s.out s.last (s.first:Int) s.fin ((D6.cuts l).length) (Wk (Xm (D6.ends l))) (rd (D6.cuts l) i) (rd (D6.cuts l) (i+1)) (D6.inn l (rd (D6.cuts l) i))))=.to (.h4 (rd (D6.cuts l) i) (rd (D6.cuts l) (i+1)) (D6.sec l (rd (D6.cuts l) i)) ((D6.sec l (rd (D6.cuts l) i)).length :Int) 0 (D6.sec l (rd (D6.cuts l) i)) ((i+1:Nat):Int) s.out (D6.sec l (rd (D6.cuts l) i)) (s.out.length:Int) ((D6.cuts l).length) (Wk (Xm (D6.ends l))) (D6.inn l (rd (D6.cuts l) i))):=by
    rw [show (1:Nat)=0+1 from rfl,Zx];rw [hsd] at q ⊢;have e3:D6.same s.last (Za (D6.inn l (rd (D6.cuts l) i)))=Uw s.last (Za (D6.inn l (rd (D6.cuts l) i))):=rfl;rw [e3] at q;by_cases q1:0<(Za (D6.inn l (rd (D6.cuts l) i))).length
    .rw [Al q1,Ai] at q;rcases Zs (s.fin == rd (D6.cuts l) i) with q2 | q2
     .rw [q2,Ai] at q;simp (disch:=omega) only [Xd,Zd,Zq,Yh,Yt,q0',q2,q,w1,w2,Ab,Aa];rfl
     .simp (disch:=omega) only [Xd,Zd,Zq,Yh,Yt,q0',q2,w1,w2,Ab,Aa];rfl
    .simp (disch:=omega) only [Xd,Zd,Zq,Yh,Wu,q0',w1,w2,Ab,Aa];rfl
   refine ⟨n0+n4+1+n3+1,?_⟩;rw [st0 (n0+n4+1),Tg _ (n0+n4) 1,hg,h4 n0];simp only [Ct,Fj,eF,q0,Aa];simp only [CJ.go];rw [e] at h0 ⊢;exact h0
theorem j1s : ∀(k i:Nat) (acc:List Int),i+k=l.length->acc=D6.ends (l.take i)-> ∃n,Zo (Xd l) n (.to (.h1 (i:Int) acc))=.ret ((bif Ct l ((D6.cuts l).length - 1) 0 then Qo (D6.go l ((D6.cuts l).length - 1) 0 ⟨[],[],0,0⟩).out else Fj l ((D6.cuts l).length - 1) 0))
 | 0,i,acc,h,ha=>by
  have e:acc=D6.ends l:=by rw [ha,A2 (by omega)]
  subst e;have hle:=D6.ends_length l;obtain ⟨n,hn⟩:=v6u l hl ((D6.cuts l).length - 1) 0 ⟨[],[],0,0⟩ (by omega) (AA _) (AA _) (AA _) (AA _);refine ⟨n+1,?_⟩;rw [Zx];simp (disch:=omega) only [Xd,Jo,N8,NH,Yh,Yu,Yk,Ao,Ab,Aa];exact hn
 | k+1,i,acc,h,ha=>by
  have hle:=D6.ends_length (l.take i);have gD:acc.length<=2*i:=by rw [ha,hle];simp;omega
  obtain ⟨n,hn⟩:=j1s k (i+1) (acc++D6.ends [rd l i]) (by omega) (by
   rw [ha,AW];have:l[i]? =some (rd l i):=by rw [Yo (show i<l.length by omega)];exact Au _
   rw [this,D6.ends_append];rfl)
  refine ⟨n+1,?_⟩;rw [Zx];simp (disch:=omega) only [Xd,Zd,Zq,Yy,Yz,Yd,Yu,Yk,Zh,Zj,Zw,Yc,Zk,Af,Ao,Ah,Ai,Ab,Aa];exact hn
theorem j1t : ∀(k i:Nat),i+k=l.length->(∀s∈l.take i,Qv s=true)-> ∃n,Zo (Xd l) n (.to (.h0 (i:Int)))=.ret (bif l.all Qv then (bif Ct l ((D6.cuts l).length - 1) 0 then Qo (D6.go l ((D6.cuts l).length - 1) 0 ⟨[],[],0,0⟩).out else Fj l ((D6.cuts l).length - 1) 0) else VK)
 | 0,i,h,ht=>by have hv:l.all Qv=true:=At.2 fun s hs=>ht s (by rw [A2 (by omega)];exact hs);obtain ⟨n,hn⟩:=j1s l hl l.length 0 [] (Af _) rfl;refine ⟨n+1,?_⟩;rw [Zx,hv,Ab];simp (disch:=omega) only [Xd,Yh,Aa];exact hn
 | k+1,i,h,ht=>by
  have hi:i<l.length:=by omega
  have hs:Xd l (.h0 (i:Int))=bif Qv (rd l i) then .to (.h0 ((i+1:Nat):Int)) else .ret VK:=by have e:Pk (rd l i).a (rd l i).b (rd l i).c (rd l i).d (rd l i).e (rd l i).f =Qv (rd l i):=rfl;simp (disch:=omega) only [Xd,e,S7,UR,w9m,Yz,Zj,Zw,Zk,Ah,Ab,Aa];rfl
  rcases Zs (Qv (rd l i)) with q | q
  .obtain ⟨n,hn⟩:=j1t k (i+1) (by omega) (fun s hs=>by
    rw [AW] at hs;have e:l[i]? =some (rd l i):=by rw [Yo hi];exact Au _
    rw [e] at hs;simp only [Option.toList_some,AI,BU] at hs;rcases hs with hs | rfl
    .exact ht s hs
    .exact q)
   refine ⟨n+1,?_⟩;rw [Zx,hs,q,Ab];exact hn
  .have hv:l.all Qv=false:=A3.2 fun e=>by have:=At.1 e (rd l i) (by rw [Yo hi];exact AV hi);rw [this] at q;cases q
   refine ⟨1,?_⟩;rw [Zx,hv,Aa,hs,q,Aa,Zp]
end
theorem t4r {l:List R6}: ∀(k i:Nat),Ct l k i=false->(eF l k i != 0)=true
 | 0,i,h=>by cases h
 | k+1,i,h=>by
  unfold Ct at h;unfold eF;rcases Zs (Gi l (rd (D6.cuts l) i)) with q | q
  .rw [q,Ab];exact q
  .rw [q,Aa] at h ⊢;exact t4r k (i+1) h
def E7 (l:List R6):Int:=bif decide (400<l.length) then 4 else bif l.all Qv then (bif Ct l ((D6.cuts l).length - 1) 0 then D7 (D6.out l).length else eF l ((D6.cuts l).length - 1) 0) else 8
def Ew (l:List R6):List R6:=D8 (E7 l) (D6.out l)
def XJ (l:List R6):Bool:=true
theorem j8c (l:List R6) (h:XJ l=true): ∃n,Zo (Xd l) n (ZL l)=.ret (Cy (E7 l) (D6.out l)):=by
 unfold ZL E7;by_cases h:400<l.length
 .refine ⟨0,?_⟩;rw [Al h,Yt (show (l.length:Int)>400 by omega)];rfl
 .obtain ⟨n,hn⟩:=j1t l (by omega) l.length 0 (Af _) (fun s hs=>by simp at hs);refine ⟨n,?_⟩;rw [Av h,Wu (show ¬(l.length:Int)>400 by omega),Aa,Aa];rw [Du] at hn;rw [hn];rcases Zs (l.all Qv) with q | q
  .rw [q,Ab,Ab];rcases Zs (Ct l ((D6.cuts l).length - 1) 0) with q2 | q2
   .rw [q2,Ab,Ab,Z2];rfl
   .rw [q2,Aa,Aa,Uv _ (t4r _ _ q2)];rfl
  .rw [q];rfl
def QH :List B2->Option (B2×Bool)
 | [a0]=>match CS R6 a0 with
  | some (L0,g0,n0)=>some (.tup [.dat (Ew L0).length (Zz (Ew L0)),.int .i64 (E7 L0)],CO R6 n0 g0&&(XJ L0))
  | _=>none
 | _=>none
theorem t2w {S:B4} (hS:Zv prog S):Zv prog (S.with v9x QH):=by
 refine Em hS (by kernel_rfl) fun args v h=> ?_;unfold QH at h;split at h
 .rename_i a0;split at h
  .rename_i L0 g0 n0 e0;simp only [Ad,Ac,Ae] at h;obtain ⟨rfl,ho0,hw⟩:=h;obtain ⟨N,hN⟩:=j8c L0 hw;exact ⟨_,_,(.cons (Yn e0 ho0) .nil),H7 _ _,u4m L0 N _ hN,3,JU _ _⟩
  .cases h
 .cases h
def Up (x n:Int):Int:=bif decide (wrap .i64 (wrap .i64 (Int.tdiv x n)*n)>x) then wrap .i64 (wrap .i64 (wrap .i64 (Int.tdiv x n) - 1)*n) else wrap .i64 (wrap .i64 (Int.tdiv x n)*n)
def Kc (x n:Int):Bool:= !decide (n=0)
theorem t4s (x n:Int) (h:Kc x n=true): ∃N,Zo (w5c x n) N (YH x n)=.ret [.int .i64 (Up x n)]:=⟨0,by
 have h:(!decide (n=0))=true:=h;unfold YH Up;rw [h,Ab];cases decide (wrap .i64 (wrap .i64 (Int.tdiv x n)*n)>x) <;> rfl⟩
def RB :List B2->Option (B2×Bool)
 | [.int .i64 x0,.int .i64 x1]=>some (.int .i64 (Up x0 x1),Kc x0 x1)
 | _=>none
theorem t4b {S:B4} (hS:Zv prog S):Zv prog (S.with M5 RB):=by
 refine Qn hS (by kernel_rfl) fun args v h=> ?_;unfold RB at h;split at h
 .rename_i x0 x1;simp only [Ad,Ac,Ae] at h;obtain ⟨rfl,hw⟩:=h;obtain ⟨N,hN⟩:=t4s x0 x1 hw;exact ⟨_,_,(.cons (.refl _) (.cons (.refl _) .nil)),rfl,u9s x0 x1 N _ hN,3,rfl⟩
 .cases h
def Vo1 :B4:=(Vc.with v9x QH).with M5 RB
theorem HC :Zv prog Vo1:=t4b (t2w Xq)
theorem CJ.goS_cg {α β:Type} (D:CJ α β) (f g:Int->List β) (cs:List Int): ∀(k i:Nat) (s:Sw α β),(∀j,i<=j->j<i+k->f (rd cs j)=g (rd cs j))->D.goS f cs k i s=D.goS g cs k i s
 | 0,i,s,_=>rfl
 | k+1,i,s,h=>by show D.goS f cs k (i+1) (D.oneS (f (rd cs i)) _ _ s)=D.goS g cs k (i+1) (D.oneS (g (rd cs i)) _ _ s);rw [h i (Aq _) (by omega)];exact goS_cg D f g cs k (i+1) _ fun j h1 h2=>h j (by omega) (by omega)
theorem Z1 {n:Nat} (h:D7 n=0):n<=400:=by
 unfold D7 at h;by_cases q:(n:Int)>400
 .rw [Al q] at h;cases h
 .omega
theorem w2e {l:List R4} (h:Xk l=0):l.length<=400/\(∀r∈l,Vo r=true)/\Za l=D4.out l:=by
 unfold Xk at h;cases g1:decide (400<l.length) with
 | true=>rw [g1] at h;cases h
 | false=>
  cases g2:l.all Vo with
  | false=>rw [g1,g2] at h;cases h
  | true=>
   rw [g1,g2,Aa,Ab] at h;have hl:l.length<=400:=by have:=Bf g1;omega
   refine ⟨hl,At.1 g2,?_⟩;exact (Qk (At.1 g2) hl (Z1 h)).1
theorem w8d {l:List R6}: ∀(k i:Nat),Ct l k i=true-> ∀j,i<=j->j<i+k->Xk (D6.inn l (rd (D6.cuts l) j))=0
 | 0,i,h,j,h1,h2=>by omega
 | k+1,i,h,j,h1,h2=>by
  unfold Ct at h;rcases Zs (Gi l (rd (D6.cuts l) i)) with q | q
  .rw [q] at h;cases h
  .rw [q,Aa] at h;rcases A1 h1 with e | e
   .rw [<-e];unfold Gi at q
    simpa using q
   .exact w8d k (i+1) h j e (by omega)
theorem w7a {l:List R6} (h:E7 l=0):l.length<=400/\(∀r∈l,Qv r=true)/\Ct l ((D6.cuts l).length - 1) 0=true/\(D6.out l).length <=400:=by
 unfold E7 at h;cases g1:decide (400<l.length) with
 | true=>rw [g1] at h;cases h
 | false=>
  cases g2:l.all Qv with
  | false=>rw [g1,g2] at h;cases h
  | true=>
   rw [g1,g2,Aa,Ab] at h;cases g3:Ct l ((D6.cuts l).length - 1) 0 with
   | false=>rw [g3,Aa] at h;have:=t4r _ _ g3;rw [h] at this;cases this
   | true=>rw [g3,Ab] at h;exact ⟨by have:=Bf g1;omega,At.1 g2,rfl,Z1 h⟩
theorem w0q {l:List R6} (h:E7 l=0):Ew l=D6.out l:=by unfold Ew D8;rw [h];rfl
theorem v6t {l:List R6} (h:E7 l=0):C5.can (Ew l)/\ ∀x y z,CY (Ew l) x y z↔CY l x y z:=by
 obtain ⟨hl,hv,hok,ho⟩:=w7a h;have hf:=w8d _ _ hok;rw [w0q h];have hc:(D6.cuts l).Pairwise (· < ·):=by show (Kz (D6.ends l)).Pairwise (· < ·);rw [Kp];exact (Wp _).1
 have eS:D6.out l=(D6.goS (fun x=>bif Xk (D6.inn l x) != 0 then [] else Za (D6.inn l x)) (D6.cuts l) ((D6.cuts l).length - 1) 0 ⟨[],[],0,0⟩).out :=by unfold CJ.out;rw [D6.go_goS,D6.goS_cg (D6.sec l) (fun x=>bif Xk (D6.inn l x) != 0 then [] else Za (D6.inn l x))];intro j h1 h2;show _=bif Xk (D6.inn l _) != 0 then _ else _;rw [hf j h1 h2];rfl
 have hs: ∀x,Xr.can (bif Xk (D6.inn l x) != 0 then [] else Za (D6.inn l x)):=fun x=>by
  cases g:(Xk (D6.inn l x) != 0) with
  | true=>exact Xr.nil
  | false=>obtain ⟨m1,m2,m3⟩:=w2e (show Xk (D6.inn l x)=0 by simpa using g);rw [Aa,m3];exact (Ko m2 m1).1
 obtain ⟨h1,h2⟩:=CJ.goS_can HE SS Xr (cs:=D6.cuts l) hc hs;rw [eS];refine ⟨h1,fun x y z=> ?_⟩;rw [Jr,Jr,show CI C5.inB _ (z,x,y)↔_ from h2 z (x,y)];have ia: ∀j,j+1<(D6.cuts l).length ->rd (D6.cuts l) j<=z->z<rd (D6.cuts l) (j+1)->(CI Xr.inB (bif Xk (D6.inn l (rd (D6.cuts l) j)) != 0 then [] else Za (D6.inn l (rd (D6.cuts l) j))) (x,y)↔CI C5.inB l (z,x,y)):=fun j j1 j2 j3=>by have q:=hf j (AA _) (by omega);obtain ⟨m1,m2,m3⟩:=w2e q;rw [q,show ((0:Int) != 0)=false from rfl,Aa,m3,(Ko m2 m1).2,CJ.inn_slab l l (fun r hr=>hr) j1 j2 j3];exact CJ.pt_inn (D:=D6) Xr.inB l z (x,y)
 constructor
 .rintro ⟨j,j1,j2,j3,j4⟩;exact (ia j j1 j2 j3).1 j4
 .intro hp;refine Ba fun hn=> ?_;have hx: ∀j,j+1<(D6.cuts l).length -> ¬(rd (D6.cuts l) j<=z/\z<rd (D6.cuts l) (j+1)):=fun j j1 j2=>hn ⟨j,j1,j2.1,j2.2,(ia j j1 j2.1 j2.2).2 hp⟩;have g:=(CJ.pt_inn (D:=D6) Xr.inB l z (x,y)).2 hp;rw [CJ.inn_out l l (fun r hr=>hr) hx] at g;exact JT _ _ g
theorem u4l {L:List R6} (h:Zf L=0):E7 L=0/\Ew L=L:=by
 have hs:=Xs h;have key:E7 L=0:=by
  unfold Zf at h;unfold E7;cases g1:decide (400<L.length) with
  | true=>rw [g1] at h;cases h
  | false=>
   cases g2:L.all Qv with
   | false=>rw [g1,g2] at h;cases h
   | true=>
    rw [g1,g2,Aa,Ab] at h;cases g3:Ct L ((D6.cuts L).length - 1) 0 with
    | false=>rw [g3] at h;cases h
    | true=>rw [Aa,Ab,Ab];unfold D7;rw [<-hs.2.2.1,Wu (by have:=hs.1;omega)];rfl
 exact ⟨key,(w0q key).trans hs.2.2.1.symm⟩
theorem j9c {L:List R6} (h:Zf L=0):C5.can L:=by obtain ⟨h1,h2⟩:=u4l h;have:=(v6t h1).1;rwa [h2] at this
theorem MU {l:List R4} (hl:l.length<=400) (hv: ∀r∈l,Vo r=true) (hc:Xr.can l):Cz l=0:=by
 obtain ⟨h1,h2⟩:=Ko hv hl;have e:D4.out l=l:=Xr.uniq _ _ h1 hc h2;have m1:F5 l=0:=by show D7 (D4.out l).length =0;rw [e];unfold D7;rw [Av (by omega)];rfl
 have m0:Ws l=l:=by unfold Ws D8;rw [show Mi l=0 from m1,e];rfl
 unfold Cz Fp;rw [Av (by omega),At.2 hv,m1,m0,show Uw l l=true from Al rfl];rfl
theorem MT {l:List R4} (x:Int) (hl:l.length<=400) (hv: ∀r∈l,Vo r=true) (hc:Xr.can l):Dp (D4.inn l x)=0:=by refine (ZE _).2 ⟨AF (D4.inn_length l x) hl,Ku hv x,?_⟩;obtain ⟨G,hG,e⟩:=hc;rw [e];exact CJ.inn_can GZ Ci x G hG
theorem j2a {l:List R6} (hl:Zf l=0) (x:Int):(D6.inn l x).length <=400/\(∀r∈D6.inn l x,Vo r=true)/\Xr.can (D6.inn l x)/\Xk (D6.inn l x)=0/\Za (D6.inn l x)=D6.inn l x:=by
 obtain ⟨sl,sv,_⟩:=Xs hl;have v:=NG sv x;have n:=AF (D6.inn_length l x) sl;have c:Xr.can (D6.inn l x):=by obtain ⟨G,hG,e⟩:=j9c hl;rw [e];exact CJ.inn_can HE Xr x G hG
 obtain ⟨h1,h2⟩:=Ko v n;have e:D4.out (D6.inn l x)=D6.inn l x:=Xr.uniq _ _ h1 c h2;obtain ⟨r0,r1⟩:=Qk v n (by rw [e];exact n);exact ⟨n,v,c,r1,r0.trans e⟩
theorem u2x (n:Nat):D7 n=0\/D7 n=4:=by
 unfold D7;cases decide ((n:Int)>400)
 .exact .inl rfl
 .exact .inr rfl
theorem Mz {e:Int} (h:e=0\/e=4) (n:Nat):eJ e n=0\/eJ e n=4:=by
 rcases h with rfl | rfl
 .exact u2x n
 .exact .inr rfl
theorem w4v {E:Int->Int} (h: ∀x,E x=0\/E x=4) (cs:List Int): ∀k i,Cv E cs k i=0\/Cv E cs k i=4
 | 0,i=>.inl rfl
 | k+1,i=>by
  show (bif E (rd cs i) != 0 then E (rd cs i) else Cv E cs k (i+1))=0\/(bif E (rd cs i) != 0 then E (rd cs i) else Cv E cs k (i+1))=4;rcases h (rd cs i) with e | e
  .rw [e];exact w4v h cs k (i+1)
  .rw [e];exact .inr rfl
theorem Oc (q:Op) {a b:List R6} (ha:Zf a=0) (hb:Zf b=0):Da q a b=0\/Da q a b=4:=by unfold Da;rw [ha,hb];refine Mz (w4v (fun x=> ?_) _ _ _) _;obtain ⟨a1,a2,a3,a4,a5⟩:=j2a ha x;obtain ⟨b1,b2,b3,b4,b5⟩:=j2a hb x;unfold Ck Dr;rw [a4,b4,a5,b5,MU a1 a2 a3,MU b1 b2 b3];refine Mz (w4v (fun y=> ?_) _ _ _) _;unfold Db HS;rw [MT y a1 a2 a3,MT y b1 b2 b3];exact u2x _
inductive FP where
 | h0 (v7:List R6) (v19:Int)
def t1a (l0:List R6) (x1:Int):FP->CB
 | .h0 v7 v19=>⟨⟨89,0,true⟩,none,(Zg prog 38 [1,1,1,0,1,0,0] 0),none,(Zy prog 16),⟨Yj [(1,(ii x1)),(7,(.sla 0 6 0 v7.length (.un 6))),(17,(.dat l0.length (Zz l0))),(18,(ii (l0.length:Int))),(19,(ii v19))],Vk [⟨Ya v7.length (Zz v7),57,some ⟨6,v7.length,(Zz v7)⟩⟩] 0,1,[],true⟩,[],.leaf⟩
def j4u :List (Option (List Nat)):=[some [1,7,17,18,19]]
def j4v :List (Option (List Nat)):=[]
def N3 (l0:List R6) (x1:Int):FP->Xz FP
 | .h0 v7 v19=>(bif (decide (v19<(l0.length:Int))) then (bif ((decide (0<=v19/\v19<(l0.length:Int)))&&true) then (bif (Kc (rd l0 v19.toNat).a x1) then (bif (Kc (rd l0 v19.toNat).b x1) then (bif (Kc (rd l0 v19.toNat).c x1) then (bif (Kc (wrap .i64 (0 - (rd l0 v19.toNat).d)) x1) then (bif (Kc (wrap .i64 (0 - (rd l0 v19.toNat).e)) x1) then (bif (Kc (wrap .i64 (0 - (rd l0 v19.toNat).f)) x1) then (bif (decide ((Wt (Wt (Up (rd l0 v19.toNat).a x1) (Up (rd l0 v19.toNat).b x1)) (Up (rd l0 v19.toNat).c x1))<(-1000000))) then (.ret [.nils,(.int .i64 16)]) else (bif (decide ((Wf (Wf (wrap .i64 (0 - (Up (wrap .i64 (0 - (rd l0 v19.toNat).d)) x1))) (wrap .i64 (0 - (Up (wrap .i64 (0 - (rd l0 v19.toNat).e)) x1)))) (wrap .i64 (0 - (Up (wrap .i64 (0 - (rd l0 v19.toNat).f)) x1))))>1000000)) then (.ret [.nils,(.int .i64 16)]) else (bif (Nat.beq 6 6&&((decide (0+v7.length=v7.length))&&decide ((v7.length+1+1)*(48+1)<=CF))) then (.to (.h0 (v7++[(R6.mk (Up (rd l0 v19.toNat).a x1) (Up (rd l0 v19.toNat).b x1) (Up (rd l0 v19.toNat).c x1) (wrap .i64 (0 - (Up (wrap .i64 (0 - (rd l0 v19.toNat).d)) x1))) (wrap .i64 (0 - (Up (wrap .i64 (0 - (rd l0 v19.toNat).e)) x1))) (wrap .i64 (0 - (Up (wrap .i64 (0 - (rd l0 v19.toNat).f)) x1))))]) (wrap .i64 (v19+1)))) else .stuck))) else .stuck) else .stuck) else .stuck) else .stuck) else .stuck) else .stuck) else .stuck) else (bif (XJ (B3 v7)) then (.ret [(.dat (Ew (B3 v7)).length (Zz (Ew (B3 v7)))),(.int .i64 (E7 (B3 v7)))]) else .stuck))
def Z8 (l0:List R6) (x1:Int):Xz FP:=(bif (We (B3 l0)) then (bif ((Zf (B3 l0)) != 0) then (.ret [.nils,(.int .i64 (Zf (B3 l0)))]) else (bif (decide (x1<1)) then (.ret [.nils,(.int .i64 2)]) else (bif (decide (x1>1000)) then (.ret [.nils,(.int .i64 2)]) else (.to (.h0 ([]:List R6) 0))))) else .stuck)
theorem w2x (l0:List R6) (x1:Int): ∀s,Xw prog (Zy prog 38) (t1a l0 x1) (t1a l0 x1 s) (N3 l0 x1 s)
 | .h0 v7 v19=>(lb (fun k0=>(lo fun aE=>(lo fun bI=>(lo fun dB=>(lo fun dN=>(lo fun dP=>(lo fun dQ=>(lo fun dR=>let i:=ww dR (ww dQ (ww dP (ww dN (ww dB (ww bI (ww aE (tt k0 nn)))))));(lb (fun k1=>(lr 89 38 [1,1,1,0,1,0,0,1,1,0,0,1,1,0,1,0,0] 1 16 [(4,.nils),(5,(ii 16))] (sl HC 52 [] (a8 [4,5]) a6 (CA 13 []) (tt k1 i)))) (fun k1=>(lb (fun k2=>(lr 89 38 [1,1,1,0,1,0,0,1,1,0,0,1,1,0,1,0,0] 1 16 [(4,.nils),(5,(ii 16))] (sl HC 52 [] (a8 [4,5]) a6 (bl 13 4097) (tt k2 (tt k1 i))))) (fun k2=>(lo fun o0=>let j:=rd l0 (tn v19);let g:=v7++[(R6.mk (Up j.a x1) (Up j.b x1) (Up j.c x1) (wr (0 - (Up (wr (0 - j.d)) x1))) (wr (0 - (Up (wr (0 - j.e)) x1))) (wr (0 - (Up (wr (0 - j.f)) x1))))];let h:=xL (v7.length+1) (v7++[(R6.mk (Up (rd l0 (tn v19)).a x1) (Up (rd l0 (tn v19)).b x1) (Up (rd l0 (tn v19)).c x1) (wr (0 - (Up (wr (0 - (rd l0 (tn v19)).d)) x1))) (wr (0 - (Up (wr (0 - (rd l0 (tn v19)).e)) x1))) (wr (0 - (Up (wr (0 - (rd l0 (tn v19)).f)) x1))))]).length;(sl HC 61 [] ⟨[4],[],j4u,j4v⟩ ⟨[(7,.len g.length)],[.rowed 6 g.length (Zz g)],[]⟩ (bl 13 1) (pp h (pp h (pp (xS (v7.length+1) (Zt (Zz v7) 0 v7.length 6 [(ii (Up (rd l0 (tn v19)).a x1)),(ii (Up (rd l0 (tn v19)).b x1)),(ii (Up (rd l0 (tn v19)).c x1)),(ii (wr (0 - (Up (wr (0 - (rd l0 (tn v19)).d)) x1)))),(ii (wr (0 - (Up (wr (0 - (rd l0 (tn v19)).e)) x1)))),(ii (wr (0 - (Up (wr (0 - (rd l0 (tn v19)).f)) x1))))]) (Zz (v7++[(R6.mk (Up (rd l0 (tn v19)).a x1) (Up (rd l0 (tn v19)).b x1) (Up (rd l0 (tn v19)).c x1) (wr (0 - (Up (wr (0 - (rd l0 (tn v19)).d)) x1))) (wr (0 - (Up (wr (0 - (rd l0 (tn v19)).e)) x1))) (wr (0 - (Up (wr (0 - (rd l0 (tn v19)).f)) x1))))]))) (pp (pp (xF (Zt (Zz v7) 0 v7.length 6 [(ii (Up (rd l0 (tn v19)).a x1)),(ii (Up (rd l0 (tn v19)).b x1)),(ii (Up (rd l0 (tn v19)).c x1)),(ii (wr (0 - (Up (wr (0 - (rd l0 (tn v19)).d)) x1)))),(ii (wr (0 - (Up (wr (0 - (rd l0 (tn v19)).e)) x1)))),(ii (wr (0 - (Up (wr (0 - (rd l0 (tn v19)).f)) x1))))])) nn) (ww o0 (tt k2 (tt k1 i))))))))))))))))))))) (fun k0=>(Xh (sl HC (C':=⟨⟨89,0,true⟩,(Vm prog 38 [1,1,1,1,0] 1),(Zg prog 38 [1,1,1,1,0] 1),none,(Zy prog 16),⟨Yj [(85,(.dat v7.length (Zz v7)))],Vk [] 0,0,[],true⟩,[],.leaf⟩) 10 [] ⟨[],[0],[some [85]],[]⟩ ⟨[(85,.frz v7.length v7.length (Zz v7) (Zz v7))],[],[]⟩ [false] (pp (xZ (Cm 6 6 0 v7.length v7.length (Zz v7)) v7.length (Zz v7)) (pp (xL v7.length v7.length) (pp (xS v7.length (Zz v7) (Zz v7)) (pp (fl v7 nn) (tt k0 nn)))))) (lo fun o0=>let l:=Ew (B3 v7);(lr 89 3 [1,1,1,1,0] 1 16 [(4,(.dat l.length (Zz l))),(5,(ii (E7 (B3 v7))))] (sl HC 6 [] (a8 [4,5]) a6 [] (pp (pp (xr v7) (xw o0)) nn)))))))
theorem x7p (l0:List R6) (x1:Int):Xw prog (Zy prog 38) (t1a l0 x1) (Zm prog 38 [(.dat l0.length (Zz l0)),(.int .i64 x1)] true []) (Z8 l0 x1):=(lo fun bN=>let a:=pp (pp (xr l0) (xw bN)) nn;(lb (fun k0=>(lr 89 38 [1,0,1,1,0,0] 1 16 [(4,.nils),(5,(ii (Zf (B3 l0))))] (sl HC 48 [] (a8 [4,5]) a6 (bl 2 3) (tt k0 (tt k0 a))))) (fun k0=>(lb (fun k1=>(lr 89 38 [1,0,1,1,0,0] 1 16 [(4,.nils),(5,(ii 2))] (sl HC 59 [] (a8 [4,5]) a6 (bl 5 30) (tt k1 (tt k0 a))))) (fun k1=>let b:=tt k1 (tt k0 a);(lb (fun k2=>(lr 89 38 [1,0,1,1,0,0] 1 16 [(4,.nils),(5,(ii 2))] (sl HC 59 [] (a8 [4,5]) a6 (bl 5 24) (tt k2 b)))) (fun k2=>(sl HC 68 [(57,6,Zz ([]:List R6))] ⟨[0],[],j4u,j4v⟩ ⟨[(7,.grow 0 6)],[],[]⟩ (bl 5 0) (pp (fl ([]:List R6) nn) (tt k2 b))))))))))
theorem v9j (l0:List R6) (x1:Int) (n:Nat) (vs:List B2) (h:Zo (N3 l0 x1) n (Z8 l0 x1)=.ret vs):Uj prog (Zy prog 38) (Zm prog 38 [(.dat l0.length (Zz l0)),(.int .i64 x1)] true []) vs:=by have:=Zb (w2x l0 x1) n _ (x7p l0 x1);rwa [h] at this
def Gh (x n:Int):Int:=wrap .i64 (0 - Up (wrap .i64 (0 - x)) n)
theorem WM {x n:Int} (h:n≠0):Kc x n=true:=by unfold Kc;rw [Av h];rfl
def oB (n:Int) (r:R6):R6:=⟨Up r.a n,Up r.b n,Up r.c n,Gh r.d n,Gh r.e n,Gh r.f n⟩
def MX (n:Int) (r:R6):Bool:= !decide (Wt (Wt (Up r.a n) (Up r.b n)) (Up r.c n)<(-1000000))&& !decide (Wf (Wf (Gh r.d n) (Gh r.e n)) (Gh r.f n)>1000000)
def PY (n:Int) (L:List R6) (ok:Bool):List B2:=bif ok then [.dat (Ew (L.map (oB n))).length (Zz (Ew (L.map (oB n)))),.int .i64 (E7 (L.map (oB n)))] else [.nils,.int .i64 16]
theorem v9i {L:List R6} {n:Int} (hl:L.length<=400) (hn:n≠0): ∀(k i:Nat) (acc:List R6),i+k=L.length->acc=(L.take i).map (oB n)-> ∃N,Zo (N3 L n) N (.to (.h0 acc (i:Int)))=.ret (PY n L ((L.drop i).all (MX n)))
 | 0,i,acc,h,ha=>by refine ⟨1,?_⟩;rw [A2 (by omega)] at ha;subst ha;rw [Zx,As (by omega)];simp (disch:=omega) only [N3,Yh,Zd,show∀l,XJ l=true from fun _=>rfl,Ab,Aa,Zp,PY,List.all_nil]
 | k+1,i,acc,h,ha=>by
  have hi:i<L.length:=by omega
  have hla:acc.length=i:=by rw [ha,Bu,BX];omega
  obtain ⟨N,hN⟩:=v9i hl hn k (i+1) (acc++[oB n (rd L i)]) (by omega) (by rw [ha,Yo hi,<-List.map_singleton,<-A8,List.take_append_getElem]);have hw:wrap .i64 ((i:Int)+1)=((i+1:Nat):Int):=Zj (by omega);have hs:N3 L n (.h0 acc (i:Int))=bif MX n (rd L i) then .to (.h0 (acc++[oB n (rd L i)]) ((i+1:Nat):Int)) else .ret [.nils,.int .i64 16]:=by simp (disch:=omega) only [N3,Yy,Yz,hw,Zk,WM hn,Yk,Zh,Yc,Af,Ao,Ah,Ai,Ab];unfold MX Gh oB;cases decide (Wt (Wt (Up (rd L i).a n) (Up (rd L i).b n)) (Up (rd L i).c n)<(-1000000)) <;> cases decide (Wf (Wf (wrap .i64 (0 - Up (wrap .i64 (0 - (rd L i).d)) n)) (wrap .i64 (0 - Up (wrap .i64 (0 - (rd L i).e)) n))) (wrap .i64 (0 - Up (wrap .i64 (0 - (rd L i).f)) n))>1000000) <;> rfl
  refine ⟨N+1,?_⟩;rw [Zx,hs,Yg hi,List.all_cons];rcases Zs (MX n (rd L i)) with q | q
  .rw [q,Ab,Ai];exact hN
  .rw [q,Aa,Be];exact Zp _ _ _
def Fr (L:List R6) (n:Int):Bool:=(Zf L == 0)&&(!decide (n<1)&&(!decide (n>1000)&&L.all (MX n)))
def Vr (L:List R6) (n:Int):List R6:=bif Fr L n then Ew (L.map (oB n)) else []
def EV (L:List R6) (n:Int):Int:=bif Zf L != 0 then Zf L else bif decide (n<1)||decide (n>1000) then 2 else bif L.all (MX n) then E7 (L.map (oB n)) else 16
def Gt (L:List R6) (n:Int):List B2:=bif Fr L n then [.dat (Vr L n).length (Zz (Vr L n)),.int .i64 (EV L n)] else [.nils,.int .i64 (EV L n)]
theorem u7q (L:List R6) (n:Int): ∃N,Zo (N3 L n) N (Z8 L n)=.ret (Gt L n):=by
 have hk:(Zf L != 0)= !(Zf L == 0):=rfl;unfold Z8 Gt Vr EV Fr;simp only [Zd,show∀l,We l=true from fun _=>rfl,Ab,hk];rcases Zs (Zf L == 0) with a | a
 .rcases Zs (decide (n<1)) with b | b
  .refine ⟨0,?_⟩;rw [a,b];rfl
  .rcases Zs (decide (n>1000)) with c | c
   .refine ⟨0,?_⟩;rw [a,b,c];rfl
   .have hb:=Bf b;obtain ⟨N,hN⟩:=v9i (L:=L) (n:=n) (Xs (eq_of_beq a)).1 (by omega) L.length 0 [] (Af _) rfl;refine ⟨N,?_⟩;rw [a,b,c];simp only [Ay,AB,Ai,Bool.or_false,Ab,Aa];rw [Du] at hN;rw [hN,AS];unfold PY;cases L.all (MX n) <;> rfl
 .refine ⟨0,?_⟩;rw [a];rfl
def y8d (L:List R6) (n:Int):Bool:=true
def QY :List B2->Option (B2×Bool)
 | [a0,.int .i64 x1]=>match CS R6 a0 with
  | some (L0,g0,n0)=>some (.tup [.dat (Vr L0 x1).length (Zz (Vr L0 x1)),.int .i64 (EV L0 x1)],CO R6 n0 g0&&y8d L0 x1)
  | _=>none
 | _=>none
theorem t3n {S:B4} (hS:Zv prog S):Zv prog (S.with u0g QY):=by
 refine Em hS (by kernel_rfl) fun args v h=> ?_;unfold QY at h;split at h
 .rename_i a0 x1;split at h
  .rename_i L0 g0 n0 e0;simp only [Ad,Ac,Ae] at h;obtain ⟨rfl,ho0,hw⟩:=h;obtain ⟨N,hN⟩:=u7q L0 x1;refine ⟨_,Gt L0 x1,(.cons (Yn e0 ho0) (.cons (.refl _) .nil)),?_,v9j L0 x1 N _ hN,3,?_⟩
   .unfold Gt;rcases Zs (Fr L0 x1) with q | q
    .rw [q];exact fun ρ u hu=>hu
    .rw [q];unfold Vr;rw [q];exact fun ρ u hu=>GW (.cons (G4 R6) (DL.refl _)) ρ u hu
   .unfold Gt;cases Fr L0 x1 <;> rfl
  .cases h
 .cases h
def Vo2 :B4:=(Vo1.with u0g QY)
theorem Rp :Zv prog Vo2:=t3n HC
theorem u3y {P:Program} {S:B4} (hS:Zv P S) {f:FuncId} {F:List B2->Option (B2×Bool)} (hf:(P.funcs[f]?).any (fun fn=>fn.body.isSome)=true)
  (hF: ∀args v,F args=some (v,true)-> ∃a n g,args=[a]/\Di a (.dat n g)/\
   (n=0-> ∃vs,(∀(ρ:B6) (u:Value),VRel ρ (Ut vs) u->VRel ρ v u)/\Uj P (Zy P f) (Zm P f [.nils] true []) vs/\ ∃d,pf d (Ut vs)=true)/\
   ∃vs,(∀(ρ:B6) (u:Value),VRel ρ (Ut vs) u->VRel ρ v u)/\Uj P (Zy P f) (Zm P f [.nnl n g] true []) vs/\ ∃d,pf d (Ut vs)=true):Zv P (S.with f F):=by
 intro k G hg;unfold B4.with at hg;cases hgf:Nat.beq k f with
 | false=>rw [hgf] at hg;exact hS k G hg
 | true=>
  rw [hgf] at hg;obtain rfl:Fy.val F=G:=Ag hg;obtain rfl:k=f:=Aj hgf;refine ⟨by grind,fun args v hv H vals w dX hH=> ?_⟩;obtain ⟨a,n,g,rfl,hle,h0,h1⟩:=hF args v hv
  suffices hh: ∃b vs,Vi (VRel (rhoOf H)) [b] vals.toList/\(∀(ρ:B6) (u:Value),VRel ρ (Ut vs) u->VRel ρ v u)/\Uj P (Zy P k) (Zm P k [b] true []) vs/\ ∃d,pf d (Ut vs)=true by
   obtain ⟨b,vs,hb,hw,⟨C',g1,g2,g3⟩,d,hp⟩:=hh;exact (goes_call hf g1 g2 (by rw [y7e];exact g3) hb hH).mono fun e w' ⟨ρ,u,he,ho⟩=>⟨ρ.fz,u,ho.le,ho.old,ho.same,he,hw _ _ (Kv d _ u hp ho.val),ho.below⟩
  generalize vals.toList=us at dX ⊢;cases dX with
  | cons hx hr=>
   obtain ⟨vs,hvs⟩:=h1;have hd:=hle.sound hx;cases hd with
   | datn=>obtain ⟨vs,hvs⟩:=h0 rfl;exact ⟨_,vs,.cons .nils hr,hvs⟩
   | datz=>exact ⟨_,vs,.cons (.nnl _ _ _ _ (hle.sound hx)) hr,hvs⟩
   | dat=>exact ⟨_,vs,.cons (.nnl _ _ _ _ (hle.sound hx)) hr,hvs⟩
inductive JJ where
def R5 :JJ->CB
 :=nofun
def u2s :JJ->Xz JJ
 :=nofun
def w9p :Xz JJ:=(.ret [.nils])
theorem v4k : ∀s,Xw prog (Zy prog 40) (R5) (R5 s) (u2s s)
 :=nofun
theorem w5q :Xw prog (Zy prog 40) (R5) (Zm prog 40 [.nils] true []) (w9p):=(lr 8 40 [1,0,1,0,0] 1 9 [(2,.nils)] (sl Xq 15 [] (a8 [2]) a6 [true] nn))
theorem j0a (n:Nat) (vs:List B2) (h:Zo (u2s) n (w9p)=.ret vs):Uj prog (Zy prog 40) (Zm prog 40 [.nils] true []) vs:=by have:=Zb (v4k) n _ (w5q);rwa [h] at this
inductive JI where
def R1 (l0:List R6):JI->CB
 :=nofun
def u2r (l0:List R6):JI->Xz JI
 :=nofun
def x5t (l0:List R6):Xz JI:=(bif (decide ((0+l0.length+1)*(48+1)<=CF)) then (.ret [(.dat l0.length (Zz l0))]) else .stuck)
theorem v4j (l0:List R6): ∀s,Xw prog (Zy prog 40) (R1 l0) (R1 l0 s) (u2r l0 s)
 :=nofun
theorem w5p (l0:List R6):Xw prog (Zy prog 40) (R1 l0) (Zm prog 40 [(.nnl l0.length (Zz l0))] true []) (x5t l0):=(lo fun o0=>(lr 8 3 [1,1,1,1,0] 1 9 [(2,(.dat l0.length (Zz l0)))] (sl Xq 19 [] ⟨[],[1],[some [2]],[]⟩ ⟨[(2,.frz (0+l0.length) l0.length (Jw (fun k=>(([]:List B2).drop (k*6)).take 6) 0 (Zz l0)) (Zz l0))],[],[]⟩ [false] (pp (xZ (Cm 6 6 0 (0+l0.length) (0+l0.length) (Jw (fun k=>(([]:List B2).drop (k*6)).take 6) 0 (Zz l0))) (0+l0.length) (Jw (fun k=>(([]:List B2).drop (k*6)).take 6) 0 (Zz l0))) (pp (xL (0+l0.length) l0.length (Uu (Af _))) (pp (xS (0+l0.length) (Jw (fun k=>(([]:List B2).drop (k*6)).take 6) 0 (Zz l0)) (Zz l0)) (pp (pp (xF (Jw (fun k=>(([]:List B2).drop (k*6)).take 6) 0 (Zz l0))) nn) (pp (pp nn (pp (xG (G8 6 l0.length (Zz l0))) (xw o0))) nn))))))))
theorem u9z (l0:List R6) (n:Nat) (vs:List B2) (h:Zo (u2r l0) n (x5t l0)=.ret vs):Uj prog (Zy prog 40) (Zm prog 40 [(.nnl l0.length (Zz l0))] true []) vs:=by have:=Zb (v4j l0) n _ (w5p l0);rwa [h] at this
abbrev u0i :Nat:=40
abbrev w8q :Nat:=10
def Hs (l:List R6):List R6:=l
def Z3 (l:List R6):Bool:=decide ((0+l.length+1)*(48+1)<=CF)
def RF :List B2->Option (B2×Bool)
 | [a0]=>match CS R6 a0 with
  | some (L0,g0,n0)=>some (.dat L0.length (Zz L0),CO R6 n0 g0&&(Z3 L0))
  | _=>none
 | _=>none
theorem t4f {S:B4} (hS:Zv prog S):Zv prog (S.with u0i RF):=by
 refine u3y hS (by kernel_rfl) fun args v h=> ?_;unfold RF at h;split at h
 .rename_i a0;split at h
  .rename_i L0 g0 n0 e0;simp only [Ad,Ac,Ae] at h;obtain ⟨rfl,ho0,hw⟩:=h;refine ⟨_,_,_,rfl,Yn e0 ho0,fun hz=>⟨[.nils],?_,j0a 0 _ rfl,3,rfl⟩,[.dat L0.length (Zz L0)],fun _ _ hu=>hu,u9z L0 0 _ ?_,3,rfl⟩
   .intro ρ u hu;obtain rfl:=List.eq_nil_of_length_eq_zero hz;exact (G4 R6).sound hu
   .unfold x5t;unfold Z3 at hw;rw [hw];rfl
  .cases h
 .cases h
def Kl (l:List Pa):Bool:=decide (50<l.length)||smP l
theorem j1m {l:List Pa} (h:smP l=true):Kl l=true:=by unfold Kl;rw [h,Bool.or_true]
def Hr (l:List Pa):Int:=Qe l
def SU (l:List Pa):Bool:=Kl l
theorem j8l (l:List Pa) (h:SU l=true): ∃n,Zo (Vh l) n (SM l)=.ret [.int .i64 (Hr l)]:=by
 unfold Hr;by_cases g:50<l.length
 .unfold SM Qe;exact ⟨0,by rw [Yt (by omega),Al g];rfl⟩
 .refine v7e l ?_;have h:Kl l=true:=h;unfold Kl at h;rwa [Av g,Bool.false_or] at h
def Iv :List B2->Option (B2×Bool)
 | [a0]=>match CS Pa a0 with
  | some (L0,g0,n0)=>some (.int .i64 (Hr L0),CO Pa n0 g0&&(SU L0))
  | _=>none
 | _=>none
theorem u1p {S:B4} (hS:Zv prog S):Zv prog (S.with Ty Iv):=by
 refine Qn hS (by kernel_rfl) fun args v h=> ?_;unfold Iv at h;split at h
 .rename_i a0;split at h
  .rename_i L0 g0 n0 e0;simp only [Ad,Ac,Ae] at h;obtain ⟨rfl,ho0,hw⟩:=h;obtain ⟨N,hN⟩:=j8l L0 hw;exact ⟨_,_,(.cons (Yn e0 ho0) .nil),rfl,w7g L0 N _ hN,3,rfl⟩
  .cases h
 .cases h
def Vo3 :B4:=(Vo2.with u0i RF).with Ty Iv
theorem GT :Zv prog Vo3:=u1p (t4f Rp)
end Go.Am
end
