/- A part of a proof: several texts in one. -/
import Derived.Test.YthnnmgkacjjpeaaGreatDoorNd3
set_option maxRecDepth 1000000
set_option maxHeartbeats 8000000
set_option linter.unusedVariables false
set_option linter.unusedSimpArgs false
noncomputable section
namespace Go.Am
open IntKind (wrap)
open Go.Proofs.Tryz
open Go.Proofs
section
attribute [local irreducible] Vc Yk
inductive BW where
 | h0
 | h1
 | h2 (v14:List (List UInt8)) (bR:List R7) (aN:List (List UInt8)) (bU:Int) (bV:List (List UInt8))
 | h3 (v14:List (List UInt8)) (bR:List R7) (aN:List (List UInt8)) (bU:Int) (bV:List (List UInt8)) (aE:Int)
 | h4 (v14:List (List UInt8)) (v15:Int) (aP:List (List UInt8)) (aC:List R7) (aO:Int) (aR:List (List UInt8)) (aF:Int)
 | h5 (v14:List (List UInt8)) (v15:Int) (aP:List (List UInt8)) (aC:List R7) (aO:Int) (aR:List (List UInt8)) (aE:Int) (aF:Int)
 | h6 (v6:List R7) (v26:Int)
 | h7 (v14:List (List UInt8)) (v15:Int) (aP:List (List UInt8)) (aC:List R7) (aO:Int) (aR:List (List UInt8)) (aE:Int) (aL:Int) (aF:Int)
 | h8 (v14:List (List UInt8)) (v15:Int) (aP:List (List UInt8)) (aC:List R7) (aO:Int) (aR:List (List UInt8)) (aE:Int) (aL:Int) (aS:Int) (aZ:Int)
 | h9 (v14:List (List UInt8)) (v15:Int) (aP:List (List UInt8)) (aC:List R7) (aO:Int) (aR:List (List UInt8)) (aE:Int) (aL:Int) (aS:Int) (bC:Int) (aZ:Int)
 | h10 (v14:List (List UInt8)) (v15:Int) (aP:List (List UInt8)) (aC:List R7) (aO:Int) (aR:List (List UInt8)) (aE:Int) (aL:Int) (aS:Int) (bC:Int) (bJ:Int) (aZ:Int)
 | h11 (v14:List (List UInt8)) (v15:Int) (aP:List (List UInt8)) (aC:List R7) (aO:Int) (aR:List (List UInt8)) (aE:Int) (aL:Int) (aS:Int) (bC:Int) (bJ:Int) (cC:Int) (aZ:Int)
def Hr (x0:List UInt8):BA:=(.dat (Zu ((x0.drop 0).take (tn (wr ((x0.length:Int) - 1)))) ([10]:List UInt8)).length (Zx (Zu ((x0.drop 0).take (tn (wr ((x0.length:Int) - 1)))) ([10]:List UInt8))))
def KU (aC:List R7) (x0:List UInt8) (aO:Int) (aR:List (List UInt8)):BS:=⟨⟨81,0,true⟩,(Jm prog 23 [1,1,1,1,1,0,1,0,0,1,1,0,0,1,1,1,1,0] 2),(Yb prog 23 [1,1,1,1,1,0,1,0,0,1,1,0,0,1,1,1,1,0] 1),none,(Zy prog 10),Kk [(6,(.sla 2 7 0 aC.length (.un 7))),(10,(.ptr 3 0)),(24,(Hr x0)),(25,(ii (((Zu ((x0.drop 0).take (tn (wr ((x0.length:Int) - 1)))) ([10]:List UInt8)).length :Nat):Int))),(26,(ii aO)),(58,(.dat aR.length (Zx aR)))]⟩
def FG (aP:List (List UInt8)):BS:=⟨⟨21,0,true⟩,(Jm prog 47 [1,0] 14),(Yb prog 47 [1,0] 1),none,(Zy prog 47),Kk [(2,(.ptr 1 0)),(4,(.dat aP.length (Zx aP))),(17,(.sl 0 0 6 (.un 1)))]⟩
def Mb (aC:List R7) (x0:List UInt8) (aO:Int) (aR:List (List UInt8)):BS:=⟨⟨81,0,true⟩,(Jm prog 23 [1,1,1,1,1,0,1,0,0,1,1,0,0,1,1,1,1,0] 2),(Yb prog 23 [1,1,1,1,1,0,1,0,0,1,1,0,0,1,1,1,1,0] 1),none,(Zy prog 10),Kk [(6,(.sla 3 7 0 aC.length (.un 7))),(10,(.ptr 2 0)),(24,(Hr x0)),(25,(ii (((Zu ((x0.drop 0).take (tn (wr ((x0.length:Int) - 1)))) ([10]:List UInt8)).length :Nat):Int))),(26,(ii aO)),(58,(.dat aR.length (Zx aR)))]⟩
abbrev Xx (aZ:Int):=(wrap IntKind.u8 aZ)
def FH :BD:=⟨[(.ptr 1 0),(.ptr 1 1),(.ptr 1 2),(.ptr 1 3),(.ptr 1 4),(.ptr 1 5)],91,none⟩
abbrev Vy (aF:Int):=(wrap IntKind.u8 aF)
def P5 (bR:List R7) (aN:List (List UInt8)) (x0:List UInt8) (bU:Int) (bV:List (List UInt8)):BS:=⟨⟨81,0,true⟩,(Jm prog 23 [1,1,1,1,1,0,1,0,0,1,1,0,0,1,1,1,0,0] 13),(Yb prog 23 [1,1,1,1,1,0,1,0,0,1,1,0,0,1,1,1,0,0] 1),none,(Zy prog 10),Kk [(6,(.sla 2 7 0 bR.length (.un 7))),(9,(.dat aN.length (Zx aN))),(10,(.ptr 1 0)),(24,(Hr x0)),(25,(ii (((Zu ((x0.drop 0).take (tn (wr ((x0.length:Int) - 1)))) ([10]:List UInt8)).length :Nat):Int))),(26,(ii bU)),(41,(.bool false)),(43,(.dat bV.length (Zx bV))),(44,(.sl 0 0 1 (.un 1)))]⟩
def D9 :=(Yb prog 46 [1,1,0,1,0,0] 0)
def Da (v14:List (List UInt8)):BA:=(.dat v14.length (Zx v14))
abbrev KA (aN:List (List UInt8)):=(Zx (Yg aN 2 (aN.length - 2)))
abbrev Ls (aC:List R7) (aF:Int):=(aC++[(R7.mk (Vy aF) 0 0 0 0 0 0)])
def MI :=(Yb prog 23 [1,1,1,1,1,0,1,0,0] 0)
def GI (x0:List UInt8):BW->BJ
 | .h0 =>⟨⟨81,0,true⟩,none,MI,none,(Zy prog 10),⟨Kk [(6,.nils),(24,.nils),(25,(ii 0)),(26,(ii 0))],BV [] 0,0,[],true⟩,[],.leaf⟩
 | .h1 =>⟨⟨81,0,true⟩,none,MI,none,(Zy prog 10),⟨Kk [(6,.nils),(24,(Hr x0)),(25,(ii (((Zu ((x0.drop 0).take (tn (wr ((x0.length:Int) - 1)))) ([10]:List UInt8)).length :Nat):Int))),(26,(ii 0))],BV [] 0,0,[],true⟩,[],.leaf⟩
 | .h2 v14 bR aN bU bV=>⟨⟨49,0,true⟩,none,D9,none,(Zy prog 3),⟨Kk [(1,(.sl 0 0 1 (.un 1))),(14,(Da v14)),(15,(ii 1)),(16,(ii 0))],BV [⟨[(.ptr 1 0)],91,none⟩,⟨[(ii 0)],3,none⟩,⟨rows bR.length (Zx bR),109,some ⟨7,bR.length,(Zx bR)⟩⟩] 0,3,[],true⟩,[(P5 bR aN x0 bU bV)],.leaf⟩
 | .h3 v14 bR aN bU bV aE=>⟨⟨49,0,true⟩,none,D9,none,(Zy prog 3),⟨Kk [(1,(.sl 0 0 1 (.un 1))),(14,(Da v14)),(15,(ii 1)),(16,(ii 1))],BV [⟨[(.ptr 1 0)],91,none⟩,⟨[(ii aE)],3,none⟩,⟨rows bR.length (Zx bR),109,some ⟨7,bR.length,(Zx bR)⟩⟩] 0,3,[],true⟩,[(P5 bR aN x0 bU bV)],.leaf⟩
 | .h4 v14 v15 aP aC aO aR aF=>⟨⟨49,0,true⟩,none,D9,none,(Zy prog 3),⟨Kk [(1,(.sl 0 0 6 (.un 1))),(14,(Da v14)),(15,(ii v15)),(16,(ii 0))],BV [FH,⟨[(ii 0),(ii 0),(ii 0),(ii 0),(ii 0),(ii 0)],79,none⟩,⟨[(ii aF)],3,none⟩,⟨rows aC.length (Zx aC),109,some ⟨7,aC.length,(Zx aC)⟩⟩] 0,4,[],true⟩,[(FG aP),(Mb aC x0 aO aR)],.leaf⟩
 | .h5 v14 v15 aP aC aO aR aE aF=>⟨⟨49,0,true⟩,none,D9,none,(Zy prog 3),⟨Kk [(1,(.sl 0 0 6 (.un 1))),(14,(Da v14)),(15,(ii v15)),(16,(ii 1))],BV [FH,⟨[(ii aE),(ii 0),(ii 0),(ii 0),(ii 0),(ii 0)],79,none⟩,⟨[(ii aF)],3,none⟩,⟨rows aC.length (Zx aC),109,some ⟨7,aC.length,(Zx aC)⟩⟩] 0,4,[],true⟩,[(FG aP),(Mb aC x0 aO aR)],.leaf⟩
 | .h6 v6 v26=>⟨⟨81,0,true⟩,none,MI,none,(Zy prog 10),⟨Kk [(6,(.sla 0 7 0 v6.length (.un 7))),(24,(Hr x0)),(25,(ii (((Zu ((x0.drop 0).take (tn (wr ((x0.length:Int) - 1)))) ([10]:List UInt8)).length :Nat):Int))),(26,(ii v26))],BV [⟨rows v6.length (Zx v6),109,some ⟨7,v6.length,(Zx v6)⟩⟩] 0,1,[],true⟩,[],.leaf⟩
 | .h7 v14 v15 aP aC aO aR aE aL aF=>⟨⟨49,0,true⟩,none,D9,none,(Zy prog 3),⟨Kk [(1,(.sl 0 0 6 (.un 1))),(14,(Da v14)),(15,(ii v15)),(16,(ii 2))],BV [FH,⟨[(ii aE),(ii aL),(ii 0),(ii 0),(ii 0),(ii 0)],79,none⟩,⟨[(ii aF)],3,none⟩,⟨rows aC.length (Zx aC),109,some ⟨7,aC.length,(Zx aC)⟩⟩] 0,4,[],true⟩,[(FG aP),(Mb aC x0 aO aR)],.leaf⟩
 | .h8 v14 v15 aP aC aO aR aE aL aS aZ=>⟨⟨49,0,true⟩,none,D9,none,(Zy prog 3),⟨Kk [(1,(.sl 0 0 6 (.un 1))),(14,(Da v14)),(15,(ii v15)),(16,(ii 3))],BV [FH,⟨[(ii aE),(ii aL),(ii aS),(ii 0),(ii 0),(ii 0)],79,none⟩,⟨rows aC.length (Zx aC),109,some ⟨7,aC.length,(Zx aC)⟩⟩,⟨[(ii aZ)],3,none⟩] 0,4,[],true⟩,[(FG aP),(KU aC x0 aO aR)],.leaf⟩
 | .h9 v14 v15 aP aC aO aR aE aL aS bC aZ=>⟨⟨49,0,true⟩,none,D9,none,(Zy prog 3),⟨Kk [(1,(.sl 0 0 6 (.un 1))),(14,(Da v14)),(15,(ii v15)),(16,(ii 4))],BV [FH,⟨[(ii aE),(ii aL),(ii aS),(ii bC),(ii 0),(ii 0)],79,none⟩,⟨rows aC.length (Zx aC),109,some ⟨7,aC.length,(Zx aC)⟩⟩,⟨[(ii aZ)],3,none⟩] 0,4,[],true⟩,[(FG aP),(KU aC x0 aO aR)],.leaf⟩
 | .h10 v14 v15 aP aC aO aR aE aL aS bC bJ aZ=>⟨⟨49,0,true⟩,none,D9,none,(Zy prog 3),⟨Kk [(1,(.sl 0 0 6 (.un 1))),(14,(Da v14)),(15,(ii v15)),(16,(ii 5))],BV [FH,⟨[(ii aE),(ii aL),(ii aS),(ii bC),(ii bJ),(ii 0)],79,none⟩,⟨rows aC.length (Zx aC),109,some ⟨7,aC.length,(Zx aC)⟩⟩,⟨[(ii aZ)],3,none⟩] 0,4,[],true⟩,[(FG aP),(KU aC x0 aO aR)],.leaf⟩
 | .h11 v14 v15 aP aC aO aR aE aL aS bC bJ cC aZ=>⟨⟨49,0,true⟩,none,D9,none,(Zy prog 3),⟨Kk [(1,(.sl 0 0 6 (.un 1))),(14,(Da v14)),(15,(ii v15)),(16,(ii 6))],BV [FH,⟨[(ii aE),(ii aL),(ii aS),(ii bC),(ii bJ),(ii cC)],79,none⟩,⟨rows aC.length (Zx aC),109,some ⟨7,aC.length,(Zx aC)⟩⟩,⟨[(ii aZ)],3,none⟩] 0,4,[],true⟩,[(FG aP),(KU aC x0 aO aR)],.leaf⟩
def IW :List (Option (List Nat)):=[some [6,24,25,26]]
def I5 :List (Option (List Nat)):=[]
def IV :List (Option (List Nat)):=[some [6,24,25,26]]
def I4 :List (Option (List Nat)):=[]
def Eg :List (Option (List Nat)):=[some [1,14,15,16],some [6,9,10,24,25,26,41,43,44]]
def Eh :List (Option (List Nat)):=[]
def IU :List (Option (List Nat)):=[some [1,14,15,16],some [6,9,10,24,25,26,41,43,44]]
def I3 :List (Option (List Nat)):=[]
def IT :List (Option (List Nat)):=[some [1,14,15,16],some [2,4,17],some [6,10,24,25,26,58]]
def I2 :List (Option (List Nat)):=[]
def IS :List (Option (List Nat)):=[some [1,14,15,16],some [2,4,17],some [6,10,24,25,26,58]]
def I1 :List (Option (List Nat)):=[]
def F1 :List (Option (List Nat)):=[some [6,24,25,26]]
def F0 :List (Option (List Nat)):=[]
def IR :List (Option (List Nat)):=[some [1,14,15,16],some [2,4,17],some [6,10,24,25,26,58]]
def I0 :List (Option (List Nat)):=[]
def IQ :List (Option (List Nat)):=[some [1,14,15,16],some [2,4,17],some [6,10,24,25,26,58]]
def IZ :List (Option (List Nat)):=[]
def IP :List (Option (List Nat)):=[some [1,14,15,16],some [2,4,17],some [6,10,24,25,26,58]]
def IY :List (Option (List Nat)):=[]
def GE :List (Option (List Nat)):=[some [1,14,15,16],some [2,4,17],some [6,10,24,25,26,58]]
def GG :List (Option (List Nat)):=[]
def GD :List (Option (List Nat)):=[some [1,14,15,16],some [2,4,17],some [6,10,24,25,26,58]]
def GF :List (Option (List Nat)):=[]
def Yy (x0:List UInt8):BW->Vu BW
 | .h0 =>(bif (Yk ([]:List R7)) then (bif ((Vc ([]:List R7)) != 0) then (.ret [.nils,(.int .i64 (Vc ([]:List R7)))]) else (.ret [.nils,(.int .i64 0)])) else .stuck)
 | .h1 =>(bif (decide (0<(((Zu ((x0.drop 0).take (Int.toNat (wrap .i64 ((x0.length:Int) - 1)))) ([10]:List UInt8)).length :Nat):Int))) then (bif ((decide ((0:Int)<=0/\0<(((Zu ((x0.drop 0).take (Int.toNat (wrap .i64 ((x0.length:Int) - 1)))) ([10]:List UInt8)).length :Nat):Int)))&&true) then (bif (Xw (rd (Zu ((x0.drop 0).take (Int.toNat (wrap .i64 ((x0.length:Int) - 1)))) ([10]:List UInt8)) 0) ([32]:List UInt8)) then (bif ((decide ((0:Int)<=0/\0<(((Zu (rd (Zu ((x0.drop 0).take (Int.toNat (wrap .i64 ((x0.length:Int) - 1)))) ([10]:List UInt8)) 0) ([32]:List UInt8)).length :Nat):Int)))&&true) then (bif (!((rd (Zu (rd (Zu ((x0.drop 0).take (Int.toNat (wrap .i64 ((x0.length:Int) - 1)))) ([10]:List UInt8)) 0) ([32]:List UInt8)) 0) == ([113,117,97,100]:List UInt8))) then (.ret [.nils,(.int .i64 12)]) else (bif (decide ((((Zu (rd (Zu ((x0.drop 0).take (Int.toNat (wrap .i64 ((x0.length:Int) - 1)))) ([10]:List UInt8)) 0) ([32]:List UInt8)).length :Nat):Int)<2)) then (.ret [.nils,(.int .i64 12)]) else (bif (decide (1<=2)) then (bif (decide (2<=(Zu (rd (Zu ((x0.drop 0).take (Int.toNat (wrap .i64 ((x0.length:Int) - 1)))) ([10]:List UInt8)) 0) ([32]:List UInt8)).length)) then (.to (.h2 (Yg (Zu (rd (Zu ((x0.drop 0).take (Int.toNat (wrap .i64 ((x0.length:Int) - 1)))) ([10]:List UInt8)) 0) ([32]:List UInt8)) 1 1) ([]:List R7) (Zu (rd (Zu ((x0.drop 0).take (Int.toNat (wrap .i64 ((x0.length:Int) - 1)))) ([10]:List UInt8)) 0) ([32]:List UInt8)) 0 (Yg (Zu (rd (Zu ((x0.drop 0).take (Int.toNat (wrap .i64 ((x0.length:Int) - 1)))) ([10]:List UInt8)) 0) ([32]:List UInt8)) 1 1))) else .stuck) else .stuck))) else .stuck) else .stuck) else .stuck) else (bif (Yk ([]:List R7)) then (bif ((Vc ([]:List R7)) != 0) then (.ret [.nils,(.int .i64 (Vc ([]:List R7)))]) else (.ret [.nils,(.int .i64 0)])) else .stuck))
 | .h2 v14 bR aN bU bV=>(bif ((decide ((0:Int)<=0/\0<(v14.length:Int)))&&true) then (bif (Zn (rd v14 0)) then (bif (!(Xj (rd v14 0))) then (.ret [.nils,(.int .i64 12)]) else (bif (Zb (Zw (rd v14 0))) then (bif (!((Ye (Zw (rd v14 0))) == (rd v14 0))) then (.ret [.nils,(.int .i64 12)]) else (bif (decide ((Zw (rd v14 0))<(-9999999))) then (.ret [.nils,(.int .i64 12)]) else (bif (decide ((Zw (rd v14 0))>9999999)) then (.ret [.nils,(.int .i64 12)]) else (.to (.h3 v14 bR aN bU bV (Zw (rd v14 0))))))) else .stuck)) else .stuck) else .stuck)
 | .h3 v14 bR aN bU bV aE=>(bif (decide (aE<0)) then (.ret [.nils,(.int .i64 12)]) else (bif (decide (aE>5)) then (.ret [.nils,(.int .i64 12)]) else (bif (decide (2<=aN.length)) then (bif (decide (aN.length<=aN.length)) then (bif ((((aN.length - 2):Nat):Int) != 6) then (.ret [.nils,(.int .i64 12)]) else (.to (.h4 (Yg aN 2 (aN.length - 2)) (((aN.length - 2):Nat):Int) (Yg aN 2 (aN.length - 2)) bR bU (Yg aN 2 (aN.length - 2)) aE))) else .stuck) else .stuck)))
 | .h4 v14 v15 aP aC aO aR aF=>(bif (decide (0<v15)) then (bif ((decide ((0:Int)<=0/\0<(v14.length:Int)))&&true) then (bif (Zn (rd v14 0)) then (bif (!(Xj (rd v14 0))) then (.ret [.nils,(.int .i64 12)]) else (bif (Zb (Zw (rd v14 0))) then (bif (!((Ye (Zw (rd v14 0))) == (rd v14 0))) then (.ret [.nils,(.int .i64 12)]) else (bif (decide ((Zw (rd v14 0))<(-9999999))) then (.ret [.nils,(.int .i64 12)]) else (bif (decide ((Zw (rd v14 0))>9999999)) then (.ret [.nils,(.int .i64 12)]) else (.to (.h5 v14 v15 aP aC aO aR (Zw (rd v14 0)) aF))))) else .stuck)) else .stuck) else .stuck) else (bif (Nat.beq 7 7&&((decide (0+aC.length=aC.length))&&decide ((aC.length+1+1)*(56+1)<=Xr))) then (.to (.h6 (aC++[(R7.mk (wrap IntKind.u8 aF) 0 0 0 0 0 0)]) (wrap .i64 (aO+1)))) else .stuck))
 | .h5 v14 v15 aP aC aO aR aE aF=>(bif (decide (1<v15)) then (bif ((decide ((0:Int)<=1/\1<(v14.length:Int)))&&true) then (bif (Zn (rd v14 1)) then (bif (!(Xj (rd v14 1))) then (.ret [.nils,(.int .i64 12)]) else (bif (Zb (Zw (rd v14 1))) then (bif (!((Ye (Zw (rd v14 1))) == (rd v14 1))) then (.ret [.nils,(.int .i64 12)]) else (bif (decide ((Zw (rd v14 1))<(-9999999))) then (.ret [.nils,(.int .i64 12)]) else (bif (decide ((Zw (rd v14 1))>9999999)) then (.ret [.nils,(.int .i64 12)]) else (.to (.h7 v14 v15 aP aC aO aR aE (Zw (rd v14 1)) aF))))) else .stuck)) else .stuck) else .stuck) else (bif (Nat.beq 7 7&&((decide (0+aC.length=aC.length))&&decide ((aC.length+1+1)*(56+1)<=Xr))) then (.to (.h6 (aC++[(R7.mk (wrap IntKind.u8 aF) aE 0 0 0 0 0)]) (wrap .i64 (aO+1)))) else .stuck))
 | .h6 v6 v26=>(bif (decide (v26<(((Zu ((x0.drop 0).take (Int.toNat (wrap .i64 ((x0.length:Int) - 1)))) ([10]:List UInt8)).length :Nat):Int))) then (bif ((decide (0<=v26/\v26<(((Zu ((x0.drop 0).take (Int.toNat (wrap .i64 ((x0.length:Int) - 1)))) ([10]:List UInt8)).length :Nat):Int)))&&true) then (bif (Xw (rd (Zu ((x0.drop 0).take (Int.toNat (wrap .i64 ((x0.length:Int) - 1)))) ([10]:List UInt8)) v26.toNat) ([32]:List UInt8)) then (bif ((decide ((0:Int)<=0/\0<(((Zu (rd (Zu ((x0.drop 0).take (Int.toNat (wrap .i64 ((x0.length:Int) - 1)))) ([10]:List UInt8)) v26.toNat) ([32]:List UInt8)).length :Nat):Int)))&&true) then (bif (!((rd (Zu (rd (Zu ((x0.drop 0).take (Int.toNat (wrap .i64 ((x0.length:Int) - 1)))) ([10]:List UInt8)) v26.toNat) ([32]:List UInt8)) 0) == ([113,117,97,100]:List UInt8))) then (.ret [.nils,(.int .i64 12)]) else (bif (decide ((((Zu (rd (Zu ((x0.drop 0).take (Int.toNat (wrap .i64 ((x0.length:Int) - 1)))) ([10]:List UInt8)) v26.toNat) ([32]:List UInt8)).length :Nat):Int)<2)) then (.ret [.nils,(.int .i64 12)]) else (bif (decide (1<=2)) then (bif (decide (2<=(Zu (rd (Zu ((x0.drop 0).take (Int.toNat (wrap .i64 ((x0.length:Int) - 1)))) ([10]:List UInt8)) v26.toNat) ([32]:List UInt8)).length)) then (.to (.h2 (Yg (Zu (rd (Zu ((x0.drop 0).take (Int.toNat (wrap .i64 ((x0.length:Int) - 1)))) ([10]:List UInt8)) v26.toNat) ([32]:List UInt8)) 1 1) v6 (Zu (rd (Zu ((x0.drop 0).take (Int.toNat (wrap .i64 ((x0.length:Int) - 1)))) ([10]:List UInt8)) v26.toNat) ([32]:List UInt8)) v26 (Yg (Zu (rd (Zu ((x0.drop 0).take (Int.toNat (wrap .i64 ((x0.length:Int) - 1)))) ([10]:List UInt8)) v26.toNat) ([32]:List UInt8)) 1 1))) else .stuck) else .stuck))) else .stuck) else .stuck) else .stuck) else (bif (Nat.beq 7 7&&(decide (0+v6.length<=v6.length)&&Uj (Zx v6))) then (bif (Yk (lst R7 (v6.length) (fun k=>(Zx v6) (0+k)))) then (bif ((Vc (lst R7 (v6.length) (fun k=>(Zx v6) (0+k)))) != 0) then (.ret [.nils,(.int .i64 (Vc (lst R7 (v6.length) (fun k=>(Zx v6) (0+k)))))]) else (.ret [(.dat v6.length (Zx v6)),(.int .i64 0)])) else .stuck) else .stuck))
 | .h7 v14 v15 aP aC aO aR aE aL aF=>(bif (decide (2<v15)) then (bif ((decide ((0:Int)<=2/\2<(v14.length:Int)))&&true) then (bif (Zn (rd v14 2)) then (bif (!(Xj (rd v14 2))) then (.ret [.nils,(.int .i64 12)]) else (bif (Zb (Zw (rd v14 2))) then (bif (!((Ye (Zw (rd v14 2))) == (rd v14 2))) then (.ret [.nils,(.int .i64 12)]) else (bif (decide ((Zw (rd v14 2))<(-9999999))) then (.ret [.nils,(.int .i64 12)]) else (bif (decide ((Zw (rd v14 2))>9999999)) then (.ret [.nils,(.int .i64 12)]) else (.to (.h8 v14 v15 aP aC aO aR aE aL (Zw (rd v14 2)) aF))))) else .stuck)) else .stuck) else .stuck) else (bif (Nat.beq 7 7&&((decide (0+aC.length=aC.length))&&decide ((aC.length+1+1)*(56+1)<=Xr))) then (.to (.h6 (aC++[(R7.mk (wrap IntKind.u8 aF) aE aL 0 0 0 0)]) (wrap .i64 (aO+1)))) else .stuck))
 | .h8 v14 v15 aP aC aO aR aE aL aS aZ=>(bif (decide (3<v15)) then (bif ((decide ((0:Int)<=3/\3<(v14.length:Int)))&&true) then (bif (Zn (rd v14 3)) then (bif (!(Xj (rd v14 3))) then (.ret [.nils,(.int .i64 12)]) else (bif (Zb (Zw (rd v14 3))) then (bif (!((Ye (Zw (rd v14 3))) == (rd v14 3))) then (.ret [.nils,(.int .i64 12)]) else (bif (decide ((Zw (rd v14 3))<(-9999999))) then (.ret [.nils,(.int .i64 12)]) else (bif (decide ((Zw (rd v14 3))>9999999)) then (.ret [.nils,(.int .i64 12)]) else (.to (.h9 v14 v15 aP aC aO aR aE aL aS (Zw (rd v14 3)) aZ))))) else .stuck)) else .stuck) else .stuck) else (bif (Nat.beq 7 7&&((decide (0+aC.length=aC.length))&&decide ((aC.length+1+1)*(56+1)<=Xr))) then (.to (.h6 (aC++[(R7.mk (wrap IntKind.u8 aZ) aE aL aS 0 0 0)]) (wrap .i64 (aO+1)))) else .stuck))
 | .h9 v14 v15 aP aC aO aR aE aL aS bC aZ=>(bif (decide (4<v15)) then (bif ((decide ((0:Int)<=4/\4<(v14.length:Int)))&&true) then (bif (Zn (rd v14 4)) then (bif (!(Xj (rd v14 4))) then (.ret [.nils,(.int .i64 12)]) else (bif (Zb (Zw (rd v14 4))) then (bif (!((Ye (Zw (rd v14 4))) == (rd v14 4))) then (.ret [.nils,(.int .i64 12)]) else (bif (decide ((Zw (rd v14 4))<(-9999999))) then (.ret [.nils,(.int .i64 12)]) else (bif (decide ((Zw (rd v14 4))>9999999)) then (.ret [.nils,(.int .i64 12)]) else (.to (.h10 v14 v15 aP aC aO aR aE aL aS bC (Zw (rd v14 4)) aZ))))) else .stuck)) else .stuck) else .stuck) else (bif (Nat.beq 7 7&&((decide (0+aC.length=aC.length))&&decide ((aC.length+1+1)*(56+1)<=Xr))) then (.to (.h6 (aC++[(R7.mk (wrap IntKind.u8 aZ) aE aL aS bC 0 0)]) (wrap .i64 (aO+1)))) else .stuck))
 | .h10 v14 v15 aP aC aO aR aE aL aS bC bJ aZ=>(bif (decide (5<v15)) then (bif ((decide ((0:Int)<=5/\5<(v14.length:Int)))&&true) then (bif (Zn (rd v14 5)) then (bif (!(Xj (rd v14 5))) then (.ret [.nils,(.int .i64 12)]) else (bif (Zb (Zw (rd v14 5))) then (bif (!((Ye (Zw (rd v14 5))) == (rd v14 5))) then (.ret [.nils,(.int .i64 12)]) else (bif (decide ((Zw (rd v14 5))<(-9999999))) then (.ret [.nils,(.int .i64 12)]) else (bif (decide ((Zw (rd v14 5))>9999999)) then (.ret [.nils,(.int .i64 12)]) else (.to (.h11 v14 v15 aP aC aO aR aE aL aS bC bJ (Zw (rd v14 5)) aZ))))) else .stuck)) else .stuck) else .stuck) else (bif (Nat.beq 7 7&&((decide (0+aC.length=aC.length))&&decide ((aC.length+1+1)*(56+1)<=Xr))) then (.to (.h6 (aC++[(R7.mk (wrap IntKind.u8 aZ) aE aL aS bC bJ 0)]) (wrap .i64 (aO+1)))) else .stuck))
 | .h11 v14 v15 aP aC aO aR aE aL aS bC bJ cC aZ=>(bif (decide (6<v15)) then (bif ((decide ((0:Int)<=6/\6<(v14.length:Int)))&&true) then (bif (Zn (rd v14 6)) then (bif (!(Xj (rd v14 6))) then (.ret [.nils,(.int .i64 12)]) else (bif (Zb (Zw (rd v14 6))) then (bif (!((Ye (Zw (rd v14 6))) == (rd v14 6))) then (.ret [.nils,(.int .i64 12)]) else (bif (decide ((Zw (rd v14 6))<(-9999999))) then (.ret [.nils,(.int .i64 12)]) else (bif (decide ((Zw (rd v14 6))>9999999)) then (.ret [.nils,(.int .i64 12)]) else .stuck))) else .stuck)) else .stuck) else .stuck) else (bif (Nat.beq 7 7&&((decide (0+aC.length=aC.length))&&decide ((aC.length+1+1)*(56+1)<=Xr))) then (.to (.h6 (aC++[(R7.mk (wrap IntKind.u8 aZ) aE aL aS bC bJ cC)]) (wrap .i64 (aO+1)))) else .stuck))
def Qk (x0:List UInt8):Vu BW:=(bif (decide ((x0.length:Int)>60000)) then (.ret [.nils,(.int .i64 4)]) else (bif (x0 == ([]:List UInt8)) then (.to (.h0)) else (bif (decide ((x0.length:Int)>=1)) then (bif (decide ((Int.toNat (wrap .i64 ((x0.length:Int) - 1)))<=x0.length)) then (bif (decide (0<=(wrap .i64 ((x0.length:Int) - 1)))) then (bif (!(((x0.drop (Int.toNat (wrap .i64 ((x0.length:Int) - 1)))).take (x0.length - (Int.toNat (wrap .i64 ((x0.length:Int) - 1))))) == ([10]:List UInt8))) then (bif (Xw x0 ([10]:List UInt8)) then (.ret [.nils,(.int .i64 12)]) else .stuck) else (bif (Xw ((x0.drop 0).take (Int.toNat (wrap .i64 ((x0.length:Int) - 1)))) ([10]:List UInt8)) then (.to (.h1)) else .stuck)) else .stuck) else .stuck) else (bif (Xw x0 ([10]:List UInt8)) then (.ret [.nils,(.int .i64 12)]) else .stuck))))
theorem Rj (x0:List UInt8): ∀s,Uu prog (Zy prog 23) (GI x0) (GI x0 s) (Yy x0 s)
 | .h0 =>(lo fun cG=>(lb (fun k0=>(lr 81 23 [1,1,1,1,1,1,0,1,1,0,0] 1 10 [(2,.nils),(3,(ii (Vc ([]:List R7))))] (sl Yq 26 [] (b8 [2,3]) a8 (bl 2 2) (tt k0 (pp (pp (xI R7 0 (fun _=>[])) (xw cG)) nn))))) (fun k0=>(lr 81 3 [1,1,1,1,1,1,0] 1 10 [(2,.nils),(3,(ii 0))] (sl Yq 27 [] (b8 [2,3]) a8 (bl 2 0) (tt k0 (pp (pp (xI R7 0 (fun _=>[])) (xw cG)) nn)))))))
 | .h1 =>(lb (fun k0=>(lo fun aT=>(lo fun bG=>(lo fun cR=>let d:=ww cR (ww bG (ww aT (tt k0 nn)));(lb (fun k1=>(lr 81 23 [1,1,1,1,1,0,1,0,0,1,1,0,0,1,1,1,0,1,0,0] 1 10 [(2,.nils),(3,(ii 12))] (sl Yq 60 [] (b8 [2,3]) a8 (Bu 14 []) (tt k1 d)))) (fun k1=>(lb (fun k2=>(lr 81 23 [1,1,1,1,1,0,1,0,0,1,1,0,0,1,1,1,0,1,0,0] 1 10 [(2,.nils),(3,(ii 12))] (sl Yq 60 [] (b8 [2,3]) a8 (bl 14 16369) (tt k2 (tt k1 d))))) (fun k2=>(lo fun o0=>(lo fun o1=>let a:=Yg (Zu (rd (Zu ((x0.drop 0).take (tn (wr ((x0.length:Int) - 1)))) ([10]:List UInt8)) 0) ([32]:List UInt8)) 1 1;let b:=xS 1 (fun k=>(Zx (Zu (rd (Zu ((x0.drop 0).take (tn (wr ((x0.length:Int) - 1)))) ([10]:List UInt8)) 0) ([32]:List UInt8))) (1+k)) (Zx (Yg (Zu (rd (Zu ((x0.drop 0).take (tn (wr ((x0.length:Int) - 1)))) ([10]:List UInt8)) 0) ([32]:List UInt8)) 1 1));let c:=xL 1 (Yg (Zu (rd (Zu ((x0.drop 0).take (tn (wr ((x0.length:Int) - 1)))) ([10]:List UInt8)) 0) ([32]:List UInt8)) 1 1).length;(sl Yq 67 [(109,7,Zx ([]:List R7))] ⟨[1,0,2],[],Eg,Eh⟩ ⟨[(14,.list a.length (Zx a))],[],[[(6,.grow 2 7),(43,.list a.length (Zx a))]]⟩ (bl 9 1) (pp c (pp b (pp c (pp b (pp (fl ([]:List R7) nn) (pp (pp nn (pp nn (pp (xG (decide (2<=(Zu (rd (Zu ((x0.drop 0).take (tn (wr ((x0.length:Int) - 1)))) ([10]:List UInt8)) 0) ([32]:List UInt8)).length))) (pp (xG (decide (1<=2))) (xG (E0 (Zu (rd (Zu ((x0.drop 0).take (tn (wr ((x0.length:Int) - 1)))) ([10]:List UInt8)) 0) ([32]:List UInt8)).length (Zx (Zu (rd (Zu ((x0.drop 0).take (tn (wr ((x0.length:Int) - 1)))) ([10]:List UInt8)) 0) ([32]:List UInt8))) 1)))))) (tt k2 (tt k1 d))))))))))))))))))) (fun k0=>(lo fun aT=>(lb (fun k1=>(lr 81 23 [1,1,1,1,1,1,0,1,1,0,0] 1 10 [(2,.nils),(3,(ii (Vc ([]:List R7))))] (sl Yq 26 [] (b8 [2,3]) a8 (bl 2 2) (tt k1 (pp (pp (xI R7 0 (fun _=>[])) (xw aT)) (tt k0 nn)))))) (fun k1=>(lr 81 3 [1,1,1,1,1,1,0] 1 10 [(2,.nils),(3,(ii 0))] (sl Yq 27 [] (b8 [2,3]) a8 (bl 2 0) (tt k1 (pp (pp (xI R7 0 (fun _=>[])) (xw aT)) (tt k0 nn))))))))))
 | .h2 v14 bR aN bU bV=>(lo fun cG=>(lo fun cI=>let b:=ww cI (ww cG nn);(lb (fun k0=>(lr 81 23 [1,1,1,1,1,0,1,0,0,1,1,0,0,1,1,1,0,1,0,0] 1 10 [(2,.nils),(3,(ii 12))] (sl Yq 70 [] (b8 [2,3]) a8 (Bu 10 (bl 6 62)) (tt k0 b)))) (fun k0=>(lo fun aT=>let a:=ww aT (tt k0 b);(lb (fun k1=>(lr 81 23 [1,1,1,1,1,0,1,0,0,1,1,0,0,1,1,1,0,1,0,0] 1 10 [(2,.nils),(3,(ii 12))] (sl Yq 70 [] (b8 [2,3]) a8 (bl 16 64481) (tt k1 a)))) (fun k1=>(lb (fun k2=>(lr 81 23 [1,1,1,1,1,0,1,0,0,1,1,0,0,1,1,1,0,1,0,0] 1 10 [(2,.nils),(3,(ii 12))] (sl Yq 70 [] (b8 [2,3]) a8 (bl 16 64385) (tt k2 (tt k1 a))))) (fun k2=>let c:=tt k2 (tt k1 a);(lb (fun k3=>(lr 81 23 [1,1,1,1,1,0,1,0,0,1,1,0,0,1,1,1,0,1,0,0] 1 10 [(2,.nils),(3,(ii 12))] (sl Yq 70 [] (b8 [2,3]) a8 (bl 16 64001) (tt k3 c)))) (fun k3=>(sl Yq 64 [] ⟨[0,1,2],[],IU,I3⟩ a8 (bl 10 1) (pp (fl bR nn) (tt k3 c))))))))))))))
 | .h3 v14 bR aN bU bV aE=>(lb (fun k0=>(lr 81 23 [1,1,1,1,1,0,1,0,0,1,1,0,0,1,1,1,0,1,0,0] 1 10 [(2,.nils),(3,(ii 12))] (sl Yq 29 [] (b8 [2,3]) a8 (bl 7 112) (tt k0 nn)))) (fun k0=>(lb (fun k1=>(lr 81 23 [1,1,1,1,1,0,1,0,0,1,1,0,0,1,1,1,0,1,0,0] 1 10 [(2,.nils),(3,(ii 12))] (sl Yq 29 [] (b8 [2,3]) a8 (bl 7 64) (tt k1 (tt k0 nn))))) (fun k1=>(lo fun bQ=>(lo fun cX=>let d:=tt k1 (tt k0 nn);(lb (fun k2=>(lr 81 23 [1,1,1,1,1,0,1,0,0,1,1,0,0,1,1,1,1,1,0,1,0,0] 1 10 [(2,.nils),(3,(ii 12))] (sl Yq 100 [] (b8 [2,3]) a8 (bl 9 384) (tt k2 (pp (pp nn (pp nn (pp (xG (decide (aN.length<=aN.length)) (Ah (Ai _))) (pp (xG (decide (2<=aN.length))) (xG (E0 aN.length (Zx aN) 1)))))) d))))) (fun k2=>let a:=xL (aN.length - 2) (Yg aN 2 (aN.length - 2)).length;let b:=xS (aN.length - 2) (fun k=>(Zx aN) (2+k)) (KA aN);let c:=Yg aN 2 (aN.length - 2);(sl Yq 76 [] ⟨[4,3,1,2],[],IT,I2⟩ ⟨[(14,.list c.length (KA aN))],[],[[(4,.list c.length (KA aN))],[(58,.list c.length (KA aN))]]⟩ (bl 8 0) (pp a (pp b (pp a (pp b (pp a (pp b (pp (fl bR nn) (tt k2 (pp (pp nn (pp nn (pp (xG (decide (aN.length<=aN.length)) (Ah (Ai _))) (pp (xG (decide (2<=aN.length))) (xG (E0 aN.length (Zx aN) 1)))))) d))))))))))))))))))
 | .h4 v14 v15 aP aC aO aR aF=>(lb (fun k0=>(lo fun aT=>(lo fun bG=>let c:=ww bG (ww aT (tt k0 nn));(lb (fun k1=>(lr 81 23 [1,1,1,1,1,0,1,0,0,1,1,0,0,1,1,1,1,1,0,1,0,0] 1 10 [(2,.nils),(3,(ii 12))] (sl Yq 82 [] (b8 [2,3]) a8 (Bu 11 []) (tt k1 c)))) (fun k1=>(lo fun bQ=>let a:=ww bQ (tt k1 c);(lb (fun k2=>(lr 81 23 [1,1,1,1,1,0,1,0,0,1,1,0,0,1,1,1,1,1,0,1,0,0] 1 10 [(2,.nils),(3,(ii 12))] (sl Yq 82 [] (b8 [2,3]) a8 (bl 11 2017) (tt k2 a)))) (fun k2=>(lb (fun k3=>(lr 81 23 [1,1,1,1,1,0,1,0,0,1,1,0,0,1,1,1,1,1,0,1,0,0] 1 10 [(2,.nils),(3,(ii 12))] (sl Yq 82 [] (b8 [2,3]) a8 (bl 11 1921) (tt k3 (tt k2 a))))) (fun k3=>let e:=tt k3 (tt k2 a);(lb (fun k4=>(lr 81 23 [1,1,1,1,1,0,1,0,0,1,1,0,0,1,1,1,1,1,0,1,0,0] 1 10 [(2,.nils),(3,(ii 12))] (sl Yq 82 [] (b8 [2,3]) a8 (bl 11 1537) (tt k4 e)))) (fun k4=>(sl Yq 64 [] ⟨[0,1,2,3],[],IS,I1⟩ a8 (bl 10 1) (pp (fl aC nn) (tt k4 e))))))))))))))) (fun k0=>(lo fun o0=>let b:=xL (aC.length+1) (Ls aC aF).length;let d:=Ls aC aF;(sl Yq 56 [] ⟨[6],[],F1,F0⟩ ⟨[(6,.len d.length)],[.rowed 7 d.length (Zx d)],[]⟩ (bl 2 0) (pp b (pp b (pp (xS (aC.length+1) (Zi (Zx aC) 0 aC.length 7 [(.int .u8 (Vy aF)),(ii 0),(ii 0),(ii 0),(ii 0),(ii 0),(ii 0)]) (Zx (Ls aC aF))) (pp (pp (xF (Zi (Zx aC) 0 aC.length 7 [(.int .u8 (Vy aF)),(ii 0),(ii 0),(ii 0),(ii 0),(ii 0),(ii 0)])) nn) (ww o0 (tt k0 nn))))))))))
 | .h5 v14 v15 aP aC aO aR aE aF=>(lb (fun k0=>(lo fun aT=>(lo fun bG=>let d:=ww bG (ww aT (tt k0 nn));(lb (fun k1=>(lr 81 23 [1,1,1,1,1,0,1,0,0,1,1,0,0,1,1,1,1,1,0,1,0,0] 1 10 [(2,.nils),(3,(ii 12))] (sl Yq 82 [] (b8 [2,3]) a8 (Bu 11 []) (tt k1 d)))) (fun k1=>(lo fun bQ=>let a:=ww bQ (tt k1 d);(lb (fun k2=>(lr 81 23 [1,1,1,1,1,0,1,0,0,1,1,0,0,1,1,1,1,1,0,1,0,0] 1 10 [(2,.nils),(3,(ii 12))] (sl Yq 82 [] (b8 [2,3]) a8 (bl 11 2017) (tt k2 a)))) (fun k2=>(lb (fun k3=>(lr 81 23 [1,1,1,1,1,0,1,0,0,1,1,0,0,1,1,1,1,1,0,1,0,0] 1 10 [(2,.nils),(3,(ii 12))] (sl Yq 82 [] (b8 [2,3]) a8 (bl 11 1921) (tt k3 (tt k2 a))))) (fun k3=>let e:=tt k3 (tt k2 a);(lb (fun k4=>(lr 81 23 [1,1,1,1,1,0,1,0,0,1,1,0,0,1,1,1,1,1,0,1,0,0] 1 10 [(2,.nils),(3,(ii 12))] (sl Yq 82 [] (b8 [2,3]) a8 (bl 11 1537) (tt k4 e)))) (fun k4=>(sl Yq 64 [] ⟨[0,1,2,3],[],IR,I0⟩ a8 (bl 10 1) (pp (fl aC nn) (tt k4 e))))))))))))))) (fun k0=>(lo fun o0=>let b:=aC++[(R7.mk (Vy aF) aE 0 0 0 0 0)];let c:=xL (aC.length+1) (aC++[(R7.mk (Vy aF) aE 0 0 0 0 0)]).length;(sl Yq 56 [] ⟨[6],[],F1,F0⟩ ⟨[(6,.len b.length)],[.rowed 7 b.length (Zx b)],[]⟩ (bl 2 0) (pp c (pp c (pp (xS (aC.length+1) (Zi (Zx aC) 0 aC.length 7 [(.int .u8 (Vy aF)),(ii aE),(ii 0),(ii 0),(ii 0),(ii 0),(ii 0)]) (Zx (aC++[(R7.mk (Vy aF) aE 0 0 0 0 0)]))) (pp (pp (xF (Zi (Zx aC) 0 aC.length 7 [(.int .u8 (Vy aF)),(ii aE),(ii 0),(ii 0),(ii 0),(ii 0),(ii 0)])) nn) (ww o0 (tt k0 nn))))))))))
 | .h6 v6 v26=>(lb (fun k0=>(lo fun aT=>(lo fun bG=>(lo fun cR=>let d:=ww cR (ww bG (ww aT (tt k0 nn)));(lb (fun k1=>(lr 81 23 [1,1,1,1,1,0,1,0,0,1,1,0,0,1,1,1,0,1,0,0] 1 10 [(2,.nils),(3,(ii 12))] (sl Yq 60 [] (b8 [2,3]) a8 (Bu 14 []) (tt k1 d)))) (fun k1=>(lb (fun k2=>(lr 81 23 [1,1,1,1,1,0,1,0,0,1,1,0,0,1,1,1,0,1,0,0] 1 10 [(2,.nils),(3,(ii 12))] (sl Yq 60 [] (b8 [2,3]) a8 (bl 14 16369) (tt k2 (tt k1 d))))) (fun k2=>(lo fun o0=>(lo fun o1=>let a:=Yg (Zu (rd (Zu ((x0.drop 0).take (tn (wr ((x0.length:Int) - 1)))) ([10]:List UInt8)) (tn v26)) ([32]:List UInt8)) 1 1;let b:=xS 1 (fun k=>(Zx (Zu (rd (Zu ((x0.drop 0).take (tn (wr ((x0.length:Int) - 1)))) ([10]:List UInt8)) (tn v26)) ([32]:List UInt8))) (1+k)) (Zx (Yg (Zu (rd (Zu ((x0.drop 0).take (tn (wr ((x0.length:Int) - 1)))) ([10]:List UInt8)) (tn v26)) ([32]:List UInt8)) 1 1));let c:=xL 1 (Yg (Zu (rd (Zu ((x0.drop 0).take (tn (wr ((x0.length:Int) - 1)))) ([10]:List UInt8)) (tn v26)) ([32]:List UInt8)) 1 1).length;(sl Yq 67 [] ⟨[2,1,0],[],Eg,Eh⟩ ⟨[(14,.list a.length (Zx a))],[],[[(43,.list a.length (Zx a))]]⟩ (bl 9 1) (pp c (pp b (pp c (pp b (pp (fl v6 nn) (pp (pp nn (pp nn (pp (xG (decide (2<=(Zu (rd (Zu ((x0.drop 0).take (tn (wr ((x0.length:Int) - 1)))) ([10]:List UInt8)) (tn v26)) ([32]:List UInt8)).length))) (pp (xG (decide (1<=2))) (xG (E0 (Zu (rd (Zu ((x0.drop 0).take (tn (wr ((x0.length:Int) - 1)))) ([10]:List UInt8)) (tn v26)) ([32]:List UInt8)).length (Zx (Zu (rd (Zu ((x0.drop 0).take (tn (wr ((x0.length:Int) - 1)))) ([10]:List UInt8)) (tn v26)) ([32]:List UInt8))) 1)))))) (tt k2 (tt k1 d))))))))))))))))))) (fun k0=>(lo fun aT=>(lo fun bG=>let e:=pp (xw aT) nn;(lb (fun k1=>(lr 81 23 [1,1,1,1,1,1,0,1,1,0,0] 1 10 [(2,.nils),(3,(ii (Vc (lst R7 (v6.length) (fun k=>(Zx v6) (0+k))))))] (sl Yq 26 [] (b8 [2,3]) a8 (bl 2 2) (tt k1 (pp (pp e (pp (xI R7 (v6.length) (fun k=>(Zx v6) (0+k))) (xw bG))) (tt k0 nn)))))) (fun k1=>(lr 81 3 [1,1,1,1,1,1,0] 1 10 [(2,(.dat v6.length (Zx v6))),(3,(ii 0))] (sl Yq 27 [] ⟨[],[0],[some [2,3]],[]⟩ ⟨[(2,.frz v6.length v6.length (Zx v6) (Zx v6))],[],[]⟩ (bl 2 0) (pp (xZ (Cr 7 7 0 v6.length v6.length (Zx v6)) v6.length (Zx v6)) (pp (xL v6.length v6.length) (pp (xS v6.length (Zx v6) (Zx v6)) (pp (fl v6 nn) (tt k1 (pp (pp e (pp (xI R7 (v6.length) (fun k=>(Zx v6) (0+k))) (xw bG))) (tt k0 nn)))))))))))))))
 | .h7 v14 v15 aP aC aO aR aE aL aF=>(lb (fun k0=>(lo fun aT=>(lo fun bG=>let d:=ww bG (ww aT (tt k0 nn));(lb (fun k1=>(lr 81 23 [1,1,1,1,1,0,1,0,0,1,1,0,0,1,1,1,1,1,0,1,0,0] 1 10 [(2,.nils),(3,(ii 12))] (sl Yq 82 [] (b8 [2,3]) a8 (Bu 11 []) (tt k1 d)))) (fun k1=>(lo fun bQ=>let a:=ww bQ (tt k1 d);(lb (fun k2=>(lr 81 23 [1,1,1,1,1,0,1,0,0,1,1,0,0,1,1,1,1,1,0,1,0,0] 1 10 [(2,.nils),(3,(ii 12))] (sl Yq 82 [] (b8 [2,3]) a8 (bl 11 2017) (tt k2 a)))) (fun k2=>(lb (fun k3=>(lr 81 23 [1,1,1,1,1,0,1,0,0,1,1,0,0,1,1,1,1,1,0,1,0,0] 1 10 [(2,.nils),(3,(ii 12))] (sl Yq 82 [] (b8 [2,3]) a8 (bl 11 1921) (tt k3 (tt k2 a))))) (fun k3=>let e:=tt k3 (tt k2 a);(lb (fun k4=>(lr 81 23 [1,1,1,1,1,0,1,0,0,1,1,0,0,1,1,1,1,1,0,1,0,0] 1 10 [(2,.nils),(3,(ii 12))] (sl Yq 82 [] (b8 [2,3]) a8 (bl 11 1537) (tt k4 e)))) (fun k4=>(sl Yq 64 [] ⟨[0,1,3,2],[],IQ,IZ⟩ a8 (bl 10 1) (pp (fl aC nn) (tt k4 e))))))))))))))) (fun k0=>(lo fun o0=>let b:=aC++[(R7.mk (Vy aF) aE aL 0 0 0 0)];let c:=xL (aC.length+1) (aC++[(R7.mk (Vy aF) aE aL 0 0 0 0)]).length;(sl Yq 56 [] ⟨[6],[],F1,F0⟩ ⟨[(6,.len b.length)],[.rowed 7 b.length (Zx b)],[]⟩ (bl 2 0) (pp c (pp c (pp (xS (aC.length+1) (Zi (Zx aC) 0 aC.length 7 [(.int .u8 (Vy aF)),(ii aE),(ii aL),(ii 0),(ii 0),(ii 0),(ii 0)]) (Zx (aC++[(R7.mk (Vy aF) aE aL 0 0 0 0)]))) (pp (pp (xF (Zi (Zx aC) 0 aC.length 7 [(.int .u8 (Vy aF)),(ii aE),(ii aL),(ii 0),(ii 0),(ii 0),(ii 0)])) nn) (ww o0 (tt k0 nn))))))))))
 | .h8 v14 v15 aP aC aO aR aE aL aS aZ=>(lb (fun k0=>(lo fun aT=>(lo fun bG=>let d:=ww bG (ww aT (tt k0 nn));(lb (fun k1=>(lr 81 23 [1,1,1,1,1,0,1,0,0,1,1,0,0,1,1,1,1,1,0,1,0,0] 1 10 [(2,.nils),(3,(ii 12))] (sl Yq 82 [] (b8 [2,3]) a8 (Bu 11 []) (tt k1 d)))) (fun k1=>(lo fun bQ=>let a:=ww bQ (tt k1 d);(lb (fun k2=>(lr 81 23 [1,1,1,1,1,0,1,0,0,1,1,0,0,1,1,1,1,1,0,1,0,0] 1 10 [(2,.nils),(3,(ii 12))] (sl Yq 82 [] (b8 [2,3]) a8 (bl 11 2017) (tt k2 a)))) (fun k2=>(lb (fun k3=>(lr 81 23 [1,1,1,1,1,0,1,0,0,1,1,0,0,1,1,1,1,1,0,1,0,0] 1 10 [(2,.nils),(3,(ii 12))] (sl Yq 82 [] (b8 [2,3]) a8 (bl 11 1921) (tt k3 (tt k2 a))))) (fun k3=>let e:=tt k3 (tt k2 a);(lb (fun k4=>(lr 81 23 [1,1,1,1,1,0,1,0,0,1,1,0,0,1,1,1,1,1,0,1,0,0] 1 10 [(2,.nils),(3,(ii 12))] (sl Yq 82 [] (b8 [2,3]) a8 (bl 11 1537) (tt k4 e)))) (fun k4=>(sl Yq 64 [] ⟨[0,1,2,3],[],IP,IY⟩ a8 (bl 10 1) (pp (fl aC nn) (tt k4 e))))))))))))))) (fun k0=>(lo fun o0=>let b:=aC++[(R7.mk (Xx aZ) aE aL aS 0 0 0)];let c:=xL (aC.length+1) (aC++[(R7.mk (Xx aZ) aE aL aS 0 0 0)]).length;(sl Yq 56 [] ⟨[6],[],F1,F0⟩ ⟨[(6,.len b.length)],[.rowed 7 b.length (Zx b)],[]⟩ (bl 2 0) (pp c (pp c (pp (xS (aC.length+1) (Zi (Zx aC) 0 aC.length 7 [(.int .u8 (Xx aZ)),(ii aE),(ii aL),(ii aS),(ii 0),(ii 0),(ii 0)]) (Zx (aC++[(R7.mk (Xx aZ) aE aL aS 0 0 0)]))) (pp (pp (xF (Zi (Zx aC) 0 aC.length 7 [(.int .u8 (Xx aZ)),(ii aE),(ii aL),(ii aS),(ii 0),(ii 0),(ii 0)])) nn) (ww o0 (tt k0 nn))))))))))
 | .h9 v14 v15 aP aC aO aR aE aL aS bC aZ=>(lb (fun k0=>(lo fun aT=>(lo fun bG=>let d:=ww bG (ww aT (tt k0 nn));(lb (fun k1=>(lr 81 23 [1,1,1,1,1,0,1,0,0,1,1,0,0,1,1,1,1,1,0,1,0,0] 1 10 [(2,.nils),(3,(ii 12))] (sl Yq 82 [] (b8 [2,3]) a8 (Bu 11 []) (tt k1 d)))) (fun k1=>(lo fun bQ=>let a:=ww bQ (tt k1 d);(lb (fun k2=>(lr 81 23 [1,1,1,1,1,0,1,0,0,1,1,0,0,1,1,1,1,1,0,1,0,0] 1 10 [(2,.nils),(3,(ii 12))] (sl Yq 82 [] (b8 [2,3]) a8 (bl 11 2017) (tt k2 a)))) (fun k2=>(lb (fun k3=>(lr 81 23 [1,1,1,1,1,0,1,0,0,1,1,0,0,1,1,1,1,1,0,1,0,0] 1 10 [(2,.nils),(3,(ii 12))] (sl Yq 82 [] (b8 [2,3]) a8 (bl 11 1921) (tt k3 (tt k2 a))))) (fun k3=>let e:=tt k3 (tt k2 a);(lb (fun k4=>(lr 81 23 [1,1,1,1,1,0,1,0,0,1,1,0,0,1,1,1,1,1,0,1,0,0] 1 10 [(2,.nils),(3,(ii 12))] (sl Yq 82 [] (b8 [2,3]) a8 (bl 11 1537) (tt k4 e)))) (fun k4=>(sl Yq 64 [] ⟨[0,1,2,3],[],GE,GG⟩ a8 (bl 10 1) (pp (fl aC nn) (tt k4 e))))))))))))))) (fun k0=>(lo fun o0=>let b:=aC++[(R7.mk (Xx aZ) aE aL aS bC 0 0)];let c:=xL (aC.length+1) (aC++[(R7.mk (Xx aZ) aE aL aS bC 0 0)]).length;(sl Yq 56 [] ⟨[6],[],F1,F0⟩ ⟨[(6,.len b.length)],[.rowed 7 b.length (Zx b)],[]⟩ (bl 2 0) (pp c (pp c (pp (xS (aC.length+1) (Zi (Zx aC) 0 aC.length 7 [(.int .u8 (Xx aZ)),(ii aE),(ii aL),(ii aS),(ii bC),(ii 0),(ii 0)]) (Zx (aC++[(R7.mk (Xx aZ) aE aL aS bC 0 0)]))) (pp (pp (xF (Zi (Zx aC) 0 aC.length 7 [(.int .u8 (Xx aZ)),(ii aE),(ii aL),(ii aS),(ii bC),(ii 0),(ii 0)])) nn) (ww o0 (tt k0 nn))))))))))
 | .h10 v14 v15 aP aC aO aR aE aL aS bC bJ aZ=>(lb (fun k0=>(lo fun aT=>(lo fun bG=>let d:=ww bG (ww aT (tt k0 nn));(lb (fun k1=>(lr 81 23 [1,1,1,1,1,0,1,0,0,1,1,0,0,1,1,1,1,1,0,1,0,0] 1 10 [(2,.nils),(3,(ii 12))] (sl Yq 82 [] (b8 [2,3]) a8 (Bu 11 []) (tt k1 d)))) (fun k1=>(lo fun bQ=>let a:=ww bQ (tt k1 d);(lb (fun k2=>(lr 81 23 [1,1,1,1,1,0,1,0,0,1,1,0,0,1,1,1,1,1,0,1,0,0] 1 10 [(2,.nils),(3,(ii 12))] (sl Yq 82 [] (b8 [2,3]) a8 (bl 11 2017) (tt k2 a)))) (fun k2=>(lb (fun k3=>(lr 81 23 [1,1,1,1,1,0,1,0,0,1,1,0,0,1,1,1,1,1,0,1,0,0] 1 10 [(2,.nils),(3,(ii 12))] (sl Yq 82 [] (b8 [2,3]) a8 (bl 11 1921) (tt k3 (tt k2 a))))) (fun k3=>let e:=tt k3 (tt k2 a);(lb (fun k4=>(lr 81 23 [1,1,1,1,1,0,1,0,0,1,1,0,0,1,1,1,1,1,0,1,0,0] 1 10 [(2,.nils),(3,(ii 12))] (sl Yq 82 [] (b8 [2,3]) a8 (bl 11 1537) (tt k4 e)))) (fun k4=>(sl Yq 64 [] ⟨[0,1,2,3],[],GD,GF⟩ a8 (bl 10 1) (pp (fl aC nn) (tt k4 e))))))))))))))) (fun k0=>(lo fun o0=>let b:=aC++[(R7.mk (Xx aZ) aE aL aS bC bJ 0)];let c:=xL (aC.length+1) (aC++[(R7.mk (Xx aZ) aE aL aS bC bJ 0)]).length;(sl Yq 56 [] ⟨[6],[],F1,F0⟩ ⟨[(6,.len b.length)],[.rowed 7 b.length (Zx b)],[]⟩ (bl 2 0) (pp c (pp c (pp (xS (aC.length+1) (Zi (Zx aC) 0 aC.length 7 [(.int .u8 (Xx aZ)),(ii aE),(ii aL),(ii aS),(ii bC),(ii bJ),(ii 0)]) (Zx (aC++[(R7.mk (Xx aZ) aE aL aS bC bJ 0)]))) (pp (pp (xF (Zi (Zx aC) 0 aC.length 7 [(.int .u8 (Xx aZ)),(ii aE),(ii aL),(ii aS),(ii bC),(ii bJ),(ii 0)])) nn) (ww o0 (tt k0 nn))))))))))
 | .h11 v14 v15 aP aC aO aR aE aL aS bC bJ cC aZ=>(lb (fun k0=>(lo fun aT=>(lo fun bG=>let d:=ww bG (ww aT (tt k0 nn));(lb (fun k1=>(lr 81 23 [1,1,1,1,1,0,1,0,0,1,1,0,0,1,1,1,1,1,0,1,0,0] 1 10 [(2,.nils),(3,(ii 12))] (sl Yq 82 [] (b8 [2,3]) a8 (Bu 11 []) (tt k1 d)))) (fun k1=>(lo fun bQ=>let a:=ww bQ (tt k1 d);(lb (fun k2=>(lr 81 23 [1,1,1,1,1,0,1,0,0,1,1,0,0,1,1,1,1,1,0,1,0,0] 1 10 [(2,.nils),(3,(ii 12))] (sl Yq 82 [] (b8 [2,3]) a8 (bl 11 2017) (tt k2 a)))) (fun k2=>(lb (fun k3=>(lr 81 23 [1,1,1,1,1,0,1,0,0,1,1,0,0,1,1,1,1,1,0,1,0,0] 1 10 [(2,.nils),(3,(ii 12))] (sl Yq 82 [] (b8 [2,3]) a8 (bl 11 1921) (tt k3 (tt k2 a))))) (fun k3=>(lb (fun k4=>(lr 81 23 [1,1,1,1,1,0,1,0,0,1,1,0,0,1,1,1,1,1,0,1,0,0] 1 10 [(2,.nils),(3,(ii 12))] (sl Yq 82 [] (b8 [2,3]) a8 (bl 11 1537) (tt k4 (tt k3 (tt k2 a)))))) (fun k4=>trivial)))))))))))) (fun k0=>(lo fun o0=>let b:=aC++[(R7.mk (Xx aZ) aE aL aS bC bJ cC)];let c:=xL (aC.length+1) (aC++[(R7.mk (Xx aZ) aE aL aS bC bJ cC)]).length;(sl Yq 56 [] ⟨[6],[],F1,F0⟩ ⟨[(6,.len b.length)],[.rowed 7 b.length (Zx b)],[]⟩ (bl 2 0) (pp c (pp c (pp (xS (aC.length+1) (Zi (Zx aC) 0 aC.length 7 [(.int .u8 (Xx aZ)),(ii aE),(ii aL),(ii aS),(ii bC),(ii bJ),(ii cC)]) (Zx (aC++[(R7.mk (Xx aZ) aE aL aS bC bJ cC)]))) (pp (pp (xF (Zi (Zx aC) 0 aC.length 7 [(.int .u8 (Xx aZ)),(ii aE),(ii aL),(ii aS),(ii bC),(ii bJ),(ii cC)])) nn) (ww o0 (tt k0 nn))))))))))
theorem Sn (x0:List UInt8):Uu prog (Zy prog 23) (GI x0) (Yx prog 23 [(.str x0)] true []) (Qk x0):=(lb (fun k0=>(lr 81 23 [1,0,1,0,0] 1 10 [(2,.nils),(3,(ii 4))] (sl Yq 18 [] (b8 [2,3]) a8 [true] (tt k0 nn)))) (fun k0=>(lb (fun k1=>(sl Yq 63 [] ⟨[],[],IW,I5⟩ a8 (bl 3 2) (tt k1 (tt k0 nn)))) (fun k1=>let b:=tt k1 (tt k0 nn);(lb (fun k2=>(lo fun cJ=>(lo fun cK=>(lb (fun k3=>(lo fun o0=>(lr 81 23 [1,1,1,0,1,0,0] 1 10 [(2,.nils),(3,(ii 12))] (sl Yq 130 [] (b8 [2,3]) a8 (bl 13 8188) (ww o0 (tt k3 (pp (pp nn (pp (xw cK) (pp (xG (decide (x0.length<=x0.length)) (Ah (Ai _))) (xG (decide ((tn (wr ((x0.length:Int) - 1)))<=x0.length)))))) (tt k2 b)))))))) (fun k3=>(lo fun o0=>let a:=xG (decide ((tn (wr ((x0.length:Int) - 1)))<=x0.length));(sl Yq 146 [] ⟨[],[],IV,I4⟩ a8 (bl 13 2044) (ww o0 (pp (pp (xw cK) (pp nn (pp a (xG (decide (0<=(tn (wr ((x0.length:Int) - 1))))))))) (tt k3 (pp (pp nn (pp (xw cK) (pp (xG (decide (x0.length<=x0.length)) (Ah (Ai _))) a))) (tt k2 b)))))))))))) (fun k2=>(lo fun o0=>(lr 81 23 [1,1,1,0,1,0,0] 1 10 [(2,.nils),(3,(ii 12))] (sl Yq 130 [] (b8 [2,3]) a8 (bl 13 6144) (ww o0 (tt k2 b)))))))))))
theorem U0 (x0:List UInt8) (n:Nat) (vs:List BA) (h:Wx (Yy x0) n (Qk x0)=.ret vs):B5 prog (Zy prog 23) (Yx prog 23 [(.str x0)] true []) vs:=by have:=Yo (Rj x0) n _ (Sn x0);rwa [h] at this
end
open Go.Sort Go.Shelf Go.RowKit Go.Lib
def DG (s:List UInt8):List BA:=GH (decide ((DB s).2=0)) (DB s).1 (DB s).2
def Cn (L:List R7) (o:Option (List R7)):List BA:=match o with
 | none=>[.nils,.int .i64 12]
 | some M=>bif Vc (L++M) != 0 then [.nils,.int .i64 (Vc (L++M))] else [.dat (L++M).length (Zx (L++M)),.int .i64 0]
def HN :List (List UInt8)->Option R7
 | w::r=>bif decide (w=Kj)&&decide (r.length=7) then (Wz r).bind BO else none
 | []=>none
theorem Qn (w:List UInt8) (r:List (List UInt8)):HN (w::r)=bif decide (w=Kj)&&decide (r.length=7) then (Wz r).bind BO else none:=rfl
theorem Sg (x:List UInt8):Cg x=HN (Wa 32 [] x):=by
 unfold Cg HN;cases Wa 32 [] x with
 | nil=>rfl
 | cons w r=>
  have h:(match Wz r with
   | some l=>BO l
   | none=>none)=(Wz r).bind BO:=by cases Wz r <;> rfl
  show (bif _ then (match Wz r with
   | some l=>BO l
   | none=>none) else none)=bif _ then (Wz r).bind BO else none
  rw [h]
def DF :Option (List R7)->List R7×Int
 | none=>([],12)
 | some L=>bif Vc L != 0 then ([],Vc L) else (L,0)
theorem Jv (L:List R7):DF (some L)=bif Vc L != 0 then ([],Vc L) else (L,0):=rfl
theorem Tj (a b c d e f g:Int):(some [a,b,c,d,e,f,g]).bind BO=bif decide (0<=a)&&decide (a<=5) then some ⟨a,b,c,d,e,f,g⟩ else none:=rfl
theorem HR (s:List UInt8):DB s=bif decide (60000<s.length) then ([],4) else DF ((Qt s).bind Xp):=by
 unfold DB;cases Qt s with
 | none=>rfl
 | some ls=>
  show (bif _ then _ else (match Xp ls with
   | none=>(([]:List R7),(12:Int))
   | some L=>bif Vc L != 0 then ([],Vc L) else (L,0)))=bif _ then _ else DF (Xp ls)
  cases Xp ls <;> rfl
theorem T8 {α:Type} [Ww α] (l:List α):lst α l.length (fun k=>Zx l (0+k))=l:=by rw [V9,Oj (by omega),Bt,List.take_length]
def Ya (s:List UInt8):List R7:=(DB s).1
def Vs (s:List UInt8):Int:=(DB s).2
def Va (s:List UInt8):Bool:=decide (s.length<=100000)
theorem Tf {s:List UInt8} {ls:List (List UInt8)} (h: ¬60000<s.length) (hr:Qt s=some ls):Cn [] (Xp ls)=DG s:=by
 have e:DB s=DF (Xp ls):=by rw [HR,An h,Aj,hr];rfl
 unfold DG;rw [e];cases Xp ls with
 | none=>rfl
 | some L=>
  by_cases g:Vc L=0
  .have e1:DF (some L)=(L,0):=by rw [Jv,Ca g];rfl
   rw [e1];show (bif Vc L != 0 then _ else _)=_;rw [Ca g];rfl
  .have e1:DF (some L)=([],Vc L):=by rw [Jv,F6 g];rfl
   rw [e1];show (bif Vc L != 0 then _ else _)=GH (decide (Vc L=0)) [] (Vc L);rw [F6 g,An g];rfl
theorem UZ (s:List UInt8):Vs s≠0->Ya s=[]:=by
 unfold Vs Ya;rw [HR];cases decide (60000<s.length) with
 | true=>exact fun _=>rfl
 | false=>
  rw [Aj];cases (Qt s).bind Xp with
  | none=>exact fun _=>rfl
  | some L=>
   rw [Jv];cases Vc L != 0 with
   | true=>exact fun _=>rfl
   | false=>exact fun h=>absurd rfl h
theorem Tg (s:List UInt8) (ρ:BC) (u:Value) (h:Zp ρ (Uz (DG s)) u):Zp ρ (.tup [.dat (Ya s).length (Zx (Ya s)),.int .i64 (Vs s)]) u:=by
 unfold DG at h;by_cases g:(DB s).2=0
 .rw [Ah g] at h;exact h
 .rw [An g] at h;rw [UZ s g];exact Mf (.cons (MH R7) (CA.refl _)) ρ u h
theorem Th (s:List UInt8):pf 3 (Uz (DG s))=true:=by unfold DG GH;cases decide ((DB s).2=0) <;> rfl
theorem RP {x:List UInt8} {v:Int} (h:atoiAll x=.ok v): -9223372036854775808<=v/\v<=9223372036854775807:=by
 unfold atoiAll at h;split at h
 .cases h
 .simp only [] at h;split at h
  .cases h
  .cases h
  .rename_i u hu;split at h
   .cases h
   .split at h
    .cases h
    .rename_i h1 h2;injection h with h;subst h;split <;> omega
def wN {σ:Type} (x:List UInt8) (R:Vu σ) (K:Int->Vu σ):Vu σ:=(bif (Zn x) then (bif (!(Xj x)) then R else (bif (Zb (Zw x)) then (bif (!((Ye (Zw x)) == x)) then R else (bif (decide ((Zw x)<(-9999999))) then R else (bif (decide ((Zw x)>9999999)) then R else K (Zw x)))) else .stuck)) else .stuck)
theorem EY {σ:Type} {x:List UInt8} {R:Vu σ} {K:Int->Vu σ} (hx:x.length<=1000000):wN x R K=(B2 x).elim R K:=by
 unfold wN;rw [Zd (show Zn x=true from Ah (by omega))];unfold B2 Xj Zw;cases h:atoiAll x with
 | ok v=>
  have hr:=RP h;show (bif !true then R else bif Zb v then (bif !(Ye v == x) then R else bif decide (v< -9999999) then R else bif decide (v>9999999) then R else K v) else .stuck)=(bif decide (itoa v=x/\ -9999999<=v/\v<=9999999) then some v else none).elim R K;rw [Bm,Aj,Zd (show Zb v=true from Ah hr)];have hb:(Ye v == x)=decide (itoa v=x):=by rw [Ba,Bg,Ap];rfl
  rw [hb];by_cases g1:itoa v=x
  .rw [Ah g1,Bm,Aj];by_cases g2:v< -9999999
   .rw [Ah g2,An (show ¬(itoa v=x/\ -9999999<=v/\v<=9999999) by omega)];rfl
   .rw [An g2,Aj];by_cases g3:v>9999999
    .rw [Ah g3,An (show ¬(itoa v=x/\ -9999999<=v/\v<=9999999) by omega)];rfl
    .rw [An g3,Ah (show (itoa v=x/\ -9999999<=v/\v<=9999999) from ⟨g1,by omega,by omega⟩)];rfl
  .rw [An g1,An (show ¬(itoa v=x/\ -9999999<=v/\v<=9999999) from fun h=>g1 h.1)];rfl
 | _=>rfl
abbrev CC :Vu BW:=.ret [.nils,.int .i64 12]
theorem Dk {n:Nat} {j:Int} (h0:0<=j) (h:j<(n:Int)):(decide ((0:Int)<=j/\j<((n:Nat):Int))&&true)=true:=by rw [Bool.and_true];exact Ah ⟨h0,h⟩
section
variable {s:List UInt8} {out:List R7} {i:Int} {ws v43 v4 v58:List (List UInt8)}
theorem XS {v14:List (List UInt8)} (h:0<v14.length) (hx:(rd v14 0).length <=1000000):Yy s (.h2 v14 out ws i v43)=(B2 (rd v14 0)).elim CC fun v=>.to (.h3 v14 out ws i v43 v):=by rw [<-EY hx];unfold Yy;simp only [];rw [Zd (Dk (j:=0) (by omega) (by omega))];rfl
theorem XQ {v14:List (List UInt8)} {a:Int} (h:6=v14.length) (hx:(rd v14 0).length <=1000000):Yy s (.h4 v14 6 v4 out i v58 a)=(B2 (rd v14 0)).elim CC fun v=>.to (.h5 v14 6 v4 out i v58 v a):=by rw [<-EY hx];unfold Yy;simp only [];rw [Zd (show decide ((0:Int)<6)=true from rfl),Zd (Dk (j:=0) (by omega) (by omega))];rfl
theorem XP {v14:List (List UInt8)} {a b:Int} (h:6=v14.length) (hx:(rd v14 1).length <=1000000):Yy s (.h5 v14 6 v4 out i v58 b a)=(B2 (rd v14 1)).elim CC fun v=>.to (.h7 v14 6 v4 out i v58 b v a):=by rw [<-EY hx];unfold Yy;simp only [];rw [Zd (show decide ((1:Int)<6)=true from rfl),Zd (Dk (j:=1) (by omega) (by omega))];rfl
theorem XN {v14:List (List UInt8)} {a b c:Int} (h:6=v14.length) (hx:(rd v14 2).length <=1000000):Yy s (.h7 v14 6 v4 out i v58 b c a)=(B2 (rd v14 2)).elim CC fun v=>.to (.h8 v14 6 v4 out i v58 b c v a):=by rw [<-EY hx];unfold Yy;simp only [];rw [Zd (show decide ((2:Int)<6)=true from rfl),Zd (Dk (j:=2) (by omega) (by omega))];rfl
theorem XM {v14:List (List UInt8)} {a b c d:Int} (h:6=v14.length) (hx:(rd v14 3).length <=1000000):Yy s (.h8 v14 6 v4 out i v58 b c d a)=(B2 (rd v14 3)).elim CC fun v=>.to (.h9 v14 6 v4 out i v58 b c d v a):=by rw [<-EY hx];unfold Yy;simp only [];rw [Zd (show decide ((3:Int)<6)=true from rfl),Zd (Dk (j:=3) (by omega) (by omega))];rfl
theorem XL {v14:List (List UInt8)} {a b c d e:Int} (h:6=v14.length) (hx:(rd v14 4).length <=1000000):Yy s (.h9 v14 6 v4 out i v58 b c d e a)=(B2 (rd v14 4)).elim CC fun v=>.to (.h10 v14 6 v4 out i v58 b c d e v a):=by rw [<-EY hx];unfold Yy;simp only [];rw [Zd (show decide ((4:Int)<6)=true from rfl),Zd (Dk (j:=4) (by omega) (by omega))];rfl
theorem NC {v14:List (List UInt8)} {a b c d e f:Int} (h:6=v14.length) (hx:(rd v14 5).length <=1000000):Yy s (.h10 v14 6 v4 out i v58 b c d e f a)=(B2 (rd v14 5)).elim CC fun v=>.to (.h11 v14 6 v4 out i v58 b c d e f v a):=by rw [<-EY hx];unfold Yy;simp only [];rw [Zd (show decide ((5:Int)<6)=true from rfl),Zd (Dk (j:=5) (by omega) (by omega))];rfl
theorem NB {v14:List (List UInt8)} {a b c d e f g:Int} (ho:out.length<=1000000) (ha:0<=a/\a<=5) (hi:0<=i/\i<=1000000):Yy s (.h11 v14 6 v4 out i v58 b c d e f g a)=.to (.h6 (out++[⟨a,b,c,d,e,f,g⟩]) (i+1)):=by unfold Yy;simp only [];rw [show decide ((6:Int)<6)=false from rfl,Aj,Zd (QF (by omega)),w8 a (by omega),We (by omega)]
theorem XR {v14:List (List UInt8)} {a:Int} {w x:List UInt8} {r:List (List UInt8)} (hw:ws=w::x::r):Yy s (.h3 v14 out ws i v43 a)=bif decide (0<=a)&&decide (a<=5) then (bif decide (r.length=6) then .to (.h4 (Yg ws 2 r.length) (r.length:Int) (Yg ws 2 r.length) out i (Yg ws 2 r.length) a) else CC) else CC:=by
 have hl:ws.length - 2=r.length:=by rw [hw,Aq,Aq];omega
 have h2:2<=ws.length:=by rw [hw,Aq,Aq];omega
 unfold Yy;simp only [hl];by_cases k1:a<0
 .rw [Ah k1,An (show ¬0<=a by omega)];rfl
 .rw [An k1,Ah (show 0<=a by omega),Aj];by_cases k2:a>5
  .rw [Ah k2,An (show ¬a<=5 by omega)];rfl
  .rw [An k2,Ah (show a<=5 by omega),Aj,Zd (Ah h2),Zd (Ah (Ai _))];by_cases k3:r.length=6
   .rw [Ca (by omega),Ah k3];rfl
   .rw [F6 (by omega),An k3];rfl
theorem WG {w x:List UInt8} {r:List (List UInt8)} (hs: ∀p,p∈x::r->p.length<=1000000) (ho:out.length<=1000000) (hi:0<=i/\i<=1000000) (N:Nat):
  Wx (Yy s) (N+9) (.to (.h2 (Yg (w::x::r) 1 1) out (w::x::r) i v43))=match HN (Kj::x::r) with
   | none=>CC
   | some q=>Wx (Yy s) N (.to (.h6 (out++[q]) (i+1))):=by
 have hp:Yg (w::x::r) 1 1=[x]:=rfl;have hq:HN (Kj::x::r)=bif decide (r.length=6) then (Wz (x::r)).bind BO else none:=by rw [Qn,Ah rfl,Bn,Aq];rw [show decide (r.length+1=7)=decide (r.length=6) by rw [Ba,Ap,Ap];omega]
 have hxx:=hs x AM;rw [hp,Zs,XS (v14:=[x]) (by simp) hxx,hq];have hr0:rd [x] 0=x:=rfl;rw [hr0];cases ha:B2 x with
 | none=>
  have:Wz (x::r)=none:=by unfold Wz;rw [ha]
  rw [this];show Wx _ _ CC=_;rw [Yh];cases decide (r.length=6) <;> rfl
 | some a =>
  show Wx _ (N+8) (.to (BW.h3 _ _ _ _ _ a))=_;rw [Zs,XR (w:=w) (x:=x) (r:=r) rfl];by_cases h6:r.length=6
  .rw [Ah h6,Ao,Ao];cases hda:decide (0<=a)&&decide (a<=5) with
   | false=>
    rw [Aj,Yh];have:(Wz (x::r)).bind BO=none:=by
     unfold Wz;rw [ha]
     match r,h6 with
     | [b,c,d,e,f,g],_=>
      cases Wz [b,c,d,e,f,g] with
      | none=>rfl
      | some l=>
       show BO (a::l)=none
       match l with
       | [b,c,d,e,f,g]=>show (bif decide (0<=a)&&decide (a<=5) then _ else _)=_;rw [hda];rfl
       | []=>rfl
       | [_]=>rfl
       | [_,_]=>rfl
       | [_,_,_]=>rfl
       | [_,_,_,_]=>rfl
       | [_,_,_,_,_]=>rfl
       | _::_::_::_::_::_::_::_=>rfl
    rw [this]
   | true =>
    have hab:0<=a/\a<=5:=by rw [Ad,Ap,Ap] at hda;exact hda
    rw [Ao]
    match r,h6,hs with
    | [b, c,d,e,f,g],_,hs=>
     have hp6:Yg [w,x,b,c,d,e,f,g] 2 [b,c,d,e,f,g].length =[b,c,d,e,f,g]:=rfl;rw [hp6];show Wx _ (N+7) (.to (BW.h4 [b,c,d,e,f,g] 6 _ _ _ _ a))=_;have hb:=hs b (by simp);have hc:=hs c (by simp);have hd:=hs d (by simp);have he:=hs e (by simp);have hf:=hs f (by simp);have hg:=hs g (by simp);unfold Wz;rw [ha];rw [Zs,XQ (v14:=[b,c,d,e,f,g]) rfl hb];rw [show rd [b,c,d,e,f,g] 0=b from rfl];unfold Wz;cases B2 b with
     | none=>show Wx _ _ CC=_;rw [Yh];rfl
     | some b'=>
      show Wx _ (N+6) (.to (BW.h5 _ _ _ _ _ _ b' a))=_;rw [Zs,XP (v14:=[b,c,d,e,f,g]) rfl hc,show rd [b,c,d,e,f,g] 1=c from rfl];unfold Wz;cases B2 c with
      | none=>show Wx _ _ CC=_;rw [Yh];rfl
      | some c'=>
       show Wx _ (N+5) (.to (BW.h7 _ _ _ _ _ _ b' c' a))=_;rw [Zs,XN (v14:=[b,c,d,e,f,g]) rfl hd,show rd [b,c,d,e,f,g] 2=d from rfl];unfold Wz;cases B2 d with
       | none=>show Wx _ _ CC=_;rw [Yh];rfl
       | some d'=>
        show Wx _ (N+4) (.to (BW.h8 _ _ _ _ _ _ b' c' d' a))=_;rw [Zs,XM (v14:=[b,c,d,e,f,g]) rfl he,show rd [b,c,d,e,f,g] 3=e from rfl];unfold Wz;cases B2 e with
        | none=>show Wx _ _ CC=_;rw [Yh];rfl
        | some e'=>
         show Wx _ (N+3) (.to (BW.h9 _ _ _ _ _ _ b' c' d' e' a))=_;rw [Zs,XL (v14:=[b,c,d,e,f,g]) rfl hf,show rd [b,c,d,e,f,g] 4=f from rfl];unfold Wz;cases B2 f with
         | none=>show Wx _ _ CC=_;rw [Yh];rfl
         | some f'=>
          show Wx _ (N+2) (.to (BW.h10 _ _ _ _ _ _ b' c' d' e' f' a))=_;rw [Zs,NC (v14:=[b,c,d,e,f,g]) rfl hg,show rd [b,c,d,e,f,g] 5=g from rfl];unfold Wz;cases B2 g with
          | none=>show Wx _ _ CC=_;rw [Yh];rfl
          | some g'=>
           show Wx _ (N+1) (.to (BW.h11 _ _ _ _ _ _ b' c' d' e' f' g' a))=_;rw [Zs,NB ho hab hi];show _=match (some [a,b',c',d',e',f',g']).bind BO with
            | none=>CC
            | some q=>Wx (Yy s) N (.to (.h6 (out++[q]) (i+1)))
           rw [Tj,hda];rfl
  .rw [An h6];cases decide (0<=a)&&decide (a<=5) <;> exact Yh _ _ _
end
def D0 (s:List UInt8):List UInt8:=(s.drop 0).take (Int.toNat (wrap .i64 ((s.length:Int) - 1)))
theorem QI (x:List UInt8) (b:UInt8):Zu x [b]=Wa b [] x:=PN b x
theorem XO {s:List UInt8} {ls:List (List UInt8)} {out:List R7} {i:Nat} (hls:Zu (D0 s) [10]=ls) (hi:i<ls.length) (hx:(rd ls i).length <=1000000) {w:List UInt8} {r:List (List UInt8)} (hw:Wa 32 [] (rd ls i)=w::r):
  Yy s (.h6 out (i:Int))=bif decide (w=Kj)&&decide (1<=r.length) then .to (.h2 (Yg (w::r) 1 1) out (w::r) (i:Int) (Yg (w::r) 1 1)) else CC:=by
 have hW:Zu (rd ls i) [32]=w::r:=by rw [QI];exact hw
 have hq:(rd (w::r) 0 == ([113,117,97,100]:List UInt8))=decide (w=Kj):=by rw [Ba];show ((w == [113,117,97,100])=true)↔_;rw [Bg,Ap];rfl
 unfold D0 at hls;unfold Yy;simp only [hls,Uh,hW,hq];rw [Zd (DZ (by omega)),Zd (Bool.and_eq_true_iff.2 ⟨FR (by omega),rfl⟩)];rw [Zd (show Xw (rd ls i) [32]=true by unfold Xw;rw [Ah (show (rd ls i).length <4294967281 by omega)];rfl)];rw [Zd (Dk (j:=0) (by omega) (by rw [Aq];omega))];cases decide (w=Kj) with
 | false=>rfl
 | true=>
  rw [Bm,Aj,Bn];by_cases h1:1<=r.length
  .rw [Ah h1,An (by rw [Aq];omega),Aj,Zd (by rfl),Zd (Ah (by rw [Aq];omega))];rfl
  .rw [An h1,Ah (by rw [Aq];omega)];rfl
theorem U1 {s:List UInt8} {ls:List (List UInt8)} {out:List R7} {i:Nat} (hls:Zu (D0 s) [10]=ls) (hi:i<ls.length) (hx:(rd ls i).length <=1000000) (ho:out.length<=1000000) (hib:i<=1000000) (N:Nat):
  Wx (Yy s) (N+10) (.to (.h6 out (i:Int)))=match Cg (rd ls i) with
   | none=>CC
   | some q=>Wx (Yy s) N (.to (.h6 (out++[q]) ((i+1:Nat):Int))):=by
 rw [Sg];have hne:=MC 32 (rd ls i) [];have hpc: ∀p,p∈Wa 32 [] (rd ls i)->p.length<=(rd ls i).length :=fun p hp=>by have:=Qm 32 (rd ls i) [] p hp;simpa using this
 cases hw:Wa 32 [] (rd ls i) with
 | nil=>exact absurd hw hne
 | cons w r=>
  rw [hw] at hpc;rw [Zs,XO hls hi hx hw];by_cases hq:w=Kj
  .subst hq
   match r with
   | []=>rw [Qn];exact Yh _ _ _
   | x::r=>rw [Ah rfl,Ah (show 1<=(x::r).length by rw [Aq];omega)];show Wx (Yy s) (N+9) (.to (BW.h2 _ _ _ _ _))=_;rw [WG (fun p hp=>by have:=hpc p (AR _ hp);omega) ho (by omega)];cases HN (Kj::x::r) <;> rfl
  .rw [Qn,An hq];exact Yh _ _ _
theorem P6 {s:List UInt8} {ls:List (List UInt8)} (hls:Zu (D0 s) [10]=ls) (hx: ∀p,p∈ls->p.length<=1000000) (hn:ls.length<=1000000): ∀(k i:Nat) (out:List R7),i+k=ls.length->out.length<=i->Yk out=true->
  ∃N,Wx (Yy s) N (.to (.h6 out (i:Int)))=.ret (Cn out (Xp (ls.drop i)))
 | 0,i,out,h,ho,hm=>by
  refine ⟨1,?_⟩;have e:Yy s (.h6 out (i:Int))=bif Vc out != 0 then .ret [.nils,.int .i64 (Vc out)] else .ret [.dat out.length (Zx out),.int .i64 0]:=by
   unfold D0 at hls;unfold Yy;simp only [hls];rw [D2 (by omega),Aj];have hf:(Nat.beq 7 7&&(decide (0+out.length<=out.length)&&Uj (Zx out)))=true:=by rw [Ad,Ad];exact ⟨rfl,Ah (by omega),Jq _⟩
   rw [Zd hf,T8,Zd hm]
  rw [Zs,e,AL (by omega)];unfold Cn Xp;simp only [List.append_nil];cases Vc out != 0 <;> rfl
 | k+1,i,out,h,ho,hm=>by
  have hi:i<ls.length:=by omega
  have hl:=fun N=>U1 (out:=out) hls hi (hx _ (by rw [Je hi];exact AE hi)) (by omega) (by omega) N;rw [FL hi];cases g:Cg (rd ls i) with
  | none=>refine ⟨10,?_⟩;rw [hl 0,g];unfold Xp;rw [g];rfl
  | some r=>
   have hr:=Ng g;obtain ⟨N,hN⟩:=P6 hls hx hn k (i+1) (out++[r]) (by omega) (by rw [Al,AD];omega) (by
    unfold Yk at hm ⊢;rw [List.all_append,hm,Bl,Ah hr.1,Ah (by omega)];rfl)
   refine ⟨N+10,?_⟩;rw [hl N,g];show Wx _ N (.to _)=_;rw [hN]
   congr 1
   rw [Xp,g];cases Xp (ls.drop (i+1)) with
   | none=>rfl
   | some M=>show Cn (out++[r]) (some M)=Cn out (some (r::M));unfold Cn;simp only [AP];rfl
theorem GC {s:List UInt8} (h:0<(Zu (D0 s) [10]).length):Yy s .h1 =Yy s (.h6 [] 0):=by unfold D0 at h;unfold Yy;simp only [];have k:decide ((0:Int)<(((Zu ((s.drop 0).take (Int.toNat (wrap .i64 ((s.length:Int) - 1)))) ([10]:List UInt8)).length :Nat):Int))=true:=DZ (by omega);rw [Zd k,Zd k];rfl
theorem Tn {s t:List UInt8} {b:UInt8} (h:s=t++[b]) (hs:s.length<=100000):D0 s=t:=by subst h;rw [Al,AD] at hs;unfold D0;rw [Al,AD,We (by omega),Bt];rw [show ((((t.length+1:Nat):Int) - 1)).toNat =t.length by omega];simp
theorem Ti (s:List UInt8) (h:Va s=true): ∃N vs,Wx (Yy s) N (Qk s)=.ret vs/\(vs=DG s\/(vs=[.nils,.int .i64 0]/\DB s=([],0))):=by
 have hs:s.length<=100000:=AB h;by_cases g:60000<s.length
 .refine ⟨0,DG s,?_,.inl rfl⟩;unfold Qk DG;rw [HR,Df (by omega),Ah g];rfl
 .by_cases h0:s=[]
  .subst h0;exact ⟨1,[.nils,.int .i64 0],rfl,.inr ⟨rfl,rfl⟩⟩
  .have hpos:1<=s.length:=by
    cases s with
    | nil=>exact absurd rfl h0
    | cons a l=>rw [Aq];omega
   obtain ⟨t,b,hb⟩: ∃t b,s=t++[b]:=⟨s.dropLast,s.getLast h0,(List.dropLast_concat_getLast h0).symm⟩
   have cZ:s.length=t.length+1:=by rw [hb,Al,AD]
   have w:(wrap .i64 ((s.length:Int) - 1))=(t.length:Int):=by rw [We (by omega)];omega
   have htail:(s.drop t.length).take (s.length - t.length)=[b]:=by rw [hb];simp
   have hstart:Qk s=bif !([b] == ([10]:List UInt8)) then CC else .to .h1 :=by
    unfold Qk;rw [EW (by omega),Aj];rw [show (s == ([]:List UInt8))=false by cases s with
     | nil=>exact absurd rfl h0
     | cons a l=>rfl,Aj,Zd (JI (by omega))]
    simp only [w,Uh,htail];rw [Zd (Hx (by omega)),Zd (Ah (by omega))];rw [Zd (show Xw s [10]=true by unfold Xw;rw [Ah (show s.length<4294967281 by omega)];rfl)];rw [Zd (show Xw ((s.drop 0).take t.length) [10]=true by
     unfold Xw;rw [Ah (show ((s.drop 0).take t.length).length <4294967281 by rw [List.length_take];omega)];rfl)]
   rw [hstart];by_cases h10:b=10
   .subst h10;have dL:=Tn hb hs;have hls:Zu (D0 s) [10]=Wa 10 [] t:=(by rw [dL,QI]);have hne:=MC 10 t [];have hcl:=Lv 10 t [];have hp:0<(Wa 10 [] t).length :=by
     cases hc:Wa 10 [] t with
     | nil=>exact absurd hc hne
     | cons a l=>rw [Aq];omega
    have hr:Qt s=some (Wa 10 [] t):=by unfold Qt;rw [hb,MR,List.getLast?_append,List.getLast?_singleton];show some ((Wa 10 [] t++[[]]).dropLast)=_;rw [List.dropLast_concat]
    obtain ⟨N,hN⟩:=P6 hls (fun p hp=>by have:=Qm 10 t [] p hp;simp at this;omega) (by omega) (Wa 10 [] t).length 0 [] (Az _) (Ai _) rfl;rw [Bt,Tf g hr] at hN;cases N with
    | zero=>cases hN
    | succ N=>refine ⟨N+1,_,?_,.inl rfl⟩;show Wx (Yy s) (N+1) (.to BW.h1)=_;rw [Zs,GC (by rw [hls];exact hp)];exact hN
   .have hr:Qt s=none:=by
     unfold Qt;cases hc:(Wa 10 [] s).getLast? with
     | none=>rfl
     | some p=>
      cases p with
      | cons _ _=>rfl
      | nil=>
       exfalso;rcases LY 10 s [] hc with ⟨_,e⟩ | ⟨t',e⟩
       .exact h0 e
       .rw [hb] at e;have:=List.append_inj_right' e rfl;injection this with this _;exact h10 this
    refine ⟨0,DG s,?_,.inl rfl⟩;have hbe:([b] == ([10]:List UInt8))=false:=by rw [AS];intro e;have e:=Bg.1 e;injection e with e _;exact h10 e
    rw [hbe];unfold DG;rw [HR,An g,Aj,hr];rfl
def Gg :List BA->Option (BA×Bool)
 | [.str s]=>some (.tup [.dat (Ya s).length (Zx (Ya s)),.int .i64 (Vs s)],Va s)
 | _=>none
theorem XD {S:BB} (hS:Zk prog S):Zk prog (S.with IX Gg):=JF hS (by kernel_rfl) fun args v h=>by
 unfold Gg at h;split at h
 .rename_i s;simp only [Ac,Aa] at h;obtain ⟨rfl,ho⟩:=h;obtain ⟨N,vs,hN,hv⟩:=Ti s ho;refine ⟨_,vs,.cons (.refl _) .nil,?_,U0 s N _ hN,3,?_⟩
  .rcases hv with rfl | ⟨rfl,h2⟩
   .exact Tg s
   .unfold Ya Vs;rw [h2];exact fun ρ u hu=>Mf (.cons (MH R7) (CA.refl _)) ρ u hu
  .rcases hv with rfl | ⟨rfl,_⟩
   .exact Th s
   .rfl
 .cases h
def Uy (L:List R7):Bool:=Yk L
def Gi :List BA->Option (BA×Bool)
 | [a0]=>match D1 R7 a0 with
  | some (L0,g0,n0)=>some (.tup [.str (Xe L0),.int .i64 (Jj L0)],CJ R7 n0 g0&&Uy L0)
  | _=>none
 | _=>none
theorem XB {S:BB} (hS:Zk prog S):Zk prog (S.with Il Gi):=Ci hS (by kernel_rfl) fun args v h=>by
 unfold Gi at h;split at h
 .rename_i a0;split at h
  .rename_i L0 g0 n0 e0;simp only [Ac,Aa,Ad] at h;obtain ⟨rfl,ho0,hw⟩:=h;obtain ⟨N,hN⟩:=Tb L0 hw;exact ⟨_,_,(.cons (asL_le e0 ho0) .nil),rfl,US L0 N _ hN,3,rfl⟩
  .cases h
 .cases h
structure BI where
 n:List UInt8
 (a t x y z:Int)
 s:List R6
instance : Ww BI where
 w:=7
 d:=⟨[],0,0,0,0,0,[]⟩
 cells x:=[.str x.n,.int .i64 x.a,.int .u8 x.t,.int .i64 x.x,.int .i64 x.y,.int .i64 x.z,.dat x.s.length (Zx x.s)]
 of l:=⟨QL (l.getD 0 .undef),BZ (l.getD 1 .undef),BZ (l.getD 2 .undef),BZ (l.getD 3 .undef),BZ (l.getD 4 .undef),BZ (l.getD 5 .undef),match l.getD 6 .undef with
  | .dat n g=>lst R6 n g
  | _=>[]⟩
 len _:=rfl
 pos:=by decide
 flat _:=rfl
 sc _:=rfl
 back x:=by show BI.mk x.n x.a x.t x.x x.y x.z (lst R6 x.s.length (Zx x.s))=x;rw [LH]
open Go.Proofs Go.Lib Go.Sort
def w3 (p q r:Int):Int:=wrap .i64 (p+q+r)
def w4 (p q r s:Int):Int:=wrap .i64 (p+q+r+s)
def z4 :R4:=⟨0,0,0,0⟩
open Go.Shelf Go.RowKit
section
variable {s:List UInt8} {ps w4 w86 w5:List (List UInt8)} {i:Int} {t a b c:Int} {sol:List R6} {pre:List BI}
theorem Nk (w:List UInt8) (r:List (List UInt8)):Wz (w::r)=(B2 w).bind fun n=>(Wz r).bind fun l=>some (n::l):=by
 rw [Wz];cases B2 w with
 | none=>rfl
 | some n=>cases Wz r <;> rfl
end
def CW (b:UInt8) (x:List UInt8):Prop:= ∀c∈x,c≠b
theorem Pz {b:UInt8} {x y:List UInt8} (hx:CW b x) (hy:CW b y):CW b (x++y):=fun c hc=>by
 rcases List.mem_append.1 hc with h | h
 .exact hx c h
 .exact hy c h
theorem KC {b:UInt8}: ∀(x cur rest:List UInt8),CW b x->Wa b cur (x++rest)=Wa b (cur++x) rest
 | [],cur,rest,h=>by rw [AU,List.append_nil]
 | c::x,cur,rest,h=>by
  have hc:(c == b)=false:=by have:=h c AM;simp [this]
  rw [A5,Wa,hc,Aj,KC x (cur++[c]) rest fun d hd=>h d (AR _ hd),AP];rfl
def Dj (b:UInt8):List (List UInt8)->List UInt8
 | []=>[]
 | x::l=>x++b::Dj b l
def Qo (b:UInt8):List (List UInt8)->List UInt8
 | []=>[]
 | x::l=>b::(x++Qo b l)
theorem Pn {b:UInt8}: ∀(ls:List (List UInt8)),(∀x∈ls,CW b x)->Wa b [] (Dj b ls)=ls++[[]]
 | [],_=>rfl
 | x::l,h=>by rw [Dj,KC x [] _ (h x AM),AU,Wa,beq_self_eq_true,Ao,Pn l fun y hy=>h y (AR _ hy)];rfl
theorem O0 {b:UInt8}: ∀(ws:List (List UInt8)) (cur:List UInt8),(∀x∈ws,CW b x)->Wa b cur (Qo b ws)=cur::ws
 | [],cur,_=>rfl
 | x::l,cur,h=>by rw [Qo,Wa,beq_self_eq_true,Ao,KC x [] _ (h x AM),AU,O0 l x fun y hy=>h y (AR _ hy)]
theorem VS {b:UInt8} {w:List UInt8} {ws:List (List UInt8)} (hw:CW b w) (h: ∀x∈ws,CW b x):Wa b [] (w++Qo b ws)=w::ws:=by rw [KC w [] _ hw,AU,O0 ws w h]
theorem JY {b:UInt8}: ∀(s cur:List UInt8),∃p l,Wa b cur s=p::l/\p++Qo b l=cur++s
 | [],cur=>⟨cur,[],rfl,by simp [Qo]⟩
 | x::r,cur=>by
  rw [Wa];cases h:x == b with
  | true=>
   obtain ⟨p,l,e1,e2⟩:=JY (b:=b) r [];refine ⟨cur,p::l,by rw [Ao,e1],?_⟩;have:x=b:=by simpa using h
   rw [this,Qo,e2];rfl
  | false=>obtain ⟨p,l,e1,e2⟩:=JY (b:=b) r (cur++[x]);exact ⟨p,l,by rw [Aj,e1],by rw [e2];simp⟩
theorem O3 {b:UInt8}: ∀(l:List (List UInt8)) (p:List UInt8),p++Qo b (l++[[]])=Dj b (p::l)
 | [],p=>by simp [Qo,Dj]
 | x::l,p=>by rw [A5,Qo,O3 l x,Dj];rfl
theorem U7 {s:List UInt8} {ls:List (List UInt8)} (h:Qt s=some ls):s=Dj 10 ls:=by
 unfold Qt at h;obtain ⟨p,l,e1,e2⟩:=JY (b:=10) s [];rw [e1] at h;rw [AU] at e2;cases hg:(p::l).getLast? with
 | none=>rw [hg] at h;cases h
 | some q=>
  rw [hg] at h
  match q,hg,h with
  | [],hg,h=>
   obtain rfl:=Ab h;have hne:p::l≠ []:=by simp
   have e3:(p::l).dropLast ++[[]]=p::l:=by
    have e4:=List.dropLast_concat_getLast hne;have e5:(p::l).getLast hne=[]:=by have:=List.getLast?_eq_some_getLast hne;rw [hg] at this;exact (Ab this).symm
    rwa [e5] at e4
   rw [<-e2];cases hl:(p::l).dropLast with
   | nil=>rw [hl] at e3;have e3: [([]:List UInt8)]=p::l:=e3;injection e3 with a b;subst a;subst b;rfl
   | cons u v=>rw [hl] at e3;have e3:u::(v++[[]])=p::l:=e3;injection e3 with a b;subst a;subst b;rw [O3]
  | _::_,hg,h=>cases h
theorem Ov : ∀(u:Nat),∀c∈decDigits u,48<=c.toNat/\c.toNat<=57:=by
 intro u
 induction u using Nat.strongRecOn with
 | _ u ih=>
  intro c hc;by_cases g:u<10
  .rw [decDigits,dif_pos g,List.mem_singleton] at hc;subst hc;rw [Ux g];omega
  .rw [decDigits,dif_neg g] at hc;rcases List.mem_append.1 hc with h | h
   .exact ih (u / 10) (by omega) c h
   .rw [List.mem_singleton] at h;subst h;rw [Ux (by omega)];omega
theorem R0 {n:Int} {c:UInt8} (h:c∈itoa n):45<=c.toNat/\c.toNat<=57:=by
 unfold itoa at h;split at h
 .cases h with
  | head=>decide
  | tail _ h=>have:=Ov _ c h;omega
 .have:=Ov _ c h;omega
theorem T5 (n:Int) {b:UInt8} (hb:b.toNat<45):CW b (itoa n):=fun c hc e=>by subst e;have:=R0 hc;omega
theorem Oq : ∀(l:List Int),E7 l=Qo 32 (l.map itoa)
 | []=>rfl
 | n::l=>by rw [E7,AO,Qo,Oq l]
theorem PG : ∀L:List Int,(∀n∈L,-9999999<=n/\n<=9999999)->Wz (L.map itoa)=some L
 | [],_=>rfl
 | n::L,h=>by have hn:=h n AM;rw [AO,Nk,WD rfl hn.1 hn.2,PG L fun m hm=>h m (AR _ hm)];rfl
theorem PZ (L:List Int) {b:UInt8} (hb:b.toNat<45): ∀x∈L.map itoa,CW b x:=fun x hx=>by obtain ⟨n,_,rfl⟩:=List.mem_map.1 hx;exact T5 n hb
theorem PF : ∀(q:List (List UInt8)) (L:List Int),Wz q=some L->q=L.map itoa
 | [],L,h=>by obtain rfl:=Ab h;rfl
 | w::r,L,h=>by
  rw [Nk] at h;cases hw:B2 w with
  | none=>rw [hw] at h;cases h
  | some n=>
   rw [hw] at h;cases hr:Wz r with
   | none=>rw [hr] at h;cases h
   | some m=>rw [hr] at h;obtain rfl:=Ab h;rw [AO,(WE hw).1,<-PF r m hr]
open Go.Proofs.Tryz
def X5 :BB:=(((((CG.with JO Gs).with GY EE).with Fw ED).with Fi EC).with Il Gi).with IX Gg
theorem Kt :Zk prog X5:=XD (XB (Pt (Ps (Pr (W5 Lq)))))
section
attribute [local irreducible] Xe Jj Ya Vs
abbrev Ke (l0:List R7):=(Ya (Xe (B4 l0)))
inductive DO where
def G2 (l0:List R7) (x1:List UInt8):DO->BJ
 :=nofun
def MG (l0:List R7) (x1:List UInt8):DO->Vu DO
 :=nofun
def Hg (l0:List R7) (x1:List UInt8):Vu DO:=(bif (decide ((l0.length:Int)>80)) then (.ret [(.bool true)]) else (bif (decide ((x1.length:Int)>4000)) then (.ret [(.bool true)]) else (bif (KH (B4 l0)) then (bif ((DM (B4 l0)) == 0) then (bif (Uy (B4 l0)) then (bif (Va (Xe (B4 l0))) then (bif ((Jj (B4 l0)) != 0) then (.ret [(.bool false)]) else (bif ((Vs (Xe (B4 l0))) != 0) then (.ret [(.bool false)]) else (bif (KK (B4 (Ya (Xe (B4 l0)))) (B4 l0)) then (bif (!(DL (B4 (Ya (Xe (B4 l0)))) (B4 l0))) then (.ret [(.bool false)]) else (bif (Va x1) then (bif ((Vs x1) != 0) then (.ret [(.bool true)]) else (bif (Uy (B4 (Ya x1))) then (bif ((Jj (B4 (Ya x1))) == 0) then (.ret [(.bool ((Xe (B4 (Ya x1))) == x1))]) else (.ret [(.bool false)])) else .stuck)) else .stuck)) else .stuck))) else .stuck) else .stuck) else (bif (Va x1) then (bif ((Vs x1) != 0) then (.ret [(.bool true)]) else (bif (Uy (B4 (Ya x1))) then (bif ((Jj (B4 (Ya x1))) == 0) then (.ret [(.bool ((Xe (B4 (Ya x1))) == x1))]) else (.ret [(.bool false)])) else .stuck)) else .stuck)) else .stuck)))
theorem Re (l0:List R7) (x1:List UInt8): ∀s,Uu prog (Zy prog 6) (G2 l0 x1) (G2 l0 x1 s) (MG l0 x1 s)
 :=nofun
theorem Sh (l0:List R7) (x1:List UInt8):Uu prog (Zy prog 6) (G2 l0 x1) (Yx prog 6 [(.dat l0.length (Zx l0)),(.str x1)] true []) (Hg l0 x1):=(lb (fun k0=>(lr 76 6 [1,1,0,1,0,0] 1 3 [(4,(.bool true))] (sl Kt 31 [] (b8 [4]) a8 (Bu 6 []) (tt k0 nn)))) (fun k0=>(lb (fun k1=>(lr 76 6 [1,1,0,1,0,0] 1 3 [(4,(.bool true))] (sl Kt 31 [] (b8 [4]) a8 (bl 6 56) (tt k1 (tt k0 nn))))) (fun k1=>(lo fun bQ=>let b:=pp (pp (xr l0) (xw bQ)) (tt k1 (tt k0 nn));let f:=Xe (B4 (Ya x1));(lb (fun k2=>(lo fun cJ=>(lo fun cK=>let a:=ww cK (pp (pp (xr l0) (xw cJ)) (tt k2 b));(lb (fun k3=>(lr 76 6 [1,1,1,0,1,0,1,1,1,0,0] 1 3 [(4,(.bool false))] (sl Kt 75 [] (b8 [4]) a8 (bl 14 16320) (tt k3 a)))) (fun k3=>(lb (fun k4=>(lr 76 6 [1,1,1,0,1,0,1,1,1,0,0] 1 3 [(4,(.bool false))] (sl Kt 75 [] (b8 [4]) a8 (bl 14 15936) (tt k4 (tt k3 a))))) (fun k4=>(lo fun cT=>let c:=pp (xr l0) (xw cT);let d:=tt k4 (tt k3 a);(lb (fun k5=>(lr 76 6 [1,1,1,0,1,0,1,1,1,0,0] 1 3 [(4,(.bool false))] (sl Kt 75 [] (b8 [4]) a8 (bl 14 8256) (tt k5 (pp (pp (xI R7 (Ke l0).length (Zx (Ke l0))) c) d))))) (fun k5=>(lo fun cU=>(lb (fun k6=>(lr 76 6 [1,1,1,1,1,0,1,0,0] 1 3 [(4,(.bool true))] (sl Kt 94 [] (b8 [4]) a8 (bl 15 16448) (tt k6 (ww cU (tt k5 (pp (pp (xI R7 (Ke l0).length (Zx (Ke l0))) c) d))))))) (fun k6=>(lo fun cV=>(lb (fun k7=>(lr 76 3 [1,1,1,1,1,1,0] 1 3 [(4,(.bool (f == x1)))] (sl Kt 114 [] (b8 [4]) a8 (bl 20 1015872) (tt k7 (pp (pp (xI R7 (Ya x1).length (Zx (Ya x1))) (xw cV)) (tt k6 (ww cU (tt k5 (pp (pp (xI R7 (Ke l0).length (Zx (Ke l0))) c) d))))))))) (fun k7=>(lr 76 3 [1,1,1,1,1,1,0] 1 3 [(4,(.bool false))] (sl Kt 114 [] (b8 [4]) a8 (bl 20 98368) (tt k7 (pp (pp (xI R7 (Ya x1).length (Zx (Ya x1))) (xw cV)) (tt k6 (ww cU (tt k5 (pp (pp (xI R7 (Ke l0).length (Zx (Ke l0))) c) d)))))))))))))))))))))))) (fun k2=>(lo fun cJ=>let e:=ww cJ (tt k2 b);(lb (fun k3=>(lr 76 6 [1,1,1,1,1,0,1,0,0] 1 3 [(4,(.bool true))] (sl Kt 58 [] (b8 [4]) a8 (bl 8 128) (tt k3 e)))) (fun k3=>(lo fun cW=>(lb (fun k4=>(lr 76 3 [1,1,1,1,1,1,0] 1 3 [(4,(.bool (f == x1)))] (sl Kt 78 [] (b8 [4]) a8 (bl 13 7936) (tt k4 (pp (pp (xI R7 (Ya x1).length (Zx (Ya x1))) (xw cW)) (tt k3 e)))))) (fun k4=>(lr 76 3 [1,1,1,1,1,1,0] 1 3 [(4,(.bool false))] (sl Kt 78 [] (b8 [4]) a8 (bl 13 768) (tt k4 (pp (pp (xI R7 (Ya x1).length (Zx (Ya x1))) (xw cW)) (tt k3 e))))))))))))))))))
theorem lmb_ends (l0:List R7) (x1:List UInt8) (n:Nat) (vs:List BA) (h:Wx (MG l0 x1) n (Hg l0 x1)=.ret vs):B5 prog (Zy prog 6) (Yx prog 6 [(.dat l0.length (Zx l0)),(.str x1)] true []) vs:=by have:=Yo (Re l0 x1) n _ (Sh l0 x1);rwa [h] at this
end
def F2 (r:R7):List Int:=[r.a,r.b,r.c,r.d,r.e,r.f,r.g]
def Cw (r:R7):List UInt8:=Kj++Qo 32 ((F2 r).map itoa)
theorem Rl (r:R7):Cx r=Cw r++[10]:=by unfold Cx Cw;rw [Oq];rfl
theorem Ln : ∀L:List R7,Xf L=Dj 10 (L.map Cw)
 | []=>rfl
 | r::l=>by rw [Xf,AO,Dj,Rl,Ln l,AP];rfl
theorem V8 {r:R7} (h:(0<=r.a/\r.a<=5)/\CH r.b r.c r.d/\CH r.e r.f r.g):Cg (Cw r)=some r:=by
 obtain ⟨h1,⟨h2,h3,h4⟩,h5,h6,h7⟩:=h;unfold Cg Cw;rw [VS (by unfold CW Kj;decide) (PZ (F2 r) (by decide))];show (bif decide (Kj=Kj)&&decide (((F2 r).map itoa).length =7) then (match Wz ((F2 r).map itoa) with
  | some l=>BO l
  | none=>none) else none)=_
 rw [Ah rfl,Ah (show ((F2 r).map itoa).length =7 from rfl),PG (F2 r) (fun n hn=>by simp only [F2,AZ,List.mem_nil_iff,or_false] at hn;omega)];show (bif decide (0<=r.a)&&decide (r.a<=5) then some (⟨r.a,r.b,r.c,r.d,r.e,r.f,r.g⟩:R7) else none)=_;rw [Ah h1.1,Ah h1.2];rfl
theorem Ni : ∀L:List R7,(∀r∈L,(0<=r.a/\r.a<=5)/\CH r.b r.c r.d/\CH r.e r.f r.g)->Xp (L.map Cw)=some L
 | [],_=>rfl
 | r::l,h=>by rw [AO,Xp,V8 (h r AM),Ni l fun y hy=>h y (AR _ hy)]
theorem UQ (r:R7):CW 10 (Cw r):=by
 have htail: ∀(L:List (List UInt8)),(∀y∈L,CW 10 y)->CW 10 (Qo 32 L):=fun L=>by
  induction L with
  | nil=>intro _ c hc;cases hc
  | cons y L ih=>
   intro hy;rw [Qo];intro c hc;rcases AZ.1 hc with rfl | hc
   .decide
   .exact Pz (hy y AM) (ih fun z hz=>hy z (AR _ hz)) c hc
 exact Pz (by unfold CW Kj;decide) (htail _ (PZ _ (by decide)))
theorem Lo : ∀L:List R7,(∀r∈L,(0<=r.a/\r.a<=5)/\CH r.b r.c r.d/\CH r.e r.f r.g)->(Xf L).length <=200*L.length
 | [],_=>AG _
 | r::l,h=>by have h1:=OR (h r AM);have h2:=Lo l fun y hy=>h y (AR _ hy);rw [Xf,Al,Aq];omega
theorem Vl {L:List R7} (ho:Yk L=true) (hm:Vc L=0) (hl:L.length<=80):Jj L=0/\DB (Xe L)=(L,0):=by
 have hv:=(LI hm ho).2;have cZ:=Lo L hv;have e1:Jj L=0:=by unfold Jj;rw [Ca hm,An (show ¬60000<(Xf L).length by omega)];rfl
 have e0:Xe L=Xf L:=by unfold Xe;rw [Ca hm,An (show ¬60000<(Xf L).length by omega)];rfl
 refine ⟨e1,?_⟩;rw [e0];have hr:Qt (Xf L)=some (L.map Cw):=by
  unfold Qt;rw [Ln,Pn _ (fun x hx=>by
   obtain ⟨r,_,rfl⟩:=List.mem_map.1 hx;exact UQ r),List.getLast?_append,List.getLast?_singleton]
  show some ((L.map Cw++[[]]).dropLast)=_;rw [List.dropLast_concat]
 rw [HR,An (show ¬60000<(Xf L).length by omega),Aj,hr];show DF (Xp (L.map Cw))=_;rw [Ni L hv,Jv,Ca hm];rfl
theorem V7 {x:List UInt8} {r:R7} (h:Cg x=some r):x=Cw r:=by
 obtain ⟨w,ws,e1,e2⟩:=JY (b:=32) x [];rw [AU] at e2;unfold Cg at h;rw [e1] at h;have h:(bif decide (w=Kj)&&decide (ws.length=7) then (match Wz ws with
  | some l=>BO l
  | none=>none) else none)=some r:=h
 cases g:decide (w=Kj)&&decide (ws.length=7) with
 | false=>rw [g] at h;cases h
 | true=>
  rw [g,Ao] at h;rw [Ad,Ap] at g;cases hn:Wz ws with
  | none=>rw [hn] at h;cases h
  | some L=>
   rw [hn] at h;have h:BO L=some r:=h;have hz:=PF ws L hn;unfold BO at h;split at h
   .rename_i a b c d e f g' _;cases g3:decide (0<=a)&&decide (a<=5) with
    | false=>rw [g3] at h;cases h
    | true=>rw [g3,Ao] at h;obtain rfl:=Ab h;rw [<-e2,g.1,hz];rfl
   .cases h
theorem Nh : ∀(ls:List (List UInt8)) (L:List R7),Xp ls=some L->ls=L.map Cw
 | [],L,h=>by obtain rfl:=Ab h;rfl
 | x::l,L,h=>by
  rw [Xp] at h;cases g:Cg x with
  | none=>rw [g] at h;cases h
  | some r=>
   rw [g] at h;have h:(match Xp l with
    | none=>none
    | some m=>some (r::m))=some L:=h
   cases g2:Xp l with
   | none=>rw [g2] at h;cases h
   | some m=>rw [g2] at h;obtain rfl:=Ab h;rw [AO,<-V7 g,<-Nh l m g2]
theorem VM {s:List UInt8} (h:Vs s=0):Vc (Ya s)=0/\Yk (Ya s)=true/\Xf (Ya s)=s:=by
 unfold Vs at h;unfold Ya;rw [HR] at h ⊢;cases g:decide (60000<s.length) with
 | true=>rw [g] at h;cases h
 | false=>
  rw [g,Aj] at h;rw [Aj];cases hr:Qt s with
  | none=>rw [hr] at h;cases h
  | some rows=>
   rw [hr] at h;have h:(DF (Xp rows)).2=0:=h;show Vc (DF (Xp rows)).1=0/\Yk (DF (Xp rows)).1=true/\Xf (DF (Xp rows)).1=s;cases hl:Xp rows with
   | none=>rw [hl] at h;cases h
   | some L=>
    rw [hl,Jv] at h;have hm:Vc L=0:=by
     by_cases e:Vc L=0
     .exact e
     .rw [F6 e] at h;exact absurd h e
    rw [Jv,Ca hm];refine ⟨hm,(OG rows L hl).1,?_⟩;show Xf L=s;rw [Ln,<-Nh rows L hl];exact (U7 hr).symm
theorem lmb_run (l:List R7) (s:List UInt8) (ho:Yk l=true): ∃N,Wx (MG l s) N (Hg l s)=.ret [.bool true]:=⟨0,by
 show Hg l s=_;have fin:s.length<=4000->(bif (Va s) then (bif ((Vs s) != 0) then (.ret [(.bool true)]) else (bif (Uy (Ya s)) then (bif ((Jj (Ya s)) == 0) then (.ret [(.bool ((Xe (Ya s)) == s))]) else (.ret [(.bool false)])) else .stuck)) else (.stuck :Vu DO))=.ret [.bool true]:=fun hs=>by
  rw [Zd (show Va s=true from Ah (by omega))];by_cases hp:Vs s=0
  .obtain ⟨b1,b2,b3⟩:=VM hp;have hl: ¬60000<(Xf (Ya s)).length :=by rw [b3];omega
   have e1:Jj (Ya s)=0:=by unfold Jj;rw [Ca b1,An hl];rfl
   have e0:Xe (Ya s)=s:=by unfold Xe;rw [Ca b1,An hl];exact b3
   rw [Ca hp,Aj,Zd (show Uy (Ya s)=true from b2),M6 e1,Ao,e0,beq_self_eq_true]
  .rw [F6 hp];rfl
 unfold Hg;simp only [PV];by_cases hl:(l.length:Int)>80
 .rw [Ah hl];rfl
 .rw [An hl,Aj];by_cases hs:(s.length:Int)>4000
  .rw [Ah hs];rfl
  .have hs4:s.length<=4000:=by omega
   rw [An hs,Aj,Zd (show KH l=true from ho)];by_cases hm:DM l=0
   .obtain ⟨t1,t2⟩:=Vl ho hm (by omega);have cZ:(Xe l).length <=100000:=by
     have e0:Xe l=Xf l\/Xe l=[]:=by
      unfold Xe;cases Vc l != 0 with
      | true=>exact .inr rfl
      | false=>
       cases decide (60000<(Xf l).length) with
       | true=>exact .inr rfl
       | false=>exact .inl rfl
     rcases e0 with e | e
     .rw [e];have:=Lo l (LI hm ho).2;omega
     .rw [e];exact AG _
    have p0:Ya (Xe l)=l:=by unfold Ya;rw [t2]
    have p1:Vs (Xe l)=0:=by unfold Vs;rw [t2]
    have hr:DL l l=true:=by unfold DL Pc;exact Ah rfl
    rw [M6 hm,Ao,Zd (show Uy l=true from ho),Zd (show Va (Xe l)=true from Ah cZ),Ca t1,Aj,Ca p1,Aj,p0,Zd (show KK l l=true from Ah (by omega)),hr,Bm,Aj];exact fin hs4
   .rw [M5 hm,Aj];exact fin hs4⟩
theorem mck_lst {n:Nat} (c:Nat->Nat->Int) (h: ∀i,i<n-> ∀(j:Nat) (k:IntKind),[IntKind.u8,.i64,.i64,.i64,.i64,.i64,.i64][j]? =some k->k.has (c i j)):
  Yk (lst R7 n fun i=>rowOf [.u8,.i64,.i64,.i64,.i64,.i64,.i64] (c i))=true:=by
 refine Av.2 fun r hr=> ?_;obtain ⟨i,hi,rfl⟩:=List.mem_map.1 hr;have hi:=AH.1 hi;have:=h i hi 0 .u8 rfl;simp [IntKind.has,IntKind.min,IntKind.max,IntKind.signed,IntKind.bits] at this;have e:(Ww.of (rowOf [.u8,.i64,.i64,.i64,.i64,.i64,.i64] (c i)):R7).a =c i 0:=rfl;rw [e,Ah (show 0<=c i 0 by omega),Ah (show c i 0<256 by omega)];rfl
end Go.Am
end
