/- A part of a proof: several texts in one. -/
import Derived.Test.YthnnmgkacjjpeaaGreatDoorNc5
set_option maxRecDepth 1000000
set_option maxHeartbeats 8000000
set_option linter.unusedVariables false
set_option linter.unusedSimpArgs false
noncomputable section
namespace Go.Am
open IntKind (wrap)
open Go.Proofs.Tryz
open Go.Proofs
section
attribute [local irreducible] Ui Yk
-- h10: append to (.dat (rd aH (0 + (Int.toNat (wrap .i64 ((((aH.length + 1) : Nat) : Int) - 1))))).s.length (Zz (rd aH (0 + (Int.toNat (wrap .i64 ((((aH.length + 1) : Nat) : Int) - 1))))).s)) (choices [false, false])
-- h14: append to (.dat (rd aH (0 + (Int.toNat (wrap .i64 ((((aH.length + 1) : Nat) : Int) - 1))))).s.length (Zz (rd aH (0 + (Int.toNat (wrap .i64 ((((aH.length + 1) : Nat) : Int) - 1))))).s)) (choices [false, false])
-- h16: owes false (choices [true, false, false, false, false])
-- h18: append to (.dat (rd aH (0 + (Int.toNat (wrap .i64 ((((aH.length + 1) : Nat) : Int) - 1))))).s.length (Zz (rd aH (0 + (Int.toNat (wrap .i64 ((((aH.length + 1) : Nat) : Int) - 1))))).s)) (choices [false, false])
-- h20: append to (.dat (rd aH (0 + (Int.toNat (wrap .i64 ((((aH.length + 1) : Nat) : Int) - 1))))).s.length (Zz (rd aH (0 + (Int.toNat (wrap .i64 ((((aH.length + 1) : Nat) : Int) - 1))))).s)) (choices [false, false])
-- h21: owes false (choices [true, false, false, false, false])
-- h22: append to (.dat (rd aH (0 + (Int.toNat (wrap .i64 ((((aH.length + 1) : Nat) : Int) - 1))))).s.length (Zz (rd aH (0 + (Int.toNat (wrap .i64 ((((aH.length + 1) : Nat) : Int) - 1))))).s)) (choices [false, false])
-- h23: append to (.dat (rd aH (0 + (Int.toNat (wrap .i64 ((((aH.length + 1) : Nat) : Int) - 1))))).s.length (Zz (rd aH (0 + (Int.toNat (wrap .i64 ((((aH.length + 1) : Nat) : Int) - 1))))).s)) (choices [false, false])
-- h24: owes false (choices [true, false, false, false, false])
-- h24: append to (.dat (rd aH (0 + (Int.toNat (wrap .i64 ((((aH.length + 1) : Nat) : Int) - 1))))).s.length (Zz (rd aH (0 + (Int.toNat (wrap .i64 ((((aH.length + 1) : Nat) : Int) - 1))))).s)) (choices [false, false])
abbrev Q1 (aB:List B4) (aA:Int) (aD:List (List UInt8×Int)) (bB:List UInt8) (v5:Int):=((aB.set (0+(tn aA)) (B4.mk (rd aB (0+(tn aA))).n (getK 0 aD ((bB.drop 0).take (tn v5))) (rd aB (0+(tn aA))).t (rd aB (0+(tn aA))).x (rd aB (0+(tn aA))).y (rd aB (0+(tn aA))).z (rd aB (0+(tn aA))).s)).set (0+(tn aA)) (B4.mk ((bB.drop (tn (wr (v5+1)))).take (bB.length - (tn (wr (v5+1))))) (rd (aB.set (0+(tn aA)) (B4.mk (rd aB (0+(tn aA))).n (getK 0 aD ((bB.drop 0).take (tn v5))) (rd aB (0+(tn aA))).t (rd aB (0+(tn aA))).x (rd aB (0+(tn aA))).y (rd aB (0+(tn aA))).z (rd aB (0+(tn aA))).s)) (0+(tn aA))).a (rd (aB.set (0+(tn aA)) (B4.mk (rd aB (0+(tn aA))).n (getK 0 aD ((bB.drop 0).take (tn v5))) (rd aB (0+(tn aA))).t (rd aB (0+(tn aA))).x (rd aB (0+(tn aA))).y (rd aB (0+(tn aA))).z (rd aB (0+(tn aA))).s)) (0+(tn aA))).t (rd (aB.set (0+(tn aA)) (B4.mk (rd aB (0+(tn aA))).n (getK 0 aD ((bB.drop 0).take (tn v5))) (rd aB (0+(tn aA))).t (rd aB (0+(tn aA))).x (rd aB (0+(tn aA))).y (rd aB (0+(tn aA))).z (rd aB (0+(tn aA))).s)) (0+(tn aA))).x (rd (aB.set (0+(tn aA)) (B4.mk (rd aB (0+(tn aA))).n (getK 0 aD ((bB.drop 0).take (tn v5))) (rd aB (0+(tn aA))).t (rd aB (0+(tn aA))).x (rd aB (0+(tn aA))).y (rd aB (0+(tn aA))).z (rd aB (0+(tn aA))).s)) (0+(tn aA))).y (rd (aB.set (0+(tn aA)) (B4.mk (rd aB (0+(tn aA))).n (getK 0 aD ((bB.drop 0).take (tn v5))) (rd aB (0+(tn aA))).t (rd aB (0+(tn aA))).x (rd aB (0+(tn aA))).y (rd aB (0+(tn aA))).z (rd aB (0+(tn aA))).s)) (0+(tn aA))).z (rd (aB.set (0+(tn aA)) (B4.mk (rd aB (0+(tn aA))).n (getK 0 aD ((bB.drop 0).take (tn v5))) (rd aB (0+(tn aA))).t (rd aB (0+(tn aA))).x (rd aB (0+(tn aA))).y (rd aB (0+(tn aA))).z (rd aB (0+(tn aA))).s)) (0+(tn aA))).s))
def Rl (x0:List UInt8):CX:=⟨⟨213,0,true⟩,(CU prog 12 [1,1,1,1,1,1,1,1,0,1,0,0,1,1,0,0,1,1,0,1,0,1,1,0,0] 24),(Zf prog 12 [1,1,1,1,1,1,1,1,0,1,0,0,1,1,0,0,1,1,0,1,0,1,1,0,0] 1),none,(Zy prog 10),Ye [(9,.nils),(10,.nils),(13,(.dat (Zi (rd (Zi (Zu x0 ([10]:List UInt8)) ([10]:List UInt8)) 0) ([32]:List UInt8)).length (Zz (Zi (rd (Zi (Zu x0 ([10]:List UInt8)) ([10]:List UInt8)) 0) ([32]:List UInt8))))),(14,(.ptr 2 0)),(15,(.ptr 1 0)),(55,(.dat (Zi (Zu x0 ([10]:List UInt8)) ([10]:List UInt8)).length (Zz (Zi (Zu x0 ([10]:List UInt8)) ([10]:List UInt8))))),(56,(ii (((Zi (Zu x0 ([10]:List UInt8)) ([10]:List UInt8)).length :Nat):Int))),(57,(ii 0)),(84,(.bool false)),(86,(.dat ((Zi (rd (Zi (Zu x0 ([10]:List UInt8)) ([10]:List UInt8)) 0) ([32]:List UInt8)).length - 2) (fun k=>(Zz (Zi (rd (Zi (Zu x0 ([10]:List UInt8)) ([10]:List UInt8)) 0) ([32]:List UInt8))) (2+k)))),(96,(.sl 0 0 4 (.un 1)))]⟩
abbrev Wu (aB:List B4) (aA:Int):=(rd aB (0+(tn aA)))
def Lo (aH:List B4) (aV:List (List UInt8)) (x0:List UInt8) (bM:Int) (bK:List (List UInt8)):CX:=⟨⟨213,0,true⟩,(CU prog 12 [1,1,1,1,1,1,1,1,0,1,0,0,1,1,0,0,1,1,0,1,1,1,0,0] 2),(Zf prog 12 [1,1,1,1,1,1,1,1,0,1,0,0,1,1,0,0,1,1,0,1,1,1,0,0] 1),none,(Zy prog 10),Ye [(9,(.sla 2 7 0 (aH.length+1) (.un 7))),(10,(.sla 4 1 0 aV.length (.un 1))),(55,(.dat (Zi (Zu x0 ([10]:List UInt8)) ([10]:List UInt8)).length (Zz (Zi (Zu x0 ([10]:List UInt8)) ([10]:List UInt8))))),(56,(ii (((Zi (Zu x0 ([10]:List UInt8)) ([10]:List UInt8)).length :Nat):Int))),(57,(ii bM)),(134,(.dat bK.length (Zz bK)))]⟩
def Rm (aF:List B4) (aE:List (List UInt8)) (aN:List (List UInt8)) (x0:List UInt8) (bI:Int) (cB:List (List UInt8)):CX:=⟨⟨213,0,true⟩,(CU prog 12 [1,1,1,1,1,1,1,1,0,1,0,0,1,1,0,0,1,1,0,1,0,1,1,0,0] 24),(Zf prog 12 [1,1,1,1,1,1,1,1,0,1,0,0,1,1,0,0,1,1,0,1,0,1,1,0,0] 1),none,(Zy prog 10),Ye [(9,(.sla 3 7 0 (aF.length+1) (.un 7))),(10,(.sla 5 1 0 aE.length (.un 1))),(13,(.dat aN.length (Zz aN))),(14,(.ptr 2 0)),(15,(.ptr 1 0)),(55,(.dat (Zi (Zu x0 ([10]:List UInt8)) ([10]:List UInt8)).length (Zz (Zi (Zu x0 ([10]:List UInt8)) ([10]:List UInt8))))),(56,(ii (((Zi (Zu x0 ([10]:List UInt8)) ([10]:List UInt8)).length :Nat):Int))),(57,(ii bI)),(84,(.bool false)),(86,(.dat cB.length (Zz cB))),(96,(.sl 0 0 4 (.un 1)))]⟩
def Lp (bX:List (List UInt8)):CX:=⟨⟨21,0,true⟩,(CU prog 47 [1,0] 14),(Zf prog 47 [1,0] 1),none,(Zy prog 47),Ye [(2,(.ptr 1 0)),(4,(.dat bX.length (Zz bX))),(17,(.sl 0 0 6 (.un 1)))]⟩
def Rn (x0:List UInt8):B1:=(.dat ((Zi (rd (Zi (Zu x0 ([10]:List UInt8)) ([10]:List UInt8)) 0) ([32]:List UInt8)).length - 2) (fun k=>(Zz (Zi (rd (Zi (Zu x0 ([10]:List UInt8)) ([10]:List UInt8)) 0) ([32]:List UInt8))) (2+k)))
def Dv :=(Zf prog 46 [1,1,0,1,0,0] 0)
def GY :B6:=⟨[(.ptr 1 0),(.ptr 2 3),(.ptr 2 4),(.ptr 2 5)],91,none⟩
def Lq :B6:=⟨[(.ptr 1 0),(.ptr 1 1),(.ptr 1 2),(.ptr 1 3),(.ptr 1 4),(.ptr 1 5)],91,none⟩
abbrev Vc (aD:Int):=(wrap IntKind.u8 aD)
def WK (x0:List UInt8):B1:=(.dat (Zi (Zu x0 ([10]:List UInt8)) ([10]:List UInt8)).length (Zz (Zi (Zu x0 ([10]:List UInt8)) ([10]:List UInt8))))
def WL (x0:List UInt8):B6:=⟨[(ii (Za (rd (Zi (rd (Zi (Zu x0 ([10]:List UInt8)) ([10]:List UInt8)) 0) ([32]:List UInt8)) 2)))],3,none⟩
def WM :B6:=⟨[(.str []),(ii 0),(.int .u8 0),(ii 0),(ii 0),(ii 0),.nils],48,none⟩
def FV (v14:List (List UInt8)):B1:=(.dat v14.length (Zz v14))
abbrev WN (bB:List UInt8) (v5:Int):=((bB.drop (tn (wr (v5+1)))).take (bB.length - (tn (wr (v5+1)))))
abbrev RP (aL:List R6):=(DU 6 6 0 aL.length aL.length (Zz aL))
def w1b :=(Zf prog 12 [1,1,1,1,1,1,1,1,0,1,0,0] 0)
abbrev P6 (aJ:List R6):=(aJ++[(R6.mk 0 0 0 0 0 0)])
abbrev RC (aB:List B4) (aA:Int) (aD:List (List UInt8×Int)) (cG:List UInt8):=((aB.set (0+(tn aA)) (B4.mk (Wu aB aA).n (getK 0 aD ([]:List UInt8)) (Wu aB aA).t (Wu aB aA).x (Wu aB aA).y (Wu aB aA).z (Wu aB aA).s)).set (0+(tn aA)) (B4.mk cG (rd (aB.set (0+(tn aA)) (B4.mk (Wu aB aA).n (getK 0 aD ([]:List UInt8)) (Wu aB aA).t (Wu aB aA).x (Wu aB aA).y (Wu aB aA).z (Wu aB aA).s)) (0+(tn aA))).a (rd (aB.set (0+(tn aA)) (B4.mk (Wu aB aA).n (getK 0 aD ([]:List UInt8)) (Wu aB aA).t (Wu aB aA).x (Wu aB aA).y (Wu aB aA).z (Wu aB aA).s)) (0+(tn aA))).t (rd (aB.set (0+(tn aA)) (B4.mk (Wu aB aA).n (getK 0 aD ([]:List UInt8)) (Wu aB aA).t (Wu aB aA).x (Wu aB aA).y (Wu aB aA).z (Wu aB aA).s)) (0+(tn aA))).x (rd (aB.set (0+(tn aA)) (B4.mk (Wu aB aA).n (getK 0 aD ([]:List UInt8)) (Wu aB aA).t (Wu aB aA).x (Wu aB aA).y (Wu aB aA).z (Wu aB aA).s)) (0+(tn aA))).y (rd (aB.set (0+(tn aA)) (B4.mk (Wu aB aA).n (getK 0 aD ([]:List UInt8)) (Wu aB aA).t (Wu aB aA).x (Wu aB aA).y (Wu aB aA).z (Wu aB aA).s)) (0+(tn aA))).z (rd (aB.set (0+(tn aA)) (B4.mk (Wu aB aA).n (getK 0 aD ([]:List UInt8)) (Wu aB aA).t (Wu aB aA).x (Wu aB aA).y (Wu aB aA).z (Wu aB aA).s)) (0+(tn aA))).s))
abbrev Vs (x0:List UInt8):=(Zi (Zu x0 ([10]:List UInt8)) ([10]:List UInt8))
abbrev Yn (x0:List UInt8) (v57:Int):=(Zi (rd (Vs x0) (tn v57)) ([32]:List UInt8))
abbrev Yu (x0:List UInt8):=(Zi (rd (Vs x0) 0) ([32]:List UInt8))
abbrev Yv (aF:List B4) (aP:Int) (aQ:Int) (aR:Int) (aS:Int) (aL:List R6):=(aF++[(B4.mk ([]:List UInt8) 0 aP aQ aR aS aL)])
abbrev Uj (x0:List UInt8):=(wrap IntKind.u8 (Za (rd (Yu x0) 2)))
abbrev Wg (aE:List (List UInt8)) (aN:List (List UInt8)):=(aE++([(rd aN 1)]:List (List UInt8)))
abbrev YT (x0:List UInt8) (v57:Int):=(Zz (Ve (Yn x0 v57) 1 ((Yn x0 v57).length - 1)))
abbrev G3 (x0:List UInt8):=(Zz ([(rd (Yu x0) 1)]:List (List UInt8)))
abbrev Vb (x0:List UInt8) (v57:Int):=((Yn x0 v57).length - 1)
abbrev Jy (x0:List UInt8):=(Za (rd (Yu x0) 3))
abbrev Xx (aF:List B4) (aP:Int) (aQ:Int) (aR:Int) (aS:Int) (aL:List R6):=(Zz (Yv aF aP aQ aR aS aL))
abbrev YU (bY:List B4) (bW:Int) (cE:Int) (cN:Int) (cO:Int) (cH:List R6):=(bY++[(B4.mk ([]:List UInt8) 0 bW cE cN cO cH)])
abbrev FW (x0:List UInt8):=(Za (rd (Yu x0) 4))
abbrev G4 :=(Zz ([]:List B4))
abbrev Q2 (x0:List UInt8) (v57:Int):=((Yn x0 v57).length - 2)
abbrev Ke (x0:List UInt8) (v57:Int):=(Zz (Yn x0 v57))
abbrev x3e (x0:List UInt8) (v57:Int):=(Zz (Ve (Yn x0 v57) 2 (Q2 x0 v57)))
inductive CH where
 | h0
 | h1 (v6:Int) (v37:Int)
 | h2
 | h3
 | h4
 | h5
 | h6
 | h7 (v10:List (List UInt8)) (v57:Int) (bW:Int) (cE:Int) (cN:Int) (cO:Int) (cH:List R6) (bY:List B4)
 | h8
 | h9 (v14:List (List UInt8)) (v15:Int) (aE:List (List UInt8)) (aN:List (List UInt8)) (bI:Int) (cB:List (List UInt8)) (aP:Int) (aQ:Int) (aR:Int) (aS:Int) (aL:List R6) (aF:List B4)
 | h10 (v14:List (List UInt8)) (v15:Int) (bX:List (List UInt8)) (aV:List (List UInt8)) (bM:Int) (bK:List (List UInt8)) (bA:Int) (aM:Int) (aT:Int) (aY:Int) (aJ:List R6) (aH:List B4)
 | h11 (v9:List B4) (v158:List (List UInt8)) (v159:Int) (v160:Int) (aD:List (List UInt8×Int))
 | h12
 | h13 (v14:List (List UInt8)) (v15:Int) (aE:List (List UInt8)) (aN:List (List UInt8)) (bI:Int) (cB:List (List UInt8)) (aD:Int) (aP:Int) (aQ:Int) (aR:Int) (aS:Int) (aL:List R6) (aF:List B4)
 | h14 (v14:List (List UInt8)) (v15:Int) (bX:List (List UInt8)) (aV:List (List UInt8)) (bM:Int) (bK:List (List UInt8)) (aD:Int) (bA:Int) (aM:Int) (aT:Int) (aY:Int) (aJ:List R6) (aH:List B4)
 | h15 (v0:List UInt8) (v5:Int) (dV:List UInt8) (aB:List B4) (aA:Int) (bB:List UInt8) (cG:List UInt8) (cK:List (List UInt8)) (cY:Int) (cZ:Int) (dQ:List UInt8) (aD:List (List UInt8×Int))
 | h16
 | h17 (v14:List (List UInt8)) (v15:Int) (aE:List (List UInt8)) (aN:List (List UInt8)) (bI:Int) (cB:List (List UInt8)) (aD:Int) (aM:Int) (aP:Int) (aQ:Int) (aR:Int) (aS:Int) (aL:List R6) (aF:List B4)
 | h18 (v14:List (List UInt8)) (v15:Int) (bX:List (List UInt8)) (aV:List (List UInt8)) (bM:Int) (bK:List (List UInt8)) (aD:Int) (bG:Int) (bA:Int) (aM:Int) (aT:Int) (aY:Int) (aJ:List R6) (aH:List B4)
 | h19 (v14:List (List UInt8)) (v15:Int) (aE:List (List UInt8)) (aN:List (List UInt8)) (bI:Int) (cB:List (List UInt8)) (aD:Int) (aM:Int) (aT:Int) (aP:Int) (aQ:Int) (aR:Int) (aS:Int) (aL:List R6) (aF:List B4)
 | h20 (v14:List (List UInt8)) (v15:Int) (bX:List (List UInt8)) (aV:List (List UInt8)) (bM:Int) (bK:List (List UInt8)) (aD:Int) (bG:Int) (bN:Int) (bA:Int) (aM:Int) (aT:Int) (aY:Int) (aJ:List R6) (aH:List B4)
 | h21 (v14:List (List UInt8)) (v15:Int) (aE:List (List UInt8)) (aN:List (List UInt8)) (bI:Int) (cB:List (List UInt8)) (aD:Int) (aM:Int) (aT:Int) (aY:Int) (aP:Int) (aQ:Int) (aR:Int) (aS:Int) (aL:List R6) (aF:List B4)
 | h22 (v14:List (List UInt8)) (v15:Int) (bX:List (List UInt8)) (aV:List (List UInt8)) (bM:Int) (bK:List (List UInt8)) (aD:Int) (bG:Int) (bN:Int) (bV:Int) (bA:Int) (aM:Int) (aT:Int) (aY:Int) (aJ:List R6) (aH:List B4)
 | h23 (v14:List (List UInt8)) (v15:Int) (bX:List (List UInt8)) (aV:List (List UInt8)) (bM:Int) (bK:List (List UInt8)) (aD:Int) (bG:Int) (bN:Int) (bV:Int) (cR:Int) (bA:Int) (aM:Int) (aT:Int) (aY:Int) (aJ:List R6) (aH:List B4)
 | h24 (v14:List (List UInt8)) (v15:Int) (bX:List (List UInt8)) (aV:List (List UInt8)) (bM:Int) (bK:List (List UInt8)) (aD:Int) (bG:Int) (bN:Int) (bV:Int) (cR:Int) (dJ:Int) (bA:Int) (aM:Int) (aT:Int) (aY:Int) (aJ:List R6) (aH:List B4)
def NH (x0:List UInt8):CH->CE
 | .h0 =>⟨⟨213,0,true⟩,none,(Zf prog 12 [1,1,1,0,1,0,0] 0),none,(Zy prog 10),⟨Ye [(0,(.str x0)),(4,.nils),(5,(.bool true)),(6,(ii 0)),(35,.nils),(36,(ii 0)),(37,(ii 0))],Xt [] 0,0,[],true⟩,[],.leaf⟩
 | .h1 v6 v37=>⟨⟨213,0,true⟩,none,(Zf prog 12 [1,1,1,0,1,0,0] 0),none,(Zy prog 10),⟨Ye [(0,(.str x0)),(4,(WK x0)),(5,(.bool (EE x0 ([10]:List UInt8)))),(6,(ii v6)),(35,(WK x0)),(36,(ii (((Vs x0).length :Nat):Int))),(37,(ii v37))],Xt [] 0,0,[],true⟩,[],.leaf⟩
 | .h2 =>⟨⟨213,0,true⟩,none,w1b,none,(Zy prog 10),⟨Ye [(9,.nils),(10,.nils),(55,.nils),(56,(ii 0)),(57,(ii 0))],Xt [] 0,0,[],true⟩,[],.leaf⟩
 | .h3 =>⟨⟨213,0,true⟩,none,w1b,none,(Zy prog 10),⟨Ye [(9,.nils),(10,.nils),(55,(WK x0)),(56,(ii (((Vs x0).length :Nat):Int))),(57,(ii 0))],Xt [] 0,0,[],true⟩,[],.leaf⟩
 | .h4 =>⟨⟨213,0,true⟩,none,(Zf prog 12 [1,1,1,1,1,1,1,1,1,1,0,1,0,0] 0),none,(Zy prog 10),⟨Ye [(9,.nils),(19,(.mapr 0)),(158,.nils),(159,(ii 0)),(160,(ii 0))],Xt [⟨[(.obj (.mi (Cq ([]:List (List UInt8×Int)) ([]:List UInt8) (-1))))],95,none⟩] 0,1,[],true⟩,[],.leaf⟩
 | .h5 =>⟨⟨49,0,true⟩,none,Dv,none,(Zy prog 3),⟨Ye [(1,(.sl 0 0 4 (.un 1))),(14,(Rn x0)),(15,(ii ((((Yu x0).length - 2):Nat):Int))),(16,(ii 0))],Xt [GY,⟨[(ii 0)],3,none⟩,WM] 0,3,[],true⟩,[(Rl x0)],.leaf⟩
 | .h6 =>⟨⟨49,0,true⟩,none,Dv,none,(Zy prog 3),⟨Ye [(1,(.sl 0 0 4 (.un 1))),(14,(Rn x0)),(15,(ii ((((Yu x0).length - 2):Nat):Int))),(16,(ii 1))],Xt [GY,(WL x0),WM] 0,3,[],true⟩,[(Rl x0)],.leaf⟩
 | .h7 v10 v57 bW cE cN cO cH bY=>⟨⟨213,0,true⟩,none,w1b,none,(Zy prog 10),⟨Ye [(9,(.sla 0 7 0 (bY.length+1) (.un 7))),(10,(.sla 1 1 0 v10.length (.un 1))),(55,(WK x0)),(56,(ii (((Vs x0).length :Nat):Int))),(57,(ii v57))],Xt [⟨rows (bY.length+1) (CI.get (.one bY.length [(.str []),(ii 0),(.int .u8 bW),(ii cE),(ii cN),(ii cO),(.sla 2 6 0 cH.length (.un 6))] (.flat (Zz bY)))),48,some ⟨7,(bY.length+1),(.one bY.length [(.str []),(ii 0),(.int .u8 bW),(ii cE),(ii cN),(ii cO),(.sla 2 6 0 cH.length (.un 6))] (.flat (Zz bY)))⟩⟩,⟨rows v10.length (Zz v10),9,some ⟨1,v10.length,(Zz v10)⟩⟩,⟨rows cH.length (Zz cH),79,some ⟨6,cH.length,(Zz cH)⟩⟩] 0,3,[],true⟩,[],.leaf⟩
 | .h8 =>⟨⟨49,0,true⟩,none,Dv,none,(Zy prog 3),⟨Ye [(1,(.sl 0 0 4 (.un 1))),(14,(Rn x0)),(15,(ii ((((Yu x0).length - 2):Nat):Int))),(16,(ii 2))],Xt [GY,(WL x0),⟨[(.str []),(ii 0),(.int .u8 0),(ii (Jy x0)),(ii 0),(ii 0),.nils],48,none⟩] 0,3,[],true⟩,[(Rl x0)],.leaf⟩
 | .h9 v14 v15 aE aN bI cB aP aQ aR aS aL aF=>⟨⟨49,0,true⟩,none,Dv,none,(Zy prog 3),⟨Ye [(1,(.sl 0 0 4 (.un 1))),(14,(FV v14)),(15,(ii v15)),(16,(ii 0))],Xt [GY,⟨[(ii 0)],3,none⟩,WM,⟨rows (aF.length+1) (CI.get (.one aF.length [(.str []),(ii 0),(.int .u8 aP),(ii aQ),(ii aR),(ii aS),(.sla 4 6 0 aL.length (.un 6))] (.flat (Zz aF)))),48,some ⟨7,(aF.length+1),(.one aF.length [(.str []),(ii 0),(.int .u8 aP),(ii aQ),(ii aR),(ii aS),(.sla 4 6 0 aL.length (.un 6))] (.flat (Zz aF)))⟩⟩,⟨rows aL.length (Zz aL),79,some ⟨6,aL.length,(Zz aL)⟩⟩,⟨rows aE.length (Zz aE),9,some ⟨1,aE.length,(Zz aE)⟩⟩] 0,6,[],true⟩,[(Rm aF aE aN x0 bI cB)],.leaf⟩
 | .h10 v14 v15 bX aV bM bK bA aM aT aY aJ aH=>⟨⟨49,0,true⟩,none,Dv,none,(Zy prog 3),⟨Ye [(1,(.sl 0 0 6 (.un 1))),(14,(FV v14)),(15,(ii v15)),(16,(ii 0))],Xt [Lq,⟨[(ii 0),(ii 0),(ii 0),(ii 0),(ii 0),(ii 0)],79,none⟩,⟨rows (aH.length+1) (CI.get (.one aH.length [(.str []),(ii 0),(.int .u8 bA),(ii aM),(ii aT),(ii aY),(.sla 3 6 0 aJ.length (.un 6))] (.flat (Zz aH)))),48,some ⟨7,(aH.length+1),(.one aH.length [(.str []),(ii 0),(.int .u8 bA),(ii aM),(ii aT),(ii aY),(.sla 3 6 0 aJ.length (.un 6))] (.flat (Zz aH)))⟩⟩,⟨rows aJ.length (Zz aJ),79,some ⟨6,aJ.length,(Zz aJ)⟩⟩,⟨rows aV.length (Zz aV),9,some ⟨1,aV.length,(Zz aV)⟩⟩] 0,5,[],true⟩,[(Lp bX),(Lo aH aV x0 bM bK)],.leaf⟩
 | .h11 v9 v158 v159 v160 aD=>⟨⟨213,0,true⟩,none,(Zf prog 12 [1,1,1,1,1,1,1,1,1,1,0,1,0,0] 0),none,(Zy prog 10),⟨Ye [(9,(.sla 0 7 0 v9.length (.un 7))),(19,(.mapr 1)),(158,(.sla 2 1 0 v158.length (.un 1))),(159,(ii v159)),(160,(ii v160))],Xt [⟨rows v9.length (Zz v9),48,some ⟨7,v9.length,(Zz v9)⟩⟩,⟨[(.obj (.mi aD))],95,none⟩,⟨rows v158.length (Zz v158),9,some ⟨1,v158.length,(Zz v158)⟩⟩] 0,3,[],true⟩,[],.leaf⟩
 | .h12 =>⟨⟨49,0,true⟩,none,Dv,none,(Zy prog 3),⟨Ye [(1,(.sl 0 0 4 (.un 1))),(14,(Rn x0)),(15,(ii ((((Yu x0).length - 2):Nat):Int))),(16,(ii 3))],Xt [GY,(WL x0),⟨[(.str []),(ii 0),(.int .u8 0),(ii (Jy x0)),(ii (FW x0)),(ii 0),.nils],48,none⟩] 0,3,[],true⟩,[(Rl x0)],.leaf⟩
 | .h13 v14 v15 aE aN bI cB aD aP aQ aR aS aL aF=>⟨⟨49,0,true⟩,none,Dv,none,(Zy prog 3),⟨Ye [(1,(.sl 0 0 4 (.un 1))),(14,(FV v14)),(15,(ii v15)),(16,(ii 1))],Xt [GY,⟨[(ii aD)],3,none⟩,WM,⟨rows (aF.length+1) (CI.get (.one aF.length [(.str []),(ii 0),(.int .u8 aP),(ii aQ),(ii aR),(ii aS),(.sla 4 6 0 aL.length (.un 6))] (.flat (Zz aF)))),48,some ⟨7,(aF.length+1),(.one aF.length [(.str []),(ii 0),(.int .u8 aP),(ii aQ),(ii aR),(ii aS),(.sla 4 6 0 aL.length (.un 6))] (.flat (Zz aF)))⟩⟩,⟨rows aL.length (Zz aL),79,some ⟨6,aL.length,(Zz aL)⟩⟩,⟨rows aE.length (Zz aE),9,some ⟨1,aE.length,(Zz aE)⟩⟩] 0,6,[],true⟩,[(Rm aF aE aN x0 bI cB)],.leaf⟩
 | .h14 v14 v15 bX aV bM bK aD bA aM aT aY aJ aH=>⟨⟨49,0,true⟩,none,Dv,none,(Zy prog 3),⟨Ye [(1,(.sl 0 0 6 (.un 1))),(14,(FV v14)),(15,(ii v15)),(16,(ii 1))],Xt [Lq,⟨[(ii aD),(ii 0),(ii 0),(ii 0),(ii 0),(ii 0)],79,none⟩,⟨rows (aH.length+1) (CI.get (.one aH.length [(.str []),(ii 0),(.int .u8 bA),(ii aM),(ii aT),(ii aY),(.sla 3 6 0 aJ.length (.un 6))] (.flat (Zz aH)))),48,some ⟨7,(aH.length+1),(.one aH.length [(.str []),(ii 0),(.int .u8 bA),(ii aM),(ii aT),(ii aY),(.sla 3 6 0 aJ.length (.un 6))] (.flat (Zz aH)))⟩⟩,⟨rows aJ.length (Zz aJ),79,some ⟨6,aJ.length,(Zz aJ)⟩⟩,⟨rows aV.length (Zz aV),9,some ⟨1,aV.length,(Zz aV)⟩⟩] 0,5,[],true⟩,[(Lp bX),(Lo aH aV x0 bM bK)],.leaf⟩
 | .h15 v0 v5 dV aB aA bB cG cK cY cZ dQ aD=>⟨⟨19,0,true⟩,none,(Zf prog 86 [1,0,1,0,0] 0),none,(Zy prog 3),⟨Ye [(0,(.str v0)),(1,(.int .u8 47)),(5,(ii v5))],Xt [⟨rows aB.length (Zz aB),48,some ⟨7,aB.length,(Zz aB)⟩⟩,⟨[(.obj (.mi aD))],95,none⟩,⟨rows cK.length (Zz cK),9,some ⟨1,cK.length,(Zz cK)⟩⟩] 0,3,[],true⟩,[⟨⟨8,0,true⟩,(CU prog 48 [1,0] 2),(Zf prog 48 [1,0] 1),none,(Zy prog 3),Ye [(5,(.str dV)),(6,(.int .u8 47))]⟩,⟨⟨213,0,true⟩,(CU prog 12 [1,1,1,1,1,1,1,1,1,1,0,1,0,0,1,1,0,0,1,1,0,0] 1),(Zf prog 12 [1,1,1,1,1,1,1,1,1,1,0,1,0,0,1,1,0,0,1,1,0,0] 1),none,(Zy prog 10),Ye [(9,(.sla 0 7 0 aB.length (.un 7))),(19,(.mapr 1)),(20,(ii aA)),(21,(.str bB)),(22,(.str [])),(23,(.str cG)),(158,(.sla 2 1 0 cK.length (.un 1))),(159,(ii cY)),(160,(ii cZ)),(166,(.str dQ))]⟩],.leaf⟩
 | .h16 =>⟨⟨49,0,true⟩,none,Dv,none,(Zy prog 3),⟨Ye [(1,(.sl 0 0 4 (.un 1))),(14,(Rn x0)),(15,(ii ((((Yu x0).length - 2):Nat):Int))),(16,(ii 4))],Xt [GY,(WL x0),⟨[(.str []),(ii 0),(.int .u8 0),(ii (Jy x0)),(ii (FW x0)),(ii (Za (rd (Yu x0) 5))),.nils],48,none⟩] 0,3,[],true⟩,[(Rl x0)],.leaf⟩
 | .h17 v14 v15 aE aN bI cB aD aM aP aQ aR aS aL aF=>⟨⟨49,0,true⟩,none,Dv,none,(Zy prog 3),⟨Ye [(1,(.sl 0 0 4 (.un 1))),(14,(FV v14)),(15,(ii v15)),(16,(ii 2))],Xt [GY,⟨[(ii aD)],3,none⟩,⟨[(.str []),(ii 0),(.int .u8 0),(ii aM),(ii 0),(ii 0),.nils],48,none⟩,⟨rows (aF.length+1) (CI.get (.one aF.length [(.str []),(ii 0),(.int .u8 aP),(ii aQ),(ii aR),(ii aS),(.sla 4 6 0 aL.length (.un 6))] (.flat (Zz aF)))),48,some ⟨7,(aF.length+1),(.one aF.length [(.str []),(ii 0),(.int .u8 aP),(ii aQ),(ii aR),(ii aS),(.sla 4 6 0 aL.length (.un 6))] (.flat (Zz aF)))⟩⟩,⟨rows aL.length (Zz aL),79,some ⟨6,aL.length,(Zz aL)⟩⟩,⟨rows aE.length (Zz aE),9,some ⟨1,aE.length,(Zz aE)⟩⟩] 0,6,[],true⟩,[(Rm aF aE aN x0 bI cB)],.leaf⟩
 | .h18 v14 v15 bX aV bM bK aD bG bA aM aT aY aJ aH=>⟨⟨49,0,true⟩,none,Dv,none,(Zy prog 3),⟨Ye [(1,(.sl 0 0 6 (.un 1))),(14,(FV v14)),(15,(ii v15)),(16,(ii 2))],Xt [Lq,⟨[(ii aD),(ii bG),(ii 0),(ii 0),(ii 0),(ii 0)],79,none⟩,⟨rows (aH.length+1) (CI.get (.one aH.length [(.str []),(ii 0),(.int .u8 bA),(ii aM),(ii aT),(ii aY),(.sla 3 6 0 aJ.length (.un 6))] (.flat (Zz aH)))),48,some ⟨7,(aH.length+1),(.one aH.length [(.str []),(ii 0),(.int .u8 bA),(ii aM),(ii aT),(ii aY),(.sla 3 6 0 aJ.length (.un 6))] (.flat (Zz aH)))⟩⟩,⟨rows aJ.length (Zz aJ),79,some ⟨6,aJ.length,(Zz aJ)⟩⟩,⟨rows aV.length (Zz aV),9,some ⟨1,aV.length,(Zz aV)⟩⟩] 0,5,[],true⟩,[(Lp bX),(Lo aH aV x0 bM bK)],.leaf⟩
 | .h19 v14 v15 aE aN bI cB aD aM aT aP aQ aR aS aL aF=>⟨⟨49,0,true⟩,none,Dv,none,(Zy prog 3),⟨Ye [(1,(.sl 0 0 4 (.un 1))),(14,(FV v14)),(15,(ii v15)),(16,(ii 3))],Xt [GY,⟨[(ii aD)],3,none⟩,⟨[(.str []),(ii 0),(.int .u8 0),(ii aM),(ii aT),(ii 0),.nils],48,none⟩,⟨rows (aF.length+1) (CI.get (.one aF.length [(.str []),(ii 0),(.int .u8 aP),(ii aQ),(ii aR),(ii aS),(.sla 4 6 0 aL.length (.un 6))] (.flat (Zz aF)))),48,some ⟨7,(aF.length+1),(.one aF.length [(.str []),(ii 0),(.int .u8 aP),(ii aQ),(ii aR),(ii aS),(.sla 4 6 0 aL.length (.un 6))] (.flat (Zz aF)))⟩⟩,⟨rows aL.length (Zz aL),79,some ⟨6,aL.length,(Zz aL)⟩⟩,⟨rows aE.length (Zz aE),9,some ⟨1,aE.length,(Zz aE)⟩⟩] 0,6,[],true⟩,[(Rm aF aE aN x0 bI cB)],.leaf⟩
 | .h20 v14 v15 bX aV bM bK aD bG bN bA aM aT aY aJ aH=>⟨⟨49,0,true⟩,none,Dv,none,(Zy prog 3),⟨Ye [(1,(.sl 0 0 6 (.un 1))),(14,(FV v14)),(15,(ii v15)),(16,(ii 3))],Xt [Lq,⟨[(ii aD),(ii bG),(ii bN),(ii 0),(ii 0),(ii 0)],79,none⟩,⟨rows (aH.length+1) (CI.get (.one aH.length [(.str []),(ii 0),(.int .u8 bA),(ii aM),(ii aT),(ii aY),(.sla 3 6 0 aJ.length (.un 6))] (.flat (Zz aH)))),48,some ⟨7,(aH.length+1),(.one aH.length [(.str []),(ii 0),(.int .u8 bA),(ii aM),(ii aT),(ii aY),(.sla 3 6 0 aJ.length (.un 6))] (.flat (Zz aH)))⟩⟩,⟨rows aJ.length (Zz aJ),79,some ⟨6,aJ.length,(Zz aJ)⟩⟩,⟨rows aV.length (Zz aV),9,some ⟨1,aV.length,(Zz aV)⟩⟩] 0,5,[],true⟩,[(Lp bX),(Lo aH aV x0 bM bK)],.leaf⟩
 | .h21 v14 v15 aE aN bI cB aD aM aT aY aP aQ aR aS aL aF=>⟨⟨49,0,true⟩,none,Dv,none,(Zy prog 3),⟨Ye [(1,(.sl 0 0 4 (.un 1))),(14,(FV v14)),(15,(ii v15)),(16,(ii 4))],Xt [GY,⟨[(ii aD)],3,none⟩,⟨[(.str []),(ii 0),(.int .u8 0),(ii aM),(ii aT),(ii aY),.nils],48,none⟩,⟨rows (aF.length+1) (CI.get (.one aF.length [(.str []),(ii 0),(.int .u8 aP),(ii aQ),(ii aR),(ii aS),(.sla 4 6 0 aL.length (.un 6))] (.flat (Zz aF)))),48,some ⟨7,(aF.length+1),(.one aF.length [(.str []),(ii 0),(.int .u8 aP),(ii aQ),(ii aR),(ii aS),(.sla 4 6 0 aL.length (.un 6))] (.flat (Zz aF)))⟩⟩,⟨rows aL.length (Zz aL),79,some ⟨6,aL.length,(Zz aL)⟩⟩,⟨rows aE.length (Zz aE),9,some ⟨1,aE.length,(Zz aE)⟩⟩] 0,6,[],true⟩,[(Rm aF aE aN x0 bI cB)],.leaf⟩
 | .h22 v14 v15 bX aV bM bK aD bG bN bV bA aM aT aY aJ aH=>⟨⟨49,0,true⟩,none,Dv,none,(Zy prog 3),⟨Ye [(1,(.sl 0 0 6 (.un 1))),(14,(FV v14)),(15,(ii v15)),(16,(ii 4))],Xt [Lq,⟨[(ii aD),(ii bG),(ii bN),(ii bV),(ii 0),(ii 0)],79,none⟩,⟨rows (aH.length+1) (CI.get (.one aH.length [(.str []),(ii 0),(.int .u8 bA),(ii aM),(ii aT),(ii aY),(.sla 3 6 0 aJ.length (.un 6))] (.flat (Zz aH)))),48,some ⟨7,(aH.length+1),(.one aH.length [(.str []),(ii 0),(.int .u8 bA),(ii aM),(ii aT),(ii aY),(.sla 3 6 0 aJ.length (.un 6))] (.flat (Zz aH)))⟩⟩,⟨rows aJ.length (Zz aJ),79,some ⟨6,aJ.length,(Zz aJ)⟩⟩,⟨rows aV.length (Zz aV),9,some ⟨1,aV.length,(Zz aV)⟩⟩] 0,5,[],true⟩,[(Lp bX),(Lo aH aV x0 bM bK)],.leaf⟩
 | .h23 v14 v15 bX aV bM bK aD bG bN bV cR bA aM aT aY aJ aH=>⟨⟨49,0,true⟩,none,Dv,none,(Zy prog 3),⟨Ye [(1,(.sl 0 0 6 (.un 1))),(14,(FV v14)),(15,(ii v15)),(16,(ii 5))],Xt [Lq,⟨[(ii aD),(ii bG),(ii bN),(ii bV),(ii cR),(ii 0)],79,none⟩,⟨rows (aH.length+1) (CI.get (.one aH.length [(.str []),(ii 0),(.int .u8 bA),(ii aM),(ii aT),(ii aY),(.sla 3 6 0 aJ.length (.un 6))] (.flat (Zz aH)))),48,some ⟨7,(aH.length+1),(.one aH.length [(.str []),(ii 0),(.int .u8 bA),(ii aM),(ii aT),(ii aY),(.sla 3 6 0 aJ.length (.un 6))] (.flat (Zz aH)))⟩⟩,⟨rows aJ.length (Zz aJ),79,some ⟨6,aJ.length,(Zz aJ)⟩⟩,⟨rows aV.length (Zz aV),9,some ⟨1,aV.length,(Zz aV)⟩⟩] 0,5,[],true⟩,[(Lp bX),(Lo aH aV x0 bM bK)],.leaf⟩
 | .h24 v14 v15 bX aV bM bK aD bG bN bV cR dJ bA aM aT aY aJ aH=>⟨⟨49,0,true⟩,none,Dv,none,(Zy prog 3),⟨Ye [(1,(.sl 0 0 6 (.un 1))),(14,(FV v14)),(15,(ii v15)),(16,(ii 6))],Xt [Lq,⟨[(ii aD),(ii bG),(ii bN),(ii bV),(ii cR),(ii dJ)],79,none⟩,⟨rows (aH.length+1) (CI.get (.one aH.length [(.str []),(ii 0),(.int .u8 bA),(ii aM),(ii aT),(ii aY),(.sla 3 6 0 aJ.length (.un 6))] (.flat (Zz aH)))),48,some ⟨7,(aH.length+1),(.one aH.length [(.str []),(ii 0),(.int .u8 bA),(ii aM),(ii aT),(ii aY),(.sla 3 6 0 aJ.length (.un 6))] (.flat (Zz aH)))⟩⟩,⟨rows aJ.length (Zz aJ),79,some ⟨6,aJ.length,(Zz aJ)⟩⟩,⟨rows aV.length (Zz aV),9,some ⟨1,aV.length,(Zz aV)⟩⟩] 0,5,[],true⟩,[(Lp bX),(Lo aH aV x0 bM bK)],.leaf⟩
def So :List (Option (List Nat)):=[some [0,4,5,6,35,36,37]]
def Sz :List (Option (List Nat)):=[]
def XR :List (Option (List Nat)):=[some [0,4,5,6,35,36,37]]
def XQ :List (Option (List Nat)):=[]
def Sn :List (Option (List Nat)):=[some [9,10,55,56,57]]
def Sy :List (Option (List Nat)):=[]
def Sm :List (Option (List Nat)):=[some [9,10,55,56,57]]
def Sx :List (Option (List Nat)):=[]
def KF :List (Option (List Nat)):=[some [9,19,158,159,160]]
def KG :List (Option (List Nat)):=[]
def Sl :List (Option (List Nat)):=[some [1,14,15,16],some [9,10,13,14,15,55,56,57,84,86,96]]
def Sv :List (Option (List Nat)):=[]
def Sk :List (Option (List Nat)):=[some [1,14,15,16],some [9,10,13,14,15,55,56,57,84,86,96]]
def Su :List (Option (List Nat)):=[]
def Dr :List (Option (List Nat)):=[some [9,10,55,56,57]]
def Dq :List (Option (List Nat)):=[]
def Sj :List (Option (List Nat)):=[some [1,14,15,16],some [9,10,13,14,15,55,56,57,84,86,96]]
def Ss :List (Option (List Nat)):=[]
def Si :List (Option (List Nat)):=[some [1,14,15,16],some [9,10,13,14,15,55,56,57,84,86,96]]
def Sr :List (Option (List Nat)):=[]
def u7f :List (Option (List Nat)):=[some [1,14,15,16],some [2,4,17],some [9,10,55,56,57,134]]
def u7h :List (Option (List Nat)):=[]
def Rk :List (Option (List Nat)):=[some [9,19,158,159,160]]
def Rj :List (Option (List Nat)):=[]
def Mu :List (Option (List Nat)):=[some [1,14,15,16],some [9,10,13,14,15,55,56,57,84,86,96]]
def NG :List (Option (List Nat)):=[]
def Mt :List (Option (List Nat)):=[some [1,14,15,16],some [9,10,13,14,15,55,56,57,84,86,96]]
def NF :List (Option (List Nat)):=[]
def Ms :List (Option (List Nat)):=[some [1,14,15,16],some [2,4,17],some [9,10,55,56,57,134]]
def NE :List (Option (List Nat)):=[]
def u7e :List (Option (List Nat)):=[some [0,1,5],some [5,6],some [9,19,20,21,22,23,158,159,160,166]]
def u7g :List (Option (List Nat)):=[]
def Mr :List (Option (List Nat)):=[some [1,14,15,16],some [9,10,13,14,15,55,56,57,84,86,96]]
def ND :List (Option (List Nat)):=[]
def Mq :List (Option (List Nat)):=[some [1,14,15,16],some [9,10,13,14,15,55,56,57,84,86,96]]
def NC :List (Option (List Nat)):=[]
def Mp :List (Option (List Nat)):=[some [1,14,15,16],some [2,4,17],some [9,10,55,56,57,134]]
def NB :List (Option (List Nat)):=[]
def Mo :List (Option (List Nat)):=[some [1,14,15,16],some [9,10,13,14,15,55,56,57,84,86,96]]
def NA :List (Option (List Nat)):=[]
def Mn :List (Option (List Nat)):=[some [1,14,15,16],some [2,4,17],some [9,10,55,56,57,134]]
def Mz :List (Option (List Nat)):=[]
def Mm :List (Option (List Nat)):=[some [1,14,15,16],some [9,10,13,14,15,55,56,57,84,86,96]]
def My :List (Option (List Nat)):=[]
def Ml :List (Option (List Nat)):=[some [1,14,15,16],some [2,4,17],some [9,10,55,56,57,134]]
def Mx :List (Option (List Nat)):=[]
def Mk :List (Option (List Nat)):=[some [1,14,15,16],some [2,4,17],some [9,10,55,56,57,134]]
def Mw :List (Option (List Nat)):=[]
def Mj :List (Option (List Nat)):=[some [1,14,15,16],some [2,4,17],some [9,10,55,56,57,134]]
def Mv :List (Option (List Nat)):=[]
def Zc (x0:List UInt8):CH->Xu CH
 | .h0 =>(bif (decide ((x0.length:Int)>60000)) then (.ret [.nils,(.int .i64 4)]) else (.to (.h2)))
 | .h1 v6 v37=>(bif (decide (v37<(((Zi (Zu x0 ([10]:List UInt8)) ([10]:List UInt8)).length :Nat):Int))) then (bif ((decide (0<=v37/\v37<(((Zi (Zu x0 ([10]:List UInt8)) ([10]:List UInt8)).length :Nat):Int)))&&true) then (bif (decide ((((rd (Zi (Zu x0 ([10]:List UInt8)) ([10]:List UInt8)) v37.toNat).length :Nat):Int)>=5)) then (bif (decide (5<=(rd (Zi (Zu x0 ([10]:List UInt8)) ([10]:List UInt8)) v37.toNat).length)) then (bif ((((rd (Zi (Zu x0 ([10]:List UInt8)) ([10]:List UInt8)) v37.toNat).drop 0).take 5) == ([110,111,100,101,32]:List UInt8)) then (.to (.h1 (wrap .i64 (v6+1)) (wrap .i64 (v37+1)))) else (.to (.h1 v6 (wrap .i64 (v37+1))))) else .stuck) else (.to (.h1 v6 (wrap .i64 (v37+1))))) else .stuck) else (bif (decide ((x0.length:Int)>60000)) then (.ret [.nils,(.int .i64 4)]) else (bif (decide (v6>200)) then (.ret [.nils,(.int .i64 4)]) else (bif (!(EE x0 ([10]:List UInt8))) then (.ret [.nils,(.int .i64 12)]) else (.to (.h3))))))
 | .h2 =>(.to (.h4))
 | .h3 =>(bif (decide (0<(((Zi (Zu x0 ([10]:List UInt8)) ([10]:List UInt8)).length :Nat):Int))) then (bif ((decide ((0:Int)<=0/\0<(((Zi (Zu x0 ([10]:List UInt8)) ([10]:List UInt8)).length :Nat):Int)))&&true) then (bif (Jq (rd (Zi (Zu x0 ([10]:List UInt8)) ([10]:List UInt8)) 0) ([32]:List UInt8)) then (bif ((decide ((0:Int)<=0/\0<(((Zi (rd (Zi (Zu x0 ([10]:List UInt8)) ([10]:List UInt8)) 0) ([32]:List UInt8)).length :Nat):Int)))&&true) then (bif ((rd (Zi (rd (Zi (Zu x0 ([10]:List UInt8)) ([10]:List UInt8)) 0) ([32]:List UInt8)) 0) == ([110,111,100,101]:List UInt8)) then (bif (decide ((((Zi (rd (Zi (Zu x0 ([10]:List UInt8)) ([10]:List UInt8)) 0) ([32]:List UInt8)).length :Nat):Int)>1)) then (bif ((decide ((0:Int)<=1/\1<(((Zi (rd (Zi (Zu x0 ([10]:List UInt8)) ([10]:List UInt8)) 0) ([32]:List UInt8)).length :Nat):Int)))&&true) then (bif ((rd (Zi (rd (Zi (Zu x0 ([10]:List UInt8)) ([10]:List UInt8)) 0) ([32]:List UInt8)) 1) == ([]:List UInt8)) then (.ret [.nils,(.int .i64 12)]) else (bif (Up (rd (Zi (rd (Zi (Zu x0 ([10]:List UInt8)) ([10]:List UInt8)) 0) ([32]:List UInt8)) 1)) then (bif ((C4 (rd (Zi (rd (Zi (Zu x0 ([10]:List UInt8)) ([10]:List UInt8)) 0) ([32]:List UInt8)) 1)) != 0) then (.ret [.nils,(.int .i64 12)]) else (bif (decide (2<=(Zi (rd (Zi (Zu x0 ([10]:List UInt8)) ([10]:List UInt8)) 0) ([32]:List UInt8)).length)) then (bif (decide ((Zi (rd (Zi (Zu x0 ([10]:List UInt8)) ([10]:List UInt8)) 0) ([32]:List UInt8)).length <=(Zi (rd (Zi (Zu x0 ([10]:List UInt8)) ([10]:List UInt8)) 0) ([32]:List UInt8)).length)) then (bif (((((Zi (rd (Zi (Zu x0 ([10]:List UInt8)) ([10]:List UInt8)) 0) ([32]:List UInt8)).length - 2):Nat):Int) != 4) then (.ret [.nils,(.int .i64 12)]) else (.to (.h5))) else .stuck) else .stuck)) else .stuck)) else .stuck) else (bif ((rd (Zi (rd (Zi (Zu x0 ([10]:List UInt8)) ([10]:List UInt8)) 0) ([32]:List UInt8)) 0) == ([98,111,120]:List UInt8)) then (.ret [.nils,(.int .i64 12)]) else (.ret [.nils,(.int .i64 12)]))) else (bif ((rd (Zi (rd (Zi (Zu x0 ([10]:List UInt8)) ([10]:List UInt8)) 0) ([32]:List UInt8)) 0) == ([98,111,120]:List UInt8)) then (.ret [.nils,(.int .i64 12)]) else (.ret [.nils,(.int .i64 12)]))) else .stuck) else .stuck) else .stuck) else (.to (.h4)))
 | .h4 =>(bif (Yk ([]:List B4)) then (bif ((Ui ([]:List B4)) != 0) then (.ret [.nils,(.int .i64 (Ui ([]:List B4)))]) else (.ret [.nils,(.int .i64 0)])) else .stuck)
 | .h5 =>(bif (decide (0<((((Zi (rd (Zi (Zu x0 ([10]:List UInt8)) ([10]:List UInt8)) 0) ([32]:List UInt8)).length - 2):Nat):Int))) then (bif ((decide ((0:Int)<=0/\0<((((Zi (rd (Zi (Zu x0 ([10]:List UInt8)) ([10]:List UInt8)) 0) ([32]:List UInt8)).length - 2):Nat):Int)))&&true) then (bif (Wp (rd (Zi (rd (Zi (Zu x0 ([10]:List UInt8)) ([10]:List UInt8)) 0) ([32]:List UInt8)) 2)) then (bif (!(Jg (rd (Zi (rd (Zi (Zu x0 ([10]:List UInt8)) ([10]:List UInt8)) 0) ([32]:List UInt8)) 2))) then (.ret [.nils,(.int .i64 12)]) else (bif (Yd (Za (rd (Zi (rd (Zi (Zu x0 ([10]:List UInt8)) ([10]:List UInt8)) 0) ([32]:List UInt8)) 2))) then (bif (!((Xq (Za (rd (Zi (rd (Zi (Zu x0 ([10]:List UInt8)) ([10]:List UInt8)) 0) ([32]:List UInt8)) 2))) == (rd (Zi (rd (Zi (Zu x0 ([10]:List UInt8)) ([10]:List UInt8)) 0) ([32]:List UInt8)) 2))) then (.ret [.nils,(.int .i64 12)]) else (bif (decide ((Za (rd (Zi (rd (Zi (Zu x0 ([10]:List UInt8)) ([10]:List UInt8)) 0) ([32]:List UInt8)) 2))<(-9999999))) then (.ret [.nils,(.int .i64 12)]) else (bif (decide ((Za (rd (Zi (rd (Zi (Zu x0 ([10]:List UInt8)) ([10]:List UInt8)) 0) ([32]:List UInt8)) 2))>9999999)) then (.ret [.nils,(.int .i64 12)]) else (.to (.h6))))) else .stuck)) else .stuck) else .stuck) else (bif (decide ((0+1+1)*(80+1)<=Vd)) then (bif ((decide ((0:Int)<=1/\1<(((Zi (rd (Zi (Zu x0 ([10]:List UInt8)) ([10]:List UInt8)) 0) ([32]:List UInt8)).length :Nat):Int)))&&true) then (bif (decide ((0+1+1)*(16+1)<=Vd)) then (.to (.h7 ([(rd (Zi (rd (Zi (Zu x0 ([10]:List UInt8)) ([10]:List UInt8)) 0) ([32]:List UInt8)) 1)]:List (List UInt8)) 1 0 0 0 0 ([]:List R6) ([]:List B4))) else .stuck) else .stuck) else .stuck))
 | .h6 =>(bif (decide (1<((((Zi (rd (Zi (Zu x0 ([10]:List UInt8)) ([10]:List UInt8)) 0) ([32]:List UInt8)).length - 2):Nat):Int))) then (bif ((decide ((0:Int)<=1/\1<((((Zi (rd (Zi (Zu x0 ([10]:List UInt8)) ([10]:List UInt8)) 0) ([32]:List UInt8)).length - 2):Nat):Int)))&&true) then (bif (Wp (rd (Zi (rd (Zi (Zu x0 ([10]:List UInt8)) ([10]:List UInt8)) 0) ([32]:List UInt8)) 3)) then (bif (!(Jg (rd (Zi (rd (Zi (Zu x0 ([10]:List UInt8)) ([10]:List UInt8)) 0) ([32]:List UInt8)) 3))) then (.ret [.nils,(.int .i64 12)]) else (bif (Yd (Za (rd (Zi (rd (Zi (Zu x0 ([10]:List UInt8)) ([10]:List UInt8)) 0) ([32]:List UInt8)) 3))) then (bif (!((Xq (Za (rd (Zi (rd (Zi (Zu x0 ([10]:List UInt8)) ([10]:List UInt8)) 0) ([32]:List UInt8)) 3))) == (rd (Zi (rd (Zi (Zu x0 ([10]:List UInt8)) ([10]:List UInt8)) 0) ([32]:List UInt8)) 3))) then (.ret [.nils,(.int .i64 12)]) else (bif (decide ((Za (rd (Zi (rd (Zi (Zu x0 ([10]:List UInt8)) ([10]:List UInt8)) 0) ([32]:List UInt8)) 3))<(-9999999))) then (.ret [.nils,(.int .i64 12)]) else (bif (decide ((Za (rd (Zi (rd (Zi (Zu x0 ([10]:List UInt8)) ([10]:List UInt8)) 0) ([32]:List UInt8)) 3))>9999999)) then (.ret [.nils,(.int .i64 12)]) else (.to (.h8))))) else .stuck)) else .stuck) else .stuck) else (bif (decide ((Za (rd (Zi (rd (Zi (Zu x0 ([10]:List UInt8)) ([10]:List UInt8)) 0) ([32]:List UInt8)) 2))<0)) then (.ret [.nils,(.int .i64 12)]) else (bif (decide ((Za (rd (Zi (rd (Zi (Zu x0 ([10]:List UInt8)) ([10]:List UInt8)) 0) ([32]:List UInt8)) 2))>23)) then (.ret [.nils,(.int .i64 12)]) else (bif (decide ((0+1+1)*(80+1)<=Vd)) then (bif ((decide ((0:Int)<=1/\1<(((Zi (rd (Zi (Zu x0 ([10]:List UInt8)) ([10]:List UInt8)) 0) ([32]:List UInt8)).length :Nat):Int)))&&true) then (bif (decide ((0+1+1)*(16+1)<=Vd)) then (.to (.h7 ([(rd (Zi (rd (Zi (Zu x0 ([10]:List UInt8)) ([10]:List UInt8)) 0) ([32]:List UInt8)) 1)]:List (List UInt8)) 1 (wrap IntKind.u8 (Za (rd (Zi (rd (Zi (Zu x0 ([10]:List UInt8)) ([10]:List UInt8)) 0) ([32]:List UInt8)) 2))) 0 0 0 ([]:List R6) ([]:List B4))) else .stuck) else .stuck) else .stuck))))
 | .h7 v10 v57 bW cE cN cO cH bY=>(bif (decide (v57<(((Zi (Zu x0 ([10]:List UInt8)) ([10]:List UInt8)).length :Nat):Int))) then (bif ((decide (0<=v57/\v57<(((Zi (Zu x0 ([10]:List UInt8)) ([10]:List UInt8)).length :Nat):Int)))&&true) then (bif (Jq (rd (Zi (Zu x0 ([10]:List UInt8)) ([10]:List UInt8)) v57.toNat) ([32]:List UInt8)) then (bif ((decide ((0:Int)<=0/\0<(((Zi (rd (Zi (Zu x0 ([10]:List UInt8)) ([10]:List UInt8)) v57.toNat) ([32]:List UInt8)).length :Nat):Int)))&&true) then (bif ((rd (Zi (rd (Zi (Zu x0 ([10]:List UInt8)) ([10]:List UInt8)) v57.toNat) ([32]:List UInt8)) 0) == ([110,111,100,101]:List UInt8)) then (bif (decide ((((Zi (rd (Zi (Zu x0 ([10]:List UInt8)) ([10]:List UInt8)) v57.toNat) ([32]:List UInt8)).length :Nat):Int)>1)) then (bif ((decide ((0:Int)<=1/\1<(((Zi (rd (Zi (Zu x0 ([10]:List UInt8)) ([10]:List UInt8)) v57.toNat) ([32]:List UInt8)).length :Nat):Int)))&&true) then (bif ((rd (Zi (rd (Zi (Zu x0 ([10]:List UInt8)) ([10]:List UInt8)) v57.toNat) ([32]:List UInt8)) 1) == ([]:List UInt8)) then (.ret [.nils,(.int .i64 12)]) else (bif (Up (rd (Zi (rd (Zi (Zu x0 ([10]:List UInt8)) ([10]:List UInt8)) v57.toNat) ([32]:List UInt8)) 1)) then (bif ((C4 (rd (Zi (rd (Zi (Zu x0 ([10]:List UInt8)) ([10]:List UInt8)) v57.toNat) ([32]:List UInt8)) 1)) != 0) then (.ret [.nils,(.int .i64 12)]) else (bif (decide (2<=(Zi (rd (Zi (Zu x0 ([10]:List UInt8)) ([10]:List UInt8)) v57.toNat) ([32]:List UInt8)).length)) then (bif (decide ((Zi (rd (Zi (Zu x0 ([10]:List UInt8)) ([10]:List UInt8)) v57.toNat) ([32]:List UInt8)).length <=(Zi (rd (Zi (Zu x0 ([10]:List UInt8)) ([10]:List UInt8)) v57.toNat) ([32]:List UInt8)).length)) then (bif (((((Zi (rd (Zi (Zu x0 ([10]:List UInt8)) ([10]:List UInt8)) v57.toNat) ([32]:List UInt8)).length - 2):Nat):Int) != 4) then (.ret [.nils,(.int .i64 12)]) else (.to (.h9 (Ve (Zi (rd (Zi (Zu x0 ([10]:List UInt8)) ([10]:List UInt8)) v57.toNat) ([32]:List UInt8)) 2 ((Zi (rd (Zi (Zu x0 ([10]:List UInt8)) ([10]:List UInt8)) v57.toNat) ([32]:List UInt8)).length - 2)) ((((Zi (rd (Zi (Zu x0 ([10]:List UInt8)) ([10]:List UInt8)) v57.toNat) ([32]:List UInt8)).length - 2):Nat):Int) v10 (Zi (rd (Zi (Zu x0 ([10]:List UInt8)) ([10]:List UInt8)) v57.toNat) ([32]:List UInt8)) v57 (Ve (Zi (rd (Zi (Zu x0 ([10]:List UInt8)) ([10]:List UInt8)) v57.toNat) ([32]:List UInt8)) 2 ((Zi (rd (Zi (Zu x0 ([10]:List UInt8)) ([10]:List UInt8)) v57.toNat) ([32]:List UInt8)).length - 2)) bW cE cN cO cH bY))) else .stuck) else .stuck)) else .stuck)) else .stuck) else (bif ((rd (Zi (rd (Zi (Zu x0 ([10]:List UInt8)) ([10]:List UInt8)) v57.toNat) ([32]:List UInt8)) 0) == ([98,111,120]:List UInt8)) then (bif (decide ((((bY.length+1):Nat):Int)>0)) then (bif (decide (1<=(Zi (rd (Zi (Zu x0 ([10]:List UInt8)) ([10]:List UInt8)) v57.toNat) ([32]:List UInt8)).length)) then (bif (decide ((Zi (rd (Zi (Zu x0 ([10]:List UInt8)) ([10]:List UInt8)) v57.toNat) ([32]:List UInt8)).length <=(Zi (rd (Zi (Zu x0 ([10]:List UInt8)) ([10]:List UInt8)) v57.toNat) ([32]:List UInt8)).length)) then (bif (((((Zi (rd (Zi (Zu x0 ([10]:List UInt8)) ([10]:List UInt8)) v57.toNat) ([32]:List UInt8)).length - 1):Nat):Int) != 6) then (.ret [.nils,(.int .i64 12)]) else (.to (.h10 (Ve (Zi (rd (Zi (Zu x0 ([10]:List UInt8)) ([10]:List UInt8)) v57.toNat) ([32]:List UInt8)) 1 ((Zi (rd (Zi (Zu x0 ([10]:List UInt8)) ([10]:List UInt8)) v57.toNat) ([32]:List UInt8)).length - 1)) ((((Zi (rd (Zi (Zu x0 ([10]:List UInt8)) ([10]:List UInt8)) v57.toNat) ([32]:List UInt8)).length - 1):Nat):Int) (Ve (Zi (rd (Zi (Zu x0 ([10]:List UInt8)) ([10]:List UInt8)) v57.toNat) ([32]:List UInt8)) 1 ((Zi (rd (Zi (Zu x0 ([10]:List UInt8)) ([10]:List UInt8)) v57.toNat) ([32]:List UInt8)).length - 1)) v10 v57 (Ve (Zi (rd (Zi (Zu x0 ([10]:List UInt8)) ([10]:List UInt8)) v57.toNat) ([32]:List UInt8)) 1 ((Zi (rd (Zi (Zu x0 ([10]:List UInt8)) ([10]:List UInt8)) v57.toNat) ([32]:List UInt8)).length - 1)) bW cE cN cO cH bY))) else .stuck) else .stuck) else (.ret [.nils,(.int .i64 12)])) else (.ret [.nils,(.int .i64 12)]))) else (bif ((rd (Zi (rd (Zi (Zu x0 ([10]:List UInt8)) ([10]:List UInt8)) v57.toNat) ([32]:List UInt8)) 0) == ([98,111,120]:List UInt8)) then (bif (decide ((((bY.length+1):Nat):Int)>0)) then (bif (decide (1<=(Zi (rd (Zi (Zu x0 ([10]:List UInt8)) ([10]:List UInt8)) v57.toNat) ([32]:List UInt8)).length)) then (bif (decide ((Zi (rd (Zi (Zu x0 ([10]:List UInt8)) ([10]:List UInt8)) v57.toNat) ([32]:List UInt8)).length <=(Zi (rd (Zi (Zu x0 ([10]:List UInt8)) ([10]:List UInt8)) v57.toNat) ([32]:List UInt8)).length)) then (bif (((((Zi (rd (Zi (Zu x0 ([10]:List UInt8)) ([10]:List UInt8)) v57.toNat) ([32]:List UInt8)).length - 1):Nat):Int) != 6) then (.ret [.nils,(.int .i64 12)]) else (.to (.h10 (Ve (Zi (rd (Zi (Zu x0 ([10]:List UInt8)) ([10]:List UInt8)) v57.toNat) ([32]:List UInt8)) 1 ((Zi (rd (Zi (Zu x0 ([10]:List UInt8)) ([10]:List UInt8)) v57.toNat) ([32]:List UInt8)).length - 1)) ((((Zi (rd (Zi (Zu x0 ([10]:List UInt8)) ([10]:List UInt8)) v57.toNat) ([32]:List UInt8)).length - 1):Nat):Int) (Ve (Zi (rd (Zi (Zu x0 ([10]:List UInt8)) ([10]:List UInt8)) v57.toNat) ([32]:List UInt8)) 1 ((Zi (rd (Zi (Zu x0 ([10]:List UInt8)) ([10]:List UInt8)) v57.toNat) ([32]:List UInt8)).length - 1)) v10 v57 (Ve (Zi (rd (Zi (Zu x0 ([10]:List UInt8)) ([10]:List UInt8)) v57.toNat) ([32]:List UInt8)) 1 ((Zi (rd (Zi (Zu x0 ([10]:List UInt8)) ([10]:List UInt8)) v57.toNat) ([32]:List UInt8)).length - 1)) bW cE cN cO cH bY))) else .stuck) else .stuck) else (.ret [.nils,(.int .i64 12)])) else (.ret [.nils,(.int .i64 12)]))) else .stuck) else .stuck) else .stuck) else (.to (.h11 (bY++[(B4.mk ([]:List UInt8) 0 bW cE cN cO cH)]) v10 (v10.length:Int) 0 (Cq ([]:List (List UInt8×Int)) ([]:List UInt8) (-1)))))
 | .h8 =>(bif (decide (2<((((Zi (rd (Zi (Zu x0 ([10]:List UInt8)) ([10]:List UInt8)) 0) ([32]:List UInt8)).length - 2):Nat):Int))) then (bif ((decide ((0:Int)<=2/\2<((((Zi (rd (Zi (Zu x0 ([10]:List UInt8)) ([10]:List UInt8)) 0) ([32]:List UInt8)).length - 2):Nat):Int)))&&true) then (bif (Wp (rd (Zi (rd (Zi (Zu x0 ([10]:List UInt8)) ([10]:List UInt8)) 0) ([32]:List UInt8)) 4)) then (bif (!(Jg (rd (Zi (rd (Zi (Zu x0 ([10]:List UInt8)) ([10]:List UInt8)) 0) ([32]:List UInt8)) 4))) then (.ret [.nils,(.int .i64 12)]) else (bif (Yd (Za (rd (Zi (rd (Zi (Zu x0 ([10]:List UInt8)) ([10]:List UInt8)) 0) ([32]:List UInt8)) 4))) then (bif (!((Xq (Za (rd (Zi (rd (Zi (Zu x0 ([10]:List UInt8)) ([10]:List UInt8)) 0) ([32]:List UInt8)) 4))) == (rd (Zi (rd (Zi (Zu x0 ([10]:List UInt8)) ([10]:List UInt8)) 0) ([32]:List UInt8)) 4))) then (.ret [.nils,(.int .i64 12)]) else (bif (decide ((Za (rd (Zi (rd (Zi (Zu x0 ([10]:List UInt8)) ([10]:List UInt8)) 0) ([32]:List UInt8)) 4))<(-9999999))) then (.ret [.nils,(.int .i64 12)]) else (bif (decide ((Za (rd (Zi (rd (Zi (Zu x0 ([10]:List UInt8)) ([10]:List UInt8)) 0) ([32]:List UInt8)) 4))>9999999)) then (.ret [.nils,(.int .i64 12)]) else (.to (.h12))))) else .stuck)) else .stuck) else .stuck) else (bif (decide ((Za (rd (Zi (rd (Zi (Zu x0 ([10]:List UInt8)) ([10]:List UInt8)) 0) ([32]:List UInt8)) 2))<0)) then (.ret [.nils,(.int .i64 12)]) else (bif (decide ((Za (rd (Zi (rd (Zi (Zu x0 ([10]:List UInt8)) ([10]:List UInt8)) 0) ([32]:List UInt8)) 2))>23)) then (.ret [.nils,(.int .i64 12)]) else (bif (decide ((0+1+1)*(80+1)<=Vd)) then (bif ((decide ((0:Int)<=1/\1<(((Zi (rd (Zi (Zu x0 ([10]:List UInt8)) ([10]:List UInt8)) 0) ([32]:List UInt8)).length :Nat):Int)))&&true) then (bif (decide ((0+1+1)*(16+1)<=Vd)) then (.to (.h7 ([(rd (Zi (rd (Zi (Zu x0 ([10]:List UInt8)) ([10]:List UInt8)) 0) ([32]:List UInt8)) 1)]:List (List UInt8)) 1 (wrap IntKind.u8 (Za (rd (Zi (rd (Zi (Zu x0 ([10]:List UInt8)) ([10]:List UInt8)) 0) ([32]:List UInt8)) 2))) (Za (rd (Zi (rd (Zi (Zu x0 ([10]:List UInt8)) ([10]:List UInt8)) 0) ([32]:List UInt8)) 3)) 0 0 ([]:List R6) ([]:List B4))) else .stuck) else .stuck) else .stuck))))
 | .h9 v14 v15 aE aN bI cB aP aQ aR aS aL aF=>(bif (decide (0<v15)) then (bif ((decide ((0:Int)<=0/\0<(v14.length:Int)))&&true) then (bif (Wp (rd v14 0)) then (bif (!(Jg (rd v14 0))) then (.ret [.nils,(.int .i64 12)]) else (bif (Yd (Za (rd v14 0))) then (bif (!((Xq (Za (rd v14 0))) == (rd v14 0))) then (.ret [.nils,(.int .i64 12)]) else (bif (decide ((Za (rd v14 0))<(-9999999))) then (.ret [.nils,(.int .i64 12)]) else (bif (decide ((Za (rd v14 0))>9999999)) then (.ret [.nils,(.int .i64 12)]) else (.to (.h13 v14 v15 aE aN bI cB (Za (rd v14 0)) aP aQ aR aS aL aF))))) else .stuck)) else .stuck) else .stuck) else (bif (decide (((aF++[(B4.mk ([]:List UInt8) 0 aP aQ aR aS aL)]).length +1+1)*(80+1)<=Vd)) then (bif (Nat.beq 7 7&&(Nat.beq 7 7&&decide (0+(aF++[(B4.mk ([]:List UInt8) 0 aP aQ aR aS aL)]).length <=(aF++[(B4.mk ([]:List UInt8) 0 aP aQ aR aS aL)]).length))) then (bif ((decide ((0:Int)<=1/\1<(aN.length:Int)))&&true) then (bif (decide ((aE.length+1+1)*(16+1)<=Vd)) then (bif (Nat.beq 1 1&&(Nat.beq 1 1&&decide (0+aE.length<=aE.length))) then (.to (.h7 (aE++([(rd aN 1)]:List (List UInt8))) (wrap .i64 (bI+1)) 0 0 0 0 ([]:List R6) (aF++[(B4.mk ([]:List UInt8) 0 aP aQ aR aS aL)]))) else .stuck) else .stuck) else .stuck) else .stuck) else .stuck))
 | .h10 v14 v15 bX aV bM bK bA aM aT aY aJ aH=>(bif (decide (0<v15)) then (bif ((decide ((0:Int)<=0/\0<(v14.length:Int)))&&true) then (bif (Wp (rd v14 0)) then (bif (!(Jg (rd v14 0))) then (.ret [.nils,(.int .i64 12)]) else (bif (Yd (Za (rd v14 0))) then (bif (!((Xq (Za (rd v14 0))) == (rd v14 0))) then (.ret [.nils,(.int .i64 12)]) else (bif (decide ((Za (rd v14 0))<(-9999999))) then (.ret [.nils,(.int .i64 12)]) else (bif (decide ((Za (rd v14 0))>9999999)) then (.ret [.nils,(.int .i64 12)]) else (.to (.h14 v14 v15 bX aV bM bK (Za (rd v14 0)) bA aM aT aY aJ aH))))) else .stuck)) else .stuck) else .stuck) else (bif ((decide (0<=(wrap .i64 ((((aH.length+1):Nat):Int) - 1))/\(wrap .i64 ((((aH.length+1):Nat):Int) - 1))<(((aH.length+1):Nat):Int)))&&true) then (bif (Nat.beq (0+(Int.toNat (wrap .i64 ((((aH.length+1):Nat):Int) - 1)))) aH.length) then (bif (Nat.beq 6 6&&((decide (0+aJ.length=aJ.length))&&decide ((aJ.length+1+1)*(48+1)<=Vd))) then (bif (decide ((0+(Int.toNat (wrap .i64 ((((aH.length+1):Nat):Int) - 1))))<(aH.length+1))) then (.to (.h7 aV (wrap .i64 (bM+1)) bA aM aT aY (aJ++[(R6.mk 0 0 0 0 0 0)]) aH)) else .stuck) else .stuck) else .stuck) else .stuck))
 | .h11 v9 v158 v159 v160 aD=>(bif (decide (v160<v159)) then (bif ((decide (0<=v160/\v160<(v158.length:Int)))&&true) then (bif (decide ((0+v160.toNat)<v158.length)) then (.to (.h15 (rd v158 (0+v160.toNat)) (wrap .i64 ((((rd v158 (0+v160.toNat)).length :Nat):Int) - 1)) (rd v158 (0+v160.toNat)) v9 v160 (rd v158 (0+v160.toNat)) (rd v158 (0+v160.toNat)) v158 v159 v160 (rd v158 (0+v160.toNat)) aD)) else .stuck) else .stuck) else (bif (Nat.beq 7 7&&(decide (0+v9.length<=v9.length)&&Cz (Zz v9))) then (bif (Yk (Cd B4 (v9.length) (fun k=>(Zz v9) (0+k)))) then (bif ((Ui (Cd B4 (v9.length) (fun k=>(Zz v9) (0+k)))) != 0) then (.ret [.nils,(.int .i64 (Ui (Cd B4 (v9.length) (fun k=>(Zz v9) (0+k)))))]) else (.ret [(.dat v9.length (Zz v9)),(.int .i64 0)])) else .stuck) else .stuck))
 | .h12 =>(bif (decide (3<((((Zi (rd (Zi (Zu x0 ([10]:List UInt8)) ([10]:List UInt8)) 0) ([32]:List UInt8)).length - 2):Nat):Int))) then (bif ((decide ((0:Int)<=3/\3<((((Zi (rd (Zi (Zu x0 ([10]:List UInt8)) ([10]:List UInt8)) 0) ([32]:List UInt8)).length - 2):Nat):Int)))&&true) then (bif (Wp (rd (Zi (rd (Zi (Zu x0 ([10]:List UInt8)) ([10]:List UInt8)) 0) ([32]:List UInt8)) 5)) then (bif (!(Jg (rd (Zi (rd (Zi (Zu x0 ([10]:List UInt8)) ([10]:List UInt8)) 0) ([32]:List UInt8)) 5))) then (.ret [.nils,(.int .i64 12)]) else (bif (Yd (Za (rd (Zi (rd (Zi (Zu x0 ([10]:List UInt8)) ([10]:List UInt8)) 0) ([32]:List UInt8)) 5))) then (bif (!((Xq (Za (rd (Zi (rd (Zi (Zu x0 ([10]:List UInt8)) ([10]:List UInt8)) 0) ([32]:List UInt8)) 5))) == (rd (Zi (rd (Zi (Zu x0 ([10]:List UInt8)) ([10]:List UInt8)) 0) ([32]:List UInt8)) 5))) then (.ret [.nils,(.int .i64 12)]) else (bif (decide ((Za (rd (Zi (rd (Zi (Zu x0 ([10]:List UInt8)) ([10]:List UInt8)) 0) ([32]:List UInt8)) 5))<(-9999999))) then (.ret [.nils,(.int .i64 12)]) else (bif (decide ((Za (rd (Zi (rd (Zi (Zu x0 ([10]:List UInt8)) ([10]:List UInt8)) 0) ([32]:List UInt8)) 5))>9999999)) then (.ret [.nils,(.int .i64 12)]) else (.to (.h16))))) else .stuck)) else .stuck) else .stuck) else (bif (decide ((Za (rd (Zi (rd (Zi (Zu x0 ([10]:List UInt8)) ([10]:List UInt8)) 0) ([32]:List UInt8)) 2))<0)) then (.ret [.nils,(.int .i64 12)]) else (bif (decide ((Za (rd (Zi (rd (Zi (Zu x0 ([10]:List UInt8)) ([10]:List UInt8)) 0) ([32]:List UInt8)) 2))>23)) then (.ret [.nils,(.int .i64 12)]) else (bif (decide ((0+1+1)*(80+1)<=Vd)) then (bif ((decide ((0:Int)<=1/\1<(((Zi (rd (Zi (Zu x0 ([10]:List UInt8)) ([10]:List UInt8)) 0) ([32]:List UInt8)).length :Nat):Int)))&&true) then (bif (decide ((0+1+1)*(16+1)<=Vd)) then (.to (.h7 ([(rd (Zi (rd (Zi (Zu x0 ([10]:List UInt8)) ([10]:List UInt8)) 0) ([32]:List UInt8)) 1)]:List (List UInt8)) 1 (wrap IntKind.u8 (Za (rd (Zi (rd (Zi (Zu x0 ([10]:List UInt8)) ([10]:List UInt8)) 0) ([32]:List UInt8)) 2))) (Za (rd (Zi (rd (Zi (Zu x0 ([10]:List UInt8)) ([10]:List UInt8)) 0) ([32]:List UInt8)) 3)) (Za (rd (Zi (rd (Zi (Zu x0 ([10]:List UInt8)) ([10]:List UInt8)) 0) ([32]:List UInt8)) 4)) 0 ([]:List R6) ([]:List B4))) else .stuck) else .stuck) else .stuck))))
 | .h13 v14 v15 aE aN bI cB aD aP aQ aR aS aL aF=>(bif (decide (1<v15)) then (bif ((decide ((0:Int)<=1/\1<(v14.length:Int)))&&true) then (bif (Wp (rd v14 1)) then (bif (!(Jg (rd v14 1))) then (.ret [.nils,(.int .i64 12)]) else (bif (Yd (Za (rd v14 1))) then (bif (!((Xq (Za (rd v14 1))) == (rd v14 1))) then (.ret [.nils,(.int .i64 12)]) else (bif (decide ((Za (rd v14 1))<(-9999999))) then (.ret [.nils,(.int .i64 12)]) else (bif (decide ((Za (rd v14 1))>9999999)) then (.ret [.nils,(.int .i64 12)]) else (.to (.h17 v14 v15 aE aN bI cB aD (Za (rd v14 1)) aP aQ aR aS aL aF))))) else .stuck)) else .stuck) else .stuck) else (bif (decide (aD<0)) then (.ret [.nils,(.int .i64 12)]) else (bif (decide (aD>23)) then (.ret [.nils,(.int .i64 12)]) else (bif (decide (((aF++[(B4.mk ([]:List UInt8) 0 aP aQ aR aS aL)]).length +1+1)*(80+1)<=Vd)) then (bif (Nat.beq 7 7&&(Nat.beq 7 7&&decide (0+(aF++[(B4.mk ([]:List UInt8) 0 aP aQ aR aS aL)]).length <=(aF++[(B4.mk ([]:List UInt8) 0 aP aQ aR aS aL)]).length))) then (bif ((decide ((0:Int)<=1/\1<(aN.length:Int)))&&true) then (bif (decide ((aE.length+1+1)*(16+1)<=Vd)) then (bif (Nat.beq 1 1&&(Nat.beq 1 1&&decide (0+aE.length<=aE.length))) then (.to (.h7 (aE++([(rd aN 1)]:List (List UInt8))) (wrap .i64 (bI+1)) (wrap IntKind.u8 aD) 0 0 0 ([]:List R6) (aF++[(B4.mk ([]:List UInt8) 0 aP aQ aR aS aL)]))) else .stuck) else .stuck) else .stuck) else .stuck) else .stuck))))
 | .h14 v14 v15 bX aV bM bK aD bA aM aT aY aJ aH=>(bif (decide (1<v15)) then (bif ((decide ((0:Int)<=1/\1<(v14.length:Int)))&&true) then (bif (Wp (rd v14 1)) then (bif (!(Jg (rd v14 1))) then (.ret [.nils,(.int .i64 12)]) else (bif (Yd (Za (rd v14 1))) then (bif (!((Xq (Za (rd v14 1))) == (rd v14 1))) then (.ret [.nils,(.int .i64 12)]) else (bif (decide ((Za (rd v14 1))<(-9999999))) then (.ret [.nils,(.int .i64 12)]) else (bif (decide ((Za (rd v14 1))>9999999)) then (.ret [.nils,(.int .i64 12)]) else (.to (.h18 v14 v15 bX aV bM bK aD (Za (rd v14 1)) bA aM aT aY aJ aH))))) else .stuck)) else .stuck) else .stuck) else (bif ((decide (0<=(wrap .i64 ((((aH.length+1):Nat):Int) - 1))/\(wrap .i64 ((((aH.length+1):Nat):Int) - 1))<(((aH.length+1):Nat):Int)))&&true) then (bif (Nat.beq (0+(Int.toNat (wrap .i64 ((((aH.length+1):Nat):Int) - 1)))) aH.length) then (bif (Nat.beq 6 6&&((decide (0+aJ.length=aJ.length))&&decide ((aJ.length+1+1)*(48+1)<=Vd))) then (bif (decide ((0+(Int.toNat (wrap .i64 ((((aH.length+1):Nat):Int) - 1))))<(aH.length+1))) then (.to (.h7 aV (wrap .i64 (bM+1)) bA aM aT aY (aJ++[(R6.mk aD 0 0 0 0 0)]) aH)) else .stuck) else .stuck) else .stuck) else .stuck))
 | .h15 v0 v5 dV aB aA bB cG cK cY cZ dQ aD=>(bif (decide (v5>=0)) then (bif (decide (0<=v5/\v5<(v0.length:Int))) then (bif ((CW v0 v5.toNat) == 47) then (bif (decide (v5.toNat<=bB.length)) then (bif (decide (0<=v5)) then (bif (decide ((Int.toNat (wrap .i64 (v5+1)))<=bB.length)) then (bif (decide (0<=(wrap .i64 (v5+1)))) then (bif (!(Cp aD ((bB.drop 0).take v5.toNat))) then (.ret [.nils,(.int .i64 6)]) else (bif ((decide (0<=aA/\aA<(aB.length:Int)))&&true) then (bif (decide ((0+aA.toNat)<aB.length)) then (bif (!(Cp aD bB)) then (.to (.h11 ((aB.set (0+aA.toNat) (B4.mk (rd aB (0+aA.toNat)).n (getK 0 aD ((bB.drop 0).take v5.toNat)) (rd aB (0+aA.toNat)).t (rd aB (0+aA.toNat)).x (rd aB (0+aA.toNat)).y (rd aB (0+aA.toNat)).z (rd aB (0+aA.toNat)).s)).set (0+aA.toNat) (B4.mk ((bB.drop (Int.toNat (wrap .i64 (v5+1)))).take (bB.length - (Int.toNat (wrap .i64 (v5+1))))) (rd (aB.set (0+aA.toNat) (B4.mk (rd aB (0+aA.toNat)).n (getK 0 aD ((bB.drop 0).take v5.toNat)) (rd aB (0+aA.toNat)).t (rd aB (0+aA.toNat)).x (rd aB (0+aA.toNat)).y (rd aB (0+aA.toNat)).z (rd aB (0+aA.toNat)).s)) (0+aA.toNat)).a (rd (aB.set (0+aA.toNat) (B4.mk (rd aB (0+aA.toNat)).n (getK 0 aD ((bB.drop 0).take v5.toNat)) (rd aB (0+aA.toNat)).t (rd aB (0+aA.toNat)).x (rd aB (0+aA.toNat)).y (rd aB (0+aA.toNat)).z (rd aB (0+aA.toNat)).s)) (0+aA.toNat)).t (rd (aB.set (0+aA.toNat) (B4.mk (rd aB (0+aA.toNat)).n (getK 0 aD ((bB.drop 0).take v5.toNat)) (rd aB (0+aA.toNat)).t (rd aB (0+aA.toNat)).x (rd aB (0+aA.toNat)).y (rd aB (0+aA.toNat)).z (rd aB (0+aA.toNat)).s)) (0+aA.toNat)).x (rd (aB.set (0+aA.toNat) (B4.mk (rd aB (0+aA.toNat)).n (getK 0 aD ((bB.drop 0).take v5.toNat)) (rd aB (0+aA.toNat)).t (rd aB (0+aA.toNat)).x (rd aB (0+aA.toNat)).y (rd aB (0+aA.toNat)).z (rd aB (0+aA.toNat)).s)) (0+aA.toNat)).y (rd (aB.set (0+aA.toNat) (B4.mk (rd aB (0+aA.toNat)).n (getK 0 aD ((bB.drop 0).take v5.toNat)) (rd aB (0+aA.toNat)).t (rd aB (0+aA.toNat)).x (rd aB (0+aA.toNat)).y (rd aB (0+aA.toNat)).z (rd aB (0+aA.toNat)).s)) (0+aA.toNat)).z (rd (aB.set (0+aA.toNat) (B4.mk (rd aB (0+aA.toNat)).n (getK 0 aD ((bB.drop 0).take v5.toNat)) (rd aB (0+aA.toNat)).t (rd aB (0+aA.toNat)).x (rd aB (0+aA.toNat)).y (rd aB (0+aA.toNat)).z (rd aB (0+aA.toNat)).s)) (0+aA.toNat)).s)) cK cY (wrap .i64 (cZ+1)) (Cq aD bB aA))) else (.to (.h11 ((aB.set (0+aA.toNat) (B4.mk (rd aB (0+aA.toNat)).n (getK 0 aD ((bB.drop 0).take v5.toNat)) (rd aB (0+aA.toNat)).t (rd aB (0+aA.toNat)).x (rd aB (0+aA.toNat)).y (rd aB (0+aA.toNat)).z (rd aB (0+aA.toNat)).s)).set (0+aA.toNat) (B4.mk ((bB.drop (Int.toNat (wrap .i64 (v5+1)))).take (bB.length - (Int.toNat (wrap .i64 (v5+1))))) (rd (aB.set (0+aA.toNat) (B4.mk (rd aB (0+aA.toNat)).n (getK 0 aD ((bB.drop 0).take v5.toNat)) (rd aB (0+aA.toNat)).t (rd aB (0+aA.toNat)).x (rd aB (0+aA.toNat)).y (rd aB (0+aA.toNat)).z (rd aB (0+aA.toNat)).s)) (0+aA.toNat)).a (rd (aB.set (0+aA.toNat) (B4.mk (rd aB (0+aA.toNat)).n (getK 0 aD ((bB.drop 0).take v5.toNat)) (rd aB (0+aA.toNat)).t (rd aB (0+aA.toNat)).x (rd aB (0+aA.toNat)).y (rd aB (0+aA.toNat)).z (rd aB (0+aA.toNat)).s)) (0+aA.toNat)).t (rd (aB.set (0+aA.toNat) (B4.mk (rd aB (0+aA.toNat)).n (getK 0 aD ((bB.drop 0).take v5.toNat)) (rd aB (0+aA.toNat)).t (rd aB (0+aA.toNat)).x (rd aB (0+aA.toNat)).y (rd aB (0+aA.toNat)).z (rd aB (0+aA.toNat)).s)) (0+aA.toNat)).x (rd (aB.set (0+aA.toNat) (B4.mk (rd aB (0+aA.toNat)).n (getK 0 aD ((bB.drop 0).take v5.toNat)) (rd aB (0+aA.toNat)).t (rd aB (0+aA.toNat)).x (rd aB (0+aA.toNat)).y (rd aB (0+aA.toNat)).z (rd aB (0+aA.toNat)).s)) (0+aA.toNat)).y (rd (aB.set (0+aA.toNat) (B4.mk (rd aB (0+aA.toNat)).n (getK 0 aD ((bB.drop 0).take v5.toNat)) (rd aB (0+aA.toNat)).t (rd aB (0+aA.toNat)).x (rd aB (0+aA.toNat)).y (rd aB (0+aA.toNat)).z (rd aB (0+aA.toNat)).s)) (0+aA.toNat)).z (rd (aB.set (0+aA.toNat) (B4.mk (rd aB (0+aA.toNat)).n (getK 0 aD ((bB.drop 0).take v5.toNat)) (rd aB (0+aA.toNat)).t (rd aB (0+aA.toNat)).x (rd aB (0+aA.toNat)).y (rd aB (0+aA.toNat)).z (rd aB (0+aA.toNat)).s)) (0+aA.toNat)).s)) cK cY (wrap .i64 (cZ+1)) aD))) else .stuck) else .stuck)) else .stuck) else .stuck) else .stuck) else .stuck) else (.to (.h15 v0 (wrap .i64 (v5 - 1)) dV aB aA bB cG cK cY cZ dQ aD))) else .stuck) else (bif (!(Cp aD ([]:List UInt8))) then (.ret [.nils,(.int .i64 6)]) else (bif ((decide (0<=aA/\aA<(aB.length:Int)))&&true) then (bif (decide ((0+aA.toNat)<aB.length)) then (bif (!(Cp aD bB)) then (.to (.h11 ((aB.set (0+aA.toNat) (B4.mk (rd aB (0+aA.toNat)).n (getK 0 aD ([]:List UInt8)) (rd aB (0+aA.toNat)).t (rd aB (0+aA.toNat)).x (rd aB (0+aA.toNat)).y (rd aB (0+aA.toNat)).z (rd aB (0+aA.toNat)).s)).set (0+aA.toNat) (B4.mk cG (rd (aB.set (0+aA.toNat) (B4.mk (rd aB (0+aA.toNat)).n (getK 0 aD ([]:List UInt8)) (rd aB (0+aA.toNat)).t (rd aB (0+aA.toNat)).x (rd aB (0+aA.toNat)).y (rd aB (0+aA.toNat)).z (rd aB (0+aA.toNat)).s)) (0+aA.toNat)).a (rd (aB.set (0+aA.toNat) (B4.mk (rd aB (0+aA.toNat)).n (getK 0 aD ([]:List UInt8)) (rd aB (0+aA.toNat)).t (rd aB (0+aA.toNat)).x (rd aB (0+aA.toNat)).y (rd aB (0+aA.toNat)).z (rd aB (0+aA.toNat)).s)) (0+aA.toNat)).t (rd (aB.set (0+aA.toNat) (B4.mk (rd aB (0+aA.toNat)).n (getK 0 aD ([]:List UInt8)) (rd aB (0+aA.toNat)).t (rd aB (0+aA.toNat)).x (rd aB (0+aA.toNat)).y (rd aB (0+aA.toNat)).z (rd aB (0+aA.toNat)).s)) (0+aA.toNat)).x (rd (aB.set (0+aA.toNat) (B4.mk (rd aB (0+aA.toNat)).n (getK 0 aD ([]:List UInt8)) (rd aB (0+aA.toNat)).t (rd aB (0+aA.toNat)).x (rd aB (0+aA.toNat)).y (rd aB (0+aA.toNat)).z (rd aB (0+aA.toNat)).s)) (0+aA.toNat)).y (rd (aB.set (0+aA.toNat) (B4.mk (rd aB (0+aA.toNat)).n (getK 0 aD ([]:List UInt8)) (rd aB (0+aA.toNat)).t (rd aB (0+aA.toNat)).x (rd aB (0+aA.toNat)).y (rd aB (0+aA.toNat)).z (rd aB (0+aA.toNat)).s)) (0+aA.toNat)).z (rd (aB.set (0+aA.toNat) (B4.mk (rd aB (0+aA.toNat)).n (getK 0 aD ([]:List UInt8)) (rd aB (0+aA.toNat)).t (rd aB (0+aA.toNat)).x (rd aB (0+aA.toNat)).y (rd aB (0+aA.toNat)).z (rd aB (0+aA.toNat)).s)) (0+aA.toNat)).s)) cK cY (wrap .i64 (cZ+1)) (Cq aD bB aA))) else (.to (.h11 ((aB.set (0+aA.toNat) (B4.mk (rd aB (0+aA.toNat)).n (getK 0 aD ([]:List UInt8)) (rd aB (0+aA.toNat)).t (rd aB (0+aA.toNat)).x (rd aB (0+aA.toNat)).y (rd aB (0+aA.toNat)).z (rd aB (0+aA.toNat)).s)).set (0+aA.toNat) (B4.mk cG (rd (aB.set (0+aA.toNat) (B4.mk (rd aB (0+aA.toNat)).n (getK 0 aD ([]:List UInt8)) (rd aB (0+aA.toNat)).t (rd aB (0+aA.toNat)).x (rd aB (0+aA.toNat)).y (rd aB (0+aA.toNat)).z (rd aB (0+aA.toNat)).s)) (0+aA.toNat)).a (rd (aB.set (0+aA.toNat) (B4.mk (rd aB (0+aA.toNat)).n (getK 0 aD ([]:List UInt8)) (rd aB (0+aA.toNat)).t (rd aB (0+aA.toNat)).x (rd aB (0+aA.toNat)).y (rd aB (0+aA.toNat)).z (rd aB (0+aA.toNat)).s)) (0+aA.toNat)).t (rd (aB.set (0+aA.toNat) (B4.mk (rd aB (0+aA.toNat)).n (getK 0 aD ([]:List UInt8)) (rd aB (0+aA.toNat)).t (rd aB (0+aA.toNat)).x (rd aB (0+aA.toNat)).y (rd aB (0+aA.toNat)).z (rd aB (0+aA.toNat)).s)) (0+aA.toNat)).x (rd (aB.set (0+aA.toNat) (B4.mk (rd aB (0+aA.toNat)).n (getK 0 aD ([]:List UInt8)) (rd aB (0+aA.toNat)).t (rd aB (0+aA.toNat)).x (rd aB (0+aA.toNat)).y (rd aB (0+aA.toNat)).z (rd aB (0+aA.toNat)).s)) (0+aA.toNat)).y (rd (aB.set (0+aA.toNat) (B4.mk (rd aB (0+aA.toNat)).n (getK 0 aD ([]:List UInt8)) (rd aB (0+aA.toNat)).t (rd aB (0+aA.toNat)).x (rd aB (0+aA.toNat)).y (rd aB (0+aA.toNat)).z (rd aB (0+aA.toNat)).s)) (0+aA.toNat)).z (rd (aB.set (0+aA.toNat) (B4.mk (rd aB (0+aA.toNat)).n (getK 0 aD ([]:List UInt8)) (rd aB (0+aA.toNat)).t (rd aB (0+aA.toNat)).x (rd aB (0+aA.toNat)).y (rd aB (0+aA.toNat)).z (rd aB (0+aA.toNat)).s)) (0+aA.toNat)).s)) cK cY (wrap .i64 (cZ+1)) aD))) else .stuck) else .stuck)))
 | .h16 =>(bif (decide (4<((((Zi (rd (Zi (Zu x0 ([10]:List UInt8)) ([10]:List UInt8)) 0) ([32]:List UInt8)).length - 2):Nat):Int))) then (bif ((decide ((0:Int)<=4/\4<((((Zi (rd (Zi (Zu x0 ([10]:List UInt8)) ([10]:List UInt8)) 0) ([32]:List UInt8)).length - 2):Nat):Int)))&&true) then (bif (Wp (rd (Zi (rd (Zi (Zu x0 ([10]:List UInt8)) ([10]:List UInt8)) 0) ([32]:List UInt8)) 6)) then (bif (!(Jg (rd (Zi (rd (Zi (Zu x0 ([10]:List UInt8)) ([10]:List UInt8)) 0) ([32]:List UInt8)) 6))) then (.ret [.nils,(.int .i64 12)]) else (bif (Yd (Za (rd (Zi (rd (Zi (Zu x0 ([10]:List UInt8)) ([10]:List UInt8)) 0) ([32]:List UInt8)) 6))) then (bif (!((Xq (Za (rd (Zi (rd (Zi (Zu x0 ([10]:List UInt8)) ([10]:List UInt8)) 0) ([32]:List UInt8)) 6))) == (rd (Zi (rd (Zi (Zu x0 ([10]:List UInt8)) ([10]:List UInt8)) 0) ([32]:List UInt8)) 6))) then (.ret [.nils,(.int .i64 12)]) else (bif (decide ((Za (rd (Zi (rd (Zi (Zu x0 ([10]:List UInt8)) ([10]:List UInt8)) 0) ([32]:List UInt8)) 6))<(-9999999))) then (.ret [.nils,(.int .i64 12)]) else (bif (decide ((Za (rd (Zi (rd (Zi (Zu x0 ([10]:List UInt8)) ([10]:List UInt8)) 0) ([32]:List UInt8)) 6))>9999999)) then (.ret [.nils,(.int .i64 12)]) else .stuck))) else .stuck)) else .stuck) else .stuck) else (bif (decide ((Za (rd (Zi (rd (Zi (Zu x0 ([10]:List UInt8)) ([10]:List UInt8)) 0) ([32]:List UInt8)) 2))<0)) then (.ret [.nils,(.int .i64 12)]) else (bif (decide ((Za (rd (Zi (rd (Zi (Zu x0 ([10]:List UInt8)) ([10]:List UInt8)) 0) ([32]:List UInt8)) 2))>23)) then (.ret [.nils,(.int .i64 12)]) else (bif (decide ((0+1+1)*(80+1)<=Vd)) then (bif ((decide ((0:Int)<=1/\1<(((Zi (rd (Zi (Zu x0 ([10]:List UInt8)) ([10]:List UInt8)) 0) ([32]:List UInt8)).length :Nat):Int)))&&true) then (bif (decide ((0+1+1)*(16+1)<=Vd)) then (.to (.h7 ([(rd (Zi (rd (Zi (Zu x0 ([10]:List UInt8)) ([10]:List UInt8)) 0) ([32]:List UInt8)) 1)]:List (List UInt8)) 1 (wrap IntKind.u8 (Za (rd (Zi (rd (Zi (Zu x0 ([10]:List UInt8)) ([10]:List UInt8)) 0) ([32]:List UInt8)) 2))) (Za (rd (Zi (rd (Zi (Zu x0 ([10]:List UInt8)) ([10]:List UInt8)) 0) ([32]:List UInt8)) 3)) (Za (rd (Zi (rd (Zi (Zu x0 ([10]:List UInt8)) ([10]:List UInt8)) 0) ([32]:List UInt8)) 4)) (Za (rd (Zi (rd (Zi (Zu x0 ([10]:List UInt8)) ([10]:List UInt8)) 0) ([32]:List UInt8)) 5)) ([]:List R6) ([]:List B4))) else .stuck) else .stuck) else .stuck))))
 | .h17 v14 v15 aE aN bI cB aD aM aP aQ aR aS aL aF=>(bif (decide (2<v15)) then (bif ((decide ((0:Int)<=2/\2<(v14.length:Int)))&&true) then (bif (Wp (rd v14 2)) then (bif (!(Jg (rd v14 2))) then (.ret [.nils,(.int .i64 12)]) else (bif (Yd (Za (rd v14 2))) then (bif (!((Xq (Za (rd v14 2))) == (rd v14 2))) then (.ret [.nils,(.int .i64 12)]) else (bif (decide ((Za (rd v14 2))<(-9999999))) then (.ret [.nils,(.int .i64 12)]) else (bif (decide ((Za (rd v14 2))>9999999)) then (.ret [.nils,(.int .i64 12)]) else (.to (.h19 v14 v15 aE aN bI cB aD aM (Za (rd v14 2)) aP aQ aR aS aL aF))))) else .stuck)) else .stuck) else .stuck) else (bif (decide (aD<0)) then (.ret [.nils,(.int .i64 12)]) else (bif (decide (aD>23)) then (.ret [.nils,(.int .i64 12)]) else (bif (decide (((aF++[(B4.mk ([]:List UInt8) 0 aP aQ aR aS aL)]).length +1+1)*(80+1)<=Vd)) then (bif (Nat.beq 7 7&&(Nat.beq 7 7&&decide (0+(aF++[(B4.mk ([]:List UInt8) 0 aP aQ aR aS aL)]).length <=(aF++[(B4.mk ([]:List UInt8) 0 aP aQ aR aS aL)]).length))) then (bif ((decide ((0:Int)<=1/\1<(aN.length:Int)))&&true) then (bif (decide ((aE.length+1+1)*(16+1)<=Vd)) then (bif (Nat.beq 1 1&&(Nat.beq 1 1&&decide (0+aE.length<=aE.length))) then (.to (.h7 (aE++([(rd aN 1)]:List (List UInt8))) (wrap .i64 (bI+1)) (wrap IntKind.u8 aD) aM 0 0 ([]:List R6) (aF++[(B4.mk ([]:List UInt8) 0 aP aQ aR aS aL)]))) else .stuck) else .stuck) else .stuck) else .stuck) else .stuck))))
 | .h18 v14 v15 bX aV bM bK aD bG bA aM aT aY aJ aH=>(bif (decide (2<v15)) then (bif ((decide ((0:Int)<=2/\2<(v14.length:Int)))&&true) then (bif (Wp (rd v14 2)) then (bif (!(Jg (rd v14 2))) then (.ret [.nils,(.int .i64 12)]) else (bif (Yd (Za (rd v14 2))) then (bif (!((Xq (Za (rd v14 2))) == (rd v14 2))) then (.ret [.nils,(.int .i64 12)]) else (bif (decide ((Za (rd v14 2))<(-9999999))) then (.ret [.nils,(.int .i64 12)]) else (bif (decide ((Za (rd v14 2))>9999999)) then (.ret [.nils,(.int .i64 12)]) else (.to (.h20 v14 v15 bX aV bM bK aD bG (Za (rd v14 2)) bA aM aT aY aJ aH))))) else .stuck)) else .stuck) else .stuck) else (bif ((decide (0<=(wrap .i64 ((((aH.length+1):Nat):Int) - 1))/\(wrap .i64 ((((aH.length+1):Nat):Int) - 1))<(((aH.length+1):Nat):Int)))&&true) then (bif (Nat.beq (0+(Int.toNat (wrap .i64 ((((aH.length+1):Nat):Int) - 1)))) aH.length) then (bif (Nat.beq 6 6&&((decide (0+aJ.length=aJ.length))&&decide ((aJ.length+1+1)*(48+1)<=Vd))) then (bif (decide ((0+(Int.toNat (wrap .i64 ((((aH.length+1):Nat):Int) - 1))))<(aH.length+1))) then (.to (.h7 aV (wrap .i64 (bM+1)) bA aM aT aY (aJ++[(R6.mk aD bG 0 0 0 0)]) aH)) else .stuck) else .stuck) else .stuck) else .stuck))
 | .h19 v14 v15 aE aN bI cB aD aM aT aP aQ aR aS aL aF=>(bif (decide (3<v15)) then (bif ((decide ((0:Int)<=3/\3<(v14.length:Int)))&&true) then (bif (Wp (rd v14 3)) then (bif (!(Jg (rd v14 3))) then (.ret [.nils,(.int .i64 12)]) else (bif (Yd (Za (rd v14 3))) then (bif (!((Xq (Za (rd v14 3))) == (rd v14 3))) then (.ret [.nils,(.int .i64 12)]) else (bif (decide ((Za (rd v14 3))<(-9999999))) then (.ret [.nils,(.int .i64 12)]) else (bif (decide ((Za (rd v14 3))>9999999)) then (.ret [.nils,(.int .i64 12)]) else (.to (.h21 v14 v15 aE aN bI cB aD aM aT (Za (rd v14 3)) aP aQ aR aS aL aF))))) else .stuck)) else .stuck) else .stuck) else (bif (decide (aD<0)) then (.ret [.nils,(.int .i64 12)]) else (bif (decide (aD>23)) then (.ret [.nils,(.int .i64 12)]) else (bif (decide (((aF++[(B4.mk ([]:List UInt8) 0 aP aQ aR aS aL)]).length +1+1)*(80+1)<=Vd)) then (bif (Nat.beq 7 7&&(Nat.beq 7 7&&decide (0+(aF++[(B4.mk ([]:List UInt8) 0 aP aQ aR aS aL)]).length <=(aF++[(B4.mk ([]:List UInt8) 0 aP aQ aR aS aL)]).length))) then (bif ((decide ((0:Int)<=1/\1<(aN.length:Int)))&&true) then (bif (decide ((aE.length+1+1)*(16+1)<=Vd)) then (bif (Nat.beq 1 1&&(Nat.beq 1 1&&decide (0+aE.length<=aE.length))) then (.to (.h7 (aE++([(rd aN 1)]:List (List UInt8))) (wrap .i64 (bI+1)) (wrap IntKind.u8 aD) aM aT 0 ([]:List R6) (aF++[(B4.mk ([]:List UInt8) 0 aP aQ aR aS aL)]))) else .stuck) else .stuck) else .stuck) else .stuck) else .stuck))))
 | .h20 v14 v15 bX aV bM bK aD bG bN bA aM aT aY aJ aH=>(bif (decide (3<v15)) then (bif ((decide ((0:Int)<=3/\3<(v14.length:Int)))&&true) then (bif (Wp (rd v14 3)) then (bif (!(Jg (rd v14 3))) then (.ret [.nils,(.int .i64 12)]) else (bif (Yd (Za (rd v14 3))) then (bif (!((Xq (Za (rd v14 3))) == (rd v14 3))) then (.ret [.nils,(.int .i64 12)]) else (bif (decide ((Za (rd v14 3))<(-9999999))) then (.ret [.nils,(.int .i64 12)]) else (bif (decide ((Za (rd v14 3))>9999999)) then (.ret [.nils,(.int .i64 12)]) else (.to (.h22 v14 v15 bX aV bM bK aD bG bN (Za (rd v14 3)) bA aM aT aY aJ aH))))) else .stuck)) else .stuck) else .stuck) else (bif ((decide (0<=(wrap .i64 ((((aH.length+1):Nat):Int) - 1))/\(wrap .i64 ((((aH.length+1):Nat):Int) - 1))<(((aH.length+1):Nat):Int)))&&true) then (bif (Nat.beq (0+(Int.toNat (wrap .i64 ((((aH.length+1):Nat):Int) - 1)))) aH.length) then (bif (Nat.beq 6 6&&((decide (0+aJ.length=aJ.length))&&decide ((aJ.length+1+1)*(48+1)<=Vd))) then (bif (decide ((0+(Int.toNat (wrap .i64 ((((aH.length+1):Nat):Int) - 1))))<(aH.length+1))) then (.to (.h7 aV (wrap .i64 (bM+1)) bA aM aT aY (aJ++[(R6.mk aD bG bN 0 0 0)]) aH)) else .stuck) else .stuck) else .stuck) else .stuck))
 | .h21 v14 v15 aE aN bI cB aD aM aT aY aP aQ aR aS aL aF=>(bif (decide (4<v15)) then (bif ((decide ((0:Int)<=4/\4<(v14.length:Int)))&&true) then (bif (Wp (rd v14 4)) then (bif (!(Jg (rd v14 4))) then (.ret [.nils,(.int .i64 12)]) else (bif (Yd (Za (rd v14 4))) then (bif (!((Xq (Za (rd v14 4))) == (rd v14 4))) then (.ret [.nils,(.int .i64 12)]) else (bif (decide ((Za (rd v14 4))<(-9999999))) then (.ret [.nils,(.int .i64 12)]) else (bif (decide ((Za (rd v14 4))>9999999)) then (.ret [.nils,(.int .i64 12)]) else .stuck))) else .stuck)) else .stuck) else .stuck) else (bif (decide (aD<0)) then (.ret [.nils,(.int .i64 12)]) else (bif (decide (aD>23)) then (.ret [.nils,(.int .i64 12)]) else (bif (decide (((aF++[(B4.mk ([]:List UInt8) 0 aP aQ aR aS aL)]).length +1+1)*(80+1)<=Vd)) then (bif (Nat.beq 7 7&&(Nat.beq 7 7&&decide (0+(aF++[(B4.mk ([]:List UInt8) 0 aP aQ aR aS aL)]).length <=(aF++[(B4.mk ([]:List UInt8) 0 aP aQ aR aS aL)]).length))) then (bif ((decide ((0:Int)<=1/\1<(aN.length:Int)))&&true) then (bif (decide ((aE.length+1+1)*(16+1)<=Vd)) then (bif (Nat.beq 1 1&&(Nat.beq 1 1&&decide (0+aE.length<=aE.length))) then (.to (.h7 (aE++([(rd aN 1)]:List (List UInt8))) (wrap .i64 (bI+1)) (wrap IntKind.u8 aD) aM aT aY ([]:List R6) (aF++[(B4.mk ([]:List UInt8) 0 aP aQ aR aS aL)]))) else .stuck) else .stuck) else .stuck) else .stuck) else .stuck))))
 | .h22 v14 v15 bX aV bM bK aD bG bN bV bA aM aT aY aJ aH=>(bif (decide (4<v15)) then (bif ((decide ((0:Int)<=4/\4<(v14.length:Int)))&&true) then (bif (Wp (rd v14 4)) then (bif (!(Jg (rd v14 4))) then (.ret [.nils,(.int .i64 12)]) else (bif (Yd (Za (rd v14 4))) then (bif (!((Xq (Za (rd v14 4))) == (rd v14 4))) then (.ret [.nils,(.int .i64 12)]) else (bif (decide ((Za (rd v14 4))<(-9999999))) then (.ret [.nils,(.int .i64 12)]) else (bif (decide ((Za (rd v14 4))>9999999)) then (.ret [.nils,(.int .i64 12)]) else (.to (.h23 v14 v15 bX aV bM bK aD bG bN bV (Za (rd v14 4)) bA aM aT aY aJ aH))))) else .stuck)) else .stuck) else .stuck) else (bif ((decide (0<=(wrap .i64 ((((aH.length+1):Nat):Int) - 1))/\(wrap .i64 ((((aH.length+1):Nat):Int) - 1))<(((aH.length+1):Nat):Int)))&&true) then (bif (Nat.beq (0+(Int.toNat (wrap .i64 ((((aH.length+1):Nat):Int) - 1)))) aH.length) then (bif (Nat.beq 6 6&&((decide (0+aJ.length=aJ.length))&&decide ((aJ.length+1+1)*(48+1)<=Vd))) then (bif (decide ((0+(Int.toNat (wrap .i64 ((((aH.length+1):Nat):Int) - 1))))<(aH.length+1))) then (.to (.h7 aV (wrap .i64 (bM+1)) bA aM aT aY (aJ++[(R6.mk aD bG bN bV 0 0)]) aH)) else .stuck) else .stuck) else .stuck) else .stuck))
 | .h23 v14 v15 bX aV bM bK aD bG bN bV cR bA aM aT aY aJ aH=>(bif (decide (5<v15)) then (bif ((decide ((0:Int)<=5/\5<(v14.length:Int)))&&true) then (bif (Wp (rd v14 5)) then (bif (!(Jg (rd v14 5))) then (.ret [.nils,(.int .i64 12)]) else (bif (Yd (Za (rd v14 5))) then (bif (!((Xq (Za (rd v14 5))) == (rd v14 5))) then (.ret [.nils,(.int .i64 12)]) else (bif (decide ((Za (rd v14 5))<(-9999999))) then (.ret [.nils,(.int .i64 12)]) else (bif (decide ((Za (rd v14 5))>9999999)) then (.ret [.nils,(.int .i64 12)]) else (.to (.h24 v14 v15 bX aV bM bK aD bG bN bV cR (Za (rd v14 5)) bA aM aT aY aJ aH))))) else .stuck)) else .stuck) else .stuck) else (bif ((decide (0<=(wrap .i64 ((((aH.length+1):Nat):Int) - 1))/\(wrap .i64 ((((aH.length+1):Nat):Int) - 1))<(((aH.length+1):Nat):Int)))&&true) then (bif (Nat.beq (0+(Int.toNat (wrap .i64 ((((aH.length+1):Nat):Int) - 1)))) aH.length) then (bif (Nat.beq 6 6&&((decide (0+aJ.length=aJ.length))&&decide ((aJ.length+1+1)*(48+1)<=Vd))) then (bif (decide ((0+(Int.toNat (wrap .i64 ((((aH.length+1):Nat):Int) - 1))))<(aH.length+1))) then (.to (.h7 aV (wrap .i64 (bM+1)) bA aM aT aY (aJ++[(R6.mk aD bG bN bV cR 0)]) aH)) else .stuck) else .stuck) else .stuck) else .stuck))
 | .h24 v14 v15 bX aV bM bK aD bG bN bV cR dJ bA aM aT aY aJ aH=>(bif (decide (6<v15)) then (bif ((decide ((0:Int)<=6/\6<(v14.length:Int)))&&true) then (bif (Wp (rd v14 6)) then (bif (!(Jg (rd v14 6))) then (.ret [.nils,(.int .i64 12)]) else (bif (Yd (Za (rd v14 6))) then (bif (!((Xq (Za (rd v14 6))) == (rd v14 6))) then (.ret [.nils,(.int .i64 12)]) else (bif (decide ((Za (rd v14 6))<(-9999999))) then (.ret [.nils,(.int .i64 12)]) else (bif (decide ((Za (rd v14 6))>9999999)) then (.ret [.nils,(.int .i64 12)]) else .stuck))) else .stuck)) else .stuck) else .stuck) else (bif ((decide (0<=(wrap .i64 ((((aH.length+1):Nat):Int) - 1))/\(wrap .i64 ((((aH.length+1):Nat):Int) - 1))<(((aH.length+1):Nat):Int)))&&true) then (bif (Nat.beq (0+(Int.toNat (wrap .i64 ((((aH.length+1):Nat):Int) - 1)))) aH.length) then (bif (Nat.beq 6 6&&((decide (0+aJ.length=aJ.length))&&decide ((aJ.length+1+1)*(48+1)<=Vd))) then (bif (decide ((0+(Int.toNat (wrap .i64 ((((aH.length+1):Nat):Int) - 1))))<(aH.length+1))) then (.to (.h7 aV (wrap .i64 (bM+1)) bA aM aT aY (aJ++[(R6.mk aD bG bN bV cR dJ)]) aH)) else .stuck) else .stuck) else .stuck) else .stuck))
def LZ (x0:List UInt8):Xu CH:=(bif (x0 == ([]:List UInt8)) then (.to (.h0)) else (bif (Ks x0 ([10]:List UInt8)) then (bif (Jq (Zu x0 ([10]:List UInt8)) ([10]:List UInt8)) then (.to (.h1 0 0)) else .stuck) else .stuck))
theorem w8x (x0:List UInt8): ∀s,Wj prog (Zy prog 12) (NH x0) (NH x0 s) (Zc x0 s)
 | .h0 =>(lb (fun k0=>(lr 213 12 [1,1,1,1,0,1,0,0] 1 10 [(2,.nils),(3,(ii 4))] (sl Zb 24 [] (b8 [2,3]) b7 (bl 4 14) (tt k0 nn)))) (fun k0=>(sl Zb 45 [] ⟨[],[],Sn,Sy⟩ b7 (bl 5 0) (tt k0 nn))))
 | .h1 v6 v37=>(lb (fun k0=>(lo fun aG=>let a:=ww aG (tt k0 nn);(lb (fun k1=>(lo fun bH=>(lb (fun k2=>(sl Zb 66 [] ⟨[],[],XR,XQ⟩ b7 (CA 8 []) (tt k2 (pp (pp nn (pp nn (pp (xG (decide (5<=(rd (Vs x0) (tn v37)).length))) (xG (decide (0<=5)))))) (tt k1 a))))) (fun k2=>(sl Zb 62 [] ⟨[],[],XR,XQ⟩ b7 (CA 7 [false]) (tt k2 (pp (pp nn (pp nn (pp (xG (decide (5<=(rd (Vs x0) (tn v37)).length))) (xG (decide (0<=5)))))) (tt k1 a)))))))) (fun k1=>(sl Zb 62 [] ⟨[],[],XR,XQ⟩ b7 (bl 8 1) (tt k1 a)))))) (fun k0=>(lb (fun k1=>(lr 213 12 [1,1,1,1,0,1,0,0] 1 10 [(2,.nils),(3,(ii 4))] (sl Zb 24 [] (b8 [2,3]) b7 (bl 4 14) (tt k1 (tt k0 nn))))) (fun k1=>let b:=tt k1 (tt k0 nn);(lb (fun k2=>(lr 213 12 [1,1,1,1,0,1,0,0] 1 10 [(2,.nils),(3,(ii 4))] (sl Zb 24 [] (b8 [2,3]) b7 (bl 4 8) (tt k2 b)))) (fun k2=>(lb (fun k3=>(lr 213 12 [1,1,1,1,1,0,1,0,0] 1 10 [(2,.nils),(3,(ii 12))] (sl Zb 32 [] (b8 [2,3]) b7 (bl 5 16) (tt k3 (tt k2 b))))) (fun k3=>(sl Zb 45 [] ⟨[],[],Sm,Sx⟩ b7 (bl 5 0) (tt k3 (tt k2 b)))))))))))
 | .h2 =>(sl Zb 23 [] ⟨[0],[],KF,KG⟩ b7 [false] nn)
 | .h3 =>(lb (fun k0=>(lo fun aG=>(lo fun aU=>(lo fun cI=>let a:=ww cI (ww aU (ww aG (tt k0 nn)));(lb (fun k1=>(lb (fun k2=>(lo fun cS=>let c:=ww cS (tt k2 (tt k1 a));(lb (fun k3=>(lr 213 12 [1,1,1,1,1,1,1,1,0,1,0,0,1,1,0,0,1,1,0,1,0,1,1,0,1,0,0] 1 10 [(2,.nils),(3,(ii 12))] (sl Zb 90 [] (b8 [2,3]) b7 (CA 29 []) (tt k3 c)))) (fun k3=>(lo fun dA=>let b:=ww dA (ww cS (tt k3 c));(lb (fun k4=>(lr 213 12 [1,1,1,1,1,1,1,1,0,1,0,0,1,1,0,0,1,1,0,1,0,1,1,0,1,0,0] 1 10 [(2,.nils),(3,(ii 12))] (sl Zb 90 [] (b8 [2,3]) b7 (CA 5 (bl 24 16777184)) (tt k4 b)))) (fun k4=>(lo fun cW=>(lo fun dK=>(lb (fun k5=>(lr 213 12 [1,1,1,1,1,1,1,1,0,1,0,0,1,1,0,0,1,1,0,1,0,1,1,0,1,0,0] 1 10 [(2,.nils),(3,(ii 12))] (sl Zb 109 [] (b8 [2,3]) b7 (CA 5 (bl 25 32768000)) (tt k5 (pp (pp nn (pp nn (pp (xG (decide ((Yu x0).length <=(Yu x0).length)) (Aa (Ak _))) (pp (xG (decide (2<=(Yu x0).length))) (xG (Gc (Yu x0).length (Zz (Yu x0)) 1)))))) (tt k4 b)))))) (fun k5=>(sl Zb 97 [] ⟨[2,1,0],[],Sl,Sv⟩ b7 (CA 5 (bl 19 0)) (tt k5 (pp (pp nn (pp nn (pp (xG (decide ((Yu x0).length <=(Yu x0).length)) (Aa (Ak _))) (pp (xG (decide (2<=(Yu x0).length))) (xG (Gc (Yu x0).length (Zz (Yu x0)) 1)))))) (tt k4 b))))))))))))))) (fun k2=>let d:=ww cI (tt k2 (tt k1 a));(lb (fun k3=>(lr 213 12 [1,1,1,1,1,1,1,1,0,1,0,0,1,1,0,0,1,1,0,1,1,1,1,0] 1 10 [(2,.nils),(3,(ii 12))] (sl Zb 55 [] (b8 [2,3]) b7 (CA 4 (bl 5 14)) (tt k3 d)))) (fun k3=>(lr 213 12 [1,1,1,1,1,1,1,1,0,1,0,0,1,1,0,0,1,1,0,1,1,1,1,0] 1 10 [(2,.nils),(3,(ii 12))] (sl Zb 55 [] (b8 [2,3]) b7 (CA 4 (bl 5 0)) (tt k3 d)))))))) (fun k1=>let e:=ww cI (tt k1 a);(lb (fun k2=>(lr 213 12 [1,1,1,1,1,1,1,1,0,1,0,0,1,1,0,0,1,1,0,1,1,1,1,0] 1 10 [(2,.nils),(3,(ii 12))] (sl Zb 55 [] (b8 [2,3]) b7 (bl 9 225) (tt k2 e)))) (fun k2=>(lr 213 12 [1,1,1,1,1,1,1,1,0,1,0,0,1,1,0,0,1,1,0,1,1,1,1,0] 1 10 [(2,.nils),(3,(ii 12))] (sl Zb 55 [] (b8 [2,3]) b7 (bl 9 1) (tt k2 e))))))))))) (fun k0=>(sl Zb 23 [] ⟨[0],[],KF,KG⟩ b7 [false] (tt k0 nn))))
 | .h4 =>(lo fun cM=>(lb (fun k0=>(lr 213 12 [1,1,1,1,1,1,1,1,1,1,1,0,1,1,0,0] 1 10 [(2,.nils),(3,(ii (Ui ([]:List B4))))] (sl Zb 26 [] (b8 [2,3]) b7 (bl 2 2) (tt k0 (pp (pp (xI B4 0 (fun _=>[])) (xw cM)) nn))))) (fun k0=>(lr 213 3 [1,1,1,1,1,1,0] 1 10 [(2,.nils),(3,(ii 0))] (sl Zb 27 [] (b8 [2,3]) b7 (bl 2 0) (tt k0 (pp (pp (xI B4 0 (fun _=>[])) (xw cM)) nn)))))))
 | .h5 =>(lb (fun k0=>(lo fun aG=>(lo fun aU=>let c:=ww aU (ww aG (tt k0 nn));(lb (fun k1=>(lr 213 12 [1,1,1,1,1,1,1,1,0,1,0,0,1,1,0,0,1,1,0,1,0,1,1,0,1,0,0] 1 10 [(2,.nils),(3,(ii 12))] (sl Zb 70 [] (b8 [2,3]) b7 (CA 10 (bl 6 62)) (tt k1 c)))) (fun k1=>(lo fun bH=>let a:=ww bH (tt k1 c);(lb (fun k2=>(lr 213 12 [1,1,1,1,1,1,1,1,0,1,0,0,1,1,0,0,1,1,0,1,0,1,1,0,1,0,0] 1 10 [(2,.nils),(3,(ii 12))] (sl Zb 70 [] (b8 [2,3]) b7 (bl 16 64481) (tt k2 a)))) (fun k2=>(lb (fun k3=>(lr 213 12 [1,1,1,1,1,1,1,1,0,1,0,0,1,1,0,0,1,1,0,1,0,1,1,0,1,0,0] 1 10 [(2,.nils),(3,(ii 12))] (sl Zb 70 [] (b8 [2,3]) b7 (bl 16 64385) (tt k3 (tt k2 a))))) (fun k3=>let d:=tt k3 (tt k2 a);(lb (fun k4=>(lr 213 12 [1,1,1,1,1,1,1,1,0,1,0,0,1,1,0,0,1,1,0,1,0,1,1,0,1,0,0] 1 10 [(2,.nils),(3,(ii 12))] (sl Zb 70 [] (b8 [2,3]) b7 (bl 16 64001) (tt k4 d)))) (fun k4=>(sl Zb 64 [] ⟨[0,1,2],[],Sk,Su⟩ b7 (bl 10 1) (tt k4 d)))))))))))))) (fun k0=>(lo fun o0=>(lo fun o1=>(lo fun o2=>let b:=xL 1 ([(rd (Yu x0) 1)]:List (List UInt8)).length;let e:=rd (Yu x0) 1;let f:=List UInt8;(sl Zb 41 [(79,6,Zz ([]:List R6))] ⟨[3,4,5],[],Dr,Dq⟩ ⟨[(10,.len ([e]:List f).length)],[.rws (.one ([]:List B4).length [(.str []),(ii 0),(.int .u8 0),(ii 0),(ii 0),(ii 0),(.sla 2 6 0 ([]:List R6).length (.un 6))] (.flat G4)),.rowed 1 ([e]:List f).length (G3 x0),.keep],[]⟩ (bl 7 0) (pp b (pp (xG (DR 1 (Yx (fun _=>[]) 0 (fun k=>([(.str []),(ii 0),(.int .u8 0),(ii 0),(ii 0),(ii 0),.nils].drop (k*7)).take 7)) (CI.get (.one ([]:List B4).length [(.str []),(ii 0),(.int .u8 0),(ii 0),(ii 0),(ii 0),(.sla 2 6 0 ([]:List R6).length (.un 6))] (.flat G4)))) QX) (pp b (pp (xS 1 (Yx (fun _=>[]) 0 (fun k=>([(.str (rd (Yu x0) 1))].drop (k*1)).take 1)) (G3 x0)) (pp (pp (xF (Yx (fun _=>[]) 0 (fun k=>([(.str []),(ii 0),(.int .u8 0),(ii 0),(ii 0),(ii 0),.nils].drop (k*7)).take 7))) (pp (xF (Yx (fun _=>[]) 0 (fun k=>([(.str (rd (Yu x0) 1))].drop (k*1)).take 1))) (fl ([]:List R6) nn))) (pp (pp nn (pp (xG (Kr 1 1 (fun k=>([(.str (rd (Yu x0) 1))].drop (k*1)).take 1)) (Wq (by rfl) (by rfl))) (xw o2))) (ww o1 (pp (pp nn (pp (xG (Kr 7 1 (fun k=>([(.str []),(ii 0),(.int .u8 0),(ii 0),(ii 0),(ii 0),.nils].drop (k*7)).take 7)) (Wq (by rfl) (by rfl))) (xw o0))) (tt k0 nn)))))))))))))))
 | .h6 =>(lb (fun k0=>(lo fun aG=>(lo fun aU=>let c:=ww aU (ww aG (tt k0 nn));(lb (fun k1=>(lr 213 12 [1,1,1,1,1,1,1,1,0,1,0,0,1,1,0,0,1,1,0,1,0,1,1,0,1,0,0] 1 10 [(2,.nils),(3,(ii 12))] (sl Zb 70 [] (b8 [2,3]) b7 (CA 10 (bl 6 62)) (tt k1 c)))) (fun k1=>(lo fun bH=>let a:=ww bH (tt k1 c);(lb (fun k2=>(lr 213 12 [1,1,1,1,1,1,1,1,0,1,0,0,1,1,0,0,1,1,0,1,0,1,1,0,1,0,0] 1 10 [(2,.nils),(3,(ii 12))] (sl Zb 70 [] (b8 [2,3]) b7 (bl 16 64481) (tt k2 a)))) (fun k2=>(lb (fun k3=>(lr 213 12 [1,1,1,1,1,1,1,1,0,1,0,0,1,1,0,0,1,1,0,1,0,1,1,0,1,0,0] 1 10 [(2,.nils),(3,(ii 12))] (sl Zb 70 [] (b8 [2,3]) b7 (bl 16 64385) (tt k3 (tt k2 a))))) (fun k3=>let e:=tt k3 (tt k2 a);(lb (fun k4=>(lr 213 12 [1,1,1,1,1,1,1,1,0,1,0,0,1,1,0,0,1,1,0,1,0,1,1,0,1,0,0] 1 10 [(2,.nils),(3,(ii 12))] (sl Zb 70 [] (b8 [2,3]) b7 (bl 16 64001) (tt k4 e)))) (fun k4=>(sl Zb 64 [] ⟨[0,1,2],[],Sj,Ss⟩ b7 (bl 10 1) (tt k4 e)))))))))))))) (fun k0=>(lb (fun k1=>(lr 213 12 [1,1,1,1,1,1,1,1,0,1,0,0,1,1,0,0,1,1,0,1,0,1,1,0,1,0,0] 1 10 [(2,.nils),(3,(ii 12))] (sl Zb 29 [] (b8 [2,3]) b7 (bl 7 112) (tt k1 (tt k0 nn))))) (fun k1=>let d:=tt k1 (tt k0 nn);(lb (fun k2=>(lr 213 12 [1,1,1,1,1,1,1,1,0,1,0,0,1,1,0,0,1,1,0,1,0,1,1,0,1,0,0] 1 10 [(2,.nils),(3,(ii 12))] (sl Zb 29 [] (b8 [2,3]) b7 (bl 7 64) (tt k2 d)))) (fun k2=>(lo fun o0=>(lo fun o1=>(lo fun o2=>let b:=xL 1 ([(rd (Yu x0) 1)]:List (List UInt8)).length;let f:=rd (Yu x0) 1;let g:=List UInt8;(sl Zb 41 [(79,6,Zz ([]:List R6))] ⟨[3,4,5],[],Dr,Dq⟩ ⟨[(10,.len ([f]:List g).length)],[.rws (.one ([]:List B4).length [(.str []),(ii 0),(.int .u8 (Uj x0)),(ii 0),(ii 0),(ii 0),(.sla 2 6 0 ([]:List R6).length (.un 6))] (.flat G4)),.rowed 1 ([f]:List g).length (G3 x0),.keep],[]⟩ (bl 7 0) (pp b (pp (xG (DR 1 (Yx (fun _=>[]) 0 (fun k=>([(.str []),(ii 0),(.int .u8 (Uj x0)),(ii 0),(ii 0),(ii 0),.nils].drop (k*7)).take 7)) (CI.get (.one ([]:List B4).length [(.str []),(ii 0),(.int .u8 (Uj x0)),(ii 0),(ii 0),(ii 0),(.sla 2 6 0 ([]:List R6).length (.un 6))] (.flat G4)))) QX) (pp b (pp (xS 1 (Yx (fun _=>[]) 0 (fun k=>([(.str (rd (Yu x0) 1))].drop (k*1)).take 1)) (G3 x0)) (pp (pp (xF (Yx (fun _=>[]) 0 (fun k=>([(.str []),(ii 0),(.int .u8 (Uj x0)),(ii 0),(ii 0),(ii 0),.nils].drop (k*7)).take 7))) (pp (xF (Yx (fun _=>[]) 0 (fun k=>([(.str (rd (Yu x0) 1))].drop (k*1)).take 1))) (fl ([]:List R6) nn))) (pp (pp nn (pp (xG (Kr 1 1 (fun k=>([(.str (rd (Yu x0) 1))].drop (k*1)).take 1)) (Wq (by rfl) (by rfl))) (xw o2))) (ww o1 (pp (pp nn (pp (xG (Kr 7 1 (fun k=>([(.str []),(ii 0),(.int .u8 (Uj x0)),(ii 0),(ii 0),(ii 0),.nils].drop (k*7)).take 7)) (Wq (by rfl) (by rfl))) (xw o0))) (tt k2 d)))))))))))))))))))
 | .h7 v10 v57 bW cE cN cO cH bY=>let s:=fl v10 nn;(lb (fun k0=>(lo fun aG=>(lo fun aU=>(lo fun cI=>let a:=ww cI (ww aU (ww aG (tt k0 nn)));let c:=Ve (Yn x0 v57) 1 (Vb x0 v57);let m:=fl bY (fl cH s);let n:=YT x0 v57;(lb (fun k1=>(lb (fun k2=>(lo fun cS=>let r:=ww cS (tt k2 (tt k1 a));(lb (fun k3=>(lr 213 12 [1,1,1,1,1,1,1,1,0,1,0,0,1,1,0,0,1,1,0,1,0,1,1,0,1,0,0] 1 10 [(2,.nils),(3,(ii 12))] (sl Zb 90 [] (b8 [2,3]) b7 (CA 29 []) (tt k3 r)))) (fun k3=>(lo fun dA=>let h:=ww dA (ww cS (tt k3 r));(lb (fun k4=>(lr 213 12 [1,1,1,1,1,1,1,1,0,1,0,0,1,1,0,0,1,1,0,1,0,1,1,0,1,0,0] 1 10 [(2,.nils),(3,(ii 12))] (sl Zb 90 [] (b8 [2,3]) b7 (CA 5 (bl 24 16777184)) (tt k4 h)))) (fun k4=>(lo fun cW=>(lo fun dK=>(lb (fun k5=>(lr 213 12 [1,1,1,1,1,1,1,1,0,1,0,0,1,1,0,0,1,1,0,1,0,1,1,0,1,0,0] 1 10 [(2,.nils),(3,(ii 12))] (sl Zb 109 [] (b8 [2,3]) b7 (CA 5 (bl 25 32768000)) (tt k5 (pp (pp nn (pp nn (pp (xG (decide ((Yn x0 v57).length <=(Yn x0 v57).length)) (Aa (Ak _))) (pp (xG (decide (2<=(Yn x0 v57).length))) (xG (Gc (Yn x0 v57).length (Ke x0 v57) 1)))))) (tt k4 h)))))) (fun k5=>let j:=xS (Q2 x0 v57) (fun k=>(Ke x0 v57) (2+k)) (x3e x0 v57);let l:=xL (Q2 x0 v57) (Ve (Yn x0 v57) 2 (Q2 x0 v57)).length;let q:=Ve (Yn x0 v57) 2 (Q2 x0 v57);let v:=x3e x0 v57;(sl Zb 97 [] ⟨[5,4,3,0,2,1],[],Si,Sr⟩ ⟨[(14,.list q.length v)],[],[[(86,.list q.length v)]]⟩ (CA 5 (bl 19 0)) (pp l (pp j (pp l (pp j (pp m (tt k5 (pp (pp nn (pp nn (pp (xG (decide ((Yn x0 v57).length <=(Yn x0 v57).length)) (Aa (Ak _))) (pp (xG (decide (2<=(Yn x0 v57).length))) (xG (Gc (Yn x0 v57).length (Ke x0 v57) 1)))))) (tt k4 h)))))))))))))))))))) (fun k2=>let i:=ww cI (tt k2 (tt k1 a));(lb (fun k3=>(lb (fun k4=>(lo fun cW=>(lo fun dK=>let t:=tt k4 (tt k3 i);(lb (fun k5=>(lr 213 12 [1,1,1,1,1,1,1,1,0,1,0,0,1,1,0,0,1,1,0,1,1,1,0,1,0,1,0,0] 1 10 [(2,.nils),(3,(ii 12))] (sl Zb 125 [] (b8 [2,3]) b7 (CA 4 (bl 7 126)) (tt k5 (pp (pp nn (pp nn (pp (xG (decide ((Yn x0 v57).length <=(Yn x0 v57).length)) (Aa (Ak _))) (pp (xG (decide (1<=(Yn x0 v57).length))) (xG (Gc (Yn x0 v57).length (Ke x0 v57) 1)))))) t))))) (fun k5=>let d:=xS (Vb x0 v57) (fun k=>(Ke x0 v57) (1+k)) (YT x0 v57);let f:=xL (Vb x0 v57) (Ve (Yn x0 v57) 1 (Vb x0 v57)).length;(sl Zb 101 [] ⟨[4,3,0,2,1],[],u7f,u7h⟩ ⟨[(14,.list c.length n)],[],[[(4,.list c.length n)],[(134,.list c.length n)]]⟩ (CA 4 (bl 6 30)) (pp f (pp d (pp f (pp d (pp f (pp d (pp m (tt k5 (pp (pp nn (pp nn (pp (xG (decide ((Yn x0 v57).length <=(Yn x0 v57).length)) (Aa (Ak _))) (pp (xG (decide (1<=(Yn x0 v57).length))) (xG (Gc (Yn x0 v57).length (Ke x0 v57) 1)))))) t))))))))))))))) (fun k4=>(lr 213 12 [1,1,1,1,1,1,1,1,0,1,0,0,1,1,0,0,1,1,0,1,1,1,1,0] 1 10 [(2,.nils),(3,(ii 12))] (sl Zb 55 [] (b8 [2,3]) b7 (CA 4 (bl 5 14)) (tt k4 (tt k3 i))))))) (fun k3=>(lr 213 12 [1,1,1,1,1,1,1,1,0,1,0,0,1,1,0,0,1,1,0,1,1,1,1,0] 1 10 [(2,.nils),(3,(ii 12))] (sl Zb 55 [] (b8 [2,3]) b7 (CA 4 (bl 5 0)) (tt k3 i)))))))) (fun k1=>let u:=ww cI (tt k1 a);(lb (fun k2=>let p:=tt k2 u;(lb (fun k3=>(lo fun dA=>(lo fun dZ=>(lb (fun k4=>(lr 213 12 [1,1,1,1,1,1,1,1,0,1,0,0,1,1,0,0,1,1,0,1,1,1,0,1,0,1,0,0] 1 10 [(2,.nils),(3,(ii 12))] (sl Zb 125 [] (b8 [2,3]) b7 (bl 11 2017) (tt k4 (pp (pp nn (pp nn (pp (xG (decide ((Yn x0 v57).length <=(Yn x0 v57).length)) (Aa (Ak _))) (pp (xG (decide (1<=(Yn x0 v57).length))) (xG (Gc (Yn x0 v57).length (Ke x0 v57) 1)))))) (tt k3 p)))))) (fun k4=>let e:=xS (Vb x0 v57) (fun k=>(Ke x0 v57) (1+k)) (YT x0 v57);let g:=xL (Vb x0 v57) (Ve (Yn x0 v57) 1 (Vb x0 v57)).length;(sl Zb 101 [] ⟨[4,3,0,2,1],[],u7f,u7h⟩ ⟨[(14,.list c.length n)],[],[[(4,.list c.length n)],[(134,.list c.length n)]]⟩ (bl 10 481) (pp g (pp e (pp g (pp e (pp g (pp e (pp m (tt k4 (pp (pp nn (pp nn (pp (xG (decide ((Yn x0 v57).length <=(Yn x0 v57).length)) (Aa (Ak _))) (pp (xG (decide (1<=(Yn x0 v57).length))) (xG (Gc (Yn x0 v57).length (Ke x0 v57) 1)))))) (tt k3 p)))))))))))))))) (fun k3=>(lr 213 12 [1,1,1,1,1,1,1,1,0,1,0,0,1,1,0,0,1,1,0,1,1,1,1,0] 1 10 [(2,.nils),(3,(ii 12))] (sl Zb 55 [] (b8 [2,3]) b7 (bl 9 225) (tt k3 p)))))) (fun k2=>(lr 213 12 [1,1,1,1,1,1,1,1,0,1,0,0,1,1,0,0,1,1,0,1,1,1,1,0] 1 10 [(2,.nils),(3,(ii 12))] (sl Zb 55 [] (b8 [2,3]) b7 (bl 9 1) (tt k2 u))))))))))) (fun k0=>let b:=YU bY bW cE cN cO cH;let o:=xL (bY.length+1) (YU bY bW cE cN cO cH).length;(Wk (sl Zb (C':=⟨⟨213,0,true⟩,none,(Zf prog 12 [1,1,1,1,1,1,1,1,0] 1),none,(Zy prog 10),⟨Ye [(9,(.sla 0 7 0 b.length (.un 7))),(10,(.sla 1 1 0 v10.length (.un 1)))],Xt [⟨rows b.length (Zz b),48,some ⟨7,b.length,(Zz b)⟩⟩,⟨rows v10.length (Zz v10),9,some ⟨1,v10.length,(Zz v10)⟩⟩] 0,2,[],true⟩,[],.leaf⟩) 7 [] ⟨[0,1],[2],[some [9,10]],[]⟩ ⟨[(9,.len b.length)],[.rowed 7 b.length (Zz b),.keep],[]⟩ [false] (pp o (pp o (pp (xG (Ud (bY.length+1) (CI.get (.one bY.length [(.str []),(ii 0),(.int .u8 bW),(ii cE),(ii cN),(ii cO),(DU 6 6 0 cH.length cH.length (Zz cH))] (.flat (Zz bY)))) (Zz (YU bY bW cE cN cO cH))) P1) (pp (fl bY s) (pp (fl cH nn) (tt k0 nn))))))) (sl Zb 16 [] ⟨[0,2,1],[],Rk,Rj⟩ b7 [] (pp (fl b s) nn)))))
 | .h8 =>(lb (fun k0=>(lo fun aG=>(lo fun aU=>let c:=ww aU (ww aG (tt k0 nn));(lb (fun k1=>(lr 213 12 [1,1,1,1,1,1,1,1,0,1,0,0,1,1,0,0,1,1,0,1,0,1,1,0,1,0,0] 1 10 [(2,.nils),(3,(ii 12))] (sl Zb 70 [] (b8 [2,3]) b7 (CA 10 (bl 6 62)) (tt k1 c)))) (fun k1=>(lo fun bH=>let a:=ww bH (tt k1 c);(lb (fun k2=>(lr 213 12 [1,1,1,1,1,1,1,1,0,1,0,0,1,1,0,0,1,1,0,1,0,1,1,0,1,0,0] 1 10 [(2,.nils),(3,(ii 12))] (sl Zb 70 [] (b8 [2,3]) b7 (bl 16 64481) (tt k2 a)))) (fun k2=>(lb (fun k3=>(lr 213 12 [1,1,1,1,1,1,1,1,0,1,0,0,1,1,0,0,1,1,0,1,0,1,1,0,1,0,0] 1 10 [(2,.nils),(3,(ii 12))] (sl Zb 70 [] (b8 [2,3]) b7 (bl 16 64385) (tt k3 (tt k2 a))))) (fun k3=>let e:=tt k3 (tt k2 a);(lb (fun k4=>(lr 213 12 [1,1,1,1,1,1,1,1,0,1,0,0,1,1,0,0,1,1,0,1,0,1,1,0,1,0,0] 1 10 [(2,.nils),(3,(ii 12))] (sl Zb 70 [] (b8 [2,3]) b7 (bl 16 64001) (tt k4 e)))) (fun k4=>(sl Zb 64 [] ⟨[0,1,2],[],Mu,NG⟩ b7 (bl 10 1) (tt k4 e)))))))))))))) (fun k0=>(lb (fun k1=>(lr 213 12 [1,1,1,1,1,1,1,1,0,1,0,0,1,1,0,0,1,1,0,1,0,1,1,0,1,0,0] 1 10 [(2,.nils),(3,(ii 12))] (sl Zb 29 [] (b8 [2,3]) b7 (bl 7 112) (tt k1 (tt k0 nn))))) (fun k1=>let d:=tt k1 (tt k0 nn);(lb (fun k2=>(lr 213 12 [1,1,1,1,1,1,1,1,0,1,0,0,1,1,0,0,1,1,0,1,0,1,1,0,1,0,0] 1 10 [(2,.nils),(3,(ii 12))] (sl Zb 29 [] (b8 [2,3]) b7 (bl 7 64) (tt k2 d)))) (fun k2=>(lo fun o0=>(lo fun o1=>(lo fun o2=>let b:=xL 1 ([(rd (Yu x0) 1)]:List (List UInt8)).length;let f:=rd (Yu x0) 1;let g:=List UInt8;(sl Zb 41 [(79,6,Zz ([]:List R6))] ⟨[3,4,5],[],Dr,Dq⟩ ⟨[(10,.len ([f]:List g).length)],[.rws (.one ([]:List B4).length [(.str []),(ii 0),(.int .u8 (Uj x0)),(ii (Jy x0)),(ii 0),(ii 0),(.sla 2 6 0 ([]:List R6).length (.un 6))] (.flat G4)),.rowed 1 ([f]:List g).length (G3 x0),.keep],[]⟩ (bl 7 0) (pp b (pp (xG (DR 1 (Yx (fun _=>[]) 0 (fun k=>([(.str []),(ii 0),(.int .u8 (Uj x0)),(ii (Jy x0)),(ii 0),(ii 0),.nils].drop (k*7)).take 7)) (CI.get (.one ([]:List B4).length [(.str []),(ii 0),(.int .u8 (Uj x0)),(ii (Jy x0)),(ii 0),(ii 0),(.sla 2 6 0 ([]:List R6).length (.un 6))] (.flat G4)))) QX) (pp b (pp (xS 1 (Yx (fun _=>[]) 0 (fun k=>([(.str (rd (Yu x0) 1))].drop (k*1)).take 1)) (G3 x0)) (pp (pp (xF (Yx (fun _=>[]) 0 (fun k=>([(.str []),(ii 0),(.int .u8 (Uj x0)),(ii (Jy x0)),(ii 0),(ii 0),.nils].drop (k*7)).take 7))) (pp (xF (Yx (fun _=>[]) 0 (fun k=>([(.str (rd (Yu x0) 1))].drop (k*1)).take 1))) (fl ([]:List R6) nn))) (pp (pp nn (pp (xG (Kr 1 1 (fun k=>([(.str (rd (Yu x0) 1))].drop (k*1)).take 1)) (Wq (by rfl) (by rfl))) (xw o2))) (ww o1 (pp (pp nn (pp (xG (Kr 7 1 (fun k=>([(.str []),(ii 0),(.int .u8 (Uj x0)),(ii (Jy x0)),(ii 0),(ii 0),.nils].drop (k*7)).take 7)) (Wq (by rfl) (by rfl))) (xw o0))) (tt k2 d)))))))))))))))))))
 | .h9 v14 v15 aE aN bI cB aP aQ aR aS aL aF=>(lb (fun k0=>(lo fun aG=>(lo fun aU=>let f:=ww aU (ww aG (tt k0 nn));(lb (fun k1=>(lr 213 12 [1,1,1,1,1,1,1,1,0,1,0,0,1,1,0,0,1,1,0,1,0,1,1,0,1,0,0] 1 10 [(2,.nils),(3,(ii 12))] (sl Zb 70 [] (b8 [2,3]) b7 (CA 10 (bl 6 62)) (tt k1 f)))) (fun k1=>(lo fun bH=>let a:=ww bH (tt k1 f);(lb (fun k2=>(lr 213 12 [1,1,1,1,1,1,1,1,0,1,0,0,1,1,0,0,1,1,0,1,0,1,1,0,1,0,0] 1 10 [(2,.nils),(3,(ii 12))] (sl Zb 70 [] (b8 [2,3]) b7 (bl 16 64481) (tt k2 a)))) (fun k2=>(lb (fun k3=>(lr 213 12 [1,1,1,1,1,1,1,1,0,1,0,0,1,1,0,0,1,1,0,1,0,1,1,0,1,0,0] 1 10 [(2,.nils),(3,(ii 12))] (sl Zb 70 [] (b8 [2,3]) b7 (bl 16 64385) (tt k3 (tt k2 a))))) (fun k3=>let g:=tt k3 (tt k2 a);(lb (fun k4=>(lr 213 12 [1,1,1,1,1,1,1,1,0,1,0,0,1,1,0,0,1,1,0,1,0,1,1,0,1,0,0] 1 10 [(2,.nils),(3,(ii 12))] (sl Zb 70 [] (b8 [2,3]) b7 (bl 16 64001) (tt k4 g)))) (fun k4=>(sl Zb 64 [] ⟨(List.range 6),[],Mt,NF⟩ b7 (bl 10 1) (pp (fl aF (fl aL (fl aE nn))) (tt k4 g))))))))))))))) (fun k0=>let b:=Yv aF aP aQ aR aS aL;let c:=Xx aF aP aQ aR aS aL;let d:=xL (aF.length+1) (Yv aF aP aQ aR aS aL).length;(Wk (sl Zb (C':=⟨⟨213,0,true⟩,none,(Zf prog 12 [1,1,1,1,1,1,1,1,0,1,0,0,1,1,0,0,1,1,0,1,0,1,1,1,0] 1),none,(Zy prog 10),⟨Ye [(9,(.sla 0 7 0 b.length (.un 7))),(10,(.sla 1 1 0 aE.length (.un 1))),(13,(.dat aN.length (Zz aN))),(14,(.ptr 2 0)),(55,(.dat (Vs x0).length (Zz (Vs x0)))),(56,(ii (((Vs x0).length :Nat):Int))),(57,(ii bI))],Xt [⟨rows b.length c,48,some ⟨7,b.length,c⟩⟩,⟨rows aE.length (Zz aE),9,some ⟨1,aE.length,(Zz aE)⟩⟩,⟨[(.str []),(ii 0),(.int .u8 0),(ii 0),(ii 0),(ii 0),.nils],48,none⟩] 0,3,[],true⟩,[],.leaf⟩) 33 [] ⟨[3,5,2],[4],[some [9,10,13,14,55,56,57]],[]⟩ ⟨[(9,.len b.length)],[.rowed 7 b.length c,.keep,.keep],[]⟩ (bl 7 0) (pp d (pp d (pp (xG (Ud (aF.length+1) (CI.get (.one aF.length [(.str []),(ii 0),(.int .u8 aP),(ii aQ),(ii aR),(ii aS),(RP aL)] (.flat (Zz aF)))) (Xx aF aP aQ aR aS aL)) P1) (pp (fl aF (fl aE nn)) (pp (fl aL nn) (tt k0 nn))))))) (lo fun o0=>(lo fun o1=>(lo fun o2=>(lo fun o3=>(lo fun o4=>let e:=xL (aE.length+1) (Wg aE aN).length;(sl Zb 8 [(79,6,Zz ([]:List R6))] ⟨[3,4,5],[],Dr,Dq⟩ ⟨[(10,.len (Wg aE aN).length)],[.rws (.one b.length [(.str []),(ii 0),(.int .u8 0),(ii 0),(ii 0),(ii 0),(.sla 2 6 0 ([]:List R6).length (.un 6))] (.flat c)),.rowed 1 (Wg aE aN).length (Zz (Wg aE aN)),.keep],[]⟩ [] (pp e (pp (xG (DR ((Yv aF aP aQ aR aS aL).length +1) (Yx (fun k=>(Xx aF aP aQ aR aS aL) (0+k)) (Yv aF aP aQ aR aS aL).length (fun k=>([(.str []),(ii 0),(.int .u8 0),(ii 0),(ii 0),(ii 0),.nils].drop (k*7)).take 7)) (CI.get (.one (Yv aF aP aQ aR aS aL).length [(.str []),(ii 0),(.int .u8 0),(ii 0),(ii 0),(ii 0),(.sla 2 6 0 ([]:List R6).length (.un 6))] (.flat (Xx aF aP aQ aR aS aL))))) QM) (pp e (pp (xS (aE.length+1) (Yx (fun k=>(Zz aE) (0+k)) aE.length (fun k=>([(.str (rd aN 1))].drop (k*1)).take 1)) (Zz (Wg aE aN))) (pp (pp (xF (Yx (fun k=>(Xx aF aP aQ aR aS aL) (0+k)) (Yv aF aP aQ aR aS aL).length (fun k=>([(.str []),(ii 0),(.int .u8 0),(ii 0),(ii 0),(ii 0),.nils].drop (k*7)).take 7))) (pp (xF (Yx (fun k=>(Zz aE) (0+k)) aE.length (fun k=>([(.str (rd aN 1))].drop (k*1)).take 1))) (fl ([]:List R6) nn))) (pp (pp (xw o4) (pp (xG (Kr 1 1 (fun k=>([(.str (rd aN 1))].drop (k*1)).take 1)) (Wq (by rfl) (by rfl))) (xw o3))) (ww o2 (pp (pp (xw o1) (pp (xG (Kr 7 1 (fun k=>([(.str []),(ii 0),(.int .u8 0),(ii 0),(ii 0),(ii 0),.nils].drop (k*7)).take 7)) (Wq (by rfl) (by rfl))) (xw o0))) nn)))))))))))))))))
 | .h10 v14 v15 bX aV bM bK bA aM aT aY aJ aH=>(lb (fun k0=>(lo fun aG=>(lo fun aU=>let b:=ww aU (ww aG (tt k0 nn));(lb (fun k1=>(lr 213 12 [1,1,1,1,1,1,1,1,0,1,0,0,1,1,0,0,1,1,0,1,1,1,0,1,0,1,0,0] 1 10 [(2,.nils),(3,(ii 12))] (sl Zb 82 [] (b8 [2,3]) b7 (CA 11 []) (tt k1 b)))) (fun k1=>(lo fun bH=>let a:=ww bH (tt k1 b);(lb (fun k2=>(lr 213 12 [1,1,1,1,1,1,1,1,0,1,0,0,1,1,0,0,1,1,0,1,1,1,0,1,0,1,0,0] 1 10 [(2,.nils),(3,(ii 12))] (sl Zb 82 [] (b8 [2,3]) b7 (bl 11 2017) (tt k2 a)))) (fun k2=>(lb (fun k3=>(lr 213 12 [1,1,1,1,1,1,1,1,0,1,0,0,1,1,0,0,1,1,0,1,1,1,0,1,0,1,0,0] 1 10 [(2,.nils),(3,(ii 12))] (sl Zb 82 [] (b8 [2,3]) b7 (bl 11 1921) (tt k3 (tt k2 a))))) (fun k3=>let c:=tt k3 (tt k2 a);(lb (fun k4=>(lr 213 12 [1,1,1,1,1,1,1,1,0,1,0,0,1,1,0,0,1,1,0,1,1,1,0,1,0,1,0,0] 1 10 [(2,.nils),(3,(ii 12))] (sl Zb 82 [] (b8 [2,3]) b7 (bl 11 1537) (tt k4 c)))) (fun k4=>(sl Zb 64 [] ⟨(List.range 5),[],Ms,NE⟩ b7 (bl 10 1) (pp (fl aH (fl aJ (fl aV nn))) (tt k4 c))))))))))))))) (fun k0=>(lo fun aG=>(lb (fun k1=>(lo fun o0=>(lo fun o1=>(sl Zb 54 [] ⟨[2,4,7],[],Dr,Dq⟩ ⟨[],[.rws (.one aH.length [(.str []),(ii 0),(.int .u8 bA),(ii aM),(ii aT),(ii aY),(.sla 2 6 0 (P6 aJ).length (.un 6))] (.flat (Zz aH))),.keep,.rowed 6 (P6 aJ).length (Zz (P6 aJ))],[]⟩ (bl 4 12) (pp (xG (DR (aH.length+1) (CI.get (.one aH.length [(.str []),(ii 0),(.int .u8 bA),(ii aM),(ii aT),(ii aY),(.sla 2 6 0 (aJ.length+1) (.un 6))] (.flat (Zz aH)))) (CI.get (.one aH.length [(.str []),(ii 0),(.int .u8 bA),(ii aM),(ii aT),(ii aY),(.sla 2 6 0 (P6 aJ).length (.un 6))] (.flat (Zz aH))))) (L3 (by first | rfl | simp only [As,Au,AI]))) (pp (xL (aJ.length+1) (P6 aJ).length) (pp (xS (aJ.length+1) (Zo (Zz aJ) 0 aJ.length 6 [(ii 0),(ii 0),(ii 0),(ii 0),(ii 0),(ii 0)]) (Zz (P6 aJ))) (pp (fl aH (fl aV (pp (xF (Zo (Zz aJ) 0 aJ.length 6 [(ii 0),(ii 0),(ii 0),(ii 0),(ii 0),(ii 0)])) nn))) (ww o1 (tt k1 (ww o0 (ww o1 (tt k1 (ww aG (tt k0 nn))))))))))))))) (fun k1=>trivial)))))
 | .h11 v9 v158 v159 v160 aD=>(lb (fun k0=>(lo fun o0=>(lo fun o1=>(sl Zb 51 [] ⟨[0,1,2],[],u7e,u7g⟩ b7 [true] (pp (fl v9 (fl v158 nn)) (ww o1 (ww o0 (tt k0 nn)))))))) (fun k0=>(lo fun aG=>(lo fun aU=>let a:=pp (xw aG) nn;(lb (fun k1=>(lr 213 12 [1,1,1,1,1,1,1,1,1,1,1,0,1,1,0,0] 1 10 [(2,.nils),(3,(ii (Ui (Cd B4 (v9.length) (fun k=>(Zz v9) (0+k))))))] (sl Zb 26 [] (b8 [2,3]) b7 (bl 2 2) (tt k1 (pp (pp a (pp (xI B4 (v9.length) (fun k=>(Zz v9) (0+k))) (xw aU))) (tt k0 nn)))))) (fun k1=>(lr 213 3 [1,1,1,1,1,1,0] 1 10 [(2,(.dat v9.length (Zz v9))),(3,(ii 0))] (sl Zb 27 [] ⟨[],[0],[some [2,3]],[]⟩ ⟨[(2,.frz v9.length v9.length (Zz v9) (Zz v9))],[],[]⟩ (bl 2 0) (pp (xZ (DU 7 7 0 v9.length v9.length (Zz v9)) v9.length (Zz v9)) (pp (xL v9.length v9.length) (pp (xS v9.length (Zz v9) (Zz v9)) (pp (fl v9 nn) (tt k1 (pp (pp a (pp (xI B4 (v9.length) (fun k=>(Zz v9) (0+k))) (xw aU))) (tt k0 nn)))))))))))))))
 | .h12 =>(lb (fun k0=>(lo fun aG=>(lo fun aU=>let c:=ww aU (ww aG (tt k0 nn));(lb (fun k1=>(lr 213 12 [1,1,1,1,1,1,1,1,0,1,0,0,1,1,0,0,1,1,0,1,0,1,1,0,1,0,0] 1 10 [(2,.nils),(3,(ii 12))] (sl Zb 70 [] (b8 [2,3]) b7 (CA 10 (bl 6 62)) (tt k1 c)))) (fun k1=>(lo fun bH=>let a:=ww bH (tt k1 c);(lb (fun k2=>(lr 213 12 [1,1,1,1,1,1,1,1,0,1,0,0,1,1,0,0,1,1,0,1,0,1,1,0,1,0,0] 1 10 [(2,.nils),(3,(ii 12))] (sl Zb 70 [] (b8 [2,3]) b7 (bl 16 64481) (tt k2 a)))) (fun k2=>(lb (fun k3=>(lr 213 12 [1,1,1,1,1,1,1,1,0,1,0,0,1,1,0,0,1,1,0,1,0,1,1,0,1,0,0] 1 10 [(2,.nils),(3,(ii 12))] (sl Zb 70 [] (b8 [2,3]) b7 (bl 16 64385) (tt k3 (tt k2 a))))) (fun k3=>let e:=tt k3 (tt k2 a);(lb (fun k4=>(lr 213 12 [1,1,1,1,1,1,1,1,0,1,0,0,1,1,0,0,1,1,0,1,0,1,1,0,1,0,0] 1 10 [(2,.nils),(3,(ii 12))] (sl Zb 70 [] (b8 [2,3]) b7 (bl 16 64001) (tt k4 e)))) (fun k4=>(sl Zb 64 [] ⟨[0,1,2],[],Mr,ND⟩ b7 (bl 10 1) (tt k4 e)))))))))))))) (fun k0=>(lb (fun k1=>(lr 213 12 [1,1,1,1,1,1,1,1,0,1,0,0,1,1,0,0,1,1,0,1,0,1,1,0,1,0,0] 1 10 [(2,.nils),(3,(ii 12))] (sl Zb 29 [] (b8 [2,3]) b7 (bl 7 112) (tt k1 (tt k0 nn))))) (fun k1=>let d:=tt k1 (tt k0 nn);(lb (fun k2=>(lr 213 12 [1,1,1,1,1,1,1,1,0,1,0,0,1,1,0,0,1,1,0,1,0,1,1,0,1,0,0] 1 10 [(2,.nils),(3,(ii 12))] (sl Zb 29 [] (b8 [2,3]) b7 (bl 7 64) (tt k2 d)))) (fun k2=>(lo fun o0=>(lo fun o1=>(lo fun o2=>let b:=xL 1 ([(rd (Yu x0) 1)]:List (List UInt8)).length;let f:=rd (Yu x0) 1;let g:=List UInt8;(sl Zb 41 [(79,6,Zz ([]:List R6))] ⟨[3,4,5],[],Dr,Dq⟩ ⟨[(10,.len ([f]:List g).length)],[.rws (.one ([]:List B4).length [(.str []),(ii 0),(.int .u8 (Uj x0)),(ii (Jy x0)),(ii (FW x0)),(ii 0),(.sla 2 6 0 ([]:List R6).length (.un 6))] (.flat G4)),.rowed 1 ([f]:List g).length (G3 x0),.keep],[]⟩ (bl 7 0) (pp b (pp (xG (DR 1 (Yx (fun _=>[]) 0 (fun k=>([(.str []),(ii 0),(.int .u8 (Uj x0)),(ii (Jy x0)),(ii (FW x0)),(ii 0),.nils].drop (k*7)).take 7)) (CI.get (.one ([]:List B4).length [(.str []),(ii 0),(.int .u8 (Uj x0)),(ii (Jy x0)),(ii (FW x0)),(ii 0),(.sla 2 6 0 ([]:List R6).length (.un 6))] (.flat G4)))) QX) (pp b (pp (xS 1 (Yx (fun _=>[]) 0 (fun k=>([(.str (rd (Yu x0) 1))].drop (k*1)).take 1)) (G3 x0)) (pp (pp (xF (Yx (fun _=>[]) 0 (fun k=>([(.str []),(ii 0),(.int .u8 (Uj x0)),(ii (Jy x0)),(ii (FW x0)),(ii 0),.nils].drop (k*7)).take 7))) (pp (xF (Yx (fun _=>[]) 0 (fun k=>([(.str (rd (Yu x0) 1))].drop (k*1)).take 1))) (fl ([]:List R6) nn))) (pp (pp nn (pp (xG (Kr 1 1 (fun k=>([(.str (rd (Yu x0) 1))].drop (k*1)).take 1)) (Wq (by rfl) (by rfl))) (xw o2))) (ww o1 (pp (pp nn (pp (xG (Kr 7 1 (fun k=>([(.str []),(ii 0),(.int .u8 (Uj x0)),(ii (Jy x0)),(ii (FW x0)),(ii 0),.nils].drop (k*7)).take 7)) (Wq (by rfl) (by rfl))) (xw o0))) (tt k2 d)))))))))))))))))))
 | .h13 v14 v15 aE aN bI cB aD aP aQ aR aS aL aF=>(lb (fun k0=>(lo fun aG=>(lo fun aU=>let f:=ww aU (ww aG (tt k0 nn));(lb (fun k1=>(lr 213 12 [1,1,1,1,1,1,1,1,0,1,0,0,1,1,0,0,1,1,0,1,0,1,1,0,1,0,0] 1 10 [(2,.nils),(3,(ii 12))] (sl Zb 70 [] (b8 [2,3]) b7 (CA 10 (bl 6 62)) (tt k1 f)))) (fun k1=>(lo fun bH=>let a:=ww bH (tt k1 f);(lb (fun k2=>(lr 213 12 [1,1,1,1,1,1,1,1,0,1,0,0,1,1,0,0,1,1,0,1,0,1,1,0,1,0,0] 1 10 [(2,.nils),(3,(ii 12))] (sl Zb 70 [] (b8 [2,3]) b7 (bl 16 64481) (tt k2 a)))) (fun k2=>(lb (fun k3=>(lr 213 12 [1,1,1,1,1,1,1,1,0,1,0,0,1,1,0,0,1,1,0,1,0,1,1,0,1,0,0] 1 10 [(2,.nils),(3,(ii 12))] (sl Zb 70 [] (b8 [2,3]) b7 (bl 16 64385) (tt k3 (tt k2 a))))) (fun k3=>let h:=tt k3 (tt k2 a);(lb (fun k4=>(lr 213 12 [1,1,1,1,1,1,1,1,0,1,0,0,1,1,0,0,1,1,0,1,0,1,1,0,1,0,0] 1 10 [(2,.nils),(3,(ii 12))] (sl Zb 70 [] (b8 [2,3]) b7 (bl 16 64001) (tt k4 h)))) (fun k4=>(sl Zb 64 [] ⟨(List.range 6),[],Mq,NC⟩ b7 (bl 10 1) (pp (fl aF (fl aL (fl aE nn))) (tt k4 h))))))))))))))) (fun k0=>(lb (fun k1=>(lr 213 12 [1,1,1,1,1,1,1,1,0,1,0,0,1,1,0,0,1,1,0,1,0,1,1,0,1,0,0] 1 10 [(2,.nils),(3,(ii 12))] (sl Zb 29 [] (b8 [2,3]) b7 (bl 7 112) (tt k1 (tt k0 nn))))) (fun k1=>let g:=tt k1 (tt k0 nn);(lb (fun k2=>(lr 213 12 [1,1,1,1,1,1,1,1,0,1,0,0,1,1,0,0,1,1,0,1,0,1,1,0,1,0,0] 1 10 [(2,.nils),(3,(ii 12))] (sl Zb 29 [] (b8 [2,3]) b7 (bl 7 64) (tt k2 g)))) (fun k2=>let b:=Yv aF aP aQ aR aS aL;let c:=Xx aF aP aQ aR aS aL;let d:=xL (aF.length+1) (Yv aF aP aQ aR aS aL).length;(Wk (sl Zb (C':=⟨⟨213,0,true⟩,none,(Zf prog 12 [1,1,1,1,1,1,1,1,0,1,0,0,1,1,0,0,1,1,0,1,0,1,1,1,0] 1),none,(Zy prog 10),⟨Ye [(9,(.sla 0 7 0 b.length (.un 7))),(10,(.sla 1 1 0 aE.length (.un 1))),(13,(.dat aN.length (Zz aN))),(14,(.ptr 2 0)),(55,(.dat (Vs x0).length (Zz (Vs x0)))),(56,(ii (((Vs x0).length :Nat):Int))),(57,(ii bI))],Xt [⟨rows b.length c,48,some ⟨7,b.length,c⟩⟩,⟨rows aE.length (Zz aE),9,some ⟨1,aE.length,(Zz aE)⟩⟩,⟨[(.str []),(ii 0),(.int .u8 (Vc aD)),(ii 0),(ii 0),(ii 0),.nils],48,none⟩] 0,3,[],true⟩,[],.leaf⟩) 33 [] ⟨[3,5,2],[4],[some [9,10,13,14,55,56,57]],[]⟩ ⟨[(9,.len b.length)],[.rowed 7 b.length c,.keep,.keep],[]⟩ (bl 7 0) (pp d (pp d (pp (xG (Ud (aF.length+1) (CI.get (.one aF.length [(.str []),(ii 0),(.int .u8 aP),(ii aQ),(ii aR),(ii aS),(RP aL)] (.flat (Zz aF)))) (Xx aF aP aQ aR aS aL)) P1) (pp (fl aF (fl aE nn)) (pp (fl aL nn) (tt k2 g))))))) (lo fun o0=>(lo fun o1=>(lo fun o2=>(lo fun o3=>(lo fun o4=>let e:=xL (aE.length+1) (Wg aE aN).length;(sl Zb 8 [(79,6,Zz ([]:List R6))] ⟨[3,4,5],[],Dr,Dq⟩ ⟨[(10,.len (Wg aE aN).length)],[.rws (.one b.length [(.str []),(ii 0),(.int .u8 (Vc aD)),(ii 0),(ii 0),(ii 0),(.sla 2 6 0 ([]:List R6).length (.un 6))] (.flat c)),.rowed 1 (Wg aE aN).length (Zz (Wg aE aN)),.keep],[]⟩ [] (pp e (pp (xG (DR ((Yv aF aP aQ aR aS aL).length +1) (Yx (fun k=>(Xx aF aP aQ aR aS aL) (0+k)) (Yv aF aP aQ aR aS aL).length (fun k=>([(.str []),(ii 0),(.int .u8 (Vc aD)),(ii 0),(ii 0),(ii 0),.nils].drop (k*7)).take 7)) (CI.get (.one (Yv aF aP aQ aR aS aL).length [(.str []),(ii 0),(.int .u8 (Vc aD)),(ii 0),(ii 0),(ii 0),(.sla 2 6 0 ([]:List R6).length (.un 6))] (.flat (Xx aF aP aQ aR aS aL))))) QM) (pp e (pp (xS (aE.length+1) (Yx (fun k=>(Zz aE) (0+k)) aE.length (fun k=>([(.str (rd aN 1))].drop (k*1)).take 1)) (Zz (Wg aE aN))) (pp (pp (xF (Yx (fun k=>(Xx aF aP aQ aR aS aL) (0+k)) (Yv aF aP aQ aR aS aL).length (fun k=>([(.str []),(ii 0),(.int .u8 (Vc aD)),(ii 0),(ii 0),(ii 0),.nils].drop (k*7)).take 7))) (pp (xF (Yx (fun k=>(Zz aE) (0+k)) aE.length (fun k=>([(.str (rd aN 1))].drop (k*1)).take 1))) (fl ([]:List R6) nn))) (pp (pp (xw o4) (pp (xG (Kr 1 1 (fun k=>([(.str (rd aN 1))].drop (k*1)).take 1)) (Wq (by rfl) (by rfl))) (xw o3))) (ww o2 (pp (pp (xw o1) (pp (xG (Kr 7 1 (fun k=>([(.str []),(ii 0),(.int .u8 (Vc aD)),(ii 0),(ii 0),(ii 0),.nils].drop (k*7)).take 7)) (Wq (by rfl) (by rfl))) (xw o0))) nn)))))))))))))))))))))
 | .h14 v14 v15 bX aV bM bK aD bA aM aT aY aJ aH=>(lb (fun k0=>(lo fun aG=>(lo fun aU=>let c:=ww aU (ww aG (tt k0 nn));(lb (fun k1=>(lr 213 12 [1,1,1,1,1,1,1,1,0,1,0,0,1,1,0,0,1,1,0,1,1,1,0,1,0,1,0,0] 1 10 [(2,.nils),(3,(ii 12))] (sl Zb 82 [] (b8 [2,3]) b7 (CA 11 []) (tt k1 c)))) (fun k1=>(lo fun bH=>let a:=ww bH (tt k1 c);(lb (fun k2=>(lr 213 12 [1,1,1,1,1,1,1,1,0,1,0,0,1,1,0,0,1,1,0,1,1,1,0,1,0,1,0,0] 1 10 [(2,.nils),(3,(ii 12))] (sl Zb 82 [] (b8 [2,3]) b7 (bl 11 2017) (tt k2 a)))) (fun k2=>(lb (fun k3=>(lr 213 12 [1,1,1,1,1,1,1,1,0,1,0,0,1,1,0,0,1,1,0,1,1,1,0,1,0,1,0,0] 1 10 [(2,.nils),(3,(ii 12))] (sl Zb 82 [] (b8 [2,3]) b7 (bl 11 1921) (tt k3 (tt k2 a))))) (fun k3=>let d:=tt k3 (tt k2 a);(lb (fun k4=>(lr 213 12 [1,1,1,1,1,1,1,1,0,1,0,0,1,1,0,0,1,1,0,1,1,1,0,1,0,1,0,0] 1 10 [(2,.nils),(3,(ii 12))] (sl Zb 82 [] (b8 [2,3]) b7 (bl 11 1537) (tt k4 d)))) (fun k4=>(sl Zb 64 [] ⟨(List.range 5),[],Mp,NB⟩ b7 (bl 10 1) (pp (fl aH (fl aJ (fl aV nn))) (tt k4 d))))))))))))))) (fun k0=>(lo fun aG=>(lb (fun k1=>(lo fun o0=>(lo fun o1=>let b:=aJ++[(R6.mk aD 0 0 0 0 0)];(sl Zb 54 [] ⟨[2,4,7],[],Dr,Dq⟩ ⟨[],[.rws (.one aH.length [(.str []),(ii 0),(.int .u8 bA),(ii aM),(ii aT),(ii aY),(.sla 2 6 0 b.length (.un 6))] (.flat (Zz aH))),.keep,.rowed 6 b.length (Zz b)],[]⟩ (bl 4 12) (pp (xG (DR (aH.length+1) (CI.get (.one aH.length [(.str []),(ii 0),(.int .u8 bA),(ii aM),(ii aT),(ii aY),(.sla 2 6 0 (aJ.length+1) (.un 6))] (.flat (Zz aH)))) (CI.get (.one aH.length [(.str []),(ii 0),(.int .u8 bA),(ii aM),(ii aT),(ii aY),(.sla 2 6 0 (aJ++[(R6.mk aD 0 0 0 0 0)]).length (.un 6))] (.flat (Zz aH))))) (L3 (by first | rfl | simp only [As,Au,AI]))) (pp (xL (aJ.length+1) (aJ++[(R6.mk aD 0 0 0 0 0)]).length) (pp (xS (aJ.length+1) (Zo (Zz aJ) 0 aJ.length 6 [(ii aD),(ii 0),(ii 0),(ii 0),(ii 0),(ii 0)]) (Zz (aJ++[(R6.mk aD 0 0 0 0 0)]))) (pp (fl aH (fl aV (pp (xF (Zo (Zz aJ) 0 aJ.length 6 [(ii aD),(ii 0),(ii 0),(ii 0),(ii 0),(ii 0)])) nn))) (ww o1 (tt k1 (ww o0 (ww o1 (tt k1 (ww aG (tt k0 nn))))))))))))))) (fun k1=>trivial)))))
 | .h15 v0 v5 dV aB aA bB cG cK cY cZ dQ aD=>(lb (fun k0=>(lo fun aG=>let i:=ww aG (tt k0 nn);(lb (fun k1=>(lo fun bH=>(lo fun dT=>(lo fun eD=>(lo fun eH=>let c:=tt k0 (tt k1 i);(lb (fun k2=>(lr 213 12 [1,1,1,1,1,1,1,1,1,1,0,1,0,0,1,1,0,0,1,1,1,1,0,1,0,0] 1 10 [(2,.nils),(3,(ii 6))] (sl Zb 60 [] (b8 [2,3]) b7 (CA 4 []) (tt k2 (pp (pp nn (pp (xw eH) (pp (xG (decide (bB.length<=bB.length)) (Aa (Ak _))) (xG (decide ((tn (wr (v5+1)))<=bB.length)))))) (pp (pp (xw dT) (pp nn (pp (xG (decide ((tn v5)<=bB.length))) (xG (decide (0<=(tn v5))))))) c)))))) (fun k2=>(lo fun cS=>(lo fun dW=>let a:=Q1 aB aA aD bB v5;(lb (fun k3=>let e:=xL aB.length (Q1 aB aA aD bB v5).length;(sl Zb 100 [] ⟨[0,1,2],[],Rk,Rj⟩ ⟨[(9,.len a.length)],[.rowed 7 a.length (Zz a),.keep,.keep],[]⟩ (CA 3 (bl 2 2)) (pp e (pp e (pp (xS aB.length (Xw (Xw (Zz aB) (0+(tn aA)) 1 [(ii (getK 0 aD ((bB.drop 0).take (tn v5))))]) (0+(tn aA)) 0 [(.str (WN bB v5))]) (Zz (Q1 aB aA aD bB v5))) (pp (pp (xF (Xw (Xw (Zz aB) (0+(tn aA)) 1 [(ii (getK 0 aD ((bB.drop 0).take (tn v5))))]) (0+(tn aA)) 0 [(.str (WN bB v5))])) (fl cK nn)) (tt k3 (ww dW (ww cS (ww dW (ww cS (tt k2 (pp (pp nn (pp (xw eH) (pp (xG (decide (bB.length<=bB.length)) (Aa (Ak _))) (xG (decide ((tn (wr (v5+1)))<=bB.length)))))) (pp (pp (xw dT) (pp nn (pp (xG (decide ((tn v5)<=bB.length))) (xG (decide (0<=(tn v5))))))) c)))))))))))))) (fun k3=>let f:=xL aB.length (Q1 aB aA aD bB v5).length;(sl Zb 95 [] ⟨[0,1,2],[],Rk,Rj⟩ ⟨[(9,.len a.length)],[.rowed 7 a.length (Zz a),.keep,.keep],[]⟩ (CA 3 (bl 2 0)) (pp f (pp f (pp (xS aB.length (Xw (Xw (Zz aB) (0+(tn aA)) 1 [(ii (getK 0 aD ((bB.drop 0).take (tn v5))))]) (0+(tn aA)) 0 [(.str (WN bB v5))]) (Zz (Q1 aB aA aD bB v5))) (pp (pp (xF (Xw (Xw (Zz aB) (0+(tn aA)) 1 [(ii (getK 0 aD ((bB.drop 0).take (tn v5))))]) (0+(tn aA)) 0 [(.str (WN bB v5))])) (fl cK nn)) (tt k3 (ww dW (ww cS (ww dW (ww cS (tt k2 (pp (pp nn (pp (xw eH) (pp (xG (decide (bB.length<=bB.length)) (Aa (Ak _))) (xG (decide ((tn (wr (v5+1)))<=bB.length)))))) (pp (pp (xw dT) (pp nn (pp (xG (decide ((tn v5)<=bB.length))) (xG (decide (0<=(tn v5))))))) c)))))))))))))))))))))))) (fun k1=>(sl Zb 27 [] ⟨[0,1,2],[],u7e,u7g⟩ b7 (bl 2 1) (pp (fl aB (fl cK nn)) (tt k1 i))))))) (fun k0=>(lb (fun k1=>(lr 213 12 [1,1,1,1,1,1,1,1,1,1,0,1,0,0,1,1,0,0,1,1,1,1,0,1,0,0] 1 10 [(2,.nils),(3,(ii 6))] (sl Zb 48 [] (b8 [2,3]) b7 (bl 3 4) (tt k1 (tt k0 nn))))) (fun k1=>(lo fun bH=>(lo fun dT=>let b:=RC aB aA aD cG;let d:=ww dT (ww bH (ww dT (ww bH (tt k1 (tt k0 nn)))));(lb (fun k2=>let g:=xL aB.length (RC aB aA aD cG).length;(sl Zb 88 [] ⟨[0,1,2],[],Rk,Rj⟩ ⟨[(9,.len b.length)],[.rowed 7 b.length (Zz b),.keep,.keep],[]⟩ (bl 4 8) (pp g (pp g (pp (xS aB.length (Xw (Xw (Zz aB) (0+(tn aA)) 1 [(ii (getK 0 aD ([]:List UInt8)))]) (0+(tn aA)) 0 [(.str cG)]) (Zz (RC aB aA aD cG))) (pp (pp (xF (Xw (Xw (Zz aB) (0+(tn aA)) 1 [(ii (getK 0 aD ([]:List UInt8)))]) (0+(tn aA)) 0 [(.str cG)])) (fl cK nn)) (tt k2 d))))))) (fun k2=>let h:=xL aB.length (RC aB aA aD cG).length;(sl Zb 83 [] ⟨[0,1,2],[],Rk,Rj⟩ ⟨[(9,.len b.length)],[.rowed 7 b.length (Zz b),.keep,.keep],[]⟩ (bl 4 0) (pp h (pp h (pp (xS aB.length (Xw (Xw (Zz aB) (0+(tn aA)) 1 [(ii (getK 0 aD ([]:List UInt8)))]) (0+(tn aA)) 0 [(.str cG)]) (Zz (RC aB aA aD cG))) (pp (pp (xF (Xw (Xw (Zz aB) (0+(tn aA)) 1 [(ii (getK 0 aD ([]:List UInt8)))]) (0+(tn aA)) 0 [(.str cG)])) (fl cK nn)) (tt k2 d))))))))))))))
 | .h16 =>(lb (fun k0=>(lo fun aG=>(lo fun aU=>let c:=ww aU (ww aG (tt k0 nn));(lb (fun k1=>(lr 213 12 [1,1,1,1,1,1,1,1,0,1,0,0,1,1,0,0,1,1,0,1,0,1,1,0,1,0,0] 1 10 [(2,.nils),(3,(ii 12))] (sl Zb 70 [] (b8 [2,3]) b7 (CA 10 (bl 6 62)) (tt k1 c)))) (fun k1=>(lo fun bH=>let a:=ww bH (tt k1 c);(lb (fun k2=>(lr 213 12 [1,1,1,1,1,1,1,1,0,1,0,0,1,1,0,0,1,1,0,1,0,1,1,0,1,0,0] 1 10 [(2,.nils),(3,(ii 12))] (sl Zb 70 [] (b8 [2,3]) b7 (bl 16 64481) (tt k2 a)))) (fun k2=>(lb (fun k3=>(lr 213 12 [1,1,1,1,1,1,1,1,0,1,0,0,1,1,0,0,1,1,0,1,0,1,1,0,1,0,0] 1 10 [(2,.nils),(3,(ii 12))] (sl Zb 70 [] (b8 [2,3]) b7 (bl 16 64385) (tt k3 (tt k2 a))))) (fun k3=>(lb (fun k4=>(lr 213 12 [1,1,1,1,1,1,1,1,0,1,0,0,1,1,0,0,1,1,0,1,0,1,1,0,1,0,0] 1 10 [(2,.nils),(3,(ii 12))] (sl Zb 70 [] (b8 [2,3]) b7 (bl 16 64001) (tt k4 (tt k3 (tt k2 a)))))) (fun k4=>trivial)))))))))))) (fun k0=>(lb (fun k1=>(lr 213 12 [1,1,1,1,1,1,1,1,0,1,0,0,1,1,0,0,1,1,0,1,0,1,1,0,1,0,0] 1 10 [(2,.nils),(3,(ii 12))] (sl Zb 29 [] (b8 [2,3]) b7 (bl 7 112) (tt k1 (tt k0 nn))))) (fun k1=>let d:=tt k1 (tt k0 nn);(lb (fun k2=>(lr 213 12 [1,1,1,1,1,1,1,1,0,1,0,0,1,1,0,0,1,1,0,1,0,1,1,0,1,0,0] 1 10 [(2,.nils),(3,(ii 12))] (sl Zb 29 [] (b8 [2,3]) b7 (bl 7 64) (tt k2 d)))) (fun k2=>(lo fun o0=>(lo fun o1=>(lo fun o2=>let b:=xL 1 ([(rd (Yu x0) 1)]:List (List UInt8)).length;let e:=rd (Yu x0) 1;let f:=List UInt8;(sl Zb 41 [(79,6,Zz ([]:List R6))] ⟨[3,4,5],[],Dr,Dq⟩ ⟨[(10,.len ([e]:List f).length)],[.rws (.one ([]:List B4).length [(.str []),(ii 0),(.int .u8 (Uj x0)),(ii (Jy x0)),(ii (FW x0)),(ii (Za (rd (Yu x0) 5))),(.sla 2 6 0 ([]:List R6).length (.un 6))] (.flat G4)),.rowed 1 ([e]:List f).length (G3 x0),.keep],[]⟩ (bl 7 0) (pp b (pp (xG (DR 1 (Yx (fun _=>[]) 0 (fun k=>([(.str []),(ii 0),(.int .u8 (Uj x0)),(ii (Jy x0)),(ii (FW x0)),(ii (Za (rd (Yu x0) 5))),.nils].drop (k*7)).take 7)) (CI.get (.one ([]:List B4).length [(.str []),(ii 0),(.int .u8 (Uj x0)),(ii (Jy x0)),(ii (FW x0)),(ii (Za (rd (Yu x0) 5))),(.sla 2 6 0 ([]:List R6).length (.un 6))] (.flat G4)))) QX) (pp b (pp (xS 1 (Yx (fun _=>[]) 0 (fun k=>([(.str (rd (Yu x0) 1))].drop (k*1)).take 1)) (G3 x0)) (pp (pp (xF (Yx (fun _=>[]) 0 (fun k=>([(.str []),(ii 0),(.int .u8 (Uj x0)),(ii (Jy x0)),(ii (FW x0)),(ii (Za (rd (Yu x0) 5))),.nils].drop (k*7)).take 7))) (pp (xF (Yx (fun _=>[]) 0 (fun k=>([(.str (rd (Yu x0) 1))].drop (k*1)).take 1))) (fl ([]:List R6) nn))) (pp (pp nn (pp (xG (Kr 1 1 (fun k=>([(.str (rd (Yu x0) 1))].drop (k*1)).take 1)) (Wq (by rfl) (by rfl))) (xw o2))) (ww o1 (pp (pp nn (pp (xG (Kr 7 1 (fun k=>([(.str []),(ii 0),(.int .u8 (Uj x0)),(ii (Jy x0)),(ii (FW x0)),(ii (Za (rd (Yu x0) 5))),.nils].drop (k*7)).take 7)) (Wq (by rfl) (by rfl))) (xw o0))) (tt k2 d)))))))))))))))))))
 | .h17 v14 v15 aE aN bI cB aD aM aP aQ aR aS aL aF=>(lb (fun k0=>(lo fun aG=>(lo fun aU=>let f:=ww aU (ww aG (tt k0 nn));(lb (fun k1=>(lr 213 12 [1,1,1,1,1,1,1,1,0,1,0,0,1,1,0,0,1,1,0,1,0,1,1,0,1,0,0] 1 10 [(2,.nils),(3,(ii 12))] (sl Zb 70 [] (b8 [2,3]) b7 (CA 10 (bl 6 62)) (tt k1 f)))) (fun k1=>(lo fun bH=>let a:=ww bH (tt k1 f);(lb (fun k2=>(lr 213 12 [1,1,1,1,1,1,1,1,0,1,0,0,1,1,0,0,1,1,0,1,0,1,1,0,1,0,0] 1 10 [(2,.nils),(3,(ii 12))] (sl Zb 70 [] (b8 [2,3]) b7 (bl 16 64481) (tt k2 a)))) (fun k2=>(lb (fun k3=>(lr 213 12 [1,1,1,1,1,1,1,1,0,1,0,0,1,1,0,0,1,1,0,1,0,1,1,0,1,0,0] 1 10 [(2,.nils),(3,(ii 12))] (sl Zb 70 [] (b8 [2,3]) b7 (bl 16 64385) (tt k3 (tt k2 a))))) (fun k3=>let h:=tt k3 (tt k2 a);(lb (fun k4=>(lr 213 12 [1,1,1,1,1,1,1,1,0,1,0,0,1,1,0,0,1,1,0,1,0,1,1,0,1,0,0] 1 10 [(2,.nils),(3,(ii 12))] (sl Zb 70 [] (b8 [2,3]) b7 (bl 16 64001) (tt k4 h)))) (fun k4=>(sl Zb 64 [] ⟨(List.range 6),[],Mo,NA⟩ b7 (bl 10 1) (pp (fl aF (fl aL (fl aE nn))) (tt k4 h))))))))))))))) (fun k0=>(lb (fun k1=>(lr 213 12 [1,1,1,1,1,1,1,1,0,1,0,0,1,1,0,0,1,1,0,1,0,1,1,0,1,0,0] 1 10 [(2,.nils),(3,(ii 12))] (sl Zb 29 [] (b8 [2,3]) b7 (bl 7 112) (tt k1 (tt k0 nn))))) (fun k1=>let g:=tt k1 (tt k0 nn);(lb (fun k2=>(lr 213 12 [1,1,1,1,1,1,1,1,0,1,0,0,1,1,0,0,1,1,0,1,0,1,1,0,1,0,0] 1 10 [(2,.nils),(3,(ii 12))] (sl Zb 29 [] (b8 [2,3]) b7 (bl 7 64) (tt k2 g)))) (fun k2=>let b:=Yv aF aP aQ aR aS aL;let c:=Xx aF aP aQ aR aS aL;let d:=xL (aF.length+1) (Yv aF aP aQ aR aS aL).length;(Wk (sl Zb (C':=⟨⟨213,0,true⟩,none,(Zf prog 12 [1,1,1,1,1,1,1,1,0,1,0,0,1,1,0,0,1,1,0,1,0,1,1,1,0] 1),none,(Zy prog 10),⟨Ye [(9,(.sla 0 7 0 b.length (.un 7))),(10,(.sla 1 1 0 aE.length (.un 1))),(13,(.dat aN.length (Zz aN))),(14,(.ptr 2 0)),(55,(.dat (Vs x0).length (Zz (Vs x0)))),(56,(ii (((Vs x0).length :Nat):Int))),(57,(ii bI))],Xt [⟨rows b.length c,48,some ⟨7,b.length,c⟩⟩,⟨rows aE.length (Zz aE),9,some ⟨1,aE.length,(Zz aE)⟩⟩,⟨[(.str []),(ii 0),(.int .u8 (Vc aD)),(ii aM),(ii 0),(ii 0),.nils],48,none⟩] 0,3,[],true⟩,[],.leaf⟩) 33 [] ⟨[3,5,2],[4],[some [9,10,13,14,55,56,57]],[]⟩ ⟨[(9,.len b.length)],[.rowed 7 b.length c,.keep,.keep],[]⟩ (bl 7 0) (pp d (pp d (pp (xG (Ud (aF.length+1) (CI.get (.one aF.length [(.str []),(ii 0),(.int .u8 aP),(ii aQ),(ii aR),(ii aS),(RP aL)] (.flat (Zz aF)))) (Xx aF aP aQ aR aS aL)) P1) (pp (fl aF (fl aE nn)) (pp (fl aL nn) (tt k2 g))))))) (lo fun o0=>(lo fun o1=>(lo fun o2=>(lo fun o3=>(lo fun o4=>let e:=xL (aE.length+1) (Wg aE aN).length;(sl Zb 8 [(79,6,Zz ([]:List R6))] ⟨[3,4,5],[],Dr,Dq⟩ ⟨[(10,.len (Wg aE aN).length)],[.rws (.one b.length [(.str []),(ii 0),(.int .u8 (Vc aD)),(ii aM),(ii 0),(ii 0),(.sla 2 6 0 ([]:List R6).length (.un 6))] (.flat c)),.rowed 1 (Wg aE aN).length (Zz (Wg aE aN)),.keep],[]⟩ [] (pp e (pp (xG (DR ((Yv aF aP aQ aR aS aL).length +1) (Yx (fun k=>(Xx aF aP aQ aR aS aL) (0+k)) (Yv aF aP aQ aR aS aL).length (fun k=>([(.str []),(ii 0),(.int .u8 (Vc aD)),(ii aM),(ii 0),(ii 0),.nils].drop (k*7)).take 7)) (CI.get (.one (Yv aF aP aQ aR aS aL).length [(.str []),(ii 0),(.int .u8 (Vc aD)),(ii aM),(ii 0),(ii 0),(.sla 2 6 0 ([]:List R6).length (.un 6))] (.flat (Xx aF aP aQ aR aS aL))))) QM) (pp e (pp (xS (aE.length+1) (Yx (fun k=>(Zz aE) (0+k)) aE.length (fun k=>([(.str (rd aN 1))].drop (k*1)).take 1)) (Zz (Wg aE aN))) (pp (pp (xF (Yx (fun k=>(Xx aF aP aQ aR aS aL) (0+k)) (Yv aF aP aQ aR aS aL).length (fun k=>([(.str []),(ii 0),(.int .u8 (Vc aD)),(ii aM),(ii 0),(ii 0),.nils].drop (k*7)).take 7))) (pp (xF (Yx (fun k=>(Zz aE) (0+k)) aE.length (fun k=>([(.str (rd aN 1))].drop (k*1)).take 1))) (fl ([]:List R6) nn))) (pp (pp (xw o4) (pp (xG (Kr 1 1 (fun k=>([(.str (rd aN 1))].drop (k*1)).take 1)) (Wq (by rfl) (by rfl))) (xw o3))) (ww o2 (pp (pp (xw o1) (pp (xG (Kr 7 1 (fun k=>([(.str []),(ii 0),(.int .u8 (Vc aD)),(ii aM),(ii 0),(ii 0),.nils].drop (k*7)).take 7)) (Wq (by rfl) (by rfl))) (xw o0))) nn)))))))))))))))))))))
 | .h18 v14 v15 bX aV bM bK aD bG bA aM aT aY aJ aH=>(lb (fun k0=>(lo fun aG=>(lo fun aU=>let c:=ww aU (ww aG (tt k0 nn));(lb (fun k1=>(lr 213 12 [1,1,1,1,1,1,1,1,0,1,0,0,1,1,0,0,1,1,0,1,1,1,0,1,0,1,0,0] 1 10 [(2,.nils),(3,(ii 12))] (sl Zb 82 [] (b8 [2,3]) b7 (CA 11 []) (tt k1 c)))) (fun k1=>(lo fun bH=>let a:=ww bH (tt k1 c);(lb (fun k2=>(lr 213 12 [1,1,1,1,1,1,1,1,0,1,0,0,1,1,0,0,1,1,0,1,1,1,0,1,0,1,0,0] 1 10 [(2,.nils),(3,(ii 12))] (sl Zb 82 [] (b8 [2,3]) b7 (bl 11 2017) (tt k2 a)))) (fun k2=>(lb (fun k3=>(lr 213 12 [1,1,1,1,1,1,1,1,0,1,0,0,1,1,0,0,1,1,0,1,1,1,0,1,0,1,0,0] 1 10 [(2,.nils),(3,(ii 12))] (sl Zb 82 [] (b8 [2,3]) b7 (bl 11 1921) (tt k3 (tt k2 a))))) (fun k3=>let d:=tt k3 (tt k2 a);(lb (fun k4=>(lr 213 12 [1,1,1,1,1,1,1,1,0,1,0,0,1,1,0,0,1,1,0,1,1,1,0,1,0,1,0,0] 1 10 [(2,.nils),(3,(ii 12))] (sl Zb 82 [] (b8 [2,3]) b7 (bl 11 1537) (tt k4 d)))) (fun k4=>(sl Zb 64 [] ⟨(List.range 5),[],Mn,Mz⟩ b7 (bl 10 1) (pp (fl aH (fl aJ (fl aV nn))) (tt k4 d))))))))))))))) (fun k0=>(lo fun aG=>(lb (fun k1=>(lo fun o0=>(lo fun o1=>let b:=aJ++[(R6.mk aD bG 0 0 0 0)];(sl Zb 54 [] ⟨[2,4,7],[],Dr,Dq⟩ ⟨[],[.rws (.one aH.length [(.str []),(ii 0),(.int .u8 bA),(ii aM),(ii aT),(ii aY),(.sla 2 6 0 b.length (.un 6))] (.flat (Zz aH))),.keep,.rowed 6 b.length (Zz b)],[]⟩ (bl 4 12) (pp (xG (DR (aH.length+1) (CI.get (.one aH.length [(.str []),(ii 0),(.int .u8 bA),(ii aM),(ii aT),(ii aY),(.sla 2 6 0 (aJ.length+1) (.un 6))] (.flat (Zz aH)))) (CI.get (.one aH.length [(.str []),(ii 0),(.int .u8 bA),(ii aM),(ii aT),(ii aY),(.sla 2 6 0 (aJ++[(R6.mk aD bG 0 0 0 0)]).length (.un 6))] (.flat (Zz aH))))) (L3 (by first | rfl | simp only [As,Au,AI]))) (pp (xL (aJ.length+1) (aJ++[(R6.mk aD bG 0 0 0 0)]).length) (pp (xS (aJ.length+1) (Zo (Zz aJ) 0 aJ.length 6 [(ii aD),(ii bG),(ii 0),(ii 0),(ii 0),(ii 0)]) (Zz (aJ++[(R6.mk aD bG 0 0 0 0)]))) (pp (fl aH (fl aV (pp (xF (Zo (Zz aJ) 0 aJ.length 6 [(ii aD),(ii bG),(ii 0),(ii 0),(ii 0),(ii 0)])) nn))) (ww o1 (tt k1 (ww o0 (ww o1 (tt k1 (ww aG (tt k0 nn))))))))))))))) (fun k1=>trivial)))))
 | .h19 v14 v15 aE aN bI cB aD aM aT aP aQ aR aS aL aF=>(lb (fun k0=>(lo fun aG=>(lo fun aU=>let f:=ww aU (ww aG (tt k0 nn));(lb (fun k1=>(lr 213 12 [1,1,1,1,1,1,1,1,0,1,0,0,1,1,0,0,1,1,0,1,0,1,1,0,1,0,0] 1 10 [(2,.nils),(3,(ii 12))] (sl Zb 70 [] (b8 [2,3]) b7 (CA 10 (bl 6 62)) (tt k1 f)))) (fun k1=>(lo fun bH=>let a:=ww bH (tt k1 f);(lb (fun k2=>(lr 213 12 [1,1,1,1,1,1,1,1,0,1,0,0,1,1,0,0,1,1,0,1,0,1,1,0,1,0,0] 1 10 [(2,.nils),(3,(ii 12))] (sl Zb 70 [] (b8 [2,3]) b7 (bl 16 64481) (tt k2 a)))) (fun k2=>(lb (fun k3=>(lr 213 12 [1,1,1,1,1,1,1,1,0,1,0,0,1,1,0,0,1,1,0,1,0,1,1,0,1,0,0] 1 10 [(2,.nils),(3,(ii 12))] (sl Zb 70 [] (b8 [2,3]) b7 (bl 16 64385) (tt k3 (tt k2 a))))) (fun k3=>let h:=tt k3 (tt k2 a);(lb (fun k4=>(lr 213 12 [1,1,1,1,1,1,1,1,0,1,0,0,1,1,0,0,1,1,0,1,0,1,1,0,1,0,0] 1 10 [(2,.nils),(3,(ii 12))] (sl Zb 70 [] (b8 [2,3]) b7 (bl 16 64001) (tt k4 h)))) (fun k4=>(sl Zb 64 [] ⟨(List.range 6),[],Mm,My⟩ b7 (bl 10 1) (pp (fl aF (fl aL (fl aE nn))) (tt k4 h))))))))))))))) (fun k0=>(lb (fun k1=>(lr 213 12 [1,1,1,1,1,1,1,1,0,1,0,0,1,1,0,0,1,1,0,1,0,1,1,0,1,0,0] 1 10 [(2,.nils),(3,(ii 12))] (sl Zb 29 [] (b8 [2,3]) b7 (bl 7 112) (tt k1 (tt k0 nn))))) (fun k1=>let g:=tt k1 (tt k0 nn);(lb (fun k2=>(lr 213 12 [1,1,1,1,1,1,1,1,0,1,0,0,1,1,0,0,1,1,0,1,0,1,1,0,1,0,0] 1 10 [(2,.nils),(3,(ii 12))] (sl Zb 29 [] (b8 [2,3]) b7 (bl 7 64) (tt k2 g)))) (fun k2=>let b:=Yv aF aP aQ aR aS aL;let c:=Xx aF aP aQ aR aS aL;let d:=xL (aF.length+1) (Yv aF aP aQ aR aS aL).length;(Wk (sl Zb (C':=⟨⟨213,0,true⟩,none,(Zf prog 12 [1,1,1,1,1,1,1,1,0,1,0,0,1,1,0,0,1,1,0,1,0,1,1,1,0] 1),none,(Zy prog 10),⟨Ye [(9,(.sla 0 7 0 b.length (.un 7))),(10,(.sla 1 1 0 aE.length (.un 1))),(13,(.dat aN.length (Zz aN))),(14,(.ptr 2 0)),(55,(.dat (Vs x0).length (Zz (Vs x0)))),(56,(ii (((Vs x0).length :Nat):Int))),(57,(ii bI))],Xt [⟨rows b.length c,48,some ⟨7,b.length,c⟩⟩,⟨rows aE.length (Zz aE),9,some ⟨1,aE.length,(Zz aE)⟩⟩,⟨[(.str []),(ii 0),(.int .u8 (Vc aD)),(ii aM),(ii aT),(ii 0),.nils],48,none⟩] 0,3,[],true⟩,[],.leaf⟩) 33 [] ⟨[3,5,2],[4],[some [9,10,13,14,55,56,57]],[]⟩ ⟨[(9,.len b.length)],[.rowed 7 b.length c,.keep,.keep],[]⟩ (bl 7 0) (pp d (pp d (pp (xG (Ud (aF.length+1) (CI.get (.one aF.length [(.str []),(ii 0),(.int .u8 aP),(ii aQ),(ii aR),(ii aS),(RP aL)] (.flat (Zz aF)))) (Xx aF aP aQ aR aS aL)) P1) (pp (fl aF (fl aE nn)) (pp (fl aL nn) (tt k2 g))))))) (lo fun o0=>(lo fun o1=>(lo fun o2=>(lo fun o3=>(lo fun o4=>let e:=xL (aE.length+1) (Wg aE aN).length;(sl Zb 8 [(79,6,Zz ([]:List R6))] ⟨[3,4,5],[],Dr,Dq⟩ ⟨[(10,.len (Wg aE aN).length)],[.rws (.one b.length [(.str []),(ii 0),(.int .u8 (Vc aD)),(ii aM),(ii aT),(ii 0),(.sla 2 6 0 ([]:List R6).length (.un 6))] (.flat c)),.rowed 1 (Wg aE aN).length (Zz (Wg aE aN)),.keep],[]⟩ [] (pp e (pp (xG (DR ((Yv aF aP aQ aR aS aL).length +1) (Yx (fun k=>(Xx aF aP aQ aR aS aL) (0+k)) (Yv aF aP aQ aR aS aL).length (fun k=>([(.str []),(ii 0),(.int .u8 (Vc aD)),(ii aM),(ii aT),(ii 0),.nils].drop (k*7)).take 7)) (CI.get (.one (Yv aF aP aQ aR aS aL).length [(.str []),(ii 0),(.int .u8 (Vc aD)),(ii aM),(ii aT),(ii 0),(.sla 2 6 0 ([]:List R6).length (.un 6))] (.flat (Xx aF aP aQ aR aS aL))))) QM) (pp e (pp (xS (aE.length+1) (Yx (fun k=>(Zz aE) (0+k)) aE.length (fun k=>([(.str (rd aN 1))].drop (k*1)).take 1)) (Zz (Wg aE aN))) (pp (pp (xF (Yx (fun k=>(Xx aF aP aQ aR aS aL) (0+k)) (Yv aF aP aQ aR aS aL).length (fun k=>([(.str []),(ii 0),(.int .u8 (Vc aD)),(ii aM),(ii aT),(ii 0),.nils].drop (k*7)).take 7))) (pp (xF (Yx (fun k=>(Zz aE) (0+k)) aE.length (fun k=>([(.str (rd aN 1))].drop (k*1)).take 1))) (fl ([]:List R6) nn))) (pp (pp (xw o4) (pp (xG (Kr 1 1 (fun k=>([(.str (rd aN 1))].drop (k*1)).take 1)) (Wq (by rfl) (by rfl))) (xw o3))) (ww o2 (pp (pp (xw o1) (pp (xG (Kr 7 1 (fun k=>([(.str []),(ii 0),(.int .u8 (Vc aD)),(ii aM),(ii aT),(ii 0),.nils].drop (k*7)).take 7)) (Wq (by rfl) (by rfl))) (xw o0))) nn)))))))))))))))))))))
 | .h20 v14 v15 bX aV bM bK aD bG bN bA aM aT aY aJ aH=>(lb (fun k0=>(lo fun aG=>(lo fun aU=>let c:=ww aU (ww aG (tt k0 nn));(lb (fun k1=>(lr 213 12 [1,1,1,1,1,1,1,1,0,1,0,0,1,1,0,0,1,1,0,1,1,1,0,1,0,1,0,0] 1 10 [(2,.nils),(3,(ii 12))] (sl Zb 82 [] (b8 [2,3]) b7 (CA 11 []) (tt k1 c)))) (fun k1=>(lo fun bH=>let a:=ww bH (tt k1 c);(lb (fun k2=>(lr 213 12 [1,1,1,1,1,1,1,1,0,1,0,0,1,1,0,0,1,1,0,1,1,1,0,1,0,1,0,0] 1 10 [(2,.nils),(3,(ii 12))] (sl Zb 82 [] (b8 [2,3]) b7 (bl 11 2017) (tt k2 a)))) (fun k2=>(lb (fun k3=>(lr 213 12 [1,1,1,1,1,1,1,1,0,1,0,0,1,1,0,0,1,1,0,1,1,1,0,1,0,1,0,0] 1 10 [(2,.nils),(3,(ii 12))] (sl Zb 82 [] (b8 [2,3]) b7 (bl 11 1921) (tt k3 (tt k2 a))))) (fun k3=>let d:=tt k3 (tt k2 a);(lb (fun k4=>(lr 213 12 [1,1,1,1,1,1,1,1,0,1,0,0,1,1,0,0,1,1,0,1,1,1,0,1,0,1,0,0] 1 10 [(2,.nils),(3,(ii 12))] (sl Zb 82 [] (b8 [2,3]) b7 (bl 11 1537) (tt k4 d)))) (fun k4=>(sl Zb 64 [] ⟨(List.range 5),[],Ml,Mx⟩ b7 (bl 10 1) (pp (fl aH (fl aJ (fl aV nn))) (tt k4 d))))))))))))))) (fun k0=>(lo fun aG=>(lb (fun k1=>(lo fun o0=>(lo fun o1=>let b:=aJ++[(R6.mk aD bG bN 0 0 0)];(sl Zb 54 [] ⟨[2,4,7],[],Dr,Dq⟩ ⟨[],[.rws (.one aH.length [(.str []),(ii 0),(.int .u8 bA),(ii aM),(ii aT),(ii aY),(.sla 2 6 0 b.length (.un 6))] (.flat (Zz aH))),.keep,.rowed 6 b.length (Zz b)],[]⟩ (bl 4 12) (pp (xG (DR (aH.length+1) (CI.get (.one aH.length [(.str []),(ii 0),(.int .u8 bA),(ii aM),(ii aT),(ii aY),(.sla 2 6 0 (aJ.length+1) (.un 6))] (.flat (Zz aH)))) (CI.get (.one aH.length [(.str []),(ii 0),(.int .u8 bA),(ii aM),(ii aT),(ii aY),(.sla 2 6 0 (aJ++[(R6.mk aD bG bN 0 0 0)]).length (.un 6))] (.flat (Zz aH))))) (L3 (by first | rfl | simp only [As,Au,AI]))) (pp (xL (aJ.length+1) (aJ++[(R6.mk aD bG bN 0 0 0)]).length) (pp (xS (aJ.length+1) (Zo (Zz aJ) 0 aJ.length 6 [(ii aD),(ii bG),(ii bN),(ii 0),(ii 0),(ii 0)]) (Zz (aJ++[(R6.mk aD bG bN 0 0 0)]))) (pp (fl aH (fl aV (pp (xF (Zo (Zz aJ) 0 aJ.length 6 [(ii aD),(ii bG),(ii bN),(ii 0),(ii 0),(ii 0)])) nn))) (ww o1 (tt k1 (ww o0 (ww o1 (tt k1 (ww aG (tt k0 nn))))))))))))))) (fun k1=>trivial)))))
 | .h21 v14 v15 aE aN bI cB aD aM aT aY aP aQ aR aS aL aF=>(lb (fun k0=>(lo fun aG=>(lo fun aU=>let f:=ww aU (ww aG (tt k0 nn));(lb (fun k1=>(lr 213 12 [1,1,1,1,1,1,1,1,0,1,0,0,1,1,0,0,1,1,0,1,0,1,1,0,1,0,0] 1 10 [(2,.nils),(3,(ii 12))] (sl Zb 70 [] (b8 [2,3]) b7 (CA 10 (bl 6 62)) (tt k1 f)))) (fun k1=>(lo fun bH=>let b:=ww bH (tt k1 f);(lb (fun k2=>(lr 213 12 [1,1,1,1,1,1,1,1,0,1,0,0,1,1,0,0,1,1,0,1,0,1,1,0,1,0,0] 1 10 [(2,.nils),(3,(ii 12))] (sl Zb 70 [] (b8 [2,3]) b7 (bl 16 64481) (tt k2 b)))) (fun k2=>(lb (fun k3=>(lr 213 12 [1,1,1,1,1,1,1,1,0,1,0,0,1,1,0,0,1,1,0,1,0,1,1,0,1,0,0] 1 10 [(2,.nils),(3,(ii 12))] (sl Zb 70 [] (b8 [2,3]) b7 (bl 16 64385) (tt k3 (tt k2 b))))) (fun k3=>(lb (fun k4=>(lr 213 12 [1,1,1,1,1,1,1,1,0,1,0,0,1,1,0,0,1,1,0,1,0,1,1,0,1,0,0] 1 10 [(2,.nils),(3,(ii 12))] (sl Zb 70 [] (b8 [2,3]) b7 (bl 16 64001) (tt k4 (tt k3 (tt k2 b)))))) (fun k4=>trivial)))))))))))) (fun k0=>(lb (fun k1=>(lr 213 12 [1,1,1,1,1,1,1,1,0,1,0,0,1,1,0,0,1,1,0,1,0,1,1,0,1,0,0] 1 10 [(2,.nils),(3,(ii 12))] (sl Zb 29 [] (b8 [2,3]) b7 (bl 7 112) (tt k1 (tt k0 nn))))) (fun k1=>let g:=tt k1 (tt k0 nn);(lb (fun k2=>(lr 213 12 [1,1,1,1,1,1,1,1,0,1,0,0,1,1,0,0,1,1,0,1,0,1,1,0,1,0,0] 1 10 [(2,.nils),(3,(ii 12))] (sl Zb 29 [] (b8 [2,3]) b7 (bl 7 64) (tt k2 g)))) (fun k2=>let a:=Yv aF aP aQ aR aS aL;let c:=Xx aF aP aQ aR aS aL;let d:=xL (aF.length+1) (Yv aF aP aQ aR aS aL).length;(Wk (sl Zb (C':=⟨⟨213,0,true⟩,none,(Zf prog 12 [1,1,1,1,1,1,1,1,0,1,0,0,1,1,0,0,1,1,0,1,0,1,1,1,0] 1),none,(Zy prog 10),⟨Ye [(9,(.sla 0 7 0 a.length (.un 7))),(10,(.sla 1 1 0 aE.length (.un 1))),(13,(.dat aN.length (Zz aN))),(14,(.ptr 2 0)),(55,(.dat (Vs x0).length (Zz (Vs x0)))),(56,(ii (((Vs x0).length :Nat):Int))),(57,(ii bI))],Xt [⟨rows a.length c,48,some ⟨7,a.length,c⟩⟩,⟨rows aE.length (Zz aE),9,some ⟨1,aE.length,(Zz aE)⟩⟩,⟨[(.str []),(ii 0),(.int .u8 (Vc aD)),(ii aM),(ii aT),(ii aY),.nils],48,none⟩] 0,3,[],true⟩,[],.leaf⟩) 33 [] ⟨[3,5,2],[4],[some [9,10,13,14,55,56,57]],[]⟩ ⟨[(9,.len a.length)],[.rowed 7 a.length c,.keep,.keep],[]⟩ (bl 7 0) (pp d (pp d (pp (xG (Ud (aF.length+1) (CI.get (.one aF.length [(.str []),(ii 0),(.int .u8 aP),(ii aQ),(ii aR),(ii aS),(RP aL)] (.flat (Zz aF)))) (Xx aF aP aQ aR aS aL)) P1) (pp (fl aF (fl aE nn)) (pp (fl aL nn) (tt k2 g))))))) (lo fun o0=>(lo fun o1=>(lo fun o2=>(lo fun o3=>(lo fun o4=>let e:=xL (aE.length+1) (Wg aE aN).length;(sl Zb 8 [(79,6,Zz ([]:List R6))] ⟨[3,4,5],[],Dr,Dq⟩ ⟨[(10,.len (Wg aE aN).length)],[.rws (.one a.length [(.str []),(ii 0),(.int .u8 (Vc aD)),(ii aM),(ii aT),(ii aY),(.sla 2 6 0 ([]:List R6).length (.un 6))] (.flat c)),.rowed 1 (Wg aE aN).length (Zz (Wg aE aN)),.keep],[]⟩ [] (pp e (pp (xG (DR ((Yv aF aP aQ aR aS aL).length +1) (Yx (fun k=>(Xx aF aP aQ aR aS aL) (0+k)) (Yv aF aP aQ aR aS aL).length (fun k=>([(.str []),(ii 0),(.int .u8 (Vc aD)),(ii aM),(ii aT),(ii aY),.nils].drop (k*7)).take 7)) (CI.get (.one (Yv aF aP aQ aR aS aL).length [(.str []),(ii 0),(.int .u8 (Vc aD)),(ii aM),(ii aT),(ii aY),(.sla 2 6 0 ([]:List R6).length (.un 6))] (.flat (Xx aF aP aQ aR aS aL))))) QM) (pp e (pp (xS (aE.length+1) (Yx (fun k=>(Zz aE) (0+k)) aE.length (fun k=>([(.str (rd aN 1))].drop (k*1)).take 1)) (Zz (Wg aE aN))) (pp (pp (xF (Yx (fun k=>(Xx aF aP aQ aR aS aL) (0+k)) (Yv aF aP aQ aR aS aL).length (fun k=>([(.str []),(ii 0),(.int .u8 (Vc aD)),(ii aM),(ii aT),(ii aY),.nils].drop (k*7)).take 7))) (pp (xF (Yx (fun k=>(Zz aE) (0+k)) aE.length (fun k=>([(.str (rd aN 1))].drop (k*1)).take 1))) (fl ([]:List R6) nn))) (pp (pp (xw o4) (pp (xG (Kr 1 1 (fun k=>([(.str (rd aN 1))].drop (k*1)).take 1)) (Wq (by rfl) (by rfl))) (xw o3))) (ww o2 (pp (pp (xw o1) (pp (xG (Kr 7 1 (fun k=>([(.str []),(ii 0),(.int .u8 (Vc aD)),(ii aM),(ii aT),(ii aY),.nils].drop (k*7)).take 7)) (Wq (by rfl) (by rfl))) (xw o0))) nn)))))))))))))))))))))
 | .h22 v14 v15 bX aV bM bK aD bG bN bV bA aM aT aY aJ aH=>(lb (fun k0=>(lo fun aG=>(lo fun aU=>let c:=ww aU (ww aG (tt k0 nn));(lb (fun k1=>(lr 213 12 [1,1,1,1,1,1,1,1,0,1,0,0,1,1,0,0,1,1,0,1,1,1,0,1,0,1,0,0] 1 10 [(2,.nils),(3,(ii 12))] (sl Zb 82 [] (b8 [2,3]) b7 (CA 11 []) (tt k1 c)))) (fun k1=>(lo fun bH=>let a:=ww bH (tt k1 c);(lb (fun k2=>(lr 213 12 [1,1,1,1,1,1,1,1,0,1,0,0,1,1,0,0,1,1,0,1,1,1,0,1,0,1,0,0] 1 10 [(2,.nils),(3,(ii 12))] (sl Zb 82 [] (b8 [2,3]) b7 (bl 11 2017) (tt k2 a)))) (fun k2=>(lb (fun k3=>(lr 213 12 [1,1,1,1,1,1,1,1,0,1,0,0,1,1,0,0,1,1,0,1,1,1,0,1,0,1,0,0] 1 10 [(2,.nils),(3,(ii 12))] (sl Zb 82 [] (b8 [2,3]) b7 (bl 11 1921) (tt k3 (tt k2 a))))) (fun k3=>let d:=tt k3 (tt k2 a);(lb (fun k4=>(lr 213 12 [1,1,1,1,1,1,1,1,0,1,0,0,1,1,0,0,1,1,0,1,1,1,0,1,0,1,0,0] 1 10 [(2,.nils),(3,(ii 12))] (sl Zb 82 [] (b8 [2,3]) b7 (bl 11 1537) (tt k4 d)))) (fun k4=>(sl Zb 64 [] ⟨(List.range 5),[],Mk,Mw⟩ b7 (bl 10 1) (pp (fl aH (fl aJ (fl aV nn))) (tt k4 d))))))))))))))) (fun k0=>(lo fun aG=>(lb (fun k1=>(lo fun o0=>(lo fun o1=>let b:=aJ++[(R6.mk aD bG bN bV 0 0)];(sl Zb 54 [] ⟨[2,4,7],[],Dr,Dq⟩ ⟨[],[.rws (.one aH.length [(.str []),(ii 0),(.int .u8 bA),(ii aM),(ii aT),(ii aY),(.sla 2 6 0 b.length (.un 6))] (.flat (Zz aH))),.keep,.rowed 6 b.length (Zz b)],[]⟩ (bl 4 12) (pp (xG (DR (aH.length+1) (CI.get (.one aH.length [(.str []),(ii 0),(.int .u8 bA),(ii aM),(ii aT),(ii aY),(.sla 2 6 0 (aJ.length+1) (.un 6))] (.flat (Zz aH)))) (CI.get (.one aH.length [(.str []),(ii 0),(.int .u8 bA),(ii aM),(ii aT),(ii aY),(.sla 2 6 0 (aJ++[(R6.mk aD bG bN bV 0 0)]).length (.un 6))] (.flat (Zz aH))))) (L3 (by first | rfl | simp only [As,Au,AI]))) (pp (xL (aJ.length+1) (aJ++[(R6.mk aD bG bN bV 0 0)]).length) (pp (xS (aJ.length+1) (Zo (Zz aJ) 0 aJ.length 6 [(ii aD),(ii bG),(ii bN),(ii bV),(ii 0),(ii 0)]) (Zz (aJ++[(R6.mk aD bG bN bV 0 0)]))) (pp (fl aH (fl aV (pp (xF (Zo (Zz aJ) 0 aJ.length 6 [(ii aD),(ii bG),(ii bN),(ii bV),(ii 0),(ii 0)])) nn))) (ww o1 (tt k1 (ww o0 (ww o1 (tt k1 (ww aG (tt k0 nn))))))))))))))) (fun k1=>trivial)))))
 | .h23 v14 v15 bX aV bM bK aD bG bN bV cR bA aM aT aY aJ aH=>(lb (fun k0=>(lo fun aG=>(lo fun aU=>let c:=ww aU (ww aG (tt k0 nn));(lb (fun k1=>(lr 213 12 [1,1,1,1,1,1,1,1,0,1,0,0,1,1,0,0,1,1,0,1,1,1,0,1,0,1,0,0] 1 10 [(2,.nils),(3,(ii 12))] (sl Zb 82 [] (b8 [2,3]) b7 (CA 11 []) (tt k1 c)))) (fun k1=>(lo fun bH=>let a:=ww bH (tt k1 c);(lb (fun k2=>(lr 213 12 [1,1,1,1,1,1,1,1,0,1,0,0,1,1,0,0,1,1,0,1,1,1,0,1,0,1,0,0] 1 10 [(2,.nils),(3,(ii 12))] (sl Zb 82 [] (b8 [2,3]) b7 (bl 11 2017) (tt k2 a)))) (fun k2=>(lb (fun k3=>(lr 213 12 [1,1,1,1,1,1,1,1,0,1,0,0,1,1,0,0,1,1,0,1,1,1,0,1,0,1,0,0] 1 10 [(2,.nils),(3,(ii 12))] (sl Zb 82 [] (b8 [2,3]) b7 (bl 11 1921) (tt k3 (tt k2 a))))) (fun k3=>let d:=tt k3 (tt k2 a);(lb (fun k4=>(lr 213 12 [1,1,1,1,1,1,1,1,0,1,0,0,1,1,0,0,1,1,0,1,1,1,0,1,0,1,0,0] 1 10 [(2,.nils),(3,(ii 12))] (sl Zb 82 [] (b8 [2,3]) b7 (bl 11 1537) (tt k4 d)))) (fun k4=>(sl Zb 64 [] ⟨(List.range 5),[],Mj,Mv⟩ b7 (bl 10 1) (pp (fl aH (fl aJ (fl aV nn))) (tt k4 d))))))))))))))) (fun k0=>(lo fun aG=>(lb (fun k1=>(lo fun o0=>(lo fun o1=>let b:=aJ++[(R6.mk aD bG bN bV cR 0)];(sl Zb 54 [] ⟨[2,4,7],[],Dr,Dq⟩ ⟨[],[.rws (.one aH.length [(.str []),(ii 0),(.int .u8 bA),(ii aM),(ii aT),(ii aY),(.sla 2 6 0 b.length (.un 6))] (.flat (Zz aH))),.keep,.rowed 6 b.length (Zz b)],[]⟩ (bl 4 12) (pp (xG (DR (aH.length+1) (CI.get (.one aH.length [(.str []),(ii 0),(.int .u8 bA),(ii aM),(ii aT),(ii aY),(.sla 2 6 0 (aJ.length+1) (.un 6))] (.flat (Zz aH)))) (CI.get (.one aH.length [(.str []),(ii 0),(.int .u8 bA),(ii aM),(ii aT),(ii aY),(.sla 2 6 0 (aJ++[(R6.mk aD bG bN bV cR 0)]).length (.un 6))] (.flat (Zz aH))))) (L3 (by first | rfl | simp only [As,Au,AI]))) (pp (xL (aJ.length+1) (aJ++[(R6.mk aD bG bN bV cR 0)]).length) (pp (xS (aJ.length+1) (Zo (Zz aJ) 0 aJ.length 6 [(ii aD),(ii bG),(ii bN),(ii bV),(ii cR),(ii 0)]) (Zz (aJ++[(R6.mk aD bG bN bV cR 0)]))) (pp (fl aH (fl aV (pp (xF (Zo (Zz aJ) 0 aJ.length 6 [(ii aD),(ii bG),(ii bN),(ii bV),(ii cR),(ii 0)])) nn))) (ww o1 (tt k1 (ww o0 (ww o1 (tt k1 (ww aG (tt k0 nn))))))))))))))) (fun k1=>trivial)))))
 | .h24 v14 v15 bX aV bM bK aD bG bN bV cR dJ bA aM aT aY aJ aH=>(lb (fun k0=>(lo fun aG=>(lo fun aU=>let c:=ww aU (ww aG (tt k0 nn));(lb (fun k1=>(lr 213 12 [1,1,1,1,1,1,1,1,0,1,0,0,1,1,0,0,1,1,0,1,1,1,0,1,0,1,0,0] 1 10 [(2,.nils),(3,(ii 12))] (sl Zb 82 [] (b8 [2,3]) b7 (CA 11 []) (tt k1 c)))) (fun k1=>(lo fun bH=>let a:=ww bH (tt k1 c);(lb (fun k2=>(lr 213 12 [1,1,1,1,1,1,1,1,0,1,0,0,1,1,0,0,1,1,0,1,1,1,0,1,0,1,0,0] 1 10 [(2,.nils),(3,(ii 12))] (sl Zb 82 [] (b8 [2,3]) b7 (bl 11 2017) (tt k2 a)))) (fun k2=>(lb (fun k3=>(lr 213 12 [1,1,1,1,1,1,1,1,0,1,0,0,1,1,0,0,1,1,0,1,1,1,0,1,0,1,0,0] 1 10 [(2,.nils),(3,(ii 12))] (sl Zb 82 [] (b8 [2,3]) b7 (bl 11 1921) (tt k3 (tt k2 a))))) (fun k3=>(lb (fun k4=>(lr 213 12 [1,1,1,1,1,1,1,1,0,1,0,0,1,1,0,0,1,1,0,1,1,1,0,1,0,1,0,0] 1 10 [(2,.nils),(3,(ii 12))] (sl Zb 82 [] (b8 [2,3]) b7 (bl 11 1537) (tt k4 (tt k3 (tt k2 a)))))) (fun k4=>trivial)))))))))))) (fun k0=>(lo fun aG=>(lb (fun k1=>(lo fun o0=>(lo fun o1=>let b:=aJ++[(R6.mk aD bG bN bV cR dJ)];(sl Zb 54 [] ⟨[2,4,7],[],Dr,Dq⟩ ⟨[],[.rws (.one aH.length [(.str []),(ii 0),(.int .u8 bA),(ii aM),(ii aT),(ii aY),(.sla 2 6 0 b.length (.un 6))] (.flat (Zz aH))),.keep,.rowed 6 b.length (Zz b)],[]⟩ (bl 4 12) (pp (xG (DR (aH.length+1) (CI.get (.one aH.length [(.str []),(ii 0),(.int .u8 bA),(ii aM),(ii aT),(ii aY),(.sla 2 6 0 (aJ.length+1) (.un 6))] (.flat (Zz aH)))) (CI.get (.one aH.length [(.str []),(ii 0),(.int .u8 bA),(ii aM),(ii aT),(ii aY),(.sla 2 6 0 (aJ++[(R6.mk aD bG bN bV cR dJ)]).length (.un 6))] (.flat (Zz aH))))) (L3 (by first | rfl | simp only [As,Au,AI]))) (pp (xL (aJ.length+1) (aJ++[(R6.mk aD bG bN bV cR dJ)]).length) (pp (xS (aJ.length+1) (Zo (Zz aJ) 0 aJ.length 6 [(ii aD),(ii bG),(ii bN),(ii bV),(ii cR),(ii dJ)]) (Zz (aJ++[(R6.mk aD bG bN bV cR dJ)]))) (pp (fl aH (fl aV (pp (xF (Zo (Zz aJ) 0 aJ.length 6 [(ii aD),(ii bG),(ii bN),(ii bV),(ii cR),(ii dJ)])) nn))) (ww o1 (tt k1 (ww o0 (ww o1 (tt k1 (ww aG (tt k0 nn))))))))))))))) (fun k1=>trivial)))))
theorem w0y (x0:List UInt8):Wj prog (Zy prog 12) (NH x0) (Zg prog 12 [(.str x0)] true []) (LZ x0):=(lb (fun k0=>(sl Zb 46 [] ⟨[],[],So,Sz⟩ b7 [true] (tt k0 nn))) (fun k0=>(lo fun o0=>(lo fun o1=>(sl Zb 60 [] ⟨[],[],XR,XQ⟩ b7 [false] (ww o1 (ww o0 (tt k0 nn))))))))
theorem u1w (x0:List UInt8) (n:Nat) (vs:List B1) (h:Yw (Zc x0) n (LZ x0)=.ret vs):Js prog (Zy prog 12) (Zg prog 12 [(.str x0)] true []) vs:=by have:=Ze (w8x x0) n _ (w0y x0);rwa [h] at this
end
open Go.Sort Go.Shelf Go.RowKit Go.Lib
section
variable {s:List UInt8} {ps w4 w86 w5:List (List UInt8)} {i:Int} {t a b c:Int} {sol:List R6} {pre:List B4}
theorem ne9 {v14:List (List UInt8)} (h:4=v14.length) (hx:(rd v14 0).length <=1000000):Zc s (.h9 v14 4 ps w5 i w86 t a b c sol pre)=(Ca (rd v14 0)).elim (eF CH) fun v=>.to (.h13 v14 4 ps w5 i w86 v t a b c sol pre):=by rw [<-EU hx];unfold Zc;simp only [];rw [Zp (show decide ((0:Int)<4)=true from rfl),Zp (Dc (j:=0) (by omega) (by omega))];rfl
theorem ne13 {v14:List (List UInt8)} {e:Int} (h:4=v14.length) (hx:(rd v14 1).length <=1000000):Zc s (.h13 v14 4 ps w5 i w86 e t a b c sol pre)=(Ca (rd v14 1)).elim (eF CH) fun v=>.to (.h17 v14 4 ps w5 i w86 e v t a b c sol pre):=by rw [<-EU hx];unfold Zc;simp only [];rw [Zp (show decide ((1:Int)<4)=true from rfl),Zp (Dc (j:=1) (by omega) (by omega))];rfl
theorem ne17 {v14:List (List UInt8)} {e f:Int} (h:4=v14.length) (hx:(rd v14 2).length <=1000000):Zc s (.h17 v14 4 ps w5 i w86 e f t a b c sol pre)=(Ca (rd v14 2)).elim (eF CH) fun v=>.to (.h19 v14 4 ps w5 i w86 e f v t a b c sol pre):=by rw [<-EU hx];unfold Zc;simp only [];rw [Zp (show decide ((2:Int)<4)=true from rfl),Zp (Dc (j:=2) (by omega) (by omega))];rfl
theorem ne19 {v14:List (List UInt8)} {e f g:Int} (h:4=v14.length) (hx:(rd v14 3).length <=1000000):Zc s (.h19 v14 4 ps w5 i w86 e f g t a b c sol pre)=(Ca (rd v14 3)).elim (eF CH) fun v=>.to (.h21 v14 4 ps w5 i w86 e f g v t a b c sol pre):=by rw [<-EU hx];unfold Zc;simp only [];rw [Zp (show decide ((3:Int)<4)=true from rfl),Zp (Dc (j:=3) (by omega) (by omega))];rfl
theorem ne21 {v14:List (List UInt8)} {e f g h:Int} (h1:pre.length<=1000000) (h2:ps.length<=1000000) (h5:1<w5.length):Zc s (.h21 v14 4 ps w5 i w86 e f g h t a b c sol pre)=bif decide (0<=e)&&decide (e<=23) then .to (.h7 (ps++[rd w5 1]) (wrap .i64 (i+1)) e f g h [] (pre++[Fu t a b c sol])) else eF CH:=by
 have hl:(pre++[(B4.mk ([]:List UInt8) 0 t a b c sol)]).length <=1000001:=by rw [As,AJ];omega
 unfold Zc;simp only [];rw [show decide ((4:Int)<4)=false from rfl,Ab];by_cases g1:e<0
 .rw [Aa g1,Ah (show ¬0<=e by omega)];rfl
 .rw [Ah g1,Aa (show 0<=e by omega),Ab,Aq];by_cases g2:e>23
  .rw [Aa g2,Ah (show ¬e<=23 by omega)];rfl
  .rw [Ah g2,Aa (show e<=23 by omega),Ab,Af];rw [Zp (Id (by omega)),Zp (by simp),Zp (Dc (j:=1) (by omega) (by omega)),Zp (Id (by omega)),Zp (by simp),w8 e (by omega)]
theorem be10 {v14:List (List UInt8)} (h6:6=v14.length) (hx:(rd v14 0).length <=1000000):Zc s (.h10 v14 6 w4 ps i w86 t a b c sol pre)=(Ca (rd v14 0)).elim (eF CH) fun v=>.to (.h14 v14 6 w4 ps i w86 v t a b c sol pre):=by rw [<-EU hx];unfold Zc;simp only [];rw [Zp (show decide ((0:Int)<6)=true from rfl),Zp (Dc (j:=0) (by omega) (by omega))];rfl
theorem be14 {v14:List (List UInt8)} {e:Int} (h6:6=v14.length) (hx:(rd v14 1).length <=1000000):Zc s (.h14 v14 6 w4 ps i w86 e t a b c sol pre)=(Ca (rd v14 1)).elim (eF CH) fun v=>.to (.h18 v14 6 w4 ps i w86 e v t a b c sol pre):=by rw [<-EU hx];unfold Zc;simp only [];rw [Zp (show decide ((1:Int)<6)=true from rfl),Zp (Dc (j:=1) (by omega) (by omega))];rfl
theorem be18 {v14:List (List UInt8)} {e f:Int} (h6:6=v14.length) (hx:(rd v14 2).length <=1000000):Zc s (.h18 v14 6 w4 ps i w86 e f t a b c sol pre)=(Ca (rd v14 2)).elim (eF CH) fun v=>.to (.h20 v14 6 w4 ps i w86 e f v t a b c sol pre):=by rw [<-EU hx];unfold Zc;simp only [];rw [Zp (show decide ((2:Int)<6)=true from rfl),Zp (Dc (j:=2) (by omega) (by omega))];rfl
theorem be20 {v14:List (List UInt8)} {e f g:Int} (h6:6=v14.length) (hx:(rd v14 3).length <=1000000):Zc s (.h20 v14 6 w4 ps i w86 e f g t a b c sol pre)=(Ca (rd v14 3)).elim (eF CH) fun v=>.to (.h22 v14 6 w4 ps i w86 e f g v t a b c sol pre):=by rw [<-EU hx];unfold Zc;simp only [];rw [Zp (show decide ((3:Int)<6)=true from rfl),Zp (Dc (j:=3) (by omega) (by omega))];rfl
theorem be22 {v14:List (List UInt8)} {e f g h:Int} (h6:6=v14.length) (hx:(rd v14 4).length <=1000000):Zc s (.h22 v14 6 w4 ps i w86 e f g h t a b c sol pre)=(Ca (rd v14 4)).elim (eF CH) fun v=>.to (.h23 v14 6 w4 ps i w86 e f g h v t a b c sol pre):=by rw [<-EU hx];unfold Zc;simp only [];rw [Zp (show decide ((4:Int)<6)=true from rfl),Zp (Dc (j:=4) (by omega) (by omega))];rfl
theorem be23 {v14:List (List UInt8)} {e f g h k:Int} (h6:6=v14.length) (hx:(rd v14 5).length <=1000000):Zc s (.h23 v14 6 w4 ps i w86 e f g h k t a b c sol pre)=(Ca (rd v14 5)).elim (eF CH) fun v=>.to (.h24 v14 6 w4 ps i w86 e f g h k v t a b c sol pre):=by rw [<-EU hx];unfold Zc;simp only [];rw [Zp (show decide ((5:Int)<6)=true from rfl),Zp (Dc (j:=5) (by omega) (by omega))];rfl
theorem be24 {v14:List (List UInt8)} {e f g h k l:Int} (h1:pre.length<=1000000) (h2:sol.length<=1000000):Zc s (.h24 v14 6 w4 ps i w86 e f g h k l t a b c sol pre)=.to (.h7 ps (wrap .i64 (i+1)) t a b c (sol++[⟨e,f,g,h,k,l⟩]) pre):=by
 have w:wrap .i64 ((((pre.length+1):Nat):Int) - 1)=(pre.length:Int):=by rw [Zm (by omega)];omega
 unfold Zc;simp only [];rw [show decide ((6:Int)<6)=false from rfl,Ab,w,Zj,Ap,Zp (Ym (by omega)),Al,Zp (Xs _),Zp (P9 (by omega)),Zp (Aa (by omega))]
end
section
variable {s:List UInt8} {ps w4 w86 w5:List (List UInt8)} {i:Int} {t a b c:Int} {sol:List R6} {pre:List B4}
theorem Wr (w:List UInt8) (r:List (List UInt8)):Qu (w::r)=(Ca w).bind fun n=>(Qu r).bind fun l=>some (n::l):=by
 rw [Qu];cases Ca w with
 | none=>rfl
 | some n=>cases Qu r <;> rfl
theorem Vk {σ:Type} (st:σ->Xu σ) (n:Nat):Yw st n (eF σ)=eF σ:=Zh _ _ _
theorem u1v {e1 e2 e3 e4:List UInt8} (h1:pre.length<=1000000) (h2:ps.length<=1000000) (h5:1<w5.length) (l1:e1.length<=1000000) (l2:e2.length<=1000000) (l3:e3.length<=1000000) (l4:e4.length<=1000000) (N:Nat):
  Yw (Zc s) (N+5) (.to (.h9 [e1,e2,e3,e4] 4 ps w5 i w86 t a b c sol pre))=Dn (fun p t' x y z=>Yw (Zc s) N (.to (.h7 (ps++[p]) (wrap .i64 (i+1)) t' x y z [] (pre++[Fu t a b c sol])))) (fun _=>eF CH) ((Qu [e1,e2,e3,e4]).bind (Dw (rd w5 1))):=by
 rw [Zw,ne9 (v14:=[e1,e2,e3,e4]) rfl l1,show rd [e1,e2,e3,e4] 0=e1 from rfl,Wr e1];cases Ca e1 with
 | none=>exact Vk _ _
 | some x1=>
  show Yw _ (N+4) (.to (CH.h13 _ _ _ _ _ _ x1 _ _ _ _ _ _))=_;rw [Zw,ne13 (v14:=[e1,e2,e3,e4]) rfl l2,show rd [e1,e2,e3,e4] 1=e2 from rfl,Wr e2];cases Ca e2 with
  | none=>exact Vk _ _
  | some x2=>
   show Yw _ (N+3) (.to (CH.h17 _ _ _ _ _ _ x1 x2 _ _ _ _ _ _))=_;rw [Zw,ne17 (v14:=[e1,e2,e3,e4]) rfl l3,show rd [e1,e2,e3,e4] 2=e3 from rfl,Wr e3];cases Ca e3 with
   | none=>exact Vk _ _
   | some x3=>
    show Yw _ (N+2) (.to (CH.h19 _ _ _ _ _ _ x1 x2 x3 _ _ _ _ _ _))=_;rw [Zw,ne19 (v14:=[e1,e2,e3,e4]) rfl l4,show rd [e1,e2,e3,e4] 3=e4 from rfl,Wr e4];cases Ca e4 with
    | none=>exact Vk _ _
    | some x4=>
     show Yw _ (N+1) (.to (CH.h21 _ _ _ _ _ _ x1 x2 x3 x4 _ _ _ _ _ _))=_;rw [Zw,ne21 h1 h2 h5];show _=Dn _ _ (bif decide (0<=x1)&&decide (x1<=23) then some (.nod (rd w5 1) x1 x2 x3 x4) else none);cases decide (0<=x1)&&decide (x1<=23) with
     | true=>rfl
     | false=>exact Vk _ _
theorem j1p {e1 e2 e3 e4 e5 e6:List UInt8} (h1:pre.length<=1000000) (h2:sol.length<=1000000) (l1:e1.length<=1000000) (l2:e2.length<=1000000) (l3:e3.length<=1000000) (l4:e4.length<=1000000) (l5:e5.length<=1000000) (l6:e6.length<=1000000) (N:Nat):
  Yw (Zc s) (N+7) (.to (.h10 [e1,e2,e3,e4,e5,e6] 6 w4 ps i w86 t a b c sol pre))=Dn (fun _ _ _ _ _=>eF CH) (fun r=>Yw (Zc s) N (.to (.h7 ps (wrap .i64 (i+1)) t a b c (sol++[r]) pre))) ((Qu [e1,e2,e3,e4,e5,e6]).bind EP):=by
 rw [Zw,be10 (v14:=[e1,e2,e3,e4,e5,e6]) rfl l1,show rd [e1,e2,e3,e4,e5,e6] 0=e1 from rfl,Wr e1];cases Ca e1 with
 | none=>exact Vk _ _
 | some x1=>
  show Yw _ (N+6) (.to (CH.h14 _ _ _ _ _ _ x1 _ _ _ _ _ _))=_;rw [Zw,be14 (v14:=[e1,e2,e3,e4,e5,e6]) rfl l2,show rd [e1,e2,e3,e4,e5,e6] 1=e2 from rfl,Wr e2];cases Ca e2 with
  | none=>exact Vk _ _
  | some x2=>
   show Yw _ (N+5) (.to (CH.h18 _ _ _ _ _ _ x1 x2 _ _ _ _ _ _))=_;rw [Zw,be18 (v14:=[e1,e2,e3,e4,e5,e6]) rfl l3,show rd [e1,e2,e3,e4,e5,e6] 2=e3 from rfl,Wr e3];cases Ca e3 with
   | none=>exact Vk _ _
   | some x3=>
    show Yw _ (N+4) (.to (CH.h20 _ _ _ _ _ _ x1 x2 x3 _ _ _ _ _ _))=_;rw [Zw,be20 (v14:=[e1,e2,e3,e4,e5,e6]) rfl l4,show rd [e1,e2,e3,e4,e5,e6] 3=e4 from rfl,Wr e4];cases Ca e4 with
    | none=>exact Vk _ _
    | some x4=>
     show Yw _ (N+3) (.to (CH.h22 _ _ _ _ _ _ x1 x2 x3 x4 _ _ _ _ _ _))=_;rw [Zw,be22 (v14:=[e1,e2,e3,e4,e5,e6]) rfl l5,show rd [e1,e2,e3,e4,e5,e6] 4=e5 from rfl,Wr e5];cases Ca e5 with
     | none=>exact Vk _ _
     | some x5=>
      show Yw _ (N+2) (.to (CH.h23 _ _ _ _ _ _ x1 x2 x3 x4 x5 _ _ _ _ _ _))=_;rw [Zw,be23 (v14:=[e1,e2,e3,e4,e5,e6]) rfl l6,show rd [e1,e2,e3,e4,e5,e6] 5=e6 from rfl,Wr e6];cases Ca e6 with
      | none=>exact Vk _ _
      | some x6=>show Yw _ (N+1) (.to (CH.h24 _ _ _ _ _ _ x1 x2 x3 x4 x5 x6 _ _ _ _ _ _))=_;rw [Zw,be24 h1 h2];rfl
end
def pB {σ:Type} (ws:List (List UInt8)) (g0:Bool) (Kb:Xu σ):Xu σ:=
 bif (rd ws 0 == ([98,111,120]:List UInt8)) then
  bif g0 then
   bif decide (1<=ws.length) then bif decide (ws.length<=ws.length) then
    bif ((((ws.length - 1):Nat):Int) != 6) then eF σ else Kb
   else .stuck else .stuck
  else eF σ
 else eF σ
def pT {σ:Type} (ws:List (List UInt8)) (g0:Bool) (Kn Kb:Xu σ):Xu σ:=
 bif (decide ((0:Int)<=0/\0<(ws.length:Int))&&true) then
  bif (rd ws 0 == ([110,111,100,101]:List UInt8)) then
   bif decide ((ws.length:Int)>1) then
    bif (decide ((0:Int)<=1/\1<(ws.length:Int))&&true) then
     bif (rd ws 1 == ([]:List UInt8)) then eF σ else
      bif Up (rd ws 1) then
       bif (C4 (rd ws 1) != 0) then eF σ else
        bif decide (2<=ws.length) then bif decide (ws.length<=ws.length) then
         bif ((((ws.length - 2):Nat):Int) != 4) then eF σ else Kn
        else .stuck else .stuck
      else .stuck
    else .stuck
   else pB ws g0 Kb
  else pB ws g0 Kb
 else .stuck
theorem KJ {σ:Type} {w:List UInt8} {r:List (List UInt8)} {Kb:Xu σ}:pB (w::r) true Kb=bif decide (w=C3)&&decide (r.length=6) then Kb else eF σ:=by
 unfold pB;rw [show (rd (w::r) 0 == ([98,111,120]:List UInt8))=decide (w=C3) from Gi w _];cases decide (w=C3) with
 | false=>rfl
 | true=>
  rw [Af,Af,Zp (Aa (by rw [Au];omega)),Zp (Aa (Ak _)),Aq];by_cases h:r.length=6
  .rw [Aa h,Ut (by rw [Au];omega)];rfl
  .rw [Ah h,Qv (by rw [Au];omega)];rfl
def pN {σ:Type} (Kn:Xu σ):List (List UInt8)->Xu σ
 | p::q=>bif decide (q.length=4)&&(!decide (p=[])&&decide (C4 p=0)) then Kn else eF σ
 | []=>eF σ
theorem KI {σ:Type} {w:List UInt8} {r:List (List UInt8)} {Kn Kb:Xu σ} (hs: ∀p∈r,p.length<=1000000):
  pT (w::r) true Kn Kb=bif decide (w=CS) then pN Kn r else bif decide (w=C3)&&decide (r.length=6) then Kb else eF σ:=by
 have hb:=KJ (w:=w) (r:=r) (Kb:=Kb);unfold pT;rw [Zp (Dc (j:=0) (by omega) (by rw [Au];omega))];rw [show (rd (w::r) 0 == ([110,111,100,101]:List UInt8))=decide (w=CS) from Gi w _];by_cases hw:w=CS
 .have hbx:pB (w::r) true Kb=eF σ:=by rw [hb,Ah (show ¬w=C3 by rw [hw];decide)];rfl
  rw [Aa hw,Af,Af,hbx]
  match r,hs with
  | [],_=>rfl
  | p::q,hs=>
   rw [Xv (by rw [Au,Au];omega),Af,Zp (Dc (j:=1) (by omega) (by rw [Au,Au];omega))];rw [show rd (w::p::q) 1=p from rfl,Gi p [],Zp (show Up p=true from Aa (hs p (by simp)))];rw [Zp (show decide (2<=(w::p::q).length)=true from Aa (by rw [Au,Au];omega)),Zp (show decide ((w::p::q).length <=(w::p::q).length)=true from Aa (Ak _))];show _=bif decide (q.length=4)&&(!decide (p=[])&&decide (C4 p=0)) then Kn else eF σ;have e4:((((w::p::q).length - 2:Nat):Int) != 4)= !decide (q.length=4):=by
    rw [Au,Au];by_cases h:q.length=4
    .rw [Aa h,Ut (by omega)];rfl
    .rw [Ah h,Qv (by omega)];rfl
   have e0:(C4 p != 0)= !decide (C4 p=0):=by
    by_cases h:C4 p=0
    .rw [Aa h,Ut h];rfl
    .rw [Ah h,Qv h];rfl
   rw [e4,e0];cases decide (p=[]) <;> cases decide (C4 p=0) <;> cases decide (q.length=4) <;> rfl
 .rw [Ah hw,Ab,Ab];exact hb
theorem Mg {s:List UInt8} {ls ps:List (List UInt8)} {i:Nat} {t a b c:Int} {sol:List R6} {pre:List B4} {w:List UInt8} {r:List (List UInt8)} (hls:Zi (Zu s [10]) [10]=ls) (hi:i<ls.length) (hx:(rd ls i).length <=1000000) (hw:Wy 32 [] (rd ls i)=w::r):
  Zc s (.h7 ps (i:Int) t a b c sol pre)=pT (w::r) true (.to (.h9 (Ve (w::r) 2 ((w::r).length - 2)) ((((w::r).length - 2):Nat):Int) ps (w::r) (i:Int) (Ve (w::r) 2 ((w::r).length - 2)) t a b c sol pre))
   (.to (.h10 (Ve (w::r) 1 ((w::r).length - 1)) ((((w::r).length - 1):Nat):Int) (Ve (w::r) 1 ((w::r).length - 1)) ps (i:Int) (Ve (w::r) 1 ((w::r).length - 1)) t a b c sol pre)):=by
 have hW:Zi (rd ls i) [32]=w::r:=by rw [RS];exact hw
 have g0:decide ((((pre.length+1):Nat):Int)>0)=true:=Aa (by omega);unfold Zc;simp only [hls,Zj,hW];rw [Zp (Yb (by omega)),Zp (Bool.and_eq_true_iff.2 ⟨Ym (by omega),rfl⟩)];rw [Zp (show Jq (rd ls i) [32]=true by unfold Jq;rw [Aa (show (rd ls i).length <4294967281 by omega)];rfl),g0];rfl
theorem u1r {s:List UInt8} {ls ps:List (List UInt8)} {i:Nat} {t a b c:Int} {sol:List R6} {pre:List B4} (hls:Zi (Zu s [10]) [10]=ls) (hi:i<ls.length) (hx:(rd ls i).length <=1000000) (hn:ls.length<=1000000) (h1:pre.length<=1000000) (h2:sol.length<=1000000) (h3:ps.length<=1000000):
  ∃M,∀N,Yw (Zc s) (N+M) (.to (.h7 ps (i:Int) t a b c sol pre))=Dn (fun p t' x y z=>Yw (Zc s) N (.to (.h7 (ps++[p]) ((i+1:Nat):Int) t' x y z [] (pre++[Fu t a b c sol])))) (fun q=>Yw (Zc s) N (.to (.h7 ps ((i+1:Nat):Int) t a b c (sol++[q]) pre))) (E5 (rd ls i)):=by
 have w1:wrap .i64 ((i:Int)+1)=((i+1:Nat):Int):=Zm (by omega);have hne:=LD 32 (rd ls i) [];have hpc: ∀p,p∈Wy 32 [] (rd ls i)->p.length<=(rd ls i).length :=fun p hp=>by have:=Qb 32 (rd ls i) [] p hp;simpa using this
 unfold E5;cases hw:Wy 32 [] (rd ls i) with
 | nil=>exact absurd hw hne
 | cons w r=>
  rw [hw] at hpc;have hs: ∀p∈r,p.length<=1000000:=fun p hp=>by have:=hpc p (AO _ hp);omega
  have e:=Mg (s:=s) (ps:=ps) (t:=t) (a:=a) (b:=b) (c:=c) (sol:=sol) (pre:=pre) hls hi hx hw;rw [KI hs] at e;rw [Ql];cases gw:decide (w=CS) with
  | true=>
   rw [gw,Af] at e;rw [Af]
   match r,hs,hw,e with
   | [],_,_,e=>exact ⟨1,fun N=>by rw [Zw,e];exact Vk _ _⟩
   | p ::q,hs,hw,e=>
    have e:Zc s (.h7 ps (i:Int) t a b c sol pre)=bif decide (q.length=4)&&(!decide (p=[])&&decide (C4 p=0)) then _ else _:=e;show∃M,∀N,_=Dn _ _ (bif decide (q.length=4)&&(!decide (p=[])&&decide (C4 p=0)) then (Qu q).bind (Dw p) else none);cases g2:decide (q.length=4)&&(!decide (p=[])&&decide (C4 p=0)) with
    | false=>rw [g2,Ab] at e;exact ⟨1,fun N=>by rw [Zw,e];exact Vk _ _⟩
    | true=>
     rw [g2,Af] at e;rw [Ad,An] at g2
     match q,g2.1,hs,e with
     | [e1,e2,e3,e4],_,hs,e=>
      have e:Zc s (.h7 ps (i:Int) t a b c sol pre)=.to (.h9 [e1,e2,e3,e4] 4 ps [w,p,e1,e2,e3,e4] (i:Int) [e1,e2,e3,e4] t a b c sol pre):=e;refine ⟨6,fun N=> ?_⟩;rw [show N+6=(N+5)+1 from rfl,Zw,e,u1v h1 h3 (by simp) (hs e1 (by simp)) (hs e2 (by simp)) (hs e3 (by simp)) (hs e4 (by simp)) N,w1];have hb: ∀L,Dw p L=none\/ ∃t' x y z,Dw p L=some (.nod p t' x y z):=fun L=>by
       unfold Dw;split
       .rename_i t' x y z;cases decide (0<=t')&&decide (t'<=23) with
        | true=>exact .inr ⟨_,_,_,_,rfl⟩
        | false=>exact .inl rfl
       .exact .inl rfl
      show Dn _ _ ((Qu [e1,e2,e3,e4]).bind (Dw p))=Dn _ _ ((Qu [e1,e2,e3,e4]).bind (Dw p));cases Qu [e1,e2,e3,e4] with
      | none=>rfl
      | some L=>
       show Dn _ _ (Dw p L)=Dn _ _ (Dw p L);rcases hb L with hb | ⟨t',x,y,z,hb⟩ <;> rw [hb] <;> rfl
  | false=>
   rw [gw,Ab] at e;rw [Ab];cases g2:decide (w=C3)&&decide (r.length=6) with
   | false=>rw [g2,Ab] at e;exact ⟨1,fun N=>by rw [Zw,e];exact Vk _ _⟩
   | true=>
    rw [g2,Af] at e;rw [Ad,An,An] at g2
    match r,g2.2,hs,e with
    | [e1,e2,e3,e4,e5,e6],_,hs,e=>
     have e:Zc s (.h7 ps (i:Int) t a b c sol pre)=.to (.h10 [e1,e2,e3,e4,e5,e6] 6 [e1,e2,e3,e4,e5,e6] ps (i:Int) [e1,e2,e3,e4,e5,e6] t a b c sol pre):=e;refine ⟨8,fun N=> ?_⟩;rw [show N+8=(N+7)+1 from rfl,Zw,e,j1p h1 h2 (hs e1 (by simp)) (hs e2 (by simp)) (hs e3 (by simp)) (hs e4 (by simp)) (hs e5 (by simp)) (hs e6 (by simp)) N,w1];show Dn _ _ ((Qu [e1,e2,e3,e4,e5,e6]).bind EP)=Dn _ _ ((Qu [e1,e2,e3,e4,e5,e6]).bind EP);have hb: ∀L,EP L=none\/ ∃q,EP L=some (.box q):=fun L=>by
      unfold EP;split
      .exact .inr ⟨_,rfl⟩
      .exact .inl rfl
     cases Qu [e1,e2,e3,e4,e5,e6] with
     | none=>rfl
     | some L=>
      show Dn _ _ (EP L)=Dn _ _ (EP L);rcases hb L with hb | ⟨q,hb⟩ <;> rw [hb] <;> rfl
theorem Y1 {v:List UInt8} (hv: ∀x∈v,(x == 47)=false): ∀(u cur:List UInt8),Wy 47 cur (u++47::v)=Wy 47 cur u++[v]
 | [],cur=>by
  have e: ∀(v cur:List UInt8),(∀x∈v,(x == 47)=false)->Wy 47 cur v=[cur++v]:=fun v=>by
   induction v with
   | nil=>intro cur _;simp [Wy]
   | cons x r ih=>intro cur h;rw [Wy,h x AS,Ab,ih _ fun y hy=>h y (AO _ hy),AH];rfl
  show Wy 47 cur (47::v)=[cur]++[v]
  rw [Wy,show ((47:UInt8) == 47)=true from rfl,Af,e v [] hv];rfl
 | x::u,cur=>by
  show Wy 47 cur (x::(u++47::v))=Wy 47 cur (x::u)++[v]
  rw [Wy,Wy];cases x == 47 with
  | true=>rw [Af,Af,Y1 hv u []];rfl
  | false=>rw [Ab,Ab,Y1 hv u (cur++[x])]
theorem YE : ∀(u cur:List UInt8),joinTail [47] (Wy 47 cur u)=47::(cur++u)
 | [],cur=>by simp [Wy,joinTail]
 | x::u,cur=>by
  rw [Wy];cases h:x == 47 with
  | true=>
   rw [Af,Ki,YE u []];have:x=47:=by simpa using h
   rw [this];simp
  | false=>rw [Ab,YE u (cur++[x])];simp
theorem u3j (u:List UInt8):Lib.join (Wy 47 [] u) [47]=u:=by
 have h:=YE u [];have hne:=LD 47 u [];cases hc:Wy 47 [] u with
 | nil=>exact absurd hc hne
 | cons p l=>
  rw [hc,Ki] at h;rw [join_cons]
  simpa using h
theorem v4l {u v:List UInt8} (hv: ∀x∈v,(x == 47)=false):Kd (u++47::v)=Wy 47 [] u++[v]/\H7 (Kd (u++47::v)).dropLast =u:=by
 have e:Kd (u++47::v)=Wy 47 [] u++[v]:=by unfold Kd;rw [show ((u++47::v) == ([]:List UInt8))=false by cases u <;> rfl,Ab,Y1 hv]
 refine ⟨e,?_⟩;rw [e,List.dropLast_concat];exact u3j u
def NX (p:List UInt8):Nat->Int
 | 0=> -1
 | j+1=>bif CW p j == 47 then (j:Int) else NX p j
theorem v4v {s p:List UInt8} {l:List B4} {i n:Int} {ps:List (List UInt8)} {mp:List (List UInt8×Int)} (hp:p.length<=1000000): ∀j,j<=p.length-> ∃M,∀N,
  Yw (Zc s) (N+M) (.to (.h15 p ((j:Int) - 1) p l i p p ps n i p mp))=Yw (Zc s) N (Zc s (.h15 p (NX p j) p l i p p ps n i p mp))
 | 0,_=>⟨1,fun N=>by rw [Zw];rfl⟩
 | j+1,hj=>by
  have ej:(((j+1:Nat):Int) - 1)=(j:Int):=by omega
  have w1:wrap .i64 ((j:Int) - 1)=(j:Int) - 1:=Zm (by omega);rw [ej];cases g:CW p j == 47 with
  | true=>refine ⟨1,fun N=> ?_⟩;rw [Zw,NX,g];rfl
  | false=>
   obtain ⟨M,hM⟩:=v4v (s:=s) (l:=l) (i:=i) (n:=n) (ps:=ps) (mp:=mp) hp j (by omega);refine ⟨M+1,fun N=> ?_⟩;have e:Zc s (.h15 p (j:Int) p l i p p ps n i p mp)=.to (.h15 p ((j:Int) - 1) p l i p p ps n i p mp):=by unfold Zc;simp only [Zj,w1];rw [Zp (EB (by omega)),Zp (Ym (by omega)),g];rfl
   rw [<-AM,Zw,e,NX,g,Ab];exact hM N
def Fy (ps:List (List UInt8)) (i:Nat) (q:List UInt8):Option Int:=bif q == [] then some (-1) else (EF ps q i 0).map fun k=>(k:Int)
def ED (mp:List (List UInt8×Int)) (q:List UInt8):Option Int:=bif Cp mp q then some (getK 0 mp q) else none
theorem v5z (q:List UInt8):ED [] q=none:=rfl
theorem Q4 (k:List UInt8) (v:Int) (l:List (List UInt8×Int)) (q:List UInt8):ED ((k,v)::l) q=bif q == k then some v else ED l q:=by unfold ED Cp;rw [B0];show (bif (q == k)||l.any _ then some (getK 0 ((k,v)::l) q) else none)=_;have e:getK 0 ((k,v)::l) q=bif q == k then v else getK 0 l q:=rfl;rw [e];cases q == k <;> rfl
theorem ZC : ∀(mp:List (List UInt8×Int)) (k:List UInt8) (v:Int) (q:List UInt8),ED (Cq mp k v) q=bif q == k then some v else ED mp q
 | [],k,v,q=>Q4 k v [] q
 | (k',v')::l,k,v,q=>by
  have e:Cq ((k',v')::l) k v=bif k == k' then (k',v)::l else (k',v')::Cq l k v:=rfl;rw [e];cases h:k == k' with
  | true=>
   have:k=k':=by simpa using h
   subst this;rw [Af,Q4,Q4];cases q == k <;> rfl
  | false=>
   rw [Ab,Q4,Q4,ZC l k v q];cases h1:q == k' with
   | true=>
    have:q=k':=(by simpa using h1);subst this;have:(q == k)=false:=by rw [A5] at h ⊢;intro e;exact h (by have:=AU.1 e;rw [this];exact AU.2 rfl)
    rw [this];rfl
   | false=>rfl
theorem u8s {p:List UInt8} {j:Nat} (h:j<p.length):(CW p j == 47)=(p[j] == 47):=by
 rw [j5w h,AR,AU,AU];constructor
 .intro e;have this:p[j].toNat =47:=by omega
  exact UInt8.toNat_inj.1 (by rw [this];rfl)
 .intro e;rw [e];rfl
theorem w5t (p:List UInt8): ∀j,j<=p.length->(NX p j= -1/\ ∀m (h:m<p.length),m<j->(p[m] == 47)=false)\/ ∃k,NX p j=((k:Nat):Int)/\k<j/\(∀h:k<p.length,p[k]=47)/\ ∀m (h:m<p.length),k<m->m<j->(p[m] == 47)=false
 | 0,_=>.inl ⟨rfl,fun m _ hm=>absurd hm (AC _)⟩
 | j+1,hj=>by
  have hb:=u8s (p:=p) (j:=j) (by omega);unfold NX;cases g:CW p j == 47 with
  | true=>rw [g] at hb;exact .inr ⟨j,rfl,BJ j,fun _=>AU.1 hb.symm,fun m _ h1 h2=>by omega⟩
  | false=>
   rw [g] at hb;rw [Ab];rcases w5t p j (by omega) with ⟨h1,h2⟩ | ⟨k,h1,h2,h3,h4⟩
   .refine .inl ⟨h1,fun m h hm=> ?_⟩;by_cases e:m=j
    .subst e;exact hb.symm
    .exact h2 m h (by omega)
   .refine .inr ⟨k,h1,by omega,h3,fun m h hk hm=> ?_⟩;by_cases e:m=j
    .subst e;exact hb.symm
    .exact h4 m h hk (by omega)
theorem S0 {l:List B4} {i:Nat} (hi:i<l.length) (n:List UInt8) (a:Int):(l.set i (B4.mk (rd l i).n a (rd l i).t (rd l i).x (rd l i).y (rd l i).z (rd l i).s)).set i (B4.mk n (rd (l.set i (B4.mk (rd l i).n a (rd l i).t (rd l i).x (rd l i).y (rd l i).z (rd l i).s)) i).a (rd (l.set i (B4.mk (rd l i).n a (rd l i).t (rd l i).x (rd l i).y (rd l i).z (rd l i).s)) i).t (rd (l.set i (B4.mk (rd l i).n a (rd l i).t (rd l i).x (rd l i).y (rd l i).z (rd l i).s)) i).x (rd (l.set i (B4.mk (rd l i).n a (rd l i).t (rd l i).x (rd l i).y (rd l i).z (rd l i).s)) i).y (rd (l.set i (B4.mk (rd l i).n a (rd l i).t (rd l i).x (rd l i).y (rd l i).z (rd l i).s)) i).z (rd (l.set i (B4.mk (rd l i).n a (rd l i).t (rd l i).x (rd l i).y (rd l i).z (rd l i).s)) i).s)=l.set i {rd l i with n:=n,a:=a}:=by rw [Rq hi,AF rfl,List.set_set]
theorem u1s {s p:List UInt8} {l:List B4} {i:Nat} {n:Int} {ps:List (List UInt8)} {mp:List (List UInt8×Int)} (hi:i<l.length) (hl:l.length<=1000000) (h0:Cp mp []=true):
  Zc s (.h15 p (-1) p l (i:Int) p p ps n (i:Int) p mp)=.to (.h11 (l.set i {rd l i with n:=p,a:=getK 0 mp []}) ps n ((i+1:Nat):Int) (bif Cp mp p then mp else Cq mp p (i:Int))):=by
 have w1:wrap .i64 ((i:Int)+1)=((i+1:Nat):Int):=Zm (by omega);unfold Zc;simp only [Zj,Al,Ap,w1,h0];rw [show decide ((-1:Int)>=0)=false from rfl,Ab,Ax,Ab,Zp (Ym (by omega)),Zp (Aa (by omega)),S0 hi];cases Cp mp p <;> rfl
theorem u1t {s p:List UInt8} {l:List B4} {i k:Nat} {n:Int} {ps:List (List UInt8)} {mp:List (List UInt8×Int)} (hi:i<l.length) (hl:l.length<=1000000) (hk:k<p.length) (hp:p.length<=1000000) (hb:(CW p k == 47)=true):
  Zc s (.h15 p (k:Int) p l (i:Int) p p ps n (i:Int) p mp)=bif Cp mp (p.take k) then .to (.h11 (l.set i {rd l i with n:=p.drop (k+1),a:=getK 0 mp (p.take k)}) ps n ((i+1:Nat):Int) (bif Cp mp p then mp else Cq mp p (i:Int))) else .ret [.nils,.int .i64 6]:=by
 have w1:wrap .i64 ((i:Int)+1)=((i+1:Nat):Int):=Zm (by omega);have w2:wrap .i64 ((k:Int)+1)=((k+1:Nat):Int):=Zm (by omega);have ht:(p.drop (k+1)).take (p.length - (k+1))=p.drop (k+1):=A8 (by rw [Bj];omega);unfold Zc;simp only [Zj,Al,Ap,w1,w2,AQ,ht];rw [Zp (EB (by omega)),Zp (Ym (by omega)),hb,Af,Zp (Aa (by omega)),Zp (Aa (by omega)),Zp (Aa (by omega)),Zp (Aa (by omega))];cases Cp mp (p.take k) with
 | false=>rfl
 | true=>rw [Ax,Ab,Af,Zp (Ym (by omega)),Zp (Aa (by omega)),S0 hi];cases Cp mp p <;> rfl
theorem x8a : ∀(v cur:List UInt8),(∀x∈v,(x == 47)=false)->Wy 47 cur v=[cur++v]
 | [],cur,_=>by simp [Wy]
 | x::r,cur,h=>by rw [Wy,h x AS,Ab,x8a r _ fun y hy=>h y (AO _ hy),AH];rfl
theorem v4n {p:List UInt8} (h:p≠ []):Kd p=Wy 47 [] p:=by unfold Kd;rw [Gi p [],Ah h];rfl
theorem j1h {p:List UInt8} (h:NO p): ∀q∈Kd p,Vx q=true:=by
 obtain ⟨h0,h1,h2⟩:=h;unfold C4 at h1;by_cases g1:4000<p.length
 .rw [Aa g1] at h1;cases h1
 .rw [Ah g1,Ab] at h1;by_cases g2:40<(Kd p).length
  .rw [Aa g2] at h1;cases h1
  .rw [Ah g2,Ab] at h1;cases g3:(Kd p).all Vx with
   | false=>rw [g3] at h1;cases h1
   | true=>exact Ay.1 g3
theorem j2l :Vx []=false:=rfl
theorem v2e (ps:List (List UInt8)) (i:Nat) (q:List UInt8):Fy ps (i+1) q=match Fy ps i q with
  | some x=>some x
  | none=>bif rd ps i == q then some (i:Int) else none:=by
 unfold Fy;rw [y8a,Al];cases q == [] with
 | true=>rfl
 | false=>
  rw [Ab,Ab];cases EF ps q i 0 with
  | some x=>rfl
  | none=>cases rd ps i == q <;> rfl
theorem v5y {ps:List (List UInt8)} {i:Nat} {mp:List (List UInt8×Int)} (h: ∀q,ED mp q=Fy ps i q) (q:List UInt8):ED (bif Cp mp (rd ps i) then mp else Cq mp (rd ps i) (i:Int)) q=Fy ps (i+1) q:=by
 rw [v2e];have hp:=h (rd ps i);cases g:Cp mp (rd ps i) with
 | true=>
  rw [Af,h q];cases hv:Fy ps i q with
  | some x=>rfl
  | none=>
   show none=bif rd ps i == q then some (i:Int) else none;cases e:rd ps i == q with
   | false=>rfl
   | true=>rw [<-AU.1 e] at hv;rw [hv] at hp;unfold ED at hp;rw [g] at hp;cases hp
 | false=>
  rw [Ab,ZC,h q];unfold ED at hp;rw [g,Ab] at hp;cases e:q == rd ps i with
  | true=>have e:=AU.1 e;subst e;rw [<-hp,Bl]
  | false=>
   have e2:(rd ps i == q)=false:=by rw [Gi] at e ⊢;rw [AX] at e ⊢;exact fun h=>e h.symm
   rw [Ab,e2];cases Fy ps i q <;> rfl
theorem w5u {mp:List (List UInt8×Int)} {q:List UInt8} {x:Int} (h:ED mp q=some x):Cp mp q=true/\getK 0 mp q=x:=by
 unfold ED at h;cases g:Cp mp q with
 | true=>rw [g,Af] at h;exact ⟨rfl,Ag h⟩
 | false=>rw [g] at h;cases h
theorem j2p {mp:List (List UInt8×Int)} {q:List UInt8} (h:ED mp q=none):Cp mp q=false:=by
 unfold ED at h;cases g:Cp mp q with
 | true=>rw [g] at h;cases h
 | false=>rfl
theorem u1u {s:List UInt8} {l:List B4} {ps:List (List UInt8)} {mp:List (List UInt8×Int)} (hl:l.length<=1000000) (he:l.length=ps.length) (hn:Iu l):
  Zc s (.h11 l ps (ps.length:Int) (ps.length:Int) mp)=.ret (GF (some l)):=by
 unfold Zc;simp only [Zj,Al];rw [Xz (by omega),Ab];have hf:(Nat.beq 7 7&&(decide (l.length<=l.length)&&Cz (Zz l)))=true:=by rw [Ad,Ad];exact ⟨rfl,Aa (Ak _),Xr _⟩
 rw [Zp hf];have hl':Cd B4 l.length (fun k=>Zz l k)=l:=Zt l;rw [hl',Zp (v9l hn hl)];unfold GF;simp only [];cases Ui l != 0 <;> rfl
theorem w1a {s:List UInt8} {ps:List (List UInt8)} (hps: ∀p∈ps,NO p) (hpl:ps.length<=1000000): ∀(k i:Nat) (l:List B4) (mp:List (List UInt8×Int)),i+k=l.length->l.length=ps.length->Iu l->(∀q,ED mp q=Fy ps i q)->
  ∃N,Yw (Zc s) N (.to (.h11 l ps (ps.length:Int) (i:Int) mp))=.ret (GF (Ub ps k i l))
 | 0,i,l,mp,hk,he,hn,hm=>by
  refine ⟨1,?_⟩;have hi:i=ps.length:=by omega
  rw [Zw,hi,u1u (by omega) he hn];rfl
 | k+1,i,l,mp,hk,he,hn,hm=>by
  have hi:i<l.length:=by omega
  have hp:=hps (rd ps i) (IW (by omega));obtain ⟨c1,c2,c3⟩:=Ma hp;have gQ:(rd (Kd (rd ps i)) ((Kd (rd ps i)).length - 1)).length <=500:=c3 _ (IW (by omega));have ht:=(hn (rd l i) (IW hi)).2;have hpl2:=hp.2.2;have e11:Zc s (.h11 l ps (ps.length:Int) (i:Int) mp)=.to (.h15 (rd ps i) (((rd ps i).length :Int) - 1) (rd ps i) l (i:Int) (rd ps i) (rd ps i) ps (ps.length:Int) (i:Int) (rd ps i) mp):=by have w1:wrap .i64 (((rd ps i).length :Int) - 1)=((rd ps i).length :Int) - 1:=Zm (by omega);unfold Zc;simp only [Zj,Al,w1];rw [Zp (Yb (by omega)),Ap,Zp (Ym (by omega)),Zp (Aa (by omega))]
  have hnext:=v5y hm;have hnil:ED mp []=some (-1):=hm [];obtain ⟨hn1,hn2⟩:=w5u hnil;have hrc:=v4n hp.1;obtain ⟨M,hM⟩:=v4v (s:=s) (p:=rd ps i) (l:=l) (i:=(i:Int)) (n:=(ps.length:Int)) (ps:=ps) (mp:=mp) hpl2 (rd ps i).length (Ak _);rcases w5t (rd ps i) (rd ps i).length (Ak _) with ⟨s1,s2⟩ | ⟨j,s1,s2,s3,s4⟩
  .have hno: ∀x∈rd ps i,(x == 47)=false:=fun x hx=>by obtain ⟨m,hm,rfl⟩:=A7 hx;exact s2 m hm hm
   have eZ:Kd (rd ps i)=[rd ps i]:=by rw [hrc,x8a _ _ hno];rfl
   have ha:=w6y (ps:=ps) (i:=i) (by rw [eZ];rfl);rw [eZ] at ha gQ;have ha:HD ps i=some (-1,rd ps i):=ha;have gQ:(rd ps i).length <=500:=gQ;obtain ⟨N,hN⟩:=w1a (s:=s) hps hpl k (i+1) (l.set i {rd l i with n:=rd ps i,a:= -1}) _ (by rw [Bo];omega) (by rw [Bo];exact he) (v2v hn ⟨gQ,ht⟩) hnext;refine ⟨N+M+1,?_⟩;rw [Zw,e11,hM N,s1,u1s hi (by omega) hn1,hn2,Ub,ha];exact hN
  .have hj:j<(rd ps i).length :=s2;have hsp:rd ps i=(rd ps i).take j++47::(rd ps i).drop (j+1):=by
    conv=>lhs;rw [<-List.take_append_drop j (rd ps i)]
    rw [AW hj,s3 hj]
   have hno: ∀x∈(rd ps i).drop (j+1),(x == 47)=false:=fun x hx=>by obtain ⟨m,hm,rfl⟩:=A7 hx;rw [Bj] at hm;rw [List.getElem_drop];exact s4 _ (by omega) (by omega) (by omega)
   obtain ⟨r1,r2⟩:=v4l (u:=(rd ps i).take j) hno;rw [<-hsp] at r1 r2;have hne:=LD 47 ((rd ps i).take j) [];have eK:(Kd (rd ps i)).length =(Wy 47 [] ((rd ps i).take j)).length +1:=by rw [r1,As,AJ]
   have fR:0<(Wy 47 [] ((rd ps i).take j)).length :=List.length_pos_iff.2 hne;have ha:=w6x (ps:=ps) (i:=i) (by omega);have gP:rd (Kd (rd ps i)) ((Kd (rd ps i)).length - 1)=(rd ps i).drop (j+1):=by rw [Wf (by omega)];simp only [r1,As,AJ,Nat.add_sub_cancel];rw [Br (Ak _)];simp
   rw [r2,gP] at ha;rw [gP] at gQ;have hu:(rd ps i).take j≠ []:=fun e=>by
    have:([]:List UInt8)∈Kd (rd ps i):=by rw [r1,e];exact List.mem_append_left _ (by simp [Wy])
    have:=j1h hp _ this;rw [j2l] at this;cases this
   have hv:Fy ps i ((rd ps i).take j)=(EF ps ((rd ps i).take j) i 0).map fun k=>(k:Int):=by unfold Fy;rw [Gi,Ah hu];rfl
   have hlk:=hm ((rd ps i).take j);rw [hv] at hlk;have hb:(CW (rd ps i) j == 47)=true:=by rw [u8s hj,s3 hj];rfl
   have hk15:=u1t (s:=s) (l:=l) (n:=(ps.length:Int)) (ps:=ps) (mp:=mp) hi (by omega) hj hpl2 hb;cases hf:EF ps ((rd ps i).take j) i 0 with
   | none=>rw [hf] at hlk ha;refine ⟨0+M+1,?_⟩;rw [Zw,e11,hM 0,s1,hk15,j2p hlk,Ub,ha];rfl
   | some q=>rw [hf] at hlk ha;obtain ⟨g1,g2⟩:=w5u hlk;have ha:HD ps i=some ((q:Int),(rd ps i).drop (j+1)):=ha;obtain ⟨N,hN⟩:=w1a (s:=s) hps hpl k (i+1) (l.set i {rd l i with n:=(rd ps i).drop (j+1),a:=(q:Int)}) _ (by rw [Bo];omega) (by rw [Bo];exact he) (v2v hn ⟨gQ,ht⟩) hnext;refine ⟨N+M+1,?_⟩;rw [Zw,e11,hM N,s1,hk15,g1,g2,Ub,ha];exact hN
theorem j1r {s:List UInt8} {ls ps:List (List UInt8)} {i:Nat} {t a b c:Int} {sol:List R6} {pre:List B4} (hls:Zi (Zu s [10]) [10]=ls) (hi:i=ls.length):
  Zc s (.h7 ps (i:Int) t a b c sol pre)=.to (.h11 (pre++[Fu t a b c sol]) ps (ps.length:Int) 0 (Cq ([]:List (List UInt8×Int)) ([]:List UInt8) (-1))):=by
 unfold Zc;simp only [hls];rw [Xz (by omega),Ab]
theorem w0z {s:List UInt8} {ls:List (List UInt8)} (hls:Zi (Zu s [10]) [10]=ls) (hx: ∀p∈ls,p.length<=1000000) (hn:ls.length<=900000): ∀(k i:Nat) (ps:List (List UInt8)) (t a b c:Int) (sol:List R6) (pre:List B4),i+k=ls.length->pre.length<=i->sol.length<=i->ps.length=pre.length+1->(∀p∈ps,NO p)->Iu pre->0<=t->
  ∃N,Yw (Zc s) N (.to (.h7 ps (i:Int) t a b c sol pre))=.ret (Ng (EK (ls.drop i) pre (Fu t a b c sol) ps))
 | 0,i,ps,t,a,b,c,sol,pre,h,h1,h2,h3,h4,h5,h6=>by
  have hn':Iu (pre++[Fu t a b c sol]):=fun x hx=>by
   rcases AP.1 hx with hx | hx
   .exact h5 x hx
   .rw [Bc.1 hx];exact ⟨AG _,h6⟩
  obtain ⟨N,hN⟩:=w1a (s:=s) h4 (by omega) (pre++[Fu t a b c sol]).length 0 (pre++[Fu t a b c sol]) (Cq ([]:List (List UInt8×Int)) ([]:List UInt8) (-1)) (Al _) (by rw [As,AJ,h3]) hn' (fun q=>by
   rw [ZC,v5z];unfold Fy;cases q == [] <;> rfl)
  refine ⟨N+1,?_⟩;rw [Zw,j1r hls (by omega),Aw (by omega)];show Yw _ N (.to (CH.h11 _ ps _ ((0:Nat):Int) _))=.ret (Ng (some (pre++[Fu t a b c sol],ps)));rw [hN,j1w]
 | k +1,i,ps,t,a,b,c,sol,pre,h,h1,h2,h3,h4,h5,h6=>by
  have hi:i<ls.length:=by omega
  have hpl:(rd ls i).length <=1000000:=hx _ (IW hi);rw [Xj hi];obtain ⟨M,hM⟩:=u1r (ps:=ps) (t:=t) (a:=a) (b:=b) (c:=c) (sol:=sol) (pre:=pre) hls hi hpl (by omega) (by omega) (by omega) (by omega);cases g:E5 (rd ls i) with
  | none=>refine ⟨0+M,?_⟩;rw [hM 0,g,EK,g];rfl
  | some q=>
   cases q with
   | nod p t' x y z=>
    obtain ⟨q1,q2⟩:=x7e g;have hn':Iu (pre++[Fu t a b c sol]):=fun x hx=>by
     rcases AP.1 hx with hx | hx
     .exact h5 x hx
     .rw [Bc.1 hx];exact ⟨AG _,h6⟩
    obtain ⟨N,hN⟩:=w0z hls hx hn k (i+1) (ps++[p]) t' x y z [] (pre++[Fu t a b c sol]) (by omega) (by rw [As,AJ];omega) (AG _) (by simp only [As,AJ];omega) (fun r hr=>by
     rcases AP.1 hr with hr | hr
     .exact h4 r hr
     .rw [Bc.1 hr];exact q1 hpl) hn' q2
    refine ⟨N+M,?_⟩;rw [hM N,g,EK,g];exact hN
   | box r=>obtain ⟨N,hN⟩:=w0z hls hx hn k (i+1) ps t a b c (sol++[r]) pre (by omega) (by omega) (by rw [As,AJ];omega) h3 h4 h5 h6;refine ⟨N+M,?_⟩;rw [hM N,g,EK,g];exact hN
section
variable {s:List UInt8} {ls:List (List UInt8)} {w p e1 e2 e3 e4:List UInt8}
theorem f5 {X:List UInt8} (hX:rd (Zi (Zu s [10]) [10]) 0=X) (hW:Zi X [32]=[w,p,e1,e2,e3,e4]) (hx:e1.length<=1000000):Zc s .h5 =(Ca e1).elim (eF CH) fun _=>.to .h6 :=by rw [<-EU hx];unfold Zc;simp only [hX,hW];rw [Zp (show decide ((0:Int)<((([w,p,e1,e2,e3,e4].length - 2:Nat)):Int))=true from rfl),Zp (Dc (j:=0) (by omega) (by show (0:Int)<((4:Nat):Int);omega))];rfl
theorem f6 {X:List UInt8} (hX:rd (Zi (Zu s [10]) [10]) 0=X) (hW:Zi X [32]=[w,p,e1,e2,e3,e4]) (hx:e2.length<=1000000):Zc s .h6 =(Ca e2).elim (eF CH) fun _=>.to .h8 :=by rw [<-EU hx];unfold Zc;simp only [hX,hW];rw [Zp (show decide ((1:Int)<((([w,p,e1,e2,e3,e4].length - 2:Nat)):Int))=true from rfl),Zp (Dc (j:=1) (by omega) (by show (1:Int)<((4:Nat):Int);omega))];rfl
theorem f8 {X:List UInt8} (hX:rd (Zi (Zu s [10]) [10]) 0=X) (hW:Zi X [32]=[w,p,e1,e2,e3,e4]) (hx:e3.length<=1000000):Zc s .h8 =(Ca e3).elim (eF CH) fun _=>.to .h12 :=by rw [<-EU hx];unfold Zc;simp only [hX,hW];rw [Zp (show decide ((2:Int)<((([w,p,e1,e2,e3,e4].length - 2:Nat)):Int))=true from rfl),Zp (Dc (j:=2) (by omega) (by show (2:Int)<((4:Nat):Int);omega))];rfl
theorem f12 {X:List UInt8} (hX:rd (Zi (Zu s [10]) [10]) 0=X) (hW:Zi X [32]=[w,p,e1,e2,e3,e4]) (hx:e4.length<=1000000):Zc s .h12 =(Ca e4).elim (eF CH) fun _=>.to .h16 :=by rw [<-EU hx];unfold Zc;simp only [hX,hW];rw [Zp (show decide ((3:Int)<((([w,p,e1,e2,e3,e4].length - 2:Nat)):Int))=true from rfl),Zp (Dc (j:=3) (by omega) (by show (3:Int)<((4:Nat):Int);omega))];rfl
theorem VI {x:List UInt8} {n:Int} (h:Ca x=some n):Za x=n:=by
 unfold Ca at h;unfold Za;cases g:atoiAll x with
 | ok v=>
  rw [g] at h;have h:(bif decide (itoa v=x/\ -9999999<=v/\v<=9999999) then some v else none)=some n:=h;show v=n;cases hd:decide (itoa v=x/\ -9999999<=v/\v<=9999999) with
  | true=>rw [hd] at h;exact Ag h
  | false=>rw [hd] at h;cases h
 | _=>rw [g] at h;cases h
theorem f16 {X:List UInt8} (hX:rd (Zi (Zu s [10]) [10]) 0=X) (hW:Zi X [32]=[w,p,e1,e2,e3,e4]) {n1 n2 n3 n4:Int} (h1:Za e1=n1) (h2:Za e2=n2) (h3:Za e3=n3) (h4:Za e4=n4):
  Zc s .h16 =bif decide (0<=n1)&&decide (n1<=23) then .to (.h7 [p] 1 n1 n2 n3 n4 [] []) else eF CH:=by
 have r2:rd [w,p,e1,e2,e3,e4] 2=e1:=rfl;have r3:rd [w,p,e1,e2,e3,e4] 3=e2:=rfl;have r4:rd [w,p,e1,e2,e3,e4] 4=e3:=rfl;have r5:rd [w,p,e1,e2,e3,e4] 5=e4:=rfl;have r1:rd [w,p,e1,e2,e3,e4] 1=p:=rfl;unfold Zc;simp only [hX,hW,r1,r2,r3,r4,r5,h1,h2,h3,h4];rw [show decide ((4:Int)<((([w,p,e1,e2,e3,e4].length - 2:Nat)):Int))=false from rfl,Ab];by_cases g1:n1<0
 .rw [Aa g1,Ah (show ¬0<=n1 by omega)];rfl
 .rw [Ah g1,Aa (show 0<=n1 by omega),Ab,Aq];by_cases g2:n1>23
  .rw [Aa g2,Ah (show ¬n1<=23 by omega)];rfl
  .rw [Ah g2,Aa (show n1<=23 by omega),Ab,Af];rw [Zp (Id (by omega)),Zp (Dc (j:=1) (by omega) (by show (1:Int)<((6:Nat):Int);omega)),Zp (Id (by omega)),w8 n1 (by omega)]
theorem v4w {X:List UInt8} (hX:rd (Zi (Zu s [10]) [10]) 0=X) (hW:Zi X [32]=[w,p,e1,e2,e3,e4]) (l1:e1.length<=1000000) (l2:e2.length<=1000000) (l3:e3.length<=1000000) (l4:e4.length<=1000000) (N:Nat):
  Yw (Zc s) (N+5) (.to .h5)=Dn (fun p t' x y z=>Yw (Zc s) N (.to (.h7 [p] 1 t' x y z [] []))) (fun _=>eF CH) ((Qu [e1,e2,e3,e4]).bind (Dw p)):=by
 rw [Zw,f5 hX hW l1,Wr e1];cases g1:Ca e1 with
 | none=>exact Vk _ _
 | some x1=>
  show Yw _ (N+4) (.to CH.h6)=_;rw [Zw,f6 hX hW l2,Wr e2];cases g2:Ca e2 with
  | none=>exact Vk _ _
  | some x2=>
   show Yw _ (N+3) (.to CH.h8)=_;rw [Zw,f8 hX hW l3,Wr e3];cases g3:Ca e3 with
   | none=>exact Vk _ _
   | some x3=>
    show Yw _ (N+2) (.to CH.h12)=_;rw [Zw,f12 hX hW l4,Wr e4];cases g4:Ca e4 with
    | none=>exact Vk _ _
    | some x4=>
     show Yw _ (N+1) (.to CH.h16)=_;rw [Zw,f16 hX hW (VI g1) (VI g2) (VI g3) (VI g4)];show _=Dn _ _ (bif decide (0<=x1)&&decide (x1<=23) then some (.nod p x1 x2 x3 x4) else none);cases decide (0<=x1)&&decide (x1<=23) with
     | true=>rfl
     | false=>exact Vk _ _
end
theorem TE {σ:Type} {w:List UInt8} {r:List (List UInt8)} {Kb:Xu σ}:pB (w::r) false Kb=eF σ:=by unfold pB;cases rd (w::r) 0 == ([98,111,120]:List UInt8) <;> rfl
theorem TD {σ:Type} {w:List UInt8} {r:List (List UInt8)} {Kn Kb:Xu σ} (hs: ∀p∈r,p.length<=1000000):
  pT (w::r) false Kn Kb=bif decide (w=CS) then pN Kn r else eF σ:=by
 have h:=KI (w:=w) (r:=r) (Kn:=Kn) (Kb:=eF σ) hs;have e:pT (w::r) true Kn (eF σ)=pT (w::r) false Kn Kb:=by
  have hb:pB (w::r) true (eF σ)=pB (w::r) false Kb:=by rw [TE,KJ];cases decide (w=C3)&&decide (r.length=6) <;> rfl
  unfold pT;rw [hb]
 rw [<-e,h];cases decide (w=CS) with
 | true=>rfl
 | false=>rw [Ab,Ab];cases decide (w=C3)&&decide (r.length=6) <;> rfl
theorem Mh {s:List UInt8} {ls:List (List UInt8)} {w:List UInt8} {r:List (List UInt8)} (hls:Zi (Zu s [10]) [10]=ls) (hi:0<ls.length) (hx:(rd ls 0).length <=1000000) (hw:Wy 32 [] (rd ls 0)=w::r):
  Zc s .h3 =pT (w::r) false (.to .h5) (eF CH):=by
 have hW:Zi (rd ls 0) [32]=w::r:=by rw [RS];exact hw
 unfold Zc;simp only [hls,hW];rw [Zp (Yb (by omega)),Zp (Dc (j:=0) (by omega) (by omega))];rw [Zp (show Jq (rd ls 0) [32]=true by unfold Jq;rw [Aa (show (rd ls 0).length <4294967281 by omega)];rfl)];rfl
theorem v4x {s:List UInt8} {ls:List (List UInt8)} (hls:Zi (Zu s [10]) [10]=ls) (hi:0<ls.length) (hx:(rd ls 0).length <=1000000):
  ∃M,∀N,Yw (Zc s) (N+M) (.to .h3)=Dn (fun p t' x y z=>Yw (Zc s) N (.to (.h7 [p] 1 t' x y z [] []))) (fun q=>eF CH) (E5 (rd ls 0)):=by
 have hne:=LD 32 (rd ls 0) [];have hpc: ∀p,p∈Wy 32 [] (rd ls 0)->p.length<=(rd ls 0).length :=fun p hp=>by have:=Qb 32 (rd ls 0) [] p hp;simpa using this
 unfold E5;cases hw:Wy 32 [] (rd ls 0) with
 | nil=>exact absurd hw hne
 | cons w r=>
  rw [hw] at hpc;have hs: ∀p∈r,p.length<=1000000:=fun p hp=>by have:=hpc p (AO _ hp);omega
  have e:=Mh (s:=s) hls hi hx hw;rw [TD hs] at e;rw [Ql];cases gw:decide (w=CS) with
  | true=>
   rw [gw,Af] at e;rw [Af]
   match r,hs,hw,e with
   | [],_,_,e=>exact ⟨1,fun N=>by rw [Zw,e];exact Vk _ _⟩
   | p::q,hs,hw,e=>
    have e:Zc s .h3 =bif decide (q.length=4)&&(!decide (p=[])&&decide (C4 p=0)) then _ else _:=e;show∃M,∀N,_=Dn _ _ (bif decide (q.length=4)&&(!decide (p=[])&&decide (C4 p=0)) then (Qu q).bind (Dw p) else none);cases g2:decide (q.length=4)&&(!decide (p=[])&&decide (C4 p=0)) with
    | false=>rw [g2,Ab] at e;exact ⟨1,fun N=>by rw [Zw,e];exact Vk _ _⟩
    | true=>
     rw [g2,Af] at e;have e5:Zc s .h3 =.to .h5 :=e;rw [Ad,An] at g2
     match q,g2.1,hs,hw with
     | [e1,e2,e3,e4],_,hs,hw=>refine ⟨6,fun N=> ?_⟩;rw [show N+6=(N+5)+1 from rfl,Zw,e5,Af];rw [v4w (X:=rd ls 0) (by rw [hls]) (by rw [RS];exact hw) (hs e1 (by simp)) (hs e2 (by simp)) (hs e3 (by simp)) (hs e4 (by simp)) N]
  | false=>
   rw [gw,Ab] at e;rw [Ab];refine ⟨1,fun N=> ?_⟩;rw [Zw,e];cases g2:decide (w=C3)&&decide (r.length=6) with
   | false=>exact Vk _ _
   | true=>
    rw [Af];cases hq:Qu r with
    | none=>exact Vk _ _
    | some L=>
     show _=Dn _ _ (EP L);unfold EP;split
     .exact Vk _ _
     .exact Vk _ _
theorem v4y {s:List UInt8} {ls:List (List UInt8)} (hls:Zi (Zu s [10]) [10]=ls) (hn:ls.length<=1000000): ∀(k i c:Nat),i+k=ls.length->c<=i-> ∀N,
  Yw (Zc s) (N+k) (.to (.h1 (c:Int) (i:Int)))=Yw (Zc s) N (.to (.h1 ((c+DF (ls.drop i):Nat):Int) (ls.length:Int)))
 | 0,i,c,hk,hc,N=>by rw [Aw (by omega),show i=ls.length by omega];rfl
 | k+1,i,c,hk,hc,N=>by
  have hi:i<ls.length:=by omega
  have w1:wrap .i64 ((i:Int)+1)=((i+1:Nat):Int):=Zm (by omega);have w2:wrap .i64 ((c:Int)+1)=((c+1:Nat):Int):=Zm (by omega);have e:Zc s (.h1 (c:Int) (i:Int))=.to (.h1 ((c+(bif (rd ls i).take 5 == Er then 1 else 0):Nat):Int) ((i+1:Nat):Int)):=by
   unfold Zc;simp only [hls,Zj,w1,w2,AQ];rw [Zp (Yb (by omega)),Ap,Zp (Ym (by omega))];generalize rd ls i=x;by_cases g:5<=x.length
   .rw [Aa (show (x.length:Int)>=5 by omega),Aa g,Af,Af];show (bif x.take 5 == Er then _ else _)=_;cases x.take 5 == Er <;> rfl
   .rw [Ah (show ¬(x.length:Int)>=5 by omega),Ab];have:(x.take 5 == Er)=false:=by rw [Gi];refine Ah fun h=> ?_;have:=At List.length h;rw [Bk] at this;have e5:Er.length=5:=rfl;omega
    rw [this];rfl
  have hb:(bif (rd ls i).take 5 == Er then 1 else 0)<=1:=by cases (rd ls i).take 5 == Er <;> simp
  rw [show N+(k+1)=(N+k)+1 from rfl,Zw,e,v4y hls hn k (i+1) _ (by omega) (by omega) N,Xj hi,w9j,AM]
theorem Mi {s:List UInt8} {ls:List (List UInt8)} (hls:Zi (Zu s [10]) [10]=ls) (m:Nat):
  Zc s (.h1 (m:Int) (ls.length:Int))=bif decide (60000<s.length)||decide (200<m) then .ret [.nils,.int .i64 4] else bif !(EE s [10]) then eF CH else .to .h3 :=by
 unfold Zc;simp only [hls];rw [Xz (by omega),Ab];rw [show decide ((s.length:Int)>60000)=decide (60000<s.length) by rw [AR,An,An];omega];rw [show decide ((m:Int)>200)=decide (200<m) by rw [AR,An,An];omega];cases decide (60000<s.length) <;> cases decide (200<m) <;> rfl
theorem v5u (l:List (List UInt8)):DF (l++[[]])=DF l:=by unfold DF;rw [List.filter_append,As];rfl
theorem j1q (s:List UInt8) (h:UB s=true): ∃N vs,Yw (Zc s) N (LZ s)=.ret vs/\(vs=Dd s\/(vs=[.nils,.int .i64 0]/\Dx s=([],0))):=by
 have hs:s.length<=100000:=Av h;by_cases h0:s=[]
 .subst h0;refine ⟨3,[.nils,.int .i64 0],?_,.inr ⟨rfl,?_⟩⟩
  .have e4:Zc [] .h4 =.ret [.nils,.int .i64 0]:=by unfold Zc;simp only [];rw [Zp (show Yk ([]:List B4)=true from rfl),v3d];rfl
   show Yw (Zc []) 3 (.to .h0)=_;rw [Zw,show Zc [] .h0 =.to .h2 from rfl,Zw,show Zc [] .h2 =.to .h4 from rfl,Zw,e4];rfl
  .show FE (some ([],[]))=_;exact W7 v3d
 .have fR:1<=s.length:=by
   cases s with
   | nil=>exact absurd rfl h0
   | cons a l=>rw [Au];omega
  obtain ⟨t,b,hb⟩: ∃t b,s=t++[b]:=⟨s.dropLast,s.getLast h0,(List.dropLast_concat_getLast h0).symm⟩
  have eK:s.length=t.length+1:=by rw [hb,As,AJ]
  have hc1:EE s [10]=(b == 10):=by unfold EE;rw [Aa (show ([10]:List UInt8).length <=s.length from fR),Aq,show s.length - ([10]:List UInt8).length =t.length from by rw [AJ];omega,hb,List.drop_left];show (b == 10&&([]:List UInt8) == [])=_;rw [show (([]:List UInt8) == [])=true from rfl,Ap]
  have hso:Ks s [10]=true:=by unfold Ks;rw [Aa (show s.length<=1000000 by omega)];rfl
  have hco:Jq (Zu s [10]) [10]=true:=by have:=v7t (s:=s) (f:=[10]);unfold Jq;rw [Aa (show (Zu s [10]).length <4294967281 by omega)];rfl
  have hstart:LZ s=.to (.h1 ((0:Nat):Int) ((0:Nat):Int)):=by
   unfold LZ;rw [show (s == ([]:List UInt8))=false by cases s with
    | nil=>exact absurd rfl h0
    | cons a l=>rfl,Ab,Zp hso,Zp hco];rfl
  have hV: ∀ls,Zi (Zu s [10]) [10]=ls->ls.length<=900000-> ∀N,Yw (Zc s) (N+1+ls.length) (LZ s)=Yw (Zc s) N (bif decide (60000<s.length)||decide (200<DF ls) then .ret [.nils,.int .i64 4] else bif !(EE s [10]) then eF CH else .to .h3):=fun ls hls hn N=>by have hc:=v4y hls (by omega) ls.length 0 0 (Al _) (Ak _) (N+1);rw [AQ,Al] at hc;rw [hstart,hc,Zw,Mi hls]
  have hW4: ∀m,DF (Wy 10 [] s)=m->(decide (60000<s.length)||decide (200<m))=true->Dd s=[.nils,.int .i64 4]:=fun m hm g=>by
   have e:Dx s=([],4):=by unfold Dx;rw [hm,g];rfl
   unfold Dd;rw [e];rfl
  have hWR: ∀m,DF (Wy 10 [] s)=m->(decide (60000<s.length)||decide (200<m))=false->Dd s=Ng ((Fk s).bind Fm):=fun m hm g=>by rw [AT,AX,AX] at g;exact j1u g.1 (by rw [hm];exact g.2)
  by_cases h10:b=10
  .subst h10;have eU:Zu s [10]=t:=by unfold Zu;rw [hc1,show ((10:UInt8) == 10)=true from rfl,Af,show s.length - ([10]:List UInt8).length =t.length from by rw [AJ];omega,hb,List.take_left]
   have hls:Zi (Zu s [10]) [10]=Wy 10 [] t:=by rw [eU,RS]
   have hne:=LD 10 t [];have hcl:=UW 10 t [];have hp:0<(Wy 10 [] t).length :=List.length_pos_iff.2 hne;have hcs:Wy 10 [] s=Wy 10 [] t++[[]]:=by rw [hb,U9]
   have hm:DF (Wy 10 [] s)=DF (Wy 10 [] t):=by rw [hcs,v5u]
   have hr:Fk s=some (Wy 10 [] t):=by unfold Fk;rw [hb,U9,List.getLast?_append,List.getLast?_singleton];show some ((Wy 10 [] t++[[]]).dropLast)=_;rw [List.dropLast_concat]
   have hx: ∀p∈Wy 10 [] t,p.length<=1000000:=fun p hp=>by have:=Qb 10 t [] p hp;simp at this;omega
   have hV:=hV _ hls (by omega);rw [hc1] at hV;cases g:decide (60000<s.length)||decide (200<DF (Wy 10 [] t)) with
   | true=>rw [g] at hV;exact ⟨0+1+(Wy 10 [] t).length,Dd s,by rw [hV 0,hW4 _ hm g];rfl,.inl rfl⟩
   | false=>
    rw [g] at hV;have hV: ∀N,Yw (Zc s) (N+1+(Wy 10 [] t).length) (LZ s)=Yw (Zc s) N (.to .h3):=hV;have hW:=hWR _ hm g;rw [hr] at hW;have hd:=Xj hp;rw [AQ] at hd;have hW:Dd s=Ng (Fm (Wy 10 [] t)):=hW;rw [hd] at hW;obtain ⟨M,hM⟩:=v4x hls hp (hx _ (IW hp));cases gl:E5 (rd (Wy 10 [] t) 0) with
    | none=>rw [gl] at hM;refine ⟨0+M+1+(Wy 10 [] t).length,Dd s,?_,.inl rfl⟩;rw [hV (0+M),hM 0,hW,Fm,gl];rfl
    | some q=>
     cases q with
     | box r=>rw [gl] at hM;refine ⟨0+M+1+(Wy 10 [] t).length,Dd s,?_,.inl rfl⟩;rw [hV (0+M),hM 0,hW,Fm,gl];rfl
     | nod p t' x y z=>rw [gl] at hM;obtain ⟨q1,q2⟩:=x7e gl;obtain ⟨N,hN⟩:=w0z hls hx (by omega) ((Wy 10 [] t).length - 1) 1 [p] t' x y z [] [] (by omega) (AG _) (AG _) rfl (fun u hu=>by rw [Bc.1 hu];exact q1 (hx _ (IW hp))) (fun u hu=>by cases hu) q2;refine ⟨N+M+1+(Wy 10 [] t).length,Dd s,?_,.inl rfl⟩;rw [hV (N+M),hM N,hW,Fm,gl];exact hN
  .have hbe:(b == 10)=false:=by rw [A5];exact fun e=>h10 (AU.1 e)
   have eU:Zu s [10]=s:=by unfold Zu;rw [hc1,hbe];rfl
   have hls:Zi (Zu s [10]) [10]=Wy 10 [] s:=by rw [eU,RS]
   have hcl:=UW 10 s [];have hV:=hV _ hls (by omega);rw [hc1,hbe] at hV;have hr:Fk s=none:=by
    unfold Fk;cases hc:(Wy 10 [] s).getLast? with
    | none=>rfl
    | some p=>
     cases p with
     | cons _ _=>rfl
     | nil=>
      exfalso;rcases YZ 10 s [] hc with ⟨_,e⟩ | ⟨t',e⟩
      .exact h0 e
      .rw [hb] at e;have:=List.append_inj_right' e rfl;injection this with this _;exact h10 this
   cases g:decide (60000<s.length)||decide (200<DF (Wy 10 [] s)) with
   | true=>rw [g] at hV;exact ⟨0+1+(Wy 10 [] s).length,Dd s,by rw [hV 0,hW4 _ rfl g];rfl,.inl rfl⟩
   | false=>rw [g] at hV;exact ⟨0+1+(Wy 10 [] s).length,Dd s,by rw [hV 0,hWR _ rfl g,hr];rfl,.inl rfl⟩
theorem j4j {S:B3} (hS:Zv prog S):Zv prog (S.with Sq OO):=GO hS (by kernel_rfl) fun args v h=>by
 unfold OO at h;split at h
 .rename_i s;simp only [Ae,Ac] at h;obtain ⟨rfl,ho⟩:=h;obtain ⟨N,vs,hN,hv⟩:=j1q s ho;exact ⟨_,vs,.cons (.refl _) .nil,Mf hv,u1w s N _ hN,5,Me hv⟩
 .cases h
def D8 (b:UInt8) (x:List UInt8):Prop:= ∀c∈x,c≠b
theorem w1l {b:UInt8} {x y:List UInt8} (hx:D8 b x) (hy:D8 b y):D8 b (x++y):=fun c hc=>by
 rcases AP.1 hc with h | h
 .exact hx c h
 .exact hy c h
theorem V8 {b:UInt8}: ∀(x cur rest:List UInt8),D8 b x->Wy b cur (x++rest)=Wy b (cur++x) rest
 | [],cur,rest,h=>by rw [A6,AL]
 | c::x,cur,rest,h=>by
  have hc:(c == b)=false:=by have:=h c AS;simp [this]
  rw [A3,Wy,hc,Ab,V8 x (cur++[c]) rest fun d hd=>h d (AO _ hd),AH];rfl
def Ex (b:UInt8):List (List UInt8)->List UInt8
 | []=>[]
 | x::l=>x++b::Ex b l
def F3 (b:UInt8):List (List UInt8)->List UInt8
 | []=>[]
 | x::l=>b::(x++F3 b l)
theorem v7q {b:UInt8}: ∀(ls:List (List UInt8)),(∀x∈ls,D8 b x)->Wy b [] (Ex b ls)=ls++[[]]
 | [],_=>rfl
 | x::l,h=>by rw [Ex,V8 x [] _ (h x AS),A6,Wy,Bl,Af,v7q l fun y hy=>h y (AO _ hy)];rfl
theorem w6u {b:UInt8}: ∀(ws:List (List UInt8)) (cur:List UInt8),(∀x∈ws,D8 b x)->Wy b cur (F3 b ws)=cur::ws
 | [],cur,_=>rfl
 | x::l,cur,h=>by rw [F3,Wy,Bl,Af,V8 x [] _ (h x AS),A6,w6u l x fun y hy=>h y (AO _ hy)]
theorem x7y {b:UInt8} {w:List UInt8} {ws:List (List UInt8)} (hw:D8 b w) (h: ∀x∈ws,D8 b x):Wy b [] (w++F3 b ws)=w::ws:=by rw [V8 w [] _ hw,A6,w6u ws w h]
theorem v7i {b:UInt8}: ∀(l m:List (List UInt8)),Ex b (l++m)=Ex b l++Ex b m
 | [],m=>rfl
 | x::l,m=>by rw [A3,Ex,Ex,v7i l m];simp
theorem x7x : ∀(u:Nat),∀c∈decDigits u,48<=c.toNat/\c.toNat<=57:=by
 intro u
 induction u using Nat.strongRecOn with
 | _ u ih=>
  intro c hc;by_cases g:u<10
  .rw [decDigits,dif_pos g,Bc] at hc;subst hc;rw [Q8 g];omega
  .rw [decDigits,dif_neg g] at hc;rcases AP.1 hc with h | h
   .exact ih (u / 10) (by omega) c h
   .rw [Bc] at h;subst h;rw [Q8 (by omega)];omega
theorem v0b {n:Int} {c:UInt8} (h:c∈itoa n):45<=c.toNat/\c.toNat<=57:=by
 unfold itoa at h;split at h
 .cases h with
  | head=>decide
  | tail _ h=>have:=x7x _ c h;omega
 .have:=x7x _ c h;omega
theorem j2y (n:Int) {b:UInt8} (hb:b.toNat<45):D8 b (itoa n):=fun c hc e=>by subst e;have:=v0b hc;omega
theorem x1f : ∀(i:Nat) (x:List UInt8),F9 i x=true-> ∀c∈x,45<=c.toNat
 | _,[],_=>fun c hc=>by cases hc
 | i,d::x,h=>fun c hc=>by
  rw [F9,Ad] at h;cases hc with
  | head=>have h1:=h.1;unfold HK GK digN at h1;simp only [Bx,Ad,An] at h1;omega
  | tail _ hc=>exact x1f (i+1) x h.2 c hc
theorem w9g {x:List UInt8} (h:Cb x=true): ∀c∈x,45<=c.toNat:=by unfold Cb at h;rw [Ad,Ad] at h;exact x1f 0 x h.2.2
theorem j2c {x:List UInt8} (h:Cb x=true):x≠ []:=by unfold Cb at h;rw [Ad,An] at h;intro e;rw [e] at h;exact absurd h.1 (by decide)
theorem v0a : ∀(L:List (List UInt8)),(∀p∈L,∀c∈p,45<=c.toNat)-> ∀c∈Lib.join L [47],45<=c.toNat:=by
 have tl: ∀(L:List (List UInt8)),(∀p∈L,∀c∈p,45<=c.toNat)-> ∀c∈joinTail [47] L,45<=c.toNat:=fun L=>by
  induction L with
  | nil=>intro _ c hc;cases hc
  | cons x r ih=>
   intro h c hc;rw [Ki] at hc;rcases AP.1 hc with hc | hc
   .rcases AP.1 hc with hc | hc
    .rw [Bc.1 hc];decide
    .exact h x AS c hc
   .exact ih (fun p hp=>h p (AO _ hp)) c hc
 intro L h c hc;cases L with
 | nil=>cases hc
 | cons x r=>
  rw [join_cons] at hc;rcases AP.1 hc with hc | hc
  .exact h x AS c hc
  .exact tl r (fun p hp=>h p (AO _ hp)) c hc
theorem x2m : ∀(l:List Int),GA l=F3 32 (l.map itoa)
 | []=>rfl
 | n::l=>by rw [GA,A2,F3,x2m l]
def Gd (x:B4):List Int:=[x.t,x.x,x.y,x.z]
def FQ (r:R6):List Int:=[r.a,r.b,r.c,r.d,r.e,r.f]
def Ry (p:List UInt8) (x:B4):List UInt8:=CS++F3 32 (p::(Gd x).map itoa)
def G6 (r:R6):List UInt8:=C3++F3 32 ((FQ r).map itoa)
def Ri (p:List UInt8) (x:B4):List (List UInt8):=Ry p x::x.s.map G6
def Dg (l:List B4):Nat->Nat->List (List UInt8)
 | 0,_=>[]
 | k+1,i=>Ri (Xa l (i:Int)) (rd l i)++Dg l k (i+1)
theorem v5k (p:List UInt8) (x:B4):Fa p x=Ry p x++[10]:=by
 unfold Fa Ry;rw [x2m];show [110,111,100,101,32]++p++(F3 32 ((Gd x).map itoa)++[10])=([110,111,100,101]++32::(p++F3 32 ((Gd x).map itoa)))++[10]
 simp
theorem v8b (r:R6):Fr r=G6 r++[10]:=by unfold Fr G6;rw [x2m,<-AH];rfl
theorem x1z : ∀s:List R6,FT s=Ex 10 (s.map G6)
 | []=>rfl
 | r::l=>by rw [FT,A2,Ex,v8b,x1z l,AH];rfl
theorem u0q (l:List B4) (i:Nat):Fx l i=Ex 10 (Ri (Xa l (i:Int)) (rd l i)):=by unfold Fx Ri;rw [v5k,x1z,Ex,AH];rfl
theorem x5k (l:List B4): ∀k i,Dh l k i=Ex 10 (Dg l k i)
 | 0,i=>rfl
 | k+1,i=>by rw [Dh,Dg,v7i,u0q,x5k l k (i+1)]
theorem ZE : ∀L:List Int,(∀n∈L,-9999999<=n/\n<=9999999)->Qu (L.map itoa)=some L
 | [],_=>rfl
 | n::L,h=>by have hn:=h n AS;rw [A2,Wr,v5h rfl hn.1 hn.2,ZE L fun m hm=>h m (AO _ hm)];rfl
theorem v5m :D8 32 CS:=by unfold D8 CS;decide
theorem u2l :D8 32 C3:=by unfold D8 C3;decide
theorem W4 (L:List Int) {b:UInt8} (hb:b.toNat<45): ∀x∈L.map itoa,D8 b x:=fun x hx=>by obtain ⟨n,_,rfl⟩:=BR.1 hx;exact j2y n hb
theorem u8q {x:List UInt8} (h: ∀c∈x,45<=c.toNat) {b:UInt8} (hb:b.toNat<45):D8 b x:=fun c hc e=>by subst e;have:=h c hc;omega
theorem w5w {p:List UInt8} {x:B4} (hp:NO p) (hb: ∀c∈p,45<=c.toNat) (hx:EZ x):E5 (Ry p x)=some (.nod p x.t x.x x.y x.z):=by
 have ht:=hx.t;have h1:=hx.x;have h2:=hx.y;have h3:=hx.z;unfold E5 Ry;rw [x7y v5m (fun y hy=>by
  rcases AN.1 hy with rfl | hy
  .exact u8q hb (by decide)
  .exact W4 (Gd x) (by decide) y hy),Ql,Aa rfl,Af]
 show (bif decide (((Gd x).map itoa).length =4)&&(!decide (p=[])&&decide (C4 p=0)) then (Qu ((Gd x).map itoa)).bind (Dw p) else none)=_;rw [Aa (show ((Gd x).map itoa).length =4 from rfl),Ah hp.1,Aa hp.2.1];show (Qu ((Gd x).map itoa)).bind (Dw p)=_;rw [ZE (Gd x) (fun n hn=>by simp only [Gd,AN,List.mem_nil_iff,or_false] at hn;omega)];show (bif decide (0<=x.t)&&decide (x.t<=23) then some (DK.nod p x.t x.x x.y x.z) else none)=_;rw [Aa ht.1,Aa (show x.t<=23 by omega)];rfl
theorem u2z {r:R6} (h:(-1000000<=r.a/\r.a<=1000000)/\(-1000000<=r.b/\r.b<=1000000)/\(-1000000<=r.c/\r.c<=1000000)/\(-1000000<=r.d/\r.d<=1000000)/\(-1000000<=r.e/\r.e<=1000000)/\(-1000000<=r.f/\r.f<=1000000)):E5 (G6 r)=some (.box r):=by unfold E5 G6;rw [x7y u2l (W4 (FQ r) (by decide)),Ql,Ah (show ¬C3=CS by decide),Ab,Aa rfl,Aa (show ((FQ r).map itoa).length =6 from rfl)];show (Qu ((FQ r).map itoa)).bind EP=_;rw [ZE (FQ r) (fun n hn=>by simp only [FQ,AN,List.mem_nil_iff,or_false] at hn;omega)];rfl
theorem Z3 {x:B4} (hx:EZ x): ∀(s:List R6),(∀r∈s,r∈x.s)-> ∀(rest:List (List UInt8)) (pre:List B4) (q:B4) (ps:List (List UInt8)),EK (s.map G6++rest) pre q ps=EK rest pre {q with s:=q.s++s} ps
 | [],_,rest,pre,q,ps=>by rw [AL];rfl
 | r::s,h,rest,pre,q,ps=>by rw [A2,A3,EK,u2z (hx.box r (h r AS))];show EK (s.map G6++rest) pre {q with s:=q.s++[r]} ps=_;rw [Z3 hx s (fun y hy=>h y (AO _ hy)),AH];rfl
def DH (x:B4):B4:=⟨[],0,x.t,x.x,x.y,x.z,x.s⟩
def GX (l:List B4):Nat->Nat->List (List UInt8)
 | 0,_=>[]
 | k+1,i=>Xa l (i:Int)::GX l k (i+1)
structure IS (l:List B4):Prop where
 node: ∀i,i<l.length->EZ (rd l i)
 path: ∀i,i<l.length->NO (Xa l (i:Int))
 byte: ∀i,i<l.length-> ∀c∈Xa l (i:Int),45<=c.toNat
theorem x5u {l:List B4} (h:IS l): ∀(k i:Nat) (pre:List B4) (q:B4) (ps:List (List UInt8)),i+k=l.length->EK (Dg l k i) pre q ps=some (pre++[q]++(l.drop i).map DH,ps++GX l k i)
 | 0,i,pre,q,ps,hk=>by rw [Aw (by omega)];show some (pre++[q],ps)=some (pre++[q]++[],ps++[]);rw [AL,AL]
 | k+1,i,pre,q,ps,hk=>by
  have hi:i<l.length:=by omega
  have hx:=h.node i hi;rw [Dg,Ri,A3,EK,w5w (h.path i hi) (h.byte i hi) hx];show EK ((rd l i).s.map G6++Dg l k (i+1)) (pre++[q]) ⟨[],0,(rd l i).t,(rd l i).x,(rd l i).y,(rd l i).z,[]⟩ (ps++[Xa l (i:Int)])=_;rw [Z3 hx (rd l i).s (fun _ hr=>hr),x5u h k (i+1) _ _ _ (by omega),Xj hi,A2,GX];show some (pre++[q]++[DH (rd l i)]++(l.drop (i+1)).map DH,ps++[Xa l (i:Int)]++GX l k (i+1))=_;simp
theorem v9y {l:List B4} (h:IS l):Fm (Dg l l.length 0)=some (l.map DH,GX l l.length 0):=by
 cases hn:l.length with
 | zero=>have:l=[]:=Bs hn;subst this;rfl
 | succ k=>
  have hi:0<l.length:=by omega
  have hx:=h.node 0 hi;have hp:=h.path 0 hi;have hb:=h.byte 0 hi;have e0:((0:Nat):Int)=0:=rfl;rw [Dg,Ri,A3,Fm,w5w hp hb hx];show EK ((rd l 0).s.map G6++Dg l k (0+1)) [] ⟨[],0,(rd l 0).t,(rd l 0).x,(rd l 0).y,(rd l 0).z,[]⟩ [Xa l ((0:Nat):Int)]=_;rw [Z3 hx (rd l 0).s (fun _ hr=>hr),x5u h k 1 _ _ _ (by omega),GX];have hd:=Xj hi;rw [AQ] at hd;have e:l.map DH=DH (rd l 0)::(l.drop 1).map DH:=by
   conv=>lhs;rw [hd]
   rfl
  rw [e];rfl
theorem x6v (l:List B4): ∀k i j,j<k->rd (GX l k i) j=Xa l ((i+j:Nat):Int)
 | 0,_,_,h=>absurd h (AC _)
 | k+1,i,0,_=>rfl
 | k+1,i,j+1,h=>by show rd (GX l k (i+1)) j=_;rw [x6v l k (i+1) j (by omega),show i+1+j=i+(j+1) by omega]
theorem x7w {ps:List (List UInt8)} {p:List UInt8}: ∀(k j q:Nat),j<=q->q<j+k->rd ps q=p->(∀m,j<=m->m<q->rd ps m≠p)->EF ps p k j=some q
 | 0,j,q,h1,h2,_,_=>by omega
 | k+1,j,q,h1,h2,h3,h4=>by
  rw [EF];by_cases e:j=q
  .subst e;rw [h3,Bl];rfl
  .rw [show (rd ps j == p)=false by rw [Gi];exact Ah (h4 j (Ak _) (by omega)),Ab];exact x7w k (j+1) q (by omega) (by omega) h3 fun m hm hq=>h4 m (by omega) hq
theorem j1o {l:List B4} {i:Nat} (h:FF l i) (hp:Xa l (i:Int)≠ []):Kd (Xa l (i:Int))=(Cx l (rd l i).a).reverse ++[(rd l i).n]:=by have e:=Kg h.1 (Ak i);rw [v4n hp];have hj:Xa l (i:Int)=Lib.join (Cx l (i:Int)).reverse [47]:=rfl;rw [hj,YY (L:=(Cx l (i:Int)).reverse) (by rw [e];simp) (show∀p∈(Cx l (i:Int)).reverse,HT p from fun p hp=>V1 h _ _ (BG _) p (BZ.1 hp)),e,BN]
theorem u4z {l:List B4} {ps:List (List UInt8)} {i:Nat} (hn:GH l l.length) (hok: ∀j,j<l.length->FF l j) (hi:i<l.length) (hps: ∀j,j<l.length->rd ps j=Xa l (j:Int)) (hp:Xa l (i:Int)≠ []):HD ps i=some ((rd l i).a,(rd l i).n):=by
 have hr:=j1o (hok i hi) hp;have hb:=Kq (hok i hi).1 (Ak i);rw [<-hps i hi] at hr;rcases Nd (rd l i).a 0 with a1 | a1
 .rw [Pb l a1] at hr;have ha:=w6y (ps:=ps) (i:=i) (by rw [hr];rfl);rw [hr] at ha;rw [ha,show (rd l i).a = -1 by omega];rfl
 .obtain ⟨q,hq⟩: ∃q:Nat,(rd l i).a =(q:Int):=⟨(rd l i).a.toNat,by omega⟩
  have hqi:q<i:=by omega
  have eq:=Kg (hok q (by omega)).1 (Ak q);have eK:(Cx l (rd l i).a).reverse ≠ []:=by rw [hq,eq];simp
  have fR:=List.length_pos_iff.2 eK;have ha:=w6x (ps:=ps) (i:=i) (by rw [hr,As,AJ];omega);rw [hr,List.dropLast_concat] at ha;have hv:H7 (Cx l (rd l i).a).reverse =Xa l (q:Int):=by rw [hq];rfl
  have hl:rd ((Cx l (rd l i).a).reverse ++[(rd l i).n]) (((Cx l (rd l i).a).reverse ++[(rd l i).n]).length - 1)=(rd l i).n :=by rw [As,AJ,Nat.add_sub_cancel,YR (Ak _),Nat.sub_self];rfl
  have hf:EF ps (Xa l (q:Int)) i 0=some q:=x7w i 0 q (AG _) (by omega) (hps q (by omega)) fun m _ hm e=>by rw [hps m (by omega)] at e;have:=(x3d (hok q (by omega)) (fun a b hab hbq=>hn a b hab (by omega)) hm).1 e;exact hn m q hm (by omega) this
  rw [hv,hl,hf] at ha;rw [ha,hq]
theorem y6f {l:List B4} {ps:List (List UInt8)} (hA: ∀i,i<l.length->HD ps i=some ((rd l i).a,(rd l i).n)): ∀(k i:Nat) (M:List B4),i+k=l.length->M.length=l.length->(∀j,j<i->rd M j=rd l j)->(∀j,i<=j->j<l.length->rd M j=DH (rd l j))->Ub ps k i M=some l
 | 0,i,M,hk,hm,h1,h2=>by
  show some M=some l
  congr 1
  refine Bp hm fun j a b=> ?_;rw [<-Wf a,<-Wf b];exact h1 j (by omega)
 | k+1,i,M,hk,hm,h1,h2=>by
  have hi:i<l.length:=by omega
  rw [Ub,hA i hi];have e:=h2 i (Ak _) hi;show Ub ps k (i+1) (M.set i {rd M i with n:=(rd l i).n,a:=(rd l i).a})=some l;have e2:({rd M i with n:=(rd l i).n,a:=(rd l i).a}:B4)=rd l i:=by rw [e];rfl
  rw [e2];refine y6f hA k (i+1) _ (by omega) (by rw [Bo];exact hm) (fun j hj=> ?_) fun j hj hjl=> ?_
  .rw [Rq (by omega)];by_cases g:j=i
   .rw [AF g,g]
   .rw [Az g];exact h1 j (by omega)
  .rw [Rq (by omega),Az (by omega)];exact h2 j (by omega) hjl
theorem x2p {l:List B4} (ho:Yk l=true) (ht:(l.all fun x=>decide (0<=x.t))=true) (h:Ui l=0):IS l/\GH l l.length/\ ∀j,j<l.length->FF l j:=by
 have h':(Ui l != 0)=false:=by rw [h];rfl
 obtain ⟨h1,h2,h3⟩:=L4 h';have hok: ∀j,j<l.length->FF l j:=fun j hj=>WU h' hj;have hne: ∀i,i<l.length->Xa l (i:Int)≠ []:=fun i hi e=>by
  have e1:=Kg (hok i hi).1 (Ak i);have hj:Xa l (i:Int)=Lib.join (Cx l (i:Int)).reverse [47]:=rfl;rw [hj,e1,BN] at e;have hn:=j2c ((hok i hi).2 i (Ak i));cases hr:(Cx l (rd l i).a).reverse with
  | nil=>rw [hr] at e;exact hn (by simpa [join_one] using e)
  | cons x r=>
   rw [hr,A3,join_cons] at e;have hl:=At List.length e;cases r with
   | nil=>rw [A6,Ki] at hl;simp at hl
   | cons y r=>rw [A3,Ki] at hl;simp at hl
 have hb: ∀i,i<l.length-> ∀c∈Xa l (i:Int),45<=c.toNat:=fun i hi=>by
  refine v0a _ fun p hp=> ?_;have fG: ∀(k:Nat) (j:Int),j<=(i:Int)-> ∀p∈CY l k j,∀c∈p,45<=c.toNat:=fun k=>by
   induction k with
   | zero=>intro j _ p hp;cases hp
   | succ k ih=>
    intro j hj p hp;unfold CY at hp;by_cases g:0<=j
    .obtain ⟨m,rfl⟩: ∃m:Nat,j=(m:Int):=⟨j.toNat,by omega⟩
     rw [Aa g,Af,Zj] at hp;have hbb:=Kq (hok i hi).1 (show m<=i by omega);rcases AN.1 hp with rfl | hp
     .exact w9g ((hok i hi).2 m (by omega))
     .exact ih _ (by omega) p hp
    .rw [Ah g] at hp;cases hp
  exact fG _ _ (BG _) p (BZ.1 hp)
 refine ⟨⟨fun i hi=>v3c ht h hi,fun i hi=>⟨hne i hi,?_,?_⟩,hb⟩,x1p h3,hok⟩
 .have:=h3 i hi;unfold DW at this;rw [AT,AT] at this
  simpa using this.2.1
 .exact PN (QJ ho (by omega) hi (hok i hi))
theorem w4w {l:List B4} (h:IS l): ∀(k i:Nat),i+k=l.length-> ∀x∈Dg l k i,D8 10 x
 | 0,i,_,x,hx=>by cases hx
 | k+1,i,hk,x,hx=>by
  have hi:i<l.length:=by omega
  rw [Dg] at hx;have htail: ∀(L:List (List UInt8)),(∀y∈L,D8 10 y)->D8 10 (F3 32 L):=fun L=>by
   induction L with
   | nil=>intro _ c hc;cases hc
   | cons y L ih=>
    intro hy;rw [F3];intro c hc;rcases AN.1 hc with rfl | hc
    .decide
    .exact w1l (hy y AS) (ih fun z hz=>hy z (AO _ hz)) c hc
  rcases AP.1 hx with hx | hx
  .rcases AN.1 hx with rfl | hx
   .refine w1l (by unfold D8 CS;decide) (htail _ fun y hy=> ?_);rcases AN.1 hy with rfl | hy
    .exact u8q (h.byte i hi) (by decide)
    .exact W4 _ (by decide) y hy
   .obtain ⟨r,_,rfl⟩:=BR.1 hx;exact w1l (by unfold D8 C3;decide) (htail _ (W4 _ (by decide)))
  .exact w4w h k (i+1) (by omega) x hx
theorem v2k {l:List B4} (ho:Yk l=true) (ht:(l.all fun x=>decide (0<=x.t))=true) (h:Ui l=0) (eK:(Dh l l.length 0).length <=60000) (hm:(Dg l l.length 0).length <=200):Dx (Dh l l.length 0)=(l,0):=by
 obtain ⟨hT,hn,hok⟩:=x2p ho ht h;have hc:Wy 10 [] (Dh l l.length 0)=Dg l l.length 0++[[]]:=by rw [x5k,v7q _ (w4w hT l.length 0 (Al _))]
 have hr:Fk (Dh l l.length 0)=some (Dg l l.length 0):=by unfold Fk;rw [hc,List.getLast?_append,List.getLast?_singleton];show some ((Dg l l.length 0++[[]]).dropLast)=_;rw [List.dropLast_concat]
 have hmany:DF (Wy 10 [] (Dh l l.length 0))<=200:=by
  rw [hc];have:DF (Dg l l.length 0++[[]])=DF (Dg l l.length 0):=by unfold DF;rw [List.filter_append,As];rfl
  rw [this];exact AK (u2s _) hm
 unfold Dx;rw [Ah (show ¬60000<(Dh l l.length 0).length by omega),Ah (show ¬200<DF (Wy 10 [] (Dh l l.length 0)) by omega),hr];show FE (Fm (Dg l l.length 0))=_;rw [v9y hT];show HU (Ub (GX l l.length 0) (l.map DH).length 0 (l.map DH))=_;rw [BB,y6f (ps:=GX l l.length 0) (fun i hi=>u4z hn hok hi (fun j hj=>by rw [x6v l _ 0 j hj,Al]) (hT.path i hi).1) l.length 0 (l.map DH) (Al _) (BB _) (fun j hj=>absurd hj (AC _)) (fun j _ hj=>by
  rw [Wf (by rw [BB];exact hj),BK,Wf hj])]
 exact W7 h
def SYp :B3:=SY.with Sq OO
theorem HB :Zv prog SYp:=j4j UA
inductive H0 where
 | h0 (v5:Int)
def MU (l0:List B4) (l1:List B4):H0->CE
 | .h0 v5=>⟨⟨68,0,true⟩,none,(Zf prog 14 [1,1,0,1,0,0] 0),none,(Zy prog 3),⟨Ye [(0,(.dat l0.length (Zz l0))),(1,(.dat l1.length (Zz l1))),(5,(ii v5))],Xt [] 0,0,[],true⟩,[],.leaf⟩
def JD :List (Option (List Nat)):=[some [0,1,5]]
def JE :List (Option (List Nat)):=[]
def LU (l0:List B4) (l1:List B4):H0->Xu H0
 | .h0 v5=>(bif (decide (v5<(l0.length:Int))) then (bif ((decide (0<=v5/\v5<(l0.length:Int)))&&true) then (bif ((decide (0<=v5/\v5<(l1.length:Int)))&&true) then (bif (!((rd l0 v5.toNat).n == (rd l1 v5.toNat).n)) then (.ret [(.bool false)]) else (bif ((rd l0 v5.toNat).a != (rd l1 v5.toNat).a) then (.ret [(.bool false)]) else (bif (!(((rd l0 v5.toNat).t == (rd l1 v5.toNat).t)&&((((rd l0 v5.toNat).x == (rd l1 v5.toNat).x)&&(((rd l0 v5.toNat).y == (rd l1 v5.toNat).y)&&(((rd l0 v5.toNat).z == (rd l1 v5.toNat).z)&&true)))&&true))) then (.ret [(.bool false)]) else (bif (Ue (B2 (rd l0 v5.toNat).s) (B2 (rd l1 v5.toNat).s)) then (bif (!(Qt (B2 (rd l0 v5.toNat).s) (B2 (rd l1 v5.toNat).s))) then (.ret [(.bool false)]) else (.to (.h0 (wrap .i64 (v5+1))))) else .stuck)))) else .stuck) else .stuck) else (.ret [(.bool true)]))
def VW (l0:List B4) (l1:List B4):Xu H0:=(bif ((l0.length:Int) != (l1.length:Int)) then (.ret [(.bool false)]) else (.to (.h0 0)))
theorem w7y (l0:List B4) (l1:List B4): ∀s,Wj prog (Zy prog 14) (MU l0 l1) (MU l0 l1 s) (LU l0 l1 s)
 | .h0 v5=>(lb (fun k0=>(lo fun aG=>(lo fun aU=>let c:=ww aU (ww aG (tt k0 nn));(lb (fun k1=>(lr 68 14 [1,1,0,1,0,0,1,0,0,1,0,0] 1 3 [(4,(.bool false))] (sl HB 19 [] (b8 [4]) b7 (CA 36 []) (tt k1 c)))) (fun k1=>let a:=ww aU (ww aG (tt k1 c));(lb (fun k2=>(lr 68 14 [1,1,0,1,0,0,1,0,0,1,0,0] 1 3 [(4,(.bool false))] (sl HB 19 [] (b8 [4]) b7 (bl 36 68719472641) (tt k2 a)))) (fun k2=>let d:=ww aU (ww aG (tt k2 a));(lb (fun k3=>(lr 68 14 [1,1,0,1,0,0,1,0,0,1,0,0] 1 3 [(4,(.bool false))] (sl HB 19 [] (b8 [4]) b7 (bl 36 68711088129) (tt k3 d)))) (fun k3=>(lo fun dA=>let b:=ww aU (ww aG (tt k3 d));(lb (fun k4=>(lr 68 14 [1,1,0,1,0,0,1,0,0,1,0,0] 1 3 [(4,(.bool false))] (sl HB 19 [] (b8 [4]) b7 (bl 36 34359738369) (tt k4 (pp (pp (xI R6 (rd l0 (tn v5)).s.length (Zz (rd l0 (tn v5)).s)) (pp (xI R6 (rd l1 (tn v5)).s.length (Zz (rd l1 (tn v5)).s)) (xw dA))) b))))) (fun k4=>(sl HB 23 [] ⟨[],[],JD,JE⟩ b7 (bl 36 1) (tt k4 (pp (pp (xI R6 (rd l0 (tn v5)).s.length (Zz (rd l0 (tn v5)).s)) (pp (xI R6 (rd l1 (tn v5)).s.length (Zz (rd l1 (tn v5)).s)) (xw dA))) b))))))))))))))) (fun k0=>(lr 68 3 [1,1,1,1,1,1,0] 1 3 [(4,(.bool true))] (sl HB 14 [] (b8 [4]) b7 [false] (tt k0 nn)))))
theorem x9r (l0:List B4) (l1:List B4):Wj prog (Zy prog 14) (MU l0 l1) (Zg prog 14 [(.dat l0.length (Zz l0)),(.dat l1.length (Zz l1))] true []) (VW l0 l1):=(lb (fun k0=>(lr 68 14 [1,0,1,0,0] 1 3 [(4,(.bool false))] (sl HB 18 [] (b8 [4]) b7 [true] (tt k0 nn)))) (fun k0=>(sl HB 22 [] ⟨[],[],JD,JE⟩ b7 [false] (tt k0 nn))))
theorem u0d (l0:List B4) (l1:List B4) (n:Nat) (vs:List B1) (h:Yw (LU l0 l1) n (VW l0 l1)=.ret vs):Js prog (Zy prog 14) (Zg prog 14 [(.dat l0.length (Zz l0)),(.dat l1.length (Zz l1))] true []) vs:=by have:=Ze (w7y l0 l1) n _ (x9r l0 l1);rwa [h] at this
def FB (x y:B4):Bool:=bif !(x.n == y.n) then false else bif x.a != y.a then false else bif !((x.t == y.t)&&(((x.x == y.x)&&((x.y == y.y)&&((x.z == y.z)&&true)))&&true)) then false else Qt x.s y.s
def FA (l m:List B4):Nat->Nat->Bool
 | 0,_=>true
 | k+1,i=>bif FB (rd l i) (rd m i) then FA l m k (i+1) else false
def MJ (l m:List B4):Bool:=bif decide (l.length=m.length) then FA l m l.length 0 else false
def PX (l m:List B4):Bool:=decide (l.length<=1000000)&&l.all fun x=>decide (x.s.length<=1000000)
theorem v3j (x:B4):FB x x=true:=by unfold FB Qt;rw [show (x.n == x.n)=true from Bl _,show (x.a != x.a)=false by simp,show (x.t == x.t)=true from Bl _,show (x.x == x.x)=true from Bl _,show (x.y == x.y)=true from Bl _,show (x.z == x.z)=true from Bl _];exact Aa rfl
theorem x5v (l:List B4): ∀k i,FA l l k i=true
 | 0,i=>rfl
 | k+1,i=>by rw [FA,v3j,Af,x5v l k]
theorem v3i (l:List B4):MJ l l=true:=by unfold MJ;rw [Aa rfl,Af,x5v]
theorem u5v {l m:List B4} (ho:PX l m=true) (hm:l.length=m.length): ∀(k i:Nat),i+k=l.length-> ∃N,Yw (LU l m) N (.to (.h0 (i:Int)))=.ret [.bool (FA l m k i)]
 | 0,i,h=>by refine ⟨1,?_⟩;rw [Zw];unfold LU;simp only [];rw [Xz (by omega)];rfl
 | k +1,i,h=>by
  have ho':=ho;unfold PX at ho;rw [Ad,An] at ho;have hi:i<l.length:=by omega
  have w2:wrap .i64 ((i:Int)+1)=((i+1:Nat):Int):=Zm (by omega);have hs:Ue (rd l i).s (rd m i).s =true:=Ay.1 ho.2 _ (IW hi);have e:LU l m (.h0 (i:Int))=bif FB (rd l i) (rd m i) then .to (.h0 ((i+1:Nat):Int)) else .ret [.bool false]:=by
   unfold LU FB;simp only [Zj,w2,Yg];rw [Zp (Yb (by omega)),Ap,Zp (Ym (by omega)),Ap,Zp (Ym (by omega)),Zp hs];cases (rd l i).n == (rd m i).n with
   | false=>rfl
   | true=>
    cases (rd l i).a != (rd m i).a with
    | true=>rfl
    | false=>
     cases ((rd l i).t == (rd m i).t)&&(((rd l i).x == (rd m i).x)&&(((rd l i).y == (rd m i).y)&&(((rd l i).z == (rd m i).z)&&true))&&true) with
     | false=>rfl
     | true=>cases Qt (rd l i).s (rd m i).s <;> rfl
  rw [FA];cases g:FB (rd l i) (rd m i) with
  | false=>exact ⟨1,by rw [Zw,e,g];rfl⟩
  | true=>obtain ⟨N,hN⟩:=u5v ho' hm k (i+1) (by omega);exact ⟨N+1,by rw [Zw,e,g,Af,Af,hN]⟩
theorem u9y (l m:List B4) (h:PX l m=true): ∃N,Yw (LU l m) N (VW l m)=.ret [.bool (MJ l m)]:=by
 unfold VW MJ;by_cases hm:l.length=m.length
 .obtain ⟨N,hN⟩:=u5v h hm l.length 0 (Al _);refine ⟨N,?_⟩;rw [show ((l.length:Int) != (m.length:Int))=false by rw [hm];simp,Ab,Aa hm,Af];exact hN
 .refine ⟨0,?_⟩;rw [show ((l.length:Int) != (m.length:Int))=true by simp;omega,Ah hm];rfl
def OJ :List B1->Option (B1×Bool)
 | [a0,a1]=>match C7 B4 a0,C7 B4 a1 with
  | some (L0,g0,n0),some (L1,g1,n1)=>some (.bool (MJ L0 L1),CQ B4 n0 g0&&(CQ B4 n1 g1&&(PX L0 L1)))
  | _,_=>none
 | _=>none
theorem j3y {S:B3} (hS:Zv prog S):Zv prog (S.with S2 OJ):=CP hS (by kernel_rfl) fun args v h=>by
 unfold OJ at h;split at h
 .rename_i a0 a1;split at h
  .rename_i L0 g0 n0 L1 g1 n1 e0 e1;simp only [Ae,Ac,Ad] at h;obtain ⟨rfl,ho0,ho1,hw⟩:=h;obtain ⟨N,hN⟩:=u9y L0 L1 hw;exact ⟨_,_,(.cons (Xf e0 ho0) (.cons (Xf e1 ho1) .nil)),rfl,u0d L0 L1 N _ hN,3,rfl⟩
  .cases h
 .cases h
def SYq :B3:=SYp.with S2 OJ
theorem PC :Zv prog SYq:=j3y HB
def SYa :B3:=(SYq.with TC OS).with TB OP
theorem Ds :Zv prog SYa:=j4k (j4m PC)
theorem v6n {l:List B4} (h:Nb l=false):l.length<=220/\(l.length<=12\/200<l.length)/\ ∀x∈l,x.s.length<=12/\x.n.length<=500:=by
 unfold Nb at h;rw [AT] at h;have h2:=h.2;unfold greZ at h2;rw [AT,AX,Bool.and_eq_false_iff,AX,AX] at h2;have hl:l.length<=220:=by omega
 refine ⟨hl,by omega,fun x hx=> ?_⟩;have ht:l.take 300=l:=A8 (by omega);have h1:=h.1;rw [ht] at h1;have:=List.any_eq_false.1 h1 x hx;unfold FL at this;simp at this;omega
theorem u3p {l:List B4} (h:Nb l=false):Yk l=true:=by obtain ⟨h1,h2,h3⟩:=v6n h;unfold Yk;rw [Ad,An];exact ⟨by omega,Ay.2 fun x hx=>Aa (h3 x hx).2⟩
abbrev CR :List R6:=[R6.mk 0 0 0 2 1 1]
abbrev B9 :List B4:=[B4.mk [97] (-1) 9 1 0 0 CR,B4.mk [98] 0 0 2 0 0 []]
abbrev C9 :List UInt8:=[110,111,100,101,32,97,32,57,32,49,32,48,32,48,10,98,111,120,32,48,32,48,32,48,32,50,32,49,32,49,10,110,111,100,101,32,97,47,98,32,48,32,50,32,48,32,48,10]
abbrev D3 :List B1:=[(.str [97]),(ii (-1)),(.int .u8 9),(ii 1),(ii 0),(ii 0),(.dat CR.length (Zz CR)),(.str [98]),(ii 0),(.int .u8 0),(ii 2),(ii 0),(ii 0),(.dat ([]:List R6).length (Zz ([]:List R6)))]
section
attribute [local irreducible] Ui Jp Ff EM EY Jc Em Yr Qj
inductive IQ where
def Ot :IQ->CE
 :=nofun
def w3y :IQ->Xu IQ
 :=nofun
def RT :Xu IQ:=(bif (L7 (B2 B9)) then (bif (L5 (B2 B9) 1) then (bif (Kf (B2 B9) 1) then (bif (UB C9) then (bif ((EY (B2 B9)) == 0) then (bif ((EM (B2 B9)) == C9) then (bif ((Em (B2 B9) 1) == 0) then (bif ((Jc (B2 B9) 1) == ([97,47,98]:List UInt8)) then (bif ((Qj (B2 B9) 1) == 0) then (bif (((Yr (B2 B9) 1).a == 9)&&((((Yr (B2 B9) 1).b == 1)&&(((Yr (B2 B9) 1).c == 2)&&(((Yr (B2 B9) 1).d == 0)&&true)))&&true)) then (bif ((Ff C9) == 0) then (bif (PX (B2 (Jp C9)) (B2 B9)) then (.ret [(.bool (MJ (B2 (Jp C9)) (B2 B9)))]) else .stuck) else (.ret [(.bool false)])) else (.ret [(.bool false)])) else (.ret [(.bool false)])) else (.ret [(.bool false)])) else (.ret [(.bool false)])) else (.ret [(.bool false)])) else (.ret [(.bool false)])) else .stuck) else .stuck) else .stuck) else .stuck)
theorem v1g : ∀s,Wj prog (Zy prog 15) (Ot) (Ot s) (w3y s)
 :=nofun
theorem w3z :Wj prog (Zy prog 15) (Ot) (Zg prog 15 [] true []) (RT):=(Wk (sl Ds (C':=⟨⟨61,0,true⟩,(CU prog 15 [1,0] 1),(Zf prog 15 [1,0] 1),none,(Zy prog 8),⟨Ye [(10,(.sl 0 0 2 (.un 7)))],Xt [⟨D3,48,none⟩] 0,1,[],true⟩,[],.leaf⟩) 26 [] ⟨[1],[0],[some [10]],[]⟩ ⟨[],[.cells [.keep,.keep,.keep,.keep,.keep,.keep,.frz 1 CR.length (Jj [(ii 0),(ii 0),(ii 0),(ii 2),(ii 1),(ii 1)] 0 6) (Zz CR),.keep,.keep,.keep,.keep,.keep,.keep,.list 0 (Zz ([]:List R6))]],[]⟩ [] (pp (xZ (.dat 1 (Jj [(ii 0),(ii 0),(ii 0),(ii 2),(ii 1),(ii 1)] 0 6)) 1 (Jj [(ii 0),(ii 0),(ii 0),(ii 2),(ii 1),(ii 1)] 0 6)) (pp (xL 1 CR.length) (pp (xS 1 (Jj [(ii 0),(ii 0),(ii 0),(ii 2),(ii 1),(ii 1)] 0 6) (Zz CR)) nn)))) (Wk (sl Ds (C':=⟨⟨61,0,true⟩,(CU prog 15 [1,0] 1),(Zf prog 15 [1,0] 1),none,(Zy prog 8),⟨Ye [(10,(.dat B9.length (Zz B9)))],Xt [] 0,0,[],true⟩,[],.leaf⟩) 0 [] ⟨[],[0],[some [10]],[]⟩ ⟨[(10,.frz 2 B9.length (Jj D3 0 7) (Zz B9))],[],[]⟩ [] (pp (xZ (.dat 2 (Jj D3 0 7)) 2 (Jj D3 0 7)) (pp (xL 2 B9.length) (pp (xS 2 (Jj D3 0 7) (Zz B9)) nn)))) (lo fun q0_0=>(Wk (sl Ds (C':=⟨⟨61,0,true⟩,(CU prog 15 [1,1,0] 1),(Zf prog 15 [1,1,0] 1),none,(Zy prog 8),⟨Ye [(1,(.str (EM (B2 B9)))),(2,(ii (EY (B2 B9)))),(15,(.sl 0 0 2 (.un 7)))],Xt [⟨D3,48,none⟩] 0,1,[],true⟩,[],.leaf⟩) 29 [] ⟨[1],[0],[some [1,2,15]],[]⟩ ⟨[],[.cells [.keep,.keep,.keep,.keep,.keep,.keep,.frz 1 CR.length (Jj [(ii 0),(ii 0),(ii 0),(ii 2),(ii 1),(ii 1)] 0 6) (Zz CR),.keep,.keep,.keep,.keep,.keep,.keep,.list 0 (Zz ([]:List R6))]],[]⟩ [] (pp (xZ (.dat 1 (Jj [(ii 0),(ii 0),(ii 0),(ii 2),(ii 1),(ii 1)] 0 6)) 1 (Jj [(ii 0),(ii 0),(ii 0),(ii 2),(ii 1),(ii 1)] 0 6)) (pp (xL 1 CR.length) (pp (xS 1 (Jj [(ii 0),(ii 0),(ii 0),(ii 2),(ii 1),(ii 1)] 0 6) (Zz CR)) (pp (pp (xI B4 B9.length (Zz B9)) (xw q0_0)) nn))))) (Wk (sl Ds (C':=⟨⟨61,0,true⟩,(CU prog 15 [1,1,0] 1),(Zf prog 15 [1,1,0] 1),none,(Zy prog 8),⟨Ye [(1,(.str (EM (B2 B9)))),(2,(ii (EY (B2 B9)))),(15,(.dat B9.length (Zz B9)))],Xt [] 0,0,[],true⟩,[],.leaf⟩) 0 [] ⟨[],[0],[some [1,2,15]],[]⟩ ⟨[(15,.frz 2 B9.length (Jj D3 0 7) (Zz B9))],[],[]⟩ [] (pp (xZ (.dat 2 (Jj D3 0 7)) 2 (Jj D3 0 7)) (pp (xL 2 B9.length) (pp (xS 2 (Jj D3 0 7) (Zz B9)) nn)))) (lo fun q0_0=>(Wk (sl Ds (C':=⟨⟨61,0,true⟩,(CU prog 15 [1,1,1,0] 1),(Zf prog 15 [1,1,1,0] 1),none,(Zy prog 8),⟨Ye [(1,(.str (EM (B2 B9)))),(2,(ii (EY (B2 B9)))),(3,(.str (Jc (B2 B9) 1))),(4,(ii (Em (B2 B9) 1))),(20,(.sl 0 0 2 (.un 7)))],Xt [⟨D3,48,none⟩] 0,1,[],true⟩,[],.leaf⟩) 29 [] ⟨[1],[0],[some [1,2,3,4,20]],[]⟩ ⟨[],[.cells [.keep,.keep,.keep,.keep,.keep,.keep,.frz 1 CR.length (Jj [(ii 0),(ii 0),(ii 0),(ii 2),(ii 1),(ii 1)] 0 6) (Zz CR),.keep,.keep,.keep,.keep,.keep,.keep,.list 0 (Zz ([]:List R6))]],[]⟩ [] (pp (xZ (.dat 1 (Jj [(ii 0),(ii 0),(ii 0),(ii 2),(ii 1),(ii 1)] 0 6)) 1 (Jj [(ii 0),(ii 0),(ii 0),(ii 2),(ii 1),(ii 1)] 0 6)) (pp (xL 1 CR.length) (pp (xS 1 (Jj [(ii 0),(ii 0),(ii 0),(ii 2),(ii 1),(ii 1)] 0 6) (Zz CR)) (pp (pp (xI B4 B9.length (Zz B9)) (xw q0_0)) nn))))) (Wk (sl Ds (C':=⟨⟨61,0,true⟩,(CU prog 15 [1,1,1,0] 1),(Zf prog 15 [1,1,1,0] 1),none,(Zy prog 8),⟨Ye [(1,(.str (EM (B2 B9)))),(2,(ii (EY (B2 B9)))),(3,(.str (Jc (B2 B9) 1))),(4,(ii (Em (B2 B9) 1))),(20,(.dat B9.length (Zz B9)))],Xt [] 0,0,[],true⟩,[],.leaf⟩) 0 [] ⟨[],[0],[some [1,2,3,4,20]],[]⟩ ⟨[(20,.frz 2 B9.length (Jj D3 0 7) (Zz B9))],[],[]⟩ [] (pp (xZ (.dat 2 (Jj D3 0 7)) 2 (Jj D3 0 7)) (pp (xL 2 B9.length) (pp (xS 2 (Jj D3 0 7) (Zz B9)) nn)))) (lo fun cM=>(lo fun dI=>(lb (fun k0=>(lb (fun k1=>(lb (fun k2=>(lb (fun k3=>(lb (fun k4=>(lb (fun k5=>(lb (fun k6=>(Wk (sl Ds (C':=⟨⟨61,0,true⟩,(CU prog 15 [1,1,1,1,1,0] 31),(Zf prog 15 [1,1,1,1,1,0] 1),none,(Zy prog 8),⟨Ye [(56,(.bool true)),(57,(.dat (Jp C9).length (Zz (Jp C9)))),(58,(.sl 0 0 2 (.un 7)))],Xt [⟨D3,48,none⟩] 0,1,[],true⟩,[],.leaf⟩) 69 [] ⟨[2],[1],[some [56,57,58]],[]⟩ ⟨[],[.cells [.keep,.keep,.keep,.keep,.keep,.keep,.frz 1 CR.length (Jj [(ii 0),(ii 0),(ii 0),(ii 2),(ii 1),(ii 1)] 0 6) (Zz CR),.keep,.keep,.keep,.keep,.keep,.keep,.list 0 (Zz ([]:List R6))]],[]⟩ (CA 16 []) (pp (xZ (.dat 1 (Jj [(ii 0),(ii 0),(ii 0),(ii 2),(ii 1),(ii 1)] 0 6)) 1 (Jj [(ii 0),(ii 0),(ii 0),(ii 2),(ii 1),(ii 1)] 0 6)) (pp (xL 1 CR.length) (pp (xS 1 (Jj [(ii 0),(ii 0),(ii 0),(ii 2),(ii 1),(ii 1)] 0 6) (Zz CR)) (tt k6 (tt k5 (tt k4 (tt k3 (tt k2 (tt k1 (tt k0 (ww dI (pp (pp (xI B4 B9.length (Zz B9)) (xw cM)) nn))))))))))))) (Wk (sl Ds (C':=⟨⟨61,0,true⟩,(CU prog 15 [1,1,1,1,1,0] 31),(Zf prog 15 [1,1,1,1,1,0] 1),none,(Zy prog 8),⟨Ye [(56,(.bool true)),(57,(.dat (Jp C9).length (Zz (Jp C9)))),(58,(.dat B9.length (Zz B9)))],Xt [] 0,0,[],true⟩,[],.leaf⟩) 0 [] ⟨[],[0],[some [56,57,58]],[]⟩ ⟨[(58,.frz 2 B9.length (Jj D3 0 7) (Zz B9))],[],[]⟩ [] (pp (xZ (.dat 2 (Jj D3 0 7)) 2 (Jj D3 0 7)) (pp (xL 2 B9.length) (pp (xS 2 (Jj D3 0 7) (Zz B9)) nn)))) (lo fun o0=>(lr 61 3 [1,1,1,1,1,1,0] 1 8 [(0,(.bool (MJ (B2 (Jp C9)) (B2 B9))))] (sl Ds 4 [] (b8 [0]) b7 [true] (pp (pp (xI B4 (Jp C9).length (Zz (Jp C9))) (pp (xI B4 B9.length (Zz B9)) (xw o0))) nn))))))) (fun k6=>(lr 61 3 [1,1,1,1,1,1,0] 1 8 [(0,(.bool false))] (sl Ds 54 [] (b8 [0]) b7 (CA 14 (bl 3 0)) (tt k6 (tt k5 (tt k4 (tt k3 (tt k2 (tt k1 (tt k0 (ww dI (pp (pp (xI B4 B9.length (Zz B9)) (xw cM)) nn)))))))))))))) (fun k5=>(lr 61 3 [1,1,1,1,1,1,0] 1 8 [(0,(.bool false))] (sl Ds 54 [] (b8 [0]) b7 (CA 12 (bl 5 0)) (tt k5 (tt k4 (tt k3 (tt k2 (tt k1 (tt k0 (ww dI (pp (pp (xI B4 B9.length (Zz B9)) (xw cM)) nn))))))))))))) (fun k4=>(lr 61 3 [1,1,1,1,1,1,0] 1 8 [(0,(.bool false))] (sl Ds 54 [] (b8 [0]) b7 (CA 8 (bl 9 0)) (tt k4 (tt k3 (tt k2 (tt k1 (tt k0 (ww dI (pp (pp (xI B4 B9.length (Zz B9)) (xw cM)) nn)))))))))))) (fun k3=>(lr 61 3 [1,1,1,1,1,1,0] 1 8 [(0,(.bool false))] (sl Ds 54 [] (b8 [0]) b7 (CA 6 (bl 11 0)) (tt k3 (tt k2 (tt k1 (tt k0 (ww dI (pp (pp (xI B4 B9.length (Zz B9)) (xw cM)) nn))))))))))) (fun k2=>(lr 61 3 [1,1,1,1,1,1,0] 1 8 [(0,(.bool false))] (sl Ds 54 [] (b8 [0]) b7 (CA 4 (bl 13 0)) (tt k2 (tt k1 (tt k0 (ww dI (pp (pp (xI B4 B9.length (Zz B9)) (xw cM)) nn)))))))))) (fun k1=>(lr 61 3 [1,1,1,1,1,1,0] 1 8 [(0,(.bool false))] (sl Ds 54 [] (b8 [0]) b7 (bl 17 3) (tt k1 (tt k0 (ww dI (pp (pp (xI B4 B9.length (Zz B9)) (xw cM)) nn))))))))) (fun k0=>(lr 61 3 [1,1,1,1,1,1,0] 1 8 [(0,(.bool false))] (sl Ds 54 [] (b8 [0]) b7 (bl 17 0) (tt k0 (ww dI (pp (pp (xI B4 B9.length (Zz B9)) (xw cM)) nn)))))))))))))))))
theorem u4y (n:Nat) (vs:List B1) (h:Yw (w3y) n (RT)=.ret vs):Js prog (Zy prog 15) (Zg prog 15 [] true []) vs:=by have:=Ze (v1g) n _ (w3z);rwa [h] at this
end
end Go.Am
end
