/- A part of a proof: several texts in one. -/
import Derived.Test.YthnnmgkacjjpeaaGreatDoorNb5
set_option maxRecDepth 1000000
set_option maxHeartbeats 8000000
set_option linter.unusedVariables false
set_option linter.unusedSimpArgs false
noncomputable section
namespace Go.Am
open IntKind (wrap)
open Go.Proofs.Tryz
open Go.Proofs
section
attribute [local irreducible] Un Yk
-- h10: append to (.dat (rd aH (0 + (Int.toNat (wrap .i64 ((((aH.length + 1) : Nat) : Int) - 1))))).s.length (Zz (rd aH (0 + (Int.toNat (wrap .i64 ((((aH.length + 1) : Nat) : Int) - 1))))).s)) (choices [false, false])
-- h14: append to (.dat (rd aH (0 + (Int.toNat (wrap .i64 ((((aH.length + 1) : Nat) : Int) - 1))))).s.length (Zz (rd aH (0 + (Int.toNat (wrap .i64 ((((aH.length + 1) : Nat) : Int) - 1))))).s)) (choices [false, false])
-- h16: owes false (choices [true, false, false, false, false])
-- h18: append to (.dat (rd aH (0 + (Int.toNat (wrap .i64 ((((aH.length + 1) : Nat) : Int) - 1))))).s.length (Zz (rd aH (0 + (Int.toNat (wrap .i64 ((((aH.length + 1) : Nat) : Int) - 1))))).s)) (choices [false, false])
-- h20: append to (.dat (rd aH (0 + (Int.toNat (wrap .i64 ((((aH.length + 1) : Nat) : Int) - 1))))).s.length (Zz (rd aH (0 + (Int.toNat (wrap .i64 ((((aH.length + 1) : Nat) : Int) - 1))))).s)) (choices [false, false])
-- h21: owes false (choices [true, false, false, false, false])
-- h22: append to (.dat (rd aH (0 + (Int.toNat (wrap .i64 ((((aH.length + 1) : Nat) : Int) - 1))))).s.length (Zz (rd aH (0 + (Int.toNat (wrap .i64 ((((aH.length + 1) : Nat) : Int) - 1))))).s)) (choices [false, false])
-- h23: append to (.dat (rd aH (0 + (Int.toNat (wrap .i64 ((((aH.length + 1) : Nat) : Int) - 1))))).s.length (Zz (rd aH (0 + (Int.toNat (wrap .i64 ((((aH.length + 1) : Nat) : Int) - 1))))).s)) (choices [false, false])
-- h24: owes false (choices [true, false, false, false, false])
-- h24: append to (.dat (rd aH (0 + (Int.toNat (wrap .i64 ((((aH.length + 1) : Nat) : Int) - 1))))).s.length (Zz (rd aH (0 + (Int.toNat (wrap .i64 ((((aH.length + 1) : Nat) : Int) - 1))))).s)) (choices [false, false])
abbrev QX (aB:List B5) (aA:Int) (aD:List (List UInt8×Int)) (bB:List UInt8) (v5:Int):=((aB.set (0+(tn aA)) (B5.mk (rd aB (0+(tn aA))).n (getK 0 aD ((bB.drop 0).take (tn v5))) (rd aB (0+(tn aA))).t (rd aB (0+(tn aA))).x (rd aB (0+(tn aA))).y (rd aB (0+(tn aA))).z (rd aB (0+(tn aA))).s)).set (0+(tn aA)) (B5.mk ((bB.drop (tn (wr (v5+1)))).take (bB.length - (tn (wr (v5+1))))) (rd (aB.set (0+(tn aA)) (B5.mk (rd aB (0+(tn aA))).n (getK 0 aD ((bB.drop 0).take (tn v5))) (rd aB (0+(tn aA))).t (rd aB (0+(tn aA))).x (rd aB (0+(tn aA))).y (rd aB (0+(tn aA))).z (rd aB (0+(tn aA))).s)) (0+(tn aA))).a (rd (aB.set (0+(tn aA)) (B5.mk (rd aB (0+(tn aA))).n (getK 0 aD ((bB.drop 0).take (tn v5))) (rd aB (0+(tn aA))).t (rd aB (0+(tn aA))).x (rd aB (0+(tn aA))).y (rd aB (0+(tn aA))).z (rd aB (0+(tn aA))).s)) (0+(tn aA))).t (rd (aB.set (0+(tn aA)) (B5.mk (rd aB (0+(tn aA))).n (getK 0 aD ((bB.drop 0).take (tn v5))) (rd aB (0+(tn aA))).t (rd aB (0+(tn aA))).x (rd aB (0+(tn aA))).y (rd aB (0+(tn aA))).z (rd aB (0+(tn aA))).s)) (0+(tn aA))).x (rd (aB.set (0+(tn aA)) (B5.mk (rd aB (0+(tn aA))).n (getK 0 aD ((bB.drop 0).take (tn v5))) (rd aB (0+(tn aA))).t (rd aB (0+(tn aA))).x (rd aB (0+(tn aA))).y (rd aB (0+(tn aA))).z (rd aB (0+(tn aA))).s)) (0+(tn aA))).y (rd (aB.set (0+(tn aA)) (B5.mk (rd aB (0+(tn aA))).n (getK 0 aD ((bB.drop 0).take (tn v5))) (rd aB (0+(tn aA))).t (rd aB (0+(tn aA))).x (rd aB (0+(tn aA))).y (rd aB (0+(tn aA))).z (rd aB (0+(tn aA))).s)) (0+(tn aA))).z (rd (aB.set (0+(tn aA)) (B5.mk (rd aB (0+(tn aA))).n (getK 0 aD ((bB.drop 0).take (tn v5))) (rd aB (0+(tn aA))).t (rd aB (0+(tn aA))).x (rd aB (0+(tn aA))).y (rd aB (0+(tn aA))).z (rd aB (0+(tn aA))).s)) (0+(tn aA))).s))
def Rh (x0:List UInt8):CZ:=⟨⟨213,0,true⟩,(CV prog 12 [1,1,1,1,1,1,1,1,0,1,0,0,1,1,0,0,1,1,0,1,0,1,1,0,0] 24),(Zf prog 12 [1,1,1,1,1,1,1,1,0,1,0,0,1,1,0,0,1,1,0,1,0,1,1,0,0] 1),none,(Zy prog 10),Ye [(9,.nils),(10,.nils),(13,(.dat (Zi (rd (Zi (Zu x0 ([10]:List UInt8)) ([10]:List UInt8)) 0) ([32]:List UInt8)).length (Zz (Zi (rd (Zi (Zu x0 ([10]:List UInt8)) ([10]:List UInt8)) 0) ([32]:List UInt8))))),(14,(.ptr 2 0)),(15,(.ptr 1 0)),(55,(.dat (Zi (Zu x0 ([10]:List UInt8)) ([10]:List UInt8)).length (Zz (Zi (Zu x0 ([10]:List UInt8)) ([10]:List UInt8))))),(56,(ii (((Zi (Zu x0 ([10]:List UInt8)) ([10]:List UInt8)).length :Nat):Int))),(57,(ii 0)),(84,(.bool false)),(86,(.dat ((Zi (rd (Zi (Zu x0 ([10]:List UInt8)) ([10]:List UInt8)) 0) ([32]:List UInt8)).length - 2) (fun k=>(Zz (Zi (rd (Zi (Zu x0 ([10]:List UInt8)) ([10]:List UInt8)) 0) ([32]:List UInt8))) (2+k)))),(96,(.sl 0 0 4 (.un 1)))]⟩
abbrev Wu (aB:List B5) (aA:Int):=(rd aB (0+(tn aA)))
def Lo (aH:List B5) (aV:List (List UInt8)) (x0:List UInt8) (bM:Int) (bK:List (List UInt8)):CZ:=⟨⟨213,0,true⟩,(CV prog 12 [1,1,1,1,1,1,1,1,0,1,0,0,1,1,0,0,1,1,0,1,1,1,0,0] 2),(Zf prog 12 [1,1,1,1,1,1,1,1,0,1,0,0,1,1,0,0,1,1,0,1,1,1,0,0] 1),none,(Zy prog 10),Ye [(9,(.sla 2 7 0 (aH.length+1) (.un 7))),(10,(.sla 4 1 0 aV.length (.un 1))),(55,(.dat (Zi (Zu x0 ([10]:List UInt8)) ([10]:List UInt8)).length (Zz (Zi (Zu x0 ([10]:List UInt8)) ([10]:List UInt8))))),(56,(ii (((Zi (Zu x0 ([10]:List UInt8)) ([10]:List UInt8)).length :Nat):Int))),(57,(ii bM)),(134,(.dat bK.length (Zz bK)))]⟩
def Ri (aF:List B5) (aE:List (List UInt8)) (aN:List (List UInt8)) (x0:List UInt8) (bH:Int) (cB:List (List UInt8)):CZ:=⟨⟨213,0,true⟩,(CV prog 12 [1,1,1,1,1,1,1,1,0,1,0,0,1,1,0,0,1,1,0,1,0,1,1,0,0] 24),(Zf prog 12 [1,1,1,1,1,1,1,1,0,1,0,0,1,1,0,0,1,1,0,1,0,1,1,0,0] 1),none,(Zy prog 10),Ye [(9,(.sla 3 7 0 (aF.length+1) (.un 7))),(10,(.sla 5 1 0 aE.length (.un 1))),(13,(.dat aN.length (Zz aN))),(14,(.ptr 2 0)),(15,(.ptr 1 0)),(55,(.dat (Zi (Zu x0 ([10]:List UInt8)) ([10]:List UInt8)).length (Zz (Zi (Zu x0 ([10]:List UInt8)) ([10]:List UInt8))))),(56,(ii (((Zi (Zu x0 ([10]:List UInt8)) ([10]:List UInt8)).length :Nat):Int))),(57,(ii bH)),(84,(.bool false)),(86,(.dat cB.length (Zz cB))),(96,(.sl 0 0 4 (.un 1)))]⟩
def Lp (bX:List (List UInt8)):CZ:=⟨⟨21,0,true⟩,(CV prog 47 [1,0] 14),(Zf prog 47 [1,0] 1),none,(Zy prog 47),Ye [(2,(.ptr 1 0)),(4,(.dat bX.length (Zz bX))),(17,(.sl 0 0 6 (.un 1)))]⟩
def Rj (x0:List UInt8):B3:=(.dat ((Zi (rd (Zi (Zu x0 ([10]:List UInt8)) ([10]:List UInt8)) 0) ([32]:List UInt8)).length - 2) (fun k=>(Zz (Zi (rd (Zi (Zu x0 ([10]:List UInt8)) ([10]:List UInt8)) 0) ([32]:List UInt8))) (2+k)))
def ED :=(Zf prog 46 [1,1,0,1,0,0] 0)
def G5 :B8:=⟨[(.ptr 1 0),(.ptr 2 3),(.ptr 2 4),(.ptr 2 5)],91,none⟩
def Lq :B8:=⟨[(.ptr 1 0),(.ptr 1 1),(.ptr 1 2),(.ptr 1 3),(.ptr 1 4),(.ptr 1 5)],91,none⟩
abbrev Vd (aD:Int):=(wrap IntKind.u8 aD)
def WG (x0:List UInt8):B3:=(.dat (Zi (Zu x0 ([10]:List UInt8)) ([10]:List UInt8)).length (Zz (Zi (Zu x0 ([10]:List UInt8)) ([10]:List UInt8))))
def WH (x0:List UInt8):B8:=⟨[(ii (Za (rd (Zi (rd (Zi (Zu x0 ([10]:List UInt8)) ([10]:List UInt8)) 0) ([32]:List UInt8)) 2)))],3,none⟩
def WI :B8:=⟨[(.str []),(ii 0),(.int .u8 0),(ii 0),(ii 0),(ii 0),.nils],48,none⟩
def F3 (v14:List (List UInt8)):B3:=(.dat v14.length (Zz v14))
abbrev WJ (bB:List UInt8) (v5:Int):=((bB.drop (tn (wr (v5+1)))).take (bB.length - (tn (wr (v5+1)))))
abbrev RK (aL:List R6):=(DW 6 6 0 aL.length aL.length (Zz aL))
def w1m :=(Zf prog 12 [1,1,1,1,1,1,1,1,0,1,0,0] 0)
abbrev P1 (aJ:List R6):=(aJ++[(R6.mk 0 0 0 0 0 0)])
abbrev Q8 (aB:List B5) (aA:Int) (aD:List (List UInt8×Int)) (cG:List UInt8):=((aB.set (0+(tn aA)) (B5.mk (Wu aB aA).n (getK 0 aD ([]:List UInt8)) (Wu aB aA).t (Wu aB aA).x (Wu aB aA).y (Wu aB aA).z (Wu aB aA).s)).set (0+(tn aA)) (B5.mk cG (rd (aB.set (0+(tn aA)) (B5.mk (Wu aB aA).n (getK 0 aD ([]:List UInt8)) (Wu aB aA).t (Wu aB aA).x (Wu aB aA).y (Wu aB aA).z (Wu aB aA).s)) (0+(tn aA))).a (rd (aB.set (0+(tn aA)) (B5.mk (Wu aB aA).n (getK 0 aD ([]:List UInt8)) (Wu aB aA).t (Wu aB aA).x (Wu aB aA).y (Wu aB aA).z (Wu aB aA).s)) (0+(tn aA))).t (rd (aB.set (0+(tn aA)) (B5.mk (Wu aB aA).n (getK 0 aD ([]:List UInt8)) (Wu aB aA).t (Wu aB aA).x (Wu aB aA).y (Wu aB aA).z (Wu aB aA).s)) (0+(tn aA))).x (rd (aB.set (0+(tn aA)) (B5.mk (Wu aB aA).n (getK 0 aD ([]:List UInt8)) (Wu aB aA).t (Wu aB aA).x (Wu aB aA).y (Wu aB aA).z (Wu aB aA).s)) (0+(tn aA))).y (rd (aB.set (0+(tn aA)) (B5.mk (Wu aB aA).n (getK 0 aD ([]:List UInt8)) (Wu aB aA).t (Wu aB aA).x (Wu aB aA).y (Wu aB aA).z (Wu aB aA).s)) (0+(tn aA))).z (rd (aB.set (0+(tn aA)) (B5.mk (Wu aB aA).n (getK 0 aD ([]:List UInt8)) (Wu aB aA).t (Wu aB aA).x (Wu aB aA).y (Wu aB aA).z (Wu aB aA).s)) (0+(tn aA))).s))
abbrev Uz (x0:List UInt8):=(Zi (Zu x0 ([10]:List UInt8)) ([10]:List UInt8))
abbrev Yn (x0:List UInt8) (v57:Int):=(Zi (rd (Uz x0) (tn v57)) ([32]:List UInt8))
abbrev Yu (x0:List UInt8):=(Zi (rd (Uz x0) 0) ([32]:List UInt8))
abbrev Yv (aF:List B5) (aP:Int) (aQ:Int) (aR:Int) (aS:Int) (aL:List R6):=(aF++[(B5.mk ([]:List UInt8) 0 aP aQ aR aS aL)])
abbrev Up (x0:List UInt8):=(wrap IntKind.u8 (Za (rd (Yu x0) 2)))
abbrev Wg (aE:List (List UInt8)) (aN:List (List UInt8)):=(aE++([(rd aN 1)]:List (List UInt8)))
abbrev YQ (x0:List UInt8) (v57:Int):=(Zz (Vf (Yn x0 v57) 1 ((Yn x0 v57).length - 1)))
abbrev Ga (x0:List UInt8):=(Zz ([(rd (Yu x0) 1)]:List (List UInt8)))
abbrev Vc (x0:List UInt8) (v57:Int):=((Yn x0 v57).length - 1)
abbrev Jx (x0:List UInt8):=(Za (rd (Yu x0) 3))
abbrev Xy (aF:List B5) (aP:Int) (aQ:Int) (aR:Int) (aS:Int) (aL:List R6):=(Zz (Yv aF aP aQ aR aS aL))
abbrev YR (bY:List B5) (bW:Int) (cE:Int) (cM:Int) (cN:Int) (cH:List R6):=(bY++[(B5.mk ([]:List UInt8) 0 bW cE cM cN cH)])
abbrev F4 (x0:List UInt8):=(Za (rd (Yu x0) 4))
abbrev Gb :=(Zz ([]:List B5))
abbrev QY (x0:List UInt8) (v57:Int):=((Yn x0 v57).length - 2)
abbrev Kh (x0:List UInt8) (v57:Int):=(Zz (Yn x0 v57))
abbrev x3j (x0:List UInt8) (v57:Int):=(Zz (Vf (Yn x0 v57) 2 (QY x0 v57)))
inductive CJ where
 | h0
 | h1 (v6:Int) (v37:Int)
 | h2
 | h3
 | h4
 | h5
 | h6
 | h7 (v10:List (List UInt8)) (v57:Int) (bW:Int) (cE:Int) (cM:Int) (cN:Int) (cH:List R6) (bY:List B5)
 | h8
 | h9 (v14:List (List UInt8)) (v15:Int) (aE:List (List UInt8)) (aN:List (List UInt8)) (bH:Int) (cB:List (List UInt8)) (aP:Int) (aQ:Int) (aR:Int) (aS:Int) (aL:List R6) (aF:List B5)
 | h10 (v14:List (List UInt8)) (v15:Int) (bX:List (List UInt8)) (aV:List (List UInt8)) (bM:Int) (bK:List (List UInt8)) (bA:Int) (aM:Int) (aT:Int) (aY:Int) (aJ:List R6) (aH:List B5)
 | h11 (v9:List B5) (v158:List (List UInt8)) (v159:Int) (v160:Int) (aD:List (List UInt8×Int))
 | h12
 | h13 (v14:List (List UInt8)) (v15:Int) (aE:List (List UInt8)) (aN:List (List UInt8)) (bH:Int) (cB:List (List UInt8)) (aD:Int) (aP:Int) (aQ:Int) (aR:Int) (aS:Int) (aL:List R6) (aF:List B5)
 | h14 (v14:List (List UInt8)) (v15:Int) (bX:List (List UInt8)) (aV:List (List UInt8)) (bM:Int) (bK:List (List UInt8)) (aD:Int) (bA:Int) (aM:Int) (aT:Int) (aY:Int) (aJ:List R6) (aH:List B5)
 | h15 (v0:List UInt8) (v5:Int) (dT:List UInt8) (aB:List B5) (aA:Int) (bB:List UInt8) (cG:List UInt8) (cK:List (List UInt8)) (cX:Int) (cY:Int) (dO:List UInt8) (aD:List (List UInt8×Int))
 | h16
 | h17 (v14:List (List UInt8)) (v15:Int) (aE:List (List UInt8)) (aN:List (List UInt8)) (bH:Int) (cB:List (List UInt8)) (aD:Int) (aM:Int) (aP:Int) (aQ:Int) (aR:Int) (aS:Int) (aL:List R6) (aF:List B5)
 | h18 (v14:List (List UInt8)) (v15:Int) (bX:List (List UInt8)) (aV:List (List UInt8)) (bM:Int) (bK:List (List UInt8)) (aD:Int) (bG:Int) (bA:Int) (aM:Int) (aT:Int) (aY:Int) (aJ:List R6) (aH:List B5)
 | h19 (v14:List (List UInt8)) (v15:Int) (aE:List (List UInt8)) (aN:List (List UInt8)) (bH:Int) (cB:List (List UInt8)) (aD:Int) (aM:Int) (aT:Int) (aP:Int) (aQ:Int) (aR:Int) (aS:Int) (aL:List R6) (aF:List B5)
 | h20 (v14:List (List UInt8)) (v15:Int) (bX:List (List UInt8)) (aV:List (List UInt8)) (bM:Int) (bK:List (List UInt8)) (aD:Int) (bG:Int) (bN:Int) (bA:Int) (aM:Int) (aT:Int) (aY:Int) (aJ:List R6) (aH:List B5)
 | h21 (v14:List (List UInt8)) (v15:Int) (aE:List (List UInt8)) (aN:List (List UInt8)) (bH:Int) (cB:List (List UInt8)) (aD:Int) (aM:Int) (aT:Int) (aY:Int) (aP:Int) (aQ:Int) (aR:Int) (aS:Int) (aL:List R6) (aF:List B5)
 | h22 (v14:List (List UInt8)) (v15:Int) (bX:List (List UInt8)) (aV:List (List UInt8)) (bM:Int) (bK:List (List UInt8)) (aD:Int) (bG:Int) (bN:Int) (bV:Int) (bA:Int) (aM:Int) (aT:Int) (aY:Int) (aJ:List R6) (aH:List B5)
 | h23 (v14:List (List UInt8)) (v15:Int) (bX:List (List UInt8)) (aV:List (List UInt8)) (bM:Int) (bK:List (List UInt8)) (aD:Int) (bG:Int) (bN:Int) (bV:Int) (cR:Int) (bA:Int) (aM:Int) (aT:Int) (aY:Int) (aJ:List R6) (aH:List B5)
 | h24 (v14:List (List UInt8)) (v15:Int) (bX:List (List UInt8)) (aV:List (List UInt8)) (bM:Int) (bK:List (List UInt8)) (aD:Int) (bG:Int) (bN:Int) (bV:Int) (cR:Int) (dH:Int) (bA:Int) (aM:Int) (aT:Int) (aY:Int) (aJ:List R6) (aH:List B5)
def NH (x0:List UInt8):CJ->CG
 | .h0 =>⟨⟨213,0,true⟩,none,(Zf prog 12 [1,1,1,0,1,0,0] 0),none,(Zy prog 10),⟨Ye [(0,(.str x0)),(4,.nils),(5,(.bool true)),(6,(ii 0)),(35,.nils),(36,(ii 0)),(37,(ii 0))],Xs [] 0,0,[],true⟩,[],.leaf⟩
 | .h1 v6 v37=>⟨⟨213,0,true⟩,none,(Zf prog 12 [1,1,1,0,1,0,0] 0),none,(Zy prog 10),⟨Ye [(0,(.str x0)),(4,(WG x0)),(5,(.bool (EN x0 ([10]:List UInt8)))),(6,(ii v6)),(35,(WG x0)),(36,(ii (((Uz x0).length :Nat):Int))),(37,(ii v37))],Xs [] 0,0,[],true⟩,[],.leaf⟩
 | .h2 =>⟨⟨213,0,true⟩,none,w1m,none,(Zy prog 10),⟨Ye [(9,.nils),(10,.nils),(55,.nils),(56,(ii 0)),(57,(ii 0))],Xs [] 0,0,[],true⟩,[],.leaf⟩
 | .h3 =>⟨⟨213,0,true⟩,none,w1m,none,(Zy prog 10),⟨Ye [(9,.nils),(10,.nils),(55,(WG x0)),(56,(ii (((Uz x0).length :Nat):Int))),(57,(ii 0))],Xs [] 0,0,[],true⟩,[],.leaf⟩
 | .h4 =>⟨⟨213,0,true⟩,none,(Zf prog 12 [1,1,1,1,1,1,1,1,1,1,0,1,0,0] 0),none,(Zy prog 10),⟨Ye [(9,.nils),(19,(.mapr 0)),(158,.nils),(159,(ii 0)),(160,(ii 0))],Xs [⟨[(.obj (.mi (Cs ([]:List (List UInt8×Int)) ([]:List UInt8) (-1))))],95,none⟩] 0,1,[],true⟩,[],.leaf⟩
 | .h5 =>⟨⟨49,0,true⟩,none,ED,none,(Zy prog 3),⟨Ye [(1,(.sl 0 0 4 (.un 1))),(14,(Rj x0)),(15,(ii ((((Yu x0).length - 2):Nat):Int))),(16,(ii 0))],Xs [G5,⟨[(ii 0)],3,none⟩,WI] 0,3,[],true⟩,[(Rh x0)],.leaf⟩
 | .h6 =>⟨⟨49,0,true⟩,none,ED,none,(Zy prog 3),⟨Ye [(1,(.sl 0 0 4 (.un 1))),(14,(Rj x0)),(15,(ii ((((Yu x0).length - 2):Nat):Int))),(16,(ii 1))],Xs [G5,(WH x0),WI] 0,3,[],true⟩,[(Rh x0)],.leaf⟩
 | .h7 v10 v57 bW cE cM cN cH bY=>⟨⟨213,0,true⟩,none,w1m,none,(Zy prog 10),⟨Ye [(9,(.sla 0 7 0 (bY.length+1) (.un 7))),(10,(.sla 1 1 0 v10.length (.un 1))),(55,(WG x0)),(56,(ii (((Uz x0).length :Nat):Int))),(57,(ii v57))],Xs [⟨rows (bY.length+1) (CK.get (.one bY.length [(.str []),(ii 0),(.int .u8 bW),(ii cE),(ii cM),(ii cN),(.sla 2 6 0 cH.length (.un 6))] (.flat (Zz bY)))),48,some ⟨7,(bY.length+1),(.one bY.length [(.str []),(ii 0),(.int .u8 bW),(ii cE),(ii cM),(ii cN),(.sla 2 6 0 cH.length (.un 6))] (.flat (Zz bY)))⟩⟩,⟨rows v10.length (Zz v10),9,some ⟨1,v10.length,(Zz v10)⟩⟩,⟨rows cH.length (Zz cH),79,some ⟨6,cH.length,(Zz cH)⟩⟩] 0,3,[],true⟩,[],.leaf⟩
 | .h8 =>⟨⟨49,0,true⟩,none,ED,none,(Zy prog 3),⟨Ye [(1,(.sl 0 0 4 (.un 1))),(14,(Rj x0)),(15,(ii ((((Yu x0).length - 2):Nat):Int))),(16,(ii 2))],Xs [G5,(WH x0),⟨[(.str []),(ii 0),(.int .u8 0),(ii (Jx x0)),(ii 0),(ii 0),.nils],48,none⟩] 0,3,[],true⟩,[(Rh x0)],.leaf⟩
 | .h9 v14 v15 aE aN bH cB aP aQ aR aS aL aF=>⟨⟨49,0,true⟩,none,ED,none,(Zy prog 3),⟨Ye [(1,(.sl 0 0 4 (.un 1))),(14,(F3 v14)),(15,(ii v15)),(16,(ii 0))],Xs [G5,⟨[(ii 0)],3,none⟩,WI,⟨rows (aF.length+1) (CK.get (.one aF.length [(.str []),(ii 0),(.int .u8 aP),(ii aQ),(ii aR),(ii aS),(.sla 4 6 0 aL.length (.un 6))] (.flat (Zz aF)))),48,some ⟨7,(aF.length+1),(.one aF.length [(.str []),(ii 0),(.int .u8 aP),(ii aQ),(ii aR),(ii aS),(.sla 4 6 0 aL.length (.un 6))] (.flat (Zz aF)))⟩⟩,⟨rows aL.length (Zz aL),79,some ⟨6,aL.length,(Zz aL)⟩⟩,⟨rows aE.length (Zz aE),9,some ⟨1,aE.length,(Zz aE)⟩⟩] 0,6,[],true⟩,[(Ri aF aE aN x0 bH cB)],.leaf⟩
 | .h10 v14 v15 bX aV bM bK bA aM aT aY aJ aH=>⟨⟨49,0,true⟩,none,ED,none,(Zy prog 3),⟨Ye [(1,(.sl 0 0 6 (.un 1))),(14,(F3 v14)),(15,(ii v15)),(16,(ii 0))],Xs [Lq,⟨[(ii 0),(ii 0),(ii 0),(ii 0),(ii 0),(ii 0)],79,none⟩,⟨rows (aH.length+1) (CK.get (.one aH.length [(.str []),(ii 0),(.int .u8 bA),(ii aM),(ii aT),(ii aY),(.sla 3 6 0 aJ.length (.un 6))] (.flat (Zz aH)))),48,some ⟨7,(aH.length+1),(.one aH.length [(.str []),(ii 0),(.int .u8 bA),(ii aM),(ii aT),(ii aY),(.sla 3 6 0 aJ.length (.un 6))] (.flat (Zz aH)))⟩⟩,⟨rows aJ.length (Zz aJ),79,some ⟨6,aJ.length,(Zz aJ)⟩⟩,⟨rows aV.length (Zz aV),9,some ⟨1,aV.length,(Zz aV)⟩⟩] 0,5,[],true⟩,[(Lp bX),(Lo aH aV x0 bM bK)],.leaf⟩
 | .h11 v9 v158 v159 v160 aD=>⟨⟨213,0,true⟩,none,(Zf prog 12 [1,1,1,1,1,1,1,1,1,1,0,1,0,0] 0),none,(Zy prog 10),⟨Ye [(9,(.sla 0 7 0 v9.length (.un 7))),(19,(.mapr 1)),(158,(.sla 2 1 0 v158.length (.un 1))),(159,(ii v159)),(160,(ii v160))],Xs [⟨rows v9.length (Zz v9),48,some ⟨7,v9.length,(Zz v9)⟩⟩,⟨[(.obj (.mi aD))],95,none⟩,⟨rows v158.length (Zz v158),9,some ⟨1,v158.length,(Zz v158)⟩⟩] 0,3,[],true⟩,[],.leaf⟩
 | .h12 =>⟨⟨49,0,true⟩,none,ED,none,(Zy prog 3),⟨Ye [(1,(.sl 0 0 4 (.un 1))),(14,(Rj x0)),(15,(ii ((((Yu x0).length - 2):Nat):Int))),(16,(ii 3))],Xs [G5,(WH x0),⟨[(.str []),(ii 0),(.int .u8 0),(ii (Jx x0)),(ii (F4 x0)),(ii 0),.nils],48,none⟩] 0,3,[],true⟩,[(Rh x0)],.leaf⟩
 | .h13 v14 v15 aE aN bH cB aD aP aQ aR aS aL aF=>⟨⟨49,0,true⟩,none,ED,none,(Zy prog 3),⟨Ye [(1,(.sl 0 0 4 (.un 1))),(14,(F3 v14)),(15,(ii v15)),(16,(ii 1))],Xs [G5,⟨[(ii aD)],3,none⟩,WI,⟨rows (aF.length+1) (CK.get (.one aF.length [(.str []),(ii 0),(.int .u8 aP),(ii aQ),(ii aR),(ii aS),(.sla 4 6 0 aL.length (.un 6))] (.flat (Zz aF)))),48,some ⟨7,(aF.length+1),(.one aF.length [(.str []),(ii 0),(.int .u8 aP),(ii aQ),(ii aR),(ii aS),(.sla 4 6 0 aL.length (.un 6))] (.flat (Zz aF)))⟩⟩,⟨rows aL.length (Zz aL),79,some ⟨6,aL.length,(Zz aL)⟩⟩,⟨rows aE.length (Zz aE),9,some ⟨1,aE.length,(Zz aE)⟩⟩] 0,6,[],true⟩,[(Ri aF aE aN x0 bH cB)],.leaf⟩
 | .h14 v14 v15 bX aV bM bK aD bA aM aT aY aJ aH=>⟨⟨49,0,true⟩,none,ED,none,(Zy prog 3),⟨Ye [(1,(.sl 0 0 6 (.un 1))),(14,(F3 v14)),(15,(ii v15)),(16,(ii 1))],Xs [Lq,⟨[(ii aD),(ii 0),(ii 0),(ii 0),(ii 0),(ii 0)],79,none⟩,⟨rows (aH.length+1) (CK.get (.one aH.length [(.str []),(ii 0),(.int .u8 bA),(ii aM),(ii aT),(ii aY),(.sla 3 6 0 aJ.length (.un 6))] (.flat (Zz aH)))),48,some ⟨7,(aH.length+1),(.one aH.length [(.str []),(ii 0),(.int .u8 bA),(ii aM),(ii aT),(ii aY),(.sla 3 6 0 aJ.length (.un 6))] (.flat (Zz aH)))⟩⟩,⟨rows aJ.length (Zz aJ),79,some ⟨6,aJ.length,(Zz aJ)⟩⟩,⟨rows aV.length (Zz aV),9,some ⟨1,aV.length,(Zz aV)⟩⟩] 0,5,[],true⟩,[(Lp bX),(Lo aH aV x0 bM bK)],.leaf⟩
 | .h15 v0 v5 dT aB aA bB cG cK cX cY dO aD=>⟨⟨19,0,true⟩,none,(Zf prog 86 [1,0,1,0,0] 0),none,(Zy prog 3),⟨Ye [(0,(.str v0)),(1,(.int .u8 47)),(5,(ii v5))],Xs [⟨rows aB.length (Zz aB),48,some ⟨7,aB.length,(Zz aB)⟩⟩,⟨[(.obj (.mi aD))],95,none⟩,⟨rows cK.length (Zz cK),9,some ⟨1,cK.length,(Zz cK)⟩⟩] 0,3,[],true⟩,[⟨⟨8,0,true⟩,(CV prog 48 [1,0] 2),(Zf prog 48 [1,0] 1),none,(Zy prog 3),Ye [(5,(.str dT)),(6,(.int .u8 47))]⟩,⟨⟨213,0,true⟩,(CV prog 12 [1,1,1,1,1,1,1,1,1,1,0,1,0,0,1,1,0,0,1,1,0,0] 1),(Zf prog 12 [1,1,1,1,1,1,1,1,1,1,0,1,0,0,1,1,0,0,1,1,0,0] 1),none,(Zy prog 10),Ye [(9,(.sla 0 7 0 aB.length (.un 7))),(19,(.mapr 1)),(20,(ii aA)),(21,(.str bB)),(22,(.str [])),(23,(.str cG)),(158,(.sla 2 1 0 cK.length (.un 1))),(159,(ii cX)),(160,(ii cY)),(166,(.str dO))]⟩],.leaf⟩
 | .h16 =>⟨⟨49,0,true⟩,none,ED,none,(Zy prog 3),⟨Ye [(1,(.sl 0 0 4 (.un 1))),(14,(Rj x0)),(15,(ii ((((Yu x0).length - 2):Nat):Int))),(16,(ii 4))],Xs [G5,(WH x0),⟨[(.str []),(ii 0),(.int .u8 0),(ii (Jx x0)),(ii (F4 x0)),(ii (Za (rd (Yu x0) 5))),.nils],48,none⟩] 0,3,[],true⟩,[(Rh x0)],.leaf⟩
 | .h17 v14 v15 aE aN bH cB aD aM aP aQ aR aS aL aF=>⟨⟨49,0,true⟩,none,ED,none,(Zy prog 3),⟨Ye [(1,(.sl 0 0 4 (.un 1))),(14,(F3 v14)),(15,(ii v15)),(16,(ii 2))],Xs [G5,⟨[(ii aD)],3,none⟩,⟨[(.str []),(ii 0),(.int .u8 0),(ii aM),(ii 0),(ii 0),.nils],48,none⟩,⟨rows (aF.length+1) (CK.get (.one aF.length [(.str []),(ii 0),(.int .u8 aP),(ii aQ),(ii aR),(ii aS),(.sla 4 6 0 aL.length (.un 6))] (.flat (Zz aF)))),48,some ⟨7,(aF.length+1),(.one aF.length [(.str []),(ii 0),(.int .u8 aP),(ii aQ),(ii aR),(ii aS),(.sla 4 6 0 aL.length (.un 6))] (.flat (Zz aF)))⟩⟩,⟨rows aL.length (Zz aL),79,some ⟨6,aL.length,(Zz aL)⟩⟩,⟨rows aE.length (Zz aE),9,some ⟨1,aE.length,(Zz aE)⟩⟩] 0,6,[],true⟩,[(Ri aF aE aN x0 bH cB)],.leaf⟩
 | .h18 v14 v15 bX aV bM bK aD bG bA aM aT aY aJ aH=>⟨⟨49,0,true⟩,none,ED,none,(Zy prog 3),⟨Ye [(1,(.sl 0 0 6 (.un 1))),(14,(F3 v14)),(15,(ii v15)),(16,(ii 2))],Xs [Lq,⟨[(ii aD),(ii bG),(ii 0),(ii 0),(ii 0),(ii 0)],79,none⟩,⟨rows (aH.length+1) (CK.get (.one aH.length [(.str []),(ii 0),(.int .u8 bA),(ii aM),(ii aT),(ii aY),(.sla 3 6 0 aJ.length (.un 6))] (.flat (Zz aH)))),48,some ⟨7,(aH.length+1),(.one aH.length [(.str []),(ii 0),(.int .u8 bA),(ii aM),(ii aT),(ii aY),(.sla 3 6 0 aJ.length (.un 6))] (.flat (Zz aH)))⟩⟩,⟨rows aJ.length (Zz aJ),79,some ⟨6,aJ.length,(Zz aJ)⟩⟩,⟨rows aV.length (Zz aV),9,some ⟨1,aV.length,(Zz aV)⟩⟩] 0,5,[],true⟩,[(Lp bX),(Lo aH aV x0 bM bK)],.leaf⟩
 | .h19 v14 v15 aE aN bH cB aD aM aT aP aQ aR aS aL aF=>⟨⟨49,0,true⟩,none,ED,none,(Zy prog 3),⟨Ye [(1,(.sl 0 0 4 (.un 1))),(14,(F3 v14)),(15,(ii v15)),(16,(ii 3))],Xs [G5,⟨[(ii aD)],3,none⟩,⟨[(.str []),(ii 0),(.int .u8 0),(ii aM),(ii aT),(ii 0),.nils],48,none⟩,⟨rows (aF.length+1) (CK.get (.one aF.length [(.str []),(ii 0),(.int .u8 aP),(ii aQ),(ii aR),(ii aS),(.sla 4 6 0 aL.length (.un 6))] (.flat (Zz aF)))),48,some ⟨7,(aF.length+1),(.one aF.length [(.str []),(ii 0),(.int .u8 aP),(ii aQ),(ii aR),(ii aS),(.sla 4 6 0 aL.length (.un 6))] (.flat (Zz aF)))⟩⟩,⟨rows aL.length (Zz aL),79,some ⟨6,aL.length,(Zz aL)⟩⟩,⟨rows aE.length (Zz aE),9,some ⟨1,aE.length,(Zz aE)⟩⟩] 0,6,[],true⟩,[(Ri aF aE aN x0 bH cB)],.leaf⟩
 | .h20 v14 v15 bX aV bM bK aD bG bN bA aM aT aY aJ aH=>⟨⟨49,0,true⟩,none,ED,none,(Zy prog 3),⟨Ye [(1,(.sl 0 0 6 (.un 1))),(14,(F3 v14)),(15,(ii v15)),(16,(ii 3))],Xs [Lq,⟨[(ii aD),(ii bG),(ii bN),(ii 0),(ii 0),(ii 0)],79,none⟩,⟨rows (aH.length+1) (CK.get (.one aH.length [(.str []),(ii 0),(.int .u8 bA),(ii aM),(ii aT),(ii aY),(.sla 3 6 0 aJ.length (.un 6))] (.flat (Zz aH)))),48,some ⟨7,(aH.length+1),(.one aH.length [(.str []),(ii 0),(.int .u8 bA),(ii aM),(ii aT),(ii aY),(.sla 3 6 0 aJ.length (.un 6))] (.flat (Zz aH)))⟩⟩,⟨rows aJ.length (Zz aJ),79,some ⟨6,aJ.length,(Zz aJ)⟩⟩,⟨rows aV.length (Zz aV),9,some ⟨1,aV.length,(Zz aV)⟩⟩] 0,5,[],true⟩,[(Lp bX),(Lo aH aV x0 bM bK)],.leaf⟩
 | .h21 v14 v15 aE aN bH cB aD aM aT aY aP aQ aR aS aL aF=>⟨⟨49,0,true⟩,none,ED,none,(Zy prog 3),⟨Ye [(1,(.sl 0 0 4 (.un 1))),(14,(F3 v14)),(15,(ii v15)),(16,(ii 4))],Xs [G5,⟨[(ii aD)],3,none⟩,⟨[(.str []),(ii 0),(.int .u8 0),(ii aM),(ii aT),(ii aY),.nils],48,none⟩,⟨rows (aF.length+1) (CK.get (.one aF.length [(.str []),(ii 0),(.int .u8 aP),(ii aQ),(ii aR),(ii aS),(.sla 4 6 0 aL.length (.un 6))] (.flat (Zz aF)))),48,some ⟨7,(aF.length+1),(.one aF.length [(.str []),(ii 0),(.int .u8 aP),(ii aQ),(ii aR),(ii aS),(.sla 4 6 0 aL.length (.un 6))] (.flat (Zz aF)))⟩⟩,⟨rows aL.length (Zz aL),79,some ⟨6,aL.length,(Zz aL)⟩⟩,⟨rows aE.length (Zz aE),9,some ⟨1,aE.length,(Zz aE)⟩⟩] 0,6,[],true⟩,[(Ri aF aE aN x0 bH cB)],.leaf⟩
 | .h22 v14 v15 bX aV bM bK aD bG bN bV bA aM aT aY aJ aH=>⟨⟨49,0,true⟩,none,ED,none,(Zy prog 3),⟨Ye [(1,(.sl 0 0 6 (.un 1))),(14,(F3 v14)),(15,(ii v15)),(16,(ii 4))],Xs [Lq,⟨[(ii aD),(ii bG),(ii bN),(ii bV),(ii 0),(ii 0)],79,none⟩,⟨rows (aH.length+1) (CK.get (.one aH.length [(.str []),(ii 0),(.int .u8 bA),(ii aM),(ii aT),(ii aY),(.sla 3 6 0 aJ.length (.un 6))] (.flat (Zz aH)))),48,some ⟨7,(aH.length+1),(.one aH.length [(.str []),(ii 0),(.int .u8 bA),(ii aM),(ii aT),(ii aY),(.sla 3 6 0 aJ.length (.un 6))] (.flat (Zz aH)))⟩⟩,⟨rows aJ.length (Zz aJ),79,some ⟨6,aJ.length,(Zz aJ)⟩⟩,⟨rows aV.length (Zz aV),9,some ⟨1,aV.length,(Zz aV)⟩⟩] 0,5,[],true⟩,[(Lp bX),(Lo aH aV x0 bM bK)],.leaf⟩
 | .h23 v14 v15 bX aV bM bK aD bG bN bV cR bA aM aT aY aJ aH=>⟨⟨49,0,true⟩,none,ED,none,(Zy prog 3),⟨Ye [(1,(.sl 0 0 6 (.un 1))),(14,(F3 v14)),(15,(ii v15)),(16,(ii 5))],Xs [Lq,⟨[(ii aD),(ii bG),(ii bN),(ii bV),(ii cR),(ii 0)],79,none⟩,⟨rows (aH.length+1) (CK.get (.one aH.length [(.str []),(ii 0),(.int .u8 bA),(ii aM),(ii aT),(ii aY),(.sla 3 6 0 aJ.length (.un 6))] (.flat (Zz aH)))),48,some ⟨7,(aH.length+1),(.one aH.length [(.str []),(ii 0),(.int .u8 bA),(ii aM),(ii aT),(ii aY),(.sla 3 6 0 aJ.length (.un 6))] (.flat (Zz aH)))⟩⟩,⟨rows aJ.length (Zz aJ),79,some ⟨6,aJ.length,(Zz aJ)⟩⟩,⟨rows aV.length (Zz aV),9,some ⟨1,aV.length,(Zz aV)⟩⟩] 0,5,[],true⟩,[(Lp bX),(Lo aH aV x0 bM bK)],.leaf⟩
 | .h24 v14 v15 bX aV bM bK aD bG bN bV cR dH bA aM aT aY aJ aH=>⟨⟨49,0,true⟩,none,ED,none,(Zy prog 3),⟨Ye [(1,(.sl 0 0 6 (.un 1))),(14,(F3 v14)),(15,(ii v15)),(16,(ii 6))],Xs [Lq,⟨[(ii aD),(ii bG),(ii bN),(ii bV),(ii cR),(ii dH)],79,none⟩,⟨rows (aH.length+1) (CK.get (.one aH.length [(.str []),(ii 0),(.int .u8 bA),(ii aM),(ii aT),(ii aY),(.sla 3 6 0 aJ.length (.un 6))] (.flat (Zz aH)))),48,some ⟨7,(aH.length+1),(.one aH.length [(.str []),(ii 0),(.int .u8 bA),(ii aM),(ii aT),(ii aY),(.sla 3 6 0 aJ.length (.un 6))] (.flat (Zz aH)))⟩⟩,⟨rows aJ.length (Zz aJ),79,some ⟨6,aJ.length,(Zz aJ)⟩⟩,⟨rows aV.length (Zz aV),9,some ⟨1,aV.length,(Zz aV)⟩⟩] 0,5,[],true⟩,[(Lp bX),(Lo aH aV x0 bM bK)],.leaf⟩
def Sh :List (Option (List Nat)):=[some [0,4,5,6,35,36,37]]
def Sq :List (Option (List Nat)):=[]
def XJ :List (Option (List Nat)):=[some [0,4,5,6,35,36,37]]
def XI :List (Option (List Nat)):=[]
def Sg :List (Option (List Nat)):=[some [9,10,55,56,57]]
def So :List (Option (List Nat)):=[]
def Sf :List (Option (List Nat)):=[some [9,10,55,56,57]]
def Sn :List (Option (List Nat)):=[]
def KN :List (Option (List Nat)):=[some [9,19,158,159,160]]
def KO :List (Option (List Nat)):=[]
def Se :List (Option (List Nat)):=[some [1,14,15,16],some [9,10,13,14,15,55,56,57,84,86,96]]
def Sm :List (Option (List Nat)):=[]
def Sd :List (Option (List Nat)):=[some [1,14,15,16],some [9,10,13,14,15,55,56,57,84,86,96]]
def Sl :List (Option (List Nat)):=[]
def Dy :List (Option (List Nat)):=[some [9,10,55,56,57]]
def Dx :List (Option (List Nat)):=[]
def Sc :List (Option (List Nat)):=[some [1,14,15,16],some [9,10,13,14,15,55,56,57,84,86,96]]
def Sk :List (Option (List Nat)):=[]
def Sb :List (Option (List Nat)):=[some [1,14,15,16],some [9,10,13,14,15,55,56,57,84,86,96]]
def Sj :List (Option (List Nat)):=[]
def u7l :List (Option (List Nat)):=[some [1,14,15,16],some [2,4,17],some [9,10,55,56,57,134]]
def u7n :List (Option (List Nat)):=[]
def Rf :List (Option (List Nat)):=[some [9,19,158,159,160]]
def Re :List (Option (List Nat)):=[]
def Mu :List (Option (List Nat)):=[some [1,14,15,16],some [9,10,13,14,15,55,56,57,84,86,96]]
def NG :List (Option (List Nat)):=[]
def Mt :List (Option (List Nat)):=[some [1,14,15,16],some [9,10,13,14,15,55,56,57,84,86,96]]
def NF :List (Option (List Nat)):=[]
def Ms :List (Option (List Nat)):=[some [1,14,15,16],some [2,4,17],some [9,10,55,56,57,134]]
def NE :List (Option (List Nat)):=[]
def u7k :List (Option (List Nat)):=[some [0,1,5],some [5,6],some [9,19,20,21,22,23,158,159,160,166]]
def u7m :List (Option (List Nat)):=[]
def Mr :List (Option (List Nat)):=[some [1,14,15,16],some [9,10,13,14,15,55,56,57,84,86,96]]
def ND :List (Option (List Nat)):=[]
def Mq :List (Option (List Nat)):=[some [1,14,15,16],some [9,10,13,14,15,55,56,57,84,86,96]]
def NC :List (Option (List Nat)):=[]
def Mp :List (Option (List Nat)):=[some [1,14,15,16],some [2,4,17],some [9,10,55,56,57,134]]
def NB :List (Option (List Nat)):=[]
def Mo :List (Option (List Nat)):=[some [1,14,15,16],some [9,10,13,14,15,55,56,57,84,86,96]]
def NA :List (Option (List Nat)):=[]
def Mn :List (Option (List Nat)):=[some [1,14,15,16],some [2,4,17],some [9,10,55,56,57,134]]
def Mz :List (Option (List Nat)):=[]
def Mm :List (Option (List Nat)):=[some [1,14,15,16],some [9,10,13,14,15,55,56,57,84,86,96]]
def My :List (Option (List Nat)):=[]
def Ml :List (Option (List Nat)):=[some [1,14,15,16],some [2,4,17],some [9,10,55,56,57,134]]
def Mx :List (Option (List Nat)):=[]
def Mk :List (Option (List Nat)):=[some [1,14,15,16],some [2,4,17],some [9,10,55,56,57,134]]
def Mw :List (Option (List Nat)):=[]
def Mj :List (Option (List Nat)):=[some [1,14,15,16],some [2,4,17],some [9,10,55,56,57,134]]
def Mv :List (Option (List Nat)):=[]
def Zc (x0:List UInt8):CJ->Xj CJ
 | .h0 =>(bif (decide ((x0.length:Int)>60000)) then (.ret [.nils,(.int .i64 4)]) else (.to (.h2)))
 | .h1 v6 v37=>(bif (decide (v37<(((Zi (Zu x0 ([10]:List UInt8)) ([10]:List UInt8)).length :Nat):Int))) then (bif ((decide (0<=v37/\v37<(((Zi (Zu x0 ([10]:List UInt8)) ([10]:List UInt8)).length :Nat):Int)))&&true) then (bif (decide ((((rd (Zi (Zu x0 ([10]:List UInt8)) ([10]:List UInt8)) v37.toNat).length :Nat):Int)>=5)) then (bif (decide (5<=(rd (Zi (Zu x0 ([10]:List UInt8)) ([10]:List UInt8)) v37.toNat).length)) then (bif ((((rd (Zi (Zu x0 ([10]:List UInt8)) ([10]:List UInt8)) v37.toNat).drop 0).take 5) == ([110,111,100,101,32]:List UInt8)) then (.to (.h1 (wrap .i64 (v6+1)) (wrap .i64 (v37+1)))) else (.to (.h1 v6 (wrap .i64 (v37+1))))) else .stuck) else (.to (.h1 v6 (wrap .i64 (v37+1))))) else .stuck) else (bif (decide ((x0.length:Int)>60000)) then (.ret [.nils,(.int .i64 4)]) else (bif (decide (v6>200)) then (.ret [.nils,(.int .i64 4)]) else (bif (!(EN x0 ([10]:List UInt8))) then (.ret [.nils,(.int .i64 12)]) else (.to (.h3))))))
 | .h2 =>(.to (.h4))
 | .h3 =>(bif (decide (0<(((Zi (Zu x0 ([10]:List UInt8)) ([10]:List UInt8)).length :Nat):Int))) then (bif ((decide ((0:Int)<=0/\0<(((Zi (Zu x0 ([10]:List UInt8)) ([10]:List UInt8)).length :Nat):Int)))&&true) then (bif (Jp (rd (Zi (Zu x0 ([10]:List UInt8)) ([10]:List UInt8)) 0) ([32]:List UInt8)) then (bif ((decide ((0:Int)<=0/\0<(((Zi (rd (Zi (Zu x0 ([10]:List UInt8)) ([10]:List UInt8)) 0) ([32]:List UInt8)).length :Nat):Int)))&&true) then (bif ((rd (Zi (rd (Zi (Zu x0 ([10]:List UInt8)) ([10]:List UInt8)) 0) ([32]:List UInt8)) 0) == ([110,111,100,101]:List UInt8)) then (bif (decide ((((Zi (rd (Zi (Zu x0 ([10]:List UInt8)) ([10]:List UInt8)) 0) ([32]:List UInt8)).length :Nat):Int)>1)) then (bif ((decide ((0:Int)<=1/\1<(((Zi (rd (Zi (Zu x0 ([10]:List UInt8)) ([10]:List UInt8)) 0) ([32]:List UInt8)).length :Nat):Int)))&&true) then (bif ((rd (Zi (rd (Zi (Zu x0 ([10]:List UInt8)) ([10]:List UInt8)) 0) ([32]:List UInt8)) 1) == ([]:List UInt8)) then (.ret [.nils,(.int .i64 12)]) else (bif (Jm (rd (Zi (rd (Zi (Zu x0 ([10]:List UInt8)) ([10]:List UInt8)) 0) ([32]:List UInt8)) 1)) then (bif ((C6 (rd (Zi (rd (Zi (Zu x0 ([10]:List UInt8)) ([10]:List UInt8)) 0) ([32]:List UInt8)) 1)) != 0) then (.ret [.nils,(.int .i64 12)]) else (bif (decide (2<=(Zi (rd (Zi (Zu x0 ([10]:List UInt8)) ([10]:List UInt8)) 0) ([32]:List UInt8)).length)) then (bif (decide ((Zi (rd (Zi (Zu x0 ([10]:List UInt8)) ([10]:List UInt8)) 0) ([32]:List UInt8)).length <=(Zi (rd (Zi (Zu x0 ([10]:List UInt8)) ([10]:List UInt8)) 0) ([32]:List UInt8)).length)) then (bif (((((Zi (rd (Zi (Zu x0 ([10]:List UInt8)) ([10]:List UInt8)) 0) ([32]:List UInt8)).length - 2):Nat):Int) != 4) then (.ret [.nils,(.int .i64 12)]) else (.to (.h5))) else .stuck) else .stuck)) else .stuck)) else .stuck) else (bif ((rd (Zi (rd (Zi (Zu x0 ([10]:List UInt8)) ([10]:List UInt8)) 0) ([32]:List UInt8)) 0) == ([98,111,120]:List UInt8)) then (.ret [.nils,(.int .i64 12)]) else (.ret [.nils,(.int .i64 12)]))) else (bif ((rd (Zi (rd (Zi (Zu x0 ([10]:List UInt8)) ([10]:List UInt8)) 0) ([32]:List UInt8)) 0) == ([98,111,120]:List UInt8)) then (.ret [.nils,(.int .i64 12)]) else (.ret [.nils,(.int .i64 12)]))) else .stuck) else .stuck) else .stuck) else (.to (.h4)))
 | .h4 =>(bif (Yk ([]:List B5)) then (bif ((Un ([]:List B5)) != 0) then (.ret [.nils,(.int .i64 (Un ([]:List B5)))]) else (.ret [.nils,(.int .i64 0)])) else .stuck)
 | .h5 =>(bif (decide (0<((((Zi (rd (Zi (Zu x0 ([10]:List UInt8)) ([10]:List UInt8)) 0) ([32]:List UInt8)).length - 2):Nat):Int))) then (bif ((decide ((0:Int)<=0/\0<((((Zi (rd (Zi (Zu x0 ([10]:List UInt8)) ([10]:List UInt8)) 0) ([32]:List UInt8)).length - 2):Nat):Int)))&&true) then (bif (Wq (rd (Zi (rd (Zi (Zu x0 ([10]:List UInt8)) ([10]:List UInt8)) 0) ([32]:List UInt8)) 2)) then (bif (!(Ja (rd (Zi (rd (Zi (Zu x0 ([10]:List UInt8)) ([10]:List UInt8)) 0) ([32]:List UInt8)) 2))) then (.ret [.nils,(.int .i64 12)]) else (bif (Yd (Za (rd (Zi (rd (Zi (Zu x0 ([10]:List UInt8)) ([10]:List UInt8)) 0) ([32]:List UInt8)) 2))) then (bif (!((Xk (Za (rd (Zi (rd (Zi (Zu x0 ([10]:List UInt8)) ([10]:List UInt8)) 0) ([32]:List UInt8)) 2))) == (rd (Zi (rd (Zi (Zu x0 ([10]:List UInt8)) ([10]:List UInt8)) 0) ([32]:List UInt8)) 2))) then (.ret [.nils,(.int .i64 12)]) else (bif (decide ((Za (rd (Zi (rd (Zi (Zu x0 ([10]:List UInt8)) ([10]:List UInt8)) 0) ([32]:List UInt8)) 2))<(-9999999))) then (.ret [.nils,(.int .i64 12)]) else (bif (decide ((Za (rd (Zi (rd (Zi (Zu x0 ([10]:List UInt8)) ([10]:List UInt8)) 0) ([32]:List UInt8)) 2))>9999999)) then (.ret [.nils,(.int .i64 12)]) else (.to (.h6))))) else .stuck)) else .stuck) else .stuck) else (bif (decide ((0+1+1)*(80+1)<=Ve)) then (bif ((decide ((0:Int)<=1/\1<(((Zi (rd (Zi (Zu x0 ([10]:List UInt8)) ([10]:List UInt8)) 0) ([32]:List UInt8)).length :Nat):Int)))&&true) then (bif (decide ((0+1+1)*(16+1)<=Ve)) then (.to (.h7 ([(rd (Zi (rd (Zi (Zu x0 ([10]:List UInt8)) ([10]:List UInt8)) 0) ([32]:List UInt8)) 1)]:List (List UInt8)) 1 0 0 0 0 ([]:List R6) ([]:List B5))) else .stuck) else .stuck) else .stuck))
 | .h6 =>(bif (decide (1<((((Zi (rd (Zi (Zu x0 ([10]:List UInt8)) ([10]:List UInt8)) 0) ([32]:List UInt8)).length - 2):Nat):Int))) then (bif ((decide ((0:Int)<=1/\1<((((Zi (rd (Zi (Zu x0 ([10]:List UInt8)) ([10]:List UInt8)) 0) ([32]:List UInt8)).length - 2):Nat):Int)))&&true) then (bif (Wq (rd (Zi (rd (Zi (Zu x0 ([10]:List UInt8)) ([10]:List UInt8)) 0) ([32]:List UInt8)) 3)) then (bif (!(Ja (rd (Zi (rd (Zi (Zu x0 ([10]:List UInt8)) ([10]:List UInt8)) 0) ([32]:List UInt8)) 3))) then (.ret [.nils,(.int .i64 12)]) else (bif (Yd (Za (rd (Zi (rd (Zi (Zu x0 ([10]:List UInt8)) ([10]:List UInt8)) 0) ([32]:List UInt8)) 3))) then (bif (!((Xk (Za (rd (Zi (rd (Zi (Zu x0 ([10]:List UInt8)) ([10]:List UInt8)) 0) ([32]:List UInt8)) 3))) == (rd (Zi (rd (Zi (Zu x0 ([10]:List UInt8)) ([10]:List UInt8)) 0) ([32]:List UInt8)) 3))) then (.ret [.nils,(.int .i64 12)]) else (bif (decide ((Za (rd (Zi (rd (Zi (Zu x0 ([10]:List UInt8)) ([10]:List UInt8)) 0) ([32]:List UInt8)) 3))<(-9999999))) then (.ret [.nils,(.int .i64 12)]) else (bif (decide ((Za (rd (Zi (rd (Zi (Zu x0 ([10]:List UInt8)) ([10]:List UInt8)) 0) ([32]:List UInt8)) 3))>9999999)) then (.ret [.nils,(.int .i64 12)]) else (.to (.h8))))) else .stuck)) else .stuck) else .stuck) else (bif (decide ((Za (rd (Zi (rd (Zi (Zu x0 ([10]:List UInt8)) ([10]:List UInt8)) 0) ([32]:List UInt8)) 2))<0)) then (.ret [.nils,(.int .i64 12)]) else (bif (decide ((Za (rd (Zi (rd (Zi (Zu x0 ([10]:List UInt8)) ([10]:List UInt8)) 0) ([32]:List UInt8)) 2))>23)) then (.ret [.nils,(.int .i64 12)]) else (bif (decide ((0+1+1)*(80+1)<=Ve)) then (bif ((decide ((0:Int)<=1/\1<(((Zi (rd (Zi (Zu x0 ([10]:List UInt8)) ([10]:List UInt8)) 0) ([32]:List UInt8)).length :Nat):Int)))&&true) then (bif (decide ((0+1+1)*(16+1)<=Ve)) then (.to (.h7 ([(rd (Zi (rd (Zi (Zu x0 ([10]:List UInt8)) ([10]:List UInt8)) 0) ([32]:List UInt8)) 1)]:List (List UInt8)) 1 (wrap IntKind.u8 (Za (rd (Zi (rd (Zi (Zu x0 ([10]:List UInt8)) ([10]:List UInt8)) 0) ([32]:List UInt8)) 2))) 0 0 0 ([]:List R6) ([]:List B5))) else .stuck) else .stuck) else .stuck))))
 | .h7 v10 v57 bW cE cM cN cH bY=>(bif (decide (v57<(((Zi (Zu x0 ([10]:List UInt8)) ([10]:List UInt8)).length :Nat):Int))) then (bif ((decide (0<=v57/\v57<(((Zi (Zu x0 ([10]:List UInt8)) ([10]:List UInt8)).length :Nat):Int)))&&true) then (bif (Jp (rd (Zi (Zu x0 ([10]:List UInt8)) ([10]:List UInt8)) v57.toNat) ([32]:List UInt8)) then (bif ((decide ((0:Int)<=0/\0<(((Zi (rd (Zi (Zu x0 ([10]:List UInt8)) ([10]:List UInt8)) v57.toNat) ([32]:List UInt8)).length :Nat):Int)))&&true) then (bif ((rd (Zi (rd (Zi (Zu x0 ([10]:List UInt8)) ([10]:List UInt8)) v57.toNat) ([32]:List UInt8)) 0) == ([110,111,100,101]:List UInt8)) then (bif (decide ((((Zi (rd (Zi (Zu x0 ([10]:List UInt8)) ([10]:List UInt8)) v57.toNat) ([32]:List UInt8)).length :Nat):Int)>1)) then (bif ((decide ((0:Int)<=1/\1<(((Zi (rd (Zi (Zu x0 ([10]:List UInt8)) ([10]:List UInt8)) v57.toNat) ([32]:List UInt8)).length :Nat):Int)))&&true) then (bif ((rd (Zi (rd (Zi (Zu x0 ([10]:List UInt8)) ([10]:List UInt8)) v57.toNat) ([32]:List UInt8)) 1) == ([]:List UInt8)) then (.ret [.nils,(.int .i64 12)]) else (bif (Jm (rd (Zi (rd (Zi (Zu x0 ([10]:List UInt8)) ([10]:List UInt8)) v57.toNat) ([32]:List UInt8)) 1)) then (bif ((C6 (rd (Zi (rd (Zi (Zu x0 ([10]:List UInt8)) ([10]:List UInt8)) v57.toNat) ([32]:List UInt8)) 1)) != 0) then (.ret [.nils,(.int .i64 12)]) else (bif (decide (2<=(Zi (rd (Zi (Zu x0 ([10]:List UInt8)) ([10]:List UInt8)) v57.toNat) ([32]:List UInt8)).length)) then (bif (decide ((Zi (rd (Zi (Zu x0 ([10]:List UInt8)) ([10]:List UInt8)) v57.toNat) ([32]:List UInt8)).length <=(Zi (rd (Zi (Zu x0 ([10]:List UInt8)) ([10]:List UInt8)) v57.toNat) ([32]:List UInt8)).length)) then (bif (((((Zi (rd (Zi (Zu x0 ([10]:List UInt8)) ([10]:List UInt8)) v57.toNat) ([32]:List UInt8)).length - 2):Nat):Int) != 4) then (.ret [.nils,(.int .i64 12)]) else (.to (.h9 (Vf (Zi (rd (Zi (Zu x0 ([10]:List UInt8)) ([10]:List UInt8)) v57.toNat) ([32]:List UInt8)) 2 ((Zi (rd (Zi (Zu x0 ([10]:List UInt8)) ([10]:List UInt8)) v57.toNat) ([32]:List UInt8)).length - 2)) ((((Zi (rd (Zi (Zu x0 ([10]:List UInt8)) ([10]:List UInt8)) v57.toNat) ([32]:List UInt8)).length - 2):Nat):Int) v10 (Zi (rd (Zi (Zu x0 ([10]:List UInt8)) ([10]:List UInt8)) v57.toNat) ([32]:List UInt8)) v57 (Vf (Zi (rd (Zi (Zu x0 ([10]:List UInt8)) ([10]:List UInt8)) v57.toNat) ([32]:List UInt8)) 2 ((Zi (rd (Zi (Zu x0 ([10]:List UInt8)) ([10]:List UInt8)) v57.toNat) ([32]:List UInt8)).length - 2)) bW cE cM cN cH bY))) else .stuck) else .stuck)) else .stuck)) else .stuck) else (bif ((rd (Zi (rd (Zi (Zu x0 ([10]:List UInt8)) ([10]:List UInt8)) v57.toNat) ([32]:List UInt8)) 0) == ([98,111,120]:List UInt8)) then (bif (decide ((((bY.length+1):Nat):Int)>0)) then (bif (decide (1<=(Zi (rd (Zi (Zu x0 ([10]:List UInt8)) ([10]:List UInt8)) v57.toNat) ([32]:List UInt8)).length)) then (bif (decide ((Zi (rd (Zi (Zu x0 ([10]:List UInt8)) ([10]:List UInt8)) v57.toNat) ([32]:List UInt8)).length <=(Zi (rd (Zi (Zu x0 ([10]:List UInt8)) ([10]:List UInt8)) v57.toNat) ([32]:List UInt8)).length)) then (bif (((((Zi (rd (Zi (Zu x0 ([10]:List UInt8)) ([10]:List UInt8)) v57.toNat) ([32]:List UInt8)).length - 1):Nat):Int) != 6) then (.ret [.nils,(.int .i64 12)]) else (.to (.h10 (Vf (Zi (rd (Zi (Zu x0 ([10]:List UInt8)) ([10]:List UInt8)) v57.toNat) ([32]:List UInt8)) 1 ((Zi (rd (Zi (Zu x0 ([10]:List UInt8)) ([10]:List UInt8)) v57.toNat) ([32]:List UInt8)).length - 1)) ((((Zi (rd (Zi (Zu x0 ([10]:List UInt8)) ([10]:List UInt8)) v57.toNat) ([32]:List UInt8)).length - 1):Nat):Int) (Vf (Zi (rd (Zi (Zu x0 ([10]:List UInt8)) ([10]:List UInt8)) v57.toNat) ([32]:List UInt8)) 1 ((Zi (rd (Zi (Zu x0 ([10]:List UInt8)) ([10]:List UInt8)) v57.toNat) ([32]:List UInt8)).length - 1)) v10 v57 (Vf (Zi (rd (Zi (Zu x0 ([10]:List UInt8)) ([10]:List UInt8)) v57.toNat) ([32]:List UInt8)) 1 ((Zi (rd (Zi (Zu x0 ([10]:List UInt8)) ([10]:List UInt8)) v57.toNat) ([32]:List UInt8)).length - 1)) bW cE cM cN cH bY))) else .stuck) else .stuck) else (.ret [.nils,(.int .i64 12)])) else (.ret [.nils,(.int .i64 12)]))) else (bif ((rd (Zi (rd (Zi (Zu x0 ([10]:List UInt8)) ([10]:List UInt8)) v57.toNat) ([32]:List UInt8)) 0) == ([98,111,120]:List UInt8)) then (bif (decide ((((bY.length+1):Nat):Int)>0)) then (bif (decide (1<=(Zi (rd (Zi (Zu x0 ([10]:List UInt8)) ([10]:List UInt8)) v57.toNat) ([32]:List UInt8)).length)) then (bif (decide ((Zi (rd (Zi (Zu x0 ([10]:List UInt8)) ([10]:List UInt8)) v57.toNat) ([32]:List UInt8)).length <=(Zi (rd (Zi (Zu x0 ([10]:List UInt8)) ([10]:List UInt8)) v57.toNat) ([32]:List UInt8)).length)) then (bif (((((Zi (rd (Zi (Zu x0 ([10]:List UInt8)) ([10]:List UInt8)) v57.toNat) ([32]:List UInt8)).length - 1):Nat):Int) != 6) then (.ret [.nils,(.int .i64 12)]) else (.to (.h10 (Vf (Zi (rd (Zi (Zu x0 ([10]:List UInt8)) ([10]:List UInt8)) v57.toNat) ([32]:List UInt8)) 1 ((Zi (rd (Zi (Zu x0 ([10]:List UInt8)) ([10]:List UInt8)) v57.toNat) ([32]:List UInt8)).length - 1)) ((((Zi (rd (Zi (Zu x0 ([10]:List UInt8)) ([10]:List UInt8)) v57.toNat) ([32]:List UInt8)).length - 1):Nat):Int) (Vf (Zi (rd (Zi (Zu x0 ([10]:List UInt8)) ([10]:List UInt8)) v57.toNat) ([32]:List UInt8)) 1 ((Zi (rd (Zi (Zu x0 ([10]:List UInt8)) ([10]:List UInt8)) v57.toNat) ([32]:List UInt8)).length - 1)) v10 v57 (Vf (Zi (rd (Zi (Zu x0 ([10]:List UInt8)) ([10]:List UInt8)) v57.toNat) ([32]:List UInt8)) 1 ((Zi (rd (Zi (Zu x0 ([10]:List UInt8)) ([10]:List UInt8)) v57.toNat) ([32]:List UInt8)).length - 1)) bW cE cM cN cH bY))) else .stuck) else .stuck) else (.ret [.nils,(.int .i64 12)])) else (.ret [.nils,(.int .i64 12)]))) else .stuck) else .stuck) else .stuck) else (.to (.h11 (bY++[(B5.mk ([]:List UInt8) 0 bW cE cM cN cH)]) v10 (v10.length:Int) 0 (Cs ([]:List (List UInt8×Int)) ([]:List UInt8) (-1)))))
 | .h8 =>(bif (decide (2<((((Zi (rd (Zi (Zu x0 ([10]:List UInt8)) ([10]:List UInt8)) 0) ([32]:List UInt8)).length - 2):Nat):Int))) then (bif ((decide ((0:Int)<=2/\2<((((Zi (rd (Zi (Zu x0 ([10]:List UInt8)) ([10]:List UInt8)) 0) ([32]:List UInt8)).length - 2):Nat):Int)))&&true) then (bif (Wq (rd (Zi (rd (Zi (Zu x0 ([10]:List UInt8)) ([10]:List UInt8)) 0) ([32]:List UInt8)) 4)) then (bif (!(Ja (rd (Zi (rd (Zi (Zu x0 ([10]:List UInt8)) ([10]:List UInt8)) 0) ([32]:List UInt8)) 4))) then (.ret [.nils,(.int .i64 12)]) else (bif (Yd (Za (rd (Zi (rd (Zi (Zu x0 ([10]:List UInt8)) ([10]:List UInt8)) 0) ([32]:List UInt8)) 4))) then (bif (!((Xk (Za (rd (Zi (rd (Zi (Zu x0 ([10]:List UInt8)) ([10]:List UInt8)) 0) ([32]:List UInt8)) 4))) == (rd (Zi (rd (Zi (Zu x0 ([10]:List UInt8)) ([10]:List UInt8)) 0) ([32]:List UInt8)) 4))) then (.ret [.nils,(.int .i64 12)]) else (bif (decide ((Za (rd (Zi (rd (Zi (Zu x0 ([10]:List UInt8)) ([10]:List UInt8)) 0) ([32]:List UInt8)) 4))<(-9999999))) then (.ret [.nils,(.int .i64 12)]) else (bif (decide ((Za (rd (Zi (rd (Zi (Zu x0 ([10]:List UInt8)) ([10]:List UInt8)) 0) ([32]:List UInt8)) 4))>9999999)) then (.ret [.nils,(.int .i64 12)]) else (.to (.h12))))) else .stuck)) else .stuck) else .stuck) else (bif (decide ((Za (rd (Zi (rd (Zi (Zu x0 ([10]:List UInt8)) ([10]:List UInt8)) 0) ([32]:List UInt8)) 2))<0)) then (.ret [.nils,(.int .i64 12)]) else (bif (decide ((Za (rd (Zi (rd (Zi (Zu x0 ([10]:List UInt8)) ([10]:List UInt8)) 0) ([32]:List UInt8)) 2))>23)) then (.ret [.nils,(.int .i64 12)]) else (bif (decide ((0+1+1)*(80+1)<=Ve)) then (bif ((decide ((0:Int)<=1/\1<(((Zi (rd (Zi (Zu x0 ([10]:List UInt8)) ([10]:List UInt8)) 0) ([32]:List UInt8)).length :Nat):Int)))&&true) then (bif (decide ((0+1+1)*(16+1)<=Ve)) then (.to (.h7 ([(rd (Zi (rd (Zi (Zu x0 ([10]:List UInt8)) ([10]:List UInt8)) 0) ([32]:List UInt8)) 1)]:List (List UInt8)) 1 (wrap IntKind.u8 (Za (rd (Zi (rd (Zi (Zu x0 ([10]:List UInt8)) ([10]:List UInt8)) 0) ([32]:List UInt8)) 2))) (Za (rd (Zi (rd (Zi (Zu x0 ([10]:List UInt8)) ([10]:List UInt8)) 0) ([32]:List UInt8)) 3)) 0 0 ([]:List R6) ([]:List B5))) else .stuck) else .stuck) else .stuck))))
 | .h9 v14 v15 aE aN bH cB aP aQ aR aS aL aF=>(bif (decide (0<v15)) then (bif ((decide ((0:Int)<=0/\0<(v14.length:Int)))&&true) then (bif (Wq (rd v14 0)) then (bif (!(Ja (rd v14 0))) then (.ret [.nils,(.int .i64 12)]) else (bif (Yd (Za (rd v14 0))) then (bif (!((Xk (Za (rd v14 0))) == (rd v14 0))) then (.ret [.nils,(.int .i64 12)]) else (bif (decide ((Za (rd v14 0))<(-9999999))) then (.ret [.nils,(.int .i64 12)]) else (bif (decide ((Za (rd v14 0))>9999999)) then (.ret [.nils,(.int .i64 12)]) else (.to (.h13 v14 v15 aE aN bH cB (Za (rd v14 0)) aP aQ aR aS aL aF))))) else .stuck)) else .stuck) else .stuck) else (bif (decide (((aF++[(B5.mk ([]:List UInt8) 0 aP aQ aR aS aL)]).length +1+1)*(80+1)<=Ve)) then (bif (Nat.beq 7 7&&(Nat.beq 7 7&&decide (0+(aF++[(B5.mk ([]:List UInt8) 0 aP aQ aR aS aL)]).length <=(aF++[(B5.mk ([]:List UInt8) 0 aP aQ aR aS aL)]).length))) then (bif ((decide ((0:Int)<=1/\1<(aN.length:Int)))&&true) then (bif (decide ((aE.length+1+1)*(16+1)<=Ve)) then (bif (Nat.beq 1 1&&(Nat.beq 1 1&&decide (0+aE.length<=aE.length))) then (.to (.h7 (aE++([(rd aN 1)]:List (List UInt8))) (wrap .i64 (bH+1)) 0 0 0 0 ([]:List R6) (aF++[(B5.mk ([]:List UInt8) 0 aP aQ aR aS aL)]))) else .stuck) else .stuck) else .stuck) else .stuck) else .stuck))
 | .h10 v14 v15 bX aV bM bK bA aM aT aY aJ aH=>(bif (decide (0<v15)) then (bif ((decide ((0:Int)<=0/\0<(v14.length:Int)))&&true) then (bif (Wq (rd v14 0)) then (bif (!(Ja (rd v14 0))) then (.ret [.nils,(.int .i64 12)]) else (bif (Yd (Za (rd v14 0))) then (bif (!((Xk (Za (rd v14 0))) == (rd v14 0))) then (.ret [.nils,(.int .i64 12)]) else (bif (decide ((Za (rd v14 0))<(-9999999))) then (.ret [.nils,(.int .i64 12)]) else (bif (decide ((Za (rd v14 0))>9999999)) then (.ret [.nils,(.int .i64 12)]) else (.to (.h14 v14 v15 bX aV bM bK (Za (rd v14 0)) bA aM aT aY aJ aH))))) else .stuck)) else .stuck) else .stuck) else (bif ((decide (0<=(wrap .i64 ((((aH.length+1):Nat):Int) - 1))/\(wrap .i64 ((((aH.length+1):Nat):Int) - 1))<(((aH.length+1):Nat):Int)))&&true) then (bif (Nat.beq (0+(Int.toNat (wrap .i64 ((((aH.length+1):Nat):Int) - 1)))) aH.length) then (bif (Nat.beq 6 6&&((decide (0+aJ.length=aJ.length))&&decide ((aJ.length+1+1)*(48+1)<=Ve))) then (bif (decide ((0+(Int.toNat (wrap .i64 ((((aH.length+1):Nat):Int) - 1))))<(aH.length+1))) then (.to (.h7 aV (wrap .i64 (bM+1)) bA aM aT aY (aJ++[(R6.mk 0 0 0 0 0 0)]) aH)) else .stuck) else .stuck) else .stuck) else .stuck))
 | .h11 v9 v158 v159 v160 aD=>(bif (decide (v160<v159)) then (bif ((decide (0<=v160/\v160<(v158.length:Int)))&&true) then (bif (decide ((0+v160.toNat)<v158.length)) then (.to (.h15 (rd v158 (0+v160.toNat)) (wrap .i64 ((((rd v158 (0+v160.toNat)).length :Nat):Int) - 1)) (rd v158 (0+v160.toNat)) v9 v160 (rd v158 (0+v160.toNat)) (rd v158 (0+v160.toNat)) v158 v159 v160 (rd v158 (0+v160.toNat)) aD)) else .stuck) else .stuck) else (bif (Nat.beq 7 7&&(decide (0+v9.length<=v9.length)&&DB (Zz v9))) then (bif (Yk (Cf B5 (v9.length) (fun k=>(Zz v9) (0+k)))) then (bif ((Un (Cf B5 (v9.length) (fun k=>(Zz v9) (0+k)))) != 0) then (.ret [.nils,(.int .i64 (Un (Cf B5 (v9.length) (fun k=>(Zz v9) (0+k)))))]) else (.ret [(.dat v9.length (Zz v9)),(.int .i64 0)])) else .stuck) else .stuck))
 | .h12 =>(bif (decide (3<((((Zi (rd (Zi (Zu x0 ([10]:List UInt8)) ([10]:List UInt8)) 0) ([32]:List UInt8)).length - 2):Nat):Int))) then (bif ((decide ((0:Int)<=3/\3<((((Zi (rd (Zi (Zu x0 ([10]:List UInt8)) ([10]:List UInt8)) 0) ([32]:List UInt8)).length - 2):Nat):Int)))&&true) then (bif (Wq (rd (Zi (rd (Zi (Zu x0 ([10]:List UInt8)) ([10]:List UInt8)) 0) ([32]:List UInt8)) 5)) then (bif (!(Ja (rd (Zi (rd (Zi (Zu x0 ([10]:List UInt8)) ([10]:List UInt8)) 0) ([32]:List UInt8)) 5))) then (.ret [.nils,(.int .i64 12)]) else (bif (Yd (Za (rd (Zi (rd (Zi (Zu x0 ([10]:List UInt8)) ([10]:List UInt8)) 0) ([32]:List UInt8)) 5))) then (bif (!((Xk (Za (rd (Zi (rd (Zi (Zu x0 ([10]:List UInt8)) ([10]:List UInt8)) 0) ([32]:List UInt8)) 5))) == (rd (Zi (rd (Zi (Zu x0 ([10]:List UInt8)) ([10]:List UInt8)) 0) ([32]:List UInt8)) 5))) then (.ret [.nils,(.int .i64 12)]) else (bif (decide ((Za (rd (Zi (rd (Zi (Zu x0 ([10]:List UInt8)) ([10]:List UInt8)) 0) ([32]:List UInt8)) 5))<(-9999999))) then (.ret [.nils,(.int .i64 12)]) else (bif (decide ((Za (rd (Zi (rd (Zi (Zu x0 ([10]:List UInt8)) ([10]:List UInt8)) 0) ([32]:List UInt8)) 5))>9999999)) then (.ret [.nils,(.int .i64 12)]) else (.to (.h16))))) else .stuck)) else .stuck) else .stuck) else (bif (decide ((Za (rd (Zi (rd (Zi (Zu x0 ([10]:List UInt8)) ([10]:List UInt8)) 0) ([32]:List UInt8)) 2))<0)) then (.ret [.nils,(.int .i64 12)]) else (bif (decide ((Za (rd (Zi (rd (Zi (Zu x0 ([10]:List UInt8)) ([10]:List UInt8)) 0) ([32]:List UInt8)) 2))>23)) then (.ret [.nils,(.int .i64 12)]) else (bif (decide ((0+1+1)*(80+1)<=Ve)) then (bif ((decide ((0:Int)<=1/\1<(((Zi (rd (Zi (Zu x0 ([10]:List UInt8)) ([10]:List UInt8)) 0) ([32]:List UInt8)).length :Nat):Int)))&&true) then (bif (decide ((0+1+1)*(16+1)<=Ve)) then (.to (.h7 ([(rd (Zi (rd (Zi (Zu x0 ([10]:List UInt8)) ([10]:List UInt8)) 0) ([32]:List UInt8)) 1)]:List (List UInt8)) 1 (wrap IntKind.u8 (Za (rd (Zi (rd (Zi (Zu x0 ([10]:List UInt8)) ([10]:List UInt8)) 0) ([32]:List UInt8)) 2))) (Za (rd (Zi (rd (Zi (Zu x0 ([10]:List UInt8)) ([10]:List UInt8)) 0) ([32]:List UInt8)) 3)) (Za (rd (Zi (rd (Zi (Zu x0 ([10]:List UInt8)) ([10]:List UInt8)) 0) ([32]:List UInt8)) 4)) 0 ([]:List R6) ([]:List B5))) else .stuck) else .stuck) else .stuck))))
 | .h13 v14 v15 aE aN bH cB aD aP aQ aR aS aL aF=>(bif (decide (1<v15)) then (bif ((decide ((0:Int)<=1/\1<(v14.length:Int)))&&true) then (bif (Wq (rd v14 1)) then (bif (!(Ja (rd v14 1))) then (.ret [.nils,(.int .i64 12)]) else (bif (Yd (Za (rd v14 1))) then (bif (!((Xk (Za (rd v14 1))) == (rd v14 1))) then (.ret [.nils,(.int .i64 12)]) else (bif (decide ((Za (rd v14 1))<(-9999999))) then (.ret [.nils,(.int .i64 12)]) else (bif (decide ((Za (rd v14 1))>9999999)) then (.ret [.nils,(.int .i64 12)]) else (.to (.h17 v14 v15 aE aN bH cB aD (Za (rd v14 1)) aP aQ aR aS aL aF))))) else .stuck)) else .stuck) else .stuck) else (bif (decide (aD<0)) then (.ret [.nils,(.int .i64 12)]) else (bif (decide (aD>23)) then (.ret [.nils,(.int .i64 12)]) else (bif (decide (((aF++[(B5.mk ([]:List UInt8) 0 aP aQ aR aS aL)]).length +1+1)*(80+1)<=Ve)) then (bif (Nat.beq 7 7&&(Nat.beq 7 7&&decide (0+(aF++[(B5.mk ([]:List UInt8) 0 aP aQ aR aS aL)]).length <=(aF++[(B5.mk ([]:List UInt8) 0 aP aQ aR aS aL)]).length))) then (bif ((decide ((0:Int)<=1/\1<(aN.length:Int)))&&true) then (bif (decide ((aE.length+1+1)*(16+1)<=Ve)) then (bif (Nat.beq 1 1&&(Nat.beq 1 1&&decide (0+aE.length<=aE.length))) then (.to (.h7 (aE++([(rd aN 1)]:List (List UInt8))) (wrap .i64 (bH+1)) (wrap IntKind.u8 aD) 0 0 0 ([]:List R6) (aF++[(B5.mk ([]:List UInt8) 0 aP aQ aR aS aL)]))) else .stuck) else .stuck) else .stuck) else .stuck) else .stuck))))
 | .h14 v14 v15 bX aV bM bK aD bA aM aT aY aJ aH=>(bif (decide (1<v15)) then (bif ((decide ((0:Int)<=1/\1<(v14.length:Int)))&&true) then (bif (Wq (rd v14 1)) then (bif (!(Ja (rd v14 1))) then (.ret [.nils,(.int .i64 12)]) else (bif (Yd (Za (rd v14 1))) then (bif (!((Xk (Za (rd v14 1))) == (rd v14 1))) then (.ret [.nils,(.int .i64 12)]) else (bif (decide ((Za (rd v14 1))<(-9999999))) then (.ret [.nils,(.int .i64 12)]) else (bif (decide ((Za (rd v14 1))>9999999)) then (.ret [.nils,(.int .i64 12)]) else (.to (.h18 v14 v15 bX aV bM bK aD (Za (rd v14 1)) bA aM aT aY aJ aH))))) else .stuck)) else .stuck) else .stuck) else (bif ((decide (0<=(wrap .i64 ((((aH.length+1):Nat):Int) - 1))/\(wrap .i64 ((((aH.length+1):Nat):Int) - 1))<(((aH.length+1):Nat):Int)))&&true) then (bif (Nat.beq (0+(Int.toNat (wrap .i64 ((((aH.length+1):Nat):Int) - 1)))) aH.length) then (bif (Nat.beq 6 6&&((decide (0+aJ.length=aJ.length))&&decide ((aJ.length+1+1)*(48+1)<=Ve))) then (bif (decide ((0+(Int.toNat (wrap .i64 ((((aH.length+1):Nat):Int) - 1))))<(aH.length+1))) then (.to (.h7 aV (wrap .i64 (bM+1)) bA aM aT aY (aJ++[(R6.mk aD 0 0 0 0 0)]) aH)) else .stuck) else .stuck) else .stuck) else .stuck))
 | .h15 v0 v5 dT aB aA bB cG cK cX cY dO aD=>(bif (decide (v5>=0)) then (bif (decide (0<=v5/\v5<(v0.length:Int))) then (bif ((CY v0 v5.toNat) == 47) then (bif (decide (v5.toNat<=bB.length)) then (bif (decide (0<=v5)) then (bif (decide ((Int.toNat (wrap .i64 (v5+1)))<=bB.length)) then (bif (decide (0<=(wrap .i64 (v5+1)))) then (bif (!(Cr aD ((bB.drop 0).take v5.toNat))) then (.ret [.nils,(.int .i64 6)]) else (bif ((decide (0<=aA/\aA<(aB.length:Int)))&&true) then (bif (decide ((0+aA.toNat)<aB.length)) then (bif (!(Cr aD bB)) then (.to (.h11 ((aB.set (0+aA.toNat) (B5.mk (rd aB (0+aA.toNat)).n (getK 0 aD ((bB.drop 0).take v5.toNat)) (rd aB (0+aA.toNat)).t (rd aB (0+aA.toNat)).x (rd aB (0+aA.toNat)).y (rd aB (0+aA.toNat)).z (rd aB (0+aA.toNat)).s)).set (0+aA.toNat) (B5.mk ((bB.drop (Int.toNat (wrap .i64 (v5+1)))).take (bB.length - (Int.toNat (wrap .i64 (v5+1))))) (rd (aB.set (0+aA.toNat) (B5.mk (rd aB (0+aA.toNat)).n (getK 0 aD ((bB.drop 0).take v5.toNat)) (rd aB (0+aA.toNat)).t (rd aB (0+aA.toNat)).x (rd aB (0+aA.toNat)).y (rd aB (0+aA.toNat)).z (rd aB (0+aA.toNat)).s)) (0+aA.toNat)).a (rd (aB.set (0+aA.toNat) (B5.mk (rd aB (0+aA.toNat)).n (getK 0 aD ((bB.drop 0).take v5.toNat)) (rd aB (0+aA.toNat)).t (rd aB (0+aA.toNat)).x (rd aB (0+aA.toNat)).y (rd aB (0+aA.toNat)).z (rd aB (0+aA.toNat)).s)) (0+aA.toNat)).t (rd (aB.set (0+aA.toNat) (B5.mk (rd aB (0+aA.toNat)).n (getK 0 aD ((bB.drop 0).take v5.toNat)) (rd aB (0+aA.toNat)).t (rd aB (0+aA.toNat)).x (rd aB (0+aA.toNat)).y (rd aB (0+aA.toNat)).z (rd aB (0+aA.toNat)).s)) (0+aA.toNat)).x (rd (aB.set (0+aA.toNat) (B5.mk (rd aB (0+aA.toNat)).n (getK 0 aD ((bB.drop 0).take v5.toNat)) (rd aB (0+aA.toNat)).t (rd aB (0+aA.toNat)).x (rd aB (0+aA.toNat)).y (rd aB (0+aA.toNat)).z (rd aB (0+aA.toNat)).s)) (0+aA.toNat)).y (rd (aB.set (0+aA.toNat) (B5.mk (rd aB (0+aA.toNat)).n (getK 0 aD ((bB.drop 0).take v5.toNat)) (rd aB (0+aA.toNat)).t (rd aB (0+aA.toNat)).x (rd aB (0+aA.toNat)).y (rd aB (0+aA.toNat)).z (rd aB (0+aA.toNat)).s)) (0+aA.toNat)).z (rd (aB.set (0+aA.toNat) (B5.mk (rd aB (0+aA.toNat)).n (getK 0 aD ((bB.drop 0).take v5.toNat)) (rd aB (0+aA.toNat)).t (rd aB (0+aA.toNat)).x (rd aB (0+aA.toNat)).y (rd aB (0+aA.toNat)).z (rd aB (0+aA.toNat)).s)) (0+aA.toNat)).s)) cK cX (wrap .i64 (cY+1)) (Cs aD bB aA))) else (.to (.h11 ((aB.set (0+aA.toNat) (B5.mk (rd aB (0+aA.toNat)).n (getK 0 aD ((bB.drop 0).take v5.toNat)) (rd aB (0+aA.toNat)).t (rd aB (0+aA.toNat)).x (rd aB (0+aA.toNat)).y (rd aB (0+aA.toNat)).z (rd aB (0+aA.toNat)).s)).set (0+aA.toNat) (B5.mk ((bB.drop (Int.toNat (wrap .i64 (v5+1)))).take (bB.length - (Int.toNat (wrap .i64 (v5+1))))) (rd (aB.set (0+aA.toNat) (B5.mk (rd aB (0+aA.toNat)).n (getK 0 aD ((bB.drop 0).take v5.toNat)) (rd aB (0+aA.toNat)).t (rd aB (0+aA.toNat)).x (rd aB (0+aA.toNat)).y (rd aB (0+aA.toNat)).z (rd aB (0+aA.toNat)).s)) (0+aA.toNat)).a (rd (aB.set (0+aA.toNat) (B5.mk (rd aB (0+aA.toNat)).n (getK 0 aD ((bB.drop 0).take v5.toNat)) (rd aB (0+aA.toNat)).t (rd aB (0+aA.toNat)).x (rd aB (0+aA.toNat)).y (rd aB (0+aA.toNat)).z (rd aB (0+aA.toNat)).s)) (0+aA.toNat)).t (rd (aB.set (0+aA.toNat) (B5.mk (rd aB (0+aA.toNat)).n (getK 0 aD ((bB.drop 0).take v5.toNat)) (rd aB (0+aA.toNat)).t (rd aB (0+aA.toNat)).x (rd aB (0+aA.toNat)).y (rd aB (0+aA.toNat)).z (rd aB (0+aA.toNat)).s)) (0+aA.toNat)).x (rd (aB.set (0+aA.toNat) (B5.mk (rd aB (0+aA.toNat)).n (getK 0 aD ((bB.drop 0).take v5.toNat)) (rd aB (0+aA.toNat)).t (rd aB (0+aA.toNat)).x (rd aB (0+aA.toNat)).y (rd aB (0+aA.toNat)).z (rd aB (0+aA.toNat)).s)) (0+aA.toNat)).y (rd (aB.set (0+aA.toNat) (B5.mk (rd aB (0+aA.toNat)).n (getK 0 aD ((bB.drop 0).take v5.toNat)) (rd aB (0+aA.toNat)).t (rd aB (0+aA.toNat)).x (rd aB (0+aA.toNat)).y (rd aB (0+aA.toNat)).z (rd aB (0+aA.toNat)).s)) (0+aA.toNat)).z (rd (aB.set (0+aA.toNat) (B5.mk (rd aB (0+aA.toNat)).n (getK 0 aD ((bB.drop 0).take v5.toNat)) (rd aB (0+aA.toNat)).t (rd aB (0+aA.toNat)).x (rd aB (0+aA.toNat)).y (rd aB (0+aA.toNat)).z (rd aB (0+aA.toNat)).s)) (0+aA.toNat)).s)) cK cX (wrap .i64 (cY+1)) aD))) else .stuck) else .stuck)) else .stuck) else .stuck) else .stuck) else .stuck) else (.to (.h15 v0 (wrap .i64 (v5 - 1)) dT aB aA bB cG cK cX cY dO aD))) else .stuck) else (bif (!(Cr aD ([]:List UInt8))) then (.ret [.nils,(.int .i64 6)]) else (bif ((decide (0<=aA/\aA<(aB.length:Int)))&&true) then (bif (decide ((0+aA.toNat)<aB.length)) then (bif (!(Cr aD bB)) then (.to (.h11 ((aB.set (0+aA.toNat) (B5.mk (rd aB (0+aA.toNat)).n (getK 0 aD ([]:List UInt8)) (rd aB (0+aA.toNat)).t (rd aB (0+aA.toNat)).x (rd aB (0+aA.toNat)).y (rd aB (0+aA.toNat)).z (rd aB (0+aA.toNat)).s)).set (0+aA.toNat) (B5.mk cG (rd (aB.set (0+aA.toNat) (B5.mk (rd aB (0+aA.toNat)).n (getK 0 aD ([]:List UInt8)) (rd aB (0+aA.toNat)).t (rd aB (0+aA.toNat)).x (rd aB (0+aA.toNat)).y (rd aB (0+aA.toNat)).z (rd aB (0+aA.toNat)).s)) (0+aA.toNat)).a (rd (aB.set (0+aA.toNat) (B5.mk (rd aB (0+aA.toNat)).n (getK 0 aD ([]:List UInt8)) (rd aB (0+aA.toNat)).t (rd aB (0+aA.toNat)).x (rd aB (0+aA.toNat)).y (rd aB (0+aA.toNat)).z (rd aB (0+aA.toNat)).s)) (0+aA.toNat)).t (rd (aB.set (0+aA.toNat) (B5.mk (rd aB (0+aA.toNat)).n (getK 0 aD ([]:List UInt8)) (rd aB (0+aA.toNat)).t (rd aB (0+aA.toNat)).x (rd aB (0+aA.toNat)).y (rd aB (0+aA.toNat)).z (rd aB (0+aA.toNat)).s)) (0+aA.toNat)).x (rd (aB.set (0+aA.toNat) (B5.mk (rd aB (0+aA.toNat)).n (getK 0 aD ([]:List UInt8)) (rd aB (0+aA.toNat)).t (rd aB (0+aA.toNat)).x (rd aB (0+aA.toNat)).y (rd aB (0+aA.toNat)).z (rd aB (0+aA.toNat)).s)) (0+aA.toNat)).y (rd (aB.set (0+aA.toNat) (B5.mk (rd aB (0+aA.toNat)).n (getK 0 aD ([]:List UInt8)) (rd aB (0+aA.toNat)).t (rd aB (0+aA.toNat)).x (rd aB (0+aA.toNat)).y (rd aB (0+aA.toNat)).z (rd aB (0+aA.toNat)).s)) (0+aA.toNat)).z (rd (aB.set (0+aA.toNat) (B5.mk (rd aB (0+aA.toNat)).n (getK 0 aD ([]:List UInt8)) (rd aB (0+aA.toNat)).t (rd aB (0+aA.toNat)).x (rd aB (0+aA.toNat)).y (rd aB (0+aA.toNat)).z (rd aB (0+aA.toNat)).s)) (0+aA.toNat)).s)) cK cX (wrap .i64 (cY+1)) (Cs aD bB aA))) else (.to (.h11 ((aB.set (0+aA.toNat) (B5.mk (rd aB (0+aA.toNat)).n (getK 0 aD ([]:List UInt8)) (rd aB (0+aA.toNat)).t (rd aB (0+aA.toNat)).x (rd aB (0+aA.toNat)).y (rd aB (0+aA.toNat)).z (rd aB (0+aA.toNat)).s)).set (0+aA.toNat) (B5.mk cG (rd (aB.set (0+aA.toNat) (B5.mk (rd aB (0+aA.toNat)).n (getK 0 aD ([]:List UInt8)) (rd aB (0+aA.toNat)).t (rd aB (0+aA.toNat)).x (rd aB (0+aA.toNat)).y (rd aB (0+aA.toNat)).z (rd aB (0+aA.toNat)).s)) (0+aA.toNat)).a (rd (aB.set (0+aA.toNat) (B5.mk (rd aB (0+aA.toNat)).n (getK 0 aD ([]:List UInt8)) (rd aB (0+aA.toNat)).t (rd aB (0+aA.toNat)).x (rd aB (0+aA.toNat)).y (rd aB (0+aA.toNat)).z (rd aB (0+aA.toNat)).s)) (0+aA.toNat)).t (rd (aB.set (0+aA.toNat) (B5.mk (rd aB (0+aA.toNat)).n (getK 0 aD ([]:List UInt8)) (rd aB (0+aA.toNat)).t (rd aB (0+aA.toNat)).x (rd aB (0+aA.toNat)).y (rd aB (0+aA.toNat)).z (rd aB (0+aA.toNat)).s)) (0+aA.toNat)).x (rd (aB.set (0+aA.toNat) (B5.mk (rd aB (0+aA.toNat)).n (getK 0 aD ([]:List UInt8)) (rd aB (0+aA.toNat)).t (rd aB (0+aA.toNat)).x (rd aB (0+aA.toNat)).y (rd aB (0+aA.toNat)).z (rd aB (0+aA.toNat)).s)) (0+aA.toNat)).y (rd (aB.set (0+aA.toNat) (B5.mk (rd aB (0+aA.toNat)).n (getK 0 aD ([]:List UInt8)) (rd aB (0+aA.toNat)).t (rd aB (0+aA.toNat)).x (rd aB (0+aA.toNat)).y (rd aB (0+aA.toNat)).z (rd aB (0+aA.toNat)).s)) (0+aA.toNat)).z (rd (aB.set (0+aA.toNat) (B5.mk (rd aB (0+aA.toNat)).n (getK 0 aD ([]:List UInt8)) (rd aB (0+aA.toNat)).t (rd aB (0+aA.toNat)).x (rd aB (0+aA.toNat)).y (rd aB (0+aA.toNat)).z (rd aB (0+aA.toNat)).s)) (0+aA.toNat)).s)) cK cX (wrap .i64 (cY+1)) aD))) else .stuck) else .stuck)))
 | .h16 =>(bif (decide (4<((((Zi (rd (Zi (Zu x0 ([10]:List UInt8)) ([10]:List UInt8)) 0) ([32]:List UInt8)).length - 2):Nat):Int))) then (bif ((decide ((0:Int)<=4/\4<((((Zi (rd (Zi (Zu x0 ([10]:List UInt8)) ([10]:List UInt8)) 0) ([32]:List UInt8)).length - 2):Nat):Int)))&&true) then (bif (Wq (rd (Zi (rd (Zi (Zu x0 ([10]:List UInt8)) ([10]:List UInt8)) 0) ([32]:List UInt8)) 6)) then (bif (!(Ja (rd (Zi (rd (Zi (Zu x0 ([10]:List UInt8)) ([10]:List UInt8)) 0) ([32]:List UInt8)) 6))) then (.ret [.nils,(.int .i64 12)]) else (bif (Yd (Za (rd (Zi (rd (Zi (Zu x0 ([10]:List UInt8)) ([10]:List UInt8)) 0) ([32]:List UInt8)) 6))) then (bif (!((Xk (Za (rd (Zi (rd (Zi (Zu x0 ([10]:List UInt8)) ([10]:List UInt8)) 0) ([32]:List UInt8)) 6))) == (rd (Zi (rd (Zi (Zu x0 ([10]:List UInt8)) ([10]:List UInt8)) 0) ([32]:List UInt8)) 6))) then (.ret [.nils,(.int .i64 12)]) else (bif (decide ((Za (rd (Zi (rd (Zi (Zu x0 ([10]:List UInt8)) ([10]:List UInt8)) 0) ([32]:List UInt8)) 6))<(-9999999))) then (.ret [.nils,(.int .i64 12)]) else (bif (decide ((Za (rd (Zi (rd (Zi (Zu x0 ([10]:List UInt8)) ([10]:List UInt8)) 0) ([32]:List UInt8)) 6))>9999999)) then (.ret [.nils,(.int .i64 12)]) else .stuck))) else .stuck)) else .stuck) else .stuck) else (bif (decide ((Za (rd (Zi (rd (Zi (Zu x0 ([10]:List UInt8)) ([10]:List UInt8)) 0) ([32]:List UInt8)) 2))<0)) then (.ret [.nils,(.int .i64 12)]) else (bif (decide ((Za (rd (Zi (rd (Zi (Zu x0 ([10]:List UInt8)) ([10]:List UInt8)) 0) ([32]:List UInt8)) 2))>23)) then (.ret [.nils,(.int .i64 12)]) else (bif (decide ((0+1+1)*(80+1)<=Ve)) then (bif ((decide ((0:Int)<=1/\1<(((Zi (rd (Zi (Zu x0 ([10]:List UInt8)) ([10]:List UInt8)) 0) ([32]:List UInt8)).length :Nat):Int)))&&true) then (bif (decide ((0+1+1)*(16+1)<=Ve)) then (.to (.h7 ([(rd (Zi (rd (Zi (Zu x0 ([10]:List UInt8)) ([10]:List UInt8)) 0) ([32]:List UInt8)) 1)]:List (List UInt8)) 1 (wrap IntKind.u8 (Za (rd (Zi (rd (Zi (Zu x0 ([10]:List UInt8)) ([10]:List UInt8)) 0) ([32]:List UInt8)) 2))) (Za (rd (Zi (rd (Zi (Zu x0 ([10]:List UInt8)) ([10]:List UInt8)) 0) ([32]:List UInt8)) 3)) (Za (rd (Zi (rd (Zi (Zu x0 ([10]:List UInt8)) ([10]:List UInt8)) 0) ([32]:List UInt8)) 4)) (Za (rd (Zi (rd (Zi (Zu x0 ([10]:List UInt8)) ([10]:List UInt8)) 0) ([32]:List UInt8)) 5)) ([]:List R6) ([]:List B5))) else .stuck) else .stuck) else .stuck))))
 | .h17 v14 v15 aE aN bH cB aD aM aP aQ aR aS aL aF=>(bif (decide (2<v15)) then (bif ((decide ((0:Int)<=2/\2<(v14.length:Int)))&&true) then (bif (Wq (rd v14 2)) then (bif (!(Ja (rd v14 2))) then (.ret [.nils,(.int .i64 12)]) else (bif (Yd (Za (rd v14 2))) then (bif (!((Xk (Za (rd v14 2))) == (rd v14 2))) then (.ret [.nils,(.int .i64 12)]) else (bif (decide ((Za (rd v14 2))<(-9999999))) then (.ret [.nils,(.int .i64 12)]) else (bif (decide ((Za (rd v14 2))>9999999)) then (.ret [.nils,(.int .i64 12)]) else (.to (.h19 v14 v15 aE aN bH cB aD aM (Za (rd v14 2)) aP aQ aR aS aL aF))))) else .stuck)) else .stuck) else .stuck) else (bif (decide (aD<0)) then (.ret [.nils,(.int .i64 12)]) else (bif (decide (aD>23)) then (.ret [.nils,(.int .i64 12)]) else (bif (decide (((aF++[(B5.mk ([]:List UInt8) 0 aP aQ aR aS aL)]).length +1+1)*(80+1)<=Ve)) then (bif (Nat.beq 7 7&&(Nat.beq 7 7&&decide (0+(aF++[(B5.mk ([]:List UInt8) 0 aP aQ aR aS aL)]).length <=(aF++[(B5.mk ([]:List UInt8) 0 aP aQ aR aS aL)]).length))) then (bif ((decide ((0:Int)<=1/\1<(aN.length:Int)))&&true) then (bif (decide ((aE.length+1+1)*(16+1)<=Ve)) then (bif (Nat.beq 1 1&&(Nat.beq 1 1&&decide (0+aE.length<=aE.length))) then (.to (.h7 (aE++([(rd aN 1)]:List (List UInt8))) (wrap .i64 (bH+1)) (wrap IntKind.u8 aD) aM 0 0 ([]:List R6) (aF++[(B5.mk ([]:List UInt8) 0 aP aQ aR aS aL)]))) else .stuck) else .stuck) else .stuck) else .stuck) else .stuck))))
 | .h18 v14 v15 bX aV bM bK aD bG bA aM aT aY aJ aH=>(bif (decide (2<v15)) then (bif ((decide ((0:Int)<=2/\2<(v14.length:Int)))&&true) then (bif (Wq (rd v14 2)) then (bif (!(Ja (rd v14 2))) then (.ret [.nils,(.int .i64 12)]) else (bif (Yd (Za (rd v14 2))) then (bif (!((Xk (Za (rd v14 2))) == (rd v14 2))) then (.ret [.nils,(.int .i64 12)]) else (bif (decide ((Za (rd v14 2))<(-9999999))) then (.ret [.nils,(.int .i64 12)]) else (bif (decide ((Za (rd v14 2))>9999999)) then (.ret [.nils,(.int .i64 12)]) else (.to (.h20 v14 v15 bX aV bM bK aD bG (Za (rd v14 2)) bA aM aT aY aJ aH))))) else .stuck)) else .stuck) else .stuck) else (bif ((decide (0<=(wrap .i64 ((((aH.length+1):Nat):Int) - 1))/\(wrap .i64 ((((aH.length+1):Nat):Int) - 1))<(((aH.length+1):Nat):Int)))&&true) then (bif (Nat.beq (0+(Int.toNat (wrap .i64 ((((aH.length+1):Nat):Int) - 1)))) aH.length) then (bif (Nat.beq 6 6&&((decide (0+aJ.length=aJ.length))&&decide ((aJ.length+1+1)*(48+1)<=Ve))) then (bif (decide ((0+(Int.toNat (wrap .i64 ((((aH.length+1):Nat):Int) - 1))))<(aH.length+1))) then (.to (.h7 aV (wrap .i64 (bM+1)) bA aM aT aY (aJ++[(R6.mk aD bG 0 0 0 0)]) aH)) else .stuck) else .stuck) else .stuck) else .stuck))
 | .h19 v14 v15 aE aN bH cB aD aM aT aP aQ aR aS aL aF=>(bif (decide (3<v15)) then (bif ((decide ((0:Int)<=3/\3<(v14.length:Int)))&&true) then (bif (Wq (rd v14 3)) then (bif (!(Ja (rd v14 3))) then (.ret [.nils,(.int .i64 12)]) else (bif (Yd (Za (rd v14 3))) then (bif (!((Xk (Za (rd v14 3))) == (rd v14 3))) then (.ret [.nils,(.int .i64 12)]) else (bif (decide ((Za (rd v14 3))<(-9999999))) then (.ret [.nils,(.int .i64 12)]) else (bif (decide ((Za (rd v14 3))>9999999)) then (.ret [.nils,(.int .i64 12)]) else (.to (.h21 v14 v15 aE aN bH cB aD aM aT (Za (rd v14 3)) aP aQ aR aS aL aF))))) else .stuck)) else .stuck) else .stuck) else (bif (decide (aD<0)) then (.ret [.nils,(.int .i64 12)]) else (bif (decide (aD>23)) then (.ret [.nils,(.int .i64 12)]) else (bif (decide (((aF++[(B5.mk ([]:List UInt8) 0 aP aQ aR aS aL)]).length +1+1)*(80+1)<=Ve)) then (bif (Nat.beq 7 7&&(Nat.beq 7 7&&decide (0+(aF++[(B5.mk ([]:List UInt8) 0 aP aQ aR aS aL)]).length <=(aF++[(B5.mk ([]:List UInt8) 0 aP aQ aR aS aL)]).length))) then (bif ((decide ((0:Int)<=1/\1<(aN.length:Int)))&&true) then (bif (decide ((aE.length+1+1)*(16+1)<=Ve)) then (bif (Nat.beq 1 1&&(Nat.beq 1 1&&decide (0+aE.length<=aE.length))) then (.to (.h7 (aE++([(rd aN 1)]:List (List UInt8))) (wrap .i64 (bH+1)) (wrap IntKind.u8 aD) aM aT 0 ([]:List R6) (aF++[(B5.mk ([]:List UInt8) 0 aP aQ aR aS aL)]))) else .stuck) else .stuck) else .stuck) else .stuck) else .stuck))))
 | .h20 v14 v15 bX aV bM bK aD bG bN bA aM aT aY aJ aH=>(bif (decide (3<v15)) then (bif ((decide ((0:Int)<=3/\3<(v14.length:Int)))&&true) then (bif (Wq (rd v14 3)) then (bif (!(Ja (rd v14 3))) then (.ret [.nils,(.int .i64 12)]) else (bif (Yd (Za (rd v14 3))) then (bif (!((Xk (Za (rd v14 3))) == (rd v14 3))) then (.ret [.nils,(.int .i64 12)]) else (bif (decide ((Za (rd v14 3))<(-9999999))) then (.ret [.nils,(.int .i64 12)]) else (bif (decide ((Za (rd v14 3))>9999999)) then (.ret [.nils,(.int .i64 12)]) else (.to (.h22 v14 v15 bX aV bM bK aD bG bN (Za (rd v14 3)) bA aM aT aY aJ aH))))) else .stuck)) else .stuck) else .stuck) else (bif ((decide (0<=(wrap .i64 ((((aH.length+1):Nat):Int) - 1))/\(wrap .i64 ((((aH.length+1):Nat):Int) - 1))<(((aH.length+1):Nat):Int)))&&true) then (bif (Nat.beq (0+(Int.toNat (wrap .i64 ((((aH.length+1):Nat):Int) - 1)))) aH.length) then (bif (Nat.beq 6 6&&((decide (0+aJ.length=aJ.length))&&decide ((aJ.length+1+1)*(48+1)<=Ve))) then (bif (decide ((0+(Int.toNat (wrap .i64 ((((aH.length+1):Nat):Int) - 1))))<(aH.length+1))) then (.to (.h7 aV (wrap .i64 (bM+1)) bA aM aT aY (aJ++[(R6.mk aD bG bN 0 0 0)]) aH)) else .stuck) else .stuck) else .stuck) else .stuck))
 | .h21 v14 v15 aE aN bH cB aD aM aT aY aP aQ aR aS aL aF=>(bif (decide (4<v15)) then (bif ((decide ((0:Int)<=4/\4<(v14.length:Int)))&&true) then (bif (Wq (rd v14 4)) then (bif (!(Ja (rd v14 4))) then (.ret [.nils,(.int .i64 12)]) else (bif (Yd (Za (rd v14 4))) then (bif (!((Xk (Za (rd v14 4))) == (rd v14 4))) then (.ret [.nils,(.int .i64 12)]) else (bif (decide ((Za (rd v14 4))<(-9999999))) then (.ret [.nils,(.int .i64 12)]) else (bif (decide ((Za (rd v14 4))>9999999)) then (.ret [.nils,(.int .i64 12)]) else .stuck))) else .stuck)) else .stuck) else .stuck) else (bif (decide (aD<0)) then (.ret [.nils,(.int .i64 12)]) else (bif (decide (aD>23)) then (.ret [.nils,(.int .i64 12)]) else (bif (decide (((aF++[(B5.mk ([]:List UInt8) 0 aP aQ aR aS aL)]).length +1+1)*(80+1)<=Ve)) then (bif (Nat.beq 7 7&&(Nat.beq 7 7&&decide (0+(aF++[(B5.mk ([]:List UInt8) 0 aP aQ aR aS aL)]).length <=(aF++[(B5.mk ([]:List UInt8) 0 aP aQ aR aS aL)]).length))) then (bif ((decide ((0:Int)<=1/\1<(aN.length:Int)))&&true) then (bif (decide ((aE.length+1+1)*(16+1)<=Ve)) then (bif (Nat.beq 1 1&&(Nat.beq 1 1&&decide (0+aE.length<=aE.length))) then (.to (.h7 (aE++([(rd aN 1)]:List (List UInt8))) (wrap .i64 (bH+1)) (wrap IntKind.u8 aD) aM aT aY ([]:List R6) (aF++[(B5.mk ([]:List UInt8) 0 aP aQ aR aS aL)]))) else .stuck) else .stuck) else .stuck) else .stuck) else .stuck))))
 | .h22 v14 v15 bX aV bM bK aD bG bN bV bA aM aT aY aJ aH=>(bif (decide (4<v15)) then (bif ((decide ((0:Int)<=4/\4<(v14.length:Int)))&&true) then (bif (Wq (rd v14 4)) then (bif (!(Ja (rd v14 4))) then (.ret [.nils,(.int .i64 12)]) else (bif (Yd (Za (rd v14 4))) then (bif (!((Xk (Za (rd v14 4))) == (rd v14 4))) then (.ret [.nils,(.int .i64 12)]) else (bif (decide ((Za (rd v14 4))<(-9999999))) then (.ret [.nils,(.int .i64 12)]) else (bif (decide ((Za (rd v14 4))>9999999)) then (.ret [.nils,(.int .i64 12)]) else (.to (.h23 v14 v15 bX aV bM bK aD bG bN bV (Za (rd v14 4)) bA aM aT aY aJ aH))))) else .stuck)) else .stuck) else .stuck) else (bif ((decide (0<=(wrap .i64 ((((aH.length+1):Nat):Int) - 1))/\(wrap .i64 ((((aH.length+1):Nat):Int) - 1))<(((aH.length+1):Nat):Int)))&&true) then (bif (Nat.beq (0+(Int.toNat (wrap .i64 ((((aH.length+1):Nat):Int) - 1)))) aH.length) then (bif (Nat.beq 6 6&&((decide (0+aJ.length=aJ.length))&&decide ((aJ.length+1+1)*(48+1)<=Ve))) then (bif (decide ((0+(Int.toNat (wrap .i64 ((((aH.length+1):Nat):Int) - 1))))<(aH.length+1))) then (.to (.h7 aV (wrap .i64 (bM+1)) bA aM aT aY (aJ++[(R6.mk aD bG bN bV 0 0)]) aH)) else .stuck) else .stuck) else .stuck) else .stuck))
 | .h23 v14 v15 bX aV bM bK aD bG bN bV cR bA aM aT aY aJ aH=>(bif (decide (5<v15)) then (bif ((decide ((0:Int)<=5/\5<(v14.length:Int)))&&true) then (bif (Wq (rd v14 5)) then (bif (!(Ja (rd v14 5))) then (.ret [.nils,(.int .i64 12)]) else (bif (Yd (Za (rd v14 5))) then (bif (!((Xk (Za (rd v14 5))) == (rd v14 5))) then (.ret [.nils,(.int .i64 12)]) else (bif (decide ((Za (rd v14 5))<(-9999999))) then (.ret [.nils,(.int .i64 12)]) else (bif (decide ((Za (rd v14 5))>9999999)) then (.ret [.nils,(.int .i64 12)]) else (.to (.h24 v14 v15 bX aV bM bK aD bG bN bV cR (Za (rd v14 5)) bA aM aT aY aJ aH))))) else .stuck)) else .stuck) else .stuck) else (bif ((decide (0<=(wrap .i64 ((((aH.length+1):Nat):Int) - 1))/\(wrap .i64 ((((aH.length+1):Nat):Int) - 1))<(((aH.length+1):Nat):Int)))&&true) then (bif (Nat.beq (0+(Int.toNat (wrap .i64 ((((aH.length+1):Nat):Int) - 1)))) aH.length) then (bif (Nat.beq 6 6&&((decide (0+aJ.length=aJ.length))&&decide ((aJ.length+1+1)*(48+1)<=Ve))) then (bif (decide ((0+(Int.toNat (wrap .i64 ((((aH.length+1):Nat):Int) - 1))))<(aH.length+1))) then (.to (.h7 aV (wrap .i64 (bM+1)) bA aM aT aY (aJ++[(R6.mk aD bG bN bV cR 0)]) aH)) else .stuck) else .stuck) else .stuck) else .stuck))
 | .h24 v14 v15 bX aV bM bK aD bG bN bV cR dH bA aM aT aY aJ aH=>(bif (decide (6<v15)) then (bif ((decide ((0:Int)<=6/\6<(v14.length:Int)))&&true) then (bif (Wq (rd v14 6)) then (bif (!(Ja (rd v14 6))) then (.ret [.nils,(.int .i64 12)]) else (bif (Yd (Za (rd v14 6))) then (bif (!((Xk (Za (rd v14 6))) == (rd v14 6))) then (.ret [.nils,(.int .i64 12)]) else (bif (decide ((Za (rd v14 6))<(-9999999))) then (.ret [.nils,(.int .i64 12)]) else (bif (decide ((Za (rd v14 6))>9999999)) then (.ret [.nils,(.int .i64 12)]) else .stuck))) else .stuck)) else .stuck) else .stuck) else (bif ((decide (0<=(wrap .i64 ((((aH.length+1):Nat):Int) - 1))/\(wrap .i64 ((((aH.length+1):Nat):Int) - 1))<(((aH.length+1):Nat):Int)))&&true) then (bif (Nat.beq (0+(Int.toNat (wrap .i64 ((((aH.length+1):Nat):Int) - 1)))) aH.length) then (bif (Nat.beq 6 6&&((decide (0+aJ.length=aJ.length))&&decide ((aJ.length+1+1)*(48+1)<=Ve))) then (bif (decide ((0+(Int.toNat (wrap .i64 ((((aH.length+1):Nat):Int) - 1))))<(aH.length+1))) then (.to (.h7 aV (wrap .i64 (bM+1)) bA aM aT aY (aJ++[(R6.mk aD bG bN bV cR dH)]) aH)) else .stuck) else .stuck) else .stuck) else .stuck))
def L6 (x0:List UInt8):Xj CJ:=(bif (x0 == ([]:List UInt8)) then (.to (.h0)) else (bif (Qz x0 ([10]:List UInt8)) then (bif (Jp (Zu x0 ([10]:List UInt8)) ([10]:List UInt8)) then (.to (.h1 0 0)) else .stuck) else .stuck))
theorem w9p (x0:List UInt8): ∀s,Wp prog (Zy prog 12) (NH x0) (NH x0 s) (Zc x0 s)
 | .h0 =>(lb (fun k0=>(lr 213 12 [1,1,1,1,0,1,0,0] 1 10 [(2,.nils),(3,(ii 4))] (sl Zb 24 [] (b8 [2,3]) b7 (bl 4 14) (tt k0 nn)))) (fun k0=>(sl Zb 45 [] ⟨[],[],Sg,So⟩ b7 (bl 5 0) (tt k0 nn))))
 | .h1 v6 v37=>(lb (fun k0=>(lo fun aG=>let a:=ww aG (tt k0 nn);(lb (fun k1=>(lo fun bJ=>(lb (fun k2=>(sl Zb 66 [] ⟨[],[],XJ,XI⟩ b7 (CE 8 []) (tt k2 (pp (pp nn (pp nn (pp (xG (decide (5<=(rd (Uz x0) (tn v37)).length))) (xG (decide (0<=5)))))) (tt k1 a))))) (fun k2=>(sl Zb 62 [] ⟨[],[],XJ,XI⟩ b7 (CE 7 [false]) (tt k2 (pp (pp nn (pp nn (pp (xG (decide (5<=(rd (Uz x0) (tn v37)).length))) (xG (decide (0<=5)))))) (tt k1 a)))))))) (fun k1=>(sl Zb 62 [] ⟨[],[],XJ,XI⟩ b7 (bl 8 1) (tt k1 a)))))) (fun k0=>(lb (fun k1=>(lr 213 12 [1,1,1,1,0,1,0,0] 1 10 [(2,.nils),(3,(ii 4))] (sl Zb 24 [] (b8 [2,3]) b7 (bl 4 14) (tt k1 (tt k0 nn))))) (fun k1=>let b:=tt k1 (tt k0 nn);(lb (fun k2=>(lr 213 12 [1,1,1,1,0,1,0,0] 1 10 [(2,.nils),(3,(ii 4))] (sl Zb 24 [] (b8 [2,3]) b7 (bl 4 8) (tt k2 b)))) (fun k2=>(lb (fun k3=>(lr 213 12 [1,1,1,1,1,0,1,0,0] 1 10 [(2,.nils),(3,(ii 12))] (sl Zb 32 [] (b8 [2,3]) b7 (bl 5 16) (tt k3 (tt k2 b))))) (fun k3=>(sl Zb 45 [] ⟨[],[],Sf,Sn⟩ b7 (bl 5 0) (tt k3 (tt k2 b)))))))))))
 | .h2 =>(sl Zb 23 [] ⟨[0],[],KN,KO⟩ b7 [false] nn)
 | .h3 =>(lb (fun k0=>(lo fun aG=>(lo fun aU=>(lo fun cI=>let a:=ww cI (ww aU (ww aG (tt k0 nn)));(lb (fun k1=>(lb (fun k2=>(lo fun cS=>let c:=ww cS (tt k2 (tt k1 a));(lb (fun k3=>(lr 213 12 [1,1,1,1,1,1,1,1,0,1,0,0,1,1,0,0,1,1,0,1,0,1,1,0,1,0,0] 1 10 [(2,.nils),(3,(ii 12))] (sl Zb 90 [] (b8 [2,3]) b7 (CE 29 []) (tt k3 c)))) (fun k3=>(lo fun cU=>let b:=ww cU (ww cS (tt k3 c));(lb (fun k4=>(lr 213 12 [1,1,1,1,1,1,1,1,0,1,0,0,1,1,0,0,1,1,0,1,0,1,1,0,1,0,0] 1 10 [(2,.nils),(3,(ii 12))] (sl Zb 90 [] (b8 [2,3]) b7 (CE 5 (bl 24 16777184)) (tt k4 b)))) (fun k4=>(lo fun dI=>(lo fun dY=>(lb (fun k5=>(lr 213 12 [1,1,1,1,1,1,1,1,0,1,0,0,1,1,0,0,1,1,0,1,0,1,1,0,1,0,0] 1 10 [(2,.nils),(3,(ii 12))] (sl Zb 109 [] (b8 [2,3]) b7 (CE 5 (bl 25 32768000)) (tt k5 (pp (pp nn (pp nn (pp (xG (decide ((Yu x0).length <=(Yu x0).length)) (Aa (An _))) (pp (xG (decide (2<=(Yu x0).length))) (xG (Gi (Yu x0).length (Zz (Yu x0)) 1)))))) (tt k4 b)))))) (fun k5=>(sl Zb 97 [] ⟨[2,1,0],[],Se,Sm⟩ b7 (CE 5 (bl 19 0)) (tt k5 (pp (pp nn (pp nn (pp (xG (decide ((Yu x0).length <=(Yu x0).length)) (Aa (An _))) (pp (xG (decide (2<=(Yu x0).length))) (xG (Gi (Yu x0).length (Zz (Yu x0)) 1)))))) (tt k4 b))))))))))))))) (fun k2=>let d:=ww cI (tt k2 (tt k1 a));(lb (fun k3=>(lr 213 12 [1,1,1,1,1,1,1,1,0,1,0,0,1,1,0,0,1,1,0,1,1,1,1,0] 1 10 [(2,.nils),(3,(ii 12))] (sl Zb 55 [] (b8 [2,3]) b7 (CE 4 (bl 5 14)) (tt k3 d)))) (fun k3=>(lr 213 12 [1,1,1,1,1,1,1,1,0,1,0,0,1,1,0,0,1,1,0,1,1,1,1,0] 1 10 [(2,.nils),(3,(ii 12))] (sl Zb 55 [] (b8 [2,3]) b7 (CE 4 (bl 5 0)) (tt k3 d)))))))) (fun k1=>let e:=ww cI (tt k1 a);(lb (fun k2=>(lr 213 12 [1,1,1,1,1,1,1,1,0,1,0,0,1,1,0,0,1,1,0,1,1,1,1,0] 1 10 [(2,.nils),(3,(ii 12))] (sl Zb 55 [] (b8 [2,3]) b7 (bl 9 225) (tt k2 e)))) (fun k2=>(lr 213 12 [1,1,1,1,1,1,1,1,0,1,0,0,1,1,0,0,1,1,0,1,1,1,1,0] 1 10 [(2,.nils),(3,(ii 12))] (sl Zb 55 [] (b8 [2,3]) b7 (bl 9 1) (tt k2 e))))))))))) (fun k0=>(sl Zb 23 [] ⟨[0],[],KN,KO⟩ b7 [false] (tt k0 nn))))
 | .h4 =>(lo fun cO=>(lb (fun k0=>(lr 213 12 [1,1,1,1,1,1,1,1,1,1,1,0,1,1,0,0] 1 10 [(2,.nils),(3,(ii (Un ([]:List B5))))] (sl Zb 26 [] (b8 [2,3]) b7 (bl 2 2) (tt k0 (pp (pp (xI B5 0 (fun _=>[])) (xw cO)) nn))))) (fun k0=>(lr 213 3 [1,1,1,1,1,1,0] 1 10 [(2,.nils),(3,(ii 0))] (sl Zb 27 [] (b8 [2,3]) b7 (bl 2 0) (tt k0 (pp (pp (xI B5 0 (fun _=>[])) (xw cO)) nn)))))))
 | .h5 =>(lb (fun k0=>(lo fun aG=>(lo fun aU=>let c:=ww aU (ww aG (tt k0 nn));(lb (fun k1=>(lr 213 12 [1,1,1,1,1,1,1,1,0,1,0,0,1,1,0,0,1,1,0,1,0,1,1,0,1,0,0] 1 10 [(2,.nils),(3,(ii 12))] (sl Zb 70 [] (b8 [2,3]) b7 (CE 10 (bl 6 62)) (tt k1 c)))) (fun k1=>(lo fun bJ=>let a:=ww bJ (tt k1 c);(lb (fun k2=>(lr 213 12 [1,1,1,1,1,1,1,1,0,1,0,0,1,1,0,0,1,1,0,1,0,1,1,0,1,0,0] 1 10 [(2,.nils),(3,(ii 12))] (sl Zb 70 [] (b8 [2,3]) b7 (bl 16 64481) (tt k2 a)))) (fun k2=>(lb (fun k3=>(lr 213 12 [1,1,1,1,1,1,1,1,0,1,0,0,1,1,0,0,1,1,0,1,0,1,1,0,1,0,0] 1 10 [(2,.nils),(3,(ii 12))] (sl Zb 70 [] (b8 [2,3]) b7 (bl 16 64385) (tt k3 (tt k2 a))))) (fun k3=>let d:=tt k3 (tt k2 a);(lb (fun k4=>(lr 213 12 [1,1,1,1,1,1,1,1,0,1,0,0,1,1,0,0,1,1,0,1,0,1,1,0,1,0,0] 1 10 [(2,.nils),(3,(ii 12))] (sl Zb 70 [] (b8 [2,3]) b7 (bl 16 64001) (tt k4 d)))) (fun k4=>(sl Zb 64 [] ⟨[0,1,2],[],Sd,Sl⟩ b7 (bl 10 1) (tt k4 d)))))))))))))) (fun k0=>(lo fun o0=>(lo fun o1=>(lo fun o2=>let b:=xL 1 ([(rd (Yu x0) 1)]:List (List UInt8)).length;let e:=rd (Yu x0) 1;let f:=List UInt8;(sl Zb 41 [(79,6,Zz ([]:List R6))] ⟨[3,4,5],[],Dy,Dx⟩ ⟨[(10,.len ([e]:List f).length)],[.rws (.one ([]:List B5).length [(.str []),(ii 0),(.int .u8 0),(ii 0),(ii 0),(ii 0),(.sla 2 6 0 ([]:List R6).length (.un 6))] (.flat Gb)),.rowed 1 ([e]:List f).length (Ga x0),.keep],[]⟩ (bl 7 0) (pp b (pp (xG (DT 1 (Yx (fun _=>[]) 0 (fun k=>([(.str []),(ii 0),(.int .u8 0),(ii 0),(ii 0),(ii 0),.nils].drop (k*7)).take 7)) (CK.get (.one ([]:List B5).length [(.str []),(ii 0),(.int .u8 0),(ii 0),(ii 0),(ii 0),(.sla 2 6 0 ([]:List R6).length (.un 6))] (.flat Gb)))) QT) (pp b (pp (xS 1 (Yx (fun _=>[]) 0 (fun k=>([(.str (rd (Yu x0) 1))].drop (k*1)).take 1)) (Ga x0)) (pp (pp (xF (Yx (fun _=>[]) 0 (fun k=>([(.str []),(ii 0),(.int .u8 0),(ii 0),(ii 0),(ii 0),.nils].drop (k*7)).take 7))) (pp (xF (Yx (fun _=>[]) 0 (fun k=>([(.str (rd (Yu x0) 1))].drop (k*1)).take 1))) (fl ([]:List R6) nn))) (pp (pp nn (pp (xG (Kt 1 1 (fun k=>([(.str (rd (Yu x0) 1))].drop (k*1)).take 1)) (Wk (by rfl) (by rfl))) (xw o2))) (ww o1 (pp (pp nn (pp (xG (Kt 7 1 (fun k=>([(.str []),(ii 0),(.int .u8 0),(ii 0),(ii 0),(ii 0),.nils].drop (k*7)).take 7)) (Wk (by rfl) (by rfl))) (xw o0))) (tt k0 nn)))))))))))))))
 | .h6 =>(lb (fun k0=>(lo fun aG=>(lo fun aU=>let c:=ww aU (ww aG (tt k0 nn));(lb (fun k1=>(lr 213 12 [1,1,1,1,1,1,1,1,0,1,0,0,1,1,0,0,1,1,0,1,0,1,1,0,1,0,0] 1 10 [(2,.nils),(3,(ii 12))] (sl Zb 70 [] (b8 [2,3]) b7 (CE 10 (bl 6 62)) (tt k1 c)))) (fun k1=>(lo fun bJ=>let a:=ww bJ (tt k1 c);(lb (fun k2=>(lr 213 12 [1,1,1,1,1,1,1,1,0,1,0,0,1,1,0,0,1,1,0,1,0,1,1,0,1,0,0] 1 10 [(2,.nils),(3,(ii 12))] (sl Zb 70 [] (b8 [2,3]) b7 (bl 16 64481) (tt k2 a)))) (fun k2=>(lb (fun k3=>(lr 213 12 [1,1,1,1,1,1,1,1,0,1,0,0,1,1,0,0,1,1,0,1,0,1,1,0,1,0,0] 1 10 [(2,.nils),(3,(ii 12))] (sl Zb 70 [] (b8 [2,3]) b7 (bl 16 64385) (tt k3 (tt k2 a))))) (fun k3=>let e:=tt k3 (tt k2 a);(lb (fun k4=>(lr 213 12 [1,1,1,1,1,1,1,1,0,1,0,0,1,1,0,0,1,1,0,1,0,1,1,0,1,0,0] 1 10 [(2,.nils),(3,(ii 12))] (sl Zb 70 [] (b8 [2,3]) b7 (bl 16 64001) (tt k4 e)))) (fun k4=>(sl Zb 64 [] ⟨[0,1,2],[],Sc,Sk⟩ b7 (bl 10 1) (tt k4 e)))))))))))))) (fun k0=>(lb (fun k1=>(lr 213 12 [1,1,1,1,1,1,1,1,0,1,0,0,1,1,0,0,1,1,0,1,0,1,1,0,1,0,0] 1 10 [(2,.nils),(3,(ii 12))] (sl Zb 29 [] (b8 [2,3]) b7 (bl 7 112) (tt k1 (tt k0 nn))))) (fun k1=>let d:=tt k1 (tt k0 nn);(lb (fun k2=>(lr 213 12 [1,1,1,1,1,1,1,1,0,1,0,0,1,1,0,0,1,1,0,1,0,1,1,0,1,0,0] 1 10 [(2,.nils),(3,(ii 12))] (sl Zb 29 [] (b8 [2,3]) b7 (bl 7 64) (tt k2 d)))) (fun k2=>(lo fun o0=>(lo fun o1=>(lo fun o2=>let b:=xL 1 ([(rd (Yu x0) 1)]:List (List UInt8)).length;let f:=rd (Yu x0) 1;let g:=List UInt8;(sl Zb 41 [(79,6,Zz ([]:List R6))] ⟨[3,4,5],[],Dy,Dx⟩ ⟨[(10,.len ([f]:List g).length)],[.rws (.one ([]:List B5).length [(.str []),(ii 0),(.int .u8 (Up x0)),(ii 0),(ii 0),(ii 0),(.sla 2 6 0 ([]:List R6).length (.un 6))] (.flat Gb)),.rowed 1 ([f]:List g).length (Ga x0),.keep],[]⟩ (bl 7 0) (pp b (pp (xG (DT 1 (Yx (fun _=>[]) 0 (fun k=>([(.str []),(ii 0),(.int .u8 (Up x0)),(ii 0),(ii 0),(ii 0),.nils].drop (k*7)).take 7)) (CK.get (.one ([]:List B5).length [(.str []),(ii 0),(.int .u8 (Up x0)),(ii 0),(ii 0),(ii 0),(.sla 2 6 0 ([]:List R6).length (.un 6))] (.flat Gb)))) QT) (pp b (pp (xS 1 (Yx (fun _=>[]) 0 (fun k=>([(.str (rd (Yu x0) 1))].drop (k*1)).take 1)) (Ga x0)) (pp (pp (xF (Yx (fun _=>[]) 0 (fun k=>([(.str []),(ii 0),(.int .u8 (Up x0)),(ii 0),(ii 0),(ii 0),.nils].drop (k*7)).take 7))) (pp (xF (Yx (fun _=>[]) 0 (fun k=>([(.str (rd (Yu x0) 1))].drop (k*1)).take 1))) (fl ([]:List R6) nn))) (pp (pp nn (pp (xG (Kt 1 1 (fun k=>([(.str (rd (Yu x0) 1))].drop (k*1)).take 1)) (Wk (by rfl) (by rfl))) (xw o2))) (ww o1 (pp (pp nn (pp (xG (Kt 7 1 (fun k=>([(.str []),(ii 0),(.int .u8 (Up x0)),(ii 0),(ii 0),(ii 0),.nils].drop (k*7)).take 7)) (Wk (by rfl) (by rfl))) (xw o0))) (tt k2 d)))))))))))))))))))
 | .h7 v10 v57 bW cE cM cN cH bY=>let s:=fl v10 nn;(lb (fun k0=>(lo fun aG=>(lo fun aU=>(lo fun cI=>let a:=ww cI (ww aU (ww aG (tt k0 nn)));let c:=Vf (Yn x0 v57) 1 (Vc x0 v57);let m:=fl bY (fl cH s);let n:=YQ x0 v57;(lb (fun k1=>(lb (fun k2=>(lo fun cS=>let r:=ww cS (tt k2 (tt k1 a));(lb (fun k3=>(lr 213 12 [1,1,1,1,1,1,1,1,0,1,0,0,1,1,0,0,1,1,0,1,0,1,1,0,1,0,0] 1 10 [(2,.nils),(3,(ii 12))] (sl Zb 90 [] (b8 [2,3]) b7 (CE 29 []) (tt k3 r)))) (fun k3=>(lo fun cU=>let h:=ww cU (ww cS (tt k3 r));(lb (fun k4=>(lr 213 12 [1,1,1,1,1,1,1,1,0,1,0,0,1,1,0,0,1,1,0,1,0,1,1,0,1,0,0] 1 10 [(2,.nils),(3,(ii 12))] (sl Zb 90 [] (b8 [2,3]) b7 (CE 5 (bl 24 16777184)) (tt k4 h)))) (fun k4=>(lo fun dI=>(lo fun dY=>(lb (fun k5=>(lr 213 12 [1,1,1,1,1,1,1,1,0,1,0,0,1,1,0,0,1,1,0,1,0,1,1,0,1,0,0] 1 10 [(2,.nils),(3,(ii 12))] (sl Zb 109 [] (b8 [2,3]) b7 (CE 5 (bl 25 32768000)) (tt k5 (pp (pp nn (pp nn (pp (xG (decide ((Yn x0 v57).length <=(Yn x0 v57).length)) (Aa (An _))) (pp (xG (decide (2<=(Yn x0 v57).length))) (xG (Gi (Yn x0 v57).length (Kh x0 v57) 1)))))) (tt k4 h)))))) (fun k5=>let j:=xS (QY x0 v57) (fun k=>(Kh x0 v57) (2+k)) (x3j x0 v57);let l:=xL (QY x0 v57) (Vf (Yn x0 v57) 2 (QY x0 v57)).length;let q:=Vf (Yn x0 v57) 2 (QY x0 v57);let v:=x3j x0 v57;(sl Zb 97 [] ⟨[5,4,3,0,2,1],[],Sb,Sj⟩ ⟨[(14,.list q.length v)],[],[[(86,.list q.length v)]]⟩ (CE 5 (bl 19 0)) (pp l (pp j (pp l (pp j (pp m (tt k5 (pp (pp nn (pp nn (pp (xG (decide ((Yn x0 v57).length <=(Yn x0 v57).length)) (Aa (An _))) (pp (xG (decide (2<=(Yn x0 v57).length))) (xG (Gi (Yn x0 v57).length (Kh x0 v57) 1)))))) (tt k4 h)))))))))))))))))))) (fun k2=>let i:=ww cI (tt k2 (tt k1 a));(lb (fun k3=>(lb (fun k4=>(lo fun dI=>(lo fun dY=>let t:=tt k4 (tt k3 i);(lb (fun k5=>(lr 213 12 [1,1,1,1,1,1,1,1,0,1,0,0,1,1,0,0,1,1,0,1,1,1,0,1,0,1,0,0] 1 10 [(2,.nils),(3,(ii 12))] (sl Zb 125 [] (b8 [2,3]) b7 (CE 4 (bl 7 126)) (tt k5 (pp (pp nn (pp nn (pp (xG (decide ((Yn x0 v57).length <=(Yn x0 v57).length)) (Aa (An _))) (pp (xG (decide (1<=(Yn x0 v57).length))) (xG (Gi (Yn x0 v57).length (Kh x0 v57) 1)))))) t))))) (fun k5=>let d:=xS (Vc x0 v57) (fun k=>(Kh x0 v57) (1+k)) (YQ x0 v57);let f:=xL (Vc x0 v57) (Vf (Yn x0 v57) 1 (Vc x0 v57)).length;(sl Zb 101 [] ⟨[4,3,0,2,1],[],u7l,u7n⟩ ⟨[(14,.list c.length n)],[],[[(4,.list c.length n)],[(134,.list c.length n)]]⟩ (CE 4 (bl 6 30)) (pp f (pp d (pp f (pp d (pp f (pp d (pp m (tt k5 (pp (pp nn (pp nn (pp (xG (decide ((Yn x0 v57).length <=(Yn x0 v57).length)) (Aa (An _))) (pp (xG (decide (1<=(Yn x0 v57).length))) (xG (Gi (Yn x0 v57).length (Kh x0 v57) 1)))))) t))))))))))))))) (fun k4=>(lr 213 12 [1,1,1,1,1,1,1,1,0,1,0,0,1,1,0,0,1,1,0,1,1,1,1,0] 1 10 [(2,.nils),(3,(ii 12))] (sl Zb 55 [] (b8 [2,3]) b7 (CE 4 (bl 5 14)) (tt k4 (tt k3 i))))))) (fun k3=>(lr 213 12 [1,1,1,1,1,1,1,1,0,1,0,0,1,1,0,0,1,1,0,1,1,1,1,0] 1 10 [(2,.nils),(3,(ii 12))] (sl Zb 55 [] (b8 [2,3]) b7 (CE 4 (bl 5 0)) (tt k3 i)))))))) (fun k1=>let u:=ww cI (tt k1 a);(lb (fun k2=>let p:=tt k2 u;(lb (fun k3=>(lo fun cU=>(lo fun dS=>(lb (fun k4=>(lr 213 12 [1,1,1,1,1,1,1,1,0,1,0,0,1,1,0,0,1,1,0,1,1,1,0,1,0,1,0,0] 1 10 [(2,.nils),(3,(ii 12))] (sl Zb 125 [] (b8 [2,3]) b7 (bl 11 2017) (tt k4 (pp (pp nn (pp nn (pp (xG (decide ((Yn x0 v57).length <=(Yn x0 v57).length)) (Aa (An _))) (pp (xG (decide (1<=(Yn x0 v57).length))) (xG (Gi (Yn x0 v57).length (Kh x0 v57) 1)))))) (tt k3 p)))))) (fun k4=>let e:=xS (Vc x0 v57) (fun k=>(Kh x0 v57) (1+k)) (YQ x0 v57);let g:=xL (Vc x0 v57) (Vf (Yn x0 v57) 1 (Vc x0 v57)).length;(sl Zb 101 [] ⟨[4,3,0,2,1],[],u7l,u7n⟩ ⟨[(14,.list c.length n)],[],[[(4,.list c.length n)],[(134,.list c.length n)]]⟩ (bl 10 481) (pp g (pp e (pp g (pp e (pp g (pp e (pp m (tt k4 (pp (pp nn (pp nn (pp (xG (decide ((Yn x0 v57).length <=(Yn x0 v57).length)) (Aa (An _))) (pp (xG (decide (1<=(Yn x0 v57).length))) (xG (Gi (Yn x0 v57).length (Kh x0 v57) 1)))))) (tt k3 p)))))))))))))))) (fun k3=>(lr 213 12 [1,1,1,1,1,1,1,1,0,1,0,0,1,1,0,0,1,1,0,1,1,1,1,0] 1 10 [(2,.nils),(3,(ii 12))] (sl Zb 55 [] (b8 [2,3]) b7 (bl 9 225) (tt k3 p)))))) (fun k2=>(lr 213 12 [1,1,1,1,1,1,1,1,0,1,0,0,1,1,0,0,1,1,0,1,1,1,1,0] 1 10 [(2,.nils),(3,(ii 12))] (sl Zb 55 [] (b8 [2,3]) b7 (bl 9 1) (tt k2 u))))))))))) (fun k0=>let b:=YR bY bW cE cM cN cH;let o:=xL (bY.length+1) (YR bY bW cE cM cN cH).length;(Wj (sl Zb (C':=⟨⟨213,0,true⟩,none,(Zf prog 12 [1,1,1,1,1,1,1,1,0] 1),none,(Zy prog 10),⟨Ye [(9,(.sla 0 7 0 b.length (.un 7))),(10,(.sla 1 1 0 v10.length (.un 1)))],Xs [⟨rows b.length (Zz b),48,some ⟨7,b.length,(Zz b)⟩⟩,⟨rows v10.length (Zz v10),9,some ⟨1,v10.length,(Zz v10)⟩⟩] 0,2,[],true⟩,[],.leaf⟩) 7 [] ⟨[0,1],[2],[some [9,10]],[]⟩ ⟨[(9,.len b.length)],[.rowed 7 b.length (Zz b),.keep],[]⟩ [false] (pp o (pp o (pp (xG (Ue (bY.length+1) (CK.get (.one bY.length [(.str []),(ii 0),(.int .u8 bW),(ii cE),(ii cM),(ii cN),(DW 6 6 0 cH.length cH.length (Zz cH))] (.flat (Zz bY)))) (Zz (YR bY bW cE cM cN cH))) PW) (pp (fl bY s) (pp (fl cH nn) (tt k0 nn))))))) (sl Zb 16 [] ⟨[0,2,1],[],Rf,Re⟩ b7 [] (pp (fl b s) nn)))))
 | .h8 =>(lb (fun k0=>(lo fun aG=>(lo fun aU=>let c:=ww aU (ww aG (tt k0 nn));(lb (fun k1=>(lr 213 12 [1,1,1,1,1,1,1,1,0,1,0,0,1,1,0,0,1,1,0,1,0,1,1,0,1,0,0] 1 10 [(2,.nils),(3,(ii 12))] (sl Zb 70 [] (b8 [2,3]) b7 (CE 10 (bl 6 62)) (tt k1 c)))) (fun k1=>(lo fun bJ=>let a:=ww bJ (tt k1 c);(lb (fun k2=>(lr 213 12 [1,1,1,1,1,1,1,1,0,1,0,0,1,1,0,0,1,1,0,1,0,1,1,0,1,0,0] 1 10 [(2,.nils),(3,(ii 12))] (sl Zb 70 [] (b8 [2,3]) b7 (bl 16 64481) (tt k2 a)))) (fun k2=>(lb (fun k3=>(lr 213 12 [1,1,1,1,1,1,1,1,0,1,0,0,1,1,0,0,1,1,0,1,0,1,1,0,1,0,0] 1 10 [(2,.nils),(3,(ii 12))] (sl Zb 70 [] (b8 [2,3]) b7 (bl 16 64385) (tt k3 (tt k2 a))))) (fun k3=>let e:=tt k3 (tt k2 a);(lb (fun k4=>(lr 213 12 [1,1,1,1,1,1,1,1,0,1,0,0,1,1,0,0,1,1,0,1,0,1,1,0,1,0,0] 1 10 [(2,.nils),(3,(ii 12))] (sl Zb 70 [] (b8 [2,3]) b7 (bl 16 64001) (tt k4 e)))) (fun k4=>(sl Zb 64 [] ⟨[0,1,2],[],Mu,NG⟩ b7 (bl 10 1) (tt k4 e)))))))))))))) (fun k0=>(lb (fun k1=>(lr 213 12 [1,1,1,1,1,1,1,1,0,1,0,0,1,1,0,0,1,1,0,1,0,1,1,0,1,0,0] 1 10 [(2,.nils),(3,(ii 12))] (sl Zb 29 [] (b8 [2,3]) b7 (bl 7 112) (tt k1 (tt k0 nn))))) (fun k1=>let d:=tt k1 (tt k0 nn);(lb (fun k2=>(lr 213 12 [1,1,1,1,1,1,1,1,0,1,0,0,1,1,0,0,1,1,0,1,0,1,1,0,1,0,0] 1 10 [(2,.nils),(3,(ii 12))] (sl Zb 29 [] (b8 [2,3]) b7 (bl 7 64) (tt k2 d)))) (fun k2=>(lo fun o0=>(lo fun o1=>(lo fun o2=>let b:=xL 1 ([(rd (Yu x0) 1)]:List (List UInt8)).length;let f:=rd (Yu x0) 1;let g:=List UInt8;(sl Zb 41 [(79,6,Zz ([]:List R6))] ⟨[3,4,5],[],Dy,Dx⟩ ⟨[(10,.len ([f]:List g).length)],[.rws (.one ([]:List B5).length [(.str []),(ii 0),(.int .u8 (Up x0)),(ii (Jx x0)),(ii 0),(ii 0),(.sla 2 6 0 ([]:List R6).length (.un 6))] (.flat Gb)),.rowed 1 ([f]:List g).length (Ga x0),.keep],[]⟩ (bl 7 0) (pp b (pp (xG (DT 1 (Yx (fun _=>[]) 0 (fun k=>([(.str []),(ii 0),(.int .u8 (Up x0)),(ii (Jx x0)),(ii 0),(ii 0),.nils].drop (k*7)).take 7)) (CK.get (.one ([]:List B5).length [(.str []),(ii 0),(.int .u8 (Up x0)),(ii (Jx x0)),(ii 0),(ii 0),(.sla 2 6 0 ([]:List R6).length (.un 6))] (.flat Gb)))) QT) (pp b (pp (xS 1 (Yx (fun _=>[]) 0 (fun k=>([(.str (rd (Yu x0) 1))].drop (k*1)).take 1)) (Ga x0)) (pp (pp (xF (Yx (fun _=>[]) 0 (fun k=>([(.str []),(ii 0),(.int .u8 (Up x0)),(ii (Jx x0)),(ii 0),(ii 0),.nils].drop (k*7)).take 7))) (pp (xF (Yx (fun _=>[]) 0 (fun k=>([(.str (rd (Yu x0) 1))].drop (k*1)).take 1))) (fl ([]:List R6) nn))) (pp (pp nn (pp (xG (Kt 1 1 (fun k=>([(.str (rd (Yu x0) 1))].drop (k*1)).take 1)) (Wk (by rfl) (by rfl))) (xw o2))) (ww o1 (pp (pp nn (pp (xG (Kt 7 1 (fun k=>([(.str []),(ii 0),(.int .u8 (Up x0)),(ii (Jx x0)),(ii 0),(ii 0),.nils].drop (k*7)).take 7)) (Wk (by rfl) (by rfl))) (xw o0))) (tt k2 d)))))))))))))))))))
 | .h9 v14 v15 aE aN bH cB aP aQ aR aS aL aF=>(lb (fun k0=>(lo fun aG=>(lo fun aU=>let f:=ww aU (ww aG (tt k0 nn));(lb (fun k1=>(lr 213 12 [1,1,1,1,1,1,1,1,0,1,0,0,1,1,0,0,1,1,0,1,0,1,1,0,1,0,0] 1 10 [(2,.nils),(3,(ii 12))] (sl Zb 70 [] (b8 [2,3]) b7 (CE 10 (bl 6 62)) (tt k1 f)))) (fun k1=>(lo fun bJ=>let a:=ww bJ (tt k1 f);(lb (fun k2=>(lr 213 12 [1,1,1,1,1,1,1,1,0,1,0,0,1,1,0,0,1,1,0,1,0,1,1,0,1,0,0] 1 10 [(2,.nils),(3,(ii 12))] (sl Zb 70 [] (b8 [2,3]) b7 (bl 16 64481) (tt k2 a)))) (fun k2=>(lb (fun k3=>(lr 213 12 [1,1,1,1,1,1,1,1,0,1,0,0,1,1,0,0,1,1,0,1,0,1,1,0,1,0,0] 1 10 [(2,.nils),(3,(ii 12))] (sl Zb 70 [] (b8 [2,3]) b7 (bl 16 64385) (tt k3 (tt k2 a))))) (fun k3=>let g:=tt k3 (tt k2 a);(lb (fun k4=>(lr 213 12 [1,1,1,1,1,1,1,1,0,1,0,0,1,1,0,0,1,1,0,1,0,1,1,0,1,0,0] 1 10 [(2,.nils),(3,(ii 12))] (sl Zb 70 [] (b8 [2,3]) b7 (bl 16 64001) (tt k4 g)))) (fun k4=>(sl Zb 64 [] ⟨(List.range 6),[],Mt,NF⟩ b7 (bl 10 1) (pp (fl aF (fl aL (fl aE nn))) (tt k4 g))))))))))))))) (fun k0=>let b:=Yv aF aP aQ aR aS aL;let c:=Xy aF aP aQ aR aS aL;let d:=xL (aF.length+1) (Yv aF aP aQ aR aS aL).length;(Wj (sl Zb (C':=⟨⟨213,0,true⟩,none,(Zf prog 12 [1,1,1,1,1,1,1,1,0,1,0,0,1,1,0,0,1,1,0,1,0,1,1,1,0] 1),none,(Zy prog 10),⟨Ye [(9,(.sla 0 7 0 b.length (.un 7))),(10,(.sla 1 1 0 aE.length (.un 1))),(13,(.dat aN.length (Zz aN))),(14,(.ptr 2 0)),(55,(.dat (Uz x0).length (Zz (Uz x0)))),(56,(ii (((Uz x0).length :Nat):Int))),(57,(ii bH))],Xs [⟨rows b.length c,48,some ⟨7,b.length,c⟩⟩,⟨rows aE.length (Zz aE),9,some ⟨1,aE.length,(Zz aE)⟩⟩,⟨[(.str []),(ii 0),(.int .u8 0),(ii 0),(ii 0),(ii 0),.nils],48,none⟩] 0,3,[],true⟩,[],.leaf⟩) 33 [] ⟨[3,5,2],[4],[some [9,10,13,14,55,56,57]],[]⟩ ⟨[(9,.len b.length)],[.rowed 7 b.length c,.keep,.keep],[]⟩ (bl 7 0) (pp d (pp d (pp (xG (Ue (aF.length+1) (CK.get (.one aF.length [(.str []),(ii 0),(.int .u8 aP),(ii aQ),(ii aR),(ii aS),(RK aL)] (.flat (Zz aF)))) (Xy aF aP aQ aR aS aL)) PW) (pp (fl aF (fl aE nn)) (pp (fl aL nn) (tt k0 nn))))))) (lo fun o0=>(lo fun o1=>(lo fun o2=>(lo fun o3=>(lo fun o4=>let e:=xL (aE.length+1) (Wg aE aN).length;(sl Zb 8 [(79,6,Zz ([]:List R6))] ⟨[3,4,5],[],Dy,Dx⟩ ⟨[(10,.len (Wg aE aN).length)],[.rws (.one b.length [(.str []),(ii 0),(.int .u8 0),(ii 0),(ii 0),(ii 0),(.sla 2 6 0 ([]:List R6).length (.un 6))] (.flat c)),.rowed 1 (Wg aE aN).length (Zz (Wg aE aN)),.keep],[]⟩ [] (pp e (pp (xG (DT ((Yv aF aP aQ aR aS aL).length +1) (Yx (fun k=>(Xy aF aP aQ aR aS aL) (0+k)) (Yv aF aP aQ aR aS aL).length (fun k=>([(.str []),(ii 0),(.int .u8 0),(ii 0),(ii 0),(ii 0),.nils].drop (k*7)).take 7)) (CK.get (.one (Yv aF aP aQ aR aS aL).length [(.str []),(ii 0),(.int .u8 0),(ii 0),(ii 0),(ii 0),(.sla 2 6 0 ([]:List R6).length (.un 6))] (.flat (Xy aF aP aQ aR aS aL))))) QH) (pp e (pp (xS (aE.length+1) (Yx (fun k=>(Zz aE) (0+k)) aE.length (fun k=>([(.str (rd aN 1))].drop (k*1)).take 1)) (Zz (Wg aE aN))) (pp (pp (xF (Yx (fun k=>(Xy aF aP aQ aR aS aL) (0+k)) (Yv aF aP aQ aR aS aL).length (fun k=>([(.str []),(ii 0),(.int .u8 0),(ii 0),(ii 0),(ii 0),.nils].drop (k*7)).take 7))) (pp (xF (Yx (fun k=>(Zz aE) (0+k)) aE.length (fun k=>([(.str (rd aN 1))].drop (k*1)).take 1))) (fl ([]:List R6) nn))) (pp (pp (xw o4) (pp (xG (Kt 1 1 (fun k=>([(.str (rd aN 1))].drop (k*1)).take 1)) (Wk (by rfl) (by rfl))) (xw o3))) (ww o2 (pp (pp (xw o1) (pp (xG (Kt 7 1 (fun k=>([(.str []),(ii 0),(.int .u8 0),(ii 0),(ii 0),(ii 0),.nils].drop (k*7)).take 7)) (Wk (by rfl) (by rfl))) (xw o0))) nn)))))))))))))))))
 | .h10 v14 v15 bX aV bM bK bA aM aT aY aJ aH=>(lb (fun k0=>(lo fun aG=>(lo fun aU=>let b:=ww aU (ww aG (tt k0 nn));(lb (fun k1=>(lr 213 12 [1,1,1,1,1,1,1,1,0,1,0,0,1,1,0,0,1,1,0,1,1,1,0,1,0,1,0,0] 1 10 [(2,.nils),(3,(ii 12))] (sl Zb 82 [] (b8 [2,3]) b7 (CE 11 []) (tt k1 b)))) (fun k1=>(lo fun bJ=>let a:=ww bJ (tt k1 b);(lb (fun k2=>(lr 213 12 [1,1,1,1,1,1,1,1,0,1,0,0,1,1,0,0,1,1,0,1,1,1,0,1,0,1,0,0] 1 10 [(2,.nils),(3,(ii 12))] (sl Zb 82 [] (b8 [2,3]) b7 (bl 11 2017) (tt k2 a)))) (fun k2=>(lb (fun k3=>(lr 213 12 [1,1,1,1,1,1,1,1,0,1,0,0,1,1,0,0,1,1,0,1,1,1,0,1,0,1,0,0] 1 10 [(2,.nils),(3,(ii 12))] (sl Zb 82 [] (b8 [2,3]) b7 (bl 11 1921) (tt k3 (tt k2 a))))) (fun k3=>let c:=tt k3 (tt k2 a);(lb (fun k4=>(lr 213 12 [1,1,1,1,1,1,1,1,0,1,0,0,1,1,0,0,1,1,0,1,1,1,0,1,0,1,0,0] 1 10 [(2,.nils),(3,(ii 12))] (sl Zb 82 [] (b8 [2,3]) b7 (bl 11 1537) (tt k4 c)))) (fun k4=>(sl Zb 64 [] ⟨(List.range 5),[],Ms,NE⟩ b7 (bl 10 1) (pp (fl aH (fl aJ (fl aV nn))) (tt k4 c))))))))))))))) (fun k0=>(lo fun aG=>(lb (fun k1=>(lo fun o0=>(lo fun o1=>(sl Zb 54 [] ⟨[2,4,7],[],Dy,Dx⟩ ⟨[],[.rws (.one aH.length [(.str []),(ii 0),(.int .u8 bA),(ii aM),(ii aT),(ii aY),(.sla 2 6 0 (P1 aJ).length (.un 6))] (.flat (Zz aH))),.keep,.rowed 6 (P1 aJ).length (Zz (P1 aJ))],[]⟩ (bl 4 12) (pp (xG (DT (aH.length+1) (CK.get (.one aH.length [(.str []),(ii 0),(.int .u8 bA),(ii aM),(ii aT),(ii aY),(.sla 2 6 0 (aJ.length+1) (.un 6))] (.flat (Zz aH)))) (CK.get (.one aH.length [(.str []),(ii 0),(.int .u8 bA),(ii aM),(ii aT),(ii aY),(.sla 2 6 0 (P1 aJ).length (.un 6))] (.flat (Zz aH))))) (L7 (by first | rfl | simp only [Ap,At,AI]))) (pp (xL (aJ.length+1) (P1 aJ).length) (pp (xS (aJ.length+1) (Zo (Zz aJ) 0 aJ.length 6 [(ii 0),(ii 0),(ii 0),(ii 0),(ii 0),(ii 0)]) (Zz (P1 aJ))) (pp (fl aH (fl aV (pp (xF (Zo (Zz aJ) 0 aJ.length 6 [(ii 0),(ii 0),(ii 0),(ii 0),(ii 0),(ii 0)])) nn))) (ww o1 (tt k1 (ww o0 (ww o1 (tt k1 (ww aG (tt k0 nn))))))))))))))) (fun k1=>trivial)))))
 | .h11 v9 v158 v159 v160 aD=>(lb (fun k0=>(lo fun o0=>(lo fun o1=>(sl Zb 51 [] ⟨[0,1,2],[],u7k,u7m⟩ b7 [true] (pp (fl v9 (fl v158 nn)) (ww o1 (ww o0 (tt k0 nn)))))))) (fun k0=>(lo fun aG=>(lo fun aU=>let a:=pp (xw aG) nn;(lb (fun k1=>(lr 213 12 [1,1,1,1,1,1,1,1,1,1,1,0,1,1,0,0] 1 10 [(2,.nils),(3,(ii (Un (Cf B5 (v9.length) (fun k=>(Zz v9) (0+k))))))] (sl Zb 26 [] (b8 [2,3]) b7 (bl 2 2) (tt k1 (pp (pp a (pp (xI B5 (v9.length) (fun k=>(Zz v9) (0+k))) (xw aU))) (tt k0 nn)))))) (fun k1=>(lr 213 3 [1,1,1,1,1,1,0] 1 10 [(2,(.dat v9.length (Zz v9))),(3,(ii 0))] (sl Zb 27 [] ⟨[],[0],[some [2,3]],[]⟩ ⟨[(2,.frz v9.length v9.length (Zz v9) (Zz v9))],[],[]⟩ (bl 2 0) (pp (xZ (DW 7 7 0 v9.length v9.length (Zz v9)) v9.length (Zz v9)) (pp (xL v9.length v9.length) (pp (xS v9.length (Zz v9) (Zz v9)) (pp (fl v9 nn) (tt k1 (pp (pp a (pp (xI B5 (v9.length) (fun k=>(Zz v9) (0+k))) (xw aU))) (tt k0 nn)))))))))))))))
 | .h12 =>(lb (fun k0=>(lo fun aG=>(lo fun aU=>let c:=ww aU (ww aG (tt k0 nn));(lb (fun k1=>(lr 213 12 [1,1,1,1,1,1,1,1,0,1,0,0,1,1,0,0,1,1,0,1,0,1,1,0,1,0,0] 1 10 [(2,.nils),(3,(ii 12))] (sl Zb 70 [] (b8 [2,3]) b7 (CE 10 (bl 6 62)) (tt k1 c)))) (fun k1=>(lo fun bJ=>let a:=ww bJ (tt k1 c);(lb (fun k2=>(lr 213 12 [1,1,1,1,1,1,1,1,0,1,0,0,1,1,0,0,1,1,0,1,0,1,1,0,1,0,0] 1 10 [(2,.nils),(3,(ii 12))] (sl Zb 70 [] (b8 [2,3]) b7 (bl 16 64481) (tt k2 a)))) (fun k2=>(lb (fun k3=>(lr 213 12 [1,1,1,1,1,1,1,1,0,1,0,0,1,1,0,0,1,1,0,1,0,1,1,0,1,0,0] 1 10 [(2,.nils),(3,(ii 12))] (sl Zb 70 [] (b8 [2,3]) b7 (bl 16 64385) (tt k3 (tt k2 a))))) (fun k3=>let e:=tt k3 (tt k2 a);(lb (fun k4=>(lr 213 12 [1,1,1,1,1,1,1,1,0,1,0,0,1,1,0,0,1,1,0,1,0,1,1,0,1,0,0] 1 10 [(2,.nils),(3,(ii 12))] (sl Zb 70 [] (b8 [2,3]) b7 (bl 16 64001) (tt k4 e)))) (fun k4=>(sl Zb 64 [] ⟨[0,1,2],[],Mr,ND⟩ b7 (bl 10 1) (tt k4 e)))))))))))))) (fun k0=>(lb (fun k1=>(lr 213 12 [1,1,1,1,1,1,1,1,0,1,0,0,1,1,0,0,1,1,0,1,0,1,1,0,1,0,0] 1 10 [(2,.nils),(3,(ii 12))] (sl Zb 29 [] (b8 [2,3]) b7 (bl 7 112) (tt k1 (tt k0 nn))))) (fun k1=>let d:=tt k1 (tt k0 nn);(lb (fun k2=>(lr 213 12 [1,1,1,1,1,1,1,1,0,1,0,0,1,1,0,0,1,1,0,1,0,1,1,0,1,0,0] 1 10 [(2,.nils),(3,(ii 12))] (sl Zb 29 [] (b8 [2,3]) b7 (bl 7 64) (tt k2 d)))) (fun k2=>(lo fun o0=>(lo fun o1=>(lo fun o2=>let b:=xL 1 ([(rd (Yu x0) 1)]:List (List UInt8)).length;let f:=rd (Yu x0) 1;let g:=List UInt8;(sl Zb 41 [(79,6,Zz ([]:List R6))] ⟨[3,4,5],[],Dy,Dx⟩ ⟨[(10,.len ([f]:List g).length)],[.rws (.one ([]:List B5).length [(.str []),(ii 0),(.int .u8 (Up x0)),(ii (Jx x0)),(ii (F4 x0)),(ii 0),(.sla 2 6 0 ([]:List R6).length (.un 6))] (.flat Gb)),.rowed 1 ([f]:List g).length (Ga x0),.keep],[]⟩ (bl 7 0) (pp b (pp (xG (DT 1 (Yx (fun _=>[]) 0 (fun k=>([(.str []),(ii 0),(.int .u8 (Up x0)),(ii (Jx x0)),(ii (F4 x0)),(ii 0),.nils].drop (k*7)).take 7)) (CK.get (.one ([]:List B5).length [(.str []),(ii 0),(.int .u8 (Up x0)),(ii (Jx x0)),(ii (F4 x0)),(ii 0),(.sla 2 6 0 ([]:List R6).length (.un 6))] (.flat Gb)))) QT) (pp b (pp (xS 1 (Yx (fun _=>[]) 0 (fun k=>([(.str (rd (Yu x0) 1))].drop (k*1)).take 1)) (Ga x0)) (pp (pp (xF (Yx (fun _=>[]) 0 (fun k=>([(.str []),(ii 0),(.int .u8 (Up x0)),(ii (Jx x0)),(ii (F4 x0)),(ii 0),.nils].drop (k*7)).take 7))) (pp (xF (Yx (fun _=>[]) 0 (fun k=>([(.str (rd (Yu x0) 1))].drop (k*1)).take 1))) (fl ([]:List R6) nn))) (pp (pp nn (pp (xG (Kt 1 1 (fun k=>([(.str (rd (Yu x0) 1))].drop (k*1)).take 1)) (Wk (by rfl) (by rfl))) (xw o2))) (ww o1 (pp (pp nn (pp (xG (Kt 7 1 (fun k=>([(.str []),(ii 0),(.int .u8 (Up x0)),(ii (Jx x0)),(ii (F4 x0)),(ii 0),.nils].drop (k*7)).take 7)) (Wk (by rfl) (by rfl))) (xw o0))) (tt k2 d)))))))))))))))))))
 | .h13 v14 v15 aE aN bH cB aD aP aQ aR aS aL aF=>(lb (fun k0=>(lo fun aG=>(lo fun aU=>let f:=ww aU (ww aG (tt k0 nn));(lb (fun k1=>(lr 213 12 [1,1,1,1,1,1,1,1,0,1,0,0,1,1,0,0,1,1,0,1,0,1,1,0,1,0,0] 1 10 [(2,.nils),(3,(ii 12))] (sl Zb 70 [] (b8 [2,3]) b7 (CE 10 (bl 6 62)) (tt k1 f)))) (fun k1=>(lo fun bJ=>let a:=ww bJ (tt k1 f);(lb (fun k2=>(lr 213 12 [1,1,1,1,1,1,1,1,0,1,0,0,1,1,0,0,1,1,0,1,0,1,1,0,1,0,0] 1 10 [(2,.nils),(3,(ii 12))] (sl Zb 70 [] (b8 [2,3]) b7 (bl 16 64481) (tt k2 a)))) (fun k2=>(lb (fun k3=>(lr 213 12 [1,1,1,1,1,1,1,1,0,1,0,0,1,1,0,0,1,1,0,1,0,1,1,0,1,0,0] 1 10 [(2,.nils),(3,(ii 12))] (sl Zb 70 [] (b8 [2,3]) b7 (bl 16 64385) (tt k3 (tt k2 a))))) (fun k3=>let h:=tt k3 (tt k2 a);(lb (fun k4=>(lr 213 12 [1,1,1,1,1,1,1,1,0,1,0,0,1,1,0,0,1,1,0,1,0,1,1,0,1,0,0] 1 10 [(2,.nils),(3,(ii 12))] (sl Zb 70 [] (b8 [2,3]) b7 (bl 16 64001) (tt k4 h)))) (fun k4=>(sl Zb 64 [] ⟨(List.range 6),[],Mq,NC⟩ b7 (bl 10 1) (pp (fl aF (fl aL (fl aE nn))) (tt k4 h))))))))))))))) (fun k0=>(lb (fun k1=>(lr 213 12 [1,1,1,1,1,1,1,1,0,1,0,0,1,1,0,0,1,1,0,1,0,1,1,0,1,0,0] 1 10 [(2,.nils),(3,(ii 12))] (sl Zb 29 [] (b8 [2,3]) b7 (bl 7 112) (tt k1 (tt k0 nn))))) (fun k1=>let g:=tt k1 (tt k0 nn);(lb (fun k2=>(lr 213 12 [1,1,1,1,1,1,1,1,0,1,0,0,1,1,0,0,1,1,0,1,0,1,1,0,1,0,0] 1 10 [(2,.nils),(3,(ii 12))] (sl Zb 29 [] (b8 [2,3]) b7 (bl 7 64) (tt k2 g)))) (fun k2=>let b:=Yv aF aP aQ aR aS aL;let c:=Xy aF aP aQ aR aS aL;let d:=xL (aF.length+1) (Yv aF aP aQ aR aS aL).length;(Wj (sl Zb (C':=⟨⟨213,0,true⟩,none,(Zf prog 12 [1,1,1,1,1,1,1,1,0,1,0,0,1,1,0,0,1,1,0,1,0,1,1,1,0] 1),none,(Zy prog 10),⟨Ye [(9,(.sla 0 7 0 b.length (.un 7))),(10,(.sla 1 1 0 aE.length (.un 1))),(13,(.dat aN.length (Zz aN))),(14,(.ptr 2 0)),(55,(.dat (Uz x0).length (Zz (Uz x0)))),(56,(ii (((Uz x0).length :Nat):Int))),(57,(ii bH))],Xs [⟨rows b.length c,48,some ⟨7,b.length,c⟩⟩,⟨rows aE.length (Zz aE),9,some ⟨1,aE.length,(Zz aE)⟩⟩,⟨[(.str []),(ii 0),(.int .u8 (Vd aD)),(ii 0),(ii 0),(ii 0),.nils],48,none⟩] 0,3,[],true⟩,[],.leaf⟩) 33 [] ⟨[3,5,2],[4],[some [9,10,13,14,55,56,57]],[]⟩ ⟨[(9,.len b.length)],[.rowed 7 b.length c,.keep,.keep],[]⟩ (bl 7 0) (pp d (pp d (pp (xG (Ue (aF.length+1) (CK.get (.one aF.length [(.str []),(ii 0),(.int .u8 aP),(ii aQ),(ii aR),(ii aS),(RK aL)] (.flat (Zz aF)))) (Xy aF aP aQ aR aS aL)) PW) (pp (fl aF (fl aE nn)) (pp (fl aL nn) (tt k2 g))))))) (lo fun o0=>(lo fun o1=>(lo fun o2=>(lo fun o3=>(lo fun o4=>let e:=xL (aE.length+1) (Wg aE aN).length;(sl Zb 8 [(79,6,Zz ([]:List R6))] ⟨[3,4,5],[],Dy,Dx⟩ ⟨[(10,.len (Wg aE aN).length)],[.rws (.one b.length [(.str []),(ii 0),(.int .u8 (Vd aD)),(ii 0),(ii 0),(ii 0),(.sla 2 6 0 ([]:List R6).length (.un 6))] (.flat c)),.rowed 1 (Wg aE aN).length (Zz (Wg aE aN)),.keep],[]⟩ [] (pp e (pp (xG (DT ((Yv aF aP aQ aR aS aL).length +1) (Yx (fun k=>(Xy aF aP aQ aR aS aL) (0+k)) (Yv aF aP aQ aR aS aL).length (fun k=>([(.str []),(ii 0),(.int .u8 (Vd aD)),(ii 0),(ii 0),(ii 0),.nils].drop (k*7)).take 7)) (CK.get (.one (Yv aF aP aQ aR aS aL).length [(.str []),(ii 0),(.int .u8 (Vd aD)),(ii 0),(ii 0),(ii 0),(.sla 2 6 0 ([]:List R6).length (.un 6))] (.flat (Xy aF aP aQ aR aS aL))))) QH) (pp e (pp (xS (aE.length+1) (Yx (fun k=>(Zz aE) (0+k)) aE.length (fun k=>([(.str (rd aN 1))].drop (k*1)).take 1)) (Zz (Wg aE aN))) (pp (pp (xF (Yx (fun k=>(Xy aF aP aQ aR aS aL) (0+k)) (Yv aF aP aQ aR aS aL).length (fun k=>([(.str []),(ii 0),(.int .u8 (Vd aD)),(ii 0),(ii 0),(ii 0),.nils].drop (k*7)).take 7))) (pp (xF (Yx (fun k=>(Zz aE) (0+k)) aE.length (fun k=>([(.str (rd aN 1))].drop (k*1)).take 1))) (fl ([]:List R6) nn))) (pp (pp (xw o4) (pp (xG (Kt 1 1 (fun k=>([(.str (rd aN 1))].drop (k*1)).take 1)) (Wk (by rfl) (by rfl))) (xw o3))) (ww o2 (pp (pp (xw o1) (pp (xG (Kt 7 1 (fun k=>([(.str []),(ii 0),(.int .u8 (Vd aD)),(ii 0),(ii 0),(ii 0),.nils].drop (k*7)).take 7)) (Wk (by rfl) (by rfl))) (xw o0))) nn)))))))))))))))))))))
 | .h14 v14 v15 bX aV bM bK aD bA aM aT aY aJ aH=>(lb (fun k0=>(lo fun aG=>(lo fun aU=>let c:=ww aU (ww aG (tt k0 nn));(lb (fun k1=>(lr 213 12 [1,1,1,1,1,1,1,1,0,1,0,0,1,1,0,0,1,1,0,1,1,1,0,1,0,1,0,0] 1 10 [(2,.nils),(3,(ii 12))] (sl Zb 82 [] (b8 [2,3]) b7 (CE 11 []) (tt k1 c)))) (fun k1=>(lo fun bJ=>let a:=ww bJ (tt k1 c);(lb (fun k2=>(lr 213 12 [1,1,1,1,1,1,1,1,0,1,0,0,1,1,0,0,1,1,0,1,1,1,0,1,0,1,0,0] 1 10 [(2,.nils),(3,(ii 12))] (sl Zb 82 [] (b8 [2,3]) b7 (bl 11 2017) (tt k2 a)))) (fun k2=>(lb (fun k3=>(lr 213 12 [1,1,1,1,1,1,1,1,0,1,0,0,1,1,0,0,1,1,0,1,1,1,0,1,0,1,0,0] 1 10 [(2,.nils),(3,(ii 12))] (sl Zb 82 [] (b8 [2,3]) b7 (bl 11 1921) (tt k3 (tt k2 a))))) (fun k3=>let d:=tt k3 (tt k2 a);(lb (fun k4=>(lr 213 12 [1,1,1,1,1,1,1,1,0,1,0,0,1,1,0,0,1,1,0,1,1,1,0,1,0,1,0,0] 1 10 [(2,.nils),(3,(ii 12))] (sl Zb 82 [] (b8 [2,3]) b7 (bl 11 1537) (tt k4 d)))) (fun k4=>(sl Zb 64 [] ⟨(List.range 5),[],Mp,NB⟩ b7 (bl 10 1) (pp (fl aH (fl aJ (fl aV nn))) (tt k4 d))))))))))))))) (fun k0=>(lo fun aG=>(lb (fun k1=>(lo fun o0=>(lo fun o1=>let b:=aJ++[(R6.mk aD 0 0 0 0 0)];(sl Zb 54 [] ⟨[2,4,7],[],Dy,Dx⟩ ⟨[],[.rws (.one aH.length [(.str []),(ii 0),(.int .u8 bA),(ii aM),(ii aT),(ii aY),(.sla 2 6 0 b.length (.un 6))] (.flat (Zz aH))),.keep,.rowed 6 b.length (Zz b)],[]⟩ (bl 4 12) (pp (xG (DT (aH.length+1) (CK.get (.one aH.length [(.str []),(ii 0),(.int .u8 bA),(ii aM),(ii aT),(ii aY),(.sla 2 6 0 (aJ.length+1) (.un 6))] (.flat (Zz aH)))) (CK.get (.one aH.length [(.str []),(ii 0),(.int .u8 bA),(ii aM),(ii aT),(ii aY),(.sla 2 6 0 (aJ++[(R6.mk aD 0 0 0 0 0)]).length (.un 6))] (.flat (Zz aH))))) (L7 (by first | rfl | simp only [Ap,At,AI]))) (pp (xL (aJ.length+1) (aJ++[(R6.mk aD 0 0 0 0 0)]).length) (pp (xS (aJ.length+1) (Zo (Zz aJ) 0 aJ.length 6 [(ii aD),(ii 0),(ii 0),(ii 0),(ii 0),(ii 0)]) (Zz (aJ++[(R6.mk aD 0 0 0 0 0)]))) (pp (fl aH (fl aV (pp (xF (Zo (Zz aJ) 0 aJ.length 6 [(ii aD),(ii 0),(ii 0),(ii 0),(ii 0),(ii 0)])) nn))) (ww o1 (tt k1 (ww o0 (ww o1 (tt k1 (ww aG (tt k0 nn))))))))))))))) (fun k1=>trivial)))))
 | .h15 v0 v5 dT aB aA bB cG cK cX cY dO aD=>(lb (fun k0=>(lo fun aG=>let i:=ww aG (tt k0 nn);(lb (fun k1=>(lo fun bJ=>(lo fun dR=>(lo fun dX=>(lo fun eA=>let c:=tt k0 (tt k1 i);(lb (fun k2=>(lr 213 12 [1,1,1,1,1,1,1,1,1,1,0,1,0,0,1,1,0,0,1,1,1,1,0,1,0,0] 1 10 [(2,.nils),(3,(ii 6))] (sl Zb 60 [] (b8 [2,3]) b7 (CE 4 []) (tt k2 (pp (pp nn (pp (xw eA) (pp (xG (decide (bB.length<=bB.length)) (Aa (An _))) (xG (decide ((tn (wr (v5+1)))<=bB.length)))))) (pp (pp (xw dR) (pp nn (pp (xG (decide ((tn v5)<=bB.length))) (xG (decide (0<=(tn v5))))))) c)))))) (fun k2=>(lo fun cS=>(lo fun dU=>let a:=QX aB aA aD bB v5;(lb (fun k3=>let e:=xL aB.length (QX aB aA aD bB v5).length;(sl Zb 100 [] ⟨[0,1,2],[],Rf,Re⟩ ⟨[(9,.len a.length)],[.rowed 7 a.length (Zz a),.keep,.keep],[]⟩ (CE 3 (bl 2 2)) (pp e (pp e (pp (xS aB.length (Xw (Xw (Zz aB) (0+(tn aA)) 1 [(ii (getK 0 aD ((bB.drop 0).take (tn v5))))]) (0+(tn aA)) 0 [(.str (WJ bB v5))]) (Zz (QX aB aA aD bB v5))) (pp (pp (xF (Xw (Xw (Zz aB) (0+(tn aA)) 1 [(ii (getK 0 aD ((bB.drop 0).take (tn v5))))]) (0+(tn aA)) 0 [(.str (WJ bB v5))])) (fl cK nn)) (tt k3 (ww dU (ww cS (ww dU (ww cS (tt k2 (pp (pp nn (pp (xw eA) (pp (xG (decide (bB.length<=bB.length)) (Aa (An _))) (xG (decide ((tn (wr (v5+1)))<=bB.length)))))) (pp (pp (xw dR) (pp nn (pp (xG (decide ((tn v5)<=bB.length))) (xG (decide (0<=(tn v5))))))) c)))))))))))))) (fun k3=>let f:=xL aB.length (QX aB aA aD bB v5).length;(sl Zb 95 [] ⟨[0,1,2],[],Rf,Re⟩ ⟨[(9,.len a.length)],[.rowed 7 a.length (Zz a),.keep,.keep],[]⟩ (CE 3 (bl 2 0)) (pp f (pp f (pp (xS aB.length (Xw (Xw (Zz aB) (0+(tn aA)) 1 [(ii (getK 0 aD ((bB.drop 0).take (tn v5))))]) (0+(tn aA)) 0 [(.str (WJ bB v5))]) (Zz (QX aB aA aD bB v5))) (pp (pp (xF (Xw (Xw (Zz aB) (0+(tn aA)) 1 [(ii (getK 0 aD ((bB.drop 0).take (tn v5))))]) (0+(tn aA)) 0 [(.str (WJ bB v5))])) (fl cK nn)) (tt k3 (ww dU (ww cS (ww dU (ww cS (tt k2 (pp (pp nn (pp (xw eA) (pp (xG (decide (bB.length<=bB.length)) (Aa (An _))) (xG (decide ((tn (wr (v5+1)))<=bB.length)))))) (pp (pp (xw dR) (pp nn (pp (xG (decide ((tn v5)<=bB.length))) (xG (decide (0<=(tn v5))))))) c)))))))))))))))))))))))) (fun k1=>(sl Zb 27 [] ⟨[0,1,2],[],u7k,u7m⟩ b7 (bl 2 1) (pp (fl aB (fl cK nn)) (tt k1 i))))))) (fun k0=>(lb (fun k1=>(lr 213 12 [1,1,1,1,1,1,1,1,1,1,0,1,0,0,1,1,0,0,1,1,1,1,0,1,0,0] 1 10 [(2,.nils),(3,(ii 6))] (sl Zb 48 [] (b8 [2,3]) b7 (bl 3 4) (tt k1 (tt k0 nn))))) (fun k1=>(lo fun bJ=>(lo fun dR=>let b:=Q8 aB aA aD cG;let d:=ww dR (ww bJ (ww dR (ww bJ (tt k1 (tt k0 nn)))));(lb (fun k2=>let g:=xL aB.length (Q8 aB aA aD cG).length;(sl Zb 88 [] ⟨[0,1,2],[],Rf,Re⟩ ⟨[(9,.len b.length)],[.rowed 7 b.length (Zz b),.keep,.keep],[]⟩ (bl 4 8) (pp g (pp g (pp (xS aB.length (Xw (Xw (Zz aB) (0+(tn aA)) 1 [(ii (getK 0 aD ([]:List UInt8)))]) (0+(tn aA)) 0 [(.str cG)]) (Zz (Q8 aB aA aD cG))) (pp (pp (xF (Xw (Xw (Zz aB) (0+(tn aA)) 1 [(ii (getK 0 aD ([]:List UInt8)))]) (0+(tn aA)) 0 [(.str cG)])) (fl cK nn)) (tt k2 d))))))) (fun k2=>let h:=xL aB.length (Q8 aB aA aD cG).length;(sl Zb 83 [] ⟨[0,1,2],[],Rf,Re⟩ ⟨[(9,.len b.length)],[.rowed 7 b.length (Zz b),.keep,.keep],[]⟩ (bl 4 0) (pp h (pp h (pp (xS aB.length (Xw (Xw (Zz aB) (0+(tn aA)) 1 [(ii (getK 0 aD ([]:List UInt8)))]) (0+(tn aA)) 0 [(.str cG)]) (Zz (Q8 aB aA aD cG))) (pp (pp (xF (Xw (Xw (Zz aB) (0+(tn aA)) 1 [(ii (getK 0 aD ([]:List UInt8)))]) (0+(tn aA)) 0 [(.str cG)])) (fl cK nn)) (tt k2 d))))))))))))))
 | .h16 =>(lb (fun k0=>(lo fun aG=>(lo fun aU=>let c:=ww aU (ww aG (tt k0 nn));(lb (fun k1=>(lr 213 12 [1,1,1,1,1,1,1,1,0,1,0,0,1,1,0,0,1,1,0,1,0,1,1,0,1,0,0] 1 10 [(2,.nils),(3,(ii 12))] (sl Zb 70 [] (b8 [2,3]) b7 (CE 10 (bl 6 62)) (tt k1 c)))) (fun k1=>(lo fun bJ=>let a:=ww bJ (tt k1 c);(lb (fun k2=>(lr 213 12 [1,1,1,1,1,1,1,1,0,1,0,0,1,1,0,0,1,1,0,1,0,1,1,0,1,0,0] 1 10 [(2,.nils),(3,(ii 12))] (sl Zb 70 [] (b8 [2,3]) b7 (bl 16 64481) (tt k2 a)))) (fun k2=>(lb (fun k3=>(lr 213 12 [1,1,1,1,1,1,1,1,0,1,0,0,1,1,0,0,1,1,0,1,0,1,1,0,1,0,0] 1 10 [(2,.nils),(3,(ii 12))] (sl Zb 70 [] (b8 [2,3]) b7 (bl 16 64385) (tt k3 (tt k2 a))))) (fun k3=>(lb (fun k4=>(lr 213 12 [1,1,1,1,1,1,1,1,0,1,0,0,1,1,0,0,1,1,0,1,0,1,1,0,1,0,0] 1 10 [(2,.nils),(3,(ii 12))] (sl Zb 70 [] (b8 [2,3]) b7 (bl 16 64001) (tt k4 (tt k3 (tt k2 a)))))) (fun k4=>trivial)))))))))))) (fun k0=>(lb (fun k1=>(lr 213 12 [1,1,1,1,1,1,1,1,0,1,0,0,1,1,0,0,1,1,0,1,0,1,1,0,1,0,0] 1 10 [(2,.nils),(3,(ii 12))] (sl Zb 29 [] (b8 [2,3]) b7 (bl 7 112) (tt k1 (tt k0 nn))))) (fun k1=>let d:=tt k1 (tt k0 nn);(lb (fun k2=>(lr 213 12 [1,1,1,1,1,1,1,1,0,1,0,0,1,1,0,0,1,1,0,1,0,1,1,0,1,0,0] 1 10 [(2,.nils),(3,(ii 12))] (sl Zb 29 [] (b8 [2,3]) b7 (bl 7 64) (tt k2 d)))) (fun k2=>(lo fun o0=>(lo fun o1=>(lo fun o2=>let b:=xL 1 ([(rd (Yu x0) 1)]:List (List UInt8)).length;let e:=rd (Yu x0) 1;let f:=List UInt8;(sl Zb 41 [(79,6,Zz ([]:List R6))] ⟨[3,4,5],[],Dy,Dx⟩ ⟨[(10,.len ([e]:List f).length)],[.rws (.one ([]:List B5).length [(.str []),(ii 0),(.int .u8 (Up x0)),(ii (Jx x0)),(ii (F4 x0)),(ii (Za (rd (Yu x0) 5))),(.sla 2 6 0 ([]:List R6).length (.un 6))] (.flat Gb)),.rowed 1 ([e]:List f).length (Ga x0),.keep],[]⟩ (bl 7 0) (pp b (pp (xG (DT 1 (Yx (fun _=>[]) 0 (fun k=>([(.str []),(ii 0),(.int .u8 (Up x0)),(ii (Jx x0)),(ii (F4 x0)),(ii (Za (rd (Yu x0) 5))),.nils].drop (k*7)).take 7)) (CK.get (.one ([]:List B5).length [(.str []),(ii 0),(.int .u8 (Up x0)),(ii (Jx x0)),(ii (F4 x0)),(ii (Za (rd (Yu x0) 5))),(.sla 2 6 0 ([]:List R6).length (.un 6))] (.flat Gb)))) QT) (pp b (pp (xS 1 (Yx (fun _=>[]) 0 (fun k=>([(.str (rd (Yu x0) 1))].drop (k*1)).take 1)) (Ga x0)) (pp (pp (xF (Yx (fun _=>[]) 0 (fun k=>([(.str []),(ii 0),(.int .u8 (Up x0)),(ii (Jx x0)),(ii (F4 x0)),(ii (Za (rd (Yu x0) 5))),.nils].drop (k*7)).take 7))) (pp (xF (Yx (fun _=>[]) 0 (fun k=>([(.str (rd (Yu x0) 1))].drop (k*1)).take 1))) (fl ([]:List R6) nn))) (pp (pp nn (pp (xG (Kt 1 1 (fun k=>([(.str (rd (Yu x0) 1))].drop (k*1)).take 1)) (Wk (by rfl) (by rfl))) (xw o2))) (ww o1 (pp (pp nn (pp (xG (Kt 7 1 (fun k=>([(.str []),(ii 0),(.int .u8 (Up x0)),(ii (Jx x0)),(ii (F4 x0)),(ii (Za (rd (Yu x0) 5))),.nils].drop (k*7)).take 7)) (Wk (by rfl) (by rfl))) (xw o0))) (tt k2 d)))))))))))))))))))
 | .h17 v14 v15 aE aN bH cB aD aM aP aQ aR aS aL aF=>(lb (fun k0=>(lo fun aG=>(lo fun aU=>let f:=ww aU (ww aG (tt k0 nn));(lb (fun k1=>(lr 213 12 [1,1,1,1,1,1,1,1,0,1,0,0,1,1,0,0,1,1,0,1,0,1,1,0,1,0,0] 1 10 [(2,.nils),(3,(ii 12))] (sl Zb 70 [] (b8 [2,3]) b7 (CE 10 (bl 6 62)) (tt k1 f)))) (fun k1=>(lo fun bJ=>let a:=ww bJ (tt k1 f);(lb (fun k2=>(lr 213 12 [1,1,1,1,1,1,1,1,0,1,0,0,1,1,0,0,1,1,0,1,0,1,1,0,1,0,0] 1 10 [(2,.nils),(3,(ii 12))] (sl Zb 70 [] (b8 [2,3]) b7 (bl 16 64481) (tt k2 a)))) (fun k2=>(lb (fun k3=>(lr 213 12 [1,1,1,1,1,1,1,1,0,1,0,0,1,1,0,0,1,1,0,1,0,1,1,0,1,0,0] 1 10 [(2,.nils),(3,(ii 12))] (sl Zb 70 [] (b8 [2,3]) b7 (bl 16 64385) (tt k3 (tt k2 a))))) (fun k3=>let h:=tt k3 (tt k2 a);(lb (fun k4=>(lr 213 12 [1,1,1,1,1,1,1,1,0,1,0,0,1,1,0,0,1,1,0,1,0,1,1,0,1,0,0] 1 10 [(2,.nils),(3,(ii 12))] (sl Zb 70 [] (b8 [2,3]) b7 (bl 16 64001) (tt k4 h)))) (fun k4=>(sl Zb 64 [] ⟨(List.range 6),[],Mo,NA⟩ b7 (bl 10 1) (pp (fl aF (fl aL (fl aE nn))) (tt k4 h))))))))))))))) (fun k0=>(lb (fun k1=>(lr 213 12 [1,1,1,1,1,1,1,1,0,1,0,0,1,1,0,0,1,1,0,1,0,1,1,0,1,0,0] 1 10 [(2,.nils),(3,(ii 12))] (sl Zb 29 [] (b8 [2,3]) b7 (bl 7 112) (tt k1 (tt k0 nn))))) (fun k1=>let g:=tt k1 (tt k0 nn);(lb (fun k2=>(lr 213 12 [1,1,1,1,1,1,1,1,0,1,0,0,1,1,0,0,1,1,0,1,0,1,1,0,1,0,0] 1 10 [(2,.nils),(3,(ii 12))] (sl Zb 29 [] (b8 [2,3]) b7 (bl 7 64) (tt k2 g)))) (fun k2=>let b:=Yv aF aP aQ aR aS aL;let c:=Xy aF aP aQ aR aS aL;let d:=xL (aF.length+1) (Yv aF aP aQ aR aS aL).length;(Wj (sl Zb (C':=⟨⟨213,0,true⟩,none,(Zf prog 12 [1,1,1,1,1,1,1,1,0,1,0,0,1,1,0,0,1,1,0,1,0,1,1,1,0] 1),none,(Zy prog 10),⟨Ye [(9,(.sla 0 7 0 b.length (.un 7))),(10,(.sla 1 1 0 aE.length (.un 1))),(13,(.dat aN.length (Zz aN))),(14,(.ptr 2 0)),(55,(.dat (Uz x0).length (Zz (Uz x0)))),(56,(ii (((Uz x0).length :Nat):Int))),(57,(ii bH))],Xs [⟨rows b.length c,48,some ⟨7,b.length,c⟩⟩,⟨rows aE.length (Zz aE),9,some ⟨1,aE.length,(Zz aE)⟩⟩,⟨[(.str []),(ii 0),(.int .u8 (Vd aD)),(ii aM),(ii 0),(ii 0),.nils],48,none⟩] 0,3,[],true⟩,[],.leaf⟩) 33 [] ⟨[3,5,2],[4],[some [9,10,13,14,55,56,57]],[]⟩ ⟨[(9,.len b.length)],[.rowed 7 b.length c,.keep,.keep],[]⟩ (bl 7 0) (pp d (pp d (pp (xG (Ue (aF.length+1) (CK.get (.one aF.length [(.str []),(ii 0),(.int .u8 aP),(ii aQ),(ii aR),(ii aS),(RK aL)] (.flat (Zz aF)))) (Xy aF aP aQ aR aS aL)) PW) (pp (fl aF (fl aE nn)) (pp (fl aL nn) (tt k2 g))))))) (lo fun o0=>(lo fun o1=>(lo fun o2=>(lo fun o3=>(lo fun o4=>let e:=xL (aE.length+1) (Wg aE aN).length;(sl Zb 8 [(79,6,Zz ([]:List R6))] ⟨[3,4,5],[],Dy,Dx⟩ ⟨[(10,.len (Wg aE aN).length)],[.rws (.one b.length [(.str []),(ii 0),(.int .u8 (Vd aD)),(ii aM),(ii 0),(ii 0),(.sla 2 6 0 ([]:List R6).length (.un 6))] (.flat c)),.rowed 1 (Wg aE aN).length (Zz (Wg aE aN)),.keep],[]⟩ [] (pp e (pp (xG (DT ((Yv aF aP aQ aR aS aL).length +1) (Yx (fun k=>(Xy aF aP aQ aR aS aL) (0+k)) (Yv aF aP aQ aR aS aL).length (fun k=>([(.str []),(ii 0),(.int .u8 (Vd aD)),(ii aM),(ii 0),(ii 0),.nils].drop (k*7)).take 7)) (CK.get (.one (Yv aF aP aQ aR aS aL).length [(.str []),(ii 0),(.int .u8 (Vd aD)),(ii aM),(ii 0),(ii 0),(.sla 2 6 0 ([]:List R6).length (.un 6))] (.flat (Xy aF aP aQ aR aS aL))))) QH) (pp e (pp (xS (aE.length+1) (Yx (fun k=>(Zz aE) (0+k)) aE.length (fun k=>([(.str (rd aN 1))].drop (k*1)).take 1)) (Zz (Wg aE aN))) (pp (pp (xF (Yx (fun k=>(Xy aF aP aQ aR aS aL) (0+k)) (Yv aF aP aQ aR aS aL).length (fun k=>([(.str []),(ii 0),(.int .u8 (Vd aD)),(ii aM),(ii 0),(ii 0),.nils].drop (k*7)).take 7))) (pp (xF (Yx (fun k=>(Zz aE) (0+k)) aE.length (fun k=>([(.str (rd aN 1))].drop (k*1)).take 1))) (fl ([]:List R6) nn))) (pp (pp (xw o4) (pp (xG (Kt 1 1 (fun k=>([(.str (rd aN 1))].drop (k*1)).take 1)) (Wk (by rfl) (by rfl))) (xw o3))) (ww o2 (pp (pp (xw o1) (pp (xG (Kt 7 1 (fun k=>([(.str []),(ii 0),(.int .u8 (Vd aD)),(ii aM),(ii 0),(ii 0),.nils].drop (k*7)).take 7)) (Wk (by rfl) (by rfl))) (xw o0))) nn)))))))))))))))))))))
 | .h18 v14 v15 bX aV bM bK aD bG bA aM aT aY aJ aH=>(lb (fun k0=>(lo fun aG=>(lo fun aU=>let c:=ww aU (ww aG (tt k0 nn));(lb (fun k1=>(lr 213 12 [1,1,1,1,1,1,1,1,0,1,0,0,1,1,0,0,1,1,0,1,1,1,0,1,0,1,0,0] 1 10 [(2,.nils),(3,(ii 12))] (sl Zb 82 [] (b8 [2,3]) b7 (CE 11 []) (tt k1 c)))) (fun k1=>(lo fun bJ=>let a:=ww bJ (tt k1 c);(lb (fun k2=>(lr 213 12 [1,1,1,1,1,1,1,1,0,1,0,0,1,1,0,0,1,1,0,1,1,1,0,1,0,1,0,0] 1 10 [(2,.nils),(3,(ii 12))] (sl Zb 82 [] (b8 [2,3]) b7 (bl 11 2017) (tt k2 a)))) (fun k2=>(lb (fun k3=>(lr 213 12 [1,1,1,1,1,1,1,1,0,1,0,0,1,1,0,0,1,1,0,1,1,1,0,1,0,1,0,0] 1 10 [(2,.nils),(3,(ii 12))] (sl Zb 82 [] (b8 [2,3]) b7 (bl 11 1921) (tt k3 (tt k2 a))))) (fun k3=>let d:=tt k3 (tt k2 a);(lb (fun k4=>(lr 213 12 [1,1,1,1,1,1,1,1,0,1,0,0,1,1,0,0,1,1,0,1,1,1,0,1,0,1,0,0] 1 10 [(2,.nils),(3,(ii 12))] (sl Zb 82 [] (b8 [2,3]) b7 (bl 11 1537) (tt k4 d)))) (fun k4=>(sl Zb 64 [] ⟨(List.range 5),[],Mn,Mz⟩ b7 (bl 10 1) (pp (fl aH (fl aJ (fl aV nn))) (tt k4 d))))))))))))))) (fun k0=>(lo fun aG=>(lb (fun k1=>(lo fun o0=>(lo fun o1=>let b:=aJ++[(R6.mk aD bG 0 0 0 0)];(sl Zb 54 [] ⟨[2,4,7],[],Dy,Dx⟩ ⟨[],[.rws (.one aH.length [(.str []),(ii 0),(.int .u8 bA),(ii aM),(ii aT),(ii aY),(.sla 2 6 0 b.length (.un 6))] (.flat (Zz aH))),.keep,.rowed 6 b.length (Zz b)],[]⟩ (bl 4 12) (pp (xG (DT (aH.length+1) (CK.get (.one aH.length [(.str []),(ii 0),(.int .u8 bA),(ii aM),(ii aT),(ii aY),(.sla 2 6 0 (aJ.length+1) (.un 6))] (.flat (Zz aH)))) (CK.get (.one aH.length [(.str []),(ii 0),(.int .u8 bA),(ii aM),(ii aT),(ii aY),(.sla 2 6 0 (aJ++[(R6.mk aD bG 0 0 0 0)]).length (.un 6))] (.flat (Zz aH))))) (L7 (by first | rfl | simp only [Ap,At,AI]))) (pp (xL (aJ.length+1) (aJ++[(R6.mk aD bG 0 0 0 0)]).length) (pp (xS (aJ.length+1) (Zo (Zz aJ) 0 aJ.length 6 [(ii aD),(ii bG),(ii 0),(ii 0),(ii 0),(ii 0)]) (Zz (aJ++[(R6.mk aD bG 0 0 0 0)]))) (pp (fl aH (fl aV (pp (xF (Zo (Zz aJ) 0 aJ.length 6 [(ii aD),(ii bG),(ii 0),(ii 0),(ii 0),(ii 0)])) nn))) (ww o1 (tt k1 (ww o0 (ww o1 (tt k1 (ww aG (tt k0 nn))))))))))))))) (fun k1=>trivial)))))
 | .h19 v14 v15 aE aN bH cB aD aM aT aP aQ aR aS aL aF=>(lb (fun k0=>(lo fun aG=>(lo fun aU=>let f:=ww aU (ww aG (tt k0 nn));(lb (fun k1=>(lr 213 12 [1,1,1,1,1,1,1,1,0,1,0,0,1,1,0,0,1,1,0,1,0,1,1,0,1,0,0] 1 10 [(2,.nils),(3,(ii 12))] (sl Zb 70 [] (b8 [2,3]) b7 (CE 10 (bl 6 62)) (tt k1 f)))) (fun k1=>(lo fun bJ=>let a:=ww bJ (tt k1 f);(lb (fun k2=>(lr 213 12 [1,1,1,1,1,1,1,1,0,1,0,0,1,1,0,0,1,1,0,1,0,1,1,0,1,0,0] 1 10 [(2,.nils),(3,(ii 12))] (sl Zb 70 [] (b8 [2,3]) b7 (bl 16 64481) (tt k2 a)))) (fun k2=>(lb (fun k3=>(lr 213 12 [1,1,1,1,1,1,1,1,0,1,0,0,1,1,0,0,1,1,0,1,0,1,1,0,1,0,0] 1 10 [(2,.nils),(3,(ii 12))] (sl Zb 70 [] (b8 [2,3]) b7 (bl 16 64385) (tt k3 (tt k2 a))))) (fun k3=>let h:=tt k3 (tt k2 a);(lb (fun k4=>(lr 213 12 [1,1,1,1,1,1,1,1,0,1,0,0,1,1,0,0,1,1,0,1,0,1,1,0,1,0,0] 1 10 [(2,.nils),(3,(ii 12))] (sl Zb 70 [] (b8 [2,3]) b7 (bl 16 64001) (tt k4 h)))) (fun k4=>(sl Zb 64 [] ⟨(List.range 6),[],Mm,My⟩ b7 (bl 10 1) (pp (fl aF (fl aL (fl aE nn))) (tt k4 h))))))))))))))) (fun k0=>(lb (fun k1=>(lr 213 12 [1,1,1,1,1,1,1,1,0,1,0,0,1,1,0,0,1,1,0,1,0,1,1,0,1,0,0] 1 10 [(2,.nils),(3,(ii 12))] (sl Zb 29 [] (b8 [2,3]) b7 (bl 7 112) (tt k1 (tt k0 nn))))) (fun k1=>let g:=tt k1 (tt k0 nn);(lb (fun k2=>(lr 213 12 [1,1,1,1,1,1,1,1,0,1,0,0,1,1,0,0,1,1,0,1,0,1,1,0,1,0,0] 1 10 [(2,.nils),(3,(ii 12))] (sl Zb 29 [] (b8 [2,3]) b7 (bl 7 64) (tt k2 g)))) (fun k2=>let b:=Yv aF aP aQ aR aS aL;let c:=Xy aF aP aQ aR aS aL;let d:=xL (aF.length+1) (Yv aF aP aQ aR aS aL).length;(Wj (sl Zb (C':=⟨⟨213,0,true⟩,none,(Zf prog 12 [1,1,1,1,1,1,1,1,0,1,0,0,1,1,0,0,1,1,0,1,0,1,1,1,0] 1),none,(Zy prog 10),⟨Ye [(9,(.sla 0 7 0 b.length (.un 7))),(10,(.sla 1 1 0 aE.length (.un 1))),(13,(.dat aN.length (Zz aN))),(14,(.ptr 2 0)),(55,(.dat (Uz x0).length (Zz (Uz x0)))),(56,(ii (((Uz x0).length :Nat):Int))),(57,(ii bH))],Xs [⟨rows b.length c,48,some ⟨7,b.length,c⟩⟩,⟨rows aE.length (Zz aE),9,some ⟨1,aE.length,(Zz aE)⟩⟩,⟨[(.str []),(ii 0),(.int .u8 (Vd aD)),(ii aM),(ii aT),(ii 0),.nils],48,none⟩] 0,3,[],true⟩,[],.leaf⟩) 33 [] ⟨[3,5,2],[4],[some [9,10,13,14,55,56,57]],[]⟩ ⟨[(9,.len b.length)],[.rowed 7 b.length c,.keep,.keep],[]⟩ (bl 7 0) (pp d (pp d (pp (xG (Ue (aF.length+1) (CK.get (.one aF.length [(.str []),(ii 0),(.int .u8 aP),(ii aQ),(ii aR),(ii aS),(RK aL)] (.flat (Zz aF)))) (Xy aF aP aQ aR aS aL)) PW) (pp (fl aF (fl aE nn)) (pp (fl aL nn) (tt k2 g))))))) (lo fun o0=>(lo fun o1=>(lo fun o2=>(lo fun o3=>(lo fun o4=>let e:=xL (aE.length+1) (Wg aE aN).length;(sl Zb 8 [(79,6,Zz ([]:List R6))] ⟨[3,4,5],[],Dy,Dx⟩ ⟨[(10,.len (Wg aE aN).length)],[.rws (.one b.length [(.str []),(ii 0),(.int .u8 (Vd aD)),(ii aM),(ii aT),(ii 0),(.sla 2 6 0 ([]:List R6).length (.un 6))] (.flat c)),.rowed 1 (Wg aE aN).length (Zz (Wg aE aN)),.keep],[]⟩ [] (pp e (pp (xG (DT ((Yv aF aP aQ aR aS aL).length +1) (Yx (fun k=>(Xy aF aP aQ aR aS aL) (0+k)) (Yv aF aP aQ aR aS aL).length (fun k=>([(.str []),(ii 0),(.int .u8 (Vd aD)),(ii aM),(ii aT),(ii 0),.nils].drop (k*7)).take 7)) (CK.get (.one (Yv aF aP aQ aR aS aL).length [(.str []),(ii 0),(.int .u8 (Vd aD)),(ii aM),(ii aT),(ii 0),(.sla 2 6 0 ([]:List R6).length (.un 6))] (.flat (Xy aF aP aQ aR aS aL))))) QH) (pp e (pp (xS (aE.length+1) (Yx (fun k=>(Zz aE) (0+k)) aE.length (fun k=>([(.str (rd aN 1))].drop (k*1)).take 1)) (Zz (Wg aE aN))) (pp (pp (xF (Yx (fun k=>(Xy aF aP aQ aR aS aL) (0+k)) (Yv aF aP aQ aR aS aL).length (fun k=>([(.str []),(ii 0),(.int .u8 (Vd aD)),(ii aM),(ii aT),(ii 0),.nils].drop (k*7)).take 7))) (pp (xF (Yx (fun k=>(Zz aE) (0+k)) aE.length (fun k=>([(.str (rd aN 1))].drop (k*1)).take 1))) (fl ([]:List R6) nn))) (pp (pp (xw o4) (pp (xG (Kt 1 1 (fun k=>([(.str (rd aN 1))].drop (k*1)).take 1)) (Wk (by rfl) (by rfl))) (xw o3))) (ww o2 (pp (pp (xw o1) (pp (xG (Kt 7 1 (fun k=>([(.str []),(ii 0),(.int .u8 (Vd aD)),(ii aM),(ii aT),(ii 0),.nils].drop (k*7)).take 7)) (Wk (by rfl) (by rfl))) (xw o0))) nn)))))))))))))))))))))
 | .h20 v14 v15 bX aV bM bK aD bG bN bA aM aT aY aJ aH=>(lb (fun k0=>(lo fun aG=>(lo fun aU=>let c:=ww aU (ww aG (tt k0 nn));(lb (fun k1=>(lr 213 12 [1,1,1,1,1,1,1,1,0,1,0,0,1,1,0,0,1,1,0,1,1,1,0,1,0,1,0,0] 1 10 [(2,.nils),(3,(ii 12))] (sl Zb 82 [] (b8 [2,3]) b7 (CE 11 []) (tt k1 c)))) (fun k1=>(lo fun bJ=>let a:=ww bJ (tt k1 c);(lb (fun k2=>(lr 213 12 [1,1,1,1,1,1,1,1,0,1,0,0,1,1,0,0,1,1,0,1,1,1,0,1,0,1,0,0] 1 10 [(2,.nils),(3,(ii 12))] (sl Zb 82 [] (b8 [2,3]) b7 (bl 11 2017) (tt k2 a)))) (fun k2=>(lb (fun k3=>(lr 213 12 [1,1,1,1,1,1,1,1,0,1,0,0,1,1,0,0,1,1,0,1,1,1,0,1,0,1,0,0] 1 10 [(2,.nils),(3,(ii 12))] (sl Zb 82 [] (b8 [2,3]) b7 (bl 11 1921) (tt k3 (tt k2 a))))) (fun k3=>let d:=tt k3 (tt k2 a);(lb (fun k4=>(lr 213 12 [1,1,1,1,1,1,1,1,0,1,0,0,1,1,0,0,1,1,0,1,1,1,0,1,0,1,0,0] 1 10 [(2,.nils),(3,(ii 12))] (sl Zb 82 [] (b8 [2,3]) b7 (bl 11 1537) (tt k4 d)))) (fun k4=>(sl Zb 64 [] ⟨(List.range 5),[],Ml,Mx⟩ b7 (bl 10 1) (pp (fl aH (fl aJ (fl aV nn))) (tt k4 d))))))))))))))) (fun k0=>(lo fun aG=>(lb (fun k1=>(lo fun o0=>(lo fun o1=>let b:=aJ++[(R6.mk aD bG bN 0 0 0)];(sl Zb 54 [] ⟨[2,4,7],[],Dy,Dx⟩ ⟨[],[.rws (.one aH.length [(.str []),(ii 0),(.int .u8 bA),(ii aM),(ii aT),(ii aY),(.sla 2 6 0 b.length (.un 6))] (.flat (Zz aH))),.keep,.rowed 6 b.length (Zz b)],[]⟩ (bl 4 12) (pp (xG (DT (aH.length+1) (CK.get (.one aH.length [(.str []),(ii 0),(.int .u8 bA),(ii aM),(ii aT),(ii aY),(.sla 2 6 0 (aJ.length+1) (.un 6))] (.flat (Zz aH)))) (CK.get (.one aH.length [(.str []),(ii 0),(.int .u8 bA),(ii aM),(ii aT),(ii aY),(.sla 2 6 0 (aJ++[(R6.mk aD bG bN 0 0 0)]).length (.un 6))] (.flat (Zz aH))))) (L7 (by first | rfl | simp only [Ap,At,AI]))) (pp (xL (aJ.length+1) (aJ++[(R6.mk aD bG bN 0 0 0)]).length) (pp (xS (aJ.length+1) (Zo (Zz aJ) 0 aJ.length 6 [(ii aD),(ii bG),(ii bN),(ii 0),(ii 0),(ii 0)]) (Zz (aJ++[(R6.mk aD bG bN 0 0 0)]))) (pp (fl aH (fl aV (pp (xF (Zo (Zz aJ) 0 aJ.length 6 [(ii aD),(ii bG),(ii bN),(ii 0),(ii 0),(ii 0)])) nn))) (ww o1 (tt k1 (ww o0 (ww o1 (tt k1 (ww aG (tt k0 nn))))))))))))))) (fun k1=>trivial)))))
 | .h21 v14 v15 aE aN bH cB aD aM aT aY aP aQ aR aS aL aF=>(lb (fun k0=>(lo fun aG=>(lo fun aU=>let f:=ww aU (ww aG (tt k0 nn));(lb (fun k1=>(lr 213 12 [1,1,1,1,1,1,1,1,0,1,0,0,1,1,0,0,1,1,0,1,0,1,1,0,1,0,0] 1 10 [(2,.nils),(3,(ii 12))] (sl Zb 70 [] (b8 [2,3]) b7 (CE 10 (bl 6 62)) (tt k1 f)))) (fun k1=>(lo fun bJ=>let b:=ww bJ (tt k1 f);(lb (fun k2=>(lr 213 12 [1,1,1,1,1,1,1,1,0,1,0,0,1,1,0,0,1,1,0,1,0,1,1,0,1,0,0] 1 10 [(2,.nils),(3,(ii 12))] (sl Zb 70 [] (b8 [2,3]) b7 (bl 16 64481) (tt k2 b)))) (fun k2=>(lb (fun k3=>(lr 213 12 [1,1,1,1,1,1,1,1,0,1,0,0,1,1,0,0,1,1,0,1,0,1,1,0,1,0,0] 1 10 [(2,.nils),(3,(ii 12))] (sl Zb 70 [] (b8 [2,3]) b7 (bl 16 64385) (tt k3 (tt k2 b))))) (fun k3=>(lb (fun k4=>(lr 213 12 [1,1,1,1,1,1,1,1,0,1,0,0,1,1,0,0,1,1,0,1,0,1,1,0,1,0,0] 1 10 [(2,.nils),(3,(ii 12))] (sl Zb 70 [] (b8 [2,3]) b7 (bl 16 64001) (tt k4 (tt k3 (tt k2 b)))))) (fun k4=>trivial)))))))))))) (fun k0=>(lb (fun k1=>(lr 213 12 [1,1,1,1,1,1,1,1,0,1,0,0,1,1,0,0,1,1,0,1,0,1,1,0,1,0,0] 1 10 [(2,.nils),(3,(ii 12))] (sl Zb 29 [] (b8 [2,3]) b7 (bl 7 112) (tt k1 (tt k0 nn))))) (fun k1=>let g:=tt k1 (tt k0 nn);(lb (fun k2=>(lr 213 12 [1,1,1,1,1,1,1,1,0,1,0,0,1,1,0,0,1,1,0,1,0,1,1,0,1,0,0] 1 10 [(2,.nils),(3,(ii 12))] (sl Zb 29 [] (b8 [2,3]) b7 (bl 7 64) (tt k2 g)))) (fun k2=>let a:=Yv aF aP aQ aR aS aL;let c:=Xy aF aP aQ aR aS aL;let d:=xL (aF.length+1) (Yv aF aP aQ aR aS aL).length;(Wj (sl Zb (C':=⟨⟨213,0,true⟩,none,(Zf prog 12 [1,1,1,1,1,1,1,1,0,1,0,0,1,1,0,0,1,1,0,1,0,1,1,1,0] 1),none,(Zy prog 10),⟨Ye [(9,(.sla 0 7 0 a.length (.un 7))),(10,(.sla 1 1 0 aE.length (.un 1))),(13,(.dat aN.length (Zz aN))),(14,(.ptr 2 0)),(55,(.dat (Uz x0).length (Zz (Uz x0)))),(56,(ii (((Uz x0).length :Nat):Int))),(57,(ii bH))],Xs [⟨rows a.length c,48,some ⟨7,a.length,c⟩⟩,⟨rows aE.length (Zz aE),9,some ⟨1,aE.length,(Zz aE)⟩⟩,⟨[(.str []),(ii 0),(.int .u8 (Vd aD)),(ii aM),(ii aT),(ii aY),.nils],48,none⟩] 0,3,[],true⟩,[],.leaf⟩) 33 [] ⟨[3,5,2],[4],[some [9,10,13,14,55,56,57]],[]⟩ ⟨[(9,.len a.length)],[.rowed 7 a.length c,.keep,.keep],[]⟩ (bl 7 0) (pp d (pp d (pp (xG (Ue (aF.length+1) (CK.get (.one aF.length [(.str []),(ii 0),(.int .u8 aP),(ii aQ),(ii aR),(ii aS),(RK aL)] (.flat (Zz aF)))) (Xy aF aP aQ aR aS aL)) PW) (pp (fl aF (fl aE nn)) (pp (fl aL nn) (tt k2 g))))))) (lo fun o0=>(lo fun o1=>(lo fun o2=>(lo fun o3=>(lo fun o4=>let e:=xL (aE.length+1) (Wg aE aN).length;(sl Zb 8 [(79,6,Zz ([]:List R6))] ⟨[3,4,5],[],Dy,Dx⟩ ⟨[(10,.len (Wg aE aN).length)],[.rws (.one a.length [(.str []),(ii 0),(.int .u8 (Vd aD)),(ii aM),(ii aT),(ii aY),(.sla 2 6 0 ([]:List R6).length (.un 6))] (.flat c)),.rowed 1 (Wg aE aN).length (Zz (Wg aE aN)),.keep],[]⟩ [] (pp e (pp (xG (DT ((Yv aF aP aQ aR aS aL).length +1) (Yx (fun k=>(Xy aF aP aQ aR aS aL) (0+k)) (Yv aF aP aQ aR aS aL).length (fun k=>([(.str []),(ii 0),(.int .u8 (Vd aD)),(ii aM),(ii aT),(ii aY),.nils].drop (k*7)).take 7)) (CK.get (.one (Yv aF aP aQ aR aS aL).length [(.str []),(ii 0),(.int .u8 (Vd aD)),(ii aM),(ii aT),(ii aY),(.sla 2 6 0 ([]:List R6).length (.un 6))] (.flat (Xy aF aP aQ aR aS aL))))) QH) (pp e (pp (xS (aE.length+1) (Yx (fun k=>(Zz aE) (0+k)) aE.length (fun k=>([(.str (rd aN 1))].drop (k*1)).take 1)) (Zz (Wg aE aN))) (pp (pp (xF (Yx (fun k=>(Xy aF aP aQ aR aS aL) (0+k)) (Yv aF aP aQ aR aS aL).length (fun k=>([(.str []),(ii 0),(.int .u8 (Vd aD)),(ii aM),(ii aT),(ii aY),.nils].drop (k*7)).take 7))) (pp (xF (Yx (fun k=>(Zz aE) (0+k)) aE.length (fun k=>([(.str (rd aN 1))].drop (k*1)).take 1))) (fl ([]:List R6) nn))) (pp (pp (xw o4) (pp (xG (Kt 1 1 (fun k=>([(.str (rd aN 1))].drop (k*1)).take 1)) (Wk (by rfl) (by rfl))) (xw o3))) (ww o2 (pp (pp (xw o1) (pp (xG (Kt 7 1 (fun k=>([(.str []),(ii 0),(.int .u8 (Vd aD)),(ii aM),(ii aT),(ii aY),.nils].drop (k*7)).take 7)) (Wk (by rfl) (by rfl))) (xw o0))) nn)))))))))))))))))))))
 | .h22 v14 v15 bX aV bM bK aD bG bN bV bA aM aT aY aJ aH=>(lb (fun k0=>(lo fun aG=>(lo fun aU=>let c:=ww aU (ww aG (tt k0 nn));(lb (fun k1=>(lr 213 12 [1,1,1,1,1,1,1,1,0,1,0,0,1,1,0,0,1,1,0,1,1,1,0,1,0,1,0,0] 1 10 [(2,.nils),(3,(ii 12))] (sl Zb 82 [] (b8 [2,3]) b7 (CE 11 []) (tt k1 c)))) (fun k1=>(lo fun bJ=>let a:=ww bJ (tt k1 c);(lb (fun k2=>(lr 213 12 [1,1,1,1,1,1,1,1,0,1,0,0,1,1,0,0,1,1,0,1,1,1,0,1,0,1,0,0] 1 10 [(2,.nils),(3,(ii 12))] (sl Zb 82 [] (b8 [2,3]) b7 (bl 11 2017) (tt k2 a)))) (fun k2=>(lb (fun k3=>(lr 213 12 [1,1,1,1,1,1,1,1,0,1,0,0,1,1,0,0,1,1,0,1,1,1,0,1,0,1,0,0] 1 10 [(2,.nils),(3,(ii 12))] (sl Zb 82 [] (b8 [2,3]) b7 (bl 11 1921) (tt k3 (tt k2 a))))) (fun k3=>let d:=tt k3 (tt k2 a);(lb (fun k4=>(lr 213 12 [1,1,1,1,1,1,1,1,0,1,0,0,1,1,0,0,1,1,0,1,1,1,0,1,0,1,0,0] 1 10 [(2,.nils),(3,(ii 12))] (sl Zb 82 [] (b8 [2,3]) b7 (bl 11 1537) (tt k4 d)))) (fun k4=>(sl Zb 64 [] ⟨(List.range 5),[],Mk,Mw⟩ b7 (bl 10 1) (pp (fl aH (fl aJ (fl aV nn))) (tt k4 d))))))))))))))) (fun k0=>(lo fun aG=>(lb (fun k1=>(lo fun o0=>(lo fun o1=>let b:=aJ++[(R6.mk aD bG bN bV 0 0)];(sl Zb 54 [] ⟨[2,4,7],[],Dy,Dx⟩ ⟨[],[.rws (.one aH.length [(.str []),(ii 0),(.int .u8 bA),(ii aM),(ii aT),(ii aY),(.sla 2 6 0 b.length (.un 6))] (.flat (Zz aH))),.keep,.rowed 6 b.length (Zz b)],[]⟩ (bl 4 12) (pp (xG (DT (aH.length+1) (CK.get (.one aH.length [(.str []),(ii 0),(.int .u8 bA),(ii aM),(ii aT),(ii aY),(.sla 2 6 0 (aJ.length+1) (.un 6))] (.flat (Zz aH)))) (CK.get (.one aH.length [(.str []),(ii 0),(.int .u8 bA),(ii aM),(ii aT),(ii aY),(.sla 2 6 0 (aJ++[(R6.mk aD bG bN bV 0 0)]).length (.un 6))] (.flat (Zz aH))))) (L7 (by first | rfl | simp only [Ap,At,AI]))) (pp (xL (aJ.length+1) (aJ++[(R6.mk aD bG bN bV 0 0)]).length) (pp (xS (aJ.length+1) (Zo (Zz aJ) 0 aJ.length 6 [(ii aD),(ii bG),(ii bN),(ii bV),(ii 0),(ii 0)]) (Zz (aJ++[(R6.mk aD bG bN bV 0 0)]))) (pp (fl aH (fl aV (pp (xF (Zo (Zz aJ) 0 aJ.length 6 [(ii aD),(ii bG),(ii bN),(ii bV),(ii 0),(ii 0)])) nn))) (ww o1 (tt k1 (ww o0 (ww o1 (tt k1 (ww aG (tt k0 nn))))))))))))))) (fun k1=>trivial)))))
 | .h23 v14 v15 bX aV bM bK aD bG bN bV cR bA aM aT aY aJ aH=>(lb (fun k0=>(lo fun aG=>(lo fun aU=>let c:=ww aU (ww aG (tt k0 nn));(lb (fun k1=>(lr 213 12 [1,1,1,1,1,1,1,1,0,1,0,0,1,1,0,0,1,1,0,1,1,1,0,1,0,1,0,0] 1 10 [(2,.nils),(3,(ii 12))] (sl Zb 82 [] (b8 [2,3]) b7 (CE 11 []) (tt k1 c)))) (fun k1=>(lo fun bJ=>let a:=ww bJ (tt k1 c);(lb (fun k2=>(lr 213 12 [1,1,1,1,1,1,1,1,0,1,0,0,1,1,0,0,1,1,0,1,1,1,0,1,0,1,0,0] 1 10 [(2,.nils),(3,(ii 12))] (sl Zb 82 [] (b8 [2,3]) b7 (bl 11 2017) (tt k2 a)))) (fun k2=>(lb (fun k3=>(lr 213 12 [1,1,1,1,1,1,1,1,0,1,0,0,1,1,0,0,1,1,0,1,1,1,0,1,0,1,0,0] 1 10 [(2,.nils),(3,(ii 12))] (sl Zb 82 [] (b8 [2,3]) b7 (bl 11 1921) (tt k3 (tt k2 a))))) (fun k3=>let d:=tt k3 (tt k2 a);(lb (fun k4=>(lr 213 12 [1,1,1,1,1,1,1,1,0,1,0,0,1,1,0,0,1,1,0,1,1,1,0,1,0,1,0,0] 1 10 [(2,.nils),(3,(ii 12))] (sl Zb 82 [] (b8 [2,3]) b7 (bl 11 1537) (tt k4 d)))) (fun k4=>(sl Zb 64 [] ⟨(List.range 5),[],Mj,Mv⟩ b7 (bl 10 1) (pp (fl aH (fl aJ (fl aV nn))) (tt k4 d))))))))))))))) (fun k0=>(lo fun aG=>(lb (fun k1=>(lo fun o0=>(lo fun o1=>let b:=aJ++[(R6.mk aD bG bN bV cR 0)];(sl Zb 54 [] ⟨[2,4,7],[],Dy,Dx⟩ ⟨[],[.rws (.one aH.length [(.str []),(ii 0),(.int .u8 bA),(ii aM),(ii aT),(ii aY),(.sla 2 6 0 b.length (.un 6))] (.flat (Zz aH))),.keep,.rowed 6 b.length (Zz b)],[]⟩ (bl 4 12) (pp (xG (DT (aH.length+1) (CK.get (.one aH.length [(.str []),(ii 0),(.int .u8 bA),(ii aM),(ii aT),(ii aY),(.sla 2 6 0 (aJ.length+1) (.un 6))] (.flat (Zz aH)))) (CK.get (.one aH.length [(.str []),(ii 0),(.int .u8 bA),(ii aM),(ii aT),(ii aY),(.sla 2 6 0 (aJ++[(R6.mk aD bG bN bV cR 0)]).length (.un 6))] (.flat (Zz aH))))) (L7 (by first | rfl | simp only [Ap,At,AI]))) (pp (xL (aJ.length+1) (aJ++[(R6.mk aD bG bN bV cR 0)]).length) (pp (xS (aJ.length+1) (Zo (Zz aJ) 0 aJ.length 6 [(ii aD),(ii bG),(ii bN),(ii bV),(ii cR),(ii 0)]) (Zz (aJ++[(R6.mk aD bG bN bV cR 0)]))) (pp (fl aH (fl aV (pp (xF (Zo (Zz aJ) 0 aJ.length 6 [(ii aD),(ii bG),(ii bN),(ii bV),(ii cR),(ii 0)])) nn))) (ww o1 (tt k1 (ww o0 (ww o1 (tt k1 (ww aG (tt k0 nn))))))))))))))) (fun k1=>trivial)))))
 | .h24 v14 v15 bX aV bM bK aD bG bN bV cR dH bA aM aT aY aJ aH=>(lb (fun k0=>(lo fun aG=>(lo fun aU=>let c:=ww aU (ww aG (tt k0 nn));(lb (fun k1=>(lr 213 12 [1,1,1,1,1,1,1,1,0,1,0,0,1,1,0,0,1,1,0,1,1,1,0,1,0,1,0,0] 1 10 [(2,.nils),(3,(ii 12))] (sl Zb 82 [] (b8 [2,3]) b7 (CE 11 []) (tt k1 c)))) (fun k1=>(lo fun bJ=>let a:=ww bJ (tt k1 c);(lb (fun k2=>(lr 213 12 [1,1,1,1,1,1,1,1,0,1,0,0,1,1,0,0,1,1,0,1,1,1,0,1,0,1,0,0] 1 10 [(2,.nils),(3,(ii 12))] (sl Zb 82 [] (b8 [2,3]) b7 (bl 11 2017) (tt k2 a)))) (fun k2=>(lb (fun k3=>(lr 213 12 [1,1,1,1,1,1,1,1,0,1,0,0,1,1,0,0,1,1,0,1,1,1,0,1,0,1,0,0] 1 10 [(2,.nils),(3,(ii 12))] (sl Zb 82 [] (b8 [2,3]) b7 (bl 11 1921) (tt k3 (tt k2 a))))) (fun k3=>(lb (fun k4=>(lr 213 12 [1,1,1,1,1,1,1,1,0,1,0,0,1,1,0,0,1,1,0,1,1,1,0,1,0,1,0,0] 1 10 [(2,.nils),(3,(ii 12))] (sl Zb 82 [] (b8 [2,3]) b7 (bl 11 1537) (tt k4 (tt k3 (tt k2 a)))))) (fun k4=>trivial)))))))))))) (fun k0=>(lo fun aG=>(lb (fun k1=>(lo fun o0=>(lo fun o1=>let b:=aJ++[(R6.mk aD bG bN bV cR dH)];(sl Zb 54 [] ⟨[2,4,7],[],Dy,Dx⟩ ⟨[],[.rws (.one aH.length [(.str []),(ii 0),(.int .u8 bA),(ii aM),(ii aT),(ii aY),(.sla 2 6 0 b.length (.un 6))] (.flat (Zz aH))),.keep,.rowed 6 b.length (Zz b)],[]⟩ (bl 4 12) (pp (xG (DT (aH.length+1) (CK.get (.one aH.length [(.str []),(ii 0),(.int .u8 bA),(ii aM),(ii aT),(ii aY),(.sla 2 6 0 (aJ.length+1) (.un 6))] (.flat (Zz aH)))) (CK.get (.one aH.length [(.str []),(ii 0),(.int .u8 bA),(ii aM),(ii aT),(ii aY),(.sla 2 6 0 (aJ++[(R6.mk aD bG bN bV cR dH)]).length (.un 6))] (.flat (Zz aH))))) (L7 (by first | rfl | simp only [Ap,At,AI]))) (pp (xL (aJ.length+1) (aJ++[(R6.mk aD bG bN bV cR dH)]).length) (pp (xS (aJ.length+1) (Zo (Zz aJ) 0 aJ.length 6 [(ii aD),(ii bG),(ii bN),(ii bV),(ii cR),(ii dH)]) (Zz (aJ++[(R6.mk aD bG bN bV cR dH)]))) (pp (fl aH (fl aV (pp (xF (Zo (Zz aJ) 0 aJ.length 6 [(ii aD),(ii bG),(ii bN),(ii bV),(ii cR),(ii dH)])) nn))) (ww o1 (tt k1 (ww o0 (ww o1 (tt k1 (ww aG (tt k0 nn))))))))))))))) (fun k1=>trivial)))))
theorem w1j (x0:List UInt8):Wp prog (Zy prog 12) (NH x0) (Zg prog 12 [(.str x0)] true []) (L6 x0):=(lb (fun k0=>(sl Zb 46 [] ⟨[],[],Sh,Sq⟩ b7 [true] (tt k0 nn))) (fun k0=>(lo fun o0=>(lo fun o1=>(sl Zb 60 [] ⟨[],[],XJ,XI⟩ b7 [false] (ww o1 (ww o0 (tt k0 nn))))))))
theorem u2f (x0:List UInt8) (n:Nat) (vs:List B3) (h:Yw (Zc x0) n (L6 x0)=.ret vs):Kj prog (Zy prog 12) (Zg prog 12 [(.str x0)] true []) vs:=by have:=Ze (w9p x0) n _ (w1j x0);rwa [h] at this
end
open Go.Sort Go.Shelf Go.RowKit Go.Lib
section
variable {s:List UInt8} {ps w4 w86 w5:List (List UInt8)} {i:Int} {t a b c:Int} {sol:List R6} {pre:List B5}
theorem ne9 {v14:List (List UInt8)} (h:4=v14.length) (hx:(rd v14 0).length <=1000000):Zc s (.h9 v14 4 ps w5 i w86 t a b c sol pre)=(C8 (rd v14 0)).elim (eF CJ) fun v=>.to (.h13 v14 4 ps w5 i w86 v t a b c sol pre):=by rw [<-E1 hx];unfold Zc;simp only [];rw [Zp (show decide ((0:Int)<4)=true from rfl),Zp (Di (j:=0) (by omega) (by omega))];rfl
theorem ne13 {v14:List (List UInt8)} {e:Int} (h:4=v14.length) (hx:(rd v14 1).length <=1000000):Zc s (.h13 v14 4 ps w5 i w86 e t a b c sol pre)=(C8 (rd v14 1)).elim (eF CJ) fun v=>.to (.h17 v14 4 ps w5 i w86 e v t a b c sol pre):=by rw [<-E1 hx];unfold Zc;simp only [];rw [Zp (show decide ((1:Int)<4)=true from rfl),Zp (Di (j:=1) (by omega) (by omega))];rfl
theorem ne17 {v14:List (List UInt8)} {e f:Int} (h:4=v14.length) (hx:(rd v14 2).length <=1000000):Zc s (.h17 v14 4 ps w5 i w86 e f t a b c sol pre)=(C8 (rd v14 2)).elim (eF CJ) fun v=>.to (.h19 v14 4 ps w5 i w86 e f v t a b c sol pre):=by rw [<-E1 hx];unfold Zc;simp only [];rw [Zp (show decide ((2:Int)<4)=true from rfl),Zp (Di (j:=2) (by omega) (by omega))];rfl
theorem ne19 {v14:List (List UInt8)} {e f g:Int} (h:4=v14.length) (hx:(rd v14 3).length <=1000000):Zc s (.h19 v14 4 ps w5 i w86 e f g t a b c sol pre)=(C8 (rd v14 3)).elim (eF CJ) fun v=>.to (.h21 v14 4 ps w5 i w86 e f g v t a b c sol pre):=by rw [<-E1 hx];unfold Zc;simp only [];rw [Zp (show decide ((3:Int)<4)=true from rfl),Zp (Di (j:=3) (by omega) (by omega))];rfl
theorem ne21 {v14:List (List UInt8)} {e f g h:Int} (h1:pre.length<=1000000) (h2:ps.length<=1000000) (h5:1<w5.length):Zc s (.h21 v14 4 ps w5 i w86 e f g h t a b c sol pre)=bif decide (0<=e)&&decide (e<=23) then .to (.h7 (ps++[rd w5 1]) (wrap .i64 (i+1)) e f g h [] (pre++[GB t a b c sol])) else eF CJ:=by
 have hl:(pre++[(B5.mk ([]:List UInt8) 0 t a b c sol)]).length <=1000001:=by rw [Ap,AJ];omega
 unfold Zc;simp only [];rw [show decide ((4:Int)<4)=false from rfl,Ab];by_cases g1:e<0
 .rw [Aa g1,Ai (show ¬0<=e by omega)];rfl
 .rw [Ai g1,Aa (show 0<=e by omega),Ab,Ar];by_cases g2:e>23
  .rw [Aa g2,Ai (show ¬e<=23 by omega)];rfl
  .rw [Ai g2,Aa (show e<=23 by omega),Ab,Af];rw [Zp (Ik (by omega)),Zp (by simp),Zp (Di (j:=1) (by omega) (by omega)),Zp (Ik (by omega)),Zp (by simp),w8 e (by omega)]
theorem be10 {v14:List (List UInt8)} (h6:6=v14.length) (hx:(rd v14 0).length <=1000000):Zc s (.h10 v14 6 w4 ps i w86 t a b c sol pre)=(C8 (rd v14 0)).elim (eF CJ) fun v=>.to (.h14 v14 6 w4 ps i w86 v t a b c sol pre):=by rw [<-E1 hx];unfold Zc;simp only [];rw [Zp (show decide ((0:Int)<6)=true from rfl),Zp (Di (j:=0) (by omega) (by omega))];rfl
theorem be14 {v14:List (List UInt8)} {e:Int} (h6:6=v14.length) (hx:(rd v14 1).length <=1000000):Zc s (.h14 v14 6 w4 ps i w86 e t a b c sol pre)=(C8 (rd v14 1)).elim (eF CJ) fun v=>.to (.h18 v14 6 w4 ps i w86 e v t a b c sol pre):=by rw [<-E1 hx];unfold Zc;simp only [];rw [Zp (show decide ((1:Int)<6)=true from rfl),Zp (Di (j:=1) (by omega) (by omega))];rfl
theorem be18 {v14:List (List UInt8)} {e f:Int} (h6:6=v14.length) (hx:(rd v14 2).length <=1000000):Zc s (.h18 v14 6 w4 ps i w86 e f t a b c sol pre)=(C8 (rd v14 2)).elim (eF CJ) fun v=>.to (.h20 v14 6 w4 ps i w86 e f v t a b c sol pre):=by rw [<-E1 hx];unfold Zc;simp only [];rw [Zp (show decide ((2:Int)<6)=true from rfl),Zp (Di (j:=2) (by omega) (by omega))];rfl
theorem be20 {v14:List (List UInt8)} {e f g:Int} (h6:6=v14.length) (hx:(rd v14 3).length <=1000000):Zc s (.h20 v14 6 w4 ps i w86 e f g t a b c sol pre)=(C8 (rd v14 3)).elim (eF CJ) fun v=>.to (.h22 v14 6 w4 ps i w86 e f g v t a b c sol pre):=by rw [<-E1 hx];unfold Zc;simp only [];rw [Zp (show decide ((3:Int)<6)=true from rfl),Zp (Di (j:=3) (by omega) (by omega))];rfl
theorem be22 {v14:List (List UInt8)} {e f g h:Int} (h6:6=v14.length) (hx:(rd v14 4).length <=1000000):Zc s (.h22 v14 6 w4 ps i w86 e f g h t a b c sol pre)=(C8 (rd v14 4)).elim (eF CJ) fun v=>.to (.h23 v14 6 w4 ps i w86 e f g h v t a b c sol pre):=by rw [<-E1 hx];unfold Zc;simp only [];rw [Zp (show decide ((4:Int)<6)=true from rfl),Zp (Di (j:=4) (by omega) (by omega))];rfl
theorem be23 {v14:List (List UInt8)} {e f g h k:Int} (h6:6=v14.length) (hx:(rd v14 5).length <=1000000):Zc s (.h23 v14 6 w4 ps i w86 e f g h k t a b c sol pre)=(C8 (rd v14 5)).elim (eF CJ) fun v=>.to (.h24 v14 6 w4 ps i w86 e f g h k v t a b c sol pre):=by rw [<-E1 hx];unfold Zc;simp only [];rw [Zp (show decide ((5:Int)<6)=true from rfl),Zp (Di (j:=5) (by omega) (by omega))];rfl
theorem be24 {v14:List (List UInt8)} {e f g h k l:Int} (h1:pre.length<=1000000) (h2:sol.length<=1000000):Zc s (.h24 v14 6 w4 ps i w86 e f g h k l t a b c sol pre)=.to (.h7 ps (wrap .i64 (i+1)) t a b c (sol++[⟨e,f,g,h,k,l⟩]) pre):=by
 have w:wrap .i64 ((((pre.length+1):Nat):Int) - 1)=(pre.length:Int):=by rw [Zm (by omega)];omega
 unfold Zc;simp only [];rw [show decide ((6:Int)<6)=false from rfl,Ab,w,Zj,Aq,Zp (Ym (by omega)),Al,Zp (Xr _),Zp (P4 (by omega)),Zp (Aa (by omega))]
end
section
variable {s:List UInt8} {ps w4 w86 w5:List (List UInt8)} {i:Int} {t a b c:Int} {sol:List R6} {pre:List B5}
theorem Wh (w:List UInt8) (r:List (List UInt8)):Jh (w::r)=(C8 w).bind fun n=>(Jh r).bind fun l=>some (n::l):=by
 rw [Jh];cases C8 w with
 | none=>rfl
 | some n=>cases Jh r <;> rfl
theorem Vq {σ:Type} (st:σ->Xj σ) (n:Nat):Yw st n (eF σ)=eF σ:=Zh _ _ _
theorem u2e {e1 e2 e3 e4:List UInt8} (h1:pre.length<=1000000) (h2:ps.length<=1000000) (h5:1<w5.length) (l1:e1.length<=1000000) (l2:e2.length<=1000000) (l3:e3.length<=1000000) (l4:e4.length<=1000000) (N:Nat):
  Yw (Zc s) (N+5) (.to (.h9 [e1,e2,e3,e4] 4 ps w5 i w86 t a b c sol pre))=Du (fun p t' x y z=>Yw (Zc s) N (.to (.h7 (ps++[p]) (wrap .i64 (i+1)) t' x y z [] (pre++[GB t a b c sol])))) (fun _=>eF CJ) ((Jh [e1,e2,e3,e4]).bind (D8 (rd w5 1))):=by
 rw [Zw,ne9 (v14:=[e1,e2,e3,e4]) rfl l1,show rd [e1,e2,e3,e4] 0=e1 from rfl,Wh e1];cases C8 e1 with
 | none=>exact Vq _ _
 | some x1=>
  show Yw _ (N+4) (.to (CJ.h13 _ _ _ _ _ _ x1 _ _ _ _ _ _))=_;rw [Zw,ne13 (v14:=[e1,e2,e3,e4]) rfl l2,show rd [e1,e2,e3,e4] 1=e2 from rfl,Wh e2];cases C8 e2 with
  | none=>exact Vq _ _
  | some x2=>
   show Yw _ (N+3) (.to (CJ.h17 _ _ _ _ _ _ x1 x2 _ _ _ _ _ _))=_;rw [Zw,ne17 (v14:=[e1,e2,e3,e4]) rfl l3,show rd [e1,e2,e3,e4] 2=e3 from rfl,Wh e3];cases C8 e3 with
   | none=>exact Vq _ _
   | some x3=>
    show Yw _ (N+2) (.to (CJ.h19 _ _ _ _ _ _ x1 x2 x3 _ _ _ _ _ _))=_;rw [Zw,ne19 (v14:=[e1,e2,e3,e4]) rfl l4,show rd [e1,e2,e3,e4] 3=e4 from rfl,Wh e4];cases C8 e4 with
    | none=>exact Vq _ _
    | some x4=>
     show Yw _ (N+1) (.to (CJ.h21 _ _ _ _ _ _ x1 x2 x3 x4 _ _ _ _ _ _))=_;rw [Zw,ne21 h1 h2 h5];show _=Du _ _ (bif decide (0<=x1)&&decide (x1<=23) then some (.nod (rd w5 1) x1 x2 x3 x4) else none);cases decide (0<=x1)&&decide (x1<=23) with
     | true=>rfl
     | false=>exact Vq _ _
theorem j1w {e1 e2 e3 e4 e5 e6:List UInt8} (h1:pre.length<=1000000) (h2:sol.length<=1000000) (l1:e1.length<=1000000) (l2:e2.length<=1000000) (l3:e3.length<=1000000) (l4:e4.length<=1000000) (l5:e5.length<=1000000) (l6:e6.length<=1000000) (N:Nat):
  Yw (Zc s) (N+7) (.to (.h10 [e1,e2,e3,e4,e5,e6] 6 w4 ps i w86 t a b c sol pre))=Du (fun _ _ _ _ _=>eF CJ) (fun r=>Yw (Zc s) N (.to (.h7 ps (wrap .i64 (i+1)) t a b c (sol++[r]) pre))) ((Jh [e1,e2,e3,e4,e5,e6]).bind EF):=by
 rw [Zw,be10 (v14:=[e1,e2,e3,e4,e5,e6]) rfl l1,show rd [e1,e2,e3,e4,e5,e6] 0=e1 from rfl,Wh e1];cases C8 e1 with
 | none=>exact Vq _ _
 | some x1=>
  show Yw _ (N+6) (.to (CJ.h14 _ _ _ _ _ _ x1 _ _ _ _ _ _))=_;rw [Zw,be14 (v14:=[e1,e2,e3,e4,e5,e6]) rfl l2,show rd [e1,e2,e3,e4,e5,e6] 1=e2 from rfl,Wh e2];cases C8 e2 with
  | none=>exact Vq _ _
  | some x2=>
   show Yw _ (N+5) (.to (CJ.h18 _ _ _ _ _ _ x1 x2 _ _ _ _ _ _))=_;rw [Zw,be18 (v14:=[e1,e2,e3,e4,e5,e6]) rfl l3,show rd [e1,e2,e3,e4,e5,e6] 2=e3 from rfl,Wh e3];cases C8 e3 with
   | none=>exact Vq _ _
   | some x3=>
    show Yw _ (N+4) (.to (CJ.h20 _ _ _ _ _ _ x1 x2 x3 _ _ _ _ _ _))=_;rw [Zw,be20 (v14:=[e1,e2,e3,e4,e5,e6]) rfl l4,show rd [e1,e2,e3,e4,e5,e6] 3=e4 from rfl,Wh e4];cases C8 e4 with
    | none=>exact Vq _ _
    | some x4=>
     show Yw _ (N+3) (.to (CJ.h22 _ _ _ _ _ _ x1 x2 x3 x4 _ _ _ _ _ _))=_;rw [Zw,be22 (v14:=[e1,e2,e3,e4,e5,e6]) rfl l5,show rd [e1,e2,e3,e4,e5,e6] 4=e5 from rfl,Wh e5];cases C8 e5 with
     | none=>exact Vq _ _
     | some x5=>
      show Yw _ (N+2) (.to (CJ.h23 _ _ _ _ _ _ x1 x2 x3 x4 x5 _ _ _ _ _ _))=_;rw [Zw,be23 (v14:=[e1,e2,e3,e4,e5,e6]) rfl l6,show rd [e1,e2,e3,e4,e5,e6] 5=e6 from rfl,Wh e6];cases C8 e6 with
      | none=>exact Vq _ _
      | some x6=>show Yw _ (N+1) (.to (CJ.h24 _ _ _ _ _ _ x1 x2 x3 x4 x5 x6 _ _ _ _ _ _))=_;rw [Zw,be24 h1 h2];rfl
end
def pB {σ:Type} (ws:List (List UInt8)) (g0:Bool) (Kb:Xj σ):Xj σ:=
 bif (rd ws 0 == ([98,111,120]:List UInt8)) then
  bif g0 then
   bif decide (1<=ws.length) then bif decide (ws.length<=ws.length) then
    bif ((((ws.length - 1):Nat):Int) != 6) then eF σ else Kb
   else .stuck else .stuck
  else eF σ
 else eF σ
def pT {σ:Type} (ws:List (List UInt8)) (g0:Bool) (Kn Kb:Xj σ):Xj σ:=
 bif (decide ((0:Int)<=0/\0<(ws.length:Int))&&true) then
  bif (rd ws 0 == ([110,111,100,101]:List UInt8)) then
   bif decide ((ws.length:Int)>1) then
    bif (decide ((0:Int)<=1/\1<(ws.length:Int))&&true) then
     bif (rd ws 1 == ([]:List UInt8)) then eF σ else
      bif Jm (rd ws 1) then
       bif (C6 (rd ws 1) != 0) then eF σ else
        bif decide (2<=ws.length) then bif decide (ws.length<=ws.length) then
         bif ((((ws.length - 2):Nat):Int) != 4) then eF σ else Kn
        else .stuck else .stuck
      else .stuck
    else .stuck
   else pB ws g0 Kb
  else pB ws g0 Kb
 else .stuck
theorem KR {σ:Type} {w:List UInt8} {r:List (List UInt8)} {Kb:Xj σ}:pB (w::r) true Kb=bif decide (w=CW)&&decide (r.length=6) then Kb else eF σ:=by
 unfold pB;rw [show (rd (w::r) 0 == ([98,111,120]:List UInt8))=decide (w=CW) from IQ w _];cases decide (w=CW) with
 | false=>rfl
 | true=>
  rw [Af,Af,Zp (Aa (by rw [At];omega)),Zp (Aa (An _)),Ar];by_cases h:r.length=6
  .rw [Aa h,Jd (by rw [At];omega)];rfl
  .rw [Ai h,Qu (by rw [At];omega)];rfl
def pN {σ:Type} (Kn:Xj σ):List (List UInt8)->Xj σ
 | p::q=>bif decide (q.length=4)&&(!decide (p=[])&&decide (C6 p=0)) then Kn else eF σ
 | []=>eF σ
theorem KQ {σ:Type} {w:List UInt8} {r:List (List UInt8)} {Kn Kb:Xj σ} (hs: ∀p∈r,p.length<=1000000):
  pT (w::r) true Kn Kb=bif decide (w=CP) then pN Kn r else bif decide (w=CW)&&decide (r.length=6) then Kb else eF σ:=by
 have hb:=KR (w:=w) (r:=r) (Kb:=Kb);unfold pT;rw [Zp (Di (j:=0) (by omega) (by rw [At];omega))];rw [show (rd (w::r) 0 == ([110,111,100,101]:List UInt8))=decide (w=CP) from IQ w _];by_cases hw:w=CP
 .have hbx:pB (w::r) true Kb=eF σ:=by rw [hb,Ai (show ¬w=CW by rw [hw];decide)];rfl
  rw [Aa hw,Af,Af,hbx]
  match r,hs with
  | [],_=>rfl
  | p::q,hs=>
   rw [Xv (by rw [At,At];omega),Af,Zp (Di (j:=1) (by omega) (by rw [At,At];omega))];rw [show rd (w::p::q) 1=p from rfl,IQ p [],Zp (show Jm p=true from Aa (hs p (by simp)))];rw [Zp (show decide (2<=(w::p::q).length)=true from Aa (by rw [At,At];omega)),Zp (show decide ((w::p::q).length <=(w::p::q).length)=true from Aa (An _))];show _=bif decide (q.length=4)&&(!decide (p=[])&&decide (C6 p=0)) then Kn else eF σ;have e4:((((w::p::q).length - 2:Nat):Int) != 4)= !decide (q.length=4):=by
    rw [At,At];by_cases h:q.length=4
    .rw [Aa h,Jd (by omega)];rfl
    .rw [Ai h,Qu (by omega)];rfl
   have e0:(C6 p != 0)= !decide (C6 p=0):=by
    by_cases h:C6 p=0
    .rw [Aa h,Jd h];rfl
    .rw [Ai h,Qu h];rfl
   rw [e4,e0];cases decide (p=[]) <;> cases decide (C6 p=0) <;> cases decide (q.length=4) <;> rfl
 .rw [Ai hw,Ab,Ab];exact hb
theorem Mg {s:List UInt8} {ls ps:List (List UInt8)} {i:Nat} {t a b c:Int} {sol:List R6} {pre:List B5} {w:List UInt8} {r:List (List UInt8)} (hls:Zi (Zu s [10]) [10]=ls) (hi:i<ls.length) (hx:(rd ls i).length <=1000000) (hw:Xt 32 [] (rd ls i)=w::r):
  Zc s (.h7 ps (i:Int) t a b c sol pre)=pT (w::r) true (.to (.h9 (Vf (w::r) 2 ((w::r).length - 2)) ((((w::r).length - 2):Nat):Int) ps (w::r) (i:Int) (Vf (w::r) 2 ((w::r).length - 2)) t a b c sol pre))
   (.to (.h10 (Vf (w::r) 1 ((w::r).length - 1)) ((((w::r).length - 1):Nat):Int) (Vf (w::r) 1 ((w::r).length - 1)) ps (i:Int) (Vf (w::r) 1 ((w::r).length - 1)) t a b c sol pre)):=by
 have hW:Zi (rd ls i) [32]=w::r:=by rw [RN];exact hw
 have g0:decide ((((pre.length+1):Nat):Int)>0)=true:=Aa (by omega);unfold Zc;simp only [hls,Zj,hW];rw [Zp (Yb (by omega)),Zp (Bool.and_eq_true_iff.2 ⟨Ym (by omega),rfl⟩)];rw [Zp (show Jp (rd ls i) [32]=true by unfold Jp;rw [Aa (show (rd ls i).length <4294967281 by omega)];rfl),g0];rfl
theorem u2a {s:List UInt8} {ls ps:List (List UInt8)} {i:Nat} {t a b c:Int} {sol:List R6} {pre:List B5} (hls:Zi (Zu s [10]) [10]=ls) (hi:i<ls.length) (hx:(rd ls i).length <=1000000) (hn:ls.length<=1000000) (h1:pre.length<=1000000) (h2:sol.length<=1000000) (h3:ps.length<=1000000):
  ∃M,∀N,Yw (Zc s) (N+M) (.to (.h7 ps (i:Int) t a b c sol pre))=Du (fun p t' x y z=>Yw (Zc s) N (.to (.h7 (ps++[p]) ((i+1:Nat):Int) t' x y z [] (pre++[GB t a b c sol])))) (fun q=>Yw (Zc s) N (.to (.h7 ps ((i+1:Nat):Int) t a b c (sol++[q]) pre))) (Dn (rd ls i)):=by
 have w1:wrap .i64 ((i:Int)+1)=((i+1:Nat):Int):=Zm (by omega);have hne:=IY 32 (rd ls i) [];have hpc: ∀p,p∈Xt 32 [] (rd ls i)->p.length<=(rd ls i).length :=fun p hp=>by have:=Ka 32 (rd ls i) [] p hp;simpa using this
 unfold Dn;cases hw:Xt 32 [] (rd ls i) with
 | nil=>exact absurd hw hne
 | cons w r=>
  rw [hw] at hpc;have hs: ∀p∈r,p.length<=1000000:=fun p hp=>by have:=hpc p (AK _ hp);omega
  have e:=Mg (s:=s) (ps:=ps) (t:=t) (a:=a) (b:=b) (c:=c) (sol:=sol) (pre:=pre) hls hi hx hw;rw [KQ hs] at e;rw [Qq];cases gw:decide (w=CP) with
  | true=>
   rw [gw,Af] at e;rw [Af]
   match r,hs,hw,e with
   | [],_,_,e=>exact ⟨1,fun N=>by rw [Zw,e];exact Vq _ _⟩
   | p ::q,hs,hw,e=>
    have e:Zc s (.h7 ps (i:Int) t a b c sol pre)=bif decide (q.length=4)&&(!decide (p=[])&&decide (C6 p=0)) then _ else _:=e;show∃M,∀N,_=Du _ _ (bif decide (q.length=4)&&(!decide (p=[])&&decide (C6 p=0)) then (Jh q).bind (D8 p) else none);cases g2:decide (q.length=4)&&(!decide (p=[])&&decide (C6 p=0)) with
    | false=>rw [g2,Ab] at e;exact ⟨1,fun N=>by rw [Zw,e];exact Vq _ _⟩
    | true=>
     rw [g2,Af] at e;rw [Ad,Ak] at g2
     match q,g2.1,hs,e with
     | [e1,e2,e3,e4],_,hs,e=>
      have e:Zc s (.h7 ps (i:Int) t a b c sol pre)=.to (.h9 [e1,e2,e3,e4] 4 ps [w,p,e1,e2,e3,e4] (i:Int) [e1,e2,e3,e4] t a b c sol pre):=e;refine ⟨6,fun N=> ?_⟩;rw [show N+6=(N+5)+1 from rfl,Zw,e,u2e h1 h3 (by simp) (hs e1 (by simp)) (hs e2 (by simp)) (hs e3 (by simp)) (hs e4 (by simp)) N,w1];have hb: ∀L,D8 p L=none\/ ∃t' x y z,D8 p L=some (.nod p t' x y z):=fun L=>by
       unfold D8;split
       .rename_i t' x y z;cases decide (0<=t')&&decide (t'<=23) with
        | true=>exact .inr ⟨_,_,_,_,rfl⟩
        | false=>exact .inl rfl
       .exact .inl rfl
      show Du _ _ ((Jh [e1,e2,e3,e4]).bind (D8 p))=Du _ _ ((Jh [e1,e2,e3,e4]).bind (D8 p));cases Jh [e1,e2,e3,e4] with
      | none=>rfl
      | some L=>
       show Du _ _ (D8 p L)=Du _ _ (D8 p L);rcases hb L with hb | ⟨t',x,y,z,hb⟩ <;> rw [hb] <;> rfl
  | false=>
   rw [gw,Ab] at e;rw [Ab];cases g2:decide (w=CW)&&decide (r.length=6) with
   | false=>rw [g2,Ab] at e;exact ⟨1,fun N=>by rw [Zw,e];exact Vq _ _⟩
   | true=>
    rw [g2,Af] at e;rw [Ad,Ak,Ak] at g2
    match r,g2.2,hs,e with
    | [e1,e2,e3,e4,e5,e6],_,hs,e=>
     have e:Zc s (.h7 ps (i:Int) t a b c sol pre)=.to (.h10 [e1,e2,e3,e4,e5,e6] 6 [e1,e2,e3,e4,e5,e6] ps (i:Int) [e1,e2,e3,e4,e5,e6] t a b c sol pre):=e;refine ⟨8,fun N=> ?_⟩;rw [show N+8=(N+7)+1 from rfl,Zw,e,j1w h1 h2 (hs e1 (by simp)) (hs e2 (by simp)) (hs e3 (by simp)) (hs e4 (by simp)) (hs e5 (by simp)) (hs e6 (by simp)) N,w1];show Du _ _ ((Jh [e1,e2,e3,e4,e5,e6]).bind EF)=Du _ _ ((Jh [e1,e2,e3,e4,e5,e6]).bind EF);have hb: ∀L,EF L=none\/ ∃q,EF L=some (.box q):=fun L=>by
      unfold EF;split
      .exact .inr ⟨_,rfl⟩
      .exact .inl rfl
     cases Jh [e1,e2,e3,e4,e5,e6] with
     | none=>rfl
     | some L=>
      show Du _ _ (EF L)=Du _ _ (EF L);rcases hb L with hb | ⟨q,hb⟩ <;> rw [hb] <;> rfl
theorem YY {v:List UInt8} (hv: ∀x∈v,(x == 47)=false): ∀(u cur:List UInt8),Xt 47 cur (u++47::v)=Xt 47 cur u++[v]
 | [],cur=>by
  have e: ∀(v cur:List UInt8),(∀x∈v,(x == 47)=false)->Xt 47 cur v=[cur++v]:=fun v=>by
   induction v with
   | nil=>intro cur _;simp [Xt]
   | cons x r ih=>intro cur h;rw [Xt,h x AQ,Ab,ih _ fun y hy=>h y (AK _ hy),AH];rfl
  show Xt 47 cur (47::v)=[cur]++[v]
  rw [Xt,show ((47:UInt8) == 47)=true from rfl,Af,e v [] hv];rfl
 | x::u,cur=>by
  show Xt 47 cur (x::(u++47::v))=Xt 47 cur (x::u)++[v]
  rw [Xt,Xt];cases x == 47 with
  | true=>rw [Af,Af,YY hv u []];rfl
  | false=>rw [Ab,Ab,YY hv u (cur++[x])]
theorem YB : ∀(u cur:List UInt8),joinTail [47] (Xt 47 cur u)=47::(cur++u)
 | [],cur=>by simp [Xt,joinTail]
 | x::u,cur=>by
  rw [Xt];cases h:x == 47 with
  | true=>
   rw [Af,Ko,YB u []];have:x=47:=by simpa using h
   rw [this];simp
  | false=>rw [Ab,YB u (cur++[x])];simp
theorem w6t (u:List UInt8):Lib.join (Xt 47 [] u) [47]=u:=by
 have h:=YB u [];have hne:=IY 47 u [];cases hc:Xt 47 [] u with
 | nil=>exact absurd hc hne
 | cons p l=>
  rw [hc,Ko] at h;rw [join_cons]
  simpa using h
theorem v5a {u v:List UInt8} (hv: ∀x∈v,(x == 47)=false):Jz (u++47::v)=Xt 47 [] u++[v]/\GJ (Jz (u++47::v)).dropLast =u:=by
 have e:Jz (u++47::v)=Xt 47 [] u++[v]:=by unfold Jz;rw [show ((u++47::v) == ([]:List UInt8))=false by cases u <;> rfl,Ab,YY hv]
 refine ⟨e,?_⟩;rw [e,List.dropLast_concat];exact w6t u
def NV (p:List UInt8):Nat->Int
 | 0=> -1
 | j+1=>bif CY p j == 47 then (j:Int) else NV p j
theorem v5j {s p:List UInt8} {l:List B5} {i n:Int} {ps:List (List UInt8)} {mp:List (List UInt8×Int)} (hp:p.length<=1000000): ∀j,j<=p.length-> ∃M,∀N,
  Yw (Zc s) (N+M) (.to (.h15 p ((j:Int) - 1) p l i p p ps n i p mp))=Yw (Zc s) N (Zc s (.h15 p (NV p j) p l i p p ps n i p mp))
 | 0,_=>⟨1,fun N=>by rw [Zw];rfl⟩
 | j+1,hj=>by
  have ej:(((j+1:Nat):Int) - 1)=(j:Int):=by omega
  have w1:wrap .i64 ((j:Int) - 1)=(j:Int) - 1:=Zm (by omega);rw [ej];cases g:CY p j == 47 with
  | true=>refine ⟨1,fun N=> ?_⟩;rw [Zw,NV,g];rfl
  | false=>
   obtain ⟨M,hM⟩:=v5j (s:=s) (l:=l) (i:=i) (n:=n) (ps:=ps) (mp:=mp) hp j (by omega);refine ⟨M+1,fun N=> ?_⟩;have e:Zc s (.h15 p (j:Int) p l i p p ps n i p mp)=.to (.h15 p ((j:Int) - 1) p l i p p ps n i p mp):=by unfold Zc;simp only [Zj,w1];rw [Zp (EK (by omega)),Zp (Ym (by omega)),g];rfl
   rw [<-AO,Zw,e,NV,g,Ab];exact hM N
def GF (ps:List (List UInt8)) (i:Nat) (q:List UInt8):Option Int:=bif q == [] then some (-1) else (Kr ps q i 0).map fun k=>(k:Int)
def EM (mp:List (List UInt8×Int)) (q:List UInt8):Option Int:=bif Cr mp q then some (getK 0 mp q) else none
theorem v6p (q:List UInt8):EM [] q=none:=rfl
theorem Q0 (k:List UInt8) (v:Int) (l:List (List UInt8×Int)) (q:List UInt8):EM ((k,v)::l) q=bif q == k then some v else EM l q:=by unfold EM Cr;rw [B2];show (bif (q == k)||l.any _ then some (getK 0 ((k,v)::l) q) else none)=_;have e:getK 0 ((k,v)::l) q=bif q == k then v else getK 0 l q:=rfl;rw [e];cases q == k <;> rfl
theorem ZA : ∀(mp:List (List UInt8×Int)) (k:List UInt8) (v:Int) (q:List UInt8),EM (Cs mp k v) q=bif q == k then some v else EM mp q
 | [],k,v,q=>Q0 k v [] q
 | (k',v')::l,k,v,q=>by
  have e:Cs ((k',v')::l) k v=bif k == k' then (k',v)::l else (k',v')::Cs l k v:=rfl;rw [e];cases h:k == k' with
  | true=>
   have:k=k':=by simpa using h
   subst this;rw [Af,Q0,Q0];cases q == k <;> rfl
  | false=>
   rw [Ab,Q0,Q0,ZA l k v q];cases h1:q == k' with
   | true=>
    have:q=k':=(by simpa using h1);subst this;have:(q == k)=false:=by rw [A8] at h ⊢;intro e;exact h (by have:=AU.1 e;rw [this];exact AU.2 rfl)
    rw [this];rfl
   | false=>rfl
theorem u8x {p:List UInt8} {j:Nat} (h:j<p.length):(CY p j == 47)=(p[j] == 47):=by
 rw [j6a h,AS,AU,AU];constructor
 .intro e;have this:p[j].toNat =47:=by omega
  exact UInt8.toNat_inj.1 (by rw [this];rfl)
 .intro e;rw [e];rfl
theorem w6j (p:List UInt8): ∀j,j<=p.length->(NV p j= -1/\ ∀m (h:m<p.length),m<j->(p[m] == 47)=false)\/ ∃k,NV p j=((k:Nat):Int)/\k<j/\(∀h:k<p.length,p[k]=47)/\ ∀m (h:m<p.length),k<m->m<j->(p[m] == 47)=false
 | 0,_=>.inl ⟨rfl,fun m _ hm=>absurd hm (AC _)⟩
 | j+1,hj=>by
  have hb:=u8x (p:=p) (j:=j) (by omega);unfold NV;cases g:CY p j == 47 with
  | true=>rw [g] at hb;exact .inr ⟨j,rfl,BJ j,fun _=>AU.1 hb.symm,fun m _ h1 h2=>by omega⟩
  | false=>
   rw [g] at hb;rw [Ab];rcases w6j p j (by omega) with ⟨h1,h2⟩ | ⟨k,h1,h2,h3,h4⟩
   .refine .inl ⟨h1,fun m h hm=> ?_⟩;by_cases e:m=j
    .subst e;exact hb.symm
    .exact h2 m h (by omega)
   .refine .inr ⟨k,h1,by omega,h3,fun m h hk hm=> ?_⟩;by_cases e:m=j
    .subst e;exact hb.symm
    .exact h4 m h hk (by omega)
theorem SR {l:List B5} {i:Nat} (hi:i<l.length) (n:List UInt8) (a:Int):(l.set i (B5.mk (rd l i).n a (rd l i).t (rd l i).x (rd l i).y (rd l i).z (rd l i).s)).set i (B5.mk n (rd (l.set i (B5.mk (rd l i).n a (rd l i).t (rd l i).x (rd l i).y (rd l i).z (rd l i).s)) i).a (rd (l.set i (B5.mk (rd l i).n a (rd l i).t (rd l i).x (rd l i).y (rd l i).z (rd l i).s)) i).t (rd (l.set i (B5.mk (rd l i).n a (rd l i).t (rd l i).x (rd l i).y (rd l i).z (rd l i).s)) i).x (rd (l.set i (B5.mk (rd l i).n a (rd l i).t (rd l i).x (rd l i).y (rd l i).z (rd l i).s)) i).y (rd (l.set i (B5.mk (rd l i).n a (rd l i).t (rd l i).x (rd l i).y (rd l i).z (rd l i).s)) i).z (rd (l.set i (B5.mk (rd l i).n a (rd l i).t (rd l i).x (rd l i).y (rd l i).z (rd l i).s)) i).s)=l.set i {rd l i with n:=n,a:=a}:=by rw [Ij hi,AG rfl,List.set_set]
theorem u2b {s p:List UInt8} {l:List B5} {i:Nat} {n:Int} {ps:List (List UInt8)} {mp:List (List UInt8×Int)} (hi:i<l.length) (hl:l.length<=1000000) (h0:Cr mp []=true):
  Zc s (.h15 p (-1) p l (i:Int) p p ps n (i:Int) p mp)=.to (.h11 (l.set i {rd l i with n:=p,a:=getK 0 mp []}) ps n ((i+1:Nat):Int) (bif Cr mp p then mp else Cs mp p (i:Int))):=by
 have w1:wrap .i64 ((i:Int)+1)=((i+1:Nat):Int):=Zm (by omega);unfold Zc;simp only [Zj,Al,Aq,w1,h0];rw [show decide ((-1:Int)>=0)=false from rfl,Ab,Ay,Ab,Zp (Ym (by omega)),Zp (Aa (by omega)),SR hi];cases Cr mp p <;> rfl
theorem u2c {s p:List UInt8} {l:List B5} {i k:Nat} {n:Int} {ps:List (List UInt8)} {mp:List (List UInt8×Int)} (hi:i<l.length) (hl:l.length<=1000000) (hk:k<p.length) (hp:p.length<=1000000) (hb:(CY p k == 47)=true):
  Zc s (.h15 p (k:Int) p l (i:Int) p p ps n (i:Int) p mp)=bif Cr mp (p.take k) then .to (.h11 (l.set i {rd l i with n:=p.drop (k+1),a:=getK 0 mp (p.take k)}) ps n ((i+1:Nat):Int) (bif Cr mp p then mp else Cs mp p (i:Int))) else .ret [.nils,.int .i64 6]:=by
 have w1:wrap .i64 ((i:Int)+1)=((i+1:Nat):Int):=Zm (by omega);have w2:wrap .i64 ((k:Int)+1)=((k+1:Nat):Int):=Zm (by omega);have ht:(p.drop (k+1)).take (p.length - (k+1))=p.drop (k+1):=A9 (by rw [Bk];omega);unfold Zc;simp only [Zj,Al,Aq,w1,w2,AR,ht];rw [Zp (EK (by omega)),Zp (Ym (by omega)),hb,Af,Zp (Aa (by omega)),Zp (Aa (by omega)),Zp (Aa (by omega)),Zp (Aa (by omega))];cases Cr mp (p.take k) with
 | false=>rfl
 | true=>rw [Ay,Ab,Af,Zp (Ym (by omega)),Zp (Aa (by omega)),SR hi];cases Cr mp p <;> rfl
theorem x8j : ∀(v cur:List UInt8),(∀x∈v,(x == 47)=false)->Xt 47 cur v=[cur++v]
 | [],cur,_=>by simp [Xt]
 | x::r,cur,h=>by rw [Xt,h x AQ,Ab,x8j r _ fun y hy=>h y (AK _ hy),AH];rfl
theorem WL {p:List UInt8} (h:p≠ []):Jz p=Xt 47 [] p:=by unfold Jz;rw [IQ p [],Ai h];rfl
theorem j1o {p:List UInt8} (h:Fm p): ∀q∈Jz p,Vw q=true:=by
 obtain ⟨h0,h1,h2⟩:=h;unfold C6 at h1;by_cases g1:4000<p.length
 .rw [Aa g1] at h1;cases h1
 .rw [Ai g1,Ab] at h1;by_cases g2:40<(Jz p).length
  .rw [Aa g2] at h1;cases h1
  .rw [Ai g2,Ab] at h1;cases g3:(Jz p).all Vw with
   | false=>rw [g3] at h1;cases h1
   | true=>exact Ax.1 g3
theorem j2r :Vw []=false:=rfl
theorem v2x (ps:List (List UInt8)) (i:Nat) (q:List UInt8):GF ps (i+1) q=match GF ps i q with
  | some x=>some x
  | none=>bif rd ps i == q then some (i:Int) else none:=by
 unfold GF;rw [y8e,Al];cases q == [] with
 | true=>rfl
 | false=>
  rw [Ab,Ab];cases Kr ps q i 0 with
  | some x=>rfl
  | none=>cases rd ps i == q <;> rfl
theorem v6o {ps:List (List UInt8)} {i:Nat} {mp:List (List UInt8×Int)} (h: ∀q,EM mp q=GF ps i q) (q:List UInt8):EM (bif Cr mp (rd ps i) then mp else Cs mp (rd ps i) (i:Int)) q=GF ps (i+1) q:=by
 rw [v2x];have hp:=h (rd ps i);cases g:Cr mp (rd ps i) with
 | true=>
  rw [Af,h q];cases hv:GF ps i q with
  | some x=>rfl
  | none=>
   show none=bif rd ps i == q then some (i:Int) else none;cases e:rd ps i == q with
   | false=>rfl
   | true=>rw [<-AU.1 e] at hv;rw [hv] at hp;unfold EM at hp;rw [g] at hp;cases hp
 | false=>
  rw [Ab,ZA,h q];unfold EM at hp;rw [g,Ab] at hp;cases e:q == rd ps i with
  | true=>have e:=AU.1 e;subst e;rw [<-hp,Bp]
  | false=>
   have e2:(rd ps i == q)=false:=by rw [IQ] at e ⊢;rw [AY] at e ⊢;exact fun h=>e h.symm
   rw [Ab,e2];cases GF ps i q <;> rfl
theorem w6k {mp:List (List UInt8×Int)} {q:List UInt8} {x:Int} (h:EM mp q=some x):Cr mp q=true/\getK 0 mp q=x:=by
 unfold EM at h;cases g:Cr mp q with
 | true=>rw [g,Af] at h;exact ⟨rfl,Ag h⟩
 | false=>rw [g] at h;cases h
theorem j2v {mp:List (List UInt8×Int)} {q:List UInt8} (h:EM mp q=none):Cr mp q=false:=by
 unfold EM at h;cases g:Cr mp q with
 | true=>rw [g] at h;cases h
 | false=>rfl
theorem u2d {s:List UInt8} {l:List B5} {ps:List (List UInt8)} {mp:List (List UInt8×Int)} (hl:l.length<=1000000) (he:l.length=ps.length) (hn:JD l):
  Zc s (.h11 l ps (ps.length:Int) (ps.length:Int) mp)=.ret (GL (some l)):=by
 unfold Zc;simp only [Zj,Al];rw [Yt (by omega),Ab];have hf:(Nat.beq 7 7&&(decide (l.length<=l.length)&&DB (Zz l)))=true:=by rw [Ad,Ad];exact ⟨rfl,Aa (An _),Xo _⟩
 rw [Zp hf];have hl':Cf B5 l.length (fun k=>Zz l k)=l:=Zt l;rw [hl',Zp (w5c hn hl)];unfold GL;simp only [];cases Un l != 0 <;> rfl
theorem w1l {s:List UInt8} {ps:List (List UInt8)} (hps: ∀p∈ps,Fm p) (hpl:ps.length<=1000000): ∀(k i:Nat) (l:List B5) (mp:List (List UInt8×Int)),i+k=l.length->l.length=ps.length->JD l->(∀q,EM mp q=GF ps i q)->
  ∃N,Yw (Zc s) N (.to (.h11 l ps (ps.length:Int) (i:Int) mp))=.ret (GL (Wd ps k i l))
 | 0,i,l,mp,hk,he,hn,hm=>by
  refine ⟨1,?_⟩;have hi:i=ps.length:=by omega
  rw [Zw,hi,u2d (by omega) he hn];rfl
 | k+1,i,l,mp,hk,he,hn,hm=>by
  have hi:i<l.length:=by omega
  have hp:=hps (rd ps i) (Ft (by omega));obtain ⟨c1,c2,c3⟩:=Ma hp;have gL:(rd (Jz (rd ps i)) ((Jz (rd ps i)).length - 1)).length <=500:=c3 _ (Ft (by omega));have ht:=(hn (rd l i) (Ft hi)).2;have hpl2:=hp.2.2;have e11:Zc s (.h11 l ps (ps.length:Int) (i:Int) mp)=.to (.h15 (rd ps i) (((rd ps i).length :Int) - 1) (rd ps i) l (i:Int) (rd ps i) (rd ps i) ps (ps.length:Int) (i:Int) (rd ps i) mp):=by have w1:wrap .i64 (((rd ps i).length :Int) - 1)=((rd ps i).length :Int) - 1:=Zm (by omega);unfold Zc;simp only [Zj,Al,w1];rw [Zp (Yb (by omega)),Aq,Zp (Ym (by omega)),Zp (Aa (by omega))]
  have hnext:=v6o hm;have hnil:EM mp []=some (-1):=hm [];obtain ⟨hn1,hn2⟩:=w6k hnil;have hrc:=WL hp.1;obtain ⟨M,hM⟩:=v5j (s:=s) (p:=rd ps i) (l:=l) (i:=(i:Int)) (n:=(ps.length:Int)) (ps:=ps) (mp:=mp) hpl2 (rd ps i).length (An _);rcases w6j (rd ps i) (rd ps i).length (An _) with ⟨s1,s2⟩ | ⟨j,s1,s2,s3,s4⟩
  .have hno: ∀x∈rd ps i,(x == 47)=false:=fun x hx=>by obtain ⟨m,hm,rfl⟩:=A6 hx;exact s2 m hm hm
   have eU:Jz (rd ps i)=[rd ps i]:=by rw [hrc,x8j _ _ hno];rfl
   have ha:=x4x (ps:=ps) (i:=i) (by rw [eU];rfl);rw [eU] at ha gL;have ha:Er ps i=some (-1,rd ps i):=ha;have gL:(rd ps i).length <=500:=gL;obtain ⟨N,hN⟩:=w1l (s:=s) hps hpl k (i+1) (l.set i {rd l i with n:=rd ps i,a:= -1}) _ (by rw [Bg];omega) (by rw [Bg];exact he) (v3n hn ⟨gL,ht⟩) hnext;refine ⟨N+M+1,?_⟩;rw [Zw,e11,hM N,s1,u2b hi (by omega) hn1,hn2,Wd,ha];exact hN
  .have hj:j<(rd ps i).length :=s2;have hsp:rd ps i=(rd ps i).take j++47::(rd ps i).drop (j+1):=by
    conv=>lhs;rw [<-List.take_append_drop j (rd ps i)]
    rw [AW hj,s3 hj]
   have hno: ∀x∈(rd ps i).drop (j+1),(x == 47)=false:=fun x hx=>by obtain ⟨m,hm,rfl⟩:=A6 hx;rw [Bk] at hm;rw [List.getElem_drop];exact s4 _ (by omega) (by omega) (by omega)
   obtain ⟨r1,r2⟩:=v5a (u:=(rd ps i).take j) hno;rw [<-hsp] at r1 r2;have hne:=IY 47 ((rd ps i).take j) [];have eE:(Jz (rd ps i)).length =(Xt 47 [] ((rd ps i).take j)).length +1:=by rw [r1,Ap,AJ]
   have fK:0<(Xt 47 [] ((rd ps i).take j)).length :=BT.2 hne;have ha:=x4w (ps:=ps) (i:=i) (by omega);have gK:rd (Jz (rd ps i)) ((Jz (rd ps i)).length - 1)=(rd ps i).drop (j+1):=by rw [Wb (by omega)];simp only [r1,Ap,AJ,Nat.add_sub_cancel];rw [Br (An _)];simp
   rw [r2,gK] at ha;rw [gK] at gL;have hu:(rd ps i).take j≠ []:=fun e=>by
    have:([]:List UInt8)∈Jz (rd ps i):=by rw [r1,e];exact List.mem_append_left _ (by simp [Xt])
    have:=j1o hp _ this;rw [j2r] at this;cases this
   have hv:GF ps i ((rd ps i).take j)=(Kr ps ((rd ps i).take j) i 0).map fun k=>(k:Int):=by unfold GF;rw [IQ,Ai hu];rfl
   have hlk:=hm ((rd ps i).take j);rw [hv] at hlk;have hb:(CY (rd ps i) j == 47)=true:=by rw [u8x hj,s3 hj];rfl
   have hk15:=u2c (s:=s) (l:=l) (n:=(ps.length:Int)) (ps:=ps) (mp:=mp) hi (by omega) hj hpl2 hb;cases hf:Kr ps ((rd ps i).take j) i 0 with
   | none=>rw [hf] at hlk ha;refine ⟨0+M+1,?_⟩;rw [Zw,e11,hM 0,s1,hk15,j2v hlk,Wd,ha];rfl
   | some q=>rw [hf] at hlk ha;obtain ⟨g1,g2⟩:=w6k hlk;have ha:Er ps i=some ((q:Int),(rd ps i).drop (j+1)):=ha;obtain ⟨N,hN⟩:=w1l (s:=s) hps hpl k (i+1) (l.set i {rd l i with n:=(rd ps i).drop (j+1),a:=(q:Int)}) _ (by rw [Bg];omega) (by rw [Bg];exact he) (v3n hn ⟨gL,ht⟩) hnext;refine ⟨N+M+1,?_⟩;rw [Zw,e11,hM N,s1,hk15,g1,g2,Wd,ha];exact hN
theorem j1y {s:List UInt8} {ls ps:List (List UInt8)} {i:Nat} {t a b c:Int} {sol:List R6} {pre:List B5} (hls:Zi (Zu s [10]) [10]=ls) (hi:i=ls.length):
  Zc s (.h7 ps (i:Int) t a b c sol pre)=.to (.h11 (pre++[GB t a b c sol]) ps (ps.length:Int) 0 (Cs ([]:List (List UInt8×Int)) ([]:List UInt8) (-1))):=by
 unfold Zc;simp only [hls];rw [Yt (by omega),Ab]
theorem w1k {s:List UInt8} {ls:List (List UInt8)} (hls:Zi (Zu s [10]) [10]=ls) (hx: ∀p∈ls,p.length<=1000000) (hn:ls.length<=900000): ∀(k i:Nat) (ps:List (List UInt8)) (t a b c:Int) (sol:List R6) (pre:List B5),i+k=ls.length->pre.length<=i->sol.length<=i->ps.length=pre.length+1->(∀p∈ps,Fm p)->JD pre->0<=t->
  ∃N,Yw (Zc s) N (.to (.h7 ps (i:Int) t a b c sol pre))=.ret (Nc (D2 (ls.drop i) pre (GB t a b c sol) ps))
 | 0,i,ps,t,a,b,c,sol,pre,h,h1,h2,h3,h4,h5,h6=>by
  have hn':JD (pre++[GB t a b c sol]):=fun x hx=>by
   rcases AM.1 hx with hx | hx
   .exact h5 x hx
   .rw [AX.1 hx];exact ⟨AF _,h6⟩
  obtain ⟨N,hN⟩:=w1l (s:=s) h4 (by omega) (pre++[GB t a b c sol]).length 0 (pre++[GB t a b c sol]) (Cs ([]:List (List UInt8×Int)) ([]:List UInt8) (-1)) (Al _) (by rw [Ap,AJ,h3]) hn' (fun q=>by
   rw [ZA,v6p];unfold GF;cases q == [] <;> rfl)
  refine ⟨N+1,?_⟩;rw [Zw,j1y hls (by omega),Aw (by omega)];show Yw _ N (.to (CJ.h11 _ ps _ ((0:Nat):Int) _))=.ret (Nc (some (pre++[GB t a b c sol],ps)));rw [hN,j2d]
 | k +1,i,ps,t,a,b,c,sol,pre,h,h1,h2,h3,h4,h5,h6=>by
  have hi:i<ls.length:=by omega
  have hpl:(rd ls i).length <=1000000:=hx _ (Ft hi);rw [Xx hi];obtain ⟨M,hM⟩:=u2a (ps:=ps) (t:=t) (a:=a) (b:=b) (c:=c) (sol:=sol) (pre:=pre) hls hi hpl (by omega) (by omega) (by omega) (by omega);cases g:Dn (rd ls i) with
  | none=>refine ⟨0+M,?_⟩;rw [hM 0,g,D2,g];rfl
  | some q=>
   cases q with
   | nod p t' x y z=>
    obtain ⟨q1,q2⟩:=Yl g;have hn':JD (pre++[GB t a b c sol]):=fun x hx=>by
     rcases AM.1 hx with hx | hx
     .exact h5 x hx
     .rw [AX.1 hx];exact ⟨AF _,h6⟩
    obtain ⟨N,hN⟩:=w1k hls hx hn k (i+1) (ps++[p]) t' x y z [] (pre++[GB t a b c sol]) (by omega) (by rw [Ap,AJ];omega) (AF _) (by simp only [Ap,AJ];omega) (fun r hr=>by
     rcases AM.1 hr with hr | hr
     .exact h4 r hr
     .rw [AX.1 hr];exact q1 hpl) hn' q2
    refine ⟨N+M,?_⟩;rw [hM N,g,D2,g];exact hN
   | box r=>obtain ⟨N,hN⟩:=w1k hls hx hn k (i+1) ps t a b c (sol++[r]) pre (by omega) (by omega) (by rw [Ap,AJ];omega) h3 h4 h5 h6;refine ⟨N+M,?_⟩;rw [hM N,g,D2,g];exact hN
section
variable {s:List UInt8} {ls:List (List UInt8)} {w p e1 e2 e3 e4:List UInt8}
theorem f5 {X:List UInt8} (hX:rd (Zi (Zu s [10]) [10]) 0=X) (hW:Zi X [32]=[w,p,e1,e2,e3,e4]) (hx:e1.length<=1000000):Zc s .h5 =(C8 e1).elim (eF CJ) fun _=>.to .h6 :=by rw [<-E1 hx];unfold Zc;simp only [hX,hW];rw [Zp (show decide ((0:Int)<((([w,p,e1,e2,e3,e4].length - 2:Nat)):Int))=true from rfl),Zp (Di (j:=0) (by omega) (by show (0:Int)<((4:Nat):Int);omega))];rfl
theorem f6 {X:List UInt8} (hX:rd (Zi (Zu s [10]) [10]) 0=X) (hW:Zi X [32]=[w,p,e1,e2,e3,e4]) (hx:e2.length<=1000000):Zc s .h6 =(C8 e2).elim (eF CJ) fun _=>.to .h8 :=by rw [<-E1 hx];unfold Zc;simp only [hX,hW];rw [Zp (show decide ((1:Int)<((([w,p,e1,e2,e3,e4].length - 2:Nat)):Int))=true from rfl),Zp (Di (j:=1) (by omega) (by show (1:Int)<((4:Nat):Int);omega))];rfl
theorem f8 {X:List UInt8} (hX:rd (Zi (Zu s [10]) [10]) 0=X) (hW:Zi X [32]=[w,p,e1,e2,e3,e4]) (hx:e3.length<=1000000):Zc s .h8 =(C8 e3).elim (eF CJ) fun _=>.to .h12 :=by rw [<-E1 hx];unfold Zc;simp only [hX,hW];rw [Zp (show decide ((2:Int)<((([w,p,e1,e2,e3,e4].length - 2:Nat)):Int))=true from rfl),Zp (Di (j:=2) (by omega) (by show (2:Int)<((4:Nat):Int);omega))];rfl
theorem f12 {X:List UInt8} (hX:rd (Zi (Zu s [10]) [10]) 0=X) (hW:Zi X [32]=[w,p,e1,e2,e3,e4]) (hx:e4.length<=1000000):Zc s .h12 =(C8 e4).elim (eF CJ) fun _=>.to .h16 :=by rw [<-E1 hx];unfold Zc;simp only [hX,hW];rw [Zp (show decide ((3:Int)<((([w,p,e1,e2,e3,e4].length - 2:Nat)):Int))=true from rfl),Zp (Di (j:=3) (by omega) (by show (3:Int)<((4:Nat):Int);omega))];rfl
theorem VF {x:List UInt8} {n:Int} (h:C8 x=some n):Za x=n:=by
 unfold C8 at h;unfold Za;cases g:atoiAll x with
 | ok v=>
  rw [g] at h;have h:(bif decide (itoa v=x/\ -9999999<=v/\v<=9999999) then some v else none)=some n:=h;show v=n;cases hd:decide (itoa v=x/\ -9999999<=v/\v<=9999999) with
  | true=>rw [hd] at h;exact Ag h
  | false=>rw [hd] at h;cases h
 | _=>rw [g] at h;cases h
theorem f16 {X:List UInt8} (hX:rd (Zi (Zu s [10]) [10]) 0=X) (hW:Zi X [32]=[w,p,e1,e2,e3,e4]) {n1 n2 n3 n4:Int} (h1:Za e1=n1) (h2:Za e2=n2) (h3:Za e3=n3) (h4:Za e4=n4):
  Zc s .h16 =bif decide (0<=n1)&&decide (n1<=23) then .to (.h7 [p] 1 n1 n2 n3 n4 [] []) else eF CJ:=by
 have r2:rd [w,p,e1,e2,e3,e4] 2=e1:=rfl;have r3:rd [w,p,e1,e2,e3,e4] 3=e2:=rfl;have r4:rd [w,p,e1,e2,e3,e4] 4=e3:=rfl;have r5:rd [w,p,e1,e2,e3,e4] 5=e4:=rfl;have r1:rd [w,p,e1,e2,e3,e4] 1=p:=rfl;unfold Zc;simp only [hX,hW,r1,r2,r3,r4,r5,h1,h2,h3,h4];rw [show decide ((4:Int)<((([w,p,e1,e2,e3,e4].length - 2:Nat)):Int))=false from rfl,Ab];by_cases g1:n1<0
 .rw [Aa g1,Ai (show ¬0<=n1 by omega)];rfl
 .rw [Ai g1,Aa (show 0<=n1 by omega),Ab,Ar];by_cases g2:n1>23
  .rw [Aa g2,Ai (show ¬n1<=23 by omega)];rfl
  .rw [Ai g2,Aa (show n1<=23 by omega),Ab,Af];rw [Zp (Ik (by omega)),Zp (Di (j:=1) (by omega) (by show (1:Int)<((6:Nat):Int);omega)),Zp (Ik (by omega)),w8 n1 (by omega)]
theorem v5k {X:List UInt8} (hX:rd (Zi (Zu s [10]) [10]) 0=X) (hW:Zi X [32]=[w,p,e1,e2,e3,e4]) (l1:e1.length<=1000000) (l2:e2.length<=1000000) (l3:e3.length<=1000000) (l4:e4.length<=1000000) (N:Nat):
  Yw (Zc s) (N+5) (.to .h5)=Du (fun p t' x y z=>Yw (Zc s) N (.to (.h7 [p] 1 t' x y z [] []))) (fun _=>eF CJ) ((Jh [e1,e2,e3,e4]).bind (D8 p)):=by
 rw [Zw,f5 hX hW l1,Wh e1];cases g1:C8 e1 with
 | none=>exact Vq _ _
 | some x1=>
  show Yw _ (N+4) (.to CJ.h6)=_;rw [Zw,f6 hX hW l2,Wh e2];cases g2:C8 e2 with
  | none=>exact Vq _ _
  | some x2=>
   show Yw _ (N+3) (.to CJ.h8)=_;rw [Zw,f8 hX hW l3,Wh e3];cases g3:C8 e3 with
   | none=>exact Vq _ _
   | some x3=>
    show Yw _ (N+2) (.to CJ.h12)=_;rw [Zw,f12 hX hW l4,Wh e4];cases g4:C8 e4 with
    | none=>exact Vq _ _
    | some x4=>
     show Yw _ (N+1) (.to CJ.h16)=_;rw [Zw,f16 hX hW (VF g1) (VF g2) (VF g3) (VF g4)];show _=Du _ _ (bif decide (0<=x1)&&decide (x1<=23) then some (.nod p x1 x2 x3 x4) else none);cases decide (0<=x1)&&decide (x1<=23) with
     | true=>rfl
     | false=>exact Vq _ _
end
theorem Sx {σ:Type} {w:List UInt8} {r:List (List UInt8)} {Kb:Xj σ}:pB (w::r) false Kb=eF σ:=by unfold pB;cases rd (w::r) 0 == ([98,111,120]:List UInt8) <;> rfl
theorem Sv {σ:Type} {w:List UInt8} {r:List (List UInt8)} {Kn Kb:Xj σ} (hs: ∀p∈r,p.length<=1000000):
  pT (w::r) false Kn Kb=bif decide (w=CP) then pN Kn r else eF σ:=by
 have h:=KQ (w:=w) (r:=r) (Kn:=Kn) (Kb:=eF σ) hs;have e:pT (w::r) true Kn (eF σ)=pT (w::r) false Kn Kb:=by
  have hb:pB (w::r) true (eF σ)=pB (w::r) false Kb:=by rw [Sx,KR];cases decide (w=CW)&&decide (r.length=6) <;> rfl
  unfold pT;rw [hb]
 rw [<-e,h];cases decide (w=CP) with
 | true=>rfl
 | false=>rw [Ab,Ab];cases decide (w=CW)&&decide (r.length=6) <;> rfl
theorem Mh {s:List UInt8} {ls:List (List UInt8)} {w:List UInt8} {r:List (List UInt8)} (hls:Zi (Zu s [10]) [10]=ls) (hi:0<ls.length) (hx:(rd ls 0).length <=1000000) (hw:Xt 32 [] (rd ls 0)=w::r):
  Zc s .h3 =pT (w::r) false (.to .h5) (eF CJ):=by
 have hW:Zi (rd ls 0) [32]=w::r:=by rw [RN];exact hw
 unfold Zc;simp only [hls,hW];rw [Zp (Yb (by omega)),Zp (Di (j:=0) (by omega) (by omega))];rw [Zp (show Jp (rd ls 0) [32]=true by unfold Jp;rw [Aa (show (rd ls 0).length <4294967281 by omega)];rfl)];rfl
theorem v5l {s:List UInt8} {ls:List (List UInt8)} (hls:Zi (Zu s [10]) [10]=ls) (hi:0<ls.length) (hx:(rd ls 0).length <=1000000):
  ∃M,∀N,Yw (Zc s) (N+M) (.to .h3)=Du (fun p t' x y z=>Yw (Zc s) N (.to (.h7 [p] 1 t' x y z [] []))) (fun q=>eF CJ) (Dn (rd ls 0)):=by
 have hne:=IY 32 (rd ls 0) [];have hpc: ∀p,p∈Xt 32 [] (rd ls 0)->p.length<=(rd ls 0).length :=fun p hp=>by have:=Ka 32 (rd ls 0) [] p hp;simpa using this
 unfold Dn;cases hw:Xt 32 [] (rd ls 0) with
 | nil=>exact absurd hw hne
 | cons w r=>
  rw [hw] at hpc;have hs: ∀p∈r,p.length<=1000000:=fun p hp=>by have:=hpc p (AK _ hp);omega
  have e:=Mh (s:=s) hls hi hx hw;rw [Sv hs] at e;rw [Qq];cases gw:decide (w=CP) with
  | true=>
   rw [gw,Af] at e;rw [Af]
   match r,hs,hw,e with
   | [],_,_,e=>exact ⟨1,fun N=>by rw [Zw,e];exact Vq _ _⟩
   | p::q,hs,hw,e=>
    have e:Zc s .h3 =bif decide (q.length=4)&&(!decide (p=[])&&decide (C6 p=0)) then _ else _:=e;show∃M,∀N,_=Du _ _ (bif decide (q.length=4)&&(!decide (p=[])&&decide (C6 p=0)) then (Jh q).bind (D8 p) else none);cases g2:decide (q.length=4)&&(!decide (p=[])&&decide (C6 p=0)) with
    | false=>rw [g2,Ab] at e;exact ⟨1,fun N=>by rw [Zw,e];exact Vq _ _⟩
    | true=>
     rw [g2,Af] at e;have e5:Zc s .h3 =.to .h5 :=e;rw [Ad,Ak] at g2
     match q,g2.1,hs,hw with
     | [e1,e2,e3,e4],_,hs,hw=>refine ⟨6,fun N=> ?_⟩;rw [show N+6=(N+5)+1 from rfl,Zw,e5,Af];rw [v5k (X:=rd ls 0) (by rw [hls]) (by rw [RN];exact hw) (hs e1 (by simp)) (hs e2 (by simp)) (hs e3 (by simp)) (hs e4 (by simp)) N]
  | false=>
   rw [gw,Ab] at e;rw [Ab];refine ⟨1,fun N=> ?_⟩;rw [Zw,e];cases g2:decide (w=CW)&&decide (r.length=6) with
   | false=>exact Vq _ _
   | true=>
    rw [Af];cases hq:Jh r with
    | none=>exact Vq _ _
    | some L=>
     show _=Du _ _ (EF L);unfold EF;split
     .exact Vq _ _
     .exact Vq _ _
theorem v5m {s:List UInt8} {ls:List (List UInt8)} (hls:Zi (Zu s [10]) [10]=ls) (hn:ls.length<=1000000): ∀(k i c:Nat),i+k=ls.length->c<=i-> ∀N,
  Yw (Zc s) (N+k) (.to (.h1 (c:Int) (i:Int)))=Yw (Zc s) N (.to (.h1 ((c+DC (ls.drop i):Nat):Int) (ls.length:Int)))
 | 0,i,c,hk,hc,N=>by rw [Aw (by omega),show i=ls.length by omega];rfl
 | k+1,i,c,hk,hc,N=>by
  have hi:i<ls.length:=by omega
  have w1:wrap .i64 ((i:Int)+1)=((i+1:Nat):Int):=Zm (by omega);have w2:wrap .i64 ((c:Int)+1)=((c+1:Nat):Int):=Zm (by omega);have e:Zc s (.h1 (c:Int) (i:Int))=.to (.h1 ((c+(bif (rd ls i).take 5 == Ei then 1 else 0):Nat):Int) ((i+1:Nat):Int)):=by
   unfold Zc;simp only [hls,Zj,w1,w2,AR];rw [Zp (Yb (by omega)),Aq,Zp (Ym (by omega))];generalize rd ls i=x;by_cases g:5<=x.length
   .rw [Aa (show (x.length:Int)>=5 by omega),Aa g,Af,Af];show (bif x.take 5 == Ei then _ else _)=_;cases x.take 5 == Ei <;> rfl
   .rw [Ai (show ¬(x.length:Int)>=5 by omega),Ab];have:(x.take 5 == Ei)=false:=by rw [IQ];refine Ai fun h=> ?_;have:=Au List.length h;rw [Bl] at this;have e5:Ei.length=5:=rfl;omega
    rw [this];rfl
  have hb:(bif (rd ls i).take 5 == Ei then 1 else 0)<=1:=by cases (rd ls i).take 5 == Ei <;> simp
  rw [show N+(k+1)=(N+k)+1 from rfl,Zw,e,v5m hls hn k (i+1) _ (by omega) (by omega) N,Xx hi,v0b,AO]
theorem Mi {s:List UInt8} {ls:List (List UInt8)} (hls:Zi (Zu s [10]) [10]=ls) (m:Nat):
  Zc s (.h1 (m:Int) (ls.length:Int))=bif decide (60000<s.length)||decide (200<m) then .ret [.nils,.int .i64 4] else bif !(EN s [10]) then eF CJ else .to .h3 :=by
 unfold Zc;simp only [hls];rw [Yt (by omega),Ab];rw [show decide ((s.length:Int)>60000)=decide (60000<s.length) by rw [AS,Ak,Ak];omega];rw [show decide ((m:Int)>200)=decide (200<m) by rw [AS,Ak,Ak];omega];cases decide (60000<s.length) <;> cases decide (200<m) <;> rfl
theorem v6k (l:List (List UInt8)):DC (l++[[]])=DC l:=by unfold DC;rw [List.filter_append,Ap];rfl
theorem j1x (s:List UInt8) (h:Ia s=true): ∃N vs,Yw (Zc s) N (L6 s)=.ret vs/\(vs=Dk s\/(vs=[.nils,.int .i64 0]/\Dj s=([],0))):=by
 have hs:s.length<=100000:=Av h;by_cases h0:s=[]
 .subst h0;refine ⟨3,[.nils,.int .i64 0],?_,.inr ⟨rfl,?_⟩⟩
  .have e4:Zc [] .h4 =.ret [.nils,.int .i64 0]:=by unfold Zc;simp only [];rw [Zp (show Yk ([]:List B5)=true from rfl),v3u];rfl
   show Yw (Zc []) 3 (.to .h0)=_;rw [Zw,show Zc [] .h0 =.to .h2 from rfl,Zw,show Zc [] .h2 =.to .h4 from rfl,Zw,e4];rfl
  .show Fi (some ([],[]))=_;exact Rg v3u
 .have fK:1<=s.length:=by
   cases s with
   | nil=>exact absurd rfl h0
   | cons a l=>rw [At];omega
  obtain ⟨t,b,hb⟩: ∃t b,s=t++[b]:=⟨s.dropLast,s.getLast h0,(BL h0).symm⟩
  have eE:s.length=t.length+1:=by rw [hb,Ap,AJ]
  have hc1:EN s [10]=(b == 10):=by unfold EN;rw [Aa (show ([10]:List UInt8).length <=s.length from fK),Ar,show s.length - ([10]:List UInt8).length =t.length from by rw [AJ];omega,hb,List.drop_left];show (b == 10&&([]:List UInt8) == [])=_;rw [show (([]:List UInt8) == [])=true from rfl,Aq]
  have hso:Qz s [10]=true:=by unfold Qz;rw [Aa (show s.length<=1000000 by omega)];rfl
  have hco:Jp (Zu s [10]) [10]=true:=by have:=v8g (s:=s) (f:=[10]);unfold Jp;rw [Aa (show (Zu s [10]).length <4294967281 by omega)];rfl
  have hstart:L6 s=.to (.h1 ((0:Nat):Int) ((0:Nat):Int)):=by
   unfold L6;rw [show (s == ([]:List UInt8))=false by cases s with
    | nil=>exact absurd rfl h0
    | cons a l=>rfl,Ab,Zp hso,Zp hco];rfl
  have hV: ∀ls,Zi (Zu s [10]) [10]=ls->ls.length<=900000-> ∀N,Yw (Zc s) (N+1+ls.length) (L6 s)=Yw (Zc s) N (bif decide (60000<s.length)||decide (200<DC ls) then .ret [.nils,.int .i64 4] else bif !(EN s [10]) then eF CJ else .to .h3):=fun ls hls hn N=>by have hc:=v5m hls (by omega) ls.length 0 0 (Al _) (An _) (N+1);rw [AR,Al] at hc;rw [hstart,hc,Zw,Mi hls]
  have hW4: ∀m,DC (Xt 10 [] s)=m->(decide (60000<s.length)||decide (200<m))=true->Dk s=[.nils,.int .i64 4]:=fun m hm g=>by
   have e:Dj s=([],4):=by unfold Dj;rw [hm,g];rfl
   unfold Dk;rw [e];rfl
  have hWR: ∀m,DC (Xt 10 [] s)=m->(decide (60000<s.length)||decide (200<m))=false->Dk s=Nc ((ER s).bind D1):=fun m hm g=>by rw [AT,AY,AY] at g;exact j2b g.1 (by rw [hm];exact g.2)
  by_cases h10:b=10
  .subst h10;have eP:Zu s [10]=t:=by unfold Zu;rw [hc1,show ((10:UInt8) == 10)=true from rfl,Af,show s.length - ([10]:List UInt8).length =t.length from by rw [AJ];omega,hb,List.take_left]
   have hls:Zi (Zu s [10]) [10]=Xt 10 [] t:=by rw [eP,RN]
   have hne:=IY 10 t [];have hcl:=UR 10 t [];have hp:0<(Xt 10 [] t).length :=BT.2 hne;have hcs:Xt 10 [] s=Xt 10 [] t++[[]]:=by rw [hb,U4]
   have hm:DC (Xt 10 [] s)=DC (Xt 10 [] t):=by rw [hcs,v6k]
   have hr:ER s=some (Xt 10 [] t):=by unfold ER;rw [hb,U4,List.getLast?_append,List.getLast?_singleton];show some ((Xt 10 [] t++[[]]).dropLast)=_;rw [List.dropLast_concat]
   have hx: ∀p∈Xt 10 [] t,p.length<=1000000:=fun p hp=>by have:=Ka 10 t [] p hp;simp at this;omega
   have hV:=hV _ hls (by omega);rw [hc1] at hV;cases g:decide (60000<s.length)||decide (200<DC (Xt 10 [] t)) with
   | true=>rw [g] at hV;exact ⟨0+1+(Xt 10 [] t).length,Dk s,by rw [hV 0,hW4 _ hm g];rfl,.inl rfl⟩
   | false=>
    rw [g] at hV;have hV: ∀N,Yw (Zc s) (N+1+(Xt 10 [] t).length) (L6 s)=Yw (Zc s) N (.to .h3):=hV;have hW:=hWR _ hm g;rw [hr] at hW;have hd:=Xx hp;rw [AR] at hd;have hW:Dk s=Nc (D1 (Xt 10 [] t)):=hW;rw [hd] at hW;obtain ⟨M,hM⟩:=v5l hls hp (hx _ (Ft hp));cases gl:Dn (rd (Xt 10 [] t) 0) with
    | none=>rw [gl] at hM;refine ⟨0+M+1+(Xt 10 [] t).length,Dk s,?_,.inl rfl⟩;rw [hV (0+M),hM 0,hW,D1,gl];rfl
    | some q=>
     cases q with
     | box r=>rw [gl] at hM;refine ⟨0+M+1+(Xt 10 [] t).length,Dk s,?_,.inl rfl⟩;rw [hV (0+M),hM 0,hW,D1,gl];rfl
     | nod p t' x y z=>rw [gl] at hM;obtain ⟨q1,q2⟩:=Yl gl;obtain ⟨N,hN⟩:=w1k hls hx (by omega) ((Xt 10 [] t).length - 1) 1 [p] t' x y z [] [] (by omega) (AF _) (AF _) rfl (fun u hu=>by rw [AX.1 hu];exact q1 (hx _ (Ft hp))) (fun u hu=>by cases hu) q2;refine ⟨N+M+1+(Xt 10 [] t).length,Dk s,?_,.inl rfl⟩;rw [hV (N+M),hM N,hW,D1,gl];exact hN
  .have hbe:(b == 10)=false:=by rw [A8];exact fun e=>h10 (AU.1 e)
   have eP:Zu s [10]=s:=by unfold Zu;rw [hc1,hbe];rfl
   have hls:Zi (Zu s [10]) [10]=Xt 10 [] s:=by rw [eP,RN]
   have hcl:=UR 10 s [];have hV:=hV _ hls (by omega);rw [hc1,hbe] at hV;have hr:ER s=none:=by
    unfold ER;cases hc:(Xt 10 [] s).getLast? with
    | none=>rfl
    | some p=>
     cases p with
     | cons _ _=>rfl
     | nil=>
      exfalso;rcases YW 10 s [] hc with ⟨_,e⟩ | ⟨t',e⟩
      .exact h0 e
      .rw [hb] at e;have:=List.append_inj_right' e rfl;injection this with this _;exact h10 this
   cases g:decide (60000<s.length)||decide (200<DC (Xt 10 [] s)) with
   | true=>rw [g] at hV;exact ⟨0+1+(Xt 10 [] s).length,Dk s,by rw [hV 0,hW4 _ rfl g];rfl,.inl rfl⟩
   | false=>rw [g] at hV;exact ⟨0+1+(Xt 10 [] s).length,Dk s,by rw [hV 0,hWR _ rfl g,hr];rfl,.inl rfl⟩
theorem j4n {S:B6} (hS:Zv prog S):Zv prog (S.with Si OM):=GS hS (by kernel_rfl) fun args v h=>by
 unfold OM at h;split at h
 .rename_i s;simp only [Ae,Ac] at h;obtain ⟨rfl,ho⟩:=h;obtain ⟨N,vs,hN,hv⟩:=j1x s ho;exact ⟨_,vs,.cons (.refl _) .nil,Mf hv,u2f s N _ hN,5,Me hv⟩
 .cases h
def Dc (b:UInt8) (x:List UInt8):Prop:= ∀c∈x,c≠b
theorem w1x {b:UInt8} {x y:List UInt8} (hx:Dc b x) (hy:Dc b y):Dc b (x++y):=fun c hc=>by
 rcases AM.1 hc with h | h
 .exact hx c h
 .exact hy c h
theorem V5 {b:UInt8}: ∀(x cur rest:List UInt8),Dc b x->Xt b cur (x++rest)=Xt b (cur++x) rest
 | [],cur,rest,h=>by rw [A1,AL]
 | c::x,cur,rest,h=>by
  have hc:(c == b)=false:=by have:=h c AQ;simp [this]
  rw [AZ,Xt,hc,Ab,V5 x (cur++[c]) rest fun d hd=>h d (AK _ hd),AH];rfl
def EG (b:UInt8):List (List UInt8)->List UInt8
 | []=>[]
 | x::l=>x++b::EG b l
def Dg (b:UInt8):List (List UInt8)->List UInt8
 | []=>[]
 | x::l=>b::(x++Dg b l)
theorem v8d {b:UInt8}: ∀(ls:List (List UInt8)),(∀x∈ls,Dc b x)->Xt b [] (EG b ls)=ls++[[]]
 | [],_=>rfl
 | x::l,h=>by rw [EG,V5 x [] _ (h x AQ),A1,Xt,Bp,Af,v8d l fun y hy=>h y (AK _ hy)];rfl
theorem w7m {b:UInt8}: ∀(ws:List (List UInt8)) (cur:List UInt8),(∀x∈ws,Dc b x)->Xt b cur (Dg b ws)=cur::ws
 | [],cur,_=>rfl
 | x::l,cur,h=>by rw [Dg,Xt,Bp,Af,V5 x [] _ (h x AQ),A1,w7m l x fun y hy=>h y (AK _ hy)]
theorem x8h {b:UInt8} {w:List UInt8} {ws:List (List UInt8)} (hw:Dc b w) (h: ∀x∈ws,Dc b x):Xt b [] (w++Dg b ws)=w::ws:=by rw [V5 w [] _ hw,A1,w7m ws w h]
theorem U5 {b:UInt8}: ∀(s cur:List UInt8),∃p l,Xt b cur s=p::l/\p++Dg b l=cur++s
 | [],cur=>⟨cur,[],rfl,by simp [Dg]⟩
 | x::r,cur=>by
  rw [Xt];cases h:x == b with
  | true=>
   obtain ⟨p,l,e1,e2⟩:=U5 (b:=b) r [];refine ⟨cur,p::l,by rw [Af,e1],?_⟩;have:x=b:=by simpa using h
   rw [this,Dg,e2];rfl
  | false=>obtain ⟨p,l,e1,e2⟩:=U5 (b:=b) r (cur++[x]);exact ⟨p,l,by rw [Ab,e1],by rw [e2];simp⟩
theorem w7k {b:UInt8}: ∀(l:List (List UInt8)) (p:List UInt8),p++Dg b (l++[[]])=EG b (p::l)
 | [],p=>by simp [Dg,EG]
 | x::l,p=>by rw [AZ,Dg,w7k l x,EG];rfl
theorem u0w {s:List UInt8} {ls:List (List UInt8)} (h:ER s=some ls):s=EG 10 ls:=by
 unfold ER at h;obtain ⟨p,l,e1,e2⟩:=U5 (b:=10) s [];rw [e1] at h;rw [A1] at e2;cases hg:(p::l).getLast? with
 | none=>rw [hg] at h;cases h
 | some q=>
  rw [hg] at h
  match q,hg,h with
  | [],hg,h=>
   obtain rfl:=Ag h;have hne:p::l≠ []:=by simp
   have e3:(p::l).dropLast ++[[]]=p::l:=by
    have e4:=BL hne;have e5:(p::l).getLast hne=[]:=by have:=List.getLast?_eq_some_getLast hne;rw [hg] at this;exact (Ag this).symm
    rwa [e5] at e4
   rw [<-e2];cases hl:(p::l).dropLast with
   | nil=>rw [hl] at e3;have e3: [([]:List UInt8)]=p::l:=e3;injection e3 with a b;subst a;subst b;rfl
   | cons u v=>rw [hl] at e3;have e3:u::(v++[[]])=p::l:=e3;injection e3 with a b;subst a;subst b;rw [w7k]
  | _::_,hg,h=>cases h
theorem v7v {b:UInt8}: ∀(l m:List (List UInt8)),EG b (l++m)=EG b l++EG b m
 | [],m=>rfl
 | x::l,m=>by rw [AZ,EG,EG,v7v l m];simp
theorem x8g : ∀(u:Nat),∀c∈decDigits u,48<=c.toNat/\c.toNat<=57:=by
 intro u
 induction u using Nat.strongRecOn with
 | _ u ih=>
  intro c hc;by_cases g:u<10
  .rw [decDigits,dif_pos g,AX] at hc;subst hc;rw [Q4 g];omega
  .rw [decDigits,dif_neg g] at hc;rcases AM.1 hc with h | h
   .exact ih (u / 10) (by omega) c h
   .rw [AX] at h;subst h;rw [Q4 (by omega)];omega
theorem v0v {n:Int} {c:UInt8} (h:c∈itoa n):45<=c.toNat/\c.toNat<=57:=by
 unfold itoa at h;split at h
 .cases h with
  | head=>decide
  | tail _ h=>have:=x8g _ c h;omega
 .have:=x8g _ c h;omega
theorem j3f (n:Int) {b:UInt8} (hb:b.toNat<45):Dc b (itoa n):=fun c hc e=>by subst e;have:=v0v hc;omega
theorem G2 {n:Int} (h: -1000000<=n/\n<=1000000):(itoa n).length <=8:=(x8m rfl (by omega) (by omega)).2.1
theorem x1k : ∀(i:Nat) (x:List UInt8),Fh i x=true-> ∀c∈x,45<=c.toNat
 | _,[],_=>fun c hc=>by cases hc
 | i,d::x,h=>fun c hc=>by
  rw [Fh,Ad] at h;cases hc with
  | head=>have h1:=h.1;unfold HO GP digN at h1;simp only [Bz,Ad,Ak] at h1;omega
  | tail _ hc=>exact x1k (i+1) x h.2 c hc
theorem w9y {x:List UInt8} (h:Cd x=true): ∀c∈x,45<=c.toNat:=by unfold Cd at h;rw [Ad,Ad] at h;exact x1k 0 x h.2.2
theorem j2i {x:List UInt8} (h:Cd x=true):x≠ []:=by unfold Cd at h;rw [Ad,Ak] at h;intro e;rw [e] at h;exact absurd h.1 (by decide)
theorem v0u : ∀(L:List (List UInt8)),(∀p∈L,∀c∈p,45<=c.toNat)-> ∀c∈Lib.join L [47],45<=c.toNat:=by
 have tl: ∀(L:List (List UInt8)),(∀p∈L,∀c∈p,45<=c.toNat)-> ∀c∈joinTail [47] L,45<=c.toNat:=fun L=>by
  induction L with
  | nil=>intro _ c hc;cases hc
  | cons x r ih=>
   intro h c hc;rw [Ko] at hc;rcases AM.1 hc with hc | hc
   .rcases AM.1 hc with hc | hc
    .rw [AX.1 hc];decide
    .exact h x AQ c hc
   .exact ih (fun p hp=>h p (AK _ hp)) c hc
 intro L h c hc;cases L with
 | nil=>cases hc
 | cons x r=>
  rw [join_cons] at hc;rcases AM.1 hc with hc | hc
  .exact h x AQ c hc
  .exact tl r (fun p hp=>h p (AK _ hp)) c hc
theorem x2r : ∀(l:List Int),FI l=Dg 32 (l.map itoa)
 | []=>rfl
 | n::l=>by rw [FI,A5,Dg,x2r l]
def GE (x:B5):List Int:=[x.t,x.x,x.y,x.z]
def FY (r:R6):List Int:=[r.a,r.b,r.c,r.d,r.e,r.f]
def Pw (p:List UInt8) (x:B5):List UInt8:=CP++Dg 32 (p::(GE x).map itoa)
def Ez (r:R6):List UInt8:=CW++Dg 32 ((FY r).map itoa)
def EB (p:List UInt8) (x:B5):List (List UInt8):=Pw p x::x.s.map Ez
def DO (l:List B5):Nat->Nat->List (List UInt8)
 | 0,_=>[]
 | k+1,i=>EB (Wv l (i:Int)) (rd l i)++DO l k (i+1)
theorem v6a (p:List UInt8) (x:B5):FA p x=Pw p x++[10]:=by
 unfold FA Pw;rw [x2r];show [110,111,100,101,32]++p++(Dg 32 ((GE x).map itoa)++[10])=([110,111,100,101]++32::(p++Dg 32 ((GE x).map itoa)))++[10]
 simp
theorem v8n (r:R6):Fd r=Ez r++[10]:=by unfold Fd Ez;rw [x2r,<-AH];rfl
theorem x2e : ∀s:List R6,E2 s=EG 10 (s.map Ez)
 | []=>rfl
 | r::l=>by rw [E2,A5,EG,v8n,x2e l,AH];rfl
theorem u0z (l:List B5) (i:Nat):FC l i=EG 10 (EB (Wv l (i:Int)) (rd l i)):=by unfold FC EB;rw [v6a,x2e,EG,AH];rfl
theorem ZJ (l:List B5): ∀k i,Kc l k i=EG 10 (DO l k i)
 | 0,i=>rfl
 | k+1,i=>by rw [Kc,DO,v7v,u0z,ZJ l k (i+1)]
theorem ZD : ∀L:List Int,(∀n∈L,-9999999<=n/\n<=9999999)->Jh (L.map itoa)=some L
 | [],_=>rfl
 | n::L,h=>by have hn:=h n AQ;rw [A5,Wh,v5w rfl hn.1 hn.2,ZD L fun m hm=>h m (AK _ hm)];rfl
theorem v6c :Dc 32 CP:=by unfold Dc CP;decide
theorem u2s :Dc 32 CW:=by unfold Dc CW;decide
theorem W1 (L:List Int) {b:UInt8} (hb:b.toNat<45): ∀x∈L.map itoa,Dc b x:=fun x hx=>by obtain ⟨n,_,rfl⟩:=BR.1 hx;exact j3f n hb
theorem u8v {x:List UInt8} (h: ∀c∈x,45<=c.toNat) {b:UInt8} (hb:b.toNat<45):Dc b x:=fun c hc e=>by subst e;have:=h c hc;omega
theorem w6m {p:List UInt8} {x:B5} (hp:Fm p) (hb: ∀c∈p,45<=c.toNat) (hx:E7 x):Dn (Pw p x)=some (.nod p x.t x.x x.y x.z):=by
 have ht:=hx.t;have h1:=hx.x;have h2:=hx.y;have h3:=hx.z;unfold Dn Pw;rw [x8h v6c (fun y hy=>by
  rcases AP.1 hy with rfl | hy
  .exact u8v hb (by decide)
  .exact W1 (GE x) (by decide) y hy),Qq,Aa rfl,Af]
 show (bif decide (((GE x).map itoa).length =4)&&(!decide (p=[])&&decide (C6 p=0)) then (Jh ((GE x).map itoa)).bind (D8 p) else none)=_;rw [Aa (show ((GE x).map itoa).length =4 from rfl),Ai hp.1,Aa hp.2.1];show (Jh ((GE x).map itoa)).bind (D8 p)=_;rw [ZD (GE x) (fun n hn=>by simp only [GE,AP,List.mem_nil_iff,or_false] at hn;omega)];show (bif decide (0<=x.t)&&decide (x.t<=23) then some (Ct.nod p x.t x.x x.y x.z) else none)=_;rw [Aa ht.1,Aa (show x.t<=23 by omega)];rfl
theorem u3g {r:R6} (h:(-1000000<=r.a/\r.a<=1000000)/\(-1000000<=r.b/\r.b<=1000000)/\(-1000000<=r.c/\r.c<=1000000)/\(-1000000<=r.d/\r.d<=1000000)/\(-1000000<=r.e/\r.e<=1000000)/\(-1000000<=r.f/\r.f<=1000000)):Dn (Ez r)=some (.box r):=by unfold Dn Ez;rw [x8h u2s (W1 (FY r) (by decide)),Qq,Ai (show ¬CW=CP by decide),Ab,Aa rfl,Aa (show ((FY r).map itoa).length =6 from rfl)];show (Jh ((FY r).map itoa)).bind EF=_;rw [ZD (FY r) (fun n hn=>by simp only [FY,AP,List.mem_nil_iff,or_false] at hn;omega)];rfl
theorem Z2 {x:B5} (hx:E7 x): ∀(s:List R6),(∀r∈s,r∈x.s)-> ∀(rest:List (List UInt8)) (pre:List B5) (q:B5) (ps:List (List UInt8)),D2 (s.map Ez++rest) pre q ps=D2 rest pre {q with s:=q.s++s} ps
 | [],_,rest,pre,q,ps=>by rw [AL];rfl
 | r::s,h,rest,pre,q,ps=>by rw [A5,AZ,D2,u3g (hx.box r (h r AQ))];show D2 (s.map Ez++rest) pre {q with s:=q.s++[r]} ps=_;rw [Z2 hx s (fun y hy=>h y (AK _ hy)),AH];rfl
def C5 (x:B5):B5:=⟨[],0,x.t,x.x,x.y,x.z,x.s⟩
def G4 (l:List B5):Nat->Nat->List (List UInt8)
 | 0,_=>[]
 | k+1,i=>Wv l (i:Int)::G4 l k (i+1)
structure F0 (l:List B5):Prop where
 node: ∀i,i<l.length->E7 (rd l i)
 path: ∀i,i<l.length->Fm (Wv l (i:Int))
 byte: ∀i,i<l.length-> ∀c∈Wv l (i:Int),45<=c.toNat
theorem x6c {l:List B5} (h:F0 l): ∀(k i:Nat) (pre:List B5) (q:B5) (ps:List (List UInt8)),i+k=l.length->D2 (DO l k i) pre q ps=some (pre++[q]++(l.drop i).map C5,ps++G4 l k i)
 | 0,i,pre,q,ps,hk=>by rw [Aw (by omega)];show some (pre++[q],ps)=some (pre++[q]++[],ps++[]);rw [AL,AL]
 | k+1,i,pre,q,ps,hk=>by
  have hi:i<l.length:=by omega
  have hx:=h.node i hi;rw [DO,EB,AZ,D2,w6m (h.path i hi) (h.byte i hi) hx];show D2 ((rd l i).s.map Ez++DO l k (i+1)) (pre++[q]) ⟨[],0,(rd l i).t,(rd l i).x,(rd l i).y,(rd l i).z,[]⟩ (ps++[Wv l (i:Int)])=_;rw [Z2 hx (rd l i).s (fun _ hr=>hr),x6c h k (i+1) _ _ _ (by omega),Xx hi,A5,G4];show some (pre++[q]++[C5 (rd l i)]++(l.drop (i+1)).map C5,ps++[Wv l (i:Int)]++G4 l k (i+1))=_;simp
theorem u0g {l:List B5} (h:F0 l):D1 (DO l l.length 0)=some (l.map C5,G4 l l.length 0):=by
 cases hn:l.length with
 | zero=>have:l=[]:=Bt hn;subst this;rfl
 | succ k=>
  have hi:0<l.length:=by omega
  have hx:=h.node 0 hi;have hp:=h.path 0 hi;have hb:=h.byte 0 hi;have e0:((0:Nat):Int)=0:=rfl;rw [DO,EB,AZ,D1,w6m hp hb hx];show D2 ((rd l 0).s.map Ez++DO l k (0+1)) [] ⟨[],0,(rd l 0).t,(rd l 0).x,(rd l 0).y,(rd l 0).z,[]⟩ [Wv l ((0:Nat):Int)]=_;rw [Z2 hx (rd l 0).s (fun _ hr=>hr),x6c h k 1 _ _ _ (by omega),G4];have hd:=Xx hi;rw [AR] at hd;have e:l.map C5=C5 (rd l 0)::(l.drop 1).map C5:=by
   conv=>lhs;rw [hd]
   rfl
  rw [e];rfl
theorem x7f (l:List B5): ∀k i j,j<k->rd (G4 l k i) j=Wv l ((i+j:Nat):Int)
 | 0,_,_,h=>absurd h (AC _)
 | k+1,i,0,_=>rfl
 | k+1,i,j+1,h=>by show rd (G4 l k (i+1)) j=_;rw [x7f l k (i+1) j (by omega),show i+1+j=i+(j+1) by omega]
theorem x8e {ps:List (List UInt8)} {p:List UInt8}: ∀(k j q:Nat),j<=q->q<j+k->rd ps q=p->(∀m,j<=m->m<q->rd ps m≠p)->Kr ps p k j=some q
 | 0,j,q,h1,h2,_,_=>by omega
 | k+1,j,q,h1,h2,h3,h4=>by
  rw [Kr];by_cases e:j=q
  .subst e;rw [h3,Bp];rfl
  .rw [show (rd ps j == p)=false by rw [IQ];exact Ai (h4 j (An _) (by omega)),Ab];exact x8e k (j+1) q (by omega) (by omega) h3 fun m hm hq=>h4 m (by omega) hq
theorem j1v {l:List B5} {i:Nat} (h:Fn l i) (hp:Wv l (i:Int)≠ []):Jz (Wv l (i:Int))=(DF l (rd l i).a).reverse ++[(rd l i).n]:=by have e:=Qp h.1 (An i);rw [WL hp];have hj:Wv l (i:Int)=Lib.join (DF l (i:Int)).reverse [47]:=rfl;rw [hj,YV (L:=(DF l (i:Int)).reverse) (by rw [e];simp) (show∀p∈(DF l (i:Int)).reverse,HY p from fun p hp=>VY h _ _ (BG _) p (B1.1 hp)),e,BY]
theorem u5e {l:List B5} {ps:List (List UInt8)} {i:Nat} (hn:GN l l.length) (hok: ∀j,j<l.length->Fn l j) (hi:i<l.length) (hps: ∀j,j<l.length->rd ps j=Wv l (j:Int)) (hp:Wv l (i:Int)≠ []):Er ps i=some ((rd l i).a,(rd l i).n):=by
 have hr:=j1v (hok i hi) hp;have hb:=EC (hok i hi).1 (An i);rw [<-hps i hi] at hr;rcases Na (rd l i).a 0 with a1 | a1
 .rw [P6 l a1] at hr;have ha:=x4x (ps:=ps) (i:=i) (by rw [hr];rfl);rw [hr] at ha;rw [ha,show (rd l i).a = -1 by omega];rfl
 .obtain ⟨q,hq⟩: ∃q:Nat,(rd l i).a =(q:Int):=⟨(rd l i).a.toNat,by omega⟩
  have hqi:q<i:=by omega
  have eq:=Qp (hok q (by omega)).1 (An q);have eE:(DF l (rd l i).a).reverse ≠ []:=by rw [hq,eq];simp
  have fK:=BT.2 eE;have ha:=x4w (ps:=ps) (i:=i) (by rw [hr,Ap,AJ];omega);rw [hr,List.dropLast_concat] at ha;have hv:GJ (DF l (rd l i).a).reverse =Wv l (q:Int):=by rw [hq];rfl
  have hl:rd ((DF l (rd l i).a).reverse ++[(rd l i).n]) (((DF l (rd l i).a).reverse ++[(rd l i).n]).length - 1)=(rd l i).n :=by rw [Ap,AJ,Nat.add_sub_cancel,YO (An _),Nat.sub_self];rfl
  have hf:Kr ps (Wv l (q:Int)) i 0=some q:=x8e i 0 q (AF _) (by omega) (hps q (by omega)) fun m _ hm e=>by rw [hps m (by omega)] at e;have:=(w5r (hok q (by omega)) (fun a b hab hbq=>hn a b hab (by omega)) hm).1 e;exact hn m q hm (by omega) this
  rw [hv,hl,hf] at ha;rw [ha,hq]
theorem y6l {l:List B5} {ps:List (List UInt8)} (hA: ∀i,i<l.length->Er ps i=some ((rd l i).a,(rd l i).n)): ∀(k i:Nat) (M:List B5),i+k=l.length->M.length=l.length->(∀j,j<i->rd M j=rd l j)->(∀j,i<=j->j<l.length->rd M j=C5 (rd l j))->Wd ps k i M=some l
 | 0,i,M,hk,hm,h1,h2=>by
  show some M=some l
  congr 1
  refine Bo hm fun j a b=> ?_;rw [<-Wb a,<-Wb b];exact h1 j (by omega)
 | k+1,i,M,hk,hm,h1,h2=>by
  have hi:i<l.length:=by omega
  rw [Wd,hA i hi];have e:=h2 i (An _) hi;show Wd ps k (i+1) (M.set i {rd M i with n:=(rd l i).n,a:=(rd l i).a})=some l;have e2:({rd M i with n:=(rd l i).n,a:=(rd l i).a}:B5)=rd l i:=by rw [e];rfl
  rw [e2];refine y6l hA k (i+1) _ (by omega) (by rw [Bg];exact hm) (fun j hj=> ?_) fun j hj hjl=> ?_
  .rw [Ij (by omega)];by_cases g:j=i
   .rw [AG g,g]
   .rw [Az g];exact h1 j (by omega)
  .rw [Ij (by omega),Az (by omega)];exact h2 j (by omega) hjl
theorem w5e {l:List B5} (ho:Yk l=true) (ht:(l.all fun x=>decide (0<=x.t))=true) (h:Un l=0):F0 l/\GN l l.length/\ ∀j,j<l.length->Fn l j:=by
 have h':(Un l != 0)=false:=by rw [h];rfl
 obtain ⟨h1,h2,h3⟩:=L8 h';have hok: ∀j,j<l.length->Fn l j:=fun j hj=>RM h' hj;have hne: ∀i,i<l.length->Wv l (i:Int)≠ []:=fun i hi e=>by
  have e1:=Qp (hok i hi).1 (An i);have hj:Wv l (i:Int)=Lib.join (DF l (i:Int)).reverse [47]:=rfl;rw [hj,e1,BY] at e;have hn:=j2i ((hok i hi).2 i (An i));cases hr:(DF l (rd l i).a).reverse with
  | nil=>rw [hr] at e;exact hn (by simpa [join_one] using e)
  | cons x r=>
   rw [hr,AZ,join_cons] at e;have hl:=Au List.length e;cases r with
   | nil=>rw [A1,Ko] at hl;simp at hl
   | cons y r=>rw [AZ,Ko] at hl;simp at hl
 have hb: ∀i,i<l.length-> ∀c∈Wv l (i:Int),45<=c.toNat:=fun i hi=>by
  refine v0u _ fun p hp=> ?_;have fB: ∀(k:Nat) (j:Int),j<=(i:Int)-> ∀p∈C3 l k j,∀c∈p,45<=c.toNat:=fun k=>by
   induction k with
   | zero=>intro j _ p hp;cases hp
   | succ k ih=>
    intro j hj p hp;unfold C3 at hp;by_cases g:0<=j
    .obtain ⟨m,rfl⟩: ∃m:Nat,j=(m:Int):=⟨j.toNat,by omega⟩
     rw [Aa g,Af,Zj] at hp;have hbb:=EC (hok i hi).1 (show m<=i by omega);rcases AP.1 hp with rfl | hp
     .exact w9y ((hok i hi).2 m (by omega))
     .exact ih _ (by omega) p hp
    .rw [Ai g] at hp;cases hp
  exact fB _ _ (BG _) p (B1.1 hp)
 refine ⟨⟨fun i hi=>v3t ht h hi,fun i hi=>⟨hne i hi,?_,?_⟩,hb⟩,x1u h3,hok⟩
 .have:=h3 i hi;unfold DY at this;rw [AT,AT] at this
  simpa using this.2.1
 .exact PJ (QE ho (by omega) hi (hok i hi))
theorem w5j {l:List B5} (h:F0 l): ∀(k i:Nat),i+k=l.length-> ∀x∈DO l k i,Dc 10 x
 | 0,i,_,x,hx=>by cases hx
 | k+1,i,hk,x,hx=>by
  have hi:i<l.length:=by omega
  rw [DO] at hx;have htail: ∀(L:List (List UInt8)),(∀y∈L,Dc 10 y)->Dc 10 (Dg 32 L):=fun L=>by
   induction L with
   | nil=>intro _ c hc;cases hc
   | cons y L ih=>
    intro hy;rw [Dg];intro c hc;rcases AP.1 hc with rfl | hc
    .decide
    .exact w1x (hy y AQ) (ih fun z hz=>hy z (AK _ hz)) c hc
  rcases AM.1 hx with hx | hx
  .rcases AP.1 hx with rfl | hx
   .refine w1x (by unfold Dc CP;decide) (htail _ fun y hy=> ?_);rcases AP.1 hy with rfl | hy
    .exact u8v (h.byte i hi) (by decide)
    .exact W1 _ (by decide) y hy
   .obtain ⟨r,_,rfl⟩:=BR.1 hx;exact w1x (by unfold Dc CW;decide) (htail _ (W1 _ (by decide)))
  .exact w5j h k (i+1) (by omega) x hx
theorem x5s {l:List B5} (ho:Yk l=true) (ht:(l.all fun x=>decide (0<=x.t))=true) (h:Un l=0) (eE:(Kc l l.length 0).length <=60000) (hm:(DO l l.length 0).length <=200):Dj (Kc l l.length 0)=(l,0):=by
 obtain ⟨hT,hn,hok⟩:=w5e ho ht h;have hc:Xt 10 [] (Kc l l.length 0)=DO l l.length 0++[[]]:=by rw [ZJ,v8d _ (w5j hT l.length 0 (Al _))]
 have hr:ER (Kc l l.length 0)=some (DO l l.length 0):=by unfold ER;rw [hc,List.getLast?_append,List.getLast?_singleton];show some ((DO l l.length 0++[[]]).dropLast)=_;rw [List.dropLast_concat]
 have hmany:DC (Xt 10 [] (Kc l l.length 0))<=200:=by
  rw [hc];have:DC (DO l l.length 0++[[]])=DC (DO l l.length 0):=by unfold DC;rw [List.filter_append,Ap];rfl
  rw [this];exact AN (u2z _) hm
 unfold Dj;rw [Ai (show ¬60000<(Kc l l.length 0).length by omega),Ai (show ¬200<DC (Xt 10 [] (Kc l l.length 0)) by omega),hr];show Fi (D1 (DO l l.length 0))=_;rw [u0g hT];show EX (Wd (G4 l l.length 0) (l.map C5).length 0 (l.map C5))=_;rw [Bs,y6l (ps:=G4 l l.length 0) (fun i hi=>u5e hn hok hi (fun j hj=>by rw [x7f l _ 0 j hj,Al]) (hT.path i hi).1) l.length 0 (l.map C5) (Al _) (Bs _) (fun j hj=>absurd hj (AC _)) (fun j _ hj=>by
  rw [Wb (by rw [Bs];exact hj),BK,Wb hj])]
 exact Rg h
def FG :List B5->List (List UInt8)->List (List UInt8)
 | x::l,p::ps=>EB p x++FG l ps
 | _,_=>[]
theorem VB : ∀(l m:List B5) (ps qs:List (List UInt8)),l.length=ps.length->FG (l++m) (ps++qs)=FG l ps++FG m qs
 | [],m,[],qs,_=>rfl
 | x::l,m,p::ps,qs,h=>by rw [AZ,AZ,FG,FG,VB l m ps qs (by simpa using h),AH]
 | [],m,_::_,qs,h=>by simp at h
 | _::_,m,[],qs,h=>by simp at h
theorem VC (x:B5) (p:List UInt8):FG [x] [p]=EB p x:=by show EB p x++FG [] []=_;exact AL _
theorem ZC : ∀(q:List (List UInt8)) (L:List Int),Jh q=some L->q=L.map itoa
 | [],L,h=>by obtain rfl:=Ag h;rfl
 | w::r,L,h=>by
  rw [Wh] at h;cases hw:C8 w with
  | none=>rw [hw] at h;cases h
  | some n=>
   rw [hw] at h;cases hr:Jh r with
   | none=>rw [hr] at h;cases h
   | some m=>rw [hr] at h;obtain rfl:=Ag h;rw [A5,(v5v hw).1,<-ZC r m hr]
theorem w6n {x:List UInt8} {q:Ct} (h:Dn x=some q):match q with
  | .nod p t a b c=>x=CP++Dg 32 (p::[t,a,b,c].map itoa)/\0<=t/\(x.length<=1000000->Fm p)
  | .box r=>x=Ez r:=by
 obtain ⟨w,r,e1,e2⟩:=U5 (b:=32) x [];rw [A1] at e2;have h0:=h;unfold Dn at h;rw [e1,Qq] at h;cases g:decide (w=CP) with
 | true=>
  rw [g,Af] at h;have hw:=Av g
  match r,h,e2 with
  | [],h,_=>cases h
  | u ::z,h,e2=>
   have h:(bif decide (z.length=4)&&(!decide (u=[])&&decide (C6 u=0)) then (Jh z).bind (D8 u) else none)=some q:=h;cases g2:decide (z.length=4)&&(!decide (u=[])&&decide (C6 u=0)) with
   | false=>rw [g2] at h;cases h
   | true=>
    rw [g2,Af] at h;cases hn:Jh z with
    | none=>rw [hn] at h;cases h
    | some L=>
     rw [hn] at h;have h:D8 u L=some q:=h;have hz:=ZC z L hn;unfold D8 at h;split at h
     .rename_i t x' y z' _;cases g3:decide (0<=t)&&decide (t<=23) with
      | false=>rw [g3] at h;cases h
      | true=>rw [g3,Af] at h;obtain rfl:=Ag h;refine ⟨by rw [<-e2,hw,hz],?_,(Yl h0).1⟩;rw [Ad,Ak] at g3;exact g3.1
     .cases h
 | false=>
  rw [g,Ab] at h;cases g2:decide (w=CW)&&decide (r.length=6) with
  | false=>rw [g2] at h;cases h
  | true=>
   rw [g2,Af] at h;rw [Ad,Ak] at g2;cases hn:Jh r with
   | none=>rw [hn] at h;cases h
   | some L=>
    rw [hn] at h;have h:EF L=some q:=h;have hz:=ZC r L hn;unfold EF at h;split at h
    .obtain rfl:=Ag h;show x=Ez _;rw [<-e2,g2.1,hz];rfl
    .cases h
theorem x2u : ∀(rows:List (List UInt8)) (pre:List B5) (q:B5) (ps:List (List UInt8)) (l:List B5) (Q:List (List UInt8)),D2 rows pre q ps=some (l,Q)->ps.length=pre.length+1->(∀x∈rows,x.length<=1000000)->(∀p∈ps,Fm p)->(∀x∈pre++[q],0<=x.t)->
  FG l Q=FG (pre++[q]) ps++rows/\Q.length=l.length/\(∀p∈Q,Fm p)/\(∀x∈l,0<=x.t)
 | [],pre,q,ps,l,Q,h,hl,hr,hp,ht=>by have h:some (pre++[q],ps)=some (l,Q):=h;injection h with h;injection h with h1 h2;subst h1;subst h2;exact ⟨(AL _).symm,by rw [Ap,AJ,hl],hp,ht⟩
 | x ::rows,pre,q,ps,l,Q,h,hl,hr,hp,ht=>by
  rw [D2] at h;have hx:=hr x AQ;have hr': ∀y∈rows,y.length<=1000000:=fun y hy=>hr y (AK _ hy);cases g:Dn x with
  | none=>rw [g] at h;cases h
  | some z=>
   rw [g] at h;have hi:=w6n g;cases z with
   | nod p t a b c=>
    obtain ⟨i1,i2,i3⟩:=hi;have h:D2 rows (pre++[q]) ⟨[],0,t,a,b,c,[]⟩ (ps++[p])=some (l,Q):=h;obtain ⟨k1,k2,k3,k4⟩:=x2u rows _ _ _ _ _ h (by rw [Ap,Ap,AJ,AJ,hl]) hr' (fun u hu=>by
     rcases AM.1 hu with hu | hu
     .exact hp u hu
     .rw [AX.1 hu];exact i3 hx) (fun u hu=>by
     rcases AM.1 hu with hu | hu
     .exact ht u hu
     .rw [AX.1 hu];exact i2)
    refine ⟨?_,k2,k3,k4⟩;rw [k1,VB (pre++[q]) _ ps _ (by rw [Ap,AJ,hl]),VC];have:EB p ⟨[],0,t,a,b,c,[]⟩=[x]:=by rw [i1];rfl
    rw [this,AH];rfl
   | box r=>
    have h:D2 rows pre {q with s:=q.s++[r]} ps=some (l,Q):=h;obtain ⟨k1,k2,k3,k4⟩:=x2u rows _ _ _ _ _ h hl hr' hp (fun u hu=>by
     rcases AM.1 hu with hu | hu
     .exact ht u (List.mem_append_left _ hu)
     .rw [AX.1 hu];exact ht q (by simp))
    refine ⟨?_,k2,k3,k4⟩;obtain ⟨ps',p,rfl⟩: ∃ps' p,ps=ps'++[p]:=by
     have hne:ps≠ []:=fun e=>by rw [e] at hl;simp at hl
     exact ⟨ps.dropLast,ps.getLast hne,(BL hne).symm⟩
    rw [Ap,AJ] at hl;rw [k1,VB pre _ ps' _ (by omega),VB pre _ ps' _ (by omega),VC,VC];have e:EB p {q with s:=q.s++[r]}=EB p q++[x]:=by have hi:x=Ez r:=hi;rw [hi];unfold EB;rw [List.map_append];rfl
    rw [e];simp only [AH];rfl
theorem v3v {rows:List (List UInt8)} {l:List B5} {Q:List (List UInt8)} (h:D1 rows=some (l,Q)) (hr: ∀x∈rows,x.length<=1000000):FG l Q=rows/\Q.length=l.length/\(∀p∈Q,Fm p)/\(∀x∈l,0<=x.t):=by
 cases rows with
 | nil=>have h:some (([]:List B5),([]:List (List UInt8)))=some (l,Q):=h;injection h with h;injection h with h1 h2;subst h1;subst h2;exact ⟨rfl,rfl,fun p hp=>(by cases hp),fun p hp=>(by cases hp)⟩
 | cons x rows=>
  rw [D1] at h;have hx:=hr x AQ;cases g:Dn x with
  | none=>rw [g] at h;cases h
  | some z=>
   rw [g] at h;have hi:=w6n g;cases z with
   | box r=>cases h
   | nod p t a b c=>
    obtain ⟨i1,i2,i3⟩:=hi;have h:D2 rows [] ⟨[],0,t,a,b,c,[]⟩ [p]=some (l,Q):=h;obtain ⟨k1,k2,k3,k4⟩:=x2u rows _ _ _ _ _ h rfl (fun y hy=>hr y (AK _ hy)) (fun u hu=>by rw [AX.1 hu];exact i3 hx) (fun u hu=>by
     rw [A1] at hu;rw [AX.1 hu];exact i2)
    refine ⟨?_,k2,k3,k4⟩;have:EB p ⟨[],0,t,a,b,c,[]⟩=[x]:=by rw [i1];rfl
    rw [k1,A1,VC,this];rfl
theorem x1a {ps:List (List UInt8)}: ∀(k i:Nat) (l L:List B5),i+k=l.length->Wd ps k i l=some L->L.length=l.length/\(∀j,j<l.length->C5 (rd L j)=C5 (rd l j))/\(∀j,j<i->rd L j=rd l j)/\ ∀j,i<=j->j<l.length->Er ps j=some ((rd L j).a,(rd L j).n)
 | 0,i,l,L,hk,h=>by obtain rfl:=Ag h;exact ⟨rfl,fun _ _=>rfl,fun _ _=>rfl,fun j h1 h2=>by omega⟩
 | k+1,i,l,L,hk,h=>by
  have hi:i<l.length:=by omega
  rw [Wd] at h;cases g:Er ps i with
  | none=>rw [g] at h;cases h
  | some z=>
   obtain ⟨a,n⟩:=z;rw [g] at h;have h:Wd ps k (i+1) (l.set i {rd l i with n:=n,a:=a})=some L:=h;obtain ⟨k1,k2,k3,k4⟩:=x1a k (i+1) _ L (by rw [Bg];omega) h;rw [Bg] at k1 k2 k4;have e:=k3 i (BJ i);rw [Ij hi,AG rfl] at e;refine ⟨k1,fun j hj=> ?_,fun j hj=> ?_,fun j h1 h2=> ?_⟩
   .rw [k2 j hj,Ij hj];by_cases gj:j=i
    .rw [AG gj,gj];rfl
    .rw [Az gj]
   .rw [k3 j (by omega),Ij (by omega),Az (by omega)]
   .by_cases gj:j=i
    .rw [gj,g,e]
    .exact k4 j (by omega) h2
theorem y8d {ps:List (List UInt8)} {p:List UInt8}: ∀(k j q:Nat),Kr ps p k j=some q->rd ps q=p/\j<=q/\q<j+k
 | 0,j,q,h=>by cases h
 | k+1,j,q,h=>by
  rw [Kr] at h;cases g:rd ps j == p with
  | true=>rw [g] at h;obtain rfl:=Ag h;exact ⟨AU.1 g,An _,by omega⟩
  | false=>rw [g] at h;have:=y8d k (j+1) q h;exact ⟨this.1,by omega,by omega⟩
theorem x7u {M:List (List UInt8)} (h:M≠ []) (n:List UInt8):Lib.join (M++[n]) [47]=Lib.join M [47]++47::n:=by
 cases M with
 | nil=>exact absurd rfl h
 | cons x r=>rw [AZ,join_cons,join_cons];simp [joinTail]
theorem w5s {L:List B5} {Q:List (List UInt8)} (hok: ∀j,j<L.length->Fn L j) (hq: ∀j,j<L.length->rd Q j≠ []) (hA: ∀j,j<L.length->Er Q j=some ((rd L j).a,(rd L j).n)): ∀(m i:Nat),i<m->i<L.length->Wv L (i:Int)=rd Q i
 | 0,i,h,_=>absurd h (AC _)
 | m+1,i,him,hi=>by
  have hc:Lib.join (Jz (rd Q i)) [47]=rd Q i:=by rw [WL (hq i hi),w6t]
  have ha:=hA i hi;have hne:=IY 47 (rd Q i) [];rw [<-WL (hq i hi)] at hne;have hj:Wv L (i:Int)=Lib.join (DF L (i:Int)).reverse [47]:=rfl;rw [hj,Qp (hok i hi).1 (An i),BY];by_cases h1:(Jz (rd Q i)).length =1
  .rw [x4x h1] at ha;injection ha with ha;injection ha with a1 a2;rw [<-a1,<-a2,P6 L (by omega)]
   match hr:Jz (rd Q i),h1 with
   | [x],_=>rw [hr] at hc;rw [<-hc];rfl
  .rw [x4w h1] at ha;cases hf:Kr Q (GJ (Jz (rd Q i)).dropLast) i 0 with
   | none=>rw [hf] at ha;cases ha
   | some k=>
    rw [hf] at ha;have ha:some ((k:Int),rd (Jz (rd Q i)) ((Jz (rd Q i)).length - 1))=some ((rd L i).a,(rd L i).n):=ha;injection ha with ha;injection ha with a1 a2;obtain ⟨f1,f2,f3⟩:=y8d _ _ _ hf;have ih:=w5s hok hq hA m k (by omega) (by omega);have ek:=Qp (hok k (by omega)).1 (An k);rw [<-a1,<-a2,x7u (by rw [ek];simp)];have hk:Lib.join (DF L (k:Int)).reverse [47]=Wv L (k:Int):=rfl;rw [hk,ih,f1];have hd:(Jz (rd Q i)).dropLast ++[(Jz (rd Q i)).getLast hne]=Jz (rd Q i):=BL hne;have fK:=BT.2 hne;have hg:rd (Jz (rd Q i)) ((Jz (rd Q i)).length - 1)=(Jz (rd Q i)).getLast hne:=by rw [Wb (by omega),List.getLast_eq_getElem]
    have hd0:(Jz (rd Q i)).dropLast ≠ []:=fun e=>by have:=Au List.length e;rw [List.length_dropLast] at this;simp at this;omega
    have hjoin:Lib.join (Jz (rd Q i)) [47]=Lib.join (Jz (rd Q i)).dropLast [47]++47::(Jz (rd Q i)).getLast hne:=by have:=x7u hd0 ((Jz (rd Q i)).getLast hne);rwa [hd] at this
    rw [hg];exact hjoin.symm.trans hc
theorem v0g {p:List UInt8} {x y:B5} (h:C5 x=C5 y):EB p x=EB p y:=by unfold C5 at h;injection h with _ _ h1 h2 h3 h4 h5;unfold EB Pw GE;rw [h1,h2,h3,h4,h5]
theorem x6h {L l:List B5} {Q:List (List UInt8)} (hl:L.length=l.length) (hQ:Q.length=l.length) (hp: ∀i,i<L.length->Wv L (i:Int)=rd Q i) (hs: ∀j,j<l.length->C5 (rd L j)=C5 (rd l j)): ∀(k i:Nat),i+k=l.length->DO L k i=FG (l.drop i) (Q.drop i)
 | 0,i,h=>by rw [Aw (by omega)];rfl
 | k+1,i,h=>by rw [DO,Xx (show i<l.length by omega),Xx (show i<Q.length by omega),FG,hp i (by omega),v0g (hs i (by omega)),x6h hl hQ hp hs k (i+1) (by omega)]
theorem v8o {s:List UInt8} (hs:s.length<=60000) (h:Qj s=0):Un (Xe s)=0/\Yk (Xe s)=true/\((Xe s).all fun x=>decide (0<=x.t))=true/\Kc (Xe s) (Xe s).length 0=s:=by
 unfold Qj at h;unfold Xe;unfold Dj at h ⊢;cases g:decide (60000<s.length)||decide (200<DC (Xt 10 [] s)) with
 | true=>rw [g] at h;cases h
 | false=>
  rw [g,Ab] at h;rw [Ab];cases hr:ER s with
  | none=>rw [hr] at h;cases h
  | some rows=>
   rw [hr] at h;have fI: ∀x∈rows,x.length<=1000000:=fun x hx=>by
    have:=Ka 10 s [] x (by
     unfold ER at hr;split at hr
     .obtain rfl:=Ag hr;exact List.dropLast_subset _ hx
     .cases hr)
    simp at this;omega
   have h:(Fi (D1 rows)).2=0:=h;show Un (Fi (D1 rows)).1=0/\Yk (Fi (D1 rows)).1=true/\((Fi (D1 rows)).1.all fun x=>decide (0<=x.t))=true/\Kc (Fi (D1 rows)).1 (Fi (D1 rows)).1.length 0=s;cases hc:D1 rows with
   | none=>rw [hc] at h;cases h
   | some z=>
    obtain ⟨l,Q⟩:=z;rw [hc] at h;obtain ⟨c1,c2,c3,c4⟩:=v3v hc fI;have h:(EX (Wd Q l.length 0 l)).2=0:=h;show Un (EX (Wd Q l.length 0 l)).1=0/\Yk (EX (Wd Q l.length 0 l)).1=true/\((EX (Wd Q l.length 0 l)).1.all fun x=>decide (0<=x.t))=true/\Kc (EX (Wd Q l.length 0 l)).1 (EX (Wd Q l.length 0 l)).1.length 0=s;cases hS:Wd Q l.length 0 l with
    | none=>rw [hS] at h;cases h
    | some L=>
     rw [hS] at h;have hL:Un L=0:=by
      by_cases e:Un L=0
      .exact e
      .rw [v5n e] at h;exact absurd h e
     rw [Rg hL];show Un L=0/\Yk L=true/\(L.all fun x=>decide (0<=x.t))=true/\Kc L L.length 0=s;obtain ⟨s1,s2,s3,s4⟩:=x1a l.length 0 l L (Al _) hS;have hQ: ∀j,j<L.length->Fm (rd Q j):=fun j hj=>c3 _ (Ft (by omega));have hA: ∀j,j<L.length->Er Q j=some ((rd L j).a,(rd L j).n):=fun j hj=>s4 j (AF _) (by omega);have hok: ∀j,j<L.length->Fn L j:=fun j hj=>RM (by rw [hL];rfl) hj;have hp: ∀i,i<L.length->Wv L (i:Int)=rd Q i:=fun i hi=>w5s hok (fun j hj=>(hQ j hj).1) hA (i+1) i (BJ i) hi;have hn200:L.length<=200:=(L8 (by rw [hL];rfl)).1;refine ⟨hL,w5c (fun x hx=> ?_) (by omega),Ax.2 fun x hx=> ?_,?_⟩
     .obtain ⟨j,hj,rfl⟩:=A6 hx;rw [<-Wb hj];have hnam:=(hok j hj).2 j (An j);have ht:0<=(rd L j).t :=by have:=c4 _ (Ft (show j<l.length by omega));have e:=s2 j (by omega);unfold C5 at e;injection e with _ _ e1;rw [e1];exact this
      refine ⟨?_,ht⟩;unfold Cd at hnam;rw [Ad,Ad,Ak,Ak] at hnam;omega
     .obtain ⟨j,hj,rfl⟩:=A6 hx;rw [<-Wb hj];have:=c4 _ (Ft (show j<l.length by omega));have e:=s2 j (by omega);unfold C5 at e;injection e with _ _ e1;rw [e1];exact Aa this
     .show Kc L L.length 0=s;rw [ZJ,s1,x6h s1 c2 hp s2 l.length 0 (Al _),AR,AR,c1];exact (u0w hr).symm
def SYp :B6:=SY.with Si OM
theorem HF :Zv prog SYp:=j4n Tv
end Go.Am
end
