/- A part of a proof: several texts in one. -/
import Derived.Test.YtmanggcjimaehaaGreatLe4
set_option maxRecDepth 1000000
set_option maxHeartbeats 8000000
set_option linter.unusedVariables false
set_option linter.unusedSimpArgs false
noncomputable section
namespace Go.Am
open IntKind (wrap)
open Go.Proofs.Tryz
open Go.Proofs
inductive rgjS where
 | h0 (v16:Int) (aA:List Int)
 | h1 (v16:Int) (aA:List Int)
 | h2 (v4:Int) (aF:List R4) (aX:List R2) (bD:Int) (bE:Int) (aE:Nat) (aK:List Int)
 | h3 (v4:Int) (v38:Int) (aF:List R4) (aX:List R2) (bD:Int) (bE:Int) (aE:Nat) (aK:List Int) (aW:Int) (bG:Int) (aB:List R2)
 | h4 (v4:Int) (v38:Int) (aF:List R4) (aX:List R2) (bD:Int) (bE:Int) (aE:Nat) (aK:List Int) (aW:Int) (bG:Int) (aB:List R2) (aR:List R2)
 | h5 (v1:Int) (v2:Int) (v71:List R2) (v72:Int) (v73:Int) (aZ:Int) (aD:List R4) (bJ:Int) (aE:Nat) (aK:List Int) (aW:List R2) (bG:List R2)
 | h6 (v2:Int) (v8:Int) (cO:Int) (cP:List R2) (aZ:Int) (aD:List R4) (bH:List R2) (bJ:Int) (cA:Int) (bN:Nat) (bU:List Int) (aB:List R2) (aR:List R2)
def y4y (q:Op) (l0:List R4) (l1:List R4):AFr:=⟨⟨11,0,true⟩,(Jb prog (nRg q) [1,0] 2),(Zd prog (nRg q) [1,0] 1),none,(Zy prog 28),Yb [(6,(.dat l0.length (Zz l0))),(7,(.dat l1.length (Zz l1)))]⟩
abbrev y9g (aD:List R4) (v8:Int) (v2:Int):=(aD.set (0+(tn v8)) (R4.mk (rd aD (0+(tn v8))).a (rd aD (0+(tn v8))).b v2 (rd aD (0+(tn v8))).d))
def v3y :=(y7v [(0,⟨.ready,none,49,Yb [(5,(.ptr 1 0)),(6,(.ptr 2 0)),(7,(.ptr 3 0)),(9,(.ptr 4 0))],[23],(Uz prog 122 [1,1,1,0,1,0,0]),(Uz prog 122 [1,1,1,0,1,0,1])⟩)])
abbrev y9f (aA:List Int):=(Wr (Yy aA.length (cOf (Zz (Xu (Yy aA.length (cOf (Zz aA))))))))
def v3x :AFr:=⟨⟨49,0,true⟩,none,(.inRangeFunc 0::(Zd prog 122 [1,1,1,0,1,0] 1)),none,(Zy prog 122),Yb [(6,(.ptr 2 0)),(7,(.ptr 3 0)),(9,(.ptr 4 0))]⟩
def y4x (l0:List R4) (l1:List R4):ABlk:=⟨[(.dat l0.length (Zz l0)),(.dat l1.length (Zz l1))],100,none⟩
def u6u :AFr:=⟨⟨49,0,true⟩,(Jb prog 122 [1,1,1,0,0] 3),(Zd prog 122 [1,1,1,0,0] 1),none,(Zy prog 122),Yb [(5,(.ptr 3 0)),(6,(.ptr 4 0)),(7,(.ptr 5 0)),(9,(.ptr 6 0)),(21,(.sl 1 0 2 (.un 1)))]⟩
abbrev y9e (aB:List R2) (l0:List R4) (v38:Int):=(aB++[(R2.mk (rd l0 (tn v38)).b (rd l0 (tn v38)).d)])
abbrev y9d (aR:List R2) (l1:List R4) (v38:Int):=(aR++[(R2.mk (rd l1 (tn v38)).b (rd l1 (tn v38)).d)])
def y4w (q:Op):ABlk:=⟨[(.fn (nSp q) [])],151,none⟩
abbrev z9r (aD:List R4) (v1:Int) (v71:List R2) (v73:Int) (v2:Int):=(aD++[(R4.mk v1 (rd v71 (tn v73)).a v2 (rd v71 (tn v73)).b)])
abbrev z9q (aA:List Int) (l0:List R4) (v16:Int):=(aA++[(rd l0 (tn v16)).a,(rd l0 (tn v16)).c])
abbrev z9p (aA:List Int) (l1:List R4) (v16:Int):=(aA++[(rd l1 (tn v16)).a,(rd l1 (tn v16)).c])
def x1q :ABlk:=⟨[(.sl 8 0 2 (.un 1))],236,none⟩
def v3z :=(Zd prog 190 [1,0,0,1,0,0,1,0,1,0,0,1,1,0,0,1,1,0,0] 0)
def rgjC (q:Op) (l0:List R4) (l1:List R4):rgjS→Cfg
 | .h0 v16 aA=>⟨⟨34,0,true⟩,none,(Zd prog 161 [1,1,0,1,0,0,1,1,0,0,1,1,0,0] 0),none,(Zy prog 3),⟨Yb [(1,(.ptr 0 0)),(3,(.ptr 2 0)),(8,(.sl 1 0 2 (.un 1))),(9,(ii 2)),(10,(ii 0)),(14,(.dat l0.length (Zz l0))),(15,(ii (l0.length:Int))),(16,(ii v16))],Vb [⟨[(.sl 1 0 2 (.un 1))],236,none⟩,(y4x l0 l1),⟨[(.sla 7 1 0 aA.length (.un 1))],93,none⟩,(y4w q),⟨[.nils],100,none⟩,⟨[(ii 0)],26,none⟩,⟨[.nils,.nils,(ii 0),(ii 0)],200,none⟩,⟨rows aA.length (Zz aA),3,some ⟨1,aA.length,(Zz aA)⟩⟩] 0,8,[],true⟩,[u6u,(y4y q l0 l1)],.leaf⟩
 | .h1 v16 aA=>⟨⟨34,0,true⟩,none,(Zd prog 161 [1,1,0,1,0,0,1,1,0,0,1,1,0,0] 0),none,(Zy prog 3),⟨Yb [(1,(.ptr 0 0)),(3,(.ptr 2 0)),(8,(.sl 1 0 2 (.un 1))),(9,(ii 2)),(10,(ii 1)),(14,(.dat l1.length (Zz l1))),(15,(ii (l1.length:Int))),(16,(ii v16))],Vb [⟨[(.sl 1 0 2 (.un 1))],236,none⟩,(y4x l0 l1),⟨[(.sla 7 1 0 aA.length (.un 1))],93,none⟩,(y4w q),⟨[.nils],100,none⟩,⟨[(ii 0)],26,none⟩,⟨[.nils,.nils,(ii 0),(ii 0)],200,none⟩,⟨rows aA.length (Zz aA),3,some ⟨1,aA.length,(Zz aA)⟩⟩] 0,8,[],true⟩,[u6u,(y4y q l0 l1)],.leaf⟩
 | .h2 v4 aF aX bD bE aE aK=>⟨⟨76,0,true⟩,none,(Zd prog 190 [1,0,0] 0),none,[],⟨Yb [(0,(.yld 0)),(1,(.ptr 5 0)),(2,(.ptr 7 0)),(4,(ii v4))],y1l [(1,(y4w q)),(2,⟨[.nils],100,none⟩),(3,⟨[(ii 0)],26,none⟩),(4,⟨[(.sla 9 4 0 aF.length (.un 4)),(.dat aX.length (Zz aX)),(ii bD),(ii bE)],200,none⟩),(5,⟨[(.sla 6 1 0 aE (.un 1))],93,none⟩),(6,⟨rows aK.length (Zz aK),3,some ⟨1,aK.length,(Zz aK)⟩⟩),(7,x1q),(8,(y4x l0 l1)),(9,⟨rows aF.length (Zz aF),88,some ⟨4,aF.length,(Zz aF)⟩⟩)],10,[],true⟩,[v3x,(y4y q l0 l1)],v3y⟩
 | .h3 v4 v38 aF aX bD bE aE aK aW bG aB=>⟨⟨76,0,true⟩,none,v3z,none,[],⟨Yb [(0,(.yld 0)),(1,(.ptr 5 0)),(2,(.ptr 7 0)),(4,(ii v4)),(5,(.ptr 9 0)),(6,(ii 0)),(29,(.sl 8 0 2 (.un 1))),(30,(ii 2)),(31,(ii 0)),(36,(.dat l0.length (Zz l0))),(37,(ii (l0.length:Int))),(38,(ii v38))],y1l [(1,(y4w q)),(2,⟨[.nils],100,none⟩),(3,⟨[(ii 0)],26,none⟩),(4,⟨[(.sla 12 4 0 aF.length (.un 4)),(.dat aX.length (Zz aX)),(ii bD),(ii bE)],200,none⟩),(5,⟨[(.sla 6 1 0 aE (.un 1))],93,none⟩),(6,⟨rows aK.length (Zz aK),3,some ⟨1,aK.length,(Zz aK)⟩⟩),(7,x1q),(8,(y4x l0 l1)),(9,⟨[(ii aW),(ii bG),(.sl 10 0 2 (.ex 2))],205,none⟩),(10,⟨[(.sla 11 2 0 aB.length (.un 2)),.nils],180,none⟩),(11,⟨rows aB.length (Zz aB),183,some ⟨2,aB.length,(Zz aB)⟩⟩),(12,⟨rows aF.length (Zz aF),88,some ⟨4,aF.length,(Zz aF)⟩⟩)],13,[],true⟩,[v3x,(y4y q l0 l1)],v3y⟩
 | .h4 v4 v38 aF aX bD bE aE aK aW bG aB aR=>⟨⟨76,0,true⟩,none,v3z,none,[],⟨Yb [(0,(.yld 0)),(1,(.ptr 5 0)),(2,(.ptr 7 0)),(4,(ii v4)),(5,(.ptr 9 0)),(6,(ii 1)),(29,(.sl 8 0 2 (.un 1))),(30,(ii 2)),(31,(ii 1)),(36,(.dat l1.length (Zz l1))),(37,(ii (l1.length:Int))),(38,(ii v38))],y1l [(1,(y4w q)),(2,⟨[.nils],100,none⟩),(3,⟨[(ii 0)],26,none⟩),(4,⟨[(.sla 13 4 0 aF.length (.un 4)),(.dat aX.length (Zz aX)),(ii bD),(ii bE)],200,none⟩),(5,⟨[(.sla 6 1 0 aE (.un 1))],93,none⟩),(6,⟨rows aK.length (Zz aK),3,some ⟨1,aK.length,(Zz aK)⟩⟩),(7,x1q),(8,(y4x l0 l1)),(9,⟨[(ii aW),(ii bG),(.sl 10 0 2 (.ex 2))],205,none⟩),(10,⟨[(.sla 11 2 0 aB.length (.un 2)),(.sla 12 2 0 aR.length (.un 2))],180,none⟩),(11,⟨rows aB.length (Zz aB),183,some ⟨2,aB.length,(Zz aB)⟩⟩),(12,⟨rows aR.length (Zz aR),183,some ⟨2,aR.length,(Zz aR)⟩⟩),(13,⟨rows aF.length (Zz aF),88,some ⟨4,aF.length,(Zz aF)⟩⟩)],14,[],true⟩,[v3x,(y4y q l0 l1)],v3y⟩
 | .h5 v1 v2 v71 v72 v73 aZ aD bJ aE aK aW bG=>⟨⟨94,0,true⟩,none,(Zd prog 158 [1,1,1,0,0] 0),none,[],⟨Yb [(0,(.ptr 0 0)),(1,(ii v1)),(2,(ii v2)),(71,(.dat v71.length (Zz v71))),(72,(ii v72)),(73,(ii v73))],y1l [(0,⟨[(.sla 10 4 0 aD.length (.un 4)),(.dat v71.length (Zz v71)),(ii bJ),(ii v2)],200,none⟩),(2,(y4w q)),(3,⟨[.nils],100,none⟩),(4,⟨[(ii 0)],26,none⟩),(5,⟨[(.sla 6 1 0 aE (.un 1))],93,none⟩),(6,⟨rows aK.length (Zz aK),3,some ⟨1,aK.length,(Zz aK)⟩⟩),(7,x1q),(8,(y4x l0 l1)),(9,⟨[(.dat aW.length (Zz aW)),(.dat bG.length (Zz bG))],180,none⟩),(10,⟨rows aD.length (Zz aD),88,some ⟨4,aD.length,(Zz aD)⟩⟩)],11,[],true⟩,[⟨⟨49,0,true⟩,(Jb prog 122 [1,1,1,0,1,0,1,0,1,1] 5),(Zd prog 122 [1,1,1,0,1,0,1,0,1,1] 1),(some 1),[],Yb [(9,(.ptr 0 0)),(41,(ii v1)),(43,(ii v2)),(44,(.dat v71.length (Zz v71)))]⟩,⟨⟨76,0,true⟩,(Jb prog 190 [1,0,0,1,0,0,1,1,0] 2),(Zd prog 190 [1,0,0,1,0,0,1,1,0] 1),none,[],Yb [(0,(.yld 1)),(1,(.ptr 5 0)),(2,(.ptr 7 0)),(4,(ii aZ)),(72,(.yld 1)),(73,(.agg [(ii v1),(ii v2),(.sl 9 0 2 (.ex 2))]))]⟩,⟨⟨49,0,true⟩,none,(.inRangeFunc 1::(Zd prog 122 [1,1,1,0,1,0] 1)),none,(Zy prog 122),Yb [(6,(.ptr 3 0)),(7,(.ptr 4 0)),(9,(.ptr 0 0))]⟩,(y4y q l0 l1)],(y7v [(1,⟨.busy,none,49,Yb [(5,(.ptr 2 0)),(6,(.ptr 3 0)),(7,(.ptr 4 0)),(9,(.ptr 0 0))],[23],(Uz prog 122 [1,1,1,0,1,0,0]),(Uz prog 122 [1,1,1,0,1,0,1])⟩)])⟩
 | .h6 v2 v8 cO cP aZ aD bH bJ cA bN bU aB aR=>⟨⟨94,0,true⟩,none,(Zd prog 158 [0,1,0,0,1,0,0] 0),none,[],⟨Yb [(0,(.ptr 0 0)),(2,(ii v2)),(8,(ii v8))],y1l [(0,⟨[(.sla 1 4 0 aD.length (.un 4)),(.dat bH.length (Zz bH)),(ii bJ),(ii cA)],200,none⟩),(1,⟨rows aD.length (Zz aD),88,some ⟨4,aD.length,(Zz aD)⟩⟩),(3,(y4w q)),(4,⟨[.nils],100,none⟩),(5,⟨[(ii 0)],26,none⟩),(6,⟨[(.sla 7 1 0 bN (.un 1))],93,none⟩),(7,⟨rows bU.length (Zz bU),3,some ⟨1,bU.length,(Zz bU)⟩⟩),(8,⟨[(.sl 9 0 2 (.un 1))],236,none⟩),(9,(y4x l0 l1)),(10,⟨[(.dat aB.length (Zz aB)),(.dat aR.length (Zz aR))],180,none⟩)],11,[],true⟩,[⟨⟨49,0,true⟩,(Jb prog 122 [1,1,1,0,1,0,1,0,1,1] 5),(Zd prog 122 [1,1,1,0,1,0,1,0,1,1] 1),(some 2),[],Yb [(9,(.ptr 0 0)),(41,(ii cO)),(43,(ii v2)),(44,(.dat cP.length (Zz cP)))]⟩,⟨⟨76,0,true⟩,(Jb prog 190 [1,0,0,1,0,0,1,1,0] 2),(Zd prog 190 [1,0,0,1,0,0,1,1,0] 1),none,[],Yb [(0,(.yld 2)),(1,(.ptr 6 0)),(2,(.ptr 8 0)),(4,(ii aZ)),(72,(.yld 2)),(73,(.agg [(ii cO),(ii v2),(.sl 10 0 2 (.ex 2))]))]⟩,⟨⟨49,0,true⟩,none,(.inRangeFunc 2::(Zd prog 122 [1,1,1,0,1,0] 1)),none,(Zy prog 122),Yb [(6,(.ptr 4 0)),(7,(.ptr 5 0)),(9,(.ptr 0 0))]⟩,(y4y q l0 l1)],(y7v [(2,⟨.busy,none,49,Yb [(5,(.ptr 3 0)),(6,(.ptr 4 0)),(7,(.ptr 5 0)),(9,(.ptr 0 0))],[23],(Uz prog 122 [1,1,1,0,1,0,0]),(Uz prog 122 [1,1,1,0,1,0,1])⟩)])⟩
def rgjN0 :List (Option (List Nat)):=[some [1,3,8,9,10,14,15,16],some [5,6,7,9,21],some [6,7]]
def rgjM0 :List (Option (List Nat)):=[]
def rgjN1 :List (Option (List Nat)):=[some [1,3,8,9,10,14,15,16],some [5,6,7,9,21],some [6,7]]
def rgjM1 :List (Option (List Nat)):=[]
def j2b :List (Option (List Nat)):=[some [0,1,2,4],some [6,7,9],some [6,7]]
def j2c :List (Option (List Nat)):=[some [5,6,7,9],none,none,none,none,none,none,none,none,none]
def u0t :List (Option (List Nat)):=[some [0,1,2,4,5,6,29,30,31,36,37,38],some [6,7,9],some [6,7]]
def u0w :List (Option (List Nat)):=[some [5,6,7,9],none,none,none,none,none,none,none,none,none,none,none,none]
def u0s :List (Option (List Nat)):=[some [0,1,2,4,5,6,29,30,31,36,37,38],some [6,7,9],some [6,7]]
def u0v :List (Option (List Nat)):=[some [5,6,7,9],none,none,none,none,none,none,none,none,none,none,none,none,none]
def u0r :List (Option (List Nat)):=[some [0,1,2,71,72,73],some [9,41,43,44],some [0,1,2,4,72,73],some [6,7,9],some [6,7]]
def u0u :List (Option (List Nat)):=[none,some [5,6,7,9],none,none,none,none,none,none,none,none,none]
def rgjN6 :List (Option (List Nat)):=[some [0,2,8],some [9,41,43,44],some [0,1,2,4,72,73],some [6,7,9],some [6,7]]
def rgjM6 :List (Option (List Nat)):=[none,none,some [5,6,7,9],none,none,none,none,none,none,none,none]
def Yh (q:Op) (l0:List R4) (l1:List R4):rgjS→Xp rgjS
 | .h0 v16 aA=>(bif (decide (v16<(l0.length:Int))) then (bif ((decide (0≤v16∧v16<(l0.length:Int)))&&true) then (bif (Nat.beq 1 1&&((decide (0+aA.length=aA.length))&&decide ((aA.length+2+1)*(8+1)≤Jd))) then (.to (.h0 (wrap .i64 (v16+1)) (aA++[(rd l0 v16.toNat).a,(rd l0 v16.toNat).c]))) else .stuck) else .stuck) else (.to (.h1 0 aA)))
 | .h1 v16 aA=>(bif (decide (v16<(l1.length:Int))) then (bif ((decide (0≤v16∧v16<(l1.length:Int)))&&true) then (bif (Nat.beq 1 1&&((decide (0+aA.length=aA.length))&&decide ((aA.length+2+1)*(8+1)≤Jd))) then (.to (.h1 (wrap .i64 (v16+1)) (aA++[(rd l1 v16.toNat).a,(rd l1 v16.toNat).c]))) else .stuck) else .stuck) else (bif (decide (aA.length<4611686018427387904)) then (bif (decide (aA.length=aA.length)) then (.to (.h2 1 ([]:List R4) ([]:List R2) 0 0 (v1n (Yy aA.length (cOf (Zz (Xu (Yy aA.length (cOf (Zz aA)))))))) (Wr (Yy aA.length (cOf (Zz (Xu (Yy aA.length (cOf (Zz aA)))))))))) else .stuck) else .stuck))
 | .h2 v4 aF aX bD bE aE aK=>(bif (decide (v4<((aE:Nat):Int))) then (bif ((decide (0≤(wrap .i64 (v4 - 1))∧(wrap .i64 (v4 - 1))<((aE:Nat):Int)))&&true) then (bif (decide ((0+(Int.toNat (wrap .i64 (v4 - 1))))<aK.length)) then (bif ((decide (0≤v4∧v4<((aE:Nat):Int)))&&true) then (bif (decide ((0+v4.toNat)<aK.length)) then (.to (.h3 v4 0 aF aX bD bE aE aK (rd aK (0+(Int.toNat (wrap .i64 (v4 - 1))))) (rd aK (0+v4.toNat)) ([]:List R2))) else .stuck) else .stuck) else .stuck) else .stuck) else (bif (decide ((aF.length:Int)>400)) then (.ret [.nils,(.int .i64 4)]) else (.ret [(.dat aF.length (Zz aF)),(.int .i64 0)])))
 | .h3 v4 v38 aF aX bD bE aE aK aW bG aB=>(bif (decide (v38<(l0.length:Int))) then (bif ((decide (0≤v38∧v38<(l0.length:Int)))&&true) then (bif (decide ((rd l0 v38.toNat).a ≤aW)) then (bif (decide (aW<(rd l0 v38.toNat).c)) then (bif (Nat.beq 2 2&&((decide (0+aB.length=aB.length))&&decide ((aB.length+1+1)*(16+1)≤Jd))) then (.to (.h3 v4 (wrap .i64 (v38+1)) aF aX bD bE aE aK aW bG (aB++[(R2.mk (rd l0 v38.toNat).b (rd l0 v38.toNat).d)]))) else .stuck) else (.to (.h3 v4 (wrap .i64 (v38+1)) aF aX bD bE aE aK aW bG aB))) else (.to (.h3 v4 (wrap .i64 (v38+1)) aF aX bD bE aE aK aW bG aB))) else .stuck) else (.to (.h4 v4 0 aF aX bD bE aE aK aW bG aB ([]:List R2))))
 | .h4 v4 v38 aF aX bD bE aE aK aW bG aB aR=>(bif (decide (v38<(l1.length:Int))) then (bif ((decide (0≤v38∧v38<(l1.length:Int)))&&true) then (bif (decide ((rd l1 v38.toNat).a ≤aW)) then (bif (decide (aW<(rd l1 v38.toNat).c)) then (bif (Nat.beq 2 2&&((decide (0+aR.length=aR.length))&&decide ((aR.length+1+1)*(16+1)≤Jd))) then (.to (.h4 v4 (wrap .i64 (v38+1)) aF aX bD bE aE aK aW bG aB (aR++[(R2.mk (rd l1 v38.toNat).b (rd l1 v38.toNat).d)]))) else .stuck) else (.to (.h4 v4 (wrap .i64 (v38+1)) aF aX bD bE aE aK aW bG aB aR))) else (.to (.h4 v4 (wrap .i64 (v38+1)) aF aX bD bE aE aK aW bG aB aR))) else .stuck) else (bif ((x1e q) (cvT aB) (cvT aR)) then (bif (((w7l q) (cvT aB) (cvT aR)) != 0) then (.ret [.nils,(.int .i64 ((w7l q) (cvT aB) (cvT aR)))]) else (bif (decide (((((z4n q) (cvT aB) (cvT aR)).length :Nat):Int)>0)) then (bif (bE == aW) then (bif (Vs (cvT aX) (cvT ((z4n q) (cvT aB) (cvT aR)))) then (bif (Qm (cvT aX) (cvT ((z4n q) (cvT aB) (cvT aR)))) then (.to (.h6 bG bD aW ((z4n q) (cvT aB) (cvT aR)) v4 aF aX bD bE aE aK aB aR)) else (.to (.h5 aW bG ((z4n q) (cvT aB) (cvT aR)) ((((z4n q) (cvT aB) (cvT aR)).length :Nat):Int) 0 v4 aF (aF.length:Int) aE aK aB aR))) else .stuck) else (.to (.h5 aW bG ((z4n q) (cvT aB) (cvT aR)) ((((z4n q) (cvT aB) (cvT aR)).length :Nat):Int) 0 v4 aF (aF.length:Int) aE aK aB aR))) else (.to (.h5 aW bG ((z4n q) (cvT aB) (cvT aR)) ((((z4n q) (cvT aB) (cvT aR)).length :Nat):Int) 0 v4 aF (aF.length:Int) aE aK aB aR)))) else .stuck))
 | .h5 v1 v2 v71 v72 v73 aZ aD bJ aE aK aW bG=>(bif (decide (v73<v72)) then (bif ((decide (0≤v73∧v73<(v71.length:Int)))&&true) then (bif (Nat.beq 4 4&&((decide (0+aD.length=aD.length))&&decide ((aD.length+1+1)*(32+1)≤Jd))) then (.to (.h5 v1 v2 v71 v72 (wrap .i64 (v73+1)) aZ (aD++[(R4.mk v1 (rd v71 v73.toNat).a v2 (rd v71 v73.toNat).b)]) bJ aE aK aW bG)) else .stuck) else .stuck) else (.to (.h2 (wrap .i64 (aZ+1)) aD v71 bJ v2 aE aK)))
 | .h6 v2 v8 cO cP aZ aD bH bJ cA bN bU aB aR=>(bif (decide (v8<(aD.length:Int))) then (bif ((decide (0≤v8∧v8<(aD.length:Int)))&&true) then (bif (decide ((0+v8.toNat)<aD.length)) then (.to (.h6 v2 (wrap .i64 (v8+1)) cO cP aZ (aD.set (0+v8.toNat) (R4.mk (rd aD (0+v8.toNat)).a (rd aD (0+v8.toNat)).b v2 (rd aD (0+v8.toNat)).d)) bH bJ cA bN bU aB aR)) else .stuck) else .stuck) else (.to (.h2 (wrap .i64 (aZ+1)) aD bH bJ v2 bN bU)))
def y3a (q:Op) (l0:List R4) (l1:List R4):Xp rgjS:=(bif (z4t (cvT l0)) then (bif ((y7k (cvT l0)) != 0) then (.ret [.nils,(.int .i64 (y7k (cvT l0)))]) else (bif (z4t (cvT l1)) then (bif ((y7k (cvT l1)) != 0) then (.ret [.nils,(.int .i64 (y7k (cvT l1)))]) else (.to (.h0 0 ([]:List Int)))) else .stuck)) else .stuck)
theorem w8i (q:Op) (l0:List R4) (l1:List R4): ∀s,Yr prog (Zy prog (nRg q)) (rgjC q l0 l1) (rgjC q l0 l1 s) (Yh q l0 l1 s):=by cases q <;> refine (?f: ∀q:Op,∀s,Yr prog (Zy prog (nRg q)) (rgjC q l0 l1) (rgjC q l0 l1 s) (Yh q l0 l1 s)) _ <;> exact fun q=>fun
 | .h0 v16 aA=>(lb (fun k0=>(lo fun o0=>(lo fun o1=>(sl Ki 32 [] ⟨[0,1,2,3,4,5,6,10],[],rgjN0,rgjM0⟩ ⟨[],[.keep,.keep,.cells [.len (z9q aA l0 v16).length],.keep,.keep,.keep,.keep,.rowed 1 (z9q aA l0 v16).length (Zz (z9q aA l0 v16))],[]⟩ [true] (pp (xL (aA.length+2) (z9q aA l0 v16).length) (pp (xL (aA.length+2) (z9q aA l0 v16).length) (pp (xS (aA.length+2) (Zi (Zz aA) 0 aA.length 1 [(ii (rd l0 (tn v16)).a),(ii (rd l0 (tn v16)).c)]) (Zz (z9q aA l0 v16))) (pp (pp (xF (Zi (Zz aA) 0 aA.length 1 [(ii (rd l0 (tn v16)).a),(ii (rd l0 (tn v16)).c)])) nn) (ww o1 (ww o0 (tt k0 nn))))))))))) (fun k0=>(sl Ki 36 [] ⟨(List.range 8),[],rgjN1,rgjM1⟩ ⟨[],[],[]⟩ (bl 2 2) (pp (fl aA nn) (tt k0 nn)))))
 | .h1 v16 aA=>(lb (fun k0=>(lo fun o0=>(lo fun o1=>(sl Ki 32 [] ⟨[0,1,2,3,4,5,6,10],[],rgjN1,rgjM1⟩ ⟨[],[.keep,.keep,.cells [.len (z9p aA l1 v16).length],.keep,.keep,.keep,.keep,.rowed 1 (z9p aA l1 v16).length (Zz (z9p aA l1 v16))],[]⟩ [true] (pp (xL (aA.length+2) (z9p aA l1 v16).length) (pp (xL (aA.length+2) (z9p aA l1 v16).length) (pp (xS (aA.length+2) (Zi (Zz aA) 0 aA.length 1 [(ii (rd l1 (tn v16)).a),(ii (rd l1 (tn v16)).c)]) (Zz (z9p aA l1 v16))) (pp (pp (xF (Zi (Zz aA) 0 aA.length 1 [(ii (rd l1 (tn v16)).a),(ii (rd l1 (tn v16)).c)])) nn) (ww o1 (ww o0 (tt k0 nn))))))))))) (fun k0=>(lo fun o0=>(lo fun o1=>(sl Ki 46 [(88,4,Zz ([]:List R4))] ⟨[8,3,4,5,6,2,7,0,1,9],[],j2b,j2c⟩ ⟨[],(kpB 4 [.cells [.grow 9 4,.list 0 (Zz ([]:List R2)),.keep,.keep],.keep,.rowed 1 (y9f aA).length (Zz (y9f aA)),.keep,.keep,.keep]),[]⟩ (bl 2 0) (pp (xL aA.length (y9f aA).length (by first | exact z2l _ _ | exact Vu rfl)) (pp (xS aA.length (Zz (y9f aA)) (Zz (y9f aA))) (pp (fl (y9f aA) (fl ([]:List R4) nn)) (pp (pp (xG (Nat.beq 1 1)) (pp (xG (Nat.beq 1 1)) (pp (xG (Nat.beq 0 0)) (pp (xG (decide (aA.length=aA.length))) (pp (xG (isI (Zz (Xu (Yy aA.length (cOf (Zz aA))))))) (xG (decide (aA.length<4611686018427387904)))))))) (pp (pp (xG (Nat.beq 1 1)) (pp (xG (Nat.beq 1 1)) (pp (xG (Nat.beq 0 0)) (pp (xG (decide (aA.length=aA.length))) (pp (xG (isI (Zz aA))) (xG (decide (aA.length<4611686018427387904)))))))) (tt k0 nn)))))))))))
 | .h2 v4 aF aX bD bE aE aK=>(lb (fun k0=>(lo fun o0=>(lo fun o1=>(lo fun o2=>(lo fun o3=>(sl Ki 48 [(183,2,Zz ([]:List R2))] ⟨[0,1,2,3,4,5,6,7,8,10,11,12,9],[],u0t,u0w⟩ ⟨[],(kpB 10 [.cells [.grow 11 2,.keep],.keep,.keep]),[]⟩ (trs 3 []) (pp (fl aK (fl ([]:List R2) (fl aF nn))) (ww o3 (ww o2 (ww o1 (ww o0 (tt k0 nn)))))))))))) (fun k0=>(lb (fun k1=>(lr 11 3 [1,1,1,1,1,1,1,0] 1 28 [(4,.nils),(5,(ii 4))] (sl Ki 49 [] ⟨[],[],[some [4,5]],[]⟩ ⟨[],[],[]⟩ (bl 2 2) (tt k1 (tt k0 nn))))) (fun k1=>(lr 11 3 [1,1,1,1,1,1,1,0] 1 28 [(4,(.dat aF.length (Zz aF))),(5,(ii 0))] (sl Ki 54 [] ⟨[],[9],[some [4,5]],[]⟩ ⟨[(4,.frz aF.length aF.length (Zz aF) (Zz aF))],[],[]⟩ (bl 2 0) (pp (xZ (z6j 4 4 0 aF.length aF.length (Zz aF)) aF.length (Zz aF)) (pp (xL aF.length aF.length) (pp (xS aF.length (Zz aF) (Zz aF)) (pp (fl aF nn) (tt k1 (tt k0 nn))))))))))))
 | .h3 v4 v38 aF aX bD bE aE aK aW bG aB=>(lb (fun k0=>(lo fun aG=>(lb (fun k1=>(lb (fun k2=>(lo fun o0=>(sl Ki 39 [] ⟨[0,1,2,3,4,5,6,7,8,9,10,15,12],[],u0t,u0w⟩ ⟨[],(kpB 10 [.cells [.len (y9e aB l0 v38).length,.keep],.rowed 2 (y9e aB l0 v38).length (Zz (y9e aB l0 v38)),.keep]),[]⟩ (trs 7 []) (pp (xL (aB.length+1) (y9e aB l0 v38).length) (pp (xL (aB.length+1) (y9e aB l0 v38).length) (pp (xS (aB.length+1) (Zi (Zz aB) 0 aB.length 2 [(ii (rd l0 (tn v38)).b),(ii (rd l0 (tn v38)).d)]) (Zz (y9e aB l0 v38))) (pp (fl aK (pp (xF (Zi (Zz aB) 0 aB.length 2 [(ii (rd l0 (tn v38)).b),(ii (rd l0 (tn v38)).d)])) (fl aF nn))) (ww o0 (tt k2 (tt k1 (ww aG (tt k0 nn)))))))))))) (fun k2=>(sl Ki 39 [] ⟨(List.range 13),[],u0t,u0w⟩ ⟨[],[],[]⟩ (trs 6 [false]) (pp (fl aK (fl aB (fl aF nn))) (tt k2 (tt k1 (ww aG (tt k0 nn))))))))) (fun k1=>(sl Ki 39 [] ⟨(List.range 13),[],u0t,u0w⟩ ⟨[],[],[]⟩ (bl 7 1) (pp (fl aK (fl aB (fl aF nn))) (tt k1 (ww aG (tt k0 nn))))))))) (fun k0=>(sl Ki 38 [(183,2,Zz ([]:List R2))] ⟨[0,1,2,3,4,5,6,7,8,9,10,11,13,12],[],u0s,u0v⟩ ⟨[],(kpB 10 [.cells [.keep,.grow 12 2],.keep,.keep,.keep]),[]⟩ (bl 2 2) (pp (fl aK (fl aB (fl ([]:List R2) (fl aF nn)))) (tt k0 nn)))))
 | .h4 v4 v38 aF aX bD bE aE aK aW bG aB aR=>(lb (fun k0=>(lo fun aG=>(lb (fun k1=>(lb (fun k2=>(lo fun o0=>(sl Ki 39 [] ⟨[0,1,2,3,4,5,6,7,8,9,10,11,16,13],[],u0s,u0v⟩ ⟨[],(kpB 10 [.cells [.keep,.len (y9d aR l1 v38).length],.keep,.rowed 2 (y9d aR l1 v38).length (Zz (y9d aR l1 v38)),.keep]),[]⟩ (trs 7 []) (pp (xL (aR.length+1) (y9d aR l1 v38).length) (pp (xL (aR.length+1) (y9d aR l1 v38).length) (pp (xS (aR.length+1) (Zi (Zz aR) 0 aR.length 2 [(ii (rd l1 (tn v38)).b),(ii (rd l1 (tn v38)).d)]) (Zz (y9d aR l1 v38))) (pp (fl aK (fl aB (pp (xF (Zi (Zz aR) 0 aR.length 2 [(ii (rd l1 (tn v38)).b),(ii (rd l1 (tn v38)).d)])) (fl aF nn)))) (ww o0 (tt k2 (tt k1 (ww aG (tt k0 nn)))))))))))) (fun k2=>(sl Ki 39 [] ⟨(List.range 14),[],u0s,u0v⟩ ⟨[],[],[]⟩ (trs 6 [false]) (pp (fl aK (fl aB (fl aR (fl aF nn)))) (tt k2 (tt k1 (ww aG (tt k0 nn))))))))) (fun k1=>(sl Ki 39 [] ⟨(List.range 14),[],u0s,u0v⟩ ⟨[],[],[]⟩ (bl 7 1) (pp (fl aK (fl aB (fl aR (fl aF nn)))) (tt k1 (ww aG (tt k0 nn))))))))) (fun k0=>(Wo (sl Ki (C':=⟨⟨49,0,true⟩,none,(Zd prog 122 [1,1,1,0,1,0,1,0,0] 0),(some 0),[],⟨Yb [(5,(.ptr 1 0)),(6,(.ptr 2 0)),(7,(.ptr 3 0)),(9,(.ptr 4 0)),(10,(.ptr 6 0))],y1l [(1,⟨[(.fn (nSp q) [])],151,none⟩),(2,⟨[.nils],100,none⟩),(3,⟨[(ii 0)],26,none⟩),(4,⟨[(.sla 5 4 0 aF.length (.un 4)),(.dat aX.length (Zz aX)),(ii bD),(ii bE)],200,none⟩),(5,⟨rows aF.length (Zz aF),88,some ⟨4,aF.length,(Zz aF)⟩⟩),(6,⟨[(ii aW),(ii bG),(.sl 7 0 2 (.ex 2))],205,none⟩),(7,⟨[(.dat aB.length (Zz aB)),(.dat aR.length (Zz aR))],180,none⟩),(8,⟨[(.sla 9 1 0 aE (.un 1))],93,none⟩),(9,⟨rows aK.length (Zz aK),3,some ⟨1,aK.length,(Zz aK)⟩⟩),(10,⟨[(.sl 11 0 2 (.un 1))],236,none⟩),(11,⟨[(.dat l0.length (Zz l0)),(.dat l1.length (Zz l1))],100,none⟩)],12,[],true⟩,[⟨⟨76,0,true⟩,(Jb prog 190 [1,0,0,1,0,0,1,1,0] 2),(Zd prog 190 [1,0,0,1,0,0,1,1,0] 1),none,[],Yb [(0,(.yld 0)),(1,(.ptr 8 0)),(2,(.ptr 10 0)),(4,(ii v4)),(72,(.yld 0)),(73,(.agg [(ii aW),(ii bG),(.sl 7 0 2 (.ex 2))]))]⟩,⟨⟨49,0,true⟩,none,(.inRangeFunc 0::(Zd prog 122 [1,1,1,0,1,0] 1)),none,(Zy prog 122),Yb [(6,(.ptr 2 0)),(7,(.ptr 3 0)),(9,(.ptr 4 0))]⟩,⟨⟨11,0,true⟩,(Jb prog (nRg q) [1,0] 2),(Zd prog (nRg q) [1,0] 1),none,(Zy prog 28),Yb [(6,(.dat l0.length (Zz l0))),(7,(.dat l1.length (Zz l1)))]⟩],(y7v [(0,⟨.busy,none,49,Yb [(5,(.ptr 1 0)),(6,(.ptr 2 0)),(7,(.ptr 3 0)),(9,(.ptr 4 0))],[23],(Uz prog 122 [1,1,1,0,1,0,0]),(Uz prog 122 [1,1,1,0,1,0,1])⟩)])⟩) 32 [] ⟨[0,1,2,3,4,13,14,10,5,6,7,8],[11,12],[some [5,6,7,9,10],some [0,1,2,4,72,73],some [6,7,9],some [6,7]],[some [5,6,7,9],none,none,none,none,none,none,none,none,none,none,none]⟩ ⟨[],[.keep,.keep,.keep,.keep,.keep,.keep,.keep,.cells [.frz aB.length aB.length (Zz aB) (Zz aB),.frz aR.length aR.length (Zz aR) (Zz aR)],.keep,.keep,.keep,.keep],[]⟩ (bl 2 0) (pp (xZ (z6j 2 2 0 aB.length aB.length (Zz aB)) aB.length (Zz aB)) (pp (xL aB.length aB.length) (pp (xS aB.length (Zz aB) (Zz aB)) (pp (xZ (z6j 2 2 0 aR.length aR.length (Zz aR)) aR.length (Zz aR)) (pp (xL aR.length aR.length) (pp (xS aR.length (Zz aR) (Zz aR)) (pp (fl aF (fl aK nn)) (pp (fl aB (fl aR nn)) (tt k0 nn)))))))))) (lo fun aG=>(lb (fun k1=>(lr 11 3 [1,1,1,1,1,1,1,0] 1 28 [(4,.nils),(5,(ii ((w7l q) (cvT aB) (cvT aR))))] (sl Ki 26 [] ⟨[],[],[some [4,5]],[]⟩ ⟨[],[],[]⟩ (bl 2 3) (tt k1 (pp (pp (xr aB) (pp (xr aR) (xw aG))) nn))))) (fun k1=>(lb (fun k2=>(lb (fun k3=>(lo fun bX=>(lb (fun k4=>(sl Ki 51 [] ⟨[4,5,0,1,2,3,8,9,10,11,7],[],rgjN6,rgjM6⟩ ⟨[],[],[]⟩ (bl 14 16382) (pp (fl aF (fl aK nn)) (tt k4 (pp (pp (xr aX) (pp (xI R2 ((z4n q) (cvT aB) (cvT aR)).length (Zz ((z4n q) (cvT aB) (cvT aR)))) (xw bX))) (tt k3 (tt k2 (tt k1 (pp (pp (xr aB) (pp (xr aR) (xw aG))) nn))))))))) (fun k4=>(sl Ki 71 [] ⟨[4,0,1,2,3,8,9,10,11,7,5],[],u0r,u0u⟩ ⟨[],[],[]⟩ (bl 14 8190) (pp (fl aK (fl aF nn)) (tt k4 (pp (pp (xr aX) (pp (xI R2 ((z4n q) (cvT aB) (cvT aR)).length (Zz ((z4n q) (cvT aB) (cvT aR)))) (xw bX))) (tt k3 (tt k2 (tt k1 (pp (pp (xr aB) (pp (xr aR) (xw aG))) nn)))))))))))) (fun k3=>(sl Ki 71 [] ⟨[4,0,1,2,3,8,9,10,11,7,5],[],u0r,u0u⟩ ⟨[],[],[]⟩ (bl 14 126) (pp (fl aK (fl aF nn)) (tt k3 (tt k2 (tt k1 (pp (pp (xr aB) (pp (xr aR) (xw aG))) nn))))))))) (fun k2=>(sl Ki 71 [] ⟨[4,0,1,2,3,8,9,10,11,7,5],[],u0r,u0u⟩ ⟨[],[],[]⟩ (bl 14 0) (pp (fl aK (fl aF nn)) (tt k2 (tt k1 (pp (pp (xr aB) (pp (xr aR) (xw aG))) nn)))))))))))))
 | .h5 v1 v2 v71 v72 v73 aZ aD bJ aE aK aW bG=>(lb (fun k0=>(lo fun o0=>(lo fun o1=>(sl Ki 23 [] ⟨[0,1,2,3,4,5,6,7,8,9,13],[],u0r,u0u⟩ ⟨[],[.cells [.len (z9r aD v1 v71 v73 v2).length,.keep,.keep,.keep],.keep,.keep,.keep,.keep,.keep,.keep,.keep,.keep,.keep,.rowed 4 (z9r aD v1 v71 v73 v2).length (Zz (z9r aD v1 v71 v73 v2))],[]⟩ [true] (pp (xL (aD.length+1) (z9r aD v1 v71 v73 v2).length) (pp (xL (aD.length+1) (z9r aD v1 v71 v73 v2).length) (pp (xS (aD.length+1) (Zi (Zz aD) 0 aD.length 4 [(ii v1),(ii (rd v71 (tn v73)).a),(ii v2),(ii (rd v71 (tn v73)).b)]) (Zz (z9r aD v1 v71 v73 v2))) (pp (fl aK (pp (xF (Zi (Zz aD) 0 aD.length 4 [(ii v1),(ii (rd v71 (tn v73)).a),(ii v2),(ii (rd v71 (tn v73)).b)])) nn)) (ww o1 (ww o0 (tt k0 nn))))))))))) (fun k0=>(sl Ki 22 [] ⟨[1,2,3,4,0,5,6,7,8,10],[],j2b,j2c⟩ ⟨[],[],[]⟩ (bl 2 0) (pp (fl aK (fl aD nn)) (tt k0 nn)))))
 | .h6 v2 v8 cO cP aZ aD bH bJ cA bN bU aB aR=>(lb (fun k0=>(lo fun o0=>(lo fun o1=>(sl Ki 33 [] ⟨(List.range 11),[],rgjN6,rgjM6⟩ ⟨[],[.cells [.len (y9g aD v8 v2).length,.keep,.keep,.keep],.rowed 4 (y9g aD v8 v2).length (Zz (y9g aD v8 v2)),.keep,.keep,.keep,.keep,.keep,.keep,.keep,.keep,.keep],[]⟩ [true] (pp (xL aD.length (y9g aD v8 v2).length) (pp (xL aD.length (y9g aD v8 v2).length) (pp (xS aD.length (Xi (Zz aD) (0+(tn v8)) 2 [(ii v2)]) (Zz (y9g aD v8 v2))) (pp (pp (xF (Xi (Zz aD) (0+(tn v8)) 2 [(ii v2)])) (fl bU nn)) (ww o1 (ww o0 (tt k0 nn))))))))))) (fun k0=>(sl Ki 36 [] ⟨[2,3,4,5,0,6,7,8,9,1],[],j2b,j2c⟩ ⟨[],[],[]⟩ (bl 2 0) (pp (fl bU (fl aD nn)) (tt k0 nn)))))
theorem x8t (q:Op) (l0:List R4) (l1:List R4):Yr prog (Zy prog (nRg q)) (rgjC q l0 l1) (Zb prog (nRg q) [(.dat l0.length (Zz l0)),(.dat l1.length (Zz l1))] true []) (y3a q l0 l1):=by cases q <;> exact (lo fun bQ=>(lb (fun k0=>(lr 11 3 [1,1,1,1,1,1,1,0] 1 28 [(4,.nils),(5,(ii (y7k (cvT l0))))] (sl Ki 65 [] ⟨[],[],[some [4,5]],[]⟩ ⟨[],[],[]⟩ [true,true] (tt k0 (tt k0 (pp (pp (xr l0) (xw bQ)) nn)))))) (fun k0=>(lo fun aG=>(lb (fun k1=>(lr 11 3 [1,1,1,1,1,1,1,0] 1 28 [(4,.nils),(5,(ii (y7k (cvT l1))))] (sl Ki 67 [] ⟨[],[],[some [4,5]],[]⟩ ⟨[],[],[]⟩ [false,true] (tt k1 (pp (pp (xr l1) (xw aG)) (tt k0 (pp (pp (xr l0) (xw bQ)) nn))))))) (fun k1=>(sl Ki 108 [(3,1,Zz ([]:List Int))] ⟨[5,4,6,0,1,2,3,7],[],rgjN0,rgjM0⟩ ⟨[],[.keep,.keep,.cells [.grow 7 1],.keep,.keep,.keep,.keep,.keep],[]⟩ [false,false,true] (pp (fl ([]:List Int) nn) (tt k1 (pp (pp (xr l1) (xw aG)) (tt k0 (pp (pp (xr l0) (xw bQ)) nn))))))))))))
theorem u0q (q:Op) (l0:List R4) (l1:List R4) (n:Nat) (vs:List AVal) (h:Yz (Yh q l0 l1) n (y3a q l0 l1)=.ret vs):Ji prog (Zy prog (nRg q)) (Zb prog (nRg q) [(.dat l0.length (Zz l0)),(.dat l1.length (Zz l1))] true []) vs:=by have:=Ze (w8i q l0 l1) n _ (x8t q l0 l1);rwa [h] at this
open Go.Sort Go.Shelf Go.RowKit Go.Lib
def x7a (E:Int→Int) (cs:List Int):Nat→Nat→Int
 | 0,_=>0
 | k+1,i=>bif E (rd cs i) != 0 then E (rd cs i) else x7a E cs k (i+1)
def eJ (e:Int) (n:Nat):Int:=bif e != 0 then e else y6q n
theorem u1b {α:Type} [Yt α] (L:List α):y4z (eJ 0 L.length) L=Qd L:=(z9b L).symm
theorem x2y {n:Nat} (h:y6q n=0):n≤400:=by
 unfold y6q at h;by_cases g:(n:Int)>400
 ·rw [Ah g] at h;cases h
 ·omega
theorem v7l {α:Type} {e:Int} (L:List α) (h:(e != 0)=false):x2u e L=L:=by unfold x2u;rw [h];rfl
def rgS (q:Op) (a b:List R4) (x:Int):List R2:=spJ q.k (D4.inn a x) (D4.inn b x)
def rgA (q:Op) (a b:List R4) (x:Int):Int:=spE q.k (D4.inn a x) (D4.inn b x)
theorem j2e (q:Op) (a b:List R4) (x:Int) (h:(rgA q a b x != 0)=false):(rgS q a b x).length ≤1000:=by
 have h:rgA q a b x=0:=by simpa using h
 unfold rgA spE at h;cases g1:(y7o (D4.inn a x) != 0) with
 | true=>rw [g1,Ab] at h;rw [h] at g1;cases g1
 | false=>
  cases g2:(y7o (D4.inn b x) != 0) with
  | true=>rw [g1,g2,Aa,Ab] at h;rw [h] at g2;cases g2
  | false=>rw [g1,g2,Aa,Aa] at h;exact AG (x2y h) (by omega)
section
variable (q:Op) (a b:List R4) (ha:a.length≤400) (hb:b.length≤400)
include ha hb
theorem u6r (i:Nat) (out:List R4) (last:List R2) (first fin x x':Int): ∀(k j:Nat) (acc:List R2),j+k=a.length→acc.length≤j→
  ∃n,∀N,Yz (Yh q a b) (N+n) (.to (.h3 (i:Int) (j:Int) out last first fin ((D4.cuts (a++b)).length) (Wr (Xu (D4.ends (a++b)))) x x' acc))=Yz (Yh q a b) N (.to (.h4 (i:Int) 0 out last first fin ((D4.cuts (a++b)).length) (Wr (Xu (D4.ends (a++b)))) x x' (acc++D4.inn (a.drop j) x) []))
 | 0,j,acc,h,h'=>by have _u:=ha;have _v:=hb;refine ⟨1,fun N=> ?_⟩;rw [Av (by omega),show D4.inn ([]:List R4) x=[] from rfl,AB,Zv];simp (disch:=omega) only [Yh,Yx,Aa]
 | k+1,j,acc,h,h'=>by
  have hj:j<a.length:=by omega
  obtain ⟨n,hn⟩:=u6r i out last first fin x x' k (j+1) (acc++D4.inn [rd a j] x) (by omega) (by have:=D4.inn_length [rd a j] x;simp only [Az,Bt] at*;omega)
  refine ⟨n+1,fun N=> ?_⟩;have e:D4.inn (a.drop j) x=D4.inn [rd a j] x++D4.inn (a.drop (j+1)) x:=by rw [Yq hj,←D4.inn_append];rfl
  rw [e,←AE,Zv,←AM,←hn N];by_cases h1:D4.lo (rd a j)≤x
  ·by_cases h2:x<D4.hi (rd a j)
   ·rw [D4.inn_t _ _ h1 h2];simp only [D4] at h1 h2 ⊢;simp (disch:=omega) only [Yh,Wy,Zm,Zk,Zs,Zt,Yd,Yj,Ym,Zh,Zq,Zx,Ya,Zj,Ag,Aw,Ai,An,Ab,Aa]
   ·rw [D4.inn_f2 _ _ h2,AB];simp only [D4] at h1 h2;simp (disch:=omega) only [Yh,Wy,Yx,Zm,Zk,Zs,Zt,Yd,Yj,Ym,Zh,Zq,Zx,Ya,Zj,Ag,Aw,Ai,An,Ab,Aa]
  ·rw [D4.inn_f1 _ _ h1,AB];simp only [D4] at h1;simp (disch:=omega) only [Yh,w1s,Zm,Zk,Zs,Zt,Yd,Yj,Ym,Zh,Zq,Zx,Ya,Zj,Ag,Aw,Ai,An,Ab,Aa]
theorem u6q (i:Nat) (out:List R4) (last:List R2) (first fin x x':Int) (o1:List R2): ∀(k j:Nat) (acc:List R2),j+k=b.length→acc.length≤j→
  ∃n,∀N,Yz (Yh q a b) (N+n) (.to (.h4 (i:Int) (j:Int) out last first fin ((D4.cuts (a++b)).length) (Wr (Xu (D4.ends (a++b)))) x x' o1 acc))=Yz (Yh q a b) N (.to (.h4 (i:Int) (b.length:Int) out last first fin ((D4.cuts (a++b)).length) (Wr (Xu (D4.ends (a++b)))) x x' o1 (acc++D4.inn (b.drop j) x)))
 | 0,j,acc,h,h'=>by have _u:=ha;have _v:=hb;refine ⟨0,fun N=> ?_⟩;rw [Av (by omega),show D4.inn ([]:List R4) x=[] from rfl,AB,A6,show j=b.length by omega]
 | k+1,j,acc,h,h'=>by
  have hj:j<b.length:=by omega
  obtain ⟨n,hn⟩:=u6q i out last first fin x x' o1 k (j+1) (acc++D4.inn [rd b j] x) (by omega) (by have:=D4.inn_length [rd b j] x;simp only [Az,Bt] at*;omega)
  refine ⟨n+1,fun N=> ?_⟩;have e:D4.inn (b.drop j) x=D4.inn [rd b j] x++D4.inn (b.drop (j+1)) x:=by rw [Yq hj,←D4.inn_append];rfl
  rw [e,←AE,Zv,←AM,←hn N];by_cases h1:D4.lo (rd b j)≤x
  ·by_cases h2:x<D4.hi (rd b j)
   ·rw [D4.inn_t _ _ h1 h2];simp only [D4] at h1 h2 ⊢;simp (disch:=omega) only [Yh,Wy,Zm,Zk,Zs,Zt,Yd,Yj,Ym,Zh,Zq,Zx,Ya,Zj,Ag,Aw,Ai,An,Ab,Aa]
   ·rw [D4.inn_f2 _ _ h2,AB];simp only [D4] at h1 h2;simp (disch:=omega) only [Yh,Wy,Yx,Zm,Zk,Zs,Zt,Yd,Yj,Ym,Zh,Zq,Zx,Ya,Zj,Ag,Aw,Ai,An,Ab,Aa]
  ·rw [D4.inn_f1 _ _ h1,AB];simp only [D4] at h1;simp (disch:=omega) only [Yh,w1s,Zm,Zk,Zs,Zt,Yd,Yj,Ym,Zh,Zq,Zx,Ya,Zj,Ag,Aw,Ai,An,Ab,Aa]
theorem u6p (i:Nat) (hi:i≤2000) (x x':Int) (s:List R2) (first:Int) (o1 o2:List R2) (hs:s.length≤1000): ∀(k j:Nat) (out:List R4),j+k=s.length→out.length≤10000000+j→
  ∃n,∀N,Yz (Yh q a b) (N+n) (.to (.h5 x x' s (s.length:Int) (j:Int) (i:Int) out first ((D4.cuts (a++b)).length) (Wr (Xu (D4.ends (a++b)))) o1 o2))=Yz (Yh q a b) N (.to (.h2 ((i+1:Nat):Int) (out++(s.drop j).map (D4.put x x')) s first x' ((D4.cuts (a++b)).length) (Wr (Xu (D4.ends (a++b))))))
 | 0,j,out,h,ho=>by have _u:=ha;have _v:=hb;refine ⟨1,fun N=> ?_⟩;rw [Av (by omega),Zv];simp (disch:=omega) only [Yh,Yx,Zq,Zx,Aa,Ba,AB]
 | k+1,j,out,h,ho=>by
  obtain ⟨n,hn⟩:=u6p i hi x x' s first o1 o2 hs k (j+1) (out++[D4.put x x' (rd s j)]) (by omega) (by simp;omega)
  refine ⟨n+1,fun N=> ?_⟩;have:=hn N;rw [Yq (show j<s.length by omega),AW,←AE,Zv];simp (disch:=omega) only [Yh,Zm,Zk,Zs,Zt,Yd,Yj,Ym,Zh,Zq,Zx,Ya,Zj,Ag,Aw,Ai,An,Ab,Aa];rw [AM] at this;exact this
theorem u6o (i:Nat) (hi:i≤2000) (x x' fin:Int) (s last:List R2) (first:Int) (o1 o2:List R2): ∀(k j:Nat) (out:List R4),j+k=out.length→out.length≤10000000→
  ∃n,∀N,Yz (Yh q a b) (N+n) (.to (.h6 x' (j:Int) x s (i:Int) out last first fin ((D4.cuts (a++b)).length) (Wr (Xu (D4.ends (a++b)))) o1 o2))=Yz (Yh q a b) N (.to (.h2 ((i+1:Nat):Int) (D4.grow out j x') last first x' ((D4.cuts (a++b)).length) (Wr (Xu (D4.ends (a++b))))))
 | 0,j,out,h,ho=>by have _u:=ha;have _v:=hb;refine ⟨1,fun N=> ?_⟩;rw [D4.grow_nil _ _ _ (by omega),Zv];simp (disch:=omega) only [Yh,Yx,Zq,Zx,Aa]
 | k+1,j,out,h,ho=>by
  obtain ⟨n,hn⟩:=u6o i hi x x' fin s last first o1 o2 k (j+1) (out.set j (D4.ext x' (rd out j))) (by simp;omega) (by simpa using ho)
  refine ⟨n+1,fun N=> ?_⟩;have:=hn N;rw [D4.grow_set out j _ (by omega)] at this;rw [←AE,Zv];simp (disch:=omega) only [Yh,Zm,Zk,Zs,Zt,Yd,Yj,Ym,Zh,Zq,Zx,Ya,Zj,Ag,Aw,Ai,An,Ab,Aa];exact this
theorem v3w : ∀(k i:Nat) (s:Sw R4 R2),k=(D4.cuts (a++b)).length - 1 - i→i≤(D4.cuts (a++b)).length →s.out.length≤i*1000→s.last.length≤1000→s.first≤s.out.length→
  ∃n,Yz (Yh q a b) n (.to (.h2 ((i+1:Nat):Int) s.out s.last (s.first:Int) s.fin ((D4.cuts (a++b)).length) (Wr (Xu (D4.ends (a++b))))))=.ret (y4z (eJ (x7a (rgA q a b) (D4.cuts (a++b)) k i) (D4.goS (rgS q a b) (D4.cuts (a++b)) k i s).out.length) (D4.goS (rgS q a b) (D4.cuts (a++b)) k i s).out)
 | 0,i,s,h,hi,ho,hla,hf=>by
  have _u:=ha;have _v:=hb;have hc:=D4.cuts_length (a++b);refine ⟨1,?_⟩;rw [Zv,show D4.goS (rgS q a b) (D4.cuts (a++b)) 0 i s=s from rfl,show x7a (rgA q a b) (D4.cuts (a++b)) 0 i=0 from rfl,u1b];unfold Qd;by_cases g:(s.out.length:Int)>400
  ·simp (disch:=omega) only [Yh,Yx,Yn,Ab,Aa,Za]
  ·simp (disch:=omega) only [Yh,Yx,Xa,Ab,Aa,Za]
 | k +1,i,s,h,hi,ho,hla,hf=>by
  have hc:=D4.cuts_length (a++b);rw [Az] at hc;have hi1:i+1<(D4.cuts (a++b)).length :=by omega
  have hpl:(Wr (Xu (D4.ends (a++b)))).length =2*(a.length+b.length):=by rw [Jw,Xo,D4.ends_length,Az]
  have r0:rd (Wr (Xu (D4.ends (a++b)))) i=rd (D4.cuts (a++b)) i:=z4v _ _ (by show i<(D4.cuts (a++b)).length;omega);have r1:rd (Wr (Xu (D4.ends (a++b)))) (i+1)=rd (D4.cuts (a++b)) (i+1):=z4v _ _ (by show i+1<(D4.cuts (a++b)).length;omega);have hbig:i*1000≤2000*1000:=AK _ (by omega);have hgo:D4.goS (rgS q a b) (D4.cuts (a++b)) (k+1) i s=D4.goS (rgS q a b) (D4.cuts (a++b)) k (i+1) (D4.oneS (rgS q a b (rd (D4.cuts (a++b)) i)) (rd (D4.cuts (a++b)) i) (rd (D4.cuts (a++b)) (i+1)) s):=rfl;have hfe: ∀x,x=rd (D4.cuts (a++b)) i→(rgA q a b x != 0)=false→x7a (rgA q a b) (D4.cuts (a++b)) (k+1) i=x7a (rgA q a b) (D4.cuts (a++b)) k (i+1):=fun x hx z=>by show (bif rgA q a b (rd (D4.cuts (a++b)) i) != 0 then _ else _)=_;rw [←hx,z];rfl
  revert hgo hfe r0;generalize hx:rd (D4.cuts (a++b)) i=x;generalize hx':rd (D4.cuts (a++b)) (i+1)=x' at r1;intro r0 hgo hfe;obtain ⟨n3,h3⟩:=u6r q a b ha hb (i+1) s.out s.last (s.first:Int) s.fin x x' a.length 0 [] (Ag _) (Aq _);simp only [A0,Br,z3r] at h3;obtain ⟨n4,h4⟩:=u6q q a b ha hb (i+1) s.out s.last (s.first:Int) s.fin x x' (D4.inn a x) b.length 0 [] (Ag _) (Aq _);simp only [A0,Br,z3r] at h4;have st0: ∀N,Yz (Yh q a b) (N+n4+n3+1) (.to (.h2 ((i+1:Nat):Int) s.out s.last (s.first:Int) s.fin ((D4.cuts (a++b)).length) (Wr (Xu (D4.ends (a++b))))))=Yz (Yh q a b) N (.to (.h4 ((i+1:Nat):Int) (b.length:Int) s.out s.last (s.first:Int) s.fin ((D4.cuts (a++b)).length) (Wr (Xu (D4.ends (a++b)))) x x' (D4.inn a x) (D4.inn b x))):=fun N=>by
   rw [←h4 N,←h3 (N+n4),Zv];have e1:wrap .i64 (((i+1:Nat):Int) - 1)=(i:Int):=by rw [Zr];exact Zq (by omega)
   simp (disch:=omega) only [Yh,e1,r0,r1,Zm,Zk,Zs,Zt,Yd,Yj,Ym,Zh,Zq,Zx,Ya,Zj,Ag,Aw,Ai,An,Ab,Aa]
  have w1:x1e q (D4.inn a x) (D4.inn b x)=true:=rfl;have f1:z0p (Zz (D4.inn a x))=true:=Xg _;have f2:z0p (Zz (D4.inn b x))=true:=Xg _;rcases Yp (rgA q a b x != 0) with z | z
  ·have z':(w7l q (D4.inn a x) (D4.inn b x) != 0)=true:=z;refine ⟨1+n4+n3+1,?_⟩;rw [st0 1,Zv];have e:x7a (rgA q a b) (D4.cuts (a++b)) (k+1) i=rgA q a b x:=by show (bif rgA q a b (rd (D4.cuts (a++b)) i) != 0 then rgA q a b (rd (D4.cuts (a++b)) i) else _)=_;rw [hx,z];rfl
   simp (disch:=omega) only [Yh,Yx,z',w1,f1,f2,Zm,Zk,Zs,Zt,Yd,Yj,Ym,Zh,Zq,Zx,Ya,Zj,Ag,Aw,Ai,An,Ab,Aa,Za];rw [e,show eJ (rgA q a b x) _=rgA q a b x by unfold eJ;rw [z];rfl,z3b _ z];rfl
  have z':(w7l q (D4.inn a x) (D4.inn b x) != 0)=false:=z;have v:z4n q (D4.inn a x) (D4.inn b x)=rgS q a b x:=v7l _ z;have hsl:=j2e q a b x z;have w2:Vs s.last (rgS q a b x)=true:=Ah (by omega);rw [hgo,hfe x rfl z];have ol:(D4.oneS (rgS q a b x) x x' s).out.length ≤s.out.length+(rgS q a b x).length :=by
   unfold Dim.oneS;cases decide (0<(rgS q a b x).length)&&((s.fin == x)&&D4.same s.last (rgS q a b x))
   ·simp
   ·simp [Dim.grow_length]
  rcases Yp (decide (0<(rgS q a b x).length)&&((s.fin == x)&&D4.same s.last (rgS q a b x))) with g | g
  ·obtain ⟨n6,h6⟩:=u6o q a b ha hb (i+1) (by omega) x x' s.fin (rgS q a b x) s.last (s.first:Int) (D4.inn a x) (D4.inn b x) (s.out.length - s.first) s.first s.out (by omega) (by omega)
   have e:D4.oneS (rgS q a b x) x x' s=⟨D4.grow s.out s.first x',s.last,s.first,x'⟩:=by unfold Dim.oneS;rw [g];rfl
   obtain ⟨n0,h0⟩:=v3w k (i+1) (D4.oneS (rgS q a b x) x x' s) (by omega) (by omega) (by omega) (by rw [e];exact hla) (by rw [e];simpa [Dim.grow_length] using hf);refine ⟨n0+n6+1+n4+n3+1,?_⟩;rw [st0 (n0+n6+1),Zv];simp only [Ac,Al] at g;obtain ⟨g1,g2,g3⟩:=g;have g3':Qm s.last (rgS q a b x)=true:=g3;simp (disch:=omega) only [Yh,Yx,Yn,z',v,g2,g3',w1,f1,f2,w2,Zm,Zk,Zs,Zt,Yd,Yj,Ym,Zh,Zq,Zx,Ya,Zj,Ag,Aw,Ai,An,Ab,Aa];rw [h6 n0];rw [e] at h0 ⊢;exact h0
  ·obtain ⟨n5,h5⟩:=u6p q a b ha hb (i+1) (by omega) x x' (rgS q a b x) (s.out.length:Int) (D4.inn a x) (D4.inn b x) hsl (rgS q a b x).length 0 s.out (Ag _) (by omega);simp only [A0,z3r] at h5;have e:D4.oneS (rgS q a b x) x x' s=⟨s.out++(rgS q a b x).map (D4.put x x'),rgS q a b x,s.out.length,x'⟩:=by unfold Dim.oneS;rw [g];rfl
   obtain ⟨n0,h0⟩:=v3w k (i+1) (D4.oneS (rgS q a b x) x x' s) (by omega) (by omega) (by omega) (by rw [e];exact hsl) (by rw [e];simp);have hg:Yz (Yh q a b) 1 (.to (.h4 ((i+1:Nat):Int) (b.length:Int) s.out s.last (s.first:Int) s.fin ((D4.cuts (a++b)).length) (Wr (Xu (D4.ends (a++b)))) x x' (D4.inn a x) (D4.inn b x)))=.to (.h5 x x' (rgS q a b x) ((rgS q a b x).length :Int) 0 ((i+1:Nat):Int) s.out (s.out.length:Int) ((D4.cuts (a++b)).length) (Wr (Xu (D4.ends (a++b)))) (D4.inn a x) (D4.inn b x)):=by
    rw [show (1:Nat)=0+1 from rfl,Zv];have e3:D4.same s.last (rgS q a b x)=Qm s.last (rgS q a b x):=rfl;rw [e3] at g;by_cases g1:0<(rgS q a b x).length
    ·rw [Ah g1,An] at g;rcases Yp (s.fin == x) with g2 | g2
     ·rw [g2,An] at g;simp (disch:=omega) only [Yh,Yx,Yn,z',v,g2,g,w1,f1,f2,w2,Zm,Zk,Zs,Zt,Yd,Yj,Ym,Zh,Zq,Zx,Ya,Zj,Ag,Aw,Ai,An,Ab,Aa];rfl
     ·simp (disch:=omega) only [Yh,Yx,Yn,z',v,g2,w1,f1,f2,w2,Zm,Zk,Zs,Zt,Yd,Yj,Ym,Zh,Zq,Zx,Ya,Zj,Ag,Aw,Ai,An,Ab,Aa];rfl
    ·simp (disch:=omega) only [Yh,Yx,Xa,z',v,w1,f1,f2,w2,Zm,Zk,Zs,Zt,Yd,Yj,Ym,Zh,Zq,Zx,Ya,Zj,Ag,Aw,Ai,An,Ab,Aa];rfl
   refine ⟨n0+n5+1+n4+n3+1,?_⟩;rw [st0 (n0+n5+1),z8m _ (n0+n5) 1,hg,h5 n0];rw [e] at h0 ⊢;exact h0
theorem u6s : ∀(k i:Nat) (acc:List Int),i+k=b.length→acc=D4.ends (a++b.take i)→ ∃n,Yz (Yh q a b) n (.to (.h1 (i:Int) acc))=.ret (y4z (eJ (x7a (rgA q a b) (D4.cuts (a++b)) ((D4.cuts (a++b)).length - 1) 0) (D4.goS (rgS q a b) (D4.cuts (a++b)) ((D4.cuts (a++b)).length - 1) 0 ⟨[],[],0,0⟩).out.length) (D4.goS (rgS q a b) (D4.cuts (a++b)) ((D4.cuts (a++b)).length - 1) 0 ⟨[],[],0,0⟩).out)
 | 0,i,acc,h,h'=>by
  have _u:=ha;have _v:=hb;have e:acc=D4.ends (a++b):=by rw [h',AU (by omega)]
  subst e;have hle:=D4.ends_length (a++b);rw [Az] at hle;obtain ⟨n,hn⟩:=v3w q a b ha hb ((D4.cuts (a++b)).length - 1) 0 ⟨[],[],0,0⟩ (by omega) (AJ _) (AJ _) (AJ _) (AJ _);refine ⟨n+1,?_⟩;rw [Zv];simp (disch:=omega) only [Yh,Wv,z0j,y0o,Yx,Yj,Ym,Aw,Ab,Aa];exact hn
 | k+1,i,acc,h,h'=>by
  have hle:acc.length≤2*(400+i):=by rw [h',D4.ends_length];simp only [Az,Bm];omega
  obtain ⟨n,hn⟩:=u6s k (i+1) (acc++D4.ends [rd b i]) (by omega) (by
   rw [h',Bg];have:b[i]? =some (rd b i):=by rw [Xz (show i<b.length by omega)];exact As _
   rw [this];simp [Dim.ends])
  refine ⟨n+1,?_⟩;rw [Zv];simp (disch:=omega) only [Yh,Zm,Zk,Zs,Zt,Yd,Yj,Ym,Zh,Zq,Zx,Ya,Zj,Ag,Aw,Ai,An,Ab,Aa];exact hn
theorem u6t : ∀(k i:Nat) (acc:List Int),i+k=a.length→acc=D4.ends (a.take i)→ ∃n,Yz (Yh q a b) n (.to (.h0 (i:Int) acc))=.ret (y4z (eJ (x7a (rgA q a b) (D4.cuts (a++b)) ((D4.cuts (a++b)).length - 1) 0) (D4.goS (rgS q a b) (D4.cuts (a++b)) ((D4.cuts (a++b)).length - 1) 0 ⟨[],[],0,0⟩).out.length) (D4.goS (rgS q a b) (D4.cuts (a++b)) ((D4.cuts (a++b)).length - 1) 0 ⟨[],[],0,0⟩).out)
 | 0,i,acc,h,h'=>by have _u:=ha;have _v:=hb;obtain ⟨n,hn⟩:=u6s q a b ha hb b.length 0 acc (Ag _) (by rw [h',AU (by omega),List.take_zero,AB]);refine ⟨n+1,?_⟩;rw [Zv];simp (disch:=omega) only [Yh,Yx,Aa];exact hn
 | k+1,i,acc,h,h'=>by
  have hle:acc.length≤2*(400+i):=by rw [h',D4.ends_length];simp only [Az,Bm];omega
  obtain ⟨n,hn⟩:=u6t k (i+1) (acc++D4.ends [rd a i]) (by omega) (by
   rw [h',Bg];have:a[i]? =some (rd a i):=by rw [Xz (show i<a.length by omega)];exact As _
   rw [this];simp [Dim.ends])
  refine ⟨n+1,?_⟩;rw [Zv];simp (disch:=omega) only [Yh,Zm,Zk,Zs,Zt,Yd,Yj,Ym,Zh,Zq,Zx,Ya,Zj,Ag,Aw,Ai,An,Ab,Aa];exact hn
end
def rgE (q:Op) (a b:List R4):Int:=bif y7k a != 0 then y7k a else bif y7k b != 0 then y7k b else eJ (x7a (rgA q a b) (D4.cuts (a++b)) ((D4.cuts (a++b)).length - 1) 0) (rgJ q.k a b).length
def Vy (q:Op) (a b:List R4):List R4:=x2u (rgE q a b) (rgJ q.k a b)
def x4k (q:Op) (a b:List R4):Int:=rgE q a b
def Qt (q:Op) (a b:List R4):Bool:=true
theorem w3x {l:List R4} (h:(y7k l != 0)=false):l.length≤400:=by
 refine AL fun g=> ?_;have h:y7k l=0:=by simpa using h
 unfold y7k at h;rw [Ah (by omega)] at h;cases h
theorem rg_run (q:Op) (a b:List R4) (h:Qt q a b=true): ∃n,Yz (Yh q a b) n (y3a q a b)=.ret (y4z (rgE q a b) (rgJ q.k a b)):=by
 unfold y3a;have o: ∀l,z4t l=true:=fun _=>rfl;simp only [Zm,o,Ab];rcases Yp (y7k a != 0) with q1 | q1
 ·exact ⟨0,by simp only [rgE,q1,Ab,z3b _ q1];rfl⟩
 rcases Yp (y7k b != 0) with q2 | q2
 ·exact ⟨0,by simp only [rgE,q1,q2,Ab,Aa,z3b _ q2];rfl⟩
 obtain ⟨n,hn⟩:=u6t q a b (w3x q1) (w3x q2) a.length 0 [] (Ag _) rfl;refine ⟨n,?_⟩;simp only [rgE,q1,q2,Aa];exact hn
def fRg (q:Op):List AVal→Option (AVal×Bool)
 | [a0,a1]=>match asL R4 a0,asL R4 a1 with
  | some (L0,g0,n0),some (L1,g1,n1)=>some (.tup [.dat (Vy q L0 L1).length (Zz (Vy q L0 L1)),.int .i64 (x4k q L0 L1)],isT R4 n0 g0&&(isT R4 n1 g1&&(Qt q L0 L1)))
  | _,_=>none
 | _=>none
theorem v7i (q:Op) {S:Specs} (hS:Zu prog S):Zu prog (S.with (nRg q) (fRg q)):=by
 refine v1m hS (by cases q <;> kernel_rfl) fun args v h=> ?_;unfold fRg at h;split at h
 ·rename_i a0 a1;split at h
  ·rename_i L0 g0 n0 L1 g1 n1 e0 e1;simp only [Ae,Ad,Ac] at h;obtain ⟨rfl,ho0,ho1,hw⟩:=h;obtain ⟨N,hN⟩:=rg_run q L0 L1 hw;exact ⟨_,_,(.cons (asL_le e0 ho0) (.cons (asL_le e1 ho1) .nil)),z5p _ _,u0q q L0 L1 N _ hN,3,z9s _ _⟩
  ·cases h
 ·cases h
def Ud :Specs:=((Uc.with (nRg .u) (fRg .u)).with (nRg .e) (fRg .e)).with (nRg .d) (fRg .d)
theorem Ud_ok :Zu prog Ud:=v7i .d (v7i .e (v7i .u Ki))
structure R7 where
 (a b c d e f g:Int)
instance : Yt R7 where
 w:=7
 d:=⟨0,0,0,0,0,0,0⟩
 cells x:=[.int .u8 x.a,.int .i64 x.b,.int .i64 x.c,.int .i64 x.d,.int .i64 x.e,.int .i64 x.f,.int .i64 x.g]
 of l:=⟨iOf (l.getD 0 .undef),iOf (l.getD 1 .undef),iOf (l.getD 2 .undef),iOf (l.getD 3 .undef),iOf (l.getD 4 .undef),iOf (l.getD 5 .undef),iOf (l.getD 6 .undef)⟩
 len _:=rfl
 pos:=by decide
 flat _:=rfl
 sc _:=rfl
 back _:=rfl
inductive Ax where
 | x | y | z
def Ax.lo (q:Ax) (r:R6):Int:=match q with
 | .x =>r.a
 | .y =>r.b
 | .z =>r.c
def Ax.hi (q:Ax) (r:R6):Int:=match q with
 | .x =>r.d
 | .y =>r.e
 | .z =>r.f
def Ax.rc (q:Ax) (r:R6):R4:=match q with
 | .x =>⟨r.b,r.c,r.e,r.f⟩
 | .y =>⟨r.a,r.c,r.d,r.f⟩
 | .z =>⟨r.a,r.b,r.d,r.e⟩
def Ax.ix (q:Ax):Int:=match q with
 | .x =>0
 | .y =>1
 | .z =>2
def sdI (s:Bool):Int:=match s with
 | true=>0
 | false=>1
def qd (q:Ax) (s:Bool) (p:Int) (t:R4):R7:=match q,s with
 | .x,true=>⟨0,p,t.a,t.b,p,t.c,t.d⟩
 | .x,false=>⟨1,p,t.a,t.b,p,t.c,t.d⟩
 | .y,true=>⟨2,t.a,p,t.b,t.c,p,t.d⟩
 | .y,false=>⟨3,t.a,p,t.b,t.c,p,t.d⟩
 | .z,true=>⟨4,t.a,t.b,p,t.c,t.d,p⟩
 | .z,false=>⟨5,t.a,t.b,p,t.c,t.d,p⟩
def z1t (q:Ax) (L:List R6) (p:Int):List R4:=(L.filter fun r=>decide (q.lo r≤p)&&decide (p<q.hi r)).map q.rc
abbrev nV1 :Ax→Nat
 | .x =>nMv1
 | .y =>nMv4
 | .z =>nMv7
abbrev nV2 :Ax→Nat
 | .x =>nMv2
 | .y =>nMv5
 | .z =>nMv8
abbrev nV3 :Ax→Nat
 | .x =>nMv3
 | .y =>nMv6
 | .z =>nMv9
def isV (q:Ax) (a b c:Nat):Bool:=Nat.beq a (nV1 q)&&(Nat.beq b (nV2 q)&&Nat.beq c (nV3 q))
theorem v6g {q:Ax} {a b c:Nat} (h:isV q a b c=true):a=nV1 q∧b=nV2 q∧c=nV3 q:=by simp only [isV,Ac] at h;exact ⟨Aj h.1,Aj h.2.1,Aj h.2.2⟩
def axOf (a b c:Nat):Option Ax:=bif isV .x a b c then some .x else bif isV .y a b c then some .y else bif isV .z a b c then some .z else none
theorem w2j {a b c:Nat} {q:Ax} (h:axOf a b c=some q):a=nV1 q∧b=nV2 q∧c=nV3 q:=by
 unfold axOf at h;cases hx:isV .x a b c with
 | true=>rw [hx,Ab] at h;obtain rfl:=Af h;exact v6g hx
 | false=>
  rw [hx,Aa] at h;cases hy:isV .y a b c with
  | true=>rw [hy,Ab] at h;obtain rfl:=Af h;exact v6g hy
  | false=>
   rw [hy,Aa] at h;cases hz:isV .z a b c with
   | true=>rw [hz,Ab] at h;obtain rfl:=Af h;exact v6g hz
   | false=>rw [hz,Aa] at h;cases h
abbrev Ma :Specs:=Ud
theorem w3b :Zu prog Ma:=Ud_ok
inductive mctS where
 | h0 (v8:List R4) (v13:Int)
def mctC (q:Ax) (l1:List R6) (x2:Int):mctS→Cfg
 | .h0 v8 v13=>⟨⟨47,0,true⟩,none,(Zd prog 141 [1,1,0,1,0,0] 0),none,(Zy prog 32),⟨Yb [(2,(ii x2)),(3,(.ptr 0 0)),(8,(.sla 1 4 0 v8.length (.un 4))),(11,(.dat l1.length (Zz l1))),(12,(ii (l1.length:Int))),(13,(ii v13))],Vb [⟨[(.fn (nV1 q) []),(.fn (nV2 q) []),(.fn (nV3 q) [])],84,none⟩,⟨rows v8.length (Zz v8),88,some ⟨4,v8.length,(Zz v8)⟩⟩] 0,2,[],true⟩,[],.leaf⟩
def u2e :List (Option (List Nat)):=[some [2,3,8,11,12,13]]
def u2f :List (Option (List Nat)):=[]
def z3j (q:Ax) (l1:List R6) (x2:Int):mctS→Xp mctS
 | .h0 v8 v13=>(bif (decide (v13<(l1.length:Int))) then (bif ((decide (0≤v13∧v13<(l1.length:Int)))&&true) then (bif (decide ((q.lo (rd l1 v13.toNat))≤x2)) then (bif (decide (x2<(q.hi (rd l1 v13.toNat)))) then (bif (Nat.beq 4 4&&((decide (0+v8.length=v8.length))&&decide ((v8.length+1+1)*(32+1)≤Jd))) then (.to (.h0 (v8++[(q.rc (rd l1 v13.toNat))]) (wrap .i64 (v13+1)))) else .stuck) else (.to (.h0 v8 (wrap .i64 (v13+1))))) else (.to (.h0 v8 (wrap .i64 (v13+1))))) else .stuck) else (bif (Jz (cvT v8)) then (.ret [(.dat (Zc (cvT v8)).length (Zz (Zc (cvT v8)))),(.int .i64 (Xw (cvT v8)))]) else .stuck))
def x2c (q:Ax) (l1:List R6) (x2:Int):Xp mctS:=(.to (.h0 ([]:List R4) 0))
theorem w9c (q:Ax) (l1:List R6) (x2:Int): ∀s,Yr prog (Zy prog 141) (mctC q l1 x2) (mctC q l1 x2 s) (z3j q l1 x2 s):=by cases q <;> refine (?f: ∀q:Ax,∀s,Yr prog (Zy prog 141) (mctC q l1 x2) (mctC q l1 x2 s) (z3j q l1 x2 s)) _ <;> exact fun q=>fun
 | .h0 v8 v13=>(lb (fun k0=>(lo fun aG=>(lb (fun k1=>(lb (fun k2=>(lo fun o0=>(sl w3b 137 [] ⟨[0,12],[],u2e,u2f⟩ ⟨[(8,.len (v8++[(q.rc (rd l1 (tn v13)))]).length)],[.keep,.rowed 4 (v8++[(q.rc (rd l1 (tn v13)))]).length (Zz (v8++[(q.rc (rd l1 (tn v13)))]))],[]⟩ (trs 9 []) (pp (xL (v8.length+1) (v8++[(q.rc (rd l1 (tn v13)))]).length) (pp (xL (v8.length+1) (v8++[(q.rc (rd l1 (tn v13)))]).length) (pp (xS (v8.length+1) (Zi (Zz v8) 0 v8.length 4 (Yt.cells (q.rc (rd l1 (tn v13))))) (Zz (v8++[(q.rc (rd l1 (tn v13)))]))) (pp (pp (xF (Zi (Zz v8) 0 v8.length 4 (Yt.cells (q.rc (rd l1 (tn v13)))))) nn) (ww o0 (tt k2 (tt k1 (ww aG (tt k0 nn)))))))))))) (fun k2=>(sl w3b 67 [] ⟨[0,1],[],u2e,u2f⟩ ⟨[],[],[]⟩ (trs 8 [false]) (pp (fl v8 nn) (tt k2 (tt k1 (ww aG (tt k0 nn))))))))) (fun k1=>(sl w3b 55 [] ⟨[0,1],[],u2e,u2f⟩ ⟨[],[],[]⟩ (bl 9 1) (pp (fl v8 nn) (tt k1 (ww aG (tt k0 nn))))))))) (fun k0=>(Wo (sl w3b (C':=⟨⟨47,0,true⟩,(Jb prog 141 [1,1,1,0] 1),(Zd prog 141 [1,1,1,0] 1),none,(Zy prog 32),⟨Yb [(43,(.dat v8.length (Zz v8)))],Vb [] 0,0,[],true⟩,[],.leaf⟩) 10 [] ⟨[],[1],[some [43]],[]⟩ ⟨[(43,.frz v8.length v8.length (Zz v8) (Zz v8))],[],[]⟩ [false] (pp (xZ (z6j 4 4 0 v8.length v8.length (Zz v8)) v8.length (Zz v8)) (pp (xL v8.length v8.length) (pp (xS v8.length (Zz v8) (Zz v8)) (pp (fl v8 nn) (tt k0 nn)))))) (lo fun o0=>(lr 47 3 [1,1,1,1,1,1,1,0] 1 32 [(6,(.dat (Zc (cvT v8)).length (Zz (Zc (cvT v8))))),(7,(ii (Xw (cvT v8))))] (sl w3b 6 [] ⟨[],[],[some [6,7]],[]⟩ ⟨[],[],[]⟩ [] (pp (pp (xr v8) (xw o0)) nn)))))))
theorem x9w (q:Ax) (l1:List R6) (x2:Int):Yr prog (Zy prog 141) (mctC q l1 x2) (Zb prog 141 [(.agg [(.fn (nV1 q) []),(.fn (nV2 q) []),(.fn (nV3 q) [])]),(.dat l1.length (Zz l1)),(.int .i64 x2)] true []) (x2c q l1 x2):=by cases q <;> exact (sl w3b 19 [(88,4,Zz ([]:List R4))] ⟨[0,1],[],u2e,u2f⟩ ⟨[(8,.grow 1 4)],[],[]⟩ [] (pp (fl ([]:List R4) nn) nn))
theorem u2d (q:Ax) (l1:List R6) (x2:Int) (n:Nat) (vs:List AVal) (h:Yz (z3j q l1 x2) n (x2c q l1 x2)=.ret vs):Ji prog (Zy prog 141) (Zb prog 141 [(.agg [(.fn (nV1 q) []),(.fn (nV2 q) []),(.fn (nV3 q) [])]),(.dat l1.length (Zz l1)),(.int .i64 x2)] true []) vs:=by have:=Ze (w9c q l1 x2) n _ (x9w q l1 x2);rwa [h] at this
theorem w1y (q:Ax) (L M:List R6) (p:Int):z1t q (L++M) p=z1t q L p++z1t q M p:=by unfold z1t;rw [List.filter_append,Bf]
theorem cutL_t (q:Ax) {r:R6} {p:Int} (h1:q.lo r≤p) (h2:p<q.hi r):z1t q [r] p=[q.rc r]:=by unfold z1t;rw [Be,Au (by simp [h1,h2])];rfl
theorem j6n (q:Ax) {r:R6} {p:Int} (h1: ¬q.lo r≤p):z1t q [r] p=[]:=by unfold z1t;rw [Be,Ao (by simp [h1])];rfl
theorem j6m (q:Ax) {r:R6} {p:Int} (h2: ¬p<q.hi r):z1t q [r] p=[]:=by unfold z1t;rw [Be,Ao (by simp [h2])];rfl
def Yg (q:Ax) (L:List R6) (p:Int):List R4:=Zc (z1t q L p)
def Uo (q:Ax) (L:List R6) (p:Int):Int:=Xw (z1t q L p)
def z2i (q:Ax) (L:List R6) (p:Int):Bool:=decide (L.length≤400)
theorem u8q (q:Ax) (L:List R6) (p:Int) (hl:L.length≤400): ∀(k i:Nat) (acc:List R4),i+k=L.length→acc.length≤i→z1t q L p=acc++z1t q (L.drop i) p→
  ∃n,Yz (z3j q L p) n (.to (.h0 acc (i:Int)))=.ret [.dat (Yg q L p).length (Zz (Yg q L p)),.int .i64 (Uo q L p)]
 | 0,i,acc,h,h',e=>by rw [Av (by omega),show z1t q [] p=[] from rfl,AB] at e;refine ⟨1,?_⟩;unfold Yg Uo;rw [Zv,e];simp (disch:=omega) only [z3j,Zm,show∀l,Jz l=true from fun _=>rfl,Yx,Ab,Aa,Za]
 | k+1,i,acc,h,h',e=>by
  have hi:i<L.length:=by omega
  have e2:z1t q L p=(acc++z1t q [rd L i] p)++z1t q (L.drop (i+1)) p:=by rw [AM,←w1y,e,Yq hi];rfl
  obtain ⟨n,hn⟩:=u8q q L p hl k (i+1) (acc++z1t q [rd L i] p) (by omega) (by
   have:(z1t q [rd L i] p).length ≤1:=by unfold z1t;rw [A3];exact BU _ _
   rw [Az];omega) e2
  refine ⟨n+1,?_⟩;rw [Zv];by_cases h1:q.lo (rd L i)≤p
  ·by_cases h2:p<q.hi (rd L i)
   ·rw [cutL_t q h1 h2] at hn;simp (disch:=omega) only [z3j,Wy,Zm,Zk,Zs,Zt,Yd,Yj,Ym,Zh,Zq,Zx,Ya,Zj,Ag,Aw,Ai,An,Ab,Aa];exact hn
   ·rw [j6m q h2,AB] at hn;simp (disch:=omega) only [z3j,Wy,Yx,Zm,Zk,Zs,Zt,Zq,Zx,Zj,Ai,Ab,Aa];exact hn
  ·rw [j6n q h1,AB] at hn;simp (disch:=omega) only [z3j,w1s,Zm,Zk,Zs,Zt,Zq,Zx,Zj,Ai,Ab,Aa];exact hn
theorem j3n (q:Ax) (L:List R6) (p:Int) (h:z2i q L p=true): ∃n,Yz (z3j q L p) n (x2c q L p)=.ret [.dat (Yg q L p).length (Zz (Yg q L p)),.int .i64 (Uo q L p)]:=
 u8q q L p (AF h) L.length 0 [] (Ag _) (Aq _) rfl
def fMct :List AVal→Option (AVal×Bool)
 | [.agg [.fn a [],.fn b [],.fn c []],a1,.int .i64 x2]=>match axOf a b c,asL R6 a1 with
  | some q,some (L1,g1,n1)=>some (.tup [.dat (Yg q L1 x2).length (Zz (Yg q L1 x2)),.int .i64 (Uo q L1 x2)],isT R6 n1 g1&&(z2i q L1 x2))
  | _,_=>none
 | _=>none
theorem j5l {S:Specs} (hS:Zu prog S):Zu prog (S.with nMCut fMct):=by
 refine z0v hS (by kernel_rfl) fun args v h=> ?_;unfold fMct at h;split at h
 ·rename_i a b c a1 x2;split at h
  ·rename_i q L1 g1 n1 eq e1;simp only [Ae,Ad,Ac] at h;obtain ⟨rfl,ho1,hw⟩:=h;obtain ⟨rfl,rfl,rfl⟩:=w2j eq;obtain ⟨N,hN⟩:=j3n q L1 x2 hw;exact ⟨_,_,(.cons (.refl _) (.cons (asL_le e1 ho1) (.cons (.refl _) .nil))),rfl,u2d q L1 x2 N _ hN,3,rfl⟩
  ·cases h
 ·cases h
def Mb :Specs:=Ma.with nMCut fMct
theorem v8x :Zu prog Mb:=j5l w3b
inductive mfcS where
def mfcC (q:Ax) (l1:List R6) (x2:Int) (x3:Bool):mfcS→Cfg
 :=nofun
def x2b (q:Ax) (l1:List R6) (x2:Int) (x3:Bool):mfcS→Xp mfcS
 :=nofun
def z3i (q:Ax) (l1:List R6) (x2:Int) (x3:Bool):Xp mfcS:=(bif (z2i q (cvT l1) (wrap .i64 (x2 - 1))) then (bif (z2i q (cvT l1) x2) then (bif ((Uo q (cvT l1) (wrap .i64 (x2 - 1))) != 0) then (.ret [.nils,(.int .i64 (Uo q (cvT l1) (wrap .i64 (x2 - 1))))]) else (bif ((Uo q (cvT l1) x2) != 0) then (.ret [.nils,(.int .i64 (Uo q (cvT l1) x2))]) else (bif x3 then (bif (Qt .d (cvT (Yg q (cvT l1) (wrap .i64 (x2 - 1)))) (cvT (Yg q (cvT l1) x2))) then (.ret [(.dat (Vy .d (cvT (Yg q (cvT l1) (wrap .i64 (x2 - 1)))) (cvT (Yg q (cvT l1) x2))).length (Zz (Vy .d (cvT (Yg q (cvT l1) (wrap .i64 (x2 - 1)))) (cvT (Yg q (cvT l1) x2))))),(.int .i64 (x4k .d (cvT (Yg q (cvT l1) (wrap .i64 (x2 - 1)))) (cvT (Yg q (cvT l1) x2))))]) else .stuck) else (bif (Qt .d (cvT (Yg q (cvT l1) x2)) (cvT (Yg q (cvT l1) (wrap .i64 (x2 - 1))))) then (.ret [(.dat (Vy .d (cvT (Yg q (cvT l1) x2)) (cvT (Yg q (cvT l1) (wrap .i64 (x2 - 1))))).length (Zz (Vy .d (cvT (Yg q (cvT l1) x2)) (cvT (Yg q (cvT l1) (wrap .i64 (x2 - 1))))))),(.int .i64 (x4k .d (cvT (Yg q (cvT l1) x2)) (cvT (Yg q (cvT l1) (wrap .i64 (x2 - 1))))))]) else .stuck)))) else .stuck) else .stuck)
theorem w9b (q:Ax) (l1:List R6) (x2:Int) (x3:Bool): ∀s,Yr prog (Zy prog 101) (mfcC q l1 x2 x3) (mfcC q l1 x2 x3 s) (x2b q l1 x2 x3 s)
 :=nofun
theorem x9v (q:Ax) (l1:List R6) (x2:Int) (x3:Bool):Yr prog (Zy prog 101) (mfcC q l1 x2 x3) (Zb prog 101 [(.agg [(.fn (nV1 q) []),(.fn (nV2 q) []),(.fn (nV3 q) [])]),(.dat l1.length (Zz l1)),(.int .i64 x2),(.bool x3)] true []) (z3i q l1 x2 x3):=by cases q <;> refine (?f: ∀q:Ax,Yr prog (Zy prog 101) (mfcC q l1 x2 x3) (Zb prog 101 [(.agg [(.fn (nV1 q) []),(.fn (nV2 q) []),(.fn (nV3 q) [])]),(.dat l1.length (Zz l1)),(.int .i64 x2),(.bool x3)] true []) (z3i q l1 x2 x3)) _ <;> exact fun q=>(lo fun bQ=>(lo fun dA=>(lb (fun k0=>(lr 50 101 [1,1,1,0,1,0,0] 1 101 [(8,.nils),(9,(ii (Uo q (cvT l1) (wr (x2 - 1)))))] (sl v8x 96 [] ⟨[],[],[some [8,9]],[]⟩ ⟨[],[],[]⟩ (trs 5 []) (tt k0 (tt k0 (pp (pp (pp nn (pp nn (pp nn nn))) (pp (xr l1) (xw dA))) (pp (pp (pp nn (pp nn (pp nn nn))) (pp (xr l1) (xw bQ))) nn))))))) (fun k0=>(lb (fun k1=>(lr 50 101 [1,1,1,0,1,0,0] 1 101 [(8,.nils),(9,(ii (Uo q (cvT l1) x2)))] (sl v8x 125 [] ⟨[],[],[some [8,9]],[]⟩ ⟨[],[],[]⟩ [false,false,true,true,false,true,true] (tt k1 (tt k0 (tt k1 (tt k0 (pp (pp (pp nn (pp nn (pp nn nn))) (pp (xr l1) (xw dA))) (pp (pp (pp nn (pp nn (pp nn nn))) (pp (xr l1) (xw bQ))) nn))))))))) (fun k1=>(lb (fun k2=>(lo fun o0=>(lr 50 101 [1,1,1,1,0,1,0,0] 1 101 [(8,(.dat (Vy .d (cvT (Yg q (cvT l1) (wr (x2 - 1)))) (cvT (Yg q (cvT l1) x2))).length (Zz (Vy .d (cvT (Yg q (cvT l1) (wr (x2 - 1)))) (cvT (Yg q (cvT l1) x2)))))),(9,(ii (x4k .d (cvT (Yg q (cvT l1) (wr (x2 - 1)))) (cvT (Yg q (cvT l1) x2)))))] (sl v8x 59 [] ⟨[],[],[some [8,9]],[]⟩ ⟨[],[],[]⟩ [false,false,false,true] (pp (pp (xI R4 (Yg q (cvT l1) (wr (x2 - 1))).length (Zz (Yg q (cvT l1) (wr (x2 - 1))))) (pp (xI R4 (Yg q (cvT l1) x2).length (Zz (Yg q (cvT l1) x2))) (xw o0))) (tt k2 (tt k1 (tt k0 (pp (pp (pp nn (pp nn (pp nn nn))) (pp (xr l1) (xw dA))) (pp (pp (pp nn (pp nn (pp nn nn))) (pp (xr l1) (xw bQ))) nn)))))))))) (fun k2=>(lo fun o0=>(lr 50 3 [1,1,1,1,1,1,1,0] 1 101 [(8,(.dat (Vy .d (cvT (Yg q (cvT l1) x2)) (cvT (Yg q (cvT l1) (wr (x2 - 1))))).length (Zz (Vy .d (cvT (Yg q (cvT l1) x2)) (cvT (Yg q (cvT l1) (wr (x2 - 1)))))))),(9,(ii (x4k .d (cvT (Yg q (cvT l1) x2)) (cvT (Yg q (cvT l1) (wr (x2 - 1)))))))] (sl v8x 60 [] ⟨[],[],[some [8,9]],[]⟩ ⟨[],[],[]⟩ [false,false,false,false] (pp (pp (xI R4 (Yg q (cvT l1) x2).length (Zz (Yg q (cvT l1) x2))) (pp (xI R4 (Yg q (cvT l1) (wr (x2 - 1))).length (Zz (Yg q (cvT l1) (wr (x2 - 1))))) (xw o0))) (tt k2 (tt k1 (tt k0 (pp (pp (pp nn (pp nn (pp nn nn))) (pp (xr l1) (xw dA))) (pp (pp (pp nn (pp nn (pp nn nn))) (pp (xr l1) (xw bQ))) nn)))))))))))))))))
theorem u2b (q:Ax) (l1:List R6) (x2:Int) (x3:Bool) (n:Nat) (vs:List AVal) (h:Yz (x2b q l1 x2 x3) n (z3i q l1 x2 x3)=.ret vs):Ji prog (Zy prog 101) (Zb prog 101 [(.agg [(.fn (nV1 q) []),(.fn (nV2 q) []),(.fn (nV3 q) [])]),(.dat l1.length (Zz l1)),(.int .i64 x2),(.bool x3)] true []) vs:=by have:=Ze (w9b q l1 x2 x3) n _ (x9v q l1 x2 x3);rwa [h] at this
def w5e (q:Ax) (L:List R6) (p:Int):Int:=bif Uo q L (wrap .i64 (p - 1)) != 0 then Uo q L (wrap .i64 (p - 1)) else Uo q L p
def Vi (q:Ax) (L:List R6) (p:Int) (s:Bool):Int:=bif w5e q L p != 0 then w5e q L p else
 bif s then rgE .d (Yg q L (wrap .i64 (p - 1))) (Yg q L p) else rgE .d (Yg q L p) (Yg q L (wrap .i64 (p - 1)))
def Wn (q:Ax) (L:List R6) (p:Int) (s:Bool):List R4:=bif w5e q L p != 0 then [] else
 bif s then Vy .d (Yg q L (wrap .i64 (p - 1))) (Yg q L p) else Vy .d (Yg q L p) (Yg q L (wrap .i64 (p - 1)))
def z5b (q:Ax) (L:List R6) (p:Int) (s:Bool):Bool:=decide (L.length≤400)
theorem j3l (q:Ax) (L:List R6) (p:Int) (s:Bool) (h:z5b q L p s=true): ∃n vs,Yz (x2b q L p s) n (z3i q L p s)=.ret vs∧
  ∀(ρ:Rho) (u:Value),VRel ρ (Jo vs) u→VRel ρ (.tup [.dat (Wn q L p s).length (Zz (Wn q L p s)),.int .i64 (Vi q L p s)]) u:=by
 have o: ∀x,z2i q L x=true:=fun _=>h;unfold z3i;simp only [Zm,o,show∀a b,Qt .d a b=true from fun _ _=>rfl,Ab];rcases Yp (Uo q L (wrap .i64 (p - 1)) != 0) with q1 | q1
 ·refine ⟨0,_,by rw [q1,Ab];rfl,?_⟩;have e:w5e q L p=Uo q L (wrap .i64 (p - 1)):=by unfold w5e;rw [q1];rfl
  unfold Wn Vi;rw [e,q1,Ab,Ab];exact fun ρ u hu=>z1u (.cons (.nild _) (.cons (.refl _) .nil)) ρ u hu
 rcases Yp (Uo q L p != 0) with q2 | q2
 ·refine ⟨0,_,by rw [q1,q2,Aa,Ab];rfl,?_⟩;have e:w5e q L p=Uo q L p:=by unfold w5e;rw [q1];rfl
  unfold Wn Vi;rw [e,q2,Ab,Ab];exact fun ρ u hu=>z1u (.cons (.nild _) (.cons (.refl _) .nil)) ρ u hu
 have e:(w5e q L p != 0)=false:=by unfold w5e;rw [q1,Aa];exact q2
 cases s with
 | true=>refine ⟨0,_,by rw [q1,q2,Aa,Aa,Ab];rfl,?_⟩;unfold Wn Vi;rw [e];exact fun ρ u hu=>hu
 | false=>refine ⟨0,_,by rw [q1,q2,Aa,Aa,Aa];rfl,?_⟩;unfold Wn Vi;rw [e];exact fun ρ u hu=>hu
def fMfc :List AVal→Option (AVal×Bool)
 | [.agg [.fn a [],.fn b [],.fn c []],a1,.int .i64 x2,.bool s]=>match axOf a b c,asL R6 a1 with
  | some q,some (L1,g1,n1)=>some (.tup [.dat (Wn q L1 x2 s).length (Zz (Wn q L1 x2 s)),.int .i64 (Vi q L1 x2 s)],isT R6 n1 g1&&(z5b q L1 x2 s))
  | _,_=>none
 | _=>none
theorem mfc_pf (q:Ax) (L:List R6) (p:Int) (s:Bool) (n:Nat) (vs:List AVal) (h:Yz (x2b q L p s) n (z3i q L p s)=.ret vs) (ho:z5b q L p s=true): ∃d,pf d (Jo vs)=true:=by
 have o: ∀x,z2i q L x=true:=fun _=>ho;unfold z3i at h;simp only [Zm,o,show∀a b,Qt .d a b=true from fun _ _=>rfl,Ab] at h;cases h1:(Uo q L (wrap .i64 (p - 1)) != 0) <;> rw [h1] at h <;> simp only [Ab,Aa] at h
 ·cases h2:(Uo q L p != 0) <;> rw [h2] at h <;> simp only [Ab,Aa] at h
  ·cases s <;> simp only [Ab,Aa,Za] at h <;> obtain rfl:=Xp.ret.inj h <;> exact ⟨3,rfl⟩
  ·rw [Za] at h;obtain rfl:=Xp.ret.inj h;exact ⟨3,rfl⟩
 ·rw [Za] at h;obtain rfl:=Xp.ret.inj h;exact ⟨3,rfl⟩
theorem j5k {S:Specs} (hS:Zu prog S):Zu prog (S.with v5l fMfc):=by
 refine v1m hS (by kernel_rfl) fun args v h=> ?_;unfold fMfc at h;split at h
 ·rename_i a b c a1 x2 s;split at h
  ·rename_i q L1 g1 n1 eq e1;simp only [Ae,Ad,Ac] at h;obtain ⟨rfl,ho1,hw⟩:=h;obtain ⟨rfl,rfl,rfl⟩:=w2j eq;obtain ⟨N,vs,hN,hv⟩:=j3l q L1 x2 s hw;exact ⟨_,vs,(.cons (.refl _) (.cons (asL_le e1 ho1) (.cons (.refl _) (.cons (.refl _) .nil)))),hv,u2b q L1 x2 s N _ hN,mfc_pf q L1 x2 s N vs hN hw⟩
  ·cases h
 ·cases h
def Mc :Specs:=Mb.with v5l fMfc
theorem y1a :Zu prog Mc:=j5k v8x
inductive mmdS where
 | h0 (q:Ax) (s:Bool) (v5:List Int) (v10:Int) (aA:List R7) (aQ:List R7)
 | h1 (q:Ax) (s:Bool) (bS:Nat) (v6:Int) (v7:Int) (aA:List R7) (aQ:List R7) (aY:List Int)
 | h2 (q:Ax) (s:Bool) (v8:Int) (v37:List R4) (v38:Int) (v39:Int) (bW:Nat) (cF:Int) (cG:Int) (aA:List R7) (aQ:List R7) (aY:List Int)
def u8p (q:Ax) (s:Bool):AFr:=⟨⟨75,0,true⟩,none,(.inRangeFunc 0::(Zd prog 52 [1,1,0,1,0,0,1,1,0,0,1,1,0,0,1,1,0,0,1,1,0] 1)),none,(Zy prog 52),Yb [(1,(.ptr 1 0)),(2,(.ptr 2 0)),(3,(.ptr 4 0)),(4,(.ptr 5 0)),(5,(.ptr 7 0)),(6,(.ptr 8 0)),(13,(.agg [(.fn 105 []),(.fn 106 []),(.fn 107 []),(.fn 108 []),(.fn 109 []),(.fn 110 []),(.fn 111 []),(.fn 112 []),(.fn 113 [])])),(14,(ii q.ix)),(18,(ii (sdI s)))]⟩
def w5b (q:Ax):ABlk:=⟨[(.fn (nV1 q) []),(.fn (nV2 q) []),(.fn (nV3 q) [])],84,none⟩
def u8o :=(Uz prog 52 [1,1,0,1,0,0,1,1,0,0,1,1,0,0,1,1,0,0,1,1,0,0])
def u8n :=(Uz prog 52 [1,1,0,1,0,0,1,1,0,0,1,1,0,0,1,1,0,0,1,1,0,1])
def y0a (l0:List R6):mmdS→Cfg
 | .h0 q s v5 v10 aA aQ=>⟨⟨33,0,true⟩,none,(Zd prog 100 [1,1,0,1,0,0] 0),none,(Zy prog 5),⟨Yb [(2,(.ptr 0 0)),(5,(.sla 10 1 0 v5.length (.un 1))),(8,(.dat l0.length (Zz l0))),(9,(ii (l0.length:Int))),(10,(ii v10))],Vb [(w5b q),⟨[(.dat l0.length (Zz l0))],38,none⟩,⟨[(.sla 3 7 0 aA.length (.un 7))],25,none⟩,⟨rows aA.length (Zz aA),62,some ⟨7,aA.length,(Zz aA)⟩⟩,⟨[(ii 0)],26,none⟩,⟨[(.sla 6 7 0 aQ.length (.un 7))],25,none⟩,⟨rows aQ.length (Zz aQ),62,some ⟨7,aQ.length,(Zz aQ)⟩⟩,⟨[(ii q.ix)],3,none⟩,(w5b q),⟨[(ii (sdI s))],3,none⟩,⟨rows v5.length (Zz v5),3,some ⟨1,v5.length,(Zz v5)⟩⟩] 0,11,[],true⟩,[⟨⟨75,0,true⟩,(Jb prog 52 [1,1,0,1,0,0,1,1,0,0,1,1,0,0,1,1,0,0,1,0] 2),(Zd prog 52 [1,1,0,1,0,0,1,1,0,0,1,1,0,0,1,1,0,0,1,0] 1),none,(Zy prog 52),Yb [(1,(.ptr 1 0)),(2,(.ptr 2 0)),(3,(.ptr 4 0)),(4,(.ptr 5 0)),(5,(.ptr 7 0)),(6,(.ptr 8 0)),(7,(.ptr 9 0)),(13,(.agg [(.fn 105 []),(.fn 106 []),(.fn 107 []),(.fn 108 []),(.fn 109 []),(.fn 110 []),(.fn 111 []),(.fn 112 []),(.fn 113 [])])),(14,(ii q.ix)),(18,(ii (sdI s))),(21,(.agg [(.fn (nV1 q) []),(.fn (nV2 q) []),(.fn (nV3 q) [])])),(22,(.dat l0.length (Zz l0)))]⟩],.leaf⟩
 | .h1 q s bS v6 v7 aA aQ aY=>⟨⟨16,0,true⟩,none,(Zd prog 175 [1,0,0] 0),none,[],⟨Yb [(0,(.yld 0)),(5,(.sla 10 1 0 bS (.un 1))),(6,(ii v6)),(7,(ii v7))],y1l [(1,⟨[(.dat l0.length (Zz l0))],38,none⟩),(2,⟨[(.sla 3 7 0 aA.length (.un 7))],25,none⟩),(3,⟨rows aA.length (Zz aA),62,some ⟨7,aA.length,(Zz aA)⟩⟩),(4,⟨[(ii 0)],26,none⟩),(5,⟨[(.sla 6 7 0 aQ.length (.un 7))],25,none⟩),(6,⟨rows aQ.length (Zz aQ),62,some ⟨7,aQ.length,(Zz aQ)⟩⟩),(7,⟨[(ii q.ix)],3,none⟩),(8,(w5b q)),(9,⟨[(ii (sdI s))],3,none⟩),(10,⟨rows aY.length (Zz aY),3,some ⟨1,aY.length,(Zz aY)⟩⟩)],11,[],true⟩,[(u8p q s)],(y7v [(0,⟨.ready,none,75,Yb [(1,(.ptr 1 0)),(2,(.ptr 2 0)),(3,(.ptr 4 0)),(4,(.ptr 5 0)),(5,(.ptr 7 0)),(6,(.ptr 8 0)),(7,(.ptr 9 0))],[24],u8o,u8n⟩)])⟩
 | .h2 q s v8 v37 v38 v39 bW cF cG aA aQ aY=>⟨⟨75,0,true⟩,none,(Zd prog 52 [1,1,0,1,0,0,1,1,0,0,1,1,0,0,1,1,0,0,1,1,0,1,0,1,1,1,0,0] 0),(some 0),[],⟨Yb [(4,(.ptr 5 0)),(5,(.ptr 7 0)),(6,(.ptr 8 0)),(7,(.ptr 9 0)),(8,(ii v8)),(37,(.dat v37.length (Zz v37))),(38,(ii v38)),(39,(ii v39))],y1l [(1,⟨[(.dat l0.length (Zz l0))],38,none⟩),(2,⟨[(.sla 3 7 0 aA.length (.un 7))],25,none⟩),(3,⟨rows aA.length (Zz aA),62,some ⟨7,aA.length,(Zz aA)⟩⟩),(4,⟨[(ii 0)],26,none⟩),(5,⟨[(.sla 6 7 0 aQ.length (.un 7))],25,none⟩),(6,⟨rows aQ.length (Zz aQ),62,some ⟨7,aQ.length,(Zz aQ)⟩⟩),(7,⟨[(ii q.ix)],3,none⟩),(8,(w5b q)),(9,⟨[(ii (sdI s))],3,none⟩),(10,⟨rows aY.length (Zz aY),3,some ⟨1,aY.length,(Zz aY)⟩⟩)],11,[],true⟩,[⟨⟨16,0,true⟩,(Jb prog 175 [1,0,0,1,1,0,0,1,0] 2),(Zd prog 175 [1,0,0,1,1,0,0,1,0] 1),none,[],Yb [(0,(.yld 0)),(5,(.sla 10 1 0 bW (.un 1))),(6,(ii cF)),(7,(ii cG)),(11,(.yld 0)),(12,(ii v8))]⟩,(u8p q s)],(y7v [(0,⟨.busy,none,75,Yb [(1,(.ptr 1 0)),(2,(.ptr 2 0)),(3,(.ptr 4 0)),(4,(.ptr 5 0)),(5,(.ptr 7 0)),(6,(.ptr 8 0)),(7,(.ptr 9 0))],[24],u8o,u8n⟩)])⟩
def v5t :List (Option (List Nat)):=[some [2,5,8,9,10],some [1,2,3,4,5,6,7,13,14,18,21,22]]
def v5u :List (Option (List Nat)):=[]
def mmdN1 :List (Option (List Nat)):=[some [0,5,6,7],some [1,2,3,4,5,6,13,14,18]]
def mmdM1 :List (Option (List Nat)):=[some [1,2,3,4,5,6,7],none,none,none,none,none,none,none,none,none,none]
def mmdN2 :List (Option (List Nat)):=[some [4,5,6,7,8,37,38,39],some [0,5,6,7,11,12],some [1,2,3,4,5,6,13,14,18]]
def mmdM2 :List (Option (List Nat)):=[some [1,2,3,4,5,6,7],none,none,none,none,none,none,none,none,none,none]
def v5v (q:Ax) (s:Bool) (aA:List R7) (aQ:List R7):Xp mmdS:=match q,s with
 | q,true=>(.to (.h0 q false ([]:List Int) 0 aA aQ))
 | .x,false=>(.to (.h0 .y true ([]:List Int) 0 aA aQ))
 | .y,false=>(.to (.h0 .z true ([]:List Int) 0 aA aQ))
 | .z,false=>(bif (decide ((aQ.length:Int)>3000)) then (.ret [.nils,(.int .i64 4)]) else (.ret [(.dat aQ.length (Zz aQ)),(.int .i64 0)]))
def Xm (l0:List R6):mmdS→Xp mmdS
 | .h0 q s v5 v10 aA aQ=>(bif (decide (v10<(l0.length:Int))) then (bif ((decide (0≤v10∧v10<(l0.length:Int)))&&true) then (bif (Nat.beq 1 1&&((decide (0+v5.length=v5.length))&&decide ((v5.length+2+1)*(8+1)≤Jd))) then (.to (.h0 q s (v5++[(q.lo (rd l0 v10.toNat)),(q.hi (rd l0 v10.toNat))]) (wrap .i64 (v10+1)) aA aQ)) else .stuck) else .stuck) else (bif (decide (v5.length<4611686018427387904)) then (bif (decide (v5.length=v5.length)) then (.to (.h1 q s (v1n (Yy v5.length (cOf (Zz (Xu (Yy v5.length (cOf (Zz v5)))))))) (((v1n (Yy v5.length (cOf (Zz (Xu (Yy v5.length (cOf (Zz v5)))))))):Nat):Int) 0 aA aQ (Wr (Yy v5.length (cOf (Zz (Xu (Yy v5.length (cOf (Zz v5)))))))))) else .stuck) else .stuck))
 | .h2 q s v8 v37 v38 v39 bW cF cG aA aQ aY=>(bif (decide (v39<v38)) then (bif ((decide (0≤v39∧v39<(v37.length:Int)))&&true) then (bif (Nat.beq 7 7&&((decide (0+aQ.length=aQ.length))&&decide ((aQ.length+1+1)*(56+1)≤Jd))) then (.to (.h2 q s v8 v37 v38 (wrap .i64 (v39+1)) bW cF cG aA (aQ++[(qd q s v8 (rd v37 v39.toNat))]) aY)) else .stuck) else .stuck) else (.to (.h1 q s bW cF (wrap .i64 (cG+1)) aA aQ aY)))
 | .h1 q s bS v6 v7 aA aQ aY=>(bif (decide (v7<v6)) then (bif ((decide (0≤v7∧v7<((bS:Nat):Int)))&&true) then (bif (decide ((0+v7.toNat)<aY.length)) then (bif (z5b q (cvT l0) (rd aY (0+v7.toNat)) s) then (bif ((Vi q (cvT l0) (rd aY (0+v7.toNat)) s) != 0) then (.ret [.nils,(.int .i64 (Vi q (cvT l0) (rd aY (0+v7.toNat)) s))]) else (.to (.h2 q s (rd aY (0+v7.toNat)) (Wn q (cvT l0) (rd aY (0+v7.toNat)) s) (((Wn q (cvT l0) (rd aY (0+v7.toNat)) s).length :Nat):Int) 0 bS v6 v7 aA aQ aY))) else .stuck) else .stuck) else .stuck) else (v5v q s aA aQ))
def x2a (l0:List R6):Xp mmdS:=(.to (.h0 .x true ([]:List Int) 0 ([]:List R7) ([]:List R7)))
theorem j3k (l0:List R6) (q:Ax) (bS:Nat) (v6:Int) (v7:Int) (aA:List R7) (aQ:List R7) (aY:List Int) (k0:(decide (v7<v6))=false):Yr prog (Zy prog 52) (y0a l0) (y0a l0 (.h1 q true bS v6 v7 aA aQ aY)) (v5v q true aA aQ):=by cases q <;> refine (?f: ∀q:Ax,Yr prog (Zy prog 52) (y0a l0) (y0a l0 (.h1 q true bS v6 v7 aA aQ aY)) (v5v q true aA aQ)) _ <;> exact fun q=>(sl y1a 54 [(3,1,Zz ([]:List Int))] ⟨[12,1,2,3,4,5,6,7,8,11,13],[],v5t,v5u⟩ ⟨[(5,.grow 10 1)],[],[]⟩ [false,true] (pp (fl aA (fl aQ (fl ([]:List Int) nn))) (tt k0 nn)))
theorem j3j (l0:List R6) (bS:Nat) (v6:Int) (v7:Int) (aA:List R7) (aQ:List R7) (aY:List Int) (k0:(decide (v7<v6))=false):Yr prog (Zy prog 52) (y0a l0) (y0a l0 (.h1 .x false bS v6 v7 aA aQ aY)) (v5v .x false aA aQ):=(sl y1a 91 [(3,1,Zz ([]:List Int))] ⟨[14,1,2,3,4,5,6,11,12,13,15],[],v5t,v5u⟩ ⟨[(5,.grow 10 1)],[],[]⟩ [false,false,true,true,false,true] (pp (fl aA (fl aQ (fl ([]:List Int) nn))) (tt k0 nn)))
theorem j3i (l0:List R6) (bS:Nat) (v6:Int) (v7:Int) (aA:List R7) (aQ:List R7) (aY:List Int) (k0:(decide (v7<v6))=false):Yr prog (Zy prog 52) (y0a l0) (y0a l0 (.h1 .y false bS v6 v7 aA aQ aY)) (v5v .y false aA aQ):=(sl y1a 91 [(3,1,Zz ([]:List Int))] ⟨[14,1,2,3,4,5,6,11,12,13,15],[],v5t,v5u⟩ ⟨[(5,.grow 10 1)],[],[]⟩ [false,false,true,true,true,false,true] (pp (fl aA (fl aQ (fl ([]:List Int) nn))) (tt k0 nn)))
theorem j3h (l0:List R6) (bS:Nat) (v6:Int) (v7:Int) (aA:List R7) (aQ:List R7) (aY:List Int) (k0:(decide (v7<v6))=false):Yr prog (Zy prog 52) (y0a l0) (y0a l0 (.h1 .z false bS v6 v7 aA aQ aY)) (v5v .z false aA aQ):=(lb (fun k1=>(Vc ⟨⟨75,0,true⟩,none,(Zd prog 52 [1,1,1,0,1,0,0] 1),none,(Zy prog 52),⟨Yb [(2,(.ptr 0 0)),(3,(.ptr 1 0))],Vb [⟨[.nils],25,none⟩,⟨[(ii 4)],26,none⟩] 0,2,[],true⟩,[],.leaf⟩ (sl y1a 49 [] ⟨[2,4],[],[some [2,3]],[]⟩ ⟨[],[],[]⟩ [false,false,false,true] (tt k1 (tt k0 nn))) rfl (by kernel_rfl))) (fun k1=>(Vc ⟨⟨75,0,true⟩,none,(Zd prog 3 [1,1,1,1,1,1,1,0] 1),none,(Zy prog 52),⟨Yb [(2,(.ptr 0 0)),(3,(.ptr 1 0))],Vb [⟨[(.dat aQ.length (Zz aQ))],25,none⟩,⟨[(ii 0)],26,none⟩] 0,2,[],true⟩,[],.leaf⟩ (sl y1a 51 [] ⟨[2,4],[6],[some [2,3]],[]⟩ ⟨[],[.cells [.frz aQ.length aQ.length (Zz aQ) (Zz aQ)],.keep],[]⟩ [false,false,false,false] (pp (xZ (z6j 7 7 0 aQ.length aQ.length (Zz aQ)) aQ.length (Zz aQ)) (pp (xL aQ.length aQ.length) (pp (xS aQ.length (Zz aQ) (Zz aQ)) (pp (fl aQ nn) (tt k1 (tt k0 nn))))))) rfl (by kernel_rfl))))
theorem mmd_ex (l0:List R6) (q:Ax) (s:Bool) (bS:Nat) (v6:Int) (v7:Int) (aA:List R7) (aQ:List R7) (aY:List Int) (k0:(decide (v7<v6))=false):Yr prog (Zy prog 52) (y0a l0) (y0a l0 (.h1 q s bS v6 v7 aA aQ aY)) (v5v q s aA aQ):=match q,s with
 | q,true=>j3k l0 q bS v6 v7 aA aQ aY k0
 | .x,false=>j3j l0 bS v6 v7 aA aQ aY k0
 | .y,false=>j3i l0 bS v6 v7 aA aQ aY k0
 | .z,false=>j3h l0 bS v6 v7 aA aQ aY k0
theorem mmd_s0 (q:Ax) (s:Bool) (l0:List R6) (v5:List Int) (v10:Int) (aA:List R7) (aQ:List R7):Yr prog (Zy prog 52) (y0a l0) (y0a l0 (.h0 q s v5 v10 aA aQ)) (Xm l0 (.h0 q s v5 v10 aA aQ)):=by cases q <;> cases s <;> refine (?f: ∀(q:Ax) (s:Bool),Yr prog (Zy prog 52) (y0a l0) (y0a l0 (.h0 q s v5 v10 aA aQ)) (Xm l0 (.h0 q s v5 v10 aA aQ))) _ _ <;> exact fun q s=>(lb (fun k0=>(lo fun o0=>(lo fun o1=>(sl y1a 23 [] ⟨[0,1,2,3,4,5,6,7,8,9,15],[],v5t,v5u⟩ ⟨[(5,.len (v5++[(q.lo (rd l0 (tn v10))),(q.hi (rd l0 (tn v10)))]).length)],(kpB 10 [.rowed 1 (v5++[(q.lo (rd l0 (tn v10))),(q.hi (rd l0 (tn v10)))]).length (Zz (v5++[(q.lo (rd l0 (tn v10))),(q.hi (rd l0 (tn v10)))]))]),[]⟩ [true] (pp (xL (v5.length+2) (v5++[(q.lo (rd l0 (tn v10))),(q.hi (rd l0 (tn v10)))]).length) (pp (xL (v5.length+2) (v5++[(q.lo (rd l0 (tn v10))),(q.hi (rd l0 (tn v10)))]).length) (pp (xS (v5.length+2) (Zi (Zz v5) 0 v5.length 1 [(ii (q.lo (rd l0 (tn v10)))),(ii (q.hi (rd l0 (tn v10))))]) (Zz (v5++[(q.lo (rd l0 (tn v10))),(q.hi (rd l0 (tn v10)))]))) (pp (fl aA (fl aQ (pp (xF (Zi (Zz v5) 0 v5.length 1 [(ii (q.lo (rd l0 (tn v10)))),(ii (q.hi (rd l0 (tn v10))))])) nn))) (ww o1 (ww o0 (tt k0 nn))))))))))) (fun k0=>(lo fun o0=>(lo fun o1=>(sl y1a 42 [] ⟨[12,1,2,3,4,5,6,7,8,9,10],[],mmdN1,mmdM1⟩ ⟨[],(kpB 10 [.rowed 1 (Wr (Yy v5.length (cOf (Zz (Xu (Yy v5.length (cOf (Zz v5)))))))).length (Zz (Wr (Yy v5.length (cOf (Zz (Xu (Yy v5.length (cOf (Zz v5)))))))))]),[]⟩ [false] (pp (xL v5.length (Wr (Yy v5.length (cOf (Zz (Xu (Yy v5.length (cOf (Zz v5)))))))).length (by first | exact z2l _ _ | exact Vu rfl)) (pp (xS v5.length (Zz (Wr (Yy v5.length (cOf (Zz (Xu (Yy v5.length (cOf (Zz v5))))))))) (Zz (Wr (Yy v5.length (cOf (Zz (Xu (Yy v5.length (cOf (Zz v5)))))))))) (pp (fl aA (fl aQ (fl (Wr (Yy v5.length (cOf (Zz (Xu (Yy v5.length (cOf (Zz v5)))))))) nn))) (pp (pp (xG (Nat.beq 1 1)) (pp (xG (Nat.beq 1 1)) (pp (xG (Nat.beq 0 0)) (pp (xG (decide (v5.length=v5.length))) (pp (xG (isI (Zz (Xu (Yy v5.length (cOf (Zz v5))))))) (xG (decide (v5.length<4611686018427387904)))))))) (pp (pp (xG (Nat.beq 1 1)) (pp (xG (Nat.beq 1 1)) (pp (xG (Nat.beq 0 0)) (pp (xG (decide (v5.length=v5.length))) (pp (xG (isI (Zz v5))) (xG (decide (v5.length<4611686018427387904)))))))) (tt k0 nn)))))))))))
theorem mmd_s1 (q:Ax) (s:Bool) (l0:List R6) (bS:Nat) (v6:Int) (v7:Int) (aA:List R7) (aQ:List R7) (aY:List Int):Yr prog (Zy prog 52) (y0a l0) (y0a l0 (.h1 q s bS v6 v7 aA aQ aY)) (Xm l0 (.h1 q s bS v6 v7 aA aQ aY)):=by cases q <;> cases s <;> refine (?f: ∀(q:Ax) (s:Bool),Yr prog (Zy prog 52) (y0a l0) (y0a l0 (.h1 q s bS v6 v7 aA aQ aY)) (Xm l0 (.h1 q s bS v6 v7 aA aQ aY))) _ _ <;> exact fun q s=>(lb (fun k0=>(lo fun aG=>(lo fun bF=>(lo fun cD=>(lb (fun k1=>(Vc ⟨⟨75,0,true⟩,none,(.code .ret ::(Zd prog 52 [1,1,0,1,0,0,1,1,0,0,1,1,0,0,1,1,0,0,1,1,0] 1)),none,(Zy prog 52),⟨Yb [(2,(.ptr 0 0)),(3,(.ptr 1 0))],Vb [⟨[.nils],25,none⟩,⟨[(ii (Vi q (cvT l0) (rd aY (0+(tn v7))) s))],26,none⟩] 0,2,[],true⟩,[],.leaf⟩ (sl y1a 58 [] ⟨[2,4],[],[some [2,3]],[]⟩ ⟨[],[],[]⟩ (trs 3 []) (tt k1 (pp (pp (pp nn (pp nn (pp nn (pp nn nn)))) (pp (xr l0) (xw cD))) (ww bF (ww aG (tt k0 nn)))))) rfl (by kernel_rfl))) (fun k1=>(sl y1a 55 [] ⟨(List.range 11),[],mmdN2,mmdM2⟩ ⟨[],[],[]⟩ [true,false] (pp (fl aA (fl aQ (fl aY nn))) (tt k1 (pp (pp (pp nn (pp nn (pp nn (pp nn nn)))) (pp (xr l0) (xw cD))) (ww bF (ww aG (tt k0 nn))))))))))))) (fun k0=>mmd_ex l0 q s bS v6 v7 aA aQ aY k0))
theorem mmd_s2 (q:Ax) (s:Bool) (l0:List R6) (v8:Int) (v37:List R4) (v38:Int) (v39:Int) (bW:Nat) (cF:Int) (cG:Int) (aA:List R7) (aQ:List R7) (aY:List Int):Yr prog (Zy prog 52) (y0a l0) (y0a l0 (.h2 q s v8 v37 v38 v39 bW cF cG aA aQ aY)) (Xm l0 (.h2 q s v8 v37 v38 v39 bW cF cG aA aQ aY)):=by cases q <;> cases s <;> refine (?f: ∀(q:Ax) (s:Bool),Yr prog (Zy prog 52) (y0a l0) (y0a l0 (.h2 q s v8 v37 v38 v39 bW cF cG aA aQ aY)) (Xm l0 (.h2 q s v8 v37 v38 v39 bW cF cG aA aQ aY))) _ _ <;> exact fun q s=>(lb (fun k0=>(lo fun o0=>(lo fun o1=>(sl y1a 23 [] ⟨[0,1,2,3,4,5,15,7,8,9,10],[],mmdN2,mmdM2⟩ ⟨[],(kpB 5 [.cells [.len (aQ++[(qd q s v8 (rd v37 (tn v39)))]).length],.rowed 7 (aQ++[(qd q s v8 (rd v37 (tn v39)))]).length (Zz (aQ++[(qd q s v8 (rd v37 (tn v39)))])),.keep,.keep,.keep,.keep]),[]⟩ [true] (pp (xL (aQ.length+1) (aQ++[(qd q s v8 (rd v37 (tn v39)))]).length) (pp (xL (aQ.length+1) (aQ++[(qd q s v8 (rd v37 (tn v39)))]).length) (pp (xS (aQ.length+1) (Zi (Zz aQ) 0 aQ.length 7 (Yt.cells (qd q s v8 (rd v37 (tn v39))))) (Zz (aQ++[(qd q s v8 (rd v37 (tn v39)))]))) (pp (fl aA (pp (xF (Zi (Zz aQ) 0 aQ.length 7 (Yt.cells (qd q s v8 (rd v37 (tn v39)))))) (fl aY nn))) (ww o1 (ww o0 (tt k0 nn))))))))))) (fun k0=>(sl y1a 19 [] ⟨(List.range 11),[],mmdN1,mmdM1⟩ ⟨[],[],[]⟩ [false,false] (pp (fl aA (fl aQ (fl aY nn))) (tt k0 nn)))))
theorem w9a (l0:List R6): ∀s,Yr prog (Zy prog 52) (y0a l0) (y0a l0 s) (Xm l0 s)
 | .h0 q s v5 v10 aA aQ=>mmd_s0 q s l0 v5 v10 aA aQ
 | .h1 q s bS v6 v7 aA aQ aY=>mmd_s1 q s l0 bS v6 v7 aA aQ aY
 | .h2 q s v8 v37 v38 v39 bW cF cG aA aQ aY=>mmd_s2 q s l0 v8 v37 v38 v39 bW cF cG aA aQ aY
theorem x9u (l0:List R6):Yr prog (Zy prog 52) (y0a l0) (Zb prog 52 [(.dat l0.length (Zz l0))] true []) (x2a l0):=(sl y1a 93 [(62,7,Zz ([]:List R7)),(62,7,Zz ([]:List R7)),(3,1,Zz ([]:List Int))] ⟨[8,0,1,9,2,3,10,5,6,7,11],[],v5t,v5u⟩ ⟨[(5,.grow 10 1)],[.keep,.keep,.cells [.grow 3 7],.keep,.keep,.cells [.grow 6 7],.keep,.keep,.keep,.keep,.keep],[]⟩ [true,false,true] (pp (fl ([]:List R7) (fl ([]:List R7) (fl ([]:List Int) nn))) nn))
theorem u2a (l0:List R6) (n:Nat) (vs:List AVal) (h:Yz (Xm l0) n (x2a l0)=.ret vs):Ji prog (Zy prog 52) (Zb prog 52 [(.dat l0.length (Zz l0))] true []) vs:=by have:=Ze (w9a l0) n _ (x9u l0);rwa [h] at this
theorem u6w {q:Op} {a b:List R4}:(Vy q a b).length ≤400:=by
 unfold Vy x2u;cases g:(rgE q a b != 0) with
 | true=>exact AJ _
 | false=>
  rw [Aa];have h:rgE q a b=0:=by simpa using g
  unfold rgE at h;cases g1:(y7k a != 0) with
  | true=>rw [g1,Ab] at h;rw [h] at g1;cases g1
  | false=>
   cases g2:(y7k b != 0) with
   | true=>rw [g1,g2,Aa,Ab] at h;rw [h] at g2;cases g2
   | false=>
    rw [g1,g2,Aa,Aa] at h;unfold eJ at h;revert h;generalize x7a (rgA q a b) _ _ _=e;intro h;cases g3:(e != 0) with
    | true=>rw [g3,Ab] at h;rw [h] at g3;cases g3
    | false=>rw [g3,Aa] at h;exact x2y h
theorem v5x (q:Ax) (L:List R6) (p:Int) (s:Bool):(Wn q L p s).length ≤400:=by
 unfold Wn;cases (w5e q L p != 0) with
 | true=>exact AJ _
 | false=>cases s <;> exact u6w
def z4j (q:Ax) (L:List R6):List Int:=L.flatMap fun r=>[q.lo r,q.hi r]
theorem z1m (q:Ax) (L:List R6):(z4j q L).length =2*L.length:=by
 induction L with
 | nil=>rfl
 | cons r l ih=>show (_::_::z4j q l).length =_;simp only [AV,ih];omega
def plQ (q:Ax) (L:List R6):List Int:=Jc (z4j q L)
theorem z9w (q:Ax) (L:List R6):(plQ q L).length ≤2*L.length:=by have h1:=Jw (Xu (z4j q L));have h2:=compact_length_le (Xu (z4j q L));rw [Xo,z1m] at h2;exact h2
def w6g (E:Int→Int):List Int→Int
 | []=>0
 | p::r=>bif E p != 0 then E p else w6g E r
def z7h (q:Ax) (s:Bool) (L:List R6):Int:=w6g (fun p=>Vi q L p s) (plQ q L)
def v9d (q:Ax) (s:Bool) (L:List R6) (ps:List Int):List R7:=ps.flatMap fun p=>(Wn q L p s).map (qd q s p)
theorem y6o (q:Ax) (s:Bool) (L:List R6): ∀ps,(v9d q s L ps).length ≤400*ps.length
 | []=>Aq _
 | p::ps=>by have:=y6o q s L ps;have h:=v5x q L p s;show ((Wn q L p s).map (qd q s p)++v9d q s L ps).length ≤_;rw [Az,A3,AV];omega
section
variable (L:List R6) (hL:L.length≤400)
include hL
theorem u8m (q:Ax) (s:Bool) (v2 out:List R7): ∀(k i:Nat) (acc:List Int),i+k=L.length→acc=z4j q (L.take i)→
  ∃n,∀N,Yz (Xm L) (N+n) (.to (.h0 q s acc (i:Int) v2 out))=Yz (Xm L) N (.to (.h1 q s (plQ q L).length ((plQ q L).length :Int) 0 v2 out (Wr (Xu (z4j q L)))))
 | 0,i,acc,h,h'=>by
  have e:acc=z4j q L:=by rw [h',AU (by omega)]
  subst e;have hle:=z1m q L;refine ⟨1,fun N=> ?_⟩;rw [Zv];simp (disch:=omega) only [Xm,Wv,z0j,y0o,Yx,Yj,Ym,Aw,Ab,Aa];rfl
 | k+1,i,acc,h,h'=>by
  have hle:acc.length≤2*i:=by rw [h',z1m,Bm];omega
  obtain ⟨n,hn⟩:=u8m q s v2 out k (i+1) (acc++z4j q [rd L i]) (by omega) (by
   rw [h',Bg];have:L[i]? =some (rd L i):=by rw [Xz (show i<L.length by omega)];exact As _
   rw [this];simp [z4j])
  refine ⟨n+1,fun N=> ?_⟩;rw [←AE,Zv,←hn N];simp (disch:=omega) only [Xm,Zm,Zk,Zs,Zt,Yd,Yj,Ym,Zh,Zq,Zx,Ya,Zj,Ag,Aw,Ai,An,Ab,Aa];rfl
theorem u8k (q:Ax) (s:Bool) (p:Int) (R:List R4) (hR:R.length≤400) (n5:Nat) (v6 v7:Int) (v2:List R7) (P:List Int): ∀(k j:Nat) (out:List R7),j+k=R.length→out.length≤10000000+j→
  ∃n,∀N,Yz (Xm L) (N+n) (.to (.h2 q s p R (R.length:Int) (j:Int) n5 v6 v7 v2 out P))=Yz (Xm L) N (.to (.h1 q s n5 v6 (wrap .i64 (v7+1)) v2 (out++(R.drop j).map (qd q s p)) P))
 | 0,j,out,h,h'=>by have _u:=hL;refine ⟨1,fun N=> ?_⟩;rw [Av (by omega),Ba,AB,Zv];simp (disch:=omega) only [Xm,Yx,Aa]
 | k+1,j,out,h,h'=>by
  have hj:j<R.length:=by omega
  obtain ⟨n,hn⟩:=u8k q s p R hR n5 v6 v7 v2 P k (j+1) (out++[qd q s p (rd R j)]) (by omega) (by simp only [Az,Bt];omega);refine ⟨n+1,fun N=> ?_⟩;rw [Yq hj,AW,←AE,Zv,show out++qd q s p (rd R j)::(R.drop (j+1)).map (qd q s p)=(out++[qd q s p (rd R j)])++(R.drop (j+1)).map (qd q s p) by simp,←hn N];simp (disch:=omega) only [Xm,Zm,Zk,Zs,Zt,Yd,Yj,Ym,Zh,Zq,Zx,Ya,Zj,Ag,Aw,Ai,An,Ab,Aa]
theorem u8l (q:Ax) (s:Bool) (v2:List R7): ∀(k i:Nat) (out:List R7),i+k=(plQ q L).length →out.length+400*k≤8000000→
  (w6g (fun p=>Vi q L p s) ((plQ q L).drop i)=0→ ∃n,∀N,Yz (Xm L) (N+n) (.to (.h1 q s (plQ q L).length ((plQ q L).length :Int) (i:Int) v2 out (Wr (Xu (z4j q L)))))=Yz (Xm L) N (v5v q s v2 (out++v9d q s L ((plQ q L).drop i))))∧
  ((w6g (fun p=>Vi q L p s) ((plQ q L).drop i) != 0)=true→ ∃n,∀N,Yz (Xm L) (N+n) (.to (.h1 q s (plQ q L).length ((plQ q L).length :Int) (i:Int) v2 out (Wr (Xu (z4j q L)))))=.ret [.nils,.int .i64 (w6g (fun p=>Vi q L p s) ((plQ q L).drop i))])
 | 0,i,out,h,h'=>by have _u:=hL;rw [Av (show (plQ q L).length ≤i by omega)];refine ⟨fun _=>⟨1,fun N=> ?_⟩,fun e=>by cases e⟩;rw [show v9d q s L []=[] from rfl,AB,Zv];simp (disch:=omega) only [Xm,Yx,Aa]
 | k+1,i,out,h,h'=>by
  have hi:i<(plQ q L).length :=by omega
  have hp:=z9w q L;have hpl:(Wr (Xu (z4j q L))).length =2*L.length:=by rw [Jw,Xo,z1m]
  have r0:rd (Wr (Xu (z4j q L))) i=rd (plQ q L) i:=z4v _ _ hi;have o:z5b q L (rd (plQ q L) i) s=true:=Ah hL;rw [Yq hi];have eE:w6g (fun p=>Vi q L p s) (rd (plQ q L) i::(plQ q L).drop (i+1))=bif Vi q L (rd (plQ q L) i) s != 0 then Vi q L (rd (plQ q L) i) s else w6g (fun p=>Vi q L p s) ((plQ q L).drop (i+1)):=rfl;have eM:v9d q s L (rd (plQ q L) i::(plQ q L).drop (i+1))=(Wn q L (rd (plQ q L) i) s).map (qd q s (rd (plQ q L) i))++v9d q s L ((plQ q L).drop (i+1)):=rfl;rw [eE,eM];rcases Yp (Vi q L (rd (plQ q L) i) s != 0) with z | z
  ·rw [z,Ab];refine ⟨fun e=>(by rw [e] at z;cases z),fun _=>⟨1,fun N=> ?_⟩⟩;rw [Zv];simp (disch:=omega) only [Xm,r0,o,z,Zm,Zk,Zs,Zt,Yj,Zj,Ag,Aw,Ai,An,Ab,Aa,Za]
  ·rw [z,Aa];have hm:=v5x q L (rd (plQ q L) i) s;obtain ⟨n2,h2⟩:=u8k L hL q s (rd (plQ q L) i) (Wn q L (rd (plQ q L) i) s) hm (plQ q L).length ((plQ q L).length :Int) (i:Int) v2 (Wr (Xu (z4j q L))) (Wn q L (rd (plQ q L) i) s).length 0 out (Ag _) (by omega);rw [A0] at h2;obtain ⟨a1,a2⟩:=u8l q s v2 k (i+1) (out++(Wn q L (rd (plQ q L) i) s).map (qd q s (rd (plQ q L) i))) (by omega) (by rw [Az,A3];omega);have ew:wrap .i64 ((i:Int)+1)=((i+1:Nat):Int):=by rw [Zq (by omega)];exact Zx i
   have st: ∀N,Yz (Xm L) (N+n2+1) (.to (.h1 q s (plQ q L).length ((plQ q L).length :Int) (i:Int) v2 out (Wr (Xu (z4j q L)))))=Yz (Xm L) N (.to (.h1 q s (plQ q L).length ((plQ q L).length :Int) ((i+1:Nat):Int) v2 (out++(Wn q L (rd (plQ q L) i) s).map (qd q s (rd (plQ q L) i))) (Wr (Xu (z4j q L))))):=fun N=>by rw [←ew,←h2 N,Zv];simp (disch:=omega) only [Xm,r0,o,z,Zm,Zk,Zs,Zt,Yj,Zj,Ag,Aw,Ai,An,Ab,Aa];rfl
   refine ⟨fun e=> ?_,fun e=> ?_⟩
   ·obtain ⟨n,hn⟩:=a1 e;refine ⟨n+n2+1,fun N=> ?_⟩;rw [←AM,←hn N,←st (N+n),AE N,AE N,AE n]
   ·obtain ⟨n,hn⟩:=a2 e;refine ⟨n+n2+1,fun N=> ?_⟩;rw [←hn N,←st (N+n),AE N,AE N,AE n]
theorem z9z (q:Ax) (s:Bool) (v2 out:List R7) (ho:out.length≤2000000):
  (z7h q s L=0→ ∃n,∀N,Yz (Xm L) (N+n) (.to (.h0 q s [] 0 v2 out))=Yz (Xm L) N (v5v q s v2 (out++v9d q s L (plQ q L))))∧
  ((z7h q s L != 0)=true→ ∃n,∀N,Yz (Xm L) (N+n) (.to (.h0 q s [] 0 v2 out))=.ret [.nils,.int .i64 (z7h q s L)]):=by
 have hp:=z9w q L;obtain ⟨n0,h0⟩:=u8m L hL q s v2 out L.length 0 [] (Ag _) rfl;obtain ⟨a1,a2⟩:=u8l L hL q s v2 (plQ q L).length 0 out (Ag _) (by omega);rw [A0] at a1 a2;refine ⟨fun e=> ?_,fun e=> ?_⟩
 ·obtain ⟨n,hn⟩:=a1 e;exact ⟨n+n0,fun N=>by rw [←AE];exact (h0 (N+n)).trans (hn N)⟩
 ·obtain ⟨n,hn⟩:=a2 e;exact ⟨n+n0,fun N=>by rw [←AE];exact (h0 (N+n)).trans (hn N)⟩
end
def dM (q:Ax) (s:Bool) (L:List R6):List R7:=v9d q s L (plQ q L)
def Jh (L:List R6):List R7:=dM .x true L++dM .x false L++dM .y true L++dM .y false L++dM .z true L++dM .z false L
def y9t (L:List R6):Int:=bif z7h .x true L != 0 then z7h .x true L else bif z7h .x false L != 0 then z7h .x false L else bif z7h .y true L != 0 then z7h .y true L else
 bif z7h .y false L != 0 then z7h .y false L else bif z7h .z true L != 0 then z7h .z true L else bif z7h .z false L != 0 then z7h .z false L else bif decide (((Jh L).length :Int)>3000) then 4 else 0
def Js (L:List R6):List R7:=x2u (y9t L) (Jh L)
def z4d (L:List R6):Int:=y9t L
def z2h (L:List R6):Bool:=decide (L.length≤400)
theorem z5g (q:Ax) (s:Bool) {L:List R6} (h:L.length≤400):(dM q s L).length ≤320000:=by have h1:=y6o q s L (plQ q L);have h2:=z9w q L;unfold dM;omega
theorem j3f (L:List R6) (h:z2h L=true): ∃n,Yz (Xm L) n (x2a L)=.ret (y4z (z4d L) (Jh L)):=by
 have hL:L.length≤400:=AF h;have l1:=z5g .x true hL;have l2:=z5g .x false hL;have l3:=z5g .y true hL;have l4:=z5g .y false hL;have l5:=z5g .z true hL;have d1:=z9z L hL .x true [] [] (AJ _);have d2:=z9z L hL .x false [] (dM .x true L) (by omega);have d3:=z9z L hL .y true [] (dM .x true L++dM .x false L) (by simp only [Az];omega);have d4:=z9z L hL .y false [] (dM .x true L++dM .x false L++dM .y true L) (by simp only [Az];omega);have d5:=z9z L hL .z true [] (dM .x true L++dM .x false L++dM .y true L++dM .y false L) (by simp only [Az];omega);have d6:=z9z L hL .z false [] (dM .x true L++dM .x false L++dM .y true L++dM .y false L++dM .z true L) (by simp only [Az];omega);have go: ∀(q:Ax) (s:Bool) (out:List R7) (V:List AVal),((z7h q s L=0→ ∃n,∀N,Yz (Xm L) (N+n) (.to (.h0 q s [] 0 [] out))=Yz (Xm L) N (v5v q s [] (out++v9d q s L (plQ q L))))∧
   ((z7h q s L != 0)=true→ ∃n,∀N,Yz (Xm L) (N+n) (.to (.h0 q s [] 0 [] out))=.ret [.nils,.int .i64 (z7h q s L)]))→
   (∃n,Yz (Xm L) n (v5v q s [] (out++dM q s L))=.ret V)→ ∃n,Yz (Xm L) n (.to (.h0 q s [] 0 [] out))=.ret (bif z7h q s L != 0 then [.nils,.int .i64 (z7h q s L)] else V):=fun q s out V d ⟨n,hn⟩=>by
  rcases Yp (z7h q s L != 0) with z | z
  ·obtain ⟨m,hm⟩:=d.2 z;refine ⟨0+m,?_⟩;rw [hm 0,z,Ab]
  ·obtain ⟨m,hm⟩:=d.1 (by simpa using z);refine ⟨n+m,?_⟩;rw [hm n,z,Aa];exact hn
 have e6:=go .z false _ (bif decide (((Jh L).length :Int)>3000) then [.nils,.int .i64 4] else [.dat (Jh L).length (Zz (Jh L)),.int .i64 0]) d6 ⟨0,by
  show Yz (Xm L) 0 (bif decide (((Jh L).length :Int)>3000) then _ else _)=_;cases decide (((Jh L).length :Int)>3000) <;> rfl⟩
 obtain ⟨n,hn⟩:=go .x true _ _ d1 (go .x false _ _ d2 (go .y true _ _ d3 (go .y false _ _ d4 (go .z true _ _ d5 e6))));refine ⟨n,hn.trans ?_⟩;unfold y4z z4d y9t
 congr 1
 cases z1:(z7h .x true L != 0) with
 | true=>simp only [z1,Ab]
 | false=>cases z2:(z7h .x false L != 0) with
  | true=>simp only [z2,Ab,Aa]
  | false=>cases z3:(z7h .y true L != 0) with
   | true=>simp only [z3,Ab,Aa]
   | false=>cases z4:(z7h .y false L != 0) with
    | true=>simp only [z4,Ab,Aa]
    | false=>cases z5:(z7h .z true L != 0) with
     | true=>simp only [z5,Ab,Aa]
     | false=>cases z6:(z7h .z false L != 0) with
      | true=>simp only [z6,Ab,Aa]
      | false=>cases z7:decide (((Jh L).length :Int)>3000) <;> rfl
def fMmd :List AVal→Option (AVal×Bool)
 | [a0]=>match asL R6 a0 with
  | some (L0,g0,n0)=>some (.tup [.dat (Js L0).length (Zz (Js L0)),.int .i64 (z4d L0)],isT R6 n0 g0&&(z2h L0))
  | _=>none
 | _=>none
theorem j5j {S:Specs} (hS:Zu prog S):Zu prog (S.with u7u fMmd):=by
 refine v1m hS (by kernel_rfl) fun args v h=> ?_;unfold fMmd at h;split at h
 ·rename_i a0;split at h
  ·rename_i L0 g0 n0 e0;simp only [Ae,Ad,Ac] at h;obtain ⟨rfl,ho0,hw⟩:=h;obtain ⟨N,hN⟩:=j3f L0 hw;exact ⟨_,_,(.cons (asL_le e0 ho0) .nil),z5p _ _,u2a L0 N _ hN,3,z9s _ _⟩
  ·cases h
 ·cases h
def Md :Specs:=Mc.with u7u fMmd
theorem z5i :Zu prog Md:=j5j y1a
section
variable (X Y:List R6) (hX:X.length≤10000) (hY:Y.length≤10000)
include hX hY
end
-- h0: index into an array (choices [true, false, false, false])
def Ks (l:List R6):Bool:=true
def y5c (l:List R6):Bool:=true
inductive mofS where
def mofC (l0:List R6):mofS→Cfg
 :=nofun
def x9s (l0:List R6):mofS→Xp mofS
 :=nofun
def y3k (l0:List R6):Xp mofS:=(bif (Ks (cvT l0)) then (bif ((Yo (cvT l0)) != 0) then (.ret [.nils,(.int .i64 (Yo (cvT l0)))]) else (bif (z2h (cvT l0)) then (.ret [(.dat (Js (cvT l0)).length (Zz (Js (cvT l0)))),(.int .i64 (z4d (cvT l0)))]) else .stuck)) else .stuck)
theorem w8z (l0:List R6): ∀s,Yr prog (Zy prog 15) (mofC l0) (mofC l0 s) (x9s l0 s)
 :=nofun
theorem x9t (l0:List R6):Yr prog (Zy prog 15) (mofC l0) (Zb prog 15 [(.dat l0.length (Zz l0))] true []) (y3k l0):=(lo fun bQ=>(lb (fun k0=>(lr 14 15 [1,0,1,1,0,0] 1 15 [(2,.nils),(3,(ii (Yo (cvT l0))))] (sl z5i 24 [] ⟨[],[],[some [2,3]],[]⟩ ⟨[],[],[]⟩ [true] (tt k0 (pp (pp (xr l0) (xw bQ)) nn))))) (fun k0=>(lo fun o0=>(lr 14 3 [1,1,1,1,1,1,1,0] 1 15 [(2,(.dat (Js (cvT l0)).length (Zz (Js (cvT l0))))),(3,(ii (z4d (cvT l0))))] (sl z5i 28 [] ⟨[],[],[some [2,3]],[]⟩ ⟨[],[],[]⟩ [false] (pp (pp (xr l0) (xw o0)) (tt k0 (pp (pp (xr l0) (xw bQ)) nn)))))))))
theorem u1z (l0:List R6) (n:Nat) (vs:List AVal) (h:Yz (x9s l0) n (y3k l0)=.ret vs):Ji prog (Zy prog 15) (Zb prog 15 [(.dat l0.length (Zz l0))] true []) vs:=by have:=Ze (w8z l0) n _ (x9t l0);rwa [h] at this
inductive shsS where
 | h0 (v8:Int)
def shsC (l0:List R6) (aJ:Int) (aH:Int) (aI:Int):shsS→Cfg
 | .h0 v8=>⟨⟨19,0,true⟩,none,(Zd prog 133 [1,0,1,0,0] 0),none,(Zy prog 5),⟨Yb [(0,(.dat l0.length (Zz l0))),(1,(.fn 90 [(.ptr 0 0)])),(7,(ii (l0.length:Int))),(8,(ii v8))],Vb [⟨[(ii aJ),(ii aH),(ii aI)],55,none⟩] 0,1,[],true⟩,[⟨⟨9,0,true⟩,(Jb prog 89 [1,0] 2),(Zd prog 89 [1,0] 1),none,(Zy prog 5),Yb [(5,(.dat l0.length (Zz l0))),(6,(.fn 90 [(.ptr 0 0)]))]⟩,⟨⟨8,0,true⟩,(Jb prog 43 [1,0] 2),(Zd prog 43 [1,0] 1),none,(Zy prog 5),Yb [(5,(.dat l0.length (Zz l0))),(6,(.fn 90 [(.ptr 0 0)]))]⟩],.leaf⟩
def x7u :List (Option (List Nat)):=[some [0,1,7,8],some [5,6],some [5,6]]
def x7v :List (Option (List Nat)):=[]
def z6q (l0:List R6) (aJ:Int) (aH:Int) (aI:Int):shsS→Xp shsS
 | .h0 v8=>(bif (decide (v8<(l0.length:Int))) then (bif ((decide (0≤v8∧v8<(l0.length:Int)))&&true) then (bif (decide ((rd l0 v8.toNat).a ≤aJ)) then (bif (decide (aJ<(rd l0 v8.toNat).d)) then (bif (decide ((rd l0 v8.toNat).b ≤aH)) then (bif (decide (aH<(rd l0 v8.toNat).e)) then (bif (decide ((rd l0 v8.toNat).c ≤aI)) then (bif (decide (aI<(rd l0 v8.toNat).f)) then (.ret [(.bool (decide (v8≥0)))]) else (.to (.h0 (wrap .i64 (v8+1))))) else (.to (.h0 (wrap .i64 (v8+1))))) else (.to (.h0 (wrap .i64 (v8+1))))) else (.to (.h0 (wrap .i64 (v8+1))))) else (.to (.h0 (wrap .i64 (v8+1))))) else (.to (.h0 (wrap .i64 (v8+1))))) else .stuck) else (.ret [(.bool false)]))
def x1f (l0:List R6) (aJ:Int) (aH:Int) (aI:Int):Xp shsS:=(.to (.h0 0))
theorem w7s (l0:List R6) (aJ:Int) (aH:Int) (aI:Int): ∀s,Yr prog (Zy prog 43) (shsC l0 aJ aH aI) (shsC l0 aJ aH aI s) (z6q l0 aJ aH aI s)
 | .h0 v8=>(lb (fun k0=>(lo fun aG=>(lb (fun k1=>(lb (fun k2=>(lb (fun k3=>(lb (fun k4=>(lb (fun k5=>(lb (fun k6=>(lr 8 3 [1,1,1,1,1,1,1,0] 1 5 [(4,(.bool (decide (v8≥0))))] (sl z5i 92 [] ⟨[],[],[some [4]],[]⟩ ⟨[],[],[]⟩ (trs 32 []) (tt k6 (tt k5 (tt k4 (tt k3 (tt k2 (tt k1 (ww aG (tt k0 nn))))))))))) (fun k6=>(sl z5i 87 [] ⟨[0],[],x7u,x7v⟩ ⟨[],[],[]⟩ (trs 31 [false]) (tt k6 (tt k5 (tt k4 (tt k3 (tt k2 (tt k1 (ww aG (tt k0 nn)))))))))))) (fun k5=>(sl z5i 87 [] ⟨[0],[],x7u,x7v⟩ ⟨[],[],[]⟩ (trs 25 (bl 7 0)) (tt k5 (tt k4 (tt k3 (tt k2 (tt k1 (ww aG (tt k0 nn))))))))))) (fun k4=>(sl z5i 87 [] ⟨[0],[],x7u,x7v⟩ ⟨[],[],[]⟩ (trs 19 (bl 13 0)) (tt k4 (tt k3 (tt k2 (tt k1 (ww aG (tt k0 nn)))))))))) (fun k3=>(sl z5i 87 [] ⟨[0],[],x7u,x7v⟩ ⟨[],[],[]⟩ (trs 13 (bl 19 0)) (tt k3 (tt k2 (tt k1 (ww aG (tt k0 nn))))))))) (fun k2=>(sl z5i 87 [] ⟨[0],[],x7u,x7v⟩ ⟨[],[],[]⟩ (trs 7 (bl 25 0)) (tt k2 (tt k1 (ww aG (tt k0 nn)))))))) (fun k1=>(sl z5i 87 [] ⟨[0],[],x7u,x7v⟩ ⟨[],[],[]⟩ (bl 32 1) (tt k1 (ww aG (tt k0 nn)))))))) (fun k0=>(lr 8 3 [1,1,1,1,1,1,1,0] 1 5 [(4,(.bool false))] (sl z5i 18 [] ⟨[],[],[some [4]],[]⟩ ⟨[],[],[]⟩ [false] (tt k0 nn)))))
theorem x7t (l0:List R6) (aJ:Int) (aH:Int) (aI:Int):Yr prog (Zy prog 43) (shsC l0 aJ aH aI) (Zb prog 43 [(.dat l0.length (Zz l0)),(.agg [(.int .i64 aJ),(.int .i64 aH),(.int .i64 aI)])] true []) (x1f l0 aJ aH aI):=(sl z5i 32 [] ⟨[0],[],x7u,x7v⟩ ⟨[],[],[]⟩ [] nn)
theorem v9s (l0:List R6) (aJ:Int) (aH:Int) (aI:Int) (n:Nat) (vs:List AVal) (h:Yz (z6q l0 aJ aH aI) n (x1f l0 aJ aH aI)=.ret vs):Ji prog (Zy prog 43) (Zb prog 43 [(.dat l0.length (Zz l0)),(.agg [(.int .i64 aJ),(.int .i64 aH),(.int .i64 aI)])] true []) vs:=by have:=Ze (w7s l0 aJ aH aI) n _ (x7t l0 aJ aH aI);rwa [h] at this
inductive fitS where
def fitC (l0:List R6):fitS→Cfg
 :=nofun
def w0z (l0:List R6):fitS→Xp fitS
 :=nofun
def y3v (l0:List R6):Xp fitS:=(bif (decide ((l0.length:Int)≤20)) then (bif (y5c (cvT l0)) then (.ret [(.bool ((y1i (cvT l0)) == 0))]) else .stuck) else (.ret [(.bool false)]))
theorem v0b (l0:List R6): ∀s,Yr prog (Zy prog 37) (fitC l0) (fitC l0 s) (w0z l0 s)
 :=nofun
theorem w1a (l0:List R6):Yr prog (Zy prog 37) (fitC l0) (Zb prog 37 [(.dat l0.length (Zz l0))] true []) (y3v l0):=(lb (fun k0=>(lo fun o0=>(lr 11 3 [1,1,1,1,1,1,1,0] 1 3 [(2,(.bool ((y1i (cvT l0)) == 0)))] (sl z5i 16 [] ⟨[],[],[some [2]],[]⟩ ⟨[],[],[]⟩ (trs 3 []) (pp (pp (xr l0) (xw o0)) (tt k0 nn)))))) (fun k0=>(lr 11 3 [1,1,1,1,1,1,1,0] 1 3 [(2,(.bool false))] (sl z5i 16 [] ⟨[],[],[some [2]],[]⟩ ⟨[],[],[]⟩ [false,false,false] (tt k0 nn)))))
theorem u3i (l0:List R6) (n:Nat) (vs:List AVal) (h:Yz (w0z l0) n (y3v l0)=.ret vs):Ji prog (Zy prog 37) (Zb prog 37 [(.dat l0.length (Zz l0))] true []) vs:=by have:=Ze (v0b l0) n _ (w1a l0);rwa [h] at this
inductive crdS where
def crdC (aL:Int) (aN:Int) (aM:Int) (x1:Int):crdS→Cfg
 :=nofun
def w2a (aL:Int) (aN:Int) (aM:Int) (x1:Int):crdS→Xp crdS
 :=nofun
def y4c (aL:Int) (aN:Int) (aM:Int) (x1:Int):Xp crdS:=(bif (x1 == 0) then (.ret [(.int .i64 aL)]) else (bif (x1 == 1) then (.ret [(.int .i64 aN)]) else (.ret [(.int .i64 aM)])))
theorem v0s (aL:Int) (aN:Int) (aM:Int) (x1:Int): ∀s,Yr prog (Zy prog 42) (crdC aL aN aM x1) (crdC aL aN aM x1 s) (w2a aL aN aM x1 s)
 :=nofun
theorem w2b (aL:Int) (aN:Int) (aM:Int) (x1:Int):Yr prog (Zy prog 42) (crdC aL aN aM x1) (Zb prog 42 [(.agg [(.int .i64 aL),(.int .i64 aN),(.int .i64 aM)]),(.int .i64 x1)] true []) (y4c aL aN aM x1):=(lb (fun k0=>(lr 15 42 [1,0,1,0,0] 1 5 [(4,(ii aL))] (sl z5i 18 [] ⟨[],[],[some [4]],[]⟩ ⟨[],[],[]⟩ [true] (tt k0 nn)))) (fun k0=>(lb (fun k1=>(lr 15 42 [1,1,0,1,0,0] 1 5 [(4,(ii aN))] (sl z5i 26 [] ⟨[],[],[some [4]],[]⟩ ⟨[],[],[]⟩ [false,true] (tt k1 (tt k0 nn))))) (fun k1=>(lr 15 3 [1,1,1,1,1,1,1,0] 1 5 [(4,(ii aM))] (sl z5i 27 [] ⟨[],[],[some [4]],[]⟩ ⟨[],[],[]⟩ [false,false] (tt k1 (tt k0 nn))))))))
theorem u4d (aL:Int) (aN:Int) (aM:Int) (x1:Int) (n:Nat) (vs:List AVal) (h:Yz (w2a aL aN aM x1) n (y4c aL aN aM x1)=.ret vs):Ji prog (Zy prog 42) (Zb prog 42 [(.agg [(.int .i64 aL),(.int .i64 aN),(.int .i64 aM)]),(.int .i64 x1)] true []) vs:=by have:=Ze (v0s aL aN aM x1) n _ (w2b aL aN aM x1);rwa [h] at this
abbrev nEq7 :Nat:=69
def Yu (L:List R6):List R7:=bif Yo L != 0 then [] else Js L
def z2g (L:List R6):Int:=bif Yo L != 0 then Yo L else z4d L
def z2f (L:List R6):Bool:=true
theorem j3e (L:List R6): ∃n vs,Yz (x9s L) n (y3k L)=.ret vs∧(∀(ρ:Rho) (u:Value),VRel ρ (Jo vs) u→VRel ρ (.tup [.dat (Yu L).length (Zz (Yu L)),.int .i64 (z2g L)]) u)∧ ∃d,pf d (Jo vs)=true:=by
 unfold y3k;simp only [Zm,show∀l,Ks l=true from fun _=>rfl,Ab];rcases Yp (Yo L != 0) with q1 | q1
 ·refine ⟨0,_,by rw [q1,Ab];rfl,?_,3,rfl⟩;unfold Yu z2g;rw [q1,Ab,Ab];exact fun ρ u hu=>z1u (.cons (.nild _) (.cons (.refl _) .nil)) ρ u hu
 ·have o:z2h L=true:=Ah (Wx (by simpa using q1)).1;refine ⟨0,_,by rw [q1,o,Aa,Ab];rfl,?_,3,rfl⟩;unfold Yu z2g;rw [q1,Aa,Aa];exact fun ρ u hu=>hu
def fMof :List AVal→Option (AVal×Bool)
 | [a0]=>match asL R6 a0 with
  | some (L0,g0,n0)=>some (.tup [.dat (Yu L0).length (Zz (Yu L0)),.int .i64 (z2g L0)],isT R6 n0 g0&&(z2f L0))
  | _=>none
 | _=>none
theorem j5i {S:Specs} (hS:Zu prog S):Zu prog (S.with nMOf fMof):=by
 refine v1m hS (by kernel_rfl) fun args v h=> ?_;unfold fMof at h;split at h
 ·rename_i a0;split at h
  ·rename_i L0 g0 n0 e0;simp only [Ae,Ad,Ac] at h;obtain ⟨rfl,ho0,hw⟩:=h;obtain ⟨N,vs,hN,hv,hp⟩:=j3e L0;exact ⟨_,vs,(.cons (asL_le e0 ho0) .nil),hv,u1z L0 N _ hN,hp⟩
  ·cases h
 ·cases h
def shR (x y z:Int) (r:R6):Bool:=decide (r.a≤x)&&(decide (x<r.d)&&(decide (r.b≤y)&&(decide (y<r.e)&&(decide (r.c≤z)&&decide (z<r.f)))))
def j0u (L:List R6) (x y z:Int):Bool:=L.any (shR x y z)
def z1y (L:List R6) (x y z:Int):Bool:=decide (L.length≤100000)
theorem u5p {L:List R6} {x y z:Int} (hl:L.length≤100000): ∀(k i:Nat),i+k=L.length→ ∃N,Yz (z6q L x y z) N (.to (.h0 (i:Int)))=.ret [.bool ((L.drop i).any (shR x y z))]
 | 0,i,h=>by refine ⟨1,?_⟩;rw [Zv,Av (by omega)];simp (disch:=omega) only [z6q,Yx,Aa];rfl
 | k+1,i,h=>by
  have hi:i<L.length:=by omega
  obtain ⟨N,hN⟩:=u5p (x:=x) (y:=y) (z:=z) hl k (i+1) (by omega);have hw:wrap .i64 ((i:Int)+1)=((i+1:Nat):Int):=Zq (by omega);have e:z6q L x y z (.h0 (i:Int))=bif shR x y z (rd L i) then .ret [.bool true] else .to (.h0 ((i+1:Nat):Int)):=by simp (disch:=omega) only [z6q,Zs,Zt,x6c,hw,Zj,Ai,Ab];unfold shR;cases decide ((rd L i).a ≤x) <;> cases decide (x<(rd L i).d) <;> cases decide ((rd L i).b ≤y) <;> cases decide (y<(rd L i).e) <;> cases decide ((rd L i).c ≤z) <;> cases decide (z<(rd L i).f) <;> rfl
  refine ⟨N+1,?_⟩;rw [Zv,Yq hi,e,List.any_cons];rcases Yp (shR x y z (rd L i)) with q | q
  ·rw [q,Ab,Bool.true_or];exact Za _ _ _
  ·rw [q,Aa,Bool.false_or];exact hN
theorem j0t (L:List R6) (x y z:Int) (h:z1y L x y z=true): ∃N,Yz (z6q L x y z) N (x1f L x y z)=.ret [.bool (j0u L x y z)]:=
 u5p (AF h) L.length 0 (Ag _)
def crdV (x y z i:Int):Int:=bif i == 0 then x else bif i == 1 then y else z
theorem j6p (x y z i:Int): ∃N,Yz (w2a x y z i) N (y4c x y z i)=.ret [.int .i64 (crdV x y z i)]:=⟨0,by
 unfold y4c crdV;cases (i == 0) <;> cases (i == 1) <;> rfl⟩
def j4g (L:List R6):Bool:=decide ((L.length:Int)≤20)&&(y1i L == 0)
def z8o (L:List R6):Bool:=true
theorem j4f (L:List R6) (h:z8o L=true): ∃N,Yz (w0z L) N (y3v L)=.ret [.bool (j4g L)]:=⟨0,by
 unfold y3v j4g;simp only [Zm,show∀l,y5c l=true from fun _=>rfl,Ab];cases decide ((L.length:Int)≤20) <;> rfl⟩
def fShs :List AVal→Option (AVal×Bool)
 | [a0,.agg [.int .i64 aJ,.int .i64 aH,.int .i64 aI]]=>match asL R6 a0 with
  | some (L0,g0,n0)=>some (.bool (j0u L0 aJ aH aI),isT R6 n0 g0&&(z1y L0 aJ aH aI))
  | _=>none
 | _=>none
theorem j4w {S:Specs} (hS:Zu prog S):Zu prog (S.with nSHas fShs):=by
 refine z0v hS (by kernel_rfl) fun args v h=> ?_;unfold fShs at h;split at h
 ·rename_i a0 aJ aH aI;split at h
  ·rename_i L0 g0 n0 e0;simp only [Ae,Ad,Ac] at h;obtain ⟨rfl,ho0,hw⟩:=h;obtain ⟨N,hN⟩:=j0t L0 aJ aH aI hw;exact ⟨_,_,(.cons (asL_le e0 ho0) (.cons (.refl _) .nil)),rfl,v9s L0 aJ aH aI N _ hN,3,rfl⟩
  ·cases h
 ·cases h
def fCrd :List AVal→Option (AVal×Bool)
 | [.agg [.int .i64 aL,.int .i64 aN,.int .i64 aM],.int .i64 x1]=>some (.int .i64 (crdV aL aN aM x1),true)
 | _=>none
theorem j6c {S:Specs} (hS:Zu prog S):Zu prog (S.with u8c fCrd):=by
 refine z0v hS (by kernel_rfl) fun args v h=> ?_;unfold fCrd at h;split at h
 ·rename_i aL aN aM x1;simp only [Ae,Ad,BV] at h;subst h;obtain ⟨N,hN⟩:=j6p aL aN aM x1;exact ⟨_,_,(.cons (.refl _) (.cons (.refl _) .nil)),rfl,u4d aL aN aM x1 N _ hN,3,rfl⟩
 ·cases h
def fFit :List AVal→Option (AVal×Bool)
 | [a0]=>match asL R6 a0 with
  | some (L0,g0,n0)=>some (.bool (j4g L0),isT R6 n0 g0&&(z8o L0))
  | _=>none
 | _=>none
theorem j5t {S:Specs} (hS:Zu prog S):Zu prog (S.with u8b fFit):=by
 refine z0v hS (by kernel_rfl) fun args v h=> ?_;unfold fFit at h;split at h
 ·rename_i a0;split at h
  ·rename_i L0 g0 n0 e0;simp only [Ae,Ad,Ac] at h;obtain ⟨rfl,ho0,hw⟩:=h;obtain ⟨N,hN⟩:=j4f L0 hw;exact ⟨_,_,(.cons (asL_le e0 ho0) .nil),rfl,u3i L0 N _ hN,3,rfl⟩
  ·cases h
 ·cases h
def Me :Specs:=((((Md.with nMOf fMof).with nSHas fShs).with u8c fCrd).with u8b fFit)
theorem Jt :Zu prog Me:=(j5t (j6c (j4w (j5i z5i))))
inductive finS where
def finC (aL:Int) (aN:Int) (aM:Int):finS→Cfg
 :=nofun
def w1b (aL:Int) (aN:Int) (aM:Int):finS→Xp finS
 :=nofun
def y3w (aL:Int) (aN:Int) (aM:Int):Xp finS:=(bif (decide ((Jm (Jm aL aN) aM)≥(-1000000))) then (.ret [(.bool (decide ((Jg (Jg aL aN) aM)≤1000000)))]) else (.ret [(.bool false)]))
theorem v0c (aL:Int) (aN:Int) (aM:Int): ∀s,Yr prog (Zy prog 73) (finC aL aN aM) (finC aL aN aM s) (w1b aL aN aM s)
 :=nofun
theorem w1c (aL:Int) (aN:Int) (aM:Int):Yr prog (Zy prog 73) (finC aL aN aM) (Zb prog 73 [(.agg [(.int .i64 aL),(.int .i64 aN),(.int .i64 aM)])] true []) (y3w aL aN aM):=(lb (fun k0=>(lr 21 3 [1,1,1,1,1,1,1,0] 1 3 [(2,(.bool (decide ((Jg (Jg aL aN) aM)≤1000000))))] (sl Jt 27 [] ⟨[],[],[some [2]],[]⟩ ⟨[],[],[]⟩ (trs 8 []) (tt k0 nn)))) (fun k0=>(lr 21 3 [1,1,1,1,1,1,1,0] 1 3 [(2,(.bool false))] (sl Jt 27 [] ⟨[],[],[some [2]],[]⟩ ⟨[],[],[]⟩ [false,false,false,false,false,false,false,false] (tt k0 nn)))))
theorem u3j (aL:Int) (aN:Int) (aM:Int) (n:Nat) (vs:List AVal) (h:Yz (w1b aL aN aM) n (y3w aL aN aM)=.ret vs):Ji prog (Zy prog 73) (Zb prog 73 [(.agg [(.int .i64 aL),(.int .i64 aN),(.int .i64 aM)])] true []) vs:=by have:=Ze (v0c aL aN aM) n _ (w1c aL aN aM);rwa [h] at this
inductive eqqS where
 | h0 (v13:Int)
def eqqC (l0:List R7) (l1:List R7):eqqS→Cfg
 | .h0 v13=>⟨⟨26,0,true⟩,none,(Zd prog 69 [1,1,0,1,0,0] 0),none,(Zy prog 5),⟨Yb [(0,(.dat l0.length (Zz l0))),(1,(.dat l1.length (Zz l1))),(12,(ii (l0.length:Int))),(13,(ii v13))],Vb [] 0,0,[],true⟩,[],.leaf⟩
def eqqN0 :List (Option (List Nat)):=[some [0,1,12,13]]
def eqqM0 :List (Option (List Nat)):=[]
def z7c (l0:List R7) (l1:List R7):eqqS→Xp eqqS
 | .h0 v13=>(bif (decide (v13<(l0.length:Int))) then (bif ((decide (0≤v13∧v13<(l0.length:Int)))&&true) then (bif ((decide (0≤v13∧v13<(l1.length:Int)))&&true) then (bif (!(((rd l0 v13.toNat).a == (rd l1 v13.toNat).a)&&((((rd l0 v13.toNat).b == (rd l1 v13.toNat).b)&&(((rd l0 v13.toNat).c == (rd l1 v13.toNat).c)&&(((rd l0 v13.toNat).d == (rd l1 v13.toNat).d)&&true)))&&((((rd l0 v13.toNat).e == (rd l1 v13.toNat).e)&&(((rd l0 v13.toNat).f == (rd l1 v13.toNat).f)&&(((rd l0 v13.toNat).g == (rd l1 v13.toNat).g)&&true)))&&true)))) then (.ret [(.bool false)]) else (.to (.h0 (wrap .i64 (v13+1))))) else .stuck) else .stuck) else (.ret [(.bool true)]))
def y4b (l0:List R7) (l1:List R7):Xp eqqS:=(bif ((l0.length:Int) != (l1.length:Int)) then (.ret [(.bool false)]) else (.to (.h0 0)))
theorem v0l (l0:List R7) (l1:List R7): ∀s,Yr prog (Zy prog 69) (eqqC l0 l1) (eqqC l0 l1 s) (z7c l0 l1 s)
 | .h0 v13=>(lb (fun k0=>(lo fun aG=>(lo fun bF=>(lb (fun k1=>(lr 26 69 [1,1,0,1,0,0,1,1,0,0,1,1,0,0] 1 5 [(4,(.bool false))] (sl Jt 21 [] ⟨[],[],[some [4]],[]⟩ ⟨[],[],[]⟩ (bl 2 3) (tt k1 (ww bF (ww aG (tt k0 nn))))))) (fun k1=>(sl Jt 24 [] ⟨[],[],eqqN0,eqqM0⟩ ⟨[],[],[]⟩ (bl 2 1) (tt k1 (ww bF (ww aG (tt k0 nn)))))))))) (fun k0=>(lr 26 3 [1,1,1,1,1,1,1,0] 1 5 [(4,(.bool true))] (sl Jt 11 [] ⟨[],[],[some [4]],[]⟩ ⟨[],[],[]⟩ [false] (tt k0 nn)))))
theorem w1n (l0:List R7) (l1:List R7):Yr prog (Zy prog 69) (eqqC l0 l1) (Zb prog 69 [(.dat l0.length (Zz l0)),(.dat l1.length (Zz l1))] true []) (y4b l0 l1):=(lb (fun k0=>(lr 26 69 [1,0,1,0,0] 1 5 [(4,(.bool false))] (sl Jt 18 [] ⟨[],[],[some [4]],[]⟩ ⟨[],[],[]⟩ [true] (tt k0 nn)))) (fun k0=>(sl Jt 24 [] ⟨[],[],eqqN0,eqqM0⟩ ⟨[],[],[]⟩ [false] (tt k0 nn))))
theorem u3t (l0:List R7) (l1:List R7) (n:Nat) (vs:List AVal) (h:Yz (z7c l0 l1) n (y4b l0 l1)=.ret vs):Ji prog (Zy prog 69) (Zb prog 69 [(.dat l0.length (Zz l0)),(.dat l1.length (Zz l1))] true []) vs:=by have:=Ze (v0l l0 l1) n _ (w1n l0 l1);rwa [h] at this
inductive slmS where
 | h0 (v8:Int)
 | h1 (v16:Int) (aA:List Int)
 | h2 (v4:Int) (aF:List R6) (aX:List R4) (bD:Int) (bE:Int) (aE:Nat) (aK:List Int)
 | h3 (v4:Int) (v38:Int) (aF:List R6) (aX:List R4) (bD:Int) (bE:Int) (aE:Nat) (aK:List Int) (aW:Int) (bG:Int) (aB:List R4)
 | h4 (v1:Int) (v2:Int) (v72:List R4) (v73:Int) (v74:Int) (bO:List R4) (aZ:Int) (aD:List R6) (bH:List R4) (bJ:Int) (aE:Nat) (aK:List Int) (aW:List R4)
 | h5 (v2:Int) (v8:Int) (cC:Int) (bO:List R4) (aZ:Int) (aD:List R6) (bH:List R4) (bJ:Int) (cA:Int) (bN:Nat) (bU:List Int) (aB:List R4)
abbrev y8q (aD:List R6) (v8:Int) (v2:Int):=(aD.set (0+(tn v8)) (R6.mk (rd aD (0+(tn v8))).a (rd aD (0+(tn v8))).b (rd aD (0+(tn v8))).c (rd aD (0+(tn v8))).d (rd aD (0+(tn v8))).e v2))
abbrev y8p (aA:List Int):=(Wr (Yy aA.length (cOf (Zz (Xu (Yy aA.length (cOf (Zz aA))))))))
def v2t :AFr:=⟨⟨15,0,true⟩,(Jb prog 47 [1,1,1,0] 3),(Zd prog 47 [1,1,1,0] 1),none,(Zy prog 15),Yb [(9,(.agg [.nilf])),(11,(.sl 8 0 1 (.un 1)))]⟩
abbrev y8o (aB:List R4) (l0:List R6) (v38:Int):=(aB++[(R4.mk (rd l0 (tn v38)).a (rd l0 (tn v38)).b (rd l0 (tn v38)).d (rd l0 (tn v38)).e)])
abbrev y8n (aD:List R6) (v72:List R4) (v74:Int) (v1:Int) (v2:Int):=(aD++[(R6.mk (rd v72 (tn v74)).a (rd v72 (tn v74)).b v1 (rd v72 (tn v74)).c (rd v72 (tn v74)).d v2)])
def u5o :=(y7v [(0,⟨.ready,none,65,Yb [(2,(.ptr 1 0)),(4,(.ptr 2 0)),(5,(.ptr 3 0)),(6,(.ptr 4 0))],[15],(Uz prog 95 [1,1,0,1,0,0]),(Uz prog 95 [1,1,0,1,0,1])⟩)])
def u5n :AFr:=⟨⟨65,0,true⟩,none,(.inRangeFunc 0::(Zd prog 95 [1,1,0,1,0] 1)),none,(Zy prog 95),Yb [(4,(.ptr 2 0)),(5,(.ptr 3 0)),(6,(.ptr 4 0))]⟩
def z4o (l0:List R6):AVal:=(.dat l0.length (Zz l0))
abbrev y8m (aA:List Int) (l0:List R6) (v16:Int):=(aA++[(rd l0 (tn v16)).c,(rd l0 (tn v16)).f])
def slmC (l0:List R6):slmS→Cfg
 | .h0 v8=>⟨⟨19,0,true⟩,none,(Zd prog 134 [1,0,1,0,0] 0),none,(Zy prog 5),⟨Yb [(0,(z4o l0)),(1,(.fn 93 [])),(7,(ii (l0.length:Int))),(8,(ii v8))],Vb [] 0,0,[],true⟩,[⟨⟨9,0,true⟩,(Jb prog 92 [1,0] 2),(Zd prog 92 [1,0] 1),none,(Zy prog 5),Yb [(5,(z4o l0)),(6,(.fn 93 []))]⟩,⟨⟨15,0,true⟩,(Jb prog 47 [1,1,0,0] 1),(Zd prog 47 [1,1,0,0] 1),none,(Zy prog 15),Yb [(0,(z4o l0)),(7,(z4o l0))]⟩],.leaf⟩
 | .h1 v16 aA=>⟨⟨36,0,true⟩,none,(Zd prog 136 [1,1,0,1,0,0,1,1,0,0,1,1,0,0] 0),none,(Zy prog 3),⟨Yb [(1,(.ptr 0 0)),(3,(.ptr 2 0)),(8,(.sl 1 0 1 (.un 1))),(9,(ii 1)),(10,(ii 0)),(14,(z4o l0)),(15,(ii (l0.length:Int))),(16,(ii v16))],Vb [⟨[(.sl 1 0 1 (.un 1))],166,none⟩,⟨[(z4o l0)],22,none⟩,⟨[(.sla 7 1 0 aA.length (.un 1))],93,none⟩,⟨[.nilf],117,none⟩,⟨[.nils],38,none⟩,⟨[(ii 0)],26,none⟩,⟨[.nils,.nils,(ii 0),(ii 0)],168,none⟩,⟨rows aA.length (Zz aA),3,some ⟨1,aA.length,(Zz aA)⟩⟩] 0,8,[],true⟩,[⟨⟨65,0,true⟩,(Jb prog 95 [1,1,0,0] 1),(Zd prog 95 [1,1,0,0] 1),none,(Zy prog 95),Yb [(2,(.ptr 3 0)),(4,(.ptr 4 0)),(5,(.ptr 5 0)),(6,(.ptr 6 0)),(13,(.sl 1 0 1 (.un 1)))]⟩,⟨⟨15,0,true⟩,(Jb prog 47 [1,1,1,0] 3),(Zd prog 47 [1,1,1,0] 1),none,(Zy prog 15),Yb [(9,(.agg [.nilf])),(11,(.sl 1 0 1 (.un 1)))]⟩],.leaf⟩
 | .h2 v4 aF aX bD bE aE aK=>⟨⟨86,0,true⟩,none,(Zd prog 171 [1,0,0] 0),none,[],⟨Yb [(0,(.yld 0)),(1,(.ptr 5 0)),(2,(.ptr 7 0)),(4,(ii v4))],y1l [(1,⟨[.nilf],117,none⟩),(2,⟨[.nils],38,none⟩),(3,⟨[(ii 0)],26,none⟩),(4,⟨[(.sla 9 6 0 aF.length (.un 6)),(.dat aX.length (Zz aX)),(ii bD),(ii bE)],168,none⟩),(5,⟨[(.sla 6 1 0 aE (.un 1))],93,none⟩),(6,⟨rows aK.length (Zz aK),3,some ⟨1,aK.length,(Zz aK)⟩⟩),(7,⟨[(.sl 8 0 1 (.un 1))],166,none⟩),(8,⟨[(z4o l0)],22,none⟩),(9,⟨rows aF.length (Zz aF),67,some ⟨6,aF.length,(Zz aF)⟩⟩)],10,[],true⟩,[u5n,v2t],u5o⟩
 | .h3 v4 v38 aF aX bD bE aE aK aW bG aB=>⟨⟨86,0,true⟩,none,(Zd prog 171 [1,0,0,1,0,0,1,0,1,0,0,1,1,0,0,1,1,0,0] 0),none,[],⟨Yb [(0,(.yld 0)),(1,(.ptr 5 0)),(2,(.ptr 7 0)),(4,(ii v4)),(5,(.ptr 9 0)),(6,(ii 0)),(29,(.sl 8 0 1 (.un 1))),(30,(ii 1)),(31,(ii 0)),(36,(z4o l0)),(37,(ii (l0.length:Int))),(38,(ii v38))],y1l [(1,⟨[.nilf],117,none⟩),(2,⟨[.nils],38,none⟩),(3,⟨[(ii 0)],26,none⟩),(4,⟨[(.sla 12 6 0 aF.length (.un 6)),(.dat aX.length (Zz aX)),(ii bD),(ii bE)],168,none⟩),(5,⟨[(.sla 6 1 0 aE (.un 1))],93,none⟩),(6,⟨rows aK.length (Zz aK),3,some ⟨1,aK.length,(Zz aK)⟩⟩),(7,⟨[(.sl 8 0 1 (.un 1))],166,none⟩),(8,⟨[(z4o l0)],22,none⟩),(9,⟨[(ii aW),(ii bG),(.sl 10 0 1 (.ex 1))],173,none⟩),(10,⟨[(.sla 11 4 0 aB.length (.un 4))],99,none⟩),(11,⟨rows aB.length (Zz aB),88,some ⟨4,aB.length,(Zz aB)⟩⟩),(12,⟨rows aF.length (Zz aF),67,some ⟨6,aF.length,(Zz aF)⟩⟩)],13,[],true⟩,[u5n,v2t],u5o⟩
 | .h4 v1 v2 v72 v73 v74 bO aZ aD bH bJ aE aK aW=>⟨⟨101,0,true⟩,none,(Zd prog 137 [1,1,1,0,0] 0),none,[],⟨Yb [(0,(.ptr 0 0)),(1,(ii v1)),(2,(ii v2)),(72,(.dat v72.length (Zz v72))),(73,(ii v73)),(74,(ii v74))],y1l [(0,⟨[(.sla 10 6 0 aD.length (.un 6)),(.dat bH.length (Zz bH)),(ii bJ),(ii v2)],168,none⟩),(2,⟨[.nilf],117,none⟩),(3,⟨[.nils],38,none⟩),(4,⟨[(ii 0)],26,none⟩),(5,⟨[(.sla 6 1 0 aE (.un 1))],93,none⟩),(6,⟨rows aK.length (Zz aK),3,some ⟨1,aK.length,(Zz aK)⟩⟩),(7,⟨[(.sl 8 0 1 (.un 1))],166,none⟩),(8,⟨[(z4o l0)],22,none⟩),(9,⟨[(.dat aW.length (Zz aW))],99,none⟩),(10,⟨rows aD.length (Zz aD),67,some ⟨6,aD.length,(Zz aD)⟩⟩)],11,[],true⟩,[⟨⟨65,0,true⟩,(Jb prog 95 [1,1,0,1,0,1,0,1,1,1] 5),(Zd prog 95 [1,1,0,1,0,1,0,1,1,1] 1),(some 1),[],Yb [(6,(.ptr 0 0)),(54,(ii v1)),(56,(ii v2)),(57,(.dat bO.length (Zz bO)))]⟩,⟨⟨86,0,true⟩,(Jb prog 171 [1,0,0,1,0,0,1,1,0] 2),(Zd prog 171 [1,0,0,1,0,0,1,1,0] 1),none,[],Yb [(0,(.yld 1)),(1,(.ptr 5 0)),(2,(.ptr 7 0)),(4,(ii aZ)),(82,(.yld 1)),(83,(.agg [(ii v1),(ii v2),(.sl 9 0 1 (.ex 1))]))]⟩,⟨⟨65,0,true⟩,none,(.inRangeFunc 1::(Zd prog 95 [1,1,0,1,0] 1)),none,(Zy prog 95),Yb [(4,(.ptr 3 0)),(5,(.ptr 4 0)),(6,(.ptr 0 0))]⟩,v2t],(y7v [(1,⟨.busy,none,65,Yb [(2,(.ptr 2 0)),(4,(.ptr 3 0)),(5,(.ptr 4 0)),(6,(.ptr 0 0))],[15],(Uz prog 95 [1,1,0,1,0,0]),(Uz prog 95 [1,1,0,1,0,1])⟩)])⟩
 | .h5 v2 v8 cC bO aZ aD bH bJ cA bN bU aB=>⟨⟨101,0,true⟩,none,(Zd prog 137 [0,1,0,0,1,0,0] 0),none,[],⟨Yb [(0,(.ptr 0 0)),(2,(ii v2)),(8,(ii v8))],y1l [(0,⟨[(.sla 1 6 0 aD.length (.un 6)),(.dat bH.length (Zz bH)),(ii bJ),(ii cA)],168,none⟩),(1,⟨rows aD.length (Zz aD),67,some ⟨6,aD.length,(Zz aD)⟩⟩),(3,⟨[.nilf],117,none⟩),(4,⟨[.nils],38,none⟩),(5,⟨[(ii 0)],26,none⟩),(6,⟨[(.sla 7 1 0 bN (.un 1))],93,none⟩),(7,⟨rows bU.length (Zz bU),3,some ⟨1,bU.length,(Zz bU)⟩⟩),(8,⟨[(.sl 9 0 1 (.un 1))],166,none⟩),(9,⟨[(z4o l0)],22,none⟩),(10,⟨[(.dat aB.length (Zz aB))],99,none⟩)],11,[],true⟩,[⟨⟨65,0,true⟩,(Jb prog 95 [1,1,0,1,0,1,0,1,1,1] 5),(Zd prog 95 [1,1,0,1,0,1,0,1,1,1] 1),(some 2),[],Yb [(6,(.ptr 0 0)),(54,(ii cC)),(56,(ii v2)),(57,(.dat bO.length (Zz bO)))]⟩,⟨⟨86,0,true⟩,(Jb prog 171 [1,0,0,1,0,0,1,1,0] 2),(Zd prog 171 [1,0,0,1,0,0,1,1,0] 1),none,[],Yb [(0,(.yld 2)),(1,(.ptr 6 0)),(2,(.ptr 8 0)),(4,(ii aZ)),(82,(.yld 2)),(83,(.agg [(ii cC),(ii v2),(.sl 10 0 1 (.ex 1))]))]⟩,⟨⟨65,0,true⟩,none,(.inRangeFunc 2::(Zd prog 95 [1,1,0,1,0] 1)),none,(Zy prog 95),Yb [(4,(.ptr 4 0)),(5,(.ptr 5 0)),(6,(.ptr 0 0))]⟩,⟨⟨15,0,true⟩,(Jb prog 47 [1,1,1,0] 3),(Zd prog 47 [1,1,1,0] 1),none,(Zy prog 15),Yb [(9,(.agg [.nilf])),(11,(.sl 9 0 1 (.un 1)))]⟩],(y7v [(2,⟨.busy,none,65,Yb [(2,(.ptr 3 0)),(4,(.ptr 4 0)),(5,(.ptr 5 0)),(6,(.ptr 0 0))],[15],(Uz prog 95 [1,1,0,1,0,0]),(Uz prog 95 [1,1,0,1,0,1])⟩)])⟩
def slmN0 :List (Option (List Nat)):=[some [0,1,7,8],some [5,6],some [0,7]]
def slmM0 :List (Option (List Nat)):=[]
def j0q :List (Option (List Nat)):=[some [1,3,8,9,10,14,15,16],some [2,4,5,6,13],some [9,11]]
def j0s :List (Option (List Nat)):=[]
def j0p :List (Option (List Nat)):=[some [0,1,2,4],some [4,5,6],some [9,11]]
def j0r :List (Option (List Nat)):=[some [2,4,5,6],none,none,none,none,none,none,none,none,none]
def v9p :List (Option (List Nat)):=[some [0,1,2,4,5,6,29,30,31,36,37,38],some [4,5,6],some [9,11]]
def v9r :List (Option (List Nat)):=[some [2,4,5,6],none,none,none,none,none,none,none,none,none,none,none,none]
def v9o :List (Option (List Nat)):=[some [0,1,2,72,73,74],some [6,54,56,57],some [0,1,2,4,82,83],some [4,5,6],some [9,11]]
def v9q :List (Option (List Nat)):=[none,some [2,4,5,6],none,none,none,none,none,none,none,none,none]
def slmN5 :List (Option (List Nat)):=[some [0,2,8],some [6,54,56,57],some [0,1,2,4,82,83],some [4,5,6],some [9,11]]
def slmM5 :List (Option (List Nat)):=[none,none,some [2,4,5,6],none,none,none,none,none,none,none,none]
def Xj (l0:List R6):slmS→Xp slmS
 | .h0 v8=>(bif (decide (v8<(l0.length:Int))) then (bif ((decide (0≤v8∧v8<(l0.length:Int)))&&true) then (bif (!(u9y (rd l0 v8.toNat).a (rd l0 v8.toNat).b (rd l0 v8.toNat).c (rd l0 v8.toNat).d (rd l0 v8.toNat).e (rd l0 v8.toNat).f)) then (bif (decide (v8≥0)) then (.ret [.nils,(.int .i64 8)]) else (.to (.h1 0 ([]:List Int)))) else (.to (.h0 (wrap .i64 (v8+1))))) else .stuck) else (.to (.h1 0 ([]:List Int))))
 | .h1 v16 aA=>(bif (decide (v16<(l0.length:Int))) then (bif ((decide (0≤v16∧v16<(l0.length:Int)))&&true) then (bif (Nat.beq 1 1&&((decide (0+aA.length=aA.length))&&decide ((aA.length+2+1)*(8+1)≤Jd))) then (.to (.h1 (wrap .i64 (v16+1)) (aA++[(rd l0 v16.toNat).c,(rd l0 v16.toNat).f]))) else .stuck) else .stuck) else (bif (decide (aA.length<4611686018427387904)) then (bif (decide (aA.length=aA.length)) then (.to (.h2 1 ([]:List R6) ([]:List R4) 0 0 (v1n (Yy aA.length (cOf (Zz (Xu (Yy aA.length (cOf (Zz aA)))))))) (Wr (Yy aA.length (cOf (Zz (Xu (Yy aA.length (cOf (Zz aA)))))))))) else .stuck) else .stuck))
 | .h2 v4 aF aX bD bE aE aK=>(bif (decide (v4<((aE:Nat):Int))) then (bif ((decide (0≤(wrap .i64 (v4 - 1))∧(wrap .i64 (v4 - 1))<((aE:Nat):Int)))&&true) then (bif (decide ((0+(Int.toNat (wrap .i64 (v4 - 1))))<aK.length)) then (bif ((decide (0≤v4∧v4<((aE:Nat):Int)))&&true) then (bif (decide ((0+v4.toNat)<aK.length)) then (.to (.h3 v4 0 aF aX bD bE aE aK (rd aK (0+(Int.toNat (wrap .i64 (v4 - 1))))) (rd aK (0+v4.toNat)) ([]:List R4))) else .stuck) else .stuck) else .stuck) else .stuck) else (bif (decide ((aF.length:Int)>400)) then (.ret [.nils,(.int .i64 4)]) else (.ret [(.dat aF.length (Zz aF)),(.int .i64 0)])))
 | .h3 v4 v38 aF aX bD bE aE aK aW bG aB=>(bif (decide (v38<(l0.length:Int))) then (bif ((decide (0≤v38∧v38<(l0.length:Int)))&&true) then (bif (decide ((rd l0 v38.toNat).c ≤aW)) then (bif (decide (aW<(rd l0 v38.toNat).f)) then (bif (Nat.beq 4 4&&((decide (0+aB.length=aB.length))&&decide ((aB.length+1+1)*(32+1)≤Jd))) then (.to (.h3 v4 (wrap .i64 (v38+1)) aF aX bD bE aE aK aW bG (aB++[(R4.mk (rd l0 v38.toNat).a (rd l0 v38.toNat).b (rd l0 v38.toNat).d (rd l0 v38.toNat).e)]))) else .stuck) else (.to (.h3 v4 (wrap .i64 (v38+1)) aF aX bD bE aE aK aW bG aB))) else (.to (.h3 v4 (wrap .i64 (v38+1)) aF aX bD bE aE aK aW bG aB))) else .stuck) else (bif (Jz (cvT aB)) then (bif ((Xw (cvT aB)) != 0) then (.ret [.nils,(.int .i64 (Xw (cvT aB)))]) else (bif (decide ((((Zc (cvT aB)).length :Nat):Int)>0)) then (bif (bE == aW) then (bif (Wd (cvT aX) (cvT (Zc (cvT aB)))) then (bif (Ja (cvT aX) (cvT (Zc (cvT aB)))) then (.to (.h5 bG bD aW (Zc (cvT aB)) v4 aF aX bD bE aE aK aB)) else (.to (.h4 aW bG (Zc (cvT aB)) (((Zc (cvT aB)).length :Nat):Int) 0 (Zc (cvT aB)) v4 aF (Zc (cvT aB)) (aF.length:Int) aE aK aB))) else .stuck) else (.to (.h4 aW bG (Zc (cvT aB)) (((Zc (cvT aB)).length :Nat):Int) 0 (Zc (cvT aB)) v4 aF (Zc (cvT aB)) (aF.length:Int) aE aK aB))) else (.to (.h4 aW bG (Zc (cvT aB)) (((Zc (cvT aB)).length :Nat):Int) 0 (Zc (cvT aB)) v4 aF (Zc (cvT aB)) (aF.length:Int) aE aK aB)))) else .stuck))
 | .h4 v1 v2 v72 v73 v74 bO aZ aD bH bJ aE aK aW=>(bif (decide (v74<v73)) then (bif ((decide (0≤v74∧v74<(v72.length:Int)))&&true) then (bif (Nat.beq 6 6&&((decide (0+aD.length=aD.length))&&decide ((aD.length+1+1)*(48+1)≤Jd))) then (.to (.h4 v1 v2 v72 v73 (wrap .i64 (v74+1)) bO aZ (aD++[(R6.mk (rd v72 v74.toNat).a (rd v72 v74.toNat).b v1 (rd v72 v74.toNat).c (rd v72 v74.toNat).d v2)]) bH bJ aE aK aW)) else .stuck) else .stuck) else (.to (.h2 (wrap .i64 (aZ+1)) aD bH bJ v2 aE aK)))
 | .h5 v2 v8 cC bO aZ aD bH bJ cA bN bU aB=>(bif (decide (v8<(aD.length:Int))) then (bif ((decide (0≤v8∧v8<(aD.length:Int)))&&true) then (bif (decide ((0+v8.toNat)<aD.length)) then (.to (.h5 v2 (wrap .i64 (v8+1)) cC bO aZ (aD.set (0+v8.toNat) (R6.mk (rd aD (0+v8.toNat)).a (rd aD (0+v8.toNat)).b (rd aD (0+v8.toNat)).c (rd aD (0+v8.toNat)).d (rd aD (0+v8.toNat)).e v2)) bH bJ cA bN bU aB)) else .stuck) else .stuck) else (.to (.h2 (wrap .i64 (aZ+1)) aD bH bJ v2 bN bU)))
def y2o (l0:List R6):Xp slmS:=(bif (decide ((l0.length:Int)>400)) then (.ret [.nils,(.int .i64 4)]) else (.to (.h0 0)))
theorem w7q (l0:List R6): ∀s,Yr prog (Zy prog 47) (slmC l0) (slmC l0 s) (Xj l0 s)
 | .h0 v8=>(lb (fun k0=>(lo fun aG=>(lb (fun k1=>(lb (fun k2=>(lr 15 47 [1,1,0,1,0,0] 1 15 [(2,.nils),(3,(ii 8))] (sl Jt 54 [] ⟨[],[],[some [2,3]],[]⟩ ⟨[],[],[]⟩ (trs 3 []) (tt k2 (tt k1 (ww aG (tt k0 nn))))))) (fun k2=>(sl Jt 112 [(3,1,Zz ([]:List Int))] ⟨[6,1,7,2,3,4,5,8],[],j0q,j0s⟩ ⟨[],[.keep,.keep,.cells [.grow 7 1],.keep,.keep,.keep,.keep,.keep],[]⟩ (bl 4 11) (pp (fl ([]:List Int) nn) (tt k2 (tt k1 (ww aG (tt k0 nn))))))))) (fun k1=>(sl Jt 44 [] ⟨[],[],slmN0,slmM0⟩ ⟨[],[],[]⟩ (bl 2 1) (tt k1 (ww aG (tt k0 nn)))))))) (fun k0=>(sl Jt 81 [(3,1,Zz ([]:List Int))] ⟨[5,0,6,1,2,3,4,7],[],j0q,j0s⟩ ⟨[],[.keep,.keep,.cells [.grow 7 1],.keep,.keep,.keep,.keep,.keep],[]⟩ (bl 3 4) (pp (fl ([]:List Int) nn) (tt k0 nn)))))
 | .h1 v16 aA=>(lb (fun k0=>(lo fun o0=>(lo fun o1=>(sl Jt 34 [] ⟨[0,1,2,3,4,5,6,10],[],j0q,j0s⟩ ⟨[],[.keep,.keep,.cells [.len (y8m aA l0 v16).length],.keep,.keep,.keep,.keep,.rowed 1 (y8m aA l0 v16).length (Zz (y8m aA l0 v16))],[]⟩ [true] (pp (xL (aA.length+2) (y8m aA l0 v16).length) (pp (xL (aA.length+2) (y8m aA l0 v16).length) (pp (xS (aA.length+2) (Zi (Zz aA) 0 aA.length 1 [(ii (rd l0 (tn v16)).c),(ii (rd l0 (tn v16)).f)]) (Zz (y8m aA l0 v16))) (pp (pp (xF (Zi (Zz aA) 0 aA.length 1 [(ii (rd l0 (tn v16)).c),(ii (rd l0 (tn v16)).f)])) nn) (ww o1 (ww o0 (tt k0 nn))))))))))) (fun k0=>(lo fun o0=>(lo fun o1=>(sl Jt 46 [(67,6,Zz ([]:List R6))] ⟨[8,3,4,5,6,2,7,0,1,9],[],j0p,j0r⟩ ⟨[],(kpB 4 [.cells [.grow 9 6,.list 0 (Zz ([]:List R4)),.keep,.keep],.keep,.rowed 1 (y8p aA).length (Zz (y8p aA)),.keep,.keep,.keep]),[]⟩ (bl 2 0) (pp (xL aA.length (y8p aA).length (by first | exact z2l _ _ | exact Vu rfl)) (pp (xS aA.length (Zz (y8p aA)) (Zz (y8p aA))) (pp (fl (y8p aA) (fl ([]:List R6) nn)) (pp (pp (xG (Nat.beq 1 1)) (pp (xG (Nat.beq 1 1)) (pp (xG (Nat.beq 0 0)) (pp (xG (decide (aA.length=aA.length))) (pp (xG (isI (Zz (Xu (Yy aA.length (cOf (Zz aA))))))) (xG (decide (aA.length<4611686018427387904)))))))) (pp (pp (xG (Nat.beq 1 1)) (pp (xG (Nat.beq 1 1)) (pp (xG (Nat.beq 0 0)) (pp (xG (decide (aA.length=aA.length))) (pp (xG (isI (Zz aA))) (xG (decide (aA.length<4611686018427387904)))))))) (tt k0 nn)))))))))))
 | .h2 v4 aF aX bD bE aE aK=>(lb (fun k0=>(lo fun o0=>(lo fun o1=>(lo fun o2=>(lo fun o3=>(sl Jt 48 [(88,4,Zz ([]:List R4))] ⟨[0,1,2,3,4,5,6,7,8,10,11,12,9],[],v9p,v9r⟩ ⟨[],(kpB 10 [.cells [.grow 11 4],.keep,.keep]),[]⟩ (trs 3 []) (pp (fl aK (fl ([]:List R4) (fl aF nn))) (ww o3 (ww o2 (ww o1 (ww o0 (tt k0 nn)))))))))))) (fun k0=>(lb (fun k1=>(lr 15 3 [1,1,1,1,1,1,1,0] 1 15 [(2,.nils),(3,(ii 4))] (sl Jt 33 [] ⟨[],[],[some [2,3]],[]⟩ ⟨[],[],[]⟩ (bl 2 2) (tt k1 (tt k0 nn))))) (fun k1=>(lr 15 3 [1,1,1,1,1,1,1,0] 1 15 [(2,(.dat aF.length (Zz aF))),(3,(ii 0))] (sl Jt 36 [] ⟨[],[9],[some [2,3]],[]⟩ ⟨[(2,.frz aF.length aF.length (Zz aF) (Zz aF))],[],[]⟩ (bl 2 0) (pp (xZ (z6j 6 6 0 aF.length aF.length (Zz aF)) aF.length (Zz aF)) (pp (xL aF.length aF.length) (pp (xS aF.length (Zz aF) (Zz aF)) (pp (fl aF nn) (tt k1 (tt k0 nn))))))))))))
 | .h3 v4 v38 aF aX bD bE aE aK aW bG aB=>(lb (fun k0=>(lo fun aG=>(lb (fun k1=>(lb (fun k2=>(lo fun o0=>(sl Jt 41 [] ⟨[0,1,2,3,4,5,6,7,8,9,10,15,12],[],v9p,v9r⟩ ⟨[],(kpB 10 [.cells [.len (y8o aB l0 v38).length],.rowed 4 (y8o aB l0 v38).length (Zz (y8o aB l0 v38)),.keep]),[]⟩ (trs 8 []) (pp (xL (aB.length+1) (y8o aB l0 v38).length) (pp (xL (aB.length+1) (y8o aB l0 v38).length) (pp (xS (aB.length+1) (Zi (Zz aB) 0 aB.length 4 [(ii (rd l0 (tn v38)).a),(ii (rd l0 (tn v38)).b),(ii (rd l0 (tn v38)).d),(ii (rd l0 (tn v38)).e)]) (Zz (y8o aB l0 v38))) (pp (fl aK (pp (xF (Zi (Zz aB) 0 aB.length 4 [(ii (rd l0 (tn v38)).a),(ii (rd l0 (tn v38)).b),(ii (rd l0 (tn v38)).d),(ii (rd l0 (tn v38)).e)])) (fl aF nn))) (ww o0 (tt k2 (tt k1 (ww aG (tt k0 nn)))))))))))) (fun k2=>(sl Jt 41 [] ⟨(List.range 13),[],v9p,v9r⟩ ⟨[],[],[]⟩ (trs 7 [false]) (pp (fl aK (fl aB (fl aF nn))) (tt k2 (tt k1 (ww aG (tt k0 nn))))))))) (fun k1=>(sl Jt 41 [] ⟨(List.range 13),[],v9p,v9r⟩ ⟨[],[],[]⟩ (bl 8 1) (pp (fl aK (fl aB (fl aF nn))) (tt k1 (ww aG (tt k0 nn))))))))) (fun k0=>(Wo (sl Jt (C':=⟨⟨65,0,true⟩,(Jb prog 95 [1,1,0,1,0,1,0,0] 4),(Zd prog 95 [1,1,0,1,0,1,0,0] 1),(some 0),[],⟨Yb [(2,(.ptr 1 0)),(4,(.ptr 2 0)),(5,(.ptr 3 0)),(6,(.ptr 4 0)),(7,(.ptr 6 0)),(20,(.dat aB.length (Zz aB)))],y1l [(1,⟨[.nilf],117,none⟩),(2,⟨[.nils],38,none⟩),(3,⟨[(ii 0)],26,none⟩),(4,⟨[(.sla 5 6 0 aF.length (.un 6)),(.dat aX.length (Zz aX)),(ii bD),(ii bE)],168,none⟩),(5,⟨rows aF.length (Zz aF),67,some ⟨6,aF.length,(Zz aF)⟩⟩),(6,⟨[(ii aW),(ii bG),(.sl 7 0 1 (.ex 1))],173,none⟩),(7,⟨[(.dat aB.length (Zz aB))],99,none⟩),(8,⟨[(.sla 9 1 0 aE (.un 1))],93,none⟩),(9,⟨rows aK.length (Zz aK),3,some ⟨1,aK.length,(Zz aK)⟩⟩),(10,⟨[(.sl 11 0 1 (.un 1))],166,none⟩),(11,⟨[(.dat l0.length (Zz l0))],22,none⟩)],12,[],true⟩,[⟨⟨86,0,true⟩,(Jb prog 171 [1,0,0,1,0,0,1,1,0] 2),(Zd prog 171 [1,0,0,1,0,0,1,1,0] 1),none,[],Yb [(0,(.yld 0)),(1,(.ptr 8 0)),(2,(.ptr 10 0)),(4,(ii v4)),(82,(.yld 0)),(83,(.agg [(ii aW),(ii bG),(.sl 7 0 1 (.ex 1))]))]⟩,⟨⟨65,0,true⟩,none,(.inRangeFunc 0::(Zd prog 95 [1,1,0,1,0] 1)),none,(Zy prog 95),Yb [(4,(.ptr 2 0)),(5,(.ptr 3 0)),(6,(.ptr 4 0))]⟩,⟨⟨15,0,true⟩,(Jb prog 47 [1,1,1,0] 3),(Zd prog 47 [1,1,1,0] 1),none,(Zy prog 15),Yb [(9,(.agg [.nilf])),(11,(.sl 11 0 1 (.un 1)))]⟩],(y7v [(0,⟨.busy,none,65,Yb [(2,(.ptr 1 0)),(4,(.ptr 2 0)),(5,(.ptr 3 0)),(6,(.ptr 4 0))],[15],(Uz prog 95 [1,1,0,1,0,0]),(Uz prog 95 [1,1,0,1,0,1])⟩)])⟩) 37 [] ⟨[0,1,2,3,4,12,13,10,5,6,7,8],[11],[some [2,4,5,6,7,20],some [0,1,2,4,82,83],some [4,5,6],some [9,11]],[some [2,4,5,6],none,none,none,none,none,none,none,none,none,none,none]⟩ ⟨[(20,.frz aB.length aB.length (Zz aB) (Zz aB))],[.keep,.keep,.keep,.keep,.keep,.keep,.keep,.cells [.frz aB.length aB.length (Zz aB) (Zz aB)],.keep,.keep,.keep,.keep],[]⟩ (bl 2 0) (pp (xZ (z6j 4 4 0 aB.length aB.length (Zz aB)) aB.length (Zz aB)) (pp (xL aB.length aB.length) (pp (xS aB.length (Zz aB) (Zz aB)) (pp (xZ (z6j 4 4 0 aB.length aB.length (Zz aB)) aB.length (Zz aB)) (pp (xL aB.length aB.length) (pp (xS aB.length (Zz aB) (Zz aB)) (pp (fl aF (fl aK nn)) (pp (fl aB nn) (tt k0 nn)))))))))) (lo fun aG=>(lb (fun k1=>(lr 15 3 [1,1,1,1,1,1,1,0] 1 15 [(2,.nils),(3,(ii (Xw (cvT aB))))] (sl Jt 50 [] ⟨[],[],[some [2,3]],[]⟩ ⟨[],[],[]⟩ (bl 3 6) (tt k1 (pp (pp (xr aB) (xw aG)) nn))))) (fun k1=>(lb (fun k2=>(lb (fun k3=>(lo fun bX=>(lb (fun k4=>(sl Jt 75 [] ⟨[4,5,0,1,2,3,8,9,10,11,7],[],slmN5,slmM5⟩ ⟨[],[],[]⟩ (bl 15 32764) (pp (fl aF (fl aK nn)) (tt k4 (pp (pp (xr aX) (pp (xI R4 (Zc (cvT aB)).length (Zz (Zc (cvT aB)))) (xw bX))) (tt k3 (tt k2 (tt k1 (pp (pp (xr aB) (xw aG)) nn))))))))) (fun k4=>(sl Jt 95 [] ⟨[4,0,1,2,3,8,9,10,11,7,5],[],v9o,v9q⟩ ⟨[],[],[]⟩ (bl 15 16380) (pp (fl aK (fl aF nn)) (tt k4 (pp (pp (xr aX) (pp (xI R4 (Zc (cvT aB)).length (Zz (Zc (cvT aB)))) (xw bX))) (tt k3 (tt k2 (tt k1 (pp (pp (xr aB) (xw aG)) nn)))))))))))) (fun k3=>(sl Jt 95 [] ⟨[4,0,1,2,3,8,9,10,11,7,5],[],v9o,v9q⟩ ⟨[],[],[]⟩ (bl 15 252) (pp (fl aK (fl aF nn)) (tt k3 (tt k2 (tt k1 (pp (pp (xr aB) (xw aG)) nn))))))))) (fun k2=>(sl Jt 95 [] ⟨[4,0,1,2,3,8,9,10,11,7,5],[],v9o,v9q⟩ ⟨[],[],[]⟩ (bl 15 0) (pp (fl aK (fl aF nn)) (tt k2 (tt k1 (pp (pp (xr aB) (xw aG)) nn)))))))))))))
 | .h4 v1 v2 v72 v73 v74 bO aZ aD bH bJ aE aK aW=>(lb (fun k0=>(lo fun o0=>(lo fun o1=>(sl Jt 23 [] ⟨[0,1,2,3,4,5,6,7,8,9,13],[],v9o,v9q⟩ ⟨[],[.cells [.len (y8n aD v72 v74 v1 v2).length,.keep,.keep,.keep],.keep,.keep,.keep,.keep,.keep,.keep,.keep,.keep,.keep,.rowed 6 (y8n aD v72 v74 v1 v2).length (Zz (y8n aD v72 v74 v1 v2))],[]⟩ [true] (pp (xL (aD.length+1) (y8n aD v72 v74 v1 v2).length) (pp (xL (aD.length+1) (y8n aD v72 v74 v1 v2).length) (pp (xS (aD.length+1) (Zi (Zz aD) 0 aD.length 6 [(ii (rd v72 (tn v74)).a),(ii (rd v72 (tn v74)).b),(ii v1),(ii (rd v72 (tn v74)).c),(ii (rd v72 (tn v74)).d),(ii v2)]) (Zz (y8n aD v72 v74 v1 v2))) (pp (fl aK (pp (xF (Zi (Zz aD) 0 aD.length 6 [(ii (rd v72 (tn v74)).a),(ii (rd v72 (tn v74)).b),(ii v1),(ii (rd v72 (tn v74)).c),(ii (rd v72 (tn v74)).d),(ii v2)])) nn)) (ww o1 (ww o0 (tt k0 nn))))))))))) (fun k0=>(sl Jt 22 [] ⟨[1,2,3,4,0,5,6,7,8,10],[],j0p,j0r⟩ ⟨[],[],[]⟩ (bl 2 0) (pp (fl aK (fl aD nn)) (tt k0 nn)))))
 | .h5 v2 v8 cC bO aZ aD bH bJ cA bN bU aB=>(lb (fun k0=>(lo fun o0=>(lo fun o1=>(sl Jt 34 [] ⟨(List.range 11),[],slmN5,slmM5⟩ ⟨[],[.cells [.len (y8q aD v8 v2).length,.keep,.keep,.keep],.rowed 6 (y8q aD v8 v2).length (Zz (y8q aD v8 v2)),.keep,.keep,.keep,.keep,.keep,.keep,.keep,.keep,.keep],[]⟩ [true] (pp (xL aD.length (y8q aD v8 v2).length) (pp (xL aD.length (y8q aD v8 v2).length) (pp (xS aD.length (Xi (Zz aD) (0+(tn v8)) 5 [(ii v2)]) (Zz (y8q aD v8 v2))) (pp (pp (xF (Xi (Zz aD) (0+(tn v8)) 5 [(ii v2)])) (fl bU nn)) (ww o1 (ww o0 (tt k0 nn))))))))))) (fun k0=>(sl Jt 36 [] ⟨[2,3,4,5,0,6,7,8,9,1],[],j0p,j0r⟩ ⟨[],[],[]⟩ (bl 2 0) (pp (fl bU (fl aD nn)) (tt k0 nn)))))
theorem x7r (l0:List R6):Yr prog (Zy prog 47) (slmC l0) (Zb prog 47 [(.dat l0.length (Zz l0))] true []) (y2o l0):=(lb (fun k0=>(lr 15 47 [1,0,1,0,0] 1 15 [(2,.nils),(3,(ii 4))] (sl Jt 18 [] ⟨[],[],[some [2,3]],[]⟩ ⟨[],[],[]⟩ [true] (tt k0 nn)))) (fun k0=>(sl Jt 41 [] ⟨[],[],slmN0,slmM0⟩ ⟨[],[],[]⟩ [false] (tt k0 nn))))
theorem v9n (l0:List R6) (n:Nat) (vs:List AVal) (h:Yz (Xj l0) n (y2o l0)=.ret vs):Ji prog (Zy prog 47) (Zb prog 47 [(.dat l0.length (Zz l0))] true []) vs:=by have:=Ze (w7q l0) n _ (x7r l0);rwa [h] at this
def x2r (x y z:Int):Bool:=decide (Jm (Jm x y) z≥(-1000000))&&decide (Jg (Jg x y) z≤1000000)
theorem j4h (x y z:Int): ∃N,Yz (w1b x y z) N (y3w x y z)=.ret [.bool (x2r x y z)]:=⟨0,by
 unfold y3w x2r;cases decide (Jm (Jm x y) z≥(-1000000)) <;> rfl⟩
instance : DecidableEq R7:=Classical.typeDecidableEq _
def y8y (l m:List R7):Bool:=decide (l=m)
def z2x (l m:List R7):Bool:=decide (l.length≤1000000)
def eq7 (r s:R7):Bool:=(r.a == s.a)&&(((r.b == s.b)&&((r.c == s.c)&&((r.d == s.d)&&true)))&&(((r.e == s.e)&&((r.f == s.f)&&((r.g == s.g)&&true)))&&true))
theorem v7m (r s:R7):eq7 r s=true↔r=s:=by obtain ⟨a,b,c,d,e,f,g⟩:=r;obtain ⟨a',b',c',d',e',f',g'⟩:=s;simp [eq7,and_assoc]
theorem u9f (l m:List R7) (hl:l.length≤1000000) (hm:l.length=m.length): ∀(k i:Nat),i+k=l.length→ ∃N,Yz (z7c l m) N (.to (.h0 (i:Int)))=.ret [.bool (decide (l.drop i=m.drop i))]
 | 0,i,h=>by refine ⟨1,?_⟩;rw [Zv,Av (by omega),Av (by omega)];simp (disch:=omega) only [z7c,Yx,Aa,Za,Aw]
 | k+1,i,h=>by
  have hi:i<l.length:=by omega
  obtain ⟨N,hN⟩:=u9f l m hl hm k (i+1) (by omega);refine ⟨N+1,?_⟩;rw [Zv,Yq hi,Yq (show i<m.length by omega)];have e:z7c l m (.h0 (i:Int))=bif !(eq7 (rd l i) (rd m i)) then .ret [.bool false] else .to (.h0 ((i+1:Nat):Int)):=by simp (disch:=omega) only [z7c,eq7,Zs,Zt,Zq,Zx,Zj,Ai,Ab,Aa]
  rw [e];by_cases q:rd l i=rd m i
  ·rw [(v7m _ _).2 q,AC,Aa,hN]
   congr 3
   exact BG.2 ⟨fun h=>by rw [q,h],fun h=>(List.cons.inj h).2⟩
  ·rw [show eq7 (rd l i) (rd m i)=false from Bc.2 fun h=>q ((v7m _ _).1 h),AH,Ab,Za]
   congr 3
   exact (Ay fun h=>q (List.cons.inj h).1).symm
theorem j6e (l m:List R7) (h:z2x l m=true): ∃N,Yz (z7c l m) N (y4b l m)=.ret [.bool (y8y l m)]:=by
 have hl:l.length≤1000000:=AF h;unfold y4b;by_cases hm:l.length=m.length
 ·obtain ⟨N,hN⟩:=u9f l m hl hm l.length 0 (Ag _);refine ⟨N,?_⟩;rw [show ((l.length:Int) != (m.length:Int))=false by rw [hm];simp,Aa];exact hN
 ·refine ⟨0,?_⟩;rw [show ((l.length:Int) != (m.length:Int))=true by simp;omega,Ab,Za]
  congr 3
  exact (Ay fun e=>hm (by rw [e])).symm
def slmX :List AVal:=[.nils,.int .i64 8]
def eF (l:List R6):Nat→Nat→Int
 | 0,_=>0
 | k+1,i=>bif w6p l (rd (D6.cuts l) i) then Xw (D6.inn l (rd (D6.cuts l) i)) else eF l k (i+1)
def slmE (l:List R6) (k i:Nat):List AVal:=[.nils,.int .i64 (eF l k i)]
section
variable (l:List R6) (hl:l.length≤400)
include hl
theorem u5k (i:Nat) (out:List R6) (last:List R4) (first fin x x':Int): ∀(k j:Nat) (acc:List R4),j+k=l.length→acc.length≤j→
  ∃n,∀N,Yz (Xj l) (N+n) (.to (.h3 (i:Int) (j:Int) out last first fin ((D6.cuts l).length) (Wr (Xu (D6.ends l))) x x' acc))=Yz (Xj l) N (.to (.h3 (i:Int) (l.length:Int) out last first fin ((D6.cuts l).length) (Wr (Xu (D6.ends l))) x x' (acc++D6.inn (l.drop j) x)))
 | 0,j,acc,h,ha=>by refine ⟨0,fun N=> ?_⟩;rw [Av (by omega),show D6.inn ([]:List R6) x=[] from rfl,AB,A6,show j=l.length by omega]
 | k+1,j,acc,h,ha=>by
  have hj:j<l.length:=by omega
  obtain ⟨n,hn⟩:=u5k i out last first fin x x' k (j+1) (acc++D6.inn [rd l j] x) (by omega) (by have:=D6.inn_length [rd l j] x;simp only [Az,Bt] at*;omega)
  refine ⟨n+1,fun N=> ?_⟩;have e:D6.inn (l.drop j) x=D6.inn [rd l j] x++D6.inn (l.drop (j+1)) x:=by rw [Yq hj,←D6.inn_append];rfl
  rw [e,←AE,Zv,←AM,←hn N];by_cases h1:D6.lo (rd l j)≤x
  ·by_cases h2:x<D6.hi (rd l j)
   ·rw [D6.inn_t _ _ h1 h2];simp only [D6] at h1 h2 ⊢;simp (disch:=omega) only [Xj,Wy,Zm,Zk,Zs,Zt,Yd,Yj,Ym,Zh,Zq,Zx,Ya,Zj,Ag,Aw,Ai,An,Ab,Aa]
   ·rw [D6.inn_f2 _ _ h2,AB];simp only [D6] at h1 h2;simp (disch:=omega) only [Xj,Wy,Yx,Zm,Zk,Zs,Zt,Yd,Yj,Ym,Zh,Zq,Zx,Ya,Zj,Ag,Aw,Ai,An,Ab,Aa]
  ·rw [D6.inn_f1 _ _ h1,AB];simp only [D6] at h1;simp (disch:=omega) only [Xj,w1s,Zm,Zk,Zs,Zt,Yd,Yj,Ym,Zh,Zq,Zx,Ya,Zj,Ag,Aw,Ai,An,Ab,Aa]
theorem u5j (i:Nat) (hi:i≤1000) (x x':Int) (s last:List R4) (first:Int) (inn:List R4) (hs:s.length≤1000): ∀(k j:Nat) (out:List R6),j+k=s.length→out.length≤10000000+j→
  ∃n,∀N,Yz (Xj l) (N+n) (.to (.h4 x x' s (s.length:Int) (j:Int) s (i:Int) out last first ((D6.cuts l).length) (Wr (Xu (D6.ends l))) inn))=Yz (Xj l) N (.to (.h2 ((i+1:Nat):Int) (out++(s.drop j).map (D6.put x x')) last first x' ((D6.cuts l).length) (Wr (Xu (D6.ends l)))))
 | 0,j,out,h,ho=>by have _u:=hl;refine ⟨1,fun N=> ?_⟩;rw [Av (by omega),Zv];simp (disch:=omega) only [Xj,Yx,Zq,Zx,Aa,Ba,AB]
 | k+1,j,out,h,ho=>by
  obtain ⟨n,hn⟩:=u5j i hi x x' s last first inn hs k (j+1) (out++[D6.put x x' (rd s j)]) (by omega) (by simp;omega)
  refine ⟨n+1,fun N=> ?_⟩;have:=hn N;rw [Yq (show j<s.length by omega),AW,←AE,Zv];simp (disch:=omega) only [Xj,Zm,Zk,Zs,Zt,Yd,Yj,Ym,Zh,Zq,Zx,Ya,Zj,Ag,Aw,Ai,An,Ab,Aa];rw [AM] at this;exact this
theorem u5i (i:Nat) (hi:i≤1000) (x x' fin:Int) (s last:List R4) (first:Int) (inn:List R4): ∀(k j:Nat) (out:List R6),j+k=out.length→out.length≤10000000→
  ∃n,∀N,Yz (Xj l) (N+n) (.to (.h5 x' (j:Int) x s (i:Int) out last first fin ((D6.cuts l).length) (Wr (Xu (D6.ends l))) inn))=Yz (Xj l) N (.to (.h2 ((i+1:Nat):Int) (D6.grow out j x') last first x' ((D6.cuts l).length) (Wr (Xu (D6.ends l)))))
 | 0,j,out,h,ho=>by have _u:=hl;refine ⟨1,fun N=> ?_⟩;rw [D6.grow_nil _ _ _ (by omega),Zv];simp (disch:=omega) only [Xj,Yx,Zq,Zx,Aa]
 | k+1,j,out,h,ho=>by
  obtain ⟨n,hn⟩:=u5i i hi x x' fin s last first inn k (j+1) (out.set j (D6.ext x' (rd out j))) (by simp;omega) (by simpa using ho)
  refine ⟨n+1,fun N=> ?_⟩;have:=hn N;rw [D6.grow_set out j _ (by omega)] at this;rw [←AE,Zv];simp (disch:=omega) only [Xj,Zm,Zk,Zs,Zt,Yd,Yj,Ym,Zh,Zq,Zx,Ya,Zj,Ag,Aw,Ai,An,Ab,Aa];exact this
theorem v2s : ∀(k i:Nat) (s:Sw R6 R4),k=(D6.cuts l).length - 1 - i→i≤(D6.cuts l).length →s.out.length≤i*1000→s.last.length≤1000→s.first≤s.out.length→
  ∃n,Yz (Xj l) n (.to (.h2 ((i+1:Nat):Int) s.out s.last (s.first:Int) s.fin ((D6.cuts l).length) (Wr (Xu (D6.ends l)))))=.ret ((bif okF l k i then Qd (D6.go l k i s).out else slmE l k i))
 | 0,i,s,h,hi,ho,hla,hf=>by
  have hc:=D6.cuts_length l;refine ⟨1,?_⟩;rw [Zv,show D6.go l 0 i s=s from rfl,show okF l 0 i=true from rfl,Ab];unfold Qd;by_cases q:(s.out.length:Int)>400
  ·simp (disch:=omega) only [Xj,Yx,Yn,Ab,Aa,Za]
  ·simp (disch:=omega) only [Xj,Zm,Yx,Xa,Ab,Aa,Za]
 | k +1,i,s,h,hi,ho,hla,hf=>by
  have hc:=D6.cuts_length l;have hi1:i+1<(D6.cuts l).length :=by omega
  have hpl:(Wr (Xu (D6.ends l))).length =2*l.length:=by rw [Jw,Xo,D6.ends_length]
  have r0:rd (Wr (Xu (D6.ends l))) i=rd (D6.cuts l) i:=z4v _ _ (by show i<(D6.cuts l).length;omega);have r1:rd (Wr (Xu (D6.ends l))) (i+1)=rd (D6.cuts l) (i+1):=z4v _ _ (by show i+1<(D6.cuts l).length;omega);have hbig:i*1000≤1000*1000:=AK _ (by omega);have hsl:=u9v l (rd (D6.cuts l) i);have hsd:D6.sec l (rd (D6.cuts l) i)=Zc (D6.inn l (rd (D6.cuts l) i)):=rfl;obtain ⟨n3,h3⟩:=u5k l hl (i+1) s.out s.last (s.first:Int) s.fin (rd (D6.cuts l) i) (rd (D6.cuts l) (i+1)) l.length 0 [] (Ag _) (Aq _);simp only [A0,Br,z3r] at h3;have w1:Jz (D6.inn l (rd (D6.cuts l) i))=true:=rfl;have w2:Wd s.last (Zc (D6.inn l (rd (D6.cuts l) i)))=true:=Ah (by omega);have ol:=D6.one_length l (rd (D6.cuts l) i) (rd (D6.cuts l) (i+1)) s;have st0: ∀N,Yz (Xj l) (N+n3+1) (.to (.h2 ((i+1:Nat):Int) s.out s.last (s.first:Int) s.fin ((D6.cuts l).length) (Wr (Xu (D6.ends l)))))=Yz (Xj l) N (.to (.h3 ((i+1:Nat):Int) (l.length:Int) s.out s.last (s.first:Int) s.fin ((D6.cuts l).length) (Wr (Xu (D6.ends l))) (rd (D6.cuts l) i) (rd (D6.cuts l) (i+1)) (D6.inn l (rd (D6.cuts l) i)))):=fun N=>by
   rw [←h3 N,Zv];have e1:wrap .i64 (((i+1:Nat):Int) - 1)=(i:Int):=by rw [Zr];exact Zq (by omega)
   simp (disch:=omega) only [Xj,e1,r0,r1,Zm,Zk,Zs,Zt,Yd,Yj,Ym,Zh,Zq,Zx,Ya,Zj,Ag,Aw,Ai,An,Ab,Aa]
  rcases Yp (w6p l (rd (D6.cuts l) i)) with q0 | q0
  ·refine ⟨1+n3+1,?_⟩;rw [st0 1,Zv];simp only [okF,slmE,eF,q0,Ab,Aa];have q0':(Xw (D6.inn l (rd (D6.cuts l) i)) != 0)=true:=q0;simp (disch:=omega) only [Xj,Zm,Zk,Yx,q0',w1,Ab,Aa,Za]
  have q0':(Xw (D6.inn l (rd (D6.cuts l) i)) != 0)=false:=q0;rcases Yp (decide (0<(D6.sec l (rd (D6.cuts l) i)).length)&&((s.fin == rd (D6.cuts l) i)&&D6.same s.last (D6.sec l (rd (D6.cuts l) i)))) with q | q
  ·obtain ⟨n5,h5⟩:=u5i l hl (i+1) (by omega) (rd (D6.cuts l) i) (rd (D6.cuts l) (i+1)) s.fin (D6.sec l (rd (D6.cuts l) i)) s.last (s.first:Int) (D6.inn l (rd (D6.cuts l) i)) (s.out.length - s.first) s.first s.out (by omega) (by omega)
   have e:D6.one l (rd (D6.cuts l) i) (rd (D6.cuts l) (i+1)) s=⟨D6.grow s.out s.first (rd (D6.cuts l) (i+1)),s.last,s.first,rd (D6.cuts l) (i+1)⟩:=by unfold Dim.one;rw [q];rfl
   obtain ⟨n0,h0⟩:=v2s k (i+1) (D6.one l (rd (D6.cuts l) i) (rd (D6.cuts l) (i+1)) s) (by omega) (by omega) (by omega) (by rw [e];exact hla) (by rw [e];simpa [Dim.grow_length] using hf);refine ⟨n0+n5+1+n3+1,?_⟩;rw [st0 (n0+n5+1),Zv];simp only [Ac,Al] at q;obtain ⟨q1,q2,q3⟩:=q;have q3':Ja s.last (Zc (D6.inn l (rd (D6.cuts l) i)))=true:=q3;rw [hsd] at q1;simp (disch:=omega) only [Xj,Zm,Zk,Yx,Yn,q0',q2,q3',w1,w2,Ab,Aa];rw [←hsd,h5 n0];simp only [okF,slmE,eF,q0,Aa];simp only [Dim.go];rw [e] at h0 ⊢;exact h0
  ·obtain ⟨n4,h4⟩:=u5j l hl (i+1) (by omega) (rd (D6.cuts l) i) (rd (D6.cuts l) (i+1)) (D6.sec l (rd (D6.cuts l) i)) (D6.sec l (rd (D6.cuts l) i)) (s.out.length:Int) (D6.inn l (rd (D6.cuts l) i)) hsl (D6.sec l (rd (D6.cuts l) i)).length 0 s.out (Ag _) (by omega);simp only [A0,z3r] at h4;have e:D6.one l (rd (D6.cuts l) i) (rd (D6.cuts l) (i+1)) s=⟨s.out++(D6.sec l (rd (D6.cuts l) i)).map (D6.put (rd (D6.cuts l) i) (rd (D6.cuts l) (i+1))),D6.sec l (rd (D6.cuts l) i),s.out.length,rd (D6.cuts l) (i+1)⟩:=by unfold Dim.one;rw [q];rfl
   obtain ⟨n0,h0⟩:=v2s k (i+1) (D6.one l (rd (D6.cuts l) i) (rd (D6.cuts l) (i+1)) s) (by omega) (by omega) (by omega) (by rw [e];exact hsl) (by rw [e];simp);have hg:Yz (Xj l) 1 (.to (.h3 ((i+1:Nat):Int) (l.length:Int) s.out s.last (s.first:Int) s.fin ((D6.cuts l).length) (Wr (Xu (D6.ends l))) (rd (D6.cuts l) i) (rd (D6.cuts l) (i+1)) (D6.inn l (rd (D6.cuts l) i))))=.to (.h4 (rd (D6.cuts l) i) (rd (D6.cuts l) (i+1)) (D6.sec l (rd (D6.cuts l) i)) ((D6.sec l (rd (D6.cuts l) i)).length :Int) 0 (D6.sec l (rd (D6.cuts l) i)) ((i+1:Nat):Int) s.out (D6.sec l (rd (D6.cuts l) i)) (s.out.length:Int) ((D6.cuts l).length) (Wr (Xu (D6.ends l))) (D6.inn l (rd (D6.cuts l) i))):=by
    rw [show (1:Nat)=0+1 from rfl,Zv];rw [hsd] at q ⊢;have e3:D6.same s.last (Zc (D6.inn l (rd (D6.cuts l) i)))=Ja s.last (Zc (D6.inn l (rd (D6.cuts l) i))):=rfl;rw [e3] at q;by_cases q1:0<(Zc (D6.inn l (rd (D6.cuts l) i))).length
    ·rw [Ah q1,An] at q;rcases Yp (s.fin == rd (D6.cuts l) i) with q2 | q2
     ·rw [q2,An] at q;simp (disch:=omega) only [Xj,Zm,Zk,Yx,Yn,q0',q2,q,w1,w2,Ab,Aa];rfl
     ·simp (disch:=omega) only [Xj,Zm,Zk,Yx,Yn,q0',q2,w1,w2,Ab,Aa];rfl
    ·simp (disch:=omega) only [Xj,Zm,Zk,Yx,Xa,q0',w1,w2,Ab,Aa];rfl
   refine ⟨n0+n4+1+n3+1,?_⟩;rw [st0 (n0+n4+1),z8m _ (n0+n4) 1,hg,h4 n0];simp only [okF,slmE,eF,q0,Aa];simp only [Dim.go];rw [e] at h0 ⊢;exact h0
theorem u5l : ∀(k i:Nat) (acc:List Int),i+k=l.length→acc=D6.ends (l.take i)→ ∃n,Yz (Xj l) n (.to (.h1 (i:Int) acc))=.ret ((bif okF l ((D6.cuts l).length - 1) 0 then Qd (D6.go l ((D6.cuts l).length - 1) 0 ⟨[],[],0,0⟩).out else slmE l ((D6.cuts l).length - 1) 0))
 | 0,i,acc,h,ha=>by
  have e:acc=D6.ends l:=by rw [ha,AU (by omega)]
  subst e;have hle:=D6.ends_length l;obtain ⟨n,hn⟩:=v2s l hl ((D6.cuts l).length - 1) 0 ⟨[],[],0,0⟩ (by omega) (AJ _) (AJ _) (AJ _) (AJ _);refine ⟨n+1,?_⟩;rw [Zv];simp (disch:=omega) only [Xj,Wv,z0j,y0o,Yx,Yj,Ym,Aw,Ab,Aa];exact hn
 | k+1,i,acc,h,ha=>by
  have hle:=D6.ends_length (l.take i);have fM:acc.length≤2*i:=by rw [ha,hle];simp;omega
  obtain ⟨n,hn⟩:=u5l k (i+1) (acc++D6.ends [rd l i]) (by omega) (by
   rw [ha,Bg];have:l[i]? =some (rd l i):=by rw [Xz (show i<l.length by omega)];exact As _
   rw [this,D6.ends_append];rfl)
  refine ⟨n+1,?_⟩;rw [Zv];simp (disch:=omega) only [Xj,Zm,Zk,Zs,Zt,Yd,Yj,Ym,Zh,Zq,Zx,Ya,Zj,Ag,Aw,Ai,An,Ab,Aa];exact hn
theorem u5m : ∀(k i:Nat),i+k=l.length→(∀s∈l.take i,Jf s=true)→ ∃n,Yz (Xj l) n (.to (.h0 (i:Int)))=.ret (bif l.all Jf then (bif okF l ((D6.cuts l).length - 1) 0 then Qd (D6.go l ((D6.cuts l).length - 1) 0 ⟨[],[],0,0⟩).out else slmE l ((D6.cuts l).length - 1) 0) else slmX)
 | 0,i,h,ht=>by have hv:l.all Jf=true:=At.2 fun s hs=>ht s (by rw [AU (by omega)];exact hs);obtain ⟨n,hn⟩:=u5l l hl l.length 0 [] (Ag _) rfl;refine ⟨n+1,?_⟩;rw [Zv,hv,Ab];simp (disch:=omega) only [Xj,Yx,Aa];exact hn
 | k+1,i,h,ht=>by
  have hi:i<l.length:=by omega
  have hs:Xj l (.h0 (i:Int))=bif Jf (rd l i) then .to (.h0 ((i+1:Nat):Int)) else .ret slmX:=by have e:u9y (rd l i).a (rd l i).b (rd l i).c (rd l i).d (rd l i).e (rd l i).f =Jf (rd l i):=rfl;simp (disch:=omega) only [Xj,e,z7i,x6b,x6c,Zt,Zq,Zx,Zj,Ai,Ab,Aa];rfl
  rcases Yp (Jf (rd l i)) with q | q
  ·obtain ⟨n,hn⟩:=u5m k (i+1) (by omega) (fun s hs=>by
    rw [Bg] at hs;have e:l[i]? =some (rd l i):=by rw [Xz hi];exact As _
    rw [e] at hs;simp only [Ck,AD,AN] at hs;rcases hs with hs | rfl
    ·exact ht s hs
    ·exact q)
   refine ⟨n+1,?_⟩;rw [Zv,hs,q,Ab];exact hn
  ·have hv:l.all Jf=false:=Bc.2 fun e=>by have:=At.1 e (rd l i) (by rw [Xz hi];exact AS hi);rw [this] at q;cases q
   refine ⟨1,?_⟩;rw [Zv,hv,Aa,hs,q,Aa,Za]
end
theorem u3y {l:List R6}: ∀(k i:Nat),okF l k i=false→(eF l k i != 0)=true
 | 0,i,h=>by cases h
 | k+1,i,h=>by
  unfold okF at h;unfold eF;rcases Yp (w6p l (rd (D6.cuts l) i)) with q | q
  ·rw [q,Ab];exact q
  ·rw [q,Aa] at h ⊢;exact u3y k (i+1) h
def Vd (l:List R6):Int:=bif decide (400<l.length) then 4 else bif l.all Jf then (bif okF l ((D6.cuts l).length - 1) 0 then y6q (D6.out l).length else eF l ((D6.cuts l).length - 1) 0) else 8
def Xk (l:List R6):List R6:=x2u (Vd l) (D6.out l)
def z1w (l:List R6):Bool:=true
theorem j0o (l:List R6) (h:z1w l=true): ∃n,Yz (Xj l) n (y2o l)=.ret (y4z (Vd l) (D6.out l)):=by
 unfold y2o Vd;by_cases h:400<l.length
 ·refine ⟨0,?_⟩;rw [Ah h,Yn (show (l.length:Int)>400 by omega)];rfl
 ·obtain ⟨n,hn⟩:=u5m l (by omega) l.length 0 (Ag _) (fun s hs=>by simp at hs);refine ⟨n,?_⟩;rw [Ay h,Xa (show¬(l.length:Int)>400 by omega),Aa,Aa];rw [z3r] at hn;rw [hn];rcases Yp (l.all Jf) with q | q
  ·rw [q,Ab,Ab];rcases Yp (okF l ((D6.cuts l).length - 1) 0) with q2 | q2
   ·rw [q2,Ab,Ab,z9b];rfl
   ·rw [q2,Aa,Aa,z3b _ (u3y _ _ q2)];rfl
  ·rw [q];rfl
def fSlm :List AVal→Option (AVal×Bool)
 | [a0]=>match asL R6 a0 with
  | some (L0,g0,n0)=>some (.tup [.dat (Xk L0).length (Zz (Xk L0)),.int .i64 (Vd L0)],isT R6 n0 g0&&(z1w L0))
  | _=>none
 | _=>none
theorem j4v {S:Specs} (hS:Zu prog S):Zu prog (S.with v5g fSlm):=by
 refine v1m hS (by kernel_rfl) fun args v h=> ?_;unfold fSlm at h;split at h
 ·rename_i a0;split at h
  ·rename_i L0 g0 n0 e0;simp only [Ae,Ad,Ac] at h;obtain ⟨rfl,ho0,hw⟩:=h;obtain ⟨N,hN⟩:=j0o L0 hw;exact ⟨_,_,(.cons (asL_le e0 ho0) .nil),z5p _ _,v9n L0 N _ hN,3,z9s _ _⟩
  ·cases h
 ·cases h
def fFin :List AVal→Option (AVal×Bool)
 | [.agg [.int .i64 aL,.int .i64 aN,.int .i64 aM]]=>some (.bool (x2r aL aN aM),true)
 | _=>none
theorem j5u {S:Specs} (hS:Zu prog S):Zu prog (S.with u7v fFin):=by
 refine z0v hS (by kernel_rfl) fun args v h=> ?_;unfold fFin at h;split at h
 ·rename_i aL aN aM;simp only [Ae,Ad,BV] at h;subst h;obtain ⟨N,hN⟩:=j4h aL aN aM;exact ⟨_,_,(.cons (.refl _) .nil),rfl,u3j aL aN aM N _ hN,3,rfl⟩
 ·cases h
def fEqq :List AVal→Option (AVal×Bool)
 | [a0,a1]=>match asL R7 a0,asL R7 a1 with
  | some (L0,g0,n0),some (L1,g1,n1)=>some (.bool (y8y L0 L1),isT R7 n0 g0&&(isT R7 n1 g1&&(z2x L0 L1)))
  | _,_=>none
 | _=>none
theorem j6a {S:Specs} (hS:Zu prog S):Zu prog (S.with nEq7 fEqq):=by
 refine z0v hS (by kernel_rfl) fun args v h=> ?_;unfold fEqq at h;split at h
 ·rename_i a0 a1;split at h
  ·rename_i L0 g0 n0 L1 g1 n1 e0 e1;simp only [Ae,Ad,Ac] at h;obtain ⟨rfl,ho0,ho1,hw⟩:=h;obtain ⟨N,hN⟩:=j6e L0 L1 hw;exact ⟨_,_,(.cons (asL_le e0 ho0) (.cons (asL_le e1 ho1) .nil)),rfl,u3t L0 L1 N _ hN,3,rfl⟩
  ·cases h
 ·cases h
def Mg :Specs:=(((Me.with u7v fFin).with nEq7 fEqq).with v5g fSlm)
theorem z3x :Zu prog Mg:=(j4v (j6a (j5u Jt)))
-- h0: index into an array (choices [true, false, false, false, false, false, false])
inductive mckS where
 | h0 (v14:Int)
def mckC (l0:List R7):mckS→Cfg
 | .h0 v14=>⟨⟨70,0,true⟩,none,(Zd prog 24 [1,1,1,0,1,0,0] 0),none,(Zy prog 3),⟨Yb [(3,(.ptr 0 0)),(12,(.dat l0.length (Zz l0))),(13,(ii (l0.length:Int))),(14,(ii v14))],Vb [⟨[(.fn 105 []),(.fn 106 []),(.fn 107 []),(.fn 108 []),(.fn 109 []),(.fn 110 []),(.fn 111 []),(.fn 112 []),(.fn 113 [])],85,none⟩] 0,1,[],true⟩,[],.leaf⟩
def u2h :List (Option (List Nat)):=[some [3,12,13,14]]
def u2i :List (Option (List Nat)):=[]
def z6y (l0:List R7):mckS→Xp mckS
 | .h0 v14=>(bif (decide (v14<(l0.length:Int))) then (bif ((decide (0≤v14∧v14<(l0.length:Int)))&&true) then (bif (decide ((rd l0 v14.toNat).a >5)) then (.ret [(.int .i64 8)]) else (bif (!(x2r (rd l0 v14.toNat).b (rd l0 v14.toNat).c (rd l0 v14.toNat).d)) then (.ret [(.int .i64 8)]) else (bif (!(x2r (rd l0 v14.toNat).e (rd l0 v14.toNat).f (rd l0 v14.toNat).g)) then (.ret [(.int .i64 8)]) else (bif (decide ((wrap IntKind.u8 (Int.tdiv (rd l0 v14.toNat).a 2))=Int.ofNat 0)) then (bif ((rd l0 v14.toNat).b != (rd l0 v14.toNat).e) then (.ret [(.int .i64 8)]) else (bif (decide ((rd l0 v14.toNat).c ≥(rd l0 v14.toNat).f)) then (.ret [(.int .i64 8)]) else (bif (decide ((rd l0 v14.toNat).d ≥(rd l0 v14.toNat).g)) then (.ret [(.int .i64 8)]) else (.to (.h0 (wrap .i64 (v14+1))))))) else (bif (decide ((wrap IntKind.u8 (Int.tdiv (rd l0 v14.toNat).a 2))=Int.ofNat 1)) then (bif ((rd l0 v14.toNat).c != (rd l0 v14.toNat).f) then (.ret [(.int .i64 8)]) else (bif (decide ((rd l0 v14.toNat).b ≥(rd l0 v14.toNat).e)) then (.ret [(.int .i64 8)]) else (bif (decide ((rd l0 v14.toNat).d ≥(rd l0 v14.toNat).g)) then (.ret [(.int .i64 8)]) else (.to (.h0 (wrap .i64 (v14+1))))))) else (bif (decide ((wrap IntKind.u8 (Int.tdiv (rd l0 v14.toNat).a 2))=Int.ofNat 2)) then (bif ((rd l0 v14.toNat).d != (rd l0 v14.toNat).g) then (.ret [(.int .i64 8)]) else (bif (decide ((rd l0 v14.toNat).b ≥(rd l0 v14.toNat).e)) then (.ret [(.int .i64 8)]) else (bif (decide ((rd l0 v14.toNat).c ≥(rd l0 v14.toNat).f)) then (.ret [(.int .i64 8)]) else (.to (.h0 (wrap .i64 (v14+1))))))) else .stuck)))))) else .stuck) else (.ret [(.int .i64 0)]))
def y3l (l0:List R7):Xp mckS:=(bif (decide ((l0.length:Int)>3000)) then (.ret [(.int .i64 4)]) else (.to (.h0 0)))
theorem w9d (l0:List R7): ∀s,Yr prog (Zy prog 24) (mckC l0) (mckC l0 s) (z6y l0 s)
 | .h0 v14=>(lb (fun k0=>(lo fun aG=>(lb (fun k1=>(lr 70 24 [1,1,1,0,1,0,0,1,1,0,0,1,0,1,0,0] 1 3 [(2,(ii 8))] (sl z3x 40 [] ⟨[],[],[some [2]],[]⟩ ⟨[],[],[]⟩ (trs 10 []) (tt k1 (ww aG (tt k0 nn)))))) (fun k1=>(lb (fun k2=>(lr 70 24 [1,1,1,0,1,0,0,1,1,0,0,1,0,1,0,0] 1 3 [(2,(ii 8))] (sl z3x 40 [] ⟨[],[],[some [2]],[]⟩ ⟨[],[],[]⟩ (bl 10 993) (tt k2 (tt k1 (ww aG (tt k0 nn))))))) (fun k2=>(lb (fun k3=>(lr 70 24 [1,1,1,0,1,0,0,1,1,0,0,1,0,1,0,0] 1 3 [(2,(ii 8))] (sl z3x 40 [] ⟨[],[],[some [2]],[]⟩ ⟨[],[],[]⟩ (bl 10 513) (tt k3 (tt k2 (tt k1 (ww aG (tt k0 nn)))))))) (fun k3=>(lb (fun k4=>(lb (fun k5=>(lr 70 24 [1,1,1,0,1,0,0,1,1,0,0,1,1,1,1,1,0,0] 1 3 [(2,(ii 8))] (sl z3x 124 [] ⟨[],[],[some [2]],[]⟩ ⟨[],[],[]⟩ (bl 22 4192257) (tt k5 (ww k4 (tt k3 (tt k2 (tt k1 (ww aG (tt k0 nn)))))))))) (fun k5=>(lb (fun k6=>(lr 70 24 [1,1,1,0,1,0,0,1,1,0,0,1,1,1,1,1,0,0] 1 3 [(2,(ii 8))] (sl z3x 124 [] ⟨[],[],[some [2]],[]⟩ ⟨[],[],[]⟩ (bl 22 4128769) (tt k6 (tt k5 (ww k4 (tt k3 (tt k2 (tt k1 (ww aG (tt k0 nn))))))))))) (fun k6=>(lb (fun k7=>(lr 70 24 [1,1,1,0,1,0,0,1,1,0,0,1,1,1,1,1,0,0] 1 3 [(2,(ii 8))] (sl z3x 124 [] ⟨[],[],[some [2]],[]⟩ ⟨[],[],[]⟩ (bl 22 2097153) (tt k7 (tt k6 (tt k5 (ww k4 (tt k3 (tt k2 (tt k1 (ww aG (tt k0 nn)))))))))))) (fun k7=>(sl z3x 127 [] ⟨[0],[],u2h,u2i⟩ ⟨[],[],[]⟩ (bl 22 1) (tt k7 (tt k6 (tt k5 (ww k4 (tt k3 (tt k2 (tt k1 (ww aG (tt k0 nn))))))))))))))))) (fun k4=>(lb (fun k5=>(lb (fun k6=>(lr 70 24 [1,1,1,0,1,0,0,1,1,0,0,1,1,1,1,1,0,0] 1 3 [(2,(ii 8))] (sl z3x 124 [] ⟨[],[],[some [2]],[]⟩ ⟨[],[],[]⟩ (bl 23 8385537) (tt k6 (ww k5 (tt k3 (tt k2 (tt k1 (ww aG (tt k0 nn)))))))))) (fun k6=>(lb (fun k7=>(lr 70 24 [1,1,1,0,1,0,0,1,1,0,0,1,1,1,1,1,0,0] 1 3 [(2,(ii 8))] (sl z3x 124 [] ⟨[],[],[some [2]],[]⟩ ⟨[],[],[]⟩ (bl 23 8258561) (tt k7 (tt k6 (ww k5 (tt k3 (tt k2 (tt k1 (ww aG (tt k0 nn))))))))))) (fun k7=>(lb (fun k8=>(lr 70 24 [1,1,1,0,1,0,0,1,1,0,0,1,1,1,1,1,0,0] 1 3 [(2,(ii 8))] (sl z3x 124 [] ⟨[],[],[some [2]],[]⟩ ⟨[],[],[]⟩ (bl 23 4195329) (tt k8 (tt k7 (tt k6 (ww k5 (tt k3 (tt k2 (tt k1 (ww aG (tt k0 nn)))))))))))) (fun k8=>(sl z3x 127 [] ⟨[0],[],u2h,u2i⟩ ⟨[],[],[]⟩ (bl 23 1025) (tt k8 (tt k7 (tt k6 (ww k5 (tt k3 (tt k2 (tt k1 (ww aG (tt k0 nn))))))))))))))))) (fun k5=>(lb (fun k6=>(lb (fun k7=>(lr 70 24 [1,1,1,0,1,0,0,1,1,0,0,1,1,1,1,1,0,0] 1 3 [(2,(ii 8))] (sl z3x 124 [] ⟨[],[],[some [2]],[]⟩ ⟨[],[],[]⟩ (bl 24 16772097) (tt k7 (ww k6 (tt k3 (tt k2 (tt k1 (ww aG (tt k0 nn)))))))))) (fun k7=>(lb (fun k8=>(lr 70 24 [1,1,1,0,1,0,0,1,1,0,0,1,1,1,1,1,0,0] 1 3 [(2,(ii 8))] (sl z3x 124 [] ⟨[],[],[some [2]],[]⟩ ⟨[],[],[]⟩ (bl 24 16518145) (tt k8 (tt k7 (ww k6 (tt k3 (tt k2 (tt k1 (ww aG (tt k0 nn))))))))))) (fun k8=>(lb (fun k9=>(lr 70 24 [1,1,1,0,1,0,0,1,1,0,0,1,1,1,1,1,0,0] 1 3 [(2,(ii 8))] (sl z3x 124 [] ⟨[],[],[some [2]],[]⟩ ⟨[],[],[]⟩ (bl 24 8391681) (tt k9 (tt k8 (tt k7 (ww k6 (tt k3 (tt k2 (tt k1 (ww aG (tt k0 nn)))))))))))) (fun k9=>(sl z3x 127 [] ⟨[0],[],u2h,u2i⟩ ⟨[],[],[]⟩ (bl 24 3073) (tt k9 (tt k8 (tt k7 (ww k6 (tt k3 (tt k2 (tt k1 (ww aG (tt k0 nn))))))))))))))))) (fun k6=>trivial)))))))))))))) (fun k0=>(lr 70 3 [1,1,1,1,1,1,1,0] 1 3 [(2,(ii 0))] (sl z3x 11 [] ⟨[],[],[some [2]],[]⟩ ⟨[],[],[]⟩ [false] (tt k0 nn)))))
theorem x9x (l0:List R7):Yr prog (Zy prog 24) (mckC l0) (Zb prog 24 [(.dat l0.length (Zz l0))] true []) (y3l l0):=(lb (fun k0=>(lr 70 24 [1,0,1,0,0] 1 3 [(2,(ii 4))] (sl z3x 16 [] ⟨[],[],[some [2]],[]⟩ ⟨[],[],[]⟩ [true] (tt k0 nn)))) (fun k0=>(sl z3x 41 [] ⟨[1],[],u2h,u2i⟩ ⟨[],[],[]⟩ [false] (tt k0 nn))))
theorem u2g (l0:List R7) (n:Nat) (vs:List AVal) (h:Yz (z6y l0) n (y3l l0)=.ret vs):Ji prog (Zy prog 24) (Zb prog 24 [(.dat l0.length (Zz l0))] true []) vs:=by have:=Ze (w9d l0) n _ (x9x l0);rwa [h] at this
def w3e (r:R7):Bool:=decide (r.a≤5)&&(x2r r.b r.c r.d&&(x2r r.e r.f r.g&&
 (bif decide (r.a<2) then (r.b == r.e)&&(decide (r.c<r.f)&&decide (r.d<r.g)) else bif decide (r.a<4) then (r.c == r.f)&&(decide (r.b<r.e)&&decide (r.d<r.g)) else (r.d == r.g)&&(decide (r.b<r.e)&&decide (r.c<r.f)))))
def z6h (L:List R7):Int:=bif decide (3000<L.length) then 4 else bif L.all w3e then 0 else 8
def Vx (L:List R7):Bool:=L.all fun r=>decide (0≤r.a)&&decide (r.a<256)
theorem v6t (a b:Int):decide (a≥b)= !decide (a<b):=by
 by_cases h:a<b
 ·rw [Ah h];exact Ay (by omega)
 ·rw [Ay h];exact Ah (by omega)
theorem j0d {a:Int} (h0:0≤a) (h5:a≤5):wrap IntKind.u8 (Int.tdiv a 2)=(if a<2 then 0 else if a<4 then 1 else 2):=by
 have:a=0∨a=1∨a=2∨a=3∨a=4∨a=5:=by omega
 rcases this with rfl | rfl | rfl | rfl | rfl | rfl <;> rfl
theorem u8r (L:List R7) (hl:L.length≤3000) (ho:Vx L=true): ∀(k i:Nat),i+k=L.length→ ∃N,Yz (z6y L) N (.to (.h0 (i:Int)))=.ret [.int .i64 (bif (L.drop i).all w3e then 0 else 8)]
 | 0,i,h=>by refine ⟨1,?_⟩;rw [Zv,Av (by omega)];simp (disch:=omega) only [z6y,Yx,Aa];rfl
 | k +1,i,h=>by
  have hi:i<L.length:=by omega
  obtain ⟨N,hN⟩:=u8r L hl ho k (i+1) (by omega);have hb:0≤(rd L i).a ∧(rd L i).a <256:=by
   have:=At.1 ho (rd L i) (by rw [Xz hi];exact AS hi)
   simpa using this
  refine ⟨N+1,?_⟩;rw [Zv,Yq hi,List.all_cons];have e:z6y L (.h0 (i:Int))=bif w3e (rd L i) then .to (.h0 ((i+1:Nat):Int)) else .ret [.int .i64 8]:=by
   have hw:wrap .i64 ((i:Int)+1)=((i+1:Nat):Int):=Zq (by omega);simp (disch:=omega) only [z6y,Zs,Zt,hw,Zj,Ai,Ab];unfold w3e;by_cases h5:(rd L i).a ≤5
   ·rw [Xa (by omega),Wy h5,Aa,j0d hb.1 h5];cases x2r (rd L i).b (rd L i).c (rd L i).d <;> cases x2r (rd L i).e (rd L i).f (rd L i).g <;> try rfl
    by_cases h2:(rd L i).a <2
    ·rw [Au h2,Zs h2];simp only [v6t,bne];cases ((rd L i).b == (rd L i).e) <;> cases decide ((rd L i).c <(rd L i).f) <;> cases decide ((rd L i).d <(rd L i).g) <;> rfl
    ·rw [Ao h2,Yx h2];by_cases h4:(rd L i).a <4
     ·rw [Au h4,Zs h4];simp only [v6t,bne];cases ((rd L i).c == (rd L i).f) <;> cases decide ((rd L i).b <(rd L i).e) <;> cases decide ((rd L i).d <(rd L i).g) <;> rfl
     ·rw [Ao h4,Yx h4];simp only [v6t,bne];cases ((rd L i).d == (rd L i).g) <;> cases decide ((rd L i).b <(rd L i).e) <;> cases decide ((rd L i).c <(rd L i).f) <;> rfl
   ·rw [Yn (by omega),w1s h5];rfl
  rw [e];rcases Yp (w3e (rd L i)) with q | q
  ·rw [q,Ab,An];exact hN
  ·rw [q,Aa,Bs];exact Za _ _ _
theorem j3o (L:List R7) (h:Vx L=true): ∃N,Yz (z6y L) N (y3l L)=.ret [.int .i64 (z6h L)]:=by
 unfold y3l z6h;by_cases g:3000<L.length
 ·refine ⟨0,?_⟩;rw [Yn (by omega),Ah g];rfl
 ·obtain ⟨N,hN⟩:=u8r L (by omega) h L.length 0 (Ag _);refine ⟨N,?_⟩;rw [Xa (by omega),Ay g];exact hN
def fMck :List AVal→Option (AVal×Bool)
 | [a0]=>match asL R7 a0 with
  | some (L0,g0,n0)=>some (.int .i64 (z6h L0),isT R7 n0 g0&&(Vx L0))
  | _=>none
 | _=>none
theorem j5m {S:Specs} (hS:Zu prog S):Zu prog (S.with v5m fMck):=by
 refine z0v hS (by kernel_rfl) fun args v h=> ?_;unfold fMck at h;split at h
 ·rename_i a0;split at h
  ·rename_i L0 g0 n0 e0;simp only [Ae,Ad,Ac] at h;obtain ⟨rfl,ho0,hw⟩:=h;obtain ⟨N,hN⟩:=j3o L0 hw;exact ⟨_,_,(.cons (asL_le e0 ho0) .nil),rfl,u2g L0 N _ hN,3,rfl⟩
  ·cases h
 ·cases h
def Mh :Specs:=(Mg.with v5m fMck)
theorem Qe :Zu prog Mh:=(j5m z3x)
-- h2: index into an array (choices [true, true, true, false, false])
inductive msoS where
 | h0 (v6:List Int) (v39:Int)
 | h1 (bT:Nat) (v9:List R6) (v10:List R4) (bP:Nat) (v59:Int) (v60:Int) (bB:List Int)
 | h2 (bT:Nat) (v9:List R6) (v10:List R4) (v11:Int) (v12:Int) (bP:Nat) (v59:Int) (v60:Int) (v67:Int) (bB:List Int) (aA:List R4) (aO:List R4)
 | h3 (bT:Nat) (v9:List R6) (v10:List R4) (v11:Int) (v12:Int) (bP:Nat) (v59:Int) (v60:Int) (v132:List R4) (v133:Int) (v134:Int) (bB:List Int)
abbrev z4a (l0:List R7) (v67:Int):=(R4.mk (rd l0 (tn v67)).b (rd l0 (tn v67)).c (rd l0 (tn v67)).e (rd l0 (tn v67)).f)
abbrev y9s (v9:List R6) (v132:List R4) (v134:Int) (v12:Int) (bB:List Int) (v11:Int):=(v9++[(R6.mk (rd v132 (tn v134)).a (rd v132 (tn v134)).b v12 (rd v132 (tn v134)).c (rd v132 (tn v134)).d (rd bB (0+(tn (wr (v11+1))))))])
abbrev y9r (v6:List Int):=(Wr (Yy v6.length (cOf (Zz (Xu (Yy v6.length (cOf (Zz v6))))))))
def w4x :ABlk:=⟨[(.fn 111 []),(.fn 112 []),(.fn 113 [])],84,none⟩
abbrev z6g (aA:List R4):=(cvT (Zc (cvT aA)))
def msoC (l0:List R7):msoS→Cfg
 | .h0 v6 v39=>⟨⟨186,0,true⟩,none,(Zd prog 22 [1,1,1,1,0,1,0,0] 0),none,(Zy prog 15),⟨Yb [(0,(.dat l0.length (Zz l0))),(5,(.ptr 0 0)),(6,(.sla 1 1 0 v6.length (.un 1))),(37,(.dat l0.length (Zz l0))),(38,(ii (l0.length:Int))),(39,(ii v39))],Vb [w4x,⟨rows v6.length (Zz v6),3,some ⟨1,v6.length,(Zz v6)⟩⟩] 0,2,[],true⟩,[],.leaf⟩
 | .h1 bT v9 v10 bP v59 v60 bB=>⟨⟨186,0,true⟩,none,(Zd prog 22 [1,1,1,1,1,1,1,1,1,0,1,0,0] 0),none,(Zy prog 15),⟨Yb [(0,(.dat l0.length (Zz l0))),(5,(.ptr 0 0)),(6,(.sla 1 1 0 bT (.un 1))),(9,(.sla 2 6 0 v9.length (.un 6))),(10,(.dat v10.length (Zz v10))),(58,(.sla 1 1 0 bP (.un 1))),(59,(ii v59)),(60,(ii v60))],Vb [w4x,⟨rows bB.length (Zz bB),3,some ⟨1,bB.length,(Zz bB)⟩⟩,⟨rows v9.length (Zz v9),67,some ⟨6,v9.length,(Zz v9)⟩⟩] 0,3,[],true⟩,[],.leaf⟩
 | .h2 bT v9 v10 v11 v12 bP v59 v60 v67 bB aA aO=>⟨⟨186,0,true⟩,none,(Zd prog 22 [1,1,1,1,1,1,1,1,1,0,1,0,0,1,1,0,0,1,1,0,1,0,0] 0),none,(Zy prog 15),⟨Yb [(0,(.dat l0.length (Zz l0))),(5,(.ptr 0 0)),(6,(.sla 1 1 0 bT (.un 1))),(9,(.sla 5 6 0 v9.length (.un 6))),(10,(.dat v10.length (Zz v10))),(11,(ii v11)),(12,(ii v12)),(13,(.ptr 2 0)),(58,(.sla 1 1 0 bP (.un 1))),(59,(ii v59)),(60,(ii v60)),(65,(.dat l0.length (Zz l0))),(66,(ii (l0.length:Int))),(67,(ii v67))],Vb [w4x,⟨rows bB.length (Zz bB),3,some ⟨1,bB.length,(Zz bB)⟩⟩,⟨[(.sla 3 4 0 aA.length (.un 4)),(.sla 4 4 0 aO.length (.un 4))],101,none⟩,⟨rows aA.length (Zz aA),88,some ⟨4,aA.length,(Zz aA)⟩⟩,⟨rows aO.length (Zz aO),88,some ⟨4,aO.length,(Zz aO)⟩⟩,⟨rows v9.length (Zz v9),67,some ⟨6,v9.length,(Zz v9)⟩⟩] 0,6,[],true⟩,[],.leaf⟩
 | .h3 bT v9 v10 v11 v12 bP v59 v60 v132 v133 v134 bB=>⟨⟨186,0,true⟩,none,(Zd prog 22 [1,1,1,1,1,1,1,1,1,0,1,0,0,1,1,0,0,1,1,1,1,1,1,1,1,1,1,0,0] 0),none,(Zy prog 15),⟨Yb [(0,(.dat l0.length (Zz l0))),(5,(.ptr 0 0)),(6,(.sla 1 1 0 bT (.un 1))),(9,(.sla 2 6 0 v9.length (.un 6))),(10,(.dat v10.length (Zz v10))),(11,(ii v11)),(12,(ii v12)),(58,(.sla 1 1 0 bP (.un 1))),(59,(ii v59)),(60,(ii v60)),(132,(.dat v132.length (Zz v132))),(133,(ii v133)),(134,(ii v134))],Vb [w4x,⟨rows bB.length (Zz bB),3,some ⟨1,bB.length,(Zz bB)⟩⟩,⟨rows v9.length (Zz v9),67,some ⟨6,v9.length,(Zz v9)⟩⟩] 0,3,[],true⟩,[],.leaf⟩
def j2v :List (Option (List Nat)):=[some [0,5,6,37,38,39]]
def j2x :List (Option (List Nat)):=[]
def msoN1 :List (Option (List Nat)):=[some [0,5,6,9,10,58,59,60]]
def msoM1 :List (Option (List Nat)):=[]
def v5p :List (Option (List Nat)):=[some [0,5,6,9,10,11,12,13,58,59,60,65,66,67]]
def v5q :List (Option (List Nat)):=[]
def j2u :List (Option (List Nat)):=[some [0,5,6,9,10,11,12,58,59,60,132,133,134]]
def j2w :List (Option (List Nat)):=[]
def Wq (l0:List R7):msoS→Xp msoS
 | .h0 v6 v39=>(bif (decide (v39<(l0.length:Int))) then (bif ((decide (0≤v39∧v39<(l0.length:Int)))&&true) then (bif ((wrap IntKind.u8 (Int.tdiv (rd l0 v39.toNat).a 2)) == 2) then (bif (Nat.beq 1 1&&((decide (0+v6.length=v6.length))&&decide ((v6.length+1+1)*(8+1)≤Jd))) then (.to (.h0 (v6++[(rd l0 v39.toNat).d]) (wrap .i64 (v39+1)))) else .stuck) else (.to (.h0 v6 (wrap .i64 (v39+1))))) else .stuck) else (bif (decide (v6.length<4611686018427387904)) then (bif (decide (v6.length=v6.length)) then (.to (.h1 (v1n (Yy v6.length (cOf (Zz (Xu (Yy v6.length (cOf (Zz v6)))))))) ([]:List R6) ([]:List R4) (v1n (Yy v6.length (cOf (Zz (Xu (Yy v6.length (cOf (Zz v6)))))))) (((v1n (Yy v6.length (cOf (Zz (Xu (Yy v6.length (cOf (Zz v6)))))))):Nat):Int) 0 (Wr (Yy v6.length (cOf (Zz (Xu (Yy v6.length (cOf (Zz v6)))))))))) else .stuck) else .stuck))
 | .h1 bT v9 v10 bP v59 v60 bB=>(bif (decide (v60<v59)) then (bif ((decide (0≤v60∧v60<((bP:Nat):Int)))&&true) then (bif (decide ((0+v60.toNat)<bB.length)) then (.to (.h2 bT v9 v10 v60 (rd bB (0+v60.toNat)) bP v59 v60 0 bB ([]:List R4) ([]:List R4))) else .stuck) else .stuck) else (bif (z1w (cvT v9)) then (bif ((Vd (cvT v9)) != 0) then (.ret [.nils,(.int .i64 28)]) else (bif (z2h (cvT (Xk (cvT v9)))) then (bif ((z4d (cvT (Xk (cvT v9)))) != 0) then (.ret [.nils,(.int .i64 28)]) else (bif (z2x (cvT (Js (cvT (Xk (cvT v9))))) (cvT l0)) then (bif (!(y8y (cvT (Js (cvT (Xk (cvT v9))))) (cvT l0))) then (.ret [.nils,(.int .i64 28)]) else (.ret [(.dat (Xk (cvT v9)).length (Zz (Xk (cvT v9)))),(.int .i64 0)])) else .stuck)) else .stuck)) else .stuck))
 | .h2 bT v9 v10 v11 v12 bP v59 v60 v67 bB aA aO=>(bif (decide (v67<(l0.length:Int))) then (bif ((decide (0≤v67∧v67<(l0.length:Int)))&&true) then (bif ((wrap IntKind.u8 (Int.tdiv (rd l0 v67.toNat).a 2)) == 2) then (bif ((rd l0 v67.toNat).d == v12) then (bif (decide ((Int.tmod (rd l0 v67.toNat).a 2)=Int.ofNat 0)) then (bif (Nat.beq 4 4&&((decide (0+aA.length=aA.length))&&decide ((aA.length+1+1)*(32+1)≤Jd))) then (.to (.h2 bT v9 v10 v11 v12 bP v59 v60 (wrap .i64 (v67+1)) bB (aA++[(R4.mk (rd l0 v67.toNat).b (rd l0 v67.toNat).c (rd l0 v67.toNat).e (rd l0 v67.toNat).f)]) aO)) else .stuck) else (bif (decide ((Int.tmod (rd l0 v67.toNat).a 2)=Int.ofNat 1)) then (bif (Nat.beq 4 4&&((decide (0+aO.length=aO.length))&&decide ((aO.length+1+1)*(32+1)≤Jd))) then (.to (.h2 bT v9 v10 v11 v12 bP v59 v60 (wrap .i64 (v67+1)) bB aA (aO++[(R4.mk (rd l0 v67.toNat).b (rd l0 v67.toNat).c (rd l0 v67.toNat).e (rd l0 v67.toNat).f)]))) else .stuck) else .stuck)) else (.to (.h2 bT v9 v10 v11 v12 bP v59 v60 (wrap .i64 (v67+1)) bB aA aO))) else (.to (.h2 bT v9 v10 v11 v12 bP v59 v60 (wrap .i64 (v67+1)) bB aA aO))) else .stuck) else (bif (Jz (cvT aA)) then (bif (Jz (cvT aO)) then (bif (Qt .d (cvT v10) (cvT (Zc (cvT aA)))) then (bif (Qt .u (cvT (Vy .d (cvT v10) (cvT (Zc (cvT aA))))) (cvT (Zc (cvT aO)))) then (bif ((Xw (cvT aA)) != 0) then (.ret [.nils,(.int .i64 28)]) else (bif ((Xw (cvT aO)) != 0) then (.ret [.nils,(.int .i64 28)]) else (bif ((x4k .d (cvT v10) (cvT (Zc (cvT aA)))) != 0) then (.ret [.nils,(.int .i64 28)]) else (bif ((x4k .u (cvT (Vy .d (cvT v10) (cvT (Zc (cvT aA))))) (cvT (Zc (cvT aO)))) != 0) then (.ret [.nils,(.int .i64 28)]) else (.to (.h3 bT v9 (Vy .u (cvT (Vy .d (cvT v10) (cvT (Zc (cvT aA))))) (cvT (Zc (cvT aO)))) v11 v12 bP v59 v60 (Vy .u (cvT (Vy .d (cvT v10) (cvT (Zc (cvT aA))))) (cvT (Zc (cvT aO)))) (((Vy .u (cvT (Vy .d (cvT v10) (cvT (Zc (cvT aA))))) (cvT (Zc (cvT aO)))).length :Nat):Int) 0 bB)))))) else .stuck) else .stuck) else .stuck) else .stuck))
 | .h3 bT v9 v10 v11 v12 bP v59 v60 v132 v133 v134 bB=>(bif (decide (v134<v133)) then (bif ((decide (0≤v134∧v134<(v132.length:Int)))&&true) then (bif (decide ((wrap .i64 (v11+1))<((bT:Nat):Int))) then (bif ((decide (0≤(wrap .i64 (v11+1))∧(wrap .i64 (v11+1))<((bT:Nat):Int)))&&true) then (bif (decide ((0+(Int.toNat (wrap .i64 (v11+1))))<bB.length)) then (bif (Nat.beq 6 6&&((decide (0+v9.length=v9.length))&&decide ((v9.length+1+1)*(48+1)≤Jd))) then (.to (.h3 bT (v9++[(R6.mk (rd v132 v134.toNat).a (rd v132 v134.toNat).b v12 (rd v132 v134.toNat).c (rd v132 v134.toNat).d (rd bB (0+(Int.toNat (wrap .i64 (v11+1))))))]) v10 v11 v12 bP v59 v60 v132 v133 (wrap .i64 (v134+1)) bB)) else .stuck) else .stuck) else .stuck) else (.to (.h3 bT v9 v10 v11 v12 bP v59 v60 v132 v133 (wrap .i64 (v134+1)) bB))) else .stuck) else (.to (.h1 bT v9 v10 bP v59 (wrap .i64 (v60+1)) bB)))
def y3g (l0:List R7):Xp msoS:=(bif (Vx (cvT l0)) then (bif ((z6h (cvT l0)) != 0) then (.ret [.nils,(.int .i64 (z6h (cvT l0)))]) else (.to (.h0 ([]:List Int) 0))) else .stuck)
theorem w8u (l0:List R7): ∀s,Yr prog (Zy prog 22) (msoC l0) (msoC l0 s) (Wq l0 s)
 | .h0 v6 v39=>(lb (fun k0=>(lo fun aG=>(lb (fun k1=>(lo fun o0=>(sl Qe 39 [] ⟨[0,4],[],j2v,j2x⟩ ⟨[(6,.len (v6++[(rd l0 (tn v39)).d]).length)],[.keep,.rowed 1 (v6++[(rd l0 (tn v39)).d]).length (Zz (v6++[(rd l0 (tn v39)).d]))],[]⟩ (bl 2 3) (pp (xL (v6.length+1) (v6++[(rd l0 (tn v39)).d]).length) (pp (xL (v6.length+1) (v6++[(rd l0 (tn v39)).d]).length) (pp (xS (v6.length+1) (Zi (Zz v6) 0 v6.length 1 [(ii (rd l0 (tn v39)).d)]) (Zz (v6++[(rd l0 (tn v39)).d]))) (pp (pp (xF (Zi (Zz v6) 0 v6.length 1 [(ii (rd l0 (tn v39)).d)])) nn) (ww o0 (tt k1 (ww aG (tt k0 nn))))))))))) (fun k1=>(sl Qe 31 [] ⟨[0,1],[],j2v,j2x⟩ ⟨[],[],[]⟩ (bl 2 1) (pp (fl v6 nn) (tt k1 (ww aG (tt k0 nn))))))))) (fun k0=>(lo fun o0=>(lo fun o1=>(sl Qe 35 [(67,6,Zz ([]:List R6))] ⟨[0,1,2],[],msoN1,msoM1⟩ ⟨[(9,.grow 2 6),(10,.list 0 (Zz ([]:List R4)))],[.keep,.rowed 1 (y9r v6).length (Zz (y9r v6)),.keep],[]⟩ [false] (pp (xL v6.length (y9r v6).length (by first | exact z2l _ _ | exact Vu rfl)) (pp (xS v6.length (Zz (y9r v6)) (Zz (y9r v6))) (pp (fl (y9r v6) (fl ([]:List R6) nn)) (pp (pp (xG (Nat.beq 1 1)) (pp (xG (Nat.beq 1 1)) (pp (xG (Nat.beq 0 0)) (pp (xG (decide (v6.length=v6.length))) (pp (xG (isI (Zz (Xu (Yy v6.length (cOf (Zz v6))))))) (xG (decide (v6.length<4611686018427387904)))))))) (pp (pp (xG (Nat.beq 1 1)) (pp (xG (Nat.beq 1 1)) (pp (xG (Nat.beq 0 0)) (pp (xG (decide (v6.length=v6.length))) (pp (xG (isI (Zz v6))) (xG (decide (v6.length<4611686018427387904)))))))) (tt k0 nn)))))))))))
 | .h1 bT v9 v10 bP v59 v60 bB=>(lb (fun k0=>(lo fun o0=>(lo fun o1=>(sl Qe 30 [(88,4,Zz ([]:List R4)),(88,4,Zz ([]:List R4))] ⟨[0,1,3,4,5,2],[],v5p,v5q⟩ ⟨[],[.keep,.keep,.cells [.grow 3 4,.grow 4 4],.keep,.keep,.keep],[]⟩ [true] (pp (fl bB (fl ([]:List R4) (fl ([]:List R4) (fl v9 nn)))) (ww o1 (ww o0 (tt k0 nn)))))))) (fun k0=>(Wo (sl Qe (C':=⟨⟨186,0,true⟩,(Jb prog 22 [1,1,1,1,1,1,1,1,1,1,0] 1),(Zd prog 22 [1,1,1,1,1,1,1,1,1,1,0] 1),none,(Zy prog 15),⟨Yb [(0,(.dat l0.length (Zz l0))),(166,(.dat v9.length (Zz v9)))],Vb [] 0,0,[],true⟩,[],.leaf⟩) 10 [] ⟨[],[2],[some [0,166]],[]⟩ ⟨[(166,.frz v9.length v9.length (Zz v9) (Zz v9))],[],[]⟩ [false] (pp (xZ (z6j 6 6 0 v9.length v9.length (Zz v9)) v9.length (Zz v9)) (pp (xL v9.length v9.length) (pp (xS v9.length (Zz v9) (Zz v9)) (pp (fl v9 nn) (tt k0 nn)))))) (lo fun aG=>(lb (fun k1=>(lr 186 22 [1,1,1,1,1,1,1,1,1,1,1,0,1,0,0] 1 15 [(2,.nils),(3,(ii 28))] (sl Qe 19 [] ⟨[],[],[some [2,3]],[]⟩ ⟨[],[],[]⟩ [true] (tt k1 (pp (pp (xr v9) (xw aG)) nn))))) (fun k1=>(lo fun cH=>(lb (fun k2=>(lr 186 22 [1,1,1,1,1,1,1,1,1,1,1,1,0,1,1,0,0] 1 15 [(2,.nils),(3,(ii 28))] (sl Qe 43 [] ⟨[],[],[some [2,3]],[]⟩ ⟨[],[],[]⟩ (bl 6 62) (tt k2 (pp (pp (xI R6 (Xk (cvT v9)).length (Zz (Xk (cvT v9)))) (xw cH)) (tt k1 (pp (pp (xr v9) (xw aG)) nn))))))) (fun k2=>(lo fun cJ=>(lb (fun k3=>(lr 186 22 [1,1,1,1,1,1,1,1,1,1,1,1,0,1,1,0,0] 1 15 [(2,.nils),(3,(ii 28))] (sl Qe 43 [] ⟨[],[],[some [2,3]],[]⟩ ⟨[],[],[]⟩ (bl 6 32) (tt k3 (pp (pp (xI R7 (Js (cvT (Xk (cvT v9)))).length (Zz (Js (cvT (Xk (cvT v9)))))) (pp (xr l0) (xw cJ))) (tt k2 (pp (pp (xI R6 (Xk (cvT v9)).length (Zz (Xk (cvT v9)))) (xw cH)) (tt k1 (pp (pp (xr v9) (xw aG)) nn))))))))) (fun k3=>(lr 186 3 [1,1,1,1,1,1,1,0] 1 15 [(2,(.dat (Xk (cvT v9)).length (Zz (Xk (cvT v9))))),(3,(ii 0))] (sl Qe 45 [] ⟨[],[],[some [2,3]],[]⟩ ⟨[],[],[]⟩ (bl 6 0) (tt k3 (pp (pp (xI R7 (Js (cvT (Xk (cvT v9)))).length (Zz (Js (cvT (Xk (cvT v9)))))) (pp (xr l0) (xw cJ))) (tt k2 (pp (pp (xI R6 (Xk (cvT v9)).length (Zz (Xk (cvT v9)))) (xw cH)) (tt k1 (pp (pp (xr v9) (xw aG)) nn))))))))))))))))))))
 | .h2 bT v9 v10 v11 v12 bP v59 v60 v67 bB aA aO=>(lb (fun k0=>(lo fun aG=>(lb (fun k1=>(lb (fun k2=>(lb (fun k3=>(lo fun o0=>(sl Qe 38 [] ⟨[0,1,2,14,4,5],[],v5p,v5q⟩ ⟨[],[.keep,.keep,.cells [.len (aA++[(z4a l0 v67)]).length,.keep],.rowed 4 (aA++[(z4a l0 v67)]).length (Zz (aA++[(z4a l0 v67)])),.keep,.keep],[]⟩ (trs 7 (bl 2 0)) (pp (xL (aA.length+1) (aA++[(z4a l0 v67)]).length) (pp (xL (aA.length+1) (aA++[(z4a l0 v67)]).length) (pp (xS (aA.length+1) (Zi (Zz aA) 0 aA.length 4 [(ii (rd l0 (tn v67)).b),(ii (rd l0 (tn v67)).c),(ii (rd l0 (tn v67)).e),(ii (rd l0 (tn v67)).f)]) (Zz (aA++[(z4a l0 v67)]))) (pp (fl bB (pp (xF (Zi (Zz aA) 0 aA.length 4 [(ii (rd l0 (tn v67)).b),(ii (rd l0 (tn v67)).c),(ii (rd l0 (tn v67)).e),(ii (rd l0 (tn v67)).f)])) (fl aO (fl v9 nn)))) (ww k3 (ww o0 (ww k3 (tt k2 (tt k1 (ww aG (tt k0 nn)))))))))))))) (fun k3=>(lb (fun k4=>(lo fun o0=>(sl Qe 38 [] ⟨[0,1,2,3,14,5],[],v5p,v5q⟩ ⟨[],[.keep,.keep,.cells [.keep,.len (aO++[(z4a l0 v67)]).length],.keep,.rowed 4 (aO++[(z4a l0 v67)]).length (Zz (aO++[(z4a l0 v67)])),.keep],[]⟩ (trs 8 (bl 3 2)) (pp (xL (aO.length+1) (aO++[(z4a l0 v67)]).length) (pp (xL (aO.length+1) (aO++[(z4a l0 v67)]).length) (pp (xS (aO.length+1) (Zi (Zz aO) 0 aO.length 4 [(ii (rd l0 (tn v67)).b),(ii (rd l0 (tn v67)).c),(ii (rd l0 (tn v67)).e),(ii (rd l0 (tn v67)).f)]) (Zz (aO++[(z4a l0 v67)]))) (pp (fl bB (fl aA (pp (xF (Zi (Zz aO) 0 aO.length 4 [(ii (rd l0 (tn v67)).b),(ii (rd l0 (tn v67)).c),(ii (rd l0 (tn v67)).e),(ii (rd l0 (tn v67)).f)])) (fl v9 nn)))) (ww k4 (ww o0 (ww k4 (tt k2 (tt k1 (ww aG (tt k0 nn)))))))))))))) (fun k4=>trivial))))) (fun k2=>(sl Qe 38 [] ⟨(List.range 6),[],v5p,v5q⟩ ⟨[],[],[]⟩ (trs 6 [false]) (pp (fl bB (fl aA (fl aO (fl v9 nn)))) (tt k2 (tt k1 (ww aG (tt k0 nn))))))))) (fun k1=>(sl Qe 38 [] ⟨(List.range 6),[],v5p,v5q⟩ ⟨[],[],[]⟩ (bl 7 1) (pp (fl bB (fl aA (fl aO (fl v9 nn)))) (tt k1 (ww aG (tt k0 nn))))))))) (fun k0=>(Wo (sl Qe (C':=⟨⟨186,0,true⟩,(Jb prog 22 [1,1,1,1,1,1,1,1,1,0,1,0,0,1,1,0,0,1,1,1,0] 2),(Zd prog 22 [1,1,1,1,1,1,1,1,1,0,1,0,0,1,1,0,0,1,1,1,0] 1),none,(Zy prog 15),⟨Yb [(0,(.dat l0.length (Zz l0))),(5,(.ptr 0 0)),(6,(.sla 1 1 0 bT (.un 1))),(9,(.sla 2 6 0 v9.length (.un 6))),(10,(.dat v10.length (Zz v10))),(11,(ii v11)),(12,(ii v12)),(13,(.ptr 3 0)),(58,(.sla 1 1 0 bP (.un 1))),(59,(ii v59)),(60,(ii v60)),(102,(.dat aA.length (Zz aA)))],Vb [⟨[(.fn 111 []),(.fn 112 []),(.fn 113 [])],84,none⟩,⟨rows bB.length (Zz bB),3,some ⟨1,bB.length,(Zz bB)⟩⟩,⟨rows v9.length (Zz v9),67,some ⟨6,v9.length,(Zz v9)⟩⟩,⟨[(.dat aA.length (Zz aA)),(.sla 4 4 0 aO.length (.un 4))],101,none⟩,⟨rows aO.length (Zz aO),88,some ⟨4,aO.length,(Zz aO)⟩⟩] 0,5,[],true⟩,[],.leaf⟩) 11 [] ⟨[0,1,5,2,4],[3],[some [0,5,6,9,10,11,12,13,58,59,60,102]],[]⟩ ⟨[(102,.frz aA.length aA.length (Zz aA) (Zz aA))],[.keep,.keep,.keep,.cells [.frz aA.length aA.length (Zz aA) (Zz aA),.keep],.keep],[]⟩ [false] (pp (xZ (z6j 4 4 0 aA.length aA.length (Zz aA)) aA.length (Zz aA)) (pp (xL aA.length aA.length) (pp (xS aA.length (Zz aA) (Zz aA)) (pp (xZ (z6j 4 4 0 aA.length aA.length (Zz aA)) aA.length (Zz aA)) (pp (xL aA.length aA.length) (pp (xS aA.length (Zz aA) (Zz aA)) (pp (fl bB (fl v9 (fl aO nn))) (pp (fl aA nn) (tt k0 nn)))))))))) (lo fun q1_0=>(Wo (sl Qe (C':=⟨⟨186,0,true⟩,(Jb prog 22 [1,1,1,1,1,1,1,1,1,0,1,0,0,1,1,0,0,1,1,1,1,0] 2),(Zd prog 22 [1,1,1,1,1,1,1,1,1,0,1,0,0,1,1,0,0,1,1,1,1,0] 1),none,(Zy prog 15),⟨Yb [(0,(.dat l0.length (Zz l0))),(5,(.ptr 0 0)),(6,(.sla 1 1 0 bT (.un 1))),(9,(.sla 2 6 0 v9.length (.un 6))),(10,(.dat v10.length (Zz v10))),(11,(ii v11)),(12,(ii v12)),(16,(.dat (Zc (cvT aA)).length (Zz (Zc (cvT aA))))),(17,(ii (Xw (cvT aA)))),(58,(.sla 1 1 0 bP (.un 1))),(59,(ii v59)),(60,(ii v60)),(108,(.dat aO.length (Zz aO)))],Vb [⟨[(.fn 111 []),(.fn 112 []),(.fn 113 [])],84,none⟩,⟨rows bB.length (Zz bB),3,some ⟨1,bB.length,(Zz bB)⟩⟩,⟨rows v9.length (Zz v9),67,some ⟨6,v9.length,(Zz v9)⟩⟩] 0,3,[],true⟩,[],.leaf⟩) 11 [] ⟨[0,1,2],[4],[some [0,5,6,9,10,11,12,16,17,58,59,60,108]],[]⟩ ⟨[(108,.frz aO.length aO.length (Zz aO) (Zz aO))],[],[]⟩ [] (pp (xZ (z6j 4 4 0 aO.length aO.length (Zz aO)) aO.length (Zz aO)) (pp (xL aO.length aO.length) (pp (xS aO.length (Zz aO) (Zz aO)) (pp (fl bB (fl v9 nn)) (pp (fl aO nn) (pp (pp (xr aA) (xw q1_0)) nn))))))) (lo fun aG=>(lo fun bF=>(lo fun cD=>(lb (fun k1=>(lr 186 22 [1,1,1,1,1,1,1,1,1,0,1,0,0,1,1,0,0,1,1,1,1,1,1,1,0,1,0,0] 1 15 [(2,.nils),(3,(ii 28))] (sl Qe 91 [] ⟨[],[],[some [2,3]],[]⟩ ⟨[],[],[]⟩ (trs 3 []) (tt k1 (tt k1 (pp (pp (xI R4 (Vy .d (cvT v10) (z6g aA)).length (Zz (Vy .d (cvT v10) (z6g aA)))) (pp (xI R4 (Zc (cvT aO)).length (Zz (Zc (cvT aO)))) (xw cD))) (pp (pp (xr v10) (pp (xI R4 (Zc (cvT aA)).length (Zz (Zc (cvT aA)))) (xw bF))) (pp (pp (xr aO) (xw aG)) nn)))))))) (fun k1=>(lb (fun k2=>(lr 186 22 [1,1,1,1,1,1,1,1,1,0,1,0,0,1,1,0,0,1,1,1,1,1,1,1,0,1,0,0] 1 15 [(2,.nils),(3,(ii 28))] (sl Qe 120 [] ⟨[],[],[some [2,3]],[]⟩ ⟨[],[],[]⟩ (bl 5 29) (tt k2 (tt k2 (tt k1 (pp (pp (xI R4 (Vy .d (cvT v10) (z6g aA)).length (Zz (Vy .d (cvT v10) (z6g aA)))) (pp (xI R4 (Zc (cvT aO)).length (Zz (Zc (cvT aO)))) (xw cD))) (pp (pp (xr v10) (pp (xI R4 (Zc (cvT aA)).length (Zz (Zc (cvT aA)))) (xw bF))) (pp (pp (xr aO) (xw aG)) nn))))))))) (fun k2=>(lb (fun k3=>(lr 186 22 [1,1,1,1,1,1,1,1,1,0,1,0,0,1,1,0,0,1,1,1,1,1,1,1,0,1,0,0] 1 15 [(2,.nils),(3,(ii 28))] (sl Qe 149 [] ⟨[],[],[some [2,3]],[]⟩ ⟨[],[],[]⟩ (bl 7 117) (tt k3 (tt k3 (tt k2 (tt k1 (pp (pp (xI R4 (Vy .d (cvT v10) (z6g aA)).length (Zz (Vy .d (cvT v10) (z6g aA)))) (pp (xI R4 (Zc (cvT aO)).length (Zz (Zc (cvT aO)))) (xw cD))) (pp (pp (xr v10) (pp (xI R4 (Zc (cvT aA)).length (Zz (Zc (cvT aA)))) (xw bF))) (pp (pp (xr aO) (xw aG)) nn)))))))))) (fun k3=>(lb (fun k4=>(lr 186 22 [1,1,1,1,1,1,1,1,1,0,1,0,0,1,1,0,0,1,1,1,1,1,1,1,0,1,0,0] 1 15 [(2,.nils),(3,(ii 28))] (sl Qe 178 [] ⟨[],[],[some [2,3]],[]⟩ ⟨[],[],[]⟩ (bl 9 469) (tt k4 (tt k4 (tt k3 (tt k2 (tt k1 (pp (pp (xI R4 (Vy .d (cvT v10) (z6g aA)).length (Zz (Vy .d (cvT v10) (z6g aA)))) (pp (xI R4 (Zc (cvT aO)).length (Zz (Zc (cvT aO)))) (xw cD))) (pp (pp (xr v10) (pp (xI R4 (Zc (cvT aA)).length (Zz (Zc (cvT aA)))) (xw bF))) (pp (pp (xr aO) (xw aG)) nn))))))))))) (fun k4=>(sl Qe 201 [] ⟨[0,1,2],[],j2u,j2w⟩ ⟨[],[],[]⟩ (bl 10 85) (pp (fl bB (fl v9 nn)) (tt k4 (tt k3 (tt k2 (tt k1 (pp (pp (xI R4 (Vy .d (cvT v10) (z6g aA)).length (Zz (Vy .d (cvT v10) (z6g aA)))) (pp (xI R4 (Zc (cvT aO)).length (Zz (Zc (cvT aO)))) (xw cD))) (pp (pp (xr v10) (pp (xI R4 (Zc (cvT aA)).length (Zz (Zc (cvT aA)))) (xw bF))) (pp (pp (xr aO) (xw aG)) nn)))))))))))))))))))))))))
 | .h3 bT v9 v10 v11 v12 bP v59 v60 v132 v133 v134 bB=>(lb (fun k0=>(lo fun aG=>(lb (fun k1=>(lo fun o0=>(lo fun o1=>(lo fun o2=>(sl Qe 32 [] ⟨[0,1,5],[],j2u,j2w⟩ ⟨[(9,.len (y9s v9 v132 v134 v12 bB v11).length)],[.keep,.keep,.rowed 6 (y9s v9 v132 v134 v12 bB v11).length (Zz (y9s v9 v132 v134 v12 bB v11))],[]⟩ (bl 2 3) (pp (xL (v9.length+1) (y9s v9 v132 v134 v12 bB v11).length) (pp (xL (v9.length+1) (y9s v9 v132 v134 v12 bB v11).length) (pp (xS (v9.length+1) (Zi (Zz v9) 0 v9.length 6 [(ii (rd v132 (tn v134)).a),(ii (rd v132 (tn v134)).b),(ii v12),(ii (rd v132 (tn v134)).c),(ii (rd v132 (tn v134)).d),(ii (rd bB (0+(tn (wr (v11+1))))))]) (Zz (y9s v9 v132 v134 v12 bB v11))) (pp (fl bB (pp (xF (Zi (Zz v9) 0 v9.length 6 [(ii (rd v132 (tn v134)).a),(ii (rd v132 (tn v134)).b),(ii v12),(ii (rd v132 (tn v134)).c),(ii (rd v132 (tn v134)).d),(ii (rd bB (0+(tn (wr (v11+1))))))])) nn)) (ww o2 (ww o1 (ww o0 (tt k1 (ww aG (tt k0 nn))))))))))))))) (fun k1=>(sl Qe 32 [] ⟨[0,1,2],[],j2u,j2w⟩ ⟨[],[],[]⟩ (bl 2 1) (pp (fl bB (fl v9 nn)) (tt k1 (ww aG (tt k0 nn))))))))) (fun k0=>(sl Qe 13 [] ⟨[0,1,2],[],msoN1,msoM1⟩ ⟨[],[],[]⟩ [false] (pp (fl bB (fl v9 nn)) (tt k0 nn)))))
theorem x9n (l0:List R7):Yr prog (Zy prog 22) (msoC l0) (Zb prog 22 [(.dat l0.length (Zz l0))] true []) (y3g l0):=(lo fun bQ=>(lb (fun k0=>(lr 186 22 [1,0,1,1,0,0] 1 15 [(2,.nils),(3,(ii (z6h (cvT l0))))] (sl Qe 24 [] ⟨[],[],[some [2,3]],[]⟩ ⟨[],[],[]⟩ [true] (tt k0 (pp (pp (xr l0) (xw bQ)) nn))))) (fun k0=>(sl Qe 52 [(3,1,Zz ([]:List Int))] ⟨[1,2],[],j2v,j2x⟩ ⟨[(6,.grow 1 1)],[],[]⟩ [false] (pp (fl ([]:List Int) nn) (tt k0 (pp (pp (xr l0) (xw bQ)) nn)))))))
theorem u1u (l0:List R7) (n:Nat) (vs:List AVal) (h:Yz (Wq l0) n (y3g l0)=.ret vs):Ji prog (Zy prog 22) (Zb prog 22 [(.dat l0.length (Zz l0))] true []) vs:=by have:=Ze (w8u l0) n _ (x9n l0);rwa [h] at this
def zQ (d:Int) (l:List R7) (z:Int):List R4:=(l.filter fun r=>decide (r.a=d)&&decide (r.d=z)).map fun r=>⟨r.b,r.c,r.e,r.f⟩
def zsQ (l:List R7):List Int:=(l.filter fun r=>decide (4≤r.a)).map (·.d)
def plZ (l:List R7):List Int:=Jc (zsQ l)
def pz6 (z z':Int) (t:R4):R6:=⟨t.a,t.b,z,t.c,t.d,z'⟩
def j6w (now e b:List R4):Bool:=(Xw e != 0)||((Xw b != 0)||((rgE .d now (Zc e) != 0)||(rgE .u (Vy .d now (Zc e)) (Zc b) != 0)))
def x1w (now e b:List R4):List R4:=Vy .u (Vy .d now (Zc e)) (Zc b)
def goP (l:List R7):List Int→List R4→List R6→Option (List R6)
 | [],_,bx=>some bx
 | z::r,now,bx=>bif j6w now (zQ 4 l z) (zQ 5 l z) then none else
  goP l r (x1w now (zQ 4 l z) (zQ 5 l z)) (bx++match r with
   | []=>[]
   | z'::_=>(x1w now (zQ 4 l z) (zQ 5 l z)).map (pz6 z z'))
def finE (l:List R7) (bx:List R6):Int:=bif Vd bx != 0 then 28 else bif z4d (Xk bx) != 0 then 28 else bif !(y8y (Js (Xk bx)) l) then 28 else 0
def msoE (l:List R7):Int:=bif z6h l != 0 then z6h l else match goP l (plZ l) [] [] with
 | none=>28
 | some bx=>finE l bx
def msoL (l:List R7):List R6:=match goP l (plZ l) [] [] with
 | none=>[]
 | some bx=>Xk bx
def x5h (l:List R7):Int:=msoE l
def z1j (l:List R7):List R6:=x2u (msoE l) (msoL l)
def y5i (l:List R7):Bool:=Vx l
theorem y7z (l:List R7):(zsQ l).length ≤l.length:=by unfold zsQ;rw [A3];exact BU _ _
theorem x3u (d:Int) (l:List R7) (z:Int):(zQ d l z).length ≤l.length:=by unfold zQ;rw [A3];exact BU _ _
theorem Wt (d:Int) (l m:List R7) (z:Int):zQ d (l++m) z=zQ d l z++zQ d m z:=by unfold zQ;rw [List.filter_append,Bf]
theorem w6t (l m:List R7):zsQ (l++m)=zsQ l++zsQ m:=by unfold zsQ;rw [List.filter_append,Bf]
theorem x2d {l:List R7} (h:z6h l=0):l.length≤3000∧ ∀r∈l,w3e r=true:=by
 unfold z6h at h;by_cases g:3000<l.length
 ·rw [Ah g] at h;cases h
 ·rw [Ay g,Aa] at h;cases q:l.all w3e with
  | false=>rw [q] at h;cases h
  | true=>exact ⟨by omega,At.1 q⟩
theorem v1v {r:R7} (h:w3e r=true):r.a≤5:=by unfold w3e at h;simp only [Ac,Al] at h;exact h.1
theorem v2r (l:List R6):(Xk l).length ≤400:=by
 unfold Xk x2u;cases g:(Vd l != 0) with
 | true=>exact AJ _
 | false=>
  rw [Aa];have h:Vd l=0:=by simpa using g
  unfold Vd at h;cases g1:decide (400<l.length) with
  | true=>rw [g1] at h;cases h
  | false=>
   cases g2:l.all Jf with
   | false=>rw [g1,g2] at h;cases h
   | true=>
    rw [g1,g2,Aa,Ab] at h;cases g3:okF l ((D6.cuts l).length - 1) 0 with
    | false=>rw [g3,Aa] at h;have:=u3y _ _ g3;rw [h] at this;cases this
    | true=>rw [g3,Ab] at h;exact x2y h
theorem j3g {L:List R6}:(Js L).length ≤3000:=by
 unfold Js x2u;cases g:(y9t L != 0) with
 | true=>exact AJ _
 | false=>
  rw [Aa];have h:y9t L=0:=by simpa using g
  unfold y9t at h;refine AL fun hn=> ?_;rw [show decide (((Jh L).length :Int)>3000)=true from Ah (by omega)] at h;revert h;have z: ∀(e x:Int),x≠0→(bif e != 0 then e else x)≠0:=fun e x hx=>by
   cases q:(e != 0) with
   | true=>rw [Ab];simpa using q
   | false=>rw [Aa];exact hx
  exact z _ _ (z _ _ (z _ _ (z _ _ (z _ _ (z _ _ (by decide))))))
theorem six {a:Int} (h0:0≤a) (h5:a≤5):((wrap IntKind.u8 (Int.tdiv a 2)) == 2)=decide (4≤a)∧decide (Int.tmod a 2=Int.ofNat 0)=decide (a=0∨a=2∨a=4)∧decide (Int.tmod a 2=Int.ofNat 1)=decide (a=1∨a=3∨a=5):=by
 have:a=0∨a=1∨a=2∨a=3∨a=4∨a=5:=by omega
 rcases this with rfl | rfl | rfl | rfl | rfl | rfl <;> exact ⟨rfl,rfl,rfl⟩
section
variable (l:List R7) (hl:l.length≤3000) (ha: ∀i,i<l.length→0≤(rd l i).a ∧(rd l i).a ≤5)
include hl ha
theorem u8g : ∀(k i:Nat) (acc:List Int),i+k=l.length→acc.length≤i→zsQ l=acc++zsQ (l.drop i)→
  ∃n,∀N,Yz (Wq l) (N+n) (.to (.h0 acc (i:Int)))=Yz (Wq l) N (.to (.h1 (plZ l).length [] [] (plZ l).length ((plZ l).length :Int) 0 (Wr (Xu (zsQ l)))))
 | 0,i,acc,h,h',e=>by have _u:=ha;rw [Av (by omega),show zsQ []=[] from rfl,AB] at e;subst e;refine ⟨1,fun N=> ?_⟩;rw [Zv];simp (disch:=omega) only [Wq,Wv,z0j,y0o,Yx,Yj,Ym,Aw,Ab,Aa];rfl
 | k+1,i,acc,h,h',e=>by
  have hi:i<l.length:=by omega
  obtain ⟨b0,b5⟩:=ha i hi;obtain ⟨s1,_,_⟩:=six b0 b5;have e2:zsQ l=(acc++zsQ [rd l i])++zsQ (l.drop (i+1)):=by rw [AM,←w6t,e,Yq hi];rfl
  obtain ⟨n,hn⟩:=u8g k (i+1) (acc++zsQ [rd l i]) (by omega) (by have:=y7z [rd l i];simp only [Az,Bt] at*;omega) e2;refine ⟨n+1,fun N=> ?_⟩;rw [←AE,Zv,←hn N];by_cases h4:4≤(rd l i).a
  ·rw [show zsQ [rd l i]=[(rd l i).d] by unfold zsQ;rw [Be,Au (Ah h4)];rfl];rw [Ah h4] at s1;simp (disch:=omega) only [Wq,s1,Zm,Zk,Zs,Zt,Yd,Yj,Ym,Zh,Zq,Zx,Ya,Zj,Ag,Aw,Ai,An,Ab,Aa]
  ·rw [show zsQ [rd l i]=[] by unfold zsQ;rw [Be,Ao (by simp [h4])];rfl,AB];rw [Ay h4] at s1;simp (disch:=omega) only [Wq,s1,Zm,Zk,Zs,Zt,Yd,Yj,Ym,Zh,Zq,Zx,Ya,Zj,Ag,Aw,Ai,An,Ab,Aa]
theorem u8e (n6:Nat) (bx:List R6) (now:List R4) (v11 z:Int) (n58:Nat) (v59 v60:Int) (P:List Int): ∀(k j:Nat) (e b:List R4),j+k=l.length→e.length≤j→b.length≤j→zQ 4 l z=e++zQ 4 (l.drop j) z→zQ 5 l z=b++zQ 5 (l.drop j) z→
  ∃n,∀N,Yz (Wq l) (N+n) (.to (.h2 n6 bx now v11 z n58 v59 v60 (j:Int) P e b))=Yz (Wq l) N (bif j6w now (zQ 4 l z) (zQ 5 l z) then .ret [.nils,.int .i64 28] else
   .to (.h3 n6 bx (x1w now (zQ 4 l z) (zQ 5 l z)) v11 z n58 v59 v60 (x1w now (zQ 4 l z) (zQ 5 l z)) ((x1w now (zQ 4 l z) (zQ 5 l z)).length :Int) 0 P))
 | 0,j,e,b,h,h1,h2,e4,e5=>by
  have _u:=ha;rw [Av (by omega),show∀d,zQ d [] z=[] from fun _=>rfl,AB] at e4 e5;refine ⟨1,fun N=> ?_⟩;rw [Zv,e4,e5];have o1: ∀x,Jz x=true:=fun _=>rfl;have o2: ∀q x y,Qt q x y=true:=fun _ _ _=>rfl;simp (disch:=omega) only [Wq,Yx,Zm,o1,o2,Ab,Aa,j6w,x1w,x4k]
  congr 1
  cases (Xw e != 0) <;> cases (Xw b != 0) <;> cases (rgE .d now (Zc e) != 0) <;> cases (rgE .u (Vy .d now (Zc e)) (Zc b) != 0) <;> rfl
 | k +1,j,e,b,h,h1,h2,e4,e5=>by
  have hj:j<l.length:=by omega
  obtain ⟨b0,b5⟩:=ha j hj;obtain ⟨s1,s2,s3⟩:=six b0 b5;have f4:zQ 4 l z=(e++zQ 4 [rd l j] z)++zQ 4 (l.drop (j+1)) z:=by rw [AM,←Wt,e4,Yq hj];rfl
  have f5:zQ 5 l z=(b++zQ 5 [rd l j] z)++zQ 5 (l.drop (j+1)) z:=by rw [AM,←Wt,e5,Yq hj];rfl
  obtain ⟨n,hn⟩:=u8e n6 bx now v11 z n58 v59 v60 P k (j+1) (e++zQ 4 [rd l j] z) (b++zQ 5 [rd l j] z) (by omega)
   (by have:=x3u 4 [rd l j] z;simp only [Az,Bt] at*;omega) (by have:=x3u 5 [rd l j] z;simp only [Az,Bt] at*;omega) f4 f5
  refine ⟨n+1,fun N=> ?_⟩;rw [←AE,Zv,←hn N];have no: ∀d,¬((rd l j).a =d∧(rd l j).d =z)→zQ d [rd l j] z=[]:=fun d hn=>by unfold zQ;rw [Be,Ao (by simpa using hn)];rfl
  have ye: ∀d,((rd l j).a =d∧(rd l j).d =z)→zQ d [rd l j] z=[⟨(rd l j).b,(rd l j).c,(rd l j).e,(rd l j).f⟩]:=fun d hy=>by unfold zQ;rw [Be,Au (by simpa using hy)];rfl
  by_cases h4:4≤(rd l j).a
  ·rw [Ah h4] at s1;by_cases hz:(rd l j).d =z
   ·have hzb:((rd l j).d == z)=true:=(by simpa using hz);by_cases h44:(rd l j).a =4
    ·replace s2:=s2.trans (Ah (p:=(rd l j).a =0∨(rd l j).a =2∨(rd l j).a =4) (by omega))
     rw [ye 4 ⟨h44,hz⟩,no 5 (by omega),AB];simp (disch:=omega) only [Wq,s1,s2,hzb,Zm,Zk,Zs,Zt,Yd,Yj,Ym,Zh,Zq,Zx,Ya,Zj,Ag,Aw,Ai,An,Ab,Aa]
    ·replace s2:=s2.trans (Ay (p:=(rd l j).a =0∨(rd l j).a =2∨(rd l j).a =4) (by omega))
     replace s3:=s3.trans (Ah (p:=(rd l j).a =1∨(rd l j).a =3∨(rd l j).a =5) (by omega))
     rw [ye 5 ⟨by omega,hz⟩,no 4 (by omega),AB];simp (disch:=omega) only [Wq,s1,s2,s3,hzb,Zm,Zk,Zs,Zt,Yd,Yj,Ym,Zh,Zq,Zx,Ya,Zj,Ag,Aw,Ai,An,Ab,Aa]
   ·have hzb:((rd l j).d == z)=false:=(by simpa using hz);rw [no 5 (fun g=>hz g.2),no 4 (fun g=>hz g.2),AB,AB];simp (disch:=omega) only [Wq,s1,hzb,Zm,Zk,Zs,Zt,Yd,Yj,Ym,Zh,Zq,Zx,Ya,Zj,Ag,Aw,Ai,An,Ab,Aa]
  ·rw [Ay h4] at s1;rw [no 5 (by omega),no 4 (by omega),AB,AB];simp (disch:=omega) only [Wq,s1,Zm,Zk,Zs,Zt,Yd,Yj,Ym,Zh,Zq,Zx,Ya,Zj,Ag,Aw,Ai,An,Ab,Aa]
theorem v5o (n6:Nat) (hn6:n6≤3000) (now:List R4) (i:Nat) (hi:i<n6) (z:Int) (v59:Int) (R:List R4) (hR:R.length≤400) (P:List Int) (hP:n6≤P.length): ∀(k j:Nat) (bx:List R6),j+k=R.length→bx.length≤2000000+j→
  ∃n,∀N,Yz (Wq l) (N+n) (.to (.h3 n6 bx now (i:Int) z n6 v59 (i:Int) R (R.length:Int) (j:Int) P))=Yz (Wq l) N (.to (.h1 n6 (bx++bif decide (i+1<n6) then (R.drop j).map (pz6 z (rd P (i+1))) else []) now n6 v59 ((i+1:Nat):Int) P))
 | 0,j,bx,h,h'=>by have _u:=ha;have _v:=hl;refine ⟨1,fun N=> ?_⟩;rw [Av (by omega),Ba,show (bif decide (i+1<n6) then ([]:List R6) else [])=[] by cases decide (i+1<n6) <;> rfl,AB,Zv];simp (disch:=omega) only [Wq,Yx,Zq,Zx,Aa]
 | k+1,j,bx,h,h'=>by
  have hj:j<R.length:=by omega
  have ew:wrap .i64 ((i:Int)+1)=((i+1:Nat):Int):=by rw [Zq (by omega)];exact Zx i
  by_cases g:i+1<n6
  ·obtain ⟨n,hn⟩:=v5o n6 hn6 now i hi z v59 R hR P hP k (j+1) (bx++[pz6 z (rd P (i+1)) (rd R j)]) (by omega) (by simp only [Az,Bt];omega);refine ⟨n+1,fun N=> ?_⟩;rw [Ah g,Ab] at hn;rw [Ah g,Ab,Yq hj,AW,←AE,Zv,show bx++pz6 z (rd P (i+1)) (rd R j)::(R.drop (j+1)).map (pz6 z (rd P (i+1)))=(bx++[pz6 z (rd P (i+1)) (rd R j)])++(R.drop (j+1)).map (pz6 z (rd P (i+1))) by simp,←hn N];simp (disch:=omega) only [Wq,ew,Zm,Zk,Zs,Zt,Yd,Yj,Ym,Zh,Zq,Zx,Ya,Zj,Ag,Aw,Ai,An,Ab,Aa];rfl
  ·obtain ⟨n,hn⟩:=v5o n6 hn6 now i hi z v59 R hR P hP k (j+1) bx (by omega) (by omega);refine ⟨n+1,fun N=> ?_⟩;rw [Ay g,Aa] at hn;rw [Ay g,Aa,←AE,Zv,←hn N];simp (disch:=omega) only [Wq,ew,Yx,Zm,Zk,Zs,Zt,Zq,Zx,Zj,Ai,Ab,Aa]
def resR (l:List R7):Option (List R6)→List AVal
 | none=>[.nils,.int .i64 28]
 | some bx=>y4z (finE l bx) (Xk bx)
theorem u8f : ∀(k i:Nat) (now:List R4) (bx:List R6),i+k=(plZ l).length →bx.length≤400*i→
  ∃n,Yz (Wq l) n (.to (.h1 (plZ l).length bx now (plZ l).length ((plZ l).length :Int) (i:Int) (Wr (Xu (zsQ l)))))=.ret (resR l (goP l ((plZ l).drop i) now bx))
 | 0,i,now,bx,h,hb=>by have _u:=ha;have _v:=hl;rw [Av (show (plZ l).length ≤i by omega)];have o2:z2h (Xk bx)=true:=Ah (v2r bx);have o3:z2x (Js (Xk bx)) l=true:=Ah (by have:=j3g (L:=Xk bx);omega);refine ⟨1,?_⟩;rw [Zv];simp (disch:=omega) only [Wq,Yx,Zm,show∀x,z1w x=true from fun _=>rfl,o2,o3,Ab,Aa];show Yz (Wq l) 0 _=.ret (y4z (finE l bx) (Xk bx));unfold finE y4z;cases (Vd bx != 0) <;> cases (z4d (Xk bx) != 0) <;> cases (y8y (Js (Xk bx)) l) <;> rfl
 | k +1,i,now,bx,h,hb=>by
  have hi:i<(plZ l).length :=by omega
  have hp:(plZ l).length ≤3000:=AG (z3o _) (AG (y7z l) hl);have hpl:(Wr (Xu (zsQ l))).length =(zsQ l).length :=by rw [Jw,Xo]
  have hcl:(plZ l).length ≤(zsQ l).length :=z3o _;have r0:rd (Wr (Xu (zsQ l))) i=rd (plZ l) i:=z4v _ _ hi;obtain ⟨n2,h2⟩:=u8e l hl ha (plZ l).length bx now (i:Int) (rd (plZ l) i) (plZ l).length ((plZ l).length :Int) (i:Int) (Wr (Xu (zsQ l))) l.length 0 [] [] (Ag _) (Aq _) (Aq _) rfl rfl;have st: ∀N,Yz (Wq l) (N+n2+1) (.to (.h1 (plZ l).length bx now (plZ l).length ((plZ l).length :Int) (i:Int) (Wr (Xu (zsQ l)))))=Yz (Wq l) N (bif j6w now (zQ 4 l (rd (plZ l) i)) (zQ 5 l (rd (plZ l) i)) then .ret [.nils,.int .i64 28] else
    .to (.h3 (plZ l).length bx (x1w now (zQ 4 l (rd (plZ l) i)) (zQ 5 l (rd (plZ l) i))) (i:Int) (rd (plZ l) i) (plZ l).length ((plZ l).length :Int) (i:Int) (x1w now (zQ 4 l (rd (plZ l) i)) (zQ 5 l (rd (plZ l) i))) ((x1w now (zQ 4 l (rd (plZ l) i)) (zQ 5 l (rd (plZ l) i))).length :Int) 0 (Wr (Xu (zsQ l))))):=fun N=>by
   rw [←h2 N,Zv];simp (disch:=omega) only [Wq,r0,Zm,Zs,Zt,Yj,Zj,Ag,Aw,Ai,Ab,Aa];rfl
  rw [Yq hi];rcases Yp (j6w now (zQ 4 l (rd (plZ l) i)) (zQ 5 l (rd (plZ l) i))) with g | g
  ·refine ⟨0+n2+1,?_⟩;rw [st 0,g,Ab,Za];unfold goP;rw [g];rfl
  ·have hn4:(x1w now (zQ 4 l (rd (plZ l) i)) (zQ 5 l (rd (plZ l) i))).length ≤400:=u6w;obtain ⟨n3,h3⟩:=v5o l hl ha (plZ l).length hp (x1w now (zQ 4 l (rd (plZ l) i)) (zQ 5 l (rd (plZ l) i))) i hi (rd (plZ l) i) ((plZ l).length :Int) (x1w now (zQ 4 l (rd (plZ l) i)) (zQ 5 l (rd (plZ l) i))) hn4 (Wr (Xu (zsQ l))) (by omega) (x1w now (zQ 4 l (rd (plZ l) i)) (zQ 5 l (rd (plZ l) i))).length 0 bx (Ag _) (by omega);rw [A0] at h3;obtain ⟨n,hn⟩:=u8f k (i+1) (x1w now (zQ 4 l (rd (plZ l) i)) (zQ 5 l (rd (plZ l) i))) (bx++bif decide (i+1<(plZ l).length) then (x1w now (zQ 4 l (rd (plZ l) i)) (zQ 5 l (rd (plZ l) i))).map (pz6 (rd (plZ l) i) (rd (Wr (Xu (zsQ l))) (i+1))) else []) (by omega) (by
    rw [Az];cases decide (i+1<(plZ l).length) with
    | true=>rw [Ab,A3];omega
    | false=>rw [Aa,B2];omega)
   refine ⟨n+n3+n2+1,?_⟩;rw [st (n+n3),g,Aa];refine (h3 n).trans (hn.trans ?_);have em:(bif decide (i+1<(plZ l).length) then (x1w now (zQ 4 l (rd (plZ l) i)) (zQ 5 l (rd (plZ l) i))).map (pz6 (rd (plZ l) i) (rd (Wr (Xu (zsQ l))) (i+1))) else [])=(match (plZ l).drop (i+1) with
     | []=>[]
     | z'::_=>(x1w now (zQ 4 l (rd (plZ l) i)) (zQ 5 l (rd (plZ l) i))).map (pz6 (rd (plZ l) i) z')):=by
    by_cases q:i+1<(plZ l).length
    ·rw [Ah q,Ab,Yq q,z4v _ _ q];rfl
    ·rw [Ay q,Aa,Av (by omega)]
   rw [em]
   conv=>rhs;unfold goP
   rw [g,Aa]
end
theorem j2t (l:List R7) (h:y5i l=true): ∃n,Yz (Wq l) n (y3g l)=.ret (y4z (x5h l) (msoL l)):=by
 unfold y3g x5h msoE;simp only [Zm,show Vx l=true from h,Ab];rcases Yp (z6h l != 0) with q | q
 ·refine ⟨0,?_⟩;rw [q,Ab,Ab,z3b _ q];rfl
 ·rw [q,Aa,Aa];obtain ⟨hl,hv⟩:=x2d (l:=l) (by simpa using q);have ha: ∀i,i<l.length→0≤(rd l i).a ∧(rd l i).a ≤5:=fun i hi=>by
   have hm:rd l i∈l:=by rw [Xz hi];exact AS hi
   have:=At.1 h _ hm;simp only [Ac,Al] at this;exact ⟨this.1,v1v (hv _ hm)⟩
  obtain ⟨n0,h0⟩:=u8g l hl ha l.length 0 [] (Ag _) (Aq _) rfl;obtain ⟨n1,h1⟩:=u8f l hl ha (plZ l).length 0 [] [] (Ag _) (Aq _);refine ⟨n1+n0,?_⟩;refine (h0 n1).trans (h1.trans ?_);rw [A0];unfold msoL;cases goP l (plZ l) [] [] with
  | none=>rfl
  | some bx=>rfl
def fMso :List AVal→Option (AVal×Bool)
 | [a0]=>match asL R7 a0 with
  | some (L0,g0,n0)=>some (.tup [.dat (z1j L0).length (Zz (z1j L0)),.int .i64 (x5h L0)],isT R7 n0 g0&&(y5i L0))
  | _=>none
 | _=>none
theorem j5f {S:Specs} (hS:Zu prog S):Zu prog (S.with v5j fMso):=by
 refine v1m hS (by kernel_rfl) fun args v h=> ?_;unfold fMso at h;split at h
 ·rename_i a0;split at h
  ·rename_i L0 g0 n0 e0;simp only [Ae,Ad,Ac] at h;obtain ⟨rfl,ho0,hw⟩:=h;obtain ⟨N,hN⟩:=j2t L0 hw;exact ⟨_,_,(.cons (asL_le e0 ho0) .nil),z5p _ _,u1u L0 N _ hN,3,z9s _ _⟩
  ·cases h
 ·cases h
def Mi :Specs:=(Mh.with v5j fMso)
theorem Vm :Zu prog Mi:=(j5f Qe)
abbrev w4s :Nat:=96
abbrev w4t :Nat:=97
abbrev w4r :Nat:=139
abbrev v5n :Nat:=174
abbrev u8a :Nat:=192
abbrev w4n :Nat:=50
abbrev x5g :Nat:=49
def shQ (q:Ax) (L:List R6) (t u w:Int):Bool:=match q with
 | .x =>j0u L t u w
 | .y =>j0u L u t w
 | .z =>j0u L u w t
def x1g (q:Ax) (L:List R6) (t u w:Int):Bool:=match q with
 | .x =>z1y L t u w
 | .y =>z1y L u t w
 | .z =>z1y L u w t
def Ax.l (q:Ax) (a b c:Int):Int:=match q with
 | .x =>a
 | .y =>b
 | .z =>c
def Ax.u (q:Ax) (a b:Int):Int:=match q with
 | .x =>b
 | .y =>a
 | .z =>a
def Ax.w (q:Ax) (a b:Int):Int:=match q with
 | .x =>b
 | .y =>b
 | .z =>a
inductive mpuS where
 | h0 (v15:List Int) (v32:Int)
 | h1 (v15:List Int) (v20:Int) (v21:Int) (v22:Int) (v23:Int)
abbrev Qo (v15:List Int):=(Xu (Yy v15.length (cOf (Zz v15))))
abbrev z4b (v15:List Int) (q:Ax) (l1:List R6) (v32:Int):=(v15++[(Ax.hi q (rd l1 (tn v32)))])
abbrev w4z (v15:List Int) (q:Ax) (l1:List R6) (v32:Int):=(Zi (Zz v15) 0 v15.length 1 [(ii (Ax.hi q (rd l1 (tn v32))))])
def mpuC (q:Ax) (l1:List R6) (x2:Int) (x3:Int) (x4:Int) (x5:Int) (x6:Bool):mpuS→Cfg
 | .h0 v15 v32=>⟨⟨122,0,true⟩,none,(Zd prog 58 [1,1,1,0,1,0,0] 0),none,(Zy prog 58),⟨Yb [(1,(.dat l1.length (Zz l1))),(2,(ii x2)),(3,(ii x3)),(4,(ii x4)),(5,(ii x5)),(6,(.bool x6)),(7,(.ptr 0 0)),(15,(.sla 1 1 0 v15.length (.un 1))),(30,(.dat l1.length (Zz l1))),(31,(ii (l1.length:Int))),(32,(ii v32))],Vb [⟨[(.fn (nV1 q) []),(.fn (nV2 q) []),(.fn (nV3 q) [])],84,none⟩,⟨rows v15.length (Zz v15),3,some ⟨1,v15.length,(Zz v15)⟩⟩] 0,2,[],true⟩,[],.leaf⟩
 | .h1 v15 v20 v21 v22 v23=>⟨⟨122,0,true⟩,none,(Zd prog 58 [1,1,1,1,1,1,1,1,0,1,0,0] 0),none,(Zy prog 58),⟨Yb [(1,(.dat l1.length (Zz l1))),(2,(ii x2)),(7,(.ptr 0 0)),(15,(.sla 1 1 0 v15.length (.un 1))),(20,(ii v20)),(21,(ii v21)),(22,(ii v22)),(23,(ii v23))],Vb [⟨[(.fn (nV1 q) []),(.fn (nV2 q) []),(.fn (nV3 q) [])],84,none⟩,⟨rows v15.length (Zz v15),3,some ⟨1,v15.length,(Zz v15)⟩⟩] 0,2,[],true⟩,[],.leaf⟩
def y7q :List (Option (List Nat)):=[some [1,2,3,4,5,6,7,15,30,31,32]]
def y7r :List (Option (List Nat)):=[]
def v5r :List (Option (List Nat)):=[some [1,2,7,15,20,21,22,23]]
def v5s :List (Option (List Nat)):=[]
def Kc (q:Ax) (l1:List R6) (x2:Int) (x3:Int) (x4:Int) (x5:Int) (x6:Bool):mpuS→Xp mpuS
 | .h0 v15 v32=>(bif (decide (v32<(l1.length:Int))) then (bif ((decide (0≤v32∧v32<(l1.length:Int)))&&true) then (bif (decide (x4<(Ax.lo q (rd l1 v32.toNat)))) then (bif (decide ((Ax.lo q (rd l1 v32.toNat))<x5)) then (bif (Nat.beq 1 1&&((decide (0+v15.length=v15.length))&&decide ((v15.length+1+1)*(8+1)≤Jd))) then (bif (decide (x4<(Ax.hi q (rd l1 v32.toNat)))) then (bif (decide ((Ax.hi q (rd l1 v32.toNat))<x5)) then (bif (Nat.beq 1 1&&((decide (0+(v15.length+1)=(v15.length+1)))&&decide (((v15.length+1)+1+1)*(8+1)≤Jd))) then (.to (.h0 ((v15++[(Ax.lo q (rd l1 v32.toNat))])++[(Ax.hi q (rd l1 v32.toNat))]) (wrap .i64 (v32+1)))) else .stuck) else (.to (.h0 (v15++[(Ax.lo q (rd l1 v32.toNat))]) (wrap .i64 (v32+1))))) else (.to (.h0 (v15++[(Ax.lo q (rd l1 v32.toNat))]) (wrap .i64 (v32+1))))) else .stuck) else (bif (decide (x4<(Ax.hi q (rd l1 v32.toNat)))) then (bif (decide ((Ax.hi q (rd l1 v32.toNat))<x5)) then (bif (Nat.beq 1 1&&((decide (0+v15.length=v15.length))&&decide ((v15.length+1+1)*(8+1)≤Jd))) then (.to (.h0 (v15++[(Ax.hi q (rd l1 v32.toNat))]) (wrap .i64 (v32+1)))) else .stuck) else (.to (.h0 v15 (wrap .i64 (v32+1))))) else (.to (.h0 v15 (wrap .i64 (v32+1)))))) else (bif (decide (x4<(Ax.hi q (rd l1 v32.toNat)))) then (bif (decide ((Ax.hi q (rd l1 v32.toNat))<x5)) then (bif (Nat.beq 1 1&&((decide (0+v15.length=v15.length))&&decide ((v15.length+1+1)*(8+1)≤Jd))) then (.to (.h0 (v15++[(Ax.hi q (rd l1 v32.toNat))]) (wrap .i64 (v32+1)))) else .stuck) else (.to (.h0 v15 (wrap .i64 (v32+1))))) else (.to (.h0 v15 (wrap .i64 (v32+1)))))) else .stuck) else (bif (decide (v15.length<4611686018427387904)) then (bif (decide (v15.length=v15.length)) then (bif (!x6) then (.to (.h1 (Xu (Yy v15.length (cOf (Zz v15)))) (wrap .i64 (x3 - 1)) x3 0 1)) else (.to (.h1 (Xu (Yy v15.length (cOf (Zz v15)))) x3 (wrap .i64 (x3 - 1)) 0 1))) else .stuck) else .stuck))
 | .h1 v15 v20 v21 v22 v23=>(bif (decide (v23<(v15.length:Int))) then (bif ((decide (0≤(wrap .i64 (v23 - 1))∧(wrap .i64 (v23 - 1))<(v15.length:Int)))&&true) then (bif (decide ((0+(Int.toNat (wrap .i64 (v23 - 1))))<v15.length)) then (bif (x1g q (cvT l1) (rd v15 (0+(Int.toNat (wrap .i64 (v23 - 1))))) (wrap .i64 (x2 - 1)) v20) then (bif (!(shQ q (cvT l1) (rd v15 (0+(Int.toNat (wrap .i64 (v23 - 1))))) (wrap .i64 (x2 - 1)) v20)) then (bif (x1g q (cvT l1) (rd v15 (0+(Int.toNat (wrap .i64 (v23 - 1))))) x2 v21) then (bif (!(shQ q (cvT l1) (rd v15 (0+(Int.toNat (wrap .i64 (v23 - 1))))) x2 v21)) then (bif ((decide (0≤v23∧v23<(v15.length:Int)))&&true) then (bif (decide ((0+v23.toNat)<v15.length)) then (.to (.h1 v15 v20 v21 (wrap .i64 (v22+(wrap .i64 ((rd v15 (0+v23.toNat)) - (rd v15 (0+(Int.toNat (wrap .i64 (v23 - 1))))))))) (wrap .i64 (v23+1)))) else .stuck) else .stuck) else (.to (.h1 v15 v20 v21 v22 (wrap .i64 (v23+1))))) else .stuck) else (.to (.h1 v15 v20 v21 v22 (wrap .i64 (v23+1))))) else .stuck) else .stuck) else .stuck) else (.ret [(.int .i64 v22)]))
def y3h (q:Ax) (l1:List R6) (x2:Int) (x3:Int) (x4:Int) (x5:Int) (x6:Bool):Xp mpuS:=(bif (decide (x4≥x5)) then (.ret [(.int .i64 0)]) else (.to (.h0 ([x4,x5]:List Int) 0)))
theorem w8v (q:Ax) (l1:List R6) (x2:Int) (x3:Int) (x4:Int) (x5:Int) (x6:Bool): ∀s,Yr prog (Zy prog 58) (mpuC q l1 x2 x3 x4 x5 x6) (mpuC q l1 x2 x3 x4 x5 x6 s) (Kc q l1 x2 x3 x4 x5 x6 s):=by cases q <;> refine (?f: ∀q:Ax,∀s,Yr prog (Zy prog 58) (mpuC q l1 x2 x3 x4 x5 x6) (mpuC q l1 x2 x3 x4 x5 x6 s) (Kc q l1 x2 x3 x4 x5 x6 s)) _ <;> exact fun q=>fun
 | .h0 v15 v32=>(lb (fun k0=>(lo fun aG=>(lb (fun k1=>(lb (fun k2=>(lo fun cJ=>(lb (fun k3=>(lb (fun k4=>(lo fun o0=>(sl Vm 111 [] ⟨[0,8],[],y7q,y7r⟩ ⟨[(15,.len ((v15++[(Ax.lo q (rd l1 (tn v32)))])++[(Ax.hi q (rd l1 (tn v32)))]).length)],[.keep,.rowed 1 ((v15++[(Ax.lo q (rd l1 (tn v32)))])++[(Ax.hi q (rd l1 (tn v32)))]).length (Zz ((v15++[(Ax.lo q (rd l1 (tn v32)))])++[(Ax.hi q (rd l1 (tn v32)))]))],[]⟩ (bl 15 15867) (pp (xL ((v15.length+1)+1) ((v15++[(Ax.lo q (rd l1 (tn v32)))])++[(Ax.hi q (rd l1 (tn v32)))]).length) (pp (xL ((v15.length+1)+1) ((v15++[(Ax.lo q (rd l1 (tn v32)))])++[(Ax.hi q (rd l1 (tn v32)))]).length) (pp (xS ((v15.length+1)+1) (Zi (Zi (Zz v15) 0 v15.length 1 [(ii (Ax.lo q (rd l1 (tn v32))))]) 0 (v15.length+1) 1 [(ii (Ax.hi q (rd l1 (tn v32))))]) (Zz ((v15++[(Ax.lo q (rd l1 (tn v32)))])++[(Ax.hi q (rd l1 (tn v32)))]))) (pp (pp (xF (Zi (Zi (Zz v15) 0 v15.length 1 [(ii (Ax.lo q (rd l1 (tn v32))))]) 0 (v15.length+1) 1 [(ii (Ax.hi q (rd l1 (tn v32))))])) nn) (ww o0 (tt k4 (tt k3 (ww cJ (tt k2 (tt k1 (ww aG (tt k0 nn))))))))))))))) (fun k4=>(sl Vm 105 [] ⟨[0,6],[],y7q,y7r⟩ ⟨[(15,.len (v15++[(Ax.lo q (rd l1 (tn v32)))]).length)],[.keep,.rowed 1 (v15++[(Ax.lo q (rd l1 (tn v32)))]).length (Zz (v15++[(Ax.lo q (rd l1 (tn v32)))]))],[]⟩ (bl 15 7675) (pp (xL (v15.length+1) (v15++[(Ax.lo q (rd l1 (tn v32)))]).length) (pp (xL (v15.length+1) (v15++[(Ax.lo q (rd l1 (tn v32)))]).length) (pp (xS (v15.length+1) (Zi (Zz v15) 0 v15.length 1 [(ii (Ax.lo q (rd l1 (tn v32))))]) (Zz (v15++[(Ax.lo q (rd l1 (tn v32)))]))) (pp (pp (xF (Zi (Zz v15) 0 v15.length 1 [(ii (Ax.lo q (rd l1 (tn v32))))])) nn) (tt k4 (tt k3 (ww cJ (tt k2 (tt k1 (ww aG (tt k0 nn))))))))))))))) (fun k3=>(sl Vm 105 [] ⟨[0,6],[],y7q,y7r⟩ ⟨[(15,.len (v15++[(Ax.lo q (rd l1 (tn v32)))]).length)],[.keep,.rowed 1 (v15++[(Ax.lo q (rd l1 (tn v32)))]).length (Zz (v15++[(Ax.lo q (rd l1 (tn v32)))]))],[]⟩ (bl 15 507) (pp (xL (v15.length+1) (v15++[(Ax.lo q (rd l1 (tn v32)))]).length) (pp (xL (v15.length+1) (v15++[(Ax.lo q (rd l1 (tn v32)))]).length) (pp (xS (v15.length+1) (Zi (Zz v15) 0 v15.length 1 [(ii (Ax.lo q (rd l1 (tn v32))))]) (Zz (v15++[(Ax.lo q (rd l1 (tn v32)))]))) (pp (pp (xF (Zi (Zz v15) 0 v15.length 1 [(ii (Ax.lo q (rd l1 (tn v32))))])) nn) (tt k3 (ww cJ (tt k2 (tt k1 (ww aG (tt k0 nn))))))))))))))) (fun k2=>(lb (fun k3=>(lb (fun k4=>(lo fun o0=>(sl Vm 105 [] ⟨[0,6],[],y7q,y7r⟩ ⟨[(15,.len (z4b v15 q l1 v32).length)],[.keep,.rowed 1 (z4b v15 q l1 v32).length (Zz (z4b v15 q l1 v32))],[]⟩ (bl 15 15803) (pp (xL (v15.length+1) (z4b v15 q l1 v32).length) (pp (xL (v15.length+1) (z4b v15 q l1 v32).length) (pp (xS (v15.length+1) (w4z v15 q l1 v32) (Zz (z4b v15 q l1 v32))) (pp (pp (xF (w4z v15 q l1 v32)) nn) (ww o0 (tt k4 (tt k3 (tt k2 (tt k1 (ww aG (tt k0 nn)))))))))))))) (fun k4=>(sl Vm 99 [] ⟨[0,1],[],y7q,y7r⟩ ⟨[],[],[]⟩ (bl 15 7611) (pp (fl v15 nn) (tt k4 (tt k3 (tt k2 (tt k1 (ww aG (tt k0 nn))))))))))) (fun k3=>(sl Vm 99 [] ⟨[0,1],[],y7q,y7r⟩ ⟨[],[],[]⟩ (bl 15 443) (pp (fl v15 nn) (tt k3 (tt k2 (tt k1 (ww aG (tt k0 nn)))))))))))) (fun k1=>(lb (fun k2=>(lb (fun k3=>(lo fun o0=>(sl Vm 105 [] ⟨[0,6],[],y7q,y7r⟩ ⟨[(15,.len (z4b v15 q l1 v32).length)],[.keep,.rowed 1 (z4b v15 q l1 v32).length (Zz (z4b v15 q l1 v32))],[]⟩ (bl 15 15747) (pp (xL (v15.length+1) (z4b v15 q l1 v32).length) (pp (xL (v15.length+1) (z4b v15 q l1 v32).length) (pp (xS (v15.length+1) (w4z v15 q l1 v32) (Zz (z4b v15 q l1 v32))) (pp (pp (xF (w4z v15 q l1 v32)) nn) (ww o0 (tt k3 (tt k2 (tt k1 (ww aG (tt k0 nn))))))))))))) (fun k3=>(sl Vm 99 [] ⟨[0,1],[],y7q,y7r⟩ ⟨[],[],[]⟩ (bl 15 7555) (pp (fl v15 nn) (tt k3 (tt k2 (tt k1 (ww aG (tt k0 nn)))))))))) (fun k2=>(sl Vm 99 [] ⟨[0,1],[],y7q,y7r⟩ ⟨[],[],[]⟩ (bl 15 387) (pp (fl v15 nn) (tt k2 (tt k1 (ww aG (tt k0 nn)))))))))))) (fun k0=>(lo fun aG=>(lo fun bF=>(lb (fun k1=>(sl Vm 45 [] ⟨[0,1],[],v5r,v5s⟩ ⟨[(15,.len (Qo v15).length)],[.keep,.rowed 1 (Qo v15).length (Zz (Qo v15))],[]⟩ (bl 2 2) (pp (xL v15.length (Qo v15).length (Vu (by rw [Xo,Wv]))) (pp (xL v15.length (Qo v15).length (Vu (by rw [Xo,Wv]))) (pp (xS v15.length (Zz (Qo v15)) (Zz (Qo v15))) (pp (fl (Qo v15) nn) (tt k1 (pp (pp (xG (Nat.beq 1 1)) (pp (xG (Nat.beq 1 1)) (pp (xG (Nat.beq 0 0)) (pp (xG (decide (v15.length=v15.length))) (pp (xG (isI (Zz v15))) (xG (decide (v15.length<4611686018427387904)))))))) (tt k0 nn))))))))) (fun k1=>(sl Vm 39 [] ⟨[0,1],[],v5r,v5s⟩ ⟨[(15,.len (Qo v15).length)],[.keep,.rowed 1 (Qo v15).length (Zz (Qo v15))],[]⟩ (bl 2 0) (pp (xL v15.length (Qo v15).length (Vu (by rw [Xo,Wv]))) (pp (xL v15.length (Qo v15).length (Vu (by rw [Xo,Wv]))) (pp (xS v15.length (Zz (Qo v15)) (Zz (Qo v15))) (pp (fl (Qo v15) nn) (tt k1 (pp (pp (xG (Nat.beq 1 1)) (pp (xG (Nat.beq 1 1)) (pp (xG (Nat.beq 0 0)) (pp (xG (decide (v15.length=v15.length))) (pp (xG (isI (Zz v15))) (xG (decide (v15.length<4611686018427387904)))))))) (tt k0 nn))))))))))))))
 | .h1 v15 v20 v21 v22 v23=>(lb (fun k0=>(lo fun aG=>(lo fun bF=>(lo fun cD=>(lb (fun k1=>(lo fun cH=>(lb (fun k2=>(lo fun o0=>(lo fun o1=>(sl Vm 23 [] ⟨[0,1],[],v5r,v5s⟩ ⟨[],[],[]⟩ (trs 15 []) (pp (fl v15 nn) (ww bF (ww aG (ww o1 (ww o0 (tt k2 (pp (pp (xr l1) (xw cH)) (ww bF (ww aG (tt k1 (pp (pp (xr l1) (xw cD)) (ww bF (ww aG (tt k0 nn)))))))))))))))))) (fun k2=>(sl Vm 23 [] ⟨[0,1],[],v5r,v5s⟩ ⟨[],[],[]⟩ (trs 14 [false]) (pp (fl v15 nn) (tt k2 (pp (pp (xr l1) (xw cH)) (ww bF (ww aG (tt k1 (pp (pp (xr l1) (xw cD)) (ww bF (ww aG (tt k0 nn))))))))))))))) (fun k1=>(sl Vm 23 [] ⟨[0,1],[],v5r,v5s⟩ ⟨[],[],[]⟩ (bl 15 1) (pp (fl v15 nn) (tt k1 (pp (pp (xr l1) (xw cD)) (ww bF (ww aG (tt k0 nn))))))))))))) (fun k0=>(lr 122 3 [1,1,1,1,1,1,1,0] 1 58 [(14,(ii v22))] (sl Vm 15 [] ⟨[],[],[some [14]],[]⟩ ⟨[],[],[]⟩ [false] (tt k0 nn)))))
theorem x9o (q:Ax) (l1:List R6) (x2:Int) (x3:Int) (x4:Int) (x5:Int) (x6:Bool):Yr prog (Zy prog 58) (mpuC q l1 x2 x3 x4 x5 x6) (Zb prog 58 [(.agg [(.fn (nV1 q) []),(.fn (nV2 q) []),(.fn (nV3 q) [])]),(.dat l1.length (Zz l1)),(.int .i64 x2),(.int .i64 x3),(.int .i64 x4),(.int .i64 x5),(.bool x6)] true []) (y3h q l1 x2 x3 x4 x5 x6):=by cases q <;> exact (lb (fun k0=>(lr 122 58 [1,0,1,0,0] 1 58 [(14,(ii 0))] (sl Vm 17 [] ⟨[],[],[some [14]],[]⟩ ⟨[],[],[]⟩ [true] (tt k0 nn)))) (fun k0=>(sl Vm 30 [] ⟨[0,1],[],y7q,y7r⟩ ⟨[(15,.grow 1 1)],[.keep,.rowed 1 ([x4,x5]:List Int).length (Zz ([x4,x5]:List Int))],[]⟩ [false] (pp (xG (x8j [(ii x4),(ii x5)] 1 ([x4,x5]:List Int).length (Zz ([x4,x5]:List Int)))) (tt k0 nn)))))
theorem u1v (q:Ax) (l1:List R6) (x2:Int) (x3:Int) (x4:Int) (x5:Int) (x6:Bool) (n:Nat) (vs:List AVal) (h:Yz (Kc q l1 x2 x3 x4 x5 x6) n (y3h q l1 x2 x3 x4 x5 x6)=.ret vs):Ji prog (Zy prog 58) (Zb prog 58 [(.agg [(.fn (nV1 q) []),(.fn (nV2 q) []),(.fn (nV3 q) [])]),(.dat l1.length (Zz l1)),(.int .i64 x2),(.int .i64 x3),(.int .i64 x4),(.int .i64 x5),(.bool x6)] true []) vs:=by have:=Ze (w8v q l1 x2 x3 x4 x5 x6) n _ (x9o q l1 x2 x3 x4 x5 x6);rwa [h] at this
def gO (q:Ax) (L:List R6) (x f s t:Int):Int:=bif shQ q L t (x - 1) f then 0 else bif shQ q L t x s then 0 else 1
def sgS (g:Int→Int):Int→List Int→Int
 | _,[]=>0
 | a,b::l=>g a*(b - a)+sgS g b l
def sgL (g:Int→Int):List Int→Int
 | []=>0
 | a::l=>sgS g a l
def v6l (lo hi c:Int):List Int:=bif decide (lo<c) then (bif decide (c<hi) then [c] else []) else []
def v7v (q:Ax) (lo hi:Int):List R6→List Int
 | []=>[]
 | r::L=>v6l lo hi (q.lo r)++(v6l lo hi (q.hi r)++v7v q lo hi L)
def w8w (q:Ax) (L:List R6) (x y lo hi:Int) (b:Bool):Int:=bif decide (lo≥hi) then 0 else wrap .i64 (sgL (gO q L x (bif b then y else y - 1) (bif b then y - 1 else y)) (Xu ([lo,hi]++v7v q lo hi L)))
def Qa (q:Ax) (L:List R6) (x y lo hi:Int) (b:Bool):Bool:=decide (L.length≤400∧ -1000000≤x∧x≤1000000∧ -1000000≤y∧y≤1000000)
theorem v6k (lo hi c:Int):(v6l lo hi c).length ≤1:=by unfold v6l;cases decide (lo<c) <;> cases decide (c<hi) <;> simp
theorem shQ_ow {q:Ax} {L:List R6} (h:L.length≤400) (t u w:Int):x1g q L t u w=true:=by have:z1y L t u w=true:=Ah (by omega);cases q <;> exact Ah (by omega)
theorem w4y (q:Ax) (L:List R6) (hl:L.length≤400) (x y lo hi:Int) (b:Bool) (hx: -1000000≤x∧x≤1000000) (C:List Int) (hC:C.length≤100000) (f s:Int): ∀(k j:Nat) (S:Int),j+1+k=C.length→
  ∃N,Yz (Kc q L x y lo hi b) N (.to (.h1 C f s (wrap .i64 S) ((j+1:Nat):Int)))=.ret [.int .i64 (wrap .i64 (S+sgS (gO q L x f s) (rd C j) (C.drop (j+1))))]
 | 0,j,S,h=>by refine ⟨1,?_⟩;rw [Zv,Av (by omega)];have g:decide (((j+1:Nat):Int)<(C.length:Int))=false:=Ay (by omega);simp only [Kc,g,Aa,Za];show _=Xp.ret [.int .i64 (wrap .i64 (S+0))];rw [A5]
 | k+1,j,S,h=>by
  have hj:j+1<C.length:=by omega
  have g1:decide (((j+1:Nat):Int)<(C.length:Int))=true:=Ah (by omega);have w1:wrap .i64 (((j+1:Nat):Int) - 1)=(j:Int):=by rw [Zq (by omega)];omega
  have g2:decide (0≤(j:Int)∧(j:Int)<(C.length:Int))=true:=Ah (by omega);have g3:decide (0+j<C.length)=true:=Ah (by omega);have g4:decide (0≤((j+1:Nat):Int)∧((j+1:Nat):Int)<(C.length:Int))=true:=Ah (by omega);have g5:decide (0+(j+1)<C.length)=true:=Ah (by omega);have wx:wrap .i64 (x - 1)=x - 1:=Zq (by omega);have w3:wrap .i64 (((j+1:Nat):Int)+1)=((j+1+1:Nat):Int):=by rw [Zq (by omega)];omega
  have o:=fun t u w=>shQ_ow (q:=q) hl t u w;have e:sgS (gO q L x f s) (rd C j) (C.drop (j+1))=gO q L x f s (rd C j)*(rd C (j+1) - rd C j)+sgS (gO q L x f s) (rd C (j+1)) (C.drop (j+1+1)):=by rw [Yq hj];rfl
  rw [e];have a0: ∀z,S+(0*z+sgS (gO q L x f s) (rd C (j+1)) (C.drop (j+1+1)))=S+sgS (gO q L x f s) (rd C (j+1)) (C.drop (j+1+1)):=fun z=>by omega
  rcases Yp (shQ q L (rd C j) (x - 1) f) with q1 | q1
  ·obtain ⟨N,hN⟩:=w4y q L hl x y lo hi b hx C hC f s k (j+1) S (by omega);refine ⟨N+1,?_⟩;rw [show gO q L x f s (rd C j)=0 by unfold gO;rw [q1];rfl,a0,←hN,Zv]
   congr 1
   simp only [Kc,Zm,g1,w1,g2,g3,Zj,Ag,wx,w3,o,q1,Ai,AC,Ab,Aa,Ah (show j<C.length by omega)]
  rcases Yp (shQ q L (rd C j) x s) with q2 | q2
  ·obtain ⟨N,hN⟩:=w4y q L hl x y lo hi b hx C hC f s k (j+1) S (by omega);refine ⟨N+1,?_⟩;rw [show gO q L x f s (rd C j)=0 by unfold gO;rw [q1,q2];rfl,a0,←hN,Zv]
   congr 1
   simp only [Kc,Zm,g1,w1,g2,g3,Zj,Ag,wx,w3,o,q1,q2,Ai,AC,AH,Ab,Aa,Ah (show j<C.length by omega)]
  ·obtain ⟨N,hN⟩:=w4y q L hl x y lo hi b hx C hC f s k (j+1) (S+(rd C (j+1) - rd C j)) (by omega);refine ⟨N+1,?_⟩;have wp:wrap .i64 (wrap .i64 S+wrap .i64 (rd C (j+1) - rd C j))=wrap .i64 (S+(rd C (j+1) - rd C j)):=Cg.eq ((Cg.wrap S).add (Cg.wrap _));rw [show gO q L x f s (rd C j)=1 by unfold gO;rw [q1,q2];rfl,Cx,←Int.add_assoc,←hN,Zv]
   congr 1
   simp only [Kc,Zm,g1,w1,g2,g4,Zj,Ag,wx,w3,wp,o,q1,q2,Ai,AH,Ab,Aa,Ah (show j<C.length by omega),Ah hj]
theorem u8i (q:Ax) (L:List R6) (hl:L.length≤400) (x y lo hi:Int) (b:Bool) (hx: -1000000≤x∧x≤1000000) (hy: -1000000≤y∧y≤1000000): ∀(k i:Nat) (acc:List Int),i+k=L.length→acc.length≤2+2*i→2≤acc.length→
  ∃N,Yz (Kc q L x y lo hi b) N (.to (.h0 acc (i:Int)))=.ret [.int .i64 (wrap .i64 (sgL (gO q L x (bif b then y else y - 1) (bif b then y - 1 else y)) (Xu (acc++v7v q lo hi (L.drop i)))))]
 | 0,i,acc,h,ha,h2=>by
  have:i=L.length:=by omega
  subst this;rw [Av (Aq _)];show∃N,_=Xp.ret [.int .i64 (wrap .i64 (sgL _ (Xu (acc++[]))))];rw [AB];have hs:(Xu acc).length =acc.length:=Xo acc;have key: ∀f s,∃N,Yz (Kc q L x y lo hi b) N (.to (.h1 (Xu acc) f s 0 1))=.ret [.int .i64 (wrap .i64 (sgL (gO q L x f s) (Xu acc)))]:=fun f s=>by
   obtain ⟨N,hN⟩:=w4y q L hl x y lo hi b hx (Xu acc) (by omega) f s ((Xu acc).length - 1) 0 0 (by omega);refine ⟨N,?_⟩;rw [show wrap .i64 0=0 from rfl,show ((0+1:Nat):Int)=1 from rfl,BN] at hN;rw [hN]
   congr 4
   cases e:Xu acc with
   | nil=>rw [e] at hs;simp at hs;omega
   | cons a l=>rfl
  have g1:decide ((L.length:Int)<(L.length:Int))=false:=Ay (by omega);have g2:decide (acc.length<4611686018427387904)=true:=Ah (by omega);have g3:decide (acc.length=acc.length)=true:=Ah rfl;have wy:wrap .i64 (y - 1)=y - 1:=Zq (by omega);cases b with
  | true=>obtain ⟨N,hN⟩:=key y (y - 1);refine ⟨N+1,?_⟩;rw [Zv];simp only [Kc,g1,g2,g3,Wv,wy,AC,Ab,Aa];exact hN
  | false=>obtain ⟨N,hN⟩:=key (y - 1) y;refine ⟨N+1,?_⟩;rw [Zv];simp only [Kc,g1,g2,g3,Wv,wy,AH,Ab,Aa];exact hN
 | k+1,i,acc,h,ha,h2=>by
  have hi':i<L.length:=by omega
  have l1:=v6k lo hi (q.lo (rd L i));have l2:=v6k lo hi (q.hi (rd L i));obtain ⟨N,hN⟩:=u8i q L hl x y lo hi b hx hy k (i+1) (acc++v6l lo hi (q.lo (rd L i))++v6l lo hi (q.hi (rd L i))) (by omega) (by simp only [Az];omega) (by simp only [Az];omega);refine ⟨N+1,?_⟩;rw [Yq hi'];show _=Xp.ret [.int .i64 (wrap .i64 (sgL _ (Xu (acc++(v6l lo hi (q.lo (rd L i))++(v6l lo hi (q.hi (rd L i))++v7v q lo hi (L.drop (i+1))))))))];rw [←AM,←AM,←hN,Zv]
  congr 1
  have g1:decide ((i:Int)<(L.length:Int))=true:=Ah (by omega);have g2:decide (0≤(i:Int)∧(i:Int)<(L.length:Int))=true:=Ah (by omega);have w3:wrap .i64 ((i:Int)+1)=((i+1:Nat):Int):=by rw [Zq (by omega)];rfl
  have r1:decide ((acc.length+1+1)*(8+1)≤Jd)=true:=Zh (by omega);have r2:decide ((acc.length+1+1+1)*(8+1)≤Jd)=true:=Zh (by omega);have m1:decide (0+acc.length=acc.length)=true:=Ah (by omega);have m2:decide (0+(acc.length+1)=acc.length+1)=true:=Ah (by omega);have b1:Nat.beq 1 1=true:=rfl;unfold v6l;rcases Yp (decide (lo<q.lo (rd L i))) with q1 | q1 <;> rcases Yp (decide (q.lo (rd L i)<hi)) with q2 | q2 <;> rcases Yp (decide (lo<q.hi (rd L i))) with q3 | q3 <;> rcases Yp (decide (q.hi (rd L i)<hi)) with q4 | q4 <;>
   simp only [Kc,g1,g2,w3,Zj,q1,q2,q3,q4,r1,r2,m1,m2,b1,Ai,An,Ab,Aa,AB]
theorem j2y (q:Ax) (L:List R6) (x y lo hi:Int) (b:Bool) (h:Qa q L x y lo hi b=true): ∃N,Yz (Kc q L x y lo hi b) N (y3h q L x y lo hi b)=.ret [.int .i64 (w8w q L x y lo hi b)]:=by
 have h:=AF h;unfold y3h w8w;rcases Yp (decide (lo≥hi)) with q1 | q1 <;> rw [q1]
 ·exact ⟨0,rfl⟩
 ·obtain ⟨N,hN⟩:=u8i q L h.1 x y lo hi b ⟨h.2.1,h.2.2.1⟩ ⟨h.2.2.2.1,h.2.2.2.2⟩ L.length 0 [lo,hi] (Ag _) (by simp) (by simp);exact ⟨N,hN⟩
def fMpu :List AVal→Option (AVal×Bool)
 | [.agg [.fn a [],.fn b [],.fn c []],a1,.int .i64 x2,.int .i64 x3,.int .i64 x4,.int .i64 x5,.bool x6]=>match axOf a b c,asL R6 a1 with
  | some q,some (L1,g1,n1)=>some (.int .i64 (w8w q L1 x2 x3 x4 x5 x6),isT R6 n1 g1&&(Qa q L1 x2 x3 x4 x5 x6))
  | _,_=>none
 | _=>none
theorem j5g {S:Specs} (hS:Zu prog S):Zu prog (S.with u7t fMpu):=by
 refine z0v hS (by kernel_rfl) fun args v h=> ?_;unfold fMpu at h;split at h
 ·rename_i a b c a1 x2 x3 x4 x5 x6;split at h
  ·rename_i q L1 g1 n1 eq e1;simp only [Ae,Ad,Ac] at h;obtain ⟨rfl,ho1,hw⟩:=h;obtain ⟨rfl,rfl,rfl⟩:=w2j eq;obtain ⟨N,hN⟩:=j2y q L1 x2 x3 x4 x5 x6 hw;exact ⟨_,_,(.cons (.refl _) (.cons (asL_le e1 ho1) (.cons (.refl _) (.cons (.refl _) (.cons (.refl _) (.cons (.refl _) (.cons (.refl _) .nil))))))),rfl,u1v q L1 x2 x3 x4 x5 x6 N _ hN,3,rfl⟩
  ·cases h
 ·cases h
def Ni :Specs:=Mi.with u7t fMpu
theorem z6d :Zu prog Ni:=j5g Vm
inductive mpgS where
 | h0 (q:Ax) (v5:Int) (v26:Int)
 | h1 (q:Ax) (v5:Int) (v26:Int) (v33:List R6) (v34:Int) (v35:Int) (aV:Int) (bC:Int) (bL:Int) (bM:Int) (bR:Int) (bV:Int)
def x1z (l0:List R6):mpgS→Cfg
 | .h0 q v5 v26=>⟨⟨125,0,true⟩,none,(Zd prog 17 [1,1,1,0,1,0,0,1,1,0,0,1,1,0,0] 0),none,(Zy prog 15),⟨Yb [(0,(.dat l0.length (Zz l0))),(5,(ii v5)),(7,(.ptr 0 0)),(20,(.agg [(.fn 105 []),(.fn 106 []),(.fn 107 []),(.fn 108 []),(.fn 109 []),(.fn 110 []),(.fn 111 []),(.fn 112 []),(.fn 113 [])])),(21,(ii q.ix)),(24,(.dat l0.length (Zz l0))),(25,(ii (l0.length:Int))),(26,(ii v26))],Vb [⟨[(.fn (nV1 q) []),(.fn (nV2 q) []),(.fn (nV3 q) [])],84,none⟩] 0,1,[],true⟩,[],.leaf⟩
 | .h1 q v5 v26 v33 v34 v35 aV bC bL bM bR bV=>⟨⟨125,0,true⟩,none,(Zd prog 17 [1,1,1,0,1,0,0,1,1,0,0,1,1,0,0,1,1,0,0,1,1,0,0] 0),none,(Zy prog 15),⟨Yb [(0,(.dat l0.length (Zz l0))),(5,(ii v5)),(7,(.ptr 0 0)),(9,(.ptr 1 0)),(20,(.agg [(.fn 105 []),(.fn 106 []),(.fn 107 []),(.fn 108 []),(.fn 109 []),(.fn 110 []),(.fn 111 []),(.fn 112 []),(.fn 113 [])])),(21,(ii q.ix)),(24,(.dat l0.length (Zz l0))),(25,(ii (l0.length:Int))),(26,(ii v26)),(33,(.dat v33.length (Zz v33))),(34,(ii v34)),(35,(ii v35))],Vb [⟨[(.fn (nV1 q) []),(.fn (nV2 q) []),(.fn (nV3 q) [])],84,none⟩,⟨[(ii aV),(ii bC),(ii bL),(ii bM),(ii bR),(ii bV)],67,none⟩] 0,2,[],true⟩,[],.leaf⟩
def u1x :List (Option (List Nat)):=[some [0,5,7,20,21,24,25,26]]
def u1y :List (Option (List Nat)):=[]
def x1x :List (Option (List Nat)):=[some [0,5,7,9,20,21,24,25,26,33,34,35]]
def x1y :List (Option (List Nat)):=[]
def mpgE (q:Ax) (v5:Int):Xp mpgS:=match q with
 | .x =>(.to (.h0 .y v5 0))
 | .y =>(.to (.h0 .z v5 0))
 | .z =>(.ret [(.int .i64 v5),(.int .i64 0)])
def We (l0:List R6):mpgS→Xp mpgS
 | .h0 q v5 v26=>(bif (decide (v26<(l0.length:Int))) then (bif ((decide (0≤v26∧v26<(l0.length:Int)))&&true) then (bif (decide (0≤v26.toNat)) then (bif (decide (v26.toNat≤l0.length)) then (bif (decide (0≤v26)) then (.to (.h1 q v5 v26 (Je l0 0 v26.toNat) ((v26.toNat:Nat):Int) 0 (rd l0 v26.toNat).a (rd l0 v26.toNat).b (rd l0 v26.toNat).c (rd l0 v26.toNat).d (rd l0 v26.toNat).e (rd l0 v26.toNat).f)) else .stuck) else .stuck) else .stuck) else .stuck) else (mpgE q v5))
 | .h1 q v5 v26 v33 v34 v35 aV bC bL bM bR bV=>(bif (decide (v35<v34)) then (bif ((decide (0≤v35∧v35<(v33.length:Int)))&&true) then (bif (decide ((q.rc (rd v33 v35.toNat)).a <(q.u aV bC))) then (bif ((q.rc (rd v33 v35.toNat)).c != (q.u aV bC)) then (.to (.h1 q v5 v26 v33 v34 (wrap .i64 (v35+1)) aV bC bL bM bR bV)) else (bif ((q.rc (rd v33 v35.toNat)).d != (q.w bC bL)) then (bif ((q.w bR bV) != (q.rc (rd v33 v35.toNat)).b) then (.to (.h1 q v5 v26 v33 v34 (wrap .i64 (v35+1)) aV bC bL bM bR bV)) else (bif (Qa q (cvT l0) (q.rc (rd v33 v35.toNat)).c (q.rc (rd v33 v35.toNat)).b (Jg (q.l aV bC bL) (q.lo (rd v33 v35.toNat))) (Jm (q.l bM bR bV) (q.hi (rd v33 v35.toNat))) ((q.rc (rd v33 v35.toNat)).d == (q.w bC bL))) then (.to (.h1 q (wrap .i64 (v5+(w8w q (cvT l0) (q.rc (rd v33 v35.toNat)).c (q.rc (rd v33 v35.toNat)).b (Jg (q.l aV bC bL) (q.lo (rd v33 v35.toNat))) (Jm (q.l bM bR bV) (q.hi (rd v33 v35.toNat))) ((q.rc (rd v33 v35.toNat)).d == (q.w bC bL))))) v26 v33 v34 (wrap .i64 (v35+1)) aV bC bL bM bR bV)) else .stuck)) else (bif (Qa q (cvT l0) (q.rc (rd v33 v35.toNat)).c (q.rc (rd v33 v35.toNat)).d (Jg (q.l aV bC bL) (q.lo (rd v33 v35.toNat))) (Jm (q.l bM bR bV) (q.hi (rd v33 v35.toNat))) ((q.rc (rd v33 v35.toNat)).d == (q.w bC bL))) then (.to (.h1 q (wrap .i64 (v5+(w8w q (cvT l0) (q.rc (rd v33 v35.toNat)).c (q.rc (rd v33 v35.toNat)).d (Jg (q.l aV bC bL) (q.lo (rd v33 v35.toNat))) (Jm (q.l bM bR bV) (q.hi (rd v33 v35.toNat))) ((q.rc (rd v33 v35.toNat)).d == (q.w bC bL))))) v26 v33 v34 (wrap .i64 (v35+1)) aV bC bL bM bR bV)) else .stuck))) else (bif ((q.u bM bR) != (q.rc (rd v33 v35.toNat)).a) then (.to (.h1 q v5 v26 v33 v34 (wrap .i64 (v35+1)) aV bC bL bM bR bV)) else (bif ((q.w bR bV) != (q.rc (rd v33 v35.toNat)).b) then (bif ((q.rc (rd v33 v35.toNat)).d != (q.w bC bL)) then (.to (.h1 q v5 v26 v33 v34 (wrap .i64 (v35+1)) aV bC bL bM bR bV)) else (bif (Qa q (cvT l0) (q.u bM bR) (q.w bC bL) (Jg (q.l aV bC bL) (q.lo (rd v33 v35.toNat))) (Jm (q.l bM bR bV) (q.hi (rd v33 v35.toNat))) ((q.w bR bV) == (q.rc (rd v33 v35.toNat)).b)) then (.to (.h1 q (wrap .i64 (v5+(w8w q (cvT l0) (q.u bM bR) (q.w bC bL) (Jg (q.l aV bC bL) (q.lo (rd v33 v35.toNat))) (Jm (q.l bM bR bV) (q.hi (rd v33 v35.toNat))) ((q.w bR bV) == (q.rc (rd v33 v35.toNat)).b)))) v26 v33 v34 (wrap .i64 (v35+1)) aV bC bL bM bR bV)) else .stuck)) else (bif (Qa q (cvT l0) (q.u bM bR) (q.w bR bV) (Jg (q.l aV bC bL) (q.lo (rd v33 v35.toNat))) (Jm (q.l bM bR bV) (q.hi (rd v33 v35.toNat))) ((q.w bR bV) == (q.rc (rd v33 v35.toNat)).b)) then (.to (.h1 q (wrap .i64 (v5+(w8w q (cvT l0) (q.u bM bR) (q.w bR bV) (Jg (q.l aV bC bL) (q.lo (rd v33 v35.toNat))) (Jm (q.l bM bR bV) (q.hi (rd v33 v35.toNat))) ((q.w bR bV) == (q.rc (rd v33 v35.toNat)).b)))) v26 v33 v34 (wrap .i64 (v35+1)) aV bC bL bM bR bV)) else .stuck)))) else .stuck) else (.to (.h0 q v5 (wrap .i64 (v26+1)))))
def y3j (l0:List R6):Xp mpgS:=(bif (Ks (cvT l0)) then (bif ((Yo (cvT l0)) != 0) then (.ret [(.int .i64 0),(.int .i64 (Yo (cvT l0)))]) else (.to (.h0 .x 0 0))) else .stuck)
theorem j3d (l0:List R6) (v5:Int) (v26:Int) (k0:(decide (v26<(l0.length:Int)))=false):Yr prog (Zy prog 17) (x1z l0) (x1z l0 (.h0 .x v5 v26)) (mpgE .x v5):=(sl z6d 36 [] ⟨[1],[],u1x,u1y⟩ ⟨[],[],[]⟩ [false,true,true,false] (tt k0 nn))
theorem j3c (l0:List R6) (v5:Int) (v26:Int) (k0:(decide (v26<(l0.length:Int)))=false):Yr prog (Zy prog 17) (x1z l0) (x1z l0 (.h0 .y v5 v26)) (mpgE .y v5):=(sl z6d 36 [] ⟨[1],[],u1x,u1y⟩ ⟨[],[],[]⟩ [false,true,true,true,false] (tt k0 nn))
theorem j3b (l0:List R6) (v5:Int) (v26:Int) (k0:(decide (v26<(l0.length:Int)))=false):Yr prog (Zy prog 17) (x1z l0) (x1z l0 (.h0 .z v5 v26)) (mpgE .z v5):=(lr 125 3 [1,1,1,1,1,1,1,0] 1 15 [(2,(ii v5)),(3,(ii 0))] (sl z6d 26 [] ⟨[],[],[some [2,3]],[]⟩ ⟨[],[],[]⟩ [false,false] (tt k0 nn)))
theorem mpg_ex (q:Ax) (l0:List R6) (v5:Int) (v26:Int) (k0:(decide (v26<(l0.length:Int)))=false):Yr prog (Zy prog 17) (x1z l0) (x1z l0 (.h0 q v5 v26)) (mpgE q v5):=match q with
 | .x =>j3d l0 v5 v26 k0
 | .y =>j3c l0 v5 v26 k0
 | .z =>j3b l0 v5 v26 k0
theorem mpg_s0 (q:Ax) (l0:List R6) (v5:Int) (v26:Int):Yr prog (Zy prog 17) (x1z l0) (x1z l0 (.h0 q v5 v26)) (We l0 (.h0 q v5 v26)):=by cases q <;> refine (?f: ∀q:Ax,Yr prog (Zy prog 17) (x1z l0) (x1z l0 (.h0 q v5 v26)) (We l0 (.h0 q v5 v26))) _ <;> exact fun q=>(lb (fun k0=>(lo fun o0=>(lo fun o1=>(lo fun o2=>(lo fun o3=>(sl z6d 28 [] ⟨[0,1],[],x1x,x1y⟩ ⟨[(33,.list (Je l0 0 (tn v26)).length (Zz (Je l0 0 (tn v26))))],[],[]⟩ [true] (pp (xL (tn v26) (Je l0 0 (tn v26)).length) (pp (xS (tn v26) (fun k=>(Zz l0) (0+k)) (Zz (Je l0 0 (tn v26)))) (pp (pp (xw o3) (pp nn (pp (xG (decide ((tn v26)≤l0.length))) (pp (xG (decide (0≤(tn v26)))) (xG (lenR l0.length (Zz l0) 6)))))) (ww o0 (tt k0 nn))))))))))) (fun k0=>mpg_ex q l0 v5 v26 k0))
theorem mpg_s1 (q:Ax) (l0:List R6) (v5:Int) (v26:Int) (v33:List R6) (v34:Int) (v35:Int) (aV:Int) (bC:Int) (bL:Int) (bM:Int) (bR:Int) (bV:Int):Yr prog (Zy prog 17) (x1z l0) (x1z l0 (.h1 q v5 v26 v33 v34 v35 aV bC bL bM bR bV)) (We l0 (.h1 q v5 v26 v33 v34 v35 aV bC bL bM bR bV)):=by cases q <;> refine (?f: ∀q:Ax,Yr prog (Zy prog 17) (x1z l0) (x1z l0 (.h1 q v5 v26 v33 v34 v35 aV bC bL bM bR bV)) (We l0 (.h1 q v5 v26 v33 v34 v35 aV bC bL bM bR bV))) _ <;> exact fun q=>(lb (fun k0=>(lo fun aG=>(lb (fun k1=>(lb (fun k2=>(sl z6d 64 [] ⟨[0,1],[],x1x,x1y⟩ ⟨[],[],[]⟩ (trs 10 []) (tt k2 (tt k1 (ww aG (tt k0 nn)))))) (fun k2=>(lb (fun k3=>(lb (fun k4=>(sl z6d 64 [] ⟨[0,1],[],x1x,x1y⟩ ⟨[],[],[]⟩ [true,true,false,false,false,false,false,false,true,true,true,true,true,false,true] (tt k4 (tt k3 (tt k2 (tt k1 (ww aG (tt k0 nn)))))))) (fun k4=>(lo fun o0=>(sl z6d 87 [] ⟨[0,1],[],x1x,x1y⟩ ⟨[],[],[]⟩ [true,true,false,false,false,false,false,false,true,true,true,true,true,false,false,true] (pp (pp (pp nn (pp nn (pp nn (pp nn (pp nn (pp nn (pp nn nn))))))) (pp (xr l0) (xw o0))) (tt k3 (tt k4 (tt k3 (tt k2 (tt k1 (ww aG (tt k0 nn))))))))))))) (fun k3=>(lo fun o0=>(sl z6d 83 [] ⟨[0,1],[],x1x,x1y⟩ ⟨[],[],[]⟩ [true,true,false,false,false,false,false,false,false,false,false,false,false,false,false,false] (pp (pp (pp nn (pp nn (pp nn (pp nn (pp nn (pp nn (pp nn nn))))))) (pp (xr l0) (xw o0))) (tt k3 (tt k3 (tt k2 (tt k1 (ww aG (tt k0 nn)))))))))))))) (fun k1=>(lb (fun k2=>(sl z6d 59 [] ⟨[0,1],[],x1x,x1y⟩ ⟨[],[],[]⟩ [true,false,true,true,true,true,true,true,true,true] (tt k2 (tt k1 (ww aG (tt k0 nn)))))) (fun k2=>(lb (fun k3=>(lb (fun k4=>(sl z6d 59 [] ⟨[0,1],[],x1x,x1y⟩ ⟨[],[],[]⟩ [true,false,false,false,false,false,false,false,true,true,true,true,true,false,true] (tt k4 (tt k3 (tt k2 (tt k1 (ww aG (tt k0 nn)))))))) (fun k4=>(lo fun o0=>(sl z6d 82 [] ⟨[0,1],[],x1x,x1y⟩ ⟨[],[],[]⟩ [true,false,false,false,false,false,false,false,true,true,true,true,true,false,false,true] (pp (pp (pp nn (pp nn (pp nn (pp nn (pp nn (pp nn (pp nn nn))))))) (pp (xr l0) (xw o0))) (tt k3 (tt k4 (tt k3 (tt k2 (tt k1 (ww aG (tt k0 nn))))))))))))) (fun k3=>(lo fun o0=>(sl z6d 78 [] ⟨[0,1],[],x1x,x1y⟩ ⟨[],[],[]⟩ [true,false,false,false,false,false,false,false,false,false,false,false,false,false,false,false] (pp (pp (pp nn (pp nn (pp nn (pp nn (pp nn (pp nn (pp nn nn))))))) (pp (xr l0) (xw o0))) (tt k3 (tt k3 (tt k2 (tt k1 (ww aG (tt k0 nn))))))))))))))))) (fun k0=>(sl z6d 13 [] ⟨[0],[],u1x,u1y⟩ ⟨[],[],[]⟩ [false] (tt k0 nn))))
theorem w8y (l0:List R6): ∀s,Yr prog (Zy prog 17) (x1z l0) (x1z l0 s) (We l0 s)
 | .h0 q v5 v26=>mpg_s0 q l0 v5 v26
 | .h1 q v5 v26 v33 v34 v35 aV bC bL bM bR bV=>mpg_s1 q l0 v5 v26 v33 v34 v35 aV bC bL bM bR bV
theorem x9r (l0:List R6):Yr prog (Zy prog 17) (x1z l0) (Zb prog 17 [(.dat l0.length (Zz l0))] true []) (y3j l0):=(lo fun bQ=>(lb (fun k0=>(lr 125 17 [1,0,1,1,0,0] 1 15 [(2,(ii 0)),(3,(ii (Yo (cvT l0))))] (sl z6d 24 [] ⟨[],[],[some [2,3]],[]⟩ ⟨[],[],[]⟩ [true] (tt k0 (pp (pp (xr l0) (xw bQ)) nn))))) (fun k0=>(sl z6d 67 [] ⟨[1],[],u1x,u1y⟩ ⟨[],[],[]⟩ [false,true,false] (tt k0 (pp (pp (xr l0) (xw bQ)) nn))))))
theorem u1w (l0:List R6) (n:Nat) (vs:List AVal) (h:Yz (We l0) n (y3j l0)=.ret vs):Ji prog (Zy prog 17) (Zb prog 17 [(.dat l0.length (Zz l0))] true []) vs:=by have:=Ze (w8y l0) n _ (x9r l0);rwa [h] at this
theorem y8x {l:List R6} (h:(Yo l != 0)=false):l.length≤400:=by
 refine AL fun g=> ?_;have h:Yo l=0:=by simpa using h
 unfold Yo at h;rw [Ah (by omega)] at h;cases h
end Go.Am
end
