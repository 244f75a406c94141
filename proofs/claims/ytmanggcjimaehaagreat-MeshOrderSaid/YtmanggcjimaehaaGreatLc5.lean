/- A part of a proof: several texts in one. -/
import Derived.Test.YtmanggcjimaehaaGreatLc4
set_option maxRecDepth 1000000
set_option maxHeartbeats 8000000
set_option linter.unusedVariables false
set_option linter.unusedSimpArgs false
noncomputable section
namespace Go.Am
open Go.Proofs.Tryz
open Go.Proofs
inductive rgjS where
 | h0 (v16:Int) (aA:List Int)
 | h1 (v16:Int) (aA:List Int)
 | h2 (v4:Int) (aF:List R4) (aP:List R2) (aY:Int) (aZ:Int) (aE:Nat) (aH:List Int)
 | h3 (v4:Int) (v38:Int) (aF:List R4) (aP:List R2) (aY:Int) (aZ:Int) (aE:Nat) (aH:List Int) (aO:Int) (bB:Int) (aB:List R2)
 | h4 (v4:Int) (v38:Int) (aF:List R4) (aP:List R2) (aY:Int) (aZ:Int) (aE:Nat) (aH:List Int) (aO:Int) (bB:Int) (aB:List R2) (aK:List R2)
 | h5 (v1:Int) (v2:Int) (v71:List R2) (v72:Int) (v73:Int) (aR:Int) (aD:List R4) (bD:Int) (aE:Nat) (aH:List Int) (aO:List R2) (bB:List R2)
 | h6 (v2:Int) (v8:Int) (cK:Int) (cL:List R2) (aR:Int) (aD:List R4) (bC:List R2) (bD:Int) (bR:Int) (bH:Nat) (bN:List Int) (aB:List R2) (aK:List R2)
def y2p (q:Op) (l0:List R4) (l1:List R4):AFr:=⟨⟨11,0,true⟩,(Ui prog (nRg q) [1,0] 2),(Zd prog (nRg q) [1,0] 1),none,(Zy prog 28),Yc [(6,(.dat l0.length (Zz l0))),(7,(.dat l1.length (Zz l1)))]⟩
abbrev y6p (aD:List R4) (v8:Int) (v2:Int):=(aD.set (0+(tn v8)) (R4.mk (rd aD (0+(tn v8))).a (rd aD (0+(tn v8))).b v2 (rd aD (0+(tn v8))).d))
def w7a :=(y5b [(0,⟨.ready,none,49,Yc [(5,(.ptr 1 0)),(6,(.ptr 2 0)),(7,(.ptr 3 0)),(9,(.ptr 4 0))],[23],(Vv prog 122 [1,1,1,0,1,0,0]),(Vv prog 122 [1,1,1,0,1,0,1])⟩)])
abbrev y6o (aA:List Int):=(Wx (Zc aA.length (cOf (Zz (Yo (Zc aA.length (cOf (Zz aA))))))))
def w6z :AFr:=⟨⟨49,0,true⟩,none,(.inRangeFunc 0::(Zd prog 122 [1,1,1,0,1,0] 1)),none,(Zy prog 122),Yc [(6,(.ptr 2 0)),(7,(.ptr 3 0)),(9,(.ptr 4 0))]⟩
def y2o (l0:List R4) (l1:List R4):ABlk:=⟨[(.dat l0.length (Zz l0)),(.dat l1.length (Zz l1))],100,none⟩
def v8v :AFr:=⟨⟨49,0,true⟩,(Ui prog 122 [1,1,1,0,0] 3),(Zd prog 122 [1,1,1,0,0] 1),none,(Zy prog 122),Yc [(5,(.ptr 3 0)),(6,(.ptr 4 0)),(7,(.ptr 5 0)),(9,(.ptr 6 0)),(21,(.sl 1 0 2 (.un 1)))]⟩
abbrev y6n (aB:List R2) (l0:List R4) (v38:Int):=(aB++[(R2.mk (rd l0 (tn v38)).b (rd l0 (tn v38)).d)])
abbrev y6m (aK:List R2) (l1:List R4) (v38:Int):=(aK++[(R2.mk (rd l1 (tn v38)).b (rd l1 (tn v38)).d)])
def y2n (q:Op):ABlk:=⟨[(.fn (nSp q) [])],151,none⟩
abbrev z8b (aD:List R4) (v1:Int) (v71:List R2) (v73:Int) (v2:Int):=(aD++[(R4.mk v1 (rd v71 (tn v73)).a v2 (rd v71 (tn v73)).b)])
abbrev z8a (aA:List Int) (l0:List R4) (v16:Int):=(aA++[(rd l0 (tn v16)).a,(rd l0 (tn v16)).c])
abbrev z7z (aA:List Int) (l1:List R4) (v16:Int):=(aA++[(rd l1 (tn v16)).a,(rd l1 (tn v16)).c])
def y8s :ABlk:=⟨[(.sl 8 0 2 (.un 1))],236,none⟩
def w7b :=(Zd prog 190 [1,0,0,1,0,0,1,0,1,0,0,1,1,0,0,1,1,0,0] 0)
def rgjC (q:Op) (l0:List R4) (l1:List R4):rgjS→Cfg
 | .h0 v16 aA=>⟨⟨34,0,true⟩,none,(Zd prog 161 [1,1,0,1,0,0,1,1,0,0,1,1,0,0] 0),none,(Zy prog 3),⟨Yc [(1,(.ptr 0 0)),(3,(.ptr 2 0)),(8,(.sl 1 0 2 (.un 1))),(9,(ii 2)),(10,(ii 0)),(14,(.dat l0.length (Zz l0))),(15,(ii (l0.length:Int))),(16,(ii v16))],Un [⟨[(.sl 1 0 2 (.un 1))],236,none⟩,(y2o l0 l1),⟨[(.sla 7 1 0 aA.length (.un 1))],93,none⟩,(y2n q),⟨[.nils],100,none⟩,⟨[(ii 0)],26,none⟩,⟨[.nils,.nils,(ii 0),(ii 0)],200,none⟩,⟨rows aA.length (Zz aA),3,some ⟨1,aA.length,(Zz aA)⟩⟩] 0,8,[],true⟩,[v8v,(y2p q l0 l1)],.leaf⟩
 | .h1 v16 aA=>⟨⟨34,0,true⟩,none,(Zd prog 161 [1,1,0,1,0,0,1,1,0,0,1,1,0,0] 0),none,(Zy prog 3),⟨Yc [(1,(.ptr 0 0)),(3,(.ptr 2 0)),(8,(.sl 1 0 2 (.un 1))),(9,(ii 2)),(10,(ii 1)),(14,(.dat l1.length (Zz l1))),(15,(ii (l1.length:Int))),(16,(ii v16))],Un [⟨[(.sl 1 0 2 (.un 1))],236,none⟩,(y2o l0 l1),⟨[(.sla 7 1 0 aA.length (.un 1))],93,none⟩,(y2n q),⟨[.nils],100,none⟩,⟨[(ii 0)],26,none⟩,⟨[.nils,.nils,(ii 0),(ii 0)],200,none⟩,⟨rows aA.length (Zz aA),3,some ⟨1,aA.length,(Zz aA)⟩⟩] 0,8,[],true⟩,[v8v,(y2p q l0 l1)],.leaf⟩
 | .h2 v4 aF aP aY aZ aE aH=>⟨⟨76,0,true⟩,none,(Zd prog 190 [1,0,0] 0),none,[],⟨Yc [(0,(.yld 0)),(1,(.ptr 5 0)),(2,(.ptr 7 0)),(4,(ii v4))],z9o [(1,(y2n q)),(2,⟨[.nils],100,none⟩),(3,⟨[(ii 0)],26,none⟩),(4,⟨[(.sla 9 4 0 aF.length (.un 4)),(.dat aP.length (Zz aP)),(ii aY),(ii aZ)],200,none⟩),(5,⟨[(.sla 6 1 0 aE (.un 1))],93,none⟩),(6,⟨rows aH.length (Zz aH),3,some ⟨1,aH.length,(Zz aH)⟩⟩),(7,y8s),(8,(y2o l0 l1)),(9,⟨rows aF.length (Zz aF),88,some ⟨4,aF.length,(Zz aF)⟩⟩)],10,[],true⟩,[w6z,(y2p q l0 l1)],w7a⟩
 | .h3 v4 v38 aF aP aY aZ aE aH aO bB aB=>⟨⟨76,0,true⟩,none,w7b,none,[],⟨Yc [(0,(.yld 0)),(1,(.ptr 5 0)),(2,(.ptr 7 0)),(4,(ii v4)),(5,(.ptr 9 0)),(6,(ii 0)),(29,(.sl 8 0 2 (.un 1))),(30,(ii 2)),(31,(ii 0)),(36,(.dat l0.length (Zz l0))),(37,(ii (l0.length:Int))),(38,(ii v38))],z9o [(1,(y2n q)),(2,⟨[.nils],100,none⟩),(3,⟨[(ii 0)],26,none⟩),(4,⟨[(.sla 12 4 0 aF.length (.un 4)),(.dat aP.length (Zz aP)),(ii aY),(ii aZ)],200,none⟩),(5,⟨[(.sla 6 1 0 aE (.un 1))],93,none⟩),(6,⟨rows aH.length (Zz aH),3,some ⟨1,aH.length,(Zz aH)⟩⟩),(7,y8s),(8,(y2o l0 l1)),(9,⟨[(ii aO),(ii bB),(.sl 10 0 2 (.ex 2))],205,none⟩),(10,⟨[(.sla 11 2 0 aB.length (.un 2)),.nils],180,none⟩),(11,⟨rows aB.length (Zz aB),183,some ⟨2,aB.length,(Zz aB)⟩⟩),(12,⟨rows aF.length (Zz aF),88,some ⟨4,aF.length,(Zz aF)⟩⟩)],13,[],true⟩,[w6z,(y2p q l0 l1)],w7a⟩
 | .h4 v4 v38 aF aP aY aZ aE aH aO bB aB aK=>⟨⟨76,0,true⟩,none,w7b,none,[],⟨Yc [(0,(.yld 0)),(1,(.ptr 5 0)),(2,(.ptr 7 0)),(4,(ii v4)),(5,(.ptr 9 0)),(6,(ii 1)),(29,(.sl 8 0 2 (.un 1))),(30,(ii 2)),(31,(ii 1)),(36,(.dat l1.length (Zz l1))),(37,(ii (l1.length:Int))),(38,(ii v38))],z9o [(1,(y2n q)),(2,⟨[.nils],100,none⟩),(3,⟨[(ii 0)],26,none⟩),(4,⟨[(.sla 13 4 0 aF.length (.un 4)),(.dat aP.length (Zz aP)),(ii aY),(ii aZ)],200,none⟩),(5,⟨[(.sla 6 1 0 aE (.un 1))],93,none⟩),(6,⟨rows aH.length (Zz aH),3,some ⟨1,aH.length,(Zz aH)⟩⟩),(7,y8s),(8,(y2o l0 l1)),(9,⟨[(ii aO),(ii bB),(.sl 10 0 2 (.ex 2))],205,none⟩),(10,⟨[(.sla 11 2 0 aB.length (.un 2)),(.sla 12 2 0 aK.length (.un 2))],180,none⟩),(11,⟨rows aB.length (Zz aB),183,some ⟨2,aB.length,(Zz aB)⟩⟩),(12,⟨rows aK.length (Zz aK),183,some ⟨2,aK.length,(Zz aK)⟩⟩),(13,⟨rows aF.length (Zz aF),88,some ⟨4,aF.length,(Zz aF)⟩⟩)],14,[],true⟩,[w6z,(y2p q l0 l1)],w7a⟩
 | .h5 v1 v2 v71 v72 v73 aR aD bD aE aH aO bB=>⟨⟨94,0,true⟩,none,(Zd prog 158 [1,1,1,0,0] 0),none,[],⟨Yc [(0,(.ptr 0 0)),(1,(ii v1)),(2,(ii v2)),(71,(.dat v71.length (Zz v71))),(72,(ii v72)),(73,(ii v73))],z9o [(0,⟨[(.sla 10 4 0 aD.length (.un 4)),(.dat v71.length (Zz v71)),(ii bD),(ii v2)],200,none⟩),(2,(y2n q)),(3,⟨[.nils],100,none⟩),(4,⟨[(ii 0)],26,none⟩),(5,⟨[(.sla 6 1 0 aE (.un 1))],93,none⟩),(6,⟨rows aH.length (Zz aH),3,some ⟨1,aH.length,(Zz aH)⟩⟩),(7,y8s),(8,(y2o l0 l1)),(9,⟨[(.dat aO.length (Zz aO)),(.dat bB.length (Zz bB))],180,none⟩),(10,⟨rows aD.length (Zz aD),88,some ⟨4,aD.length,(Zz aD)⟩⟩)],11,[],true⟩,[⟨⟨49,0,true⟩,(Ui prog 122 [1,1,1,0,1,0,1,0,1,1] 5),(Zd prog 122 [1,1,1,0,1,0,1,0,1,1] 1),(some 1),[],Yc [(9,(.ptr 0 0)),(41,(ii v1)),(43,(ii v2)),(44,(.dat v71.length (Zz v71)))]⟩,⟨⟨76,0,true⟩,(Ui prog 190 [1,0,0,1,0,0,1,1,0] 2),(Zd prog 190 [1,0,0,1,0,0,1,1,0] 1),none,[],Yc [(0,(.yld 1)),(1,(.ptr 5 0)),(2,(.ptr 7 0)),(4,(ii aR)),(72,(.yld 1)),(73,(.agg [(ii v1),(ii v2),(.sl 9 0 2 (.ex 2))]))]⟩,⟨⟨49,0,true⟩,none,(.inRangeFunc 1::(Zd prog 122 [1,1,1,0,1,0] 1)),none,(Zy prog 122),Yc [(6,(.ptr 3 0)),(7,(.ptr 4 0)),(9,(.ptr 0 0))]⟩,(y2p q l0 l1)],(y5b [(1,⟨.busy,none,49,Yc [(5,(.ptr 2 0)),(6,(.ptr 3 0)),(7,(.ptr 4 0)),(9,(.ptr 0 0))],[23],(Vv prog 122 [1,1,1,0,1,0,0]),(Vv prog 122 [1,1,1,0,1,0,1])⟩)])⟩
 | .h6 v2 v8 cK cL aR aD bC bD bR bH bN aB aK=>⟨⟨94,0,true⟩,none,(Zd prog 158 [0,1,0,0,1,0,0] 0),none,[],⟨Yc [(0,(.ptr 0 0)),(2,(ii v2)),(8,(ii v8))],z9o [(0,⟨[(.sla 1 4 0 aD.length (.un 4)),(.dat bC.length (Zz bC)),(ii bD),(ii bR)],200,none⟩),(1,⟨rows aD.length (Zz aD),88,some ⟨4,aD.length,(Zz aD)⟩⟩),(3,(y2n q)),(4,⟨[.nils],100,none⟩),(5,⟨[(ii 0)],26,none⟩),(6,⟨[(.sla 7 1 0 bH (.un 1))],93,none⟩),(7,⟨rows bN.length (Zz bN),3,some ⟨1,bN.length,(Zz bN)⟩⟩),(8,⟨[(.sl 9 0 2 (.un 1))],236,none⟩),(9,(y2o l0 l1)),(10,⟨[(.dat aB.length (Zz aB)),(.dat aK.length (Zz aK))],180,none⟩)],11,[],true⟩,[⟨⟨49,0,true⟩,(Ui prog 122 [1,1,1,0,1,0,1,0,1,1] 5),(Zd prog 122 [1,1,1,0,1,0,1,0,1,1] 1),(some 2),[],Yc [(9,(.ptr 0 0)),(41,(ii cK)),(43,(ii v2)),(44,(.dat cL.length (Zz cL)))]⟩,⟨⟨76,0,true⟩,(Ui prog 190 [1,0,0,1,0,0,1,1,0] 2),(Zd prog 190 [1,0,0,1,0,0,1,1,0] 1),none,[],Yc [(0,(.yld 2)),(1,(.ptr 6 0)),(2,(.ptr 8 0)),(4,(ii aR)),(72,(.yld 2)),(73,(.agg [(ii cK),(ii v2),(.sl 10 0 2 (.ex 2))]))]⟩,⟨⟨49,0,true⟩,none,(.inRangeFunc 2::(Zd prog 122 [1,1,1,0,1,0] 1)),none,(Zy prog 122),Yc [(6,(.ptr 4 0)),(7,(.ptr 5 0)),(9,(.ptr 0 0))]⟩,(y2p q l0 l1)],(y5b [(2,⟨.busy,none,49,Yc [(5,(.ptr 3 0)),(6,(.ptr 4 0)),(7,(.ptr 5 0)),(9,(.ptr 0 0))],[23],(Vv prog 122 [1,1,1,0,1,0,0]),(Vv prog 122 [1,1,1,0,1,0,1])⟩)])⟩
def rgjN0 :List (Option (List Nat)):=[some [1,3,8,9,10,14,15,16],some [5,6,7,9,21],some [6,7]]
def rgjM0 :List (Option (List Nat)):=[]
def rgjN1 :List (Option (List Nat)):=[some [1,3,8,9,10,14,15,16],some [5,6,7,9,21],some [6,7]]
def rgjM1 :List (Option (List Nat)):=[]
def u3g :List (Option (List Nat)):=[some [0,1,2,4],some [6,7,9],some [6,7]]
def u3h :List (Option (List Nat)):=[some [5,6,7,9],none,none,none,none,none,none,none,none,none]
def v3j :List (Option (List Nat)):=[some [0,1,2,4,5,6,29,30,31,36,37,38],some [6,7,9],some [6,7]]
def v3m :List (Option (List Nat)):=[some [5,6,7,9],none,none,none,none,none,none,none,none,none,none,none,none]
def v3i :List (Option (List Nat)):=[some [0,1,2,4,5,6,29,30,31,36,37,38],some [6,7,9],some [6,7]]
def v3l :List (Option (List Nat)):=[some [5,6,7,9],none,none,none,none,none,none,none,none,none,none,none,none,none]
def v3h :List (Option (List Nat)):=[some [0,1,2,71,72,73],some [9,41,43,44],some [0,1,2,4,72,73],some [6,7,9],some [6,7]]
def v3k :List (Option (List Nat)):=[none,some [5,6,7,9],none,none,none,none,none,none,none,none,none]
def rgjN6 :List (Option (List Nat)):=[some [0,2,8],some [9,41,43,44],some [0,1,2,4,72,73],some [6,7,9],some [6,7]]
def rgjM6 :List (Option (List Nat)):=[none,none,some [5,6,7,9],none,none,none,none,none,none,none,none]
def Ye (q:Op) (l0:List R4) (l1:List R4):rgjS→Xo rgjS
 | .h0 v16 aA=>(bif (decide (v16<(l0.length:Int))) then (bif ((decide (0≤v16∧v16<(l0.length:Int)))&&true) then (bif (Nat.beq 1 1&&((decide (0+aA.length=aA.length))&&decide ((aA.length+2+1)*(8+1)≤Us))) then (.to (.h0 (IntKind.wrap .i64 (v16+1)) (aA++[(rd l0 v16.toNat).a,(rd l0 v16.toNat).c]))) else .stuck) else .stuck) else (.to (.h1 0 aA)))
 | .h1 v16 aA=>(bif (decide (v16<(l1.length:Int))) then (bif ((decide (0≤v16∧v16<(l1.length:Int)))&&true) then (bif (Nat.beq 1 1&&((decide (0+aA.length=aA.length))&&decide ((aA.length+2+1)*(8+1)≤Us))) then (.to (.h1 (IntKind.wrap .i64 (v16+1)) (aA++[(rd l1 v16.toNat).a,(rd l1 v16.toNat).c]))) else .stuck) else .stuck) else (bif (decide (aA.length<4611686018427387904)) then (bif (decide (aA.length=aA.length)) then (.to (.h2 1 ([]:List R4) ([]:List R2) 0 0 (w4z (Zc aA.length (cOf (Zz (Yo (Zc aA.length (cOf (Zz aA)))))))) (Wx (Zc aA.length (cOf (Zz (Yo (Zc aA.length (cOf (Zz aA)))))))))) else .stuck) else .stuck))
 | .h2 v4 aF aP aY aZ aE aH=>(bif (decide (v4<((aE:Nat):Int))) then (bif ((decide (0≤(IntKind.wrap .i64 (v4 - 1))∧(IntKind.wrap .i64 (v4 - 1))<((aE:Nat):Int)))&&true) then (bif (decide ((0+(Int.toNat (IntKind.wrap .i64 (v4 - 1))))<aH.length)) then (bif ((decide (0≤v4∧v4<((aE:Nat):Int)))&&true) then (bif (decide ((0+v4.toNat)<aH.length)) then (.to (.h3 v4 0 aF aP aY aZ aE aH (rd aH (0+(Int.toNat (IntKind.wrap .i64 (v4 - 1))))) (rd aH (0+v4.toNat)) ([]:List R2))) else .stuck) else .stuck) else .stuck) else .stuck) else (bif (decide ((aF.length:Int)>400)) then (.ret [.nils,(.int .i64 4)]) else (.ret [(.dat aF.length (Zz aF)),(.int .i64 0)])))
 | .h3 v4 v38 aF aP aY aZ aE aH aO bB aB=>(bif (decide (v38<(l0.length:Int))) then (bif ((decide (0≤v38∧v38<(l0.length:Int)))&&true) then (bif (decide ((rd l0 v38.toNat).a ≤aO)) then (bif (decide (aO<(rd l0 v38.toNat).c)) then (bif (Nat.beq 2 2&&((decide (0+aB.length=aB.length))&&decide ((aB.length+1+1)*(16+1)≤Us))) then (.to (.h3 v4 (IntKind.wrap .i64 (v38+1)) aF aP aY aZ aE aH aO bB (aB++[(R2.mk (rd l0 v38.toNat).b (rd l0 v38.toNat).d)]))) else .stuck) else (.to (.h3 v4 (IntKind.wrap .i64 (v38+1)) aF aP aY aZ aE aH aO bB aB))) else (.to (.h3 v4 (IntKind.wrap .i64 (v38+1)) aF aP aY aZ aE aH aO bB aB))) else .stuck) else (.to (.h4 v4 0 aF aP aY aZ aE aH aO bB aB ([]:List R2))))
 | .h4 v4 v38 aF aP aY aZ aE aH aO bB aB aK=>(bif (decide (v38<(l1.length:Int))) then (bif ((decide (0≤v38∧v38<(l1.length:Int)))&&true) then (bif (decide ((rd l1 v38.toNat).a ≤aO)) then (bif (decide (aO<(rd l1 v38.toNat).c)) then (bif (Nat.beq 2 2&&((decide (0+aK.length=aK.length))&&decide ((aK.length+1+1)*(16+1)≤Us))) then (.to (.h4 v4 (IntKind.wrap .i64 (v38+1)) aF aP aY aZ aE aH aO bB aB (aK++[(R2.mk (rd l1 v38.toNat).b (rd l1 v38.toNat).d)]))) else .stuck) else (.to (.h4 v4 (IntKind.wrap .i64 (v38+1)) aF aP aY aZ aE aH aO bB aB aK))) else (.to (.h4 v4 (IntKind.wrap .i64 (v38+1)) aF aP aY aZ aE aH aO bB aB aK))) else .stuck) else (bif ((y8h q) (cvT aB) (cvT aK)) then (bif (((w1r q) (cvT aB) (cvT aK)) != 0) then (.ret [.nils,(.int .i64 ((w1r q) (cvT aB) (cvT aK)))]) else (bif (decide (((((z2x q) (cvT aB) (cvT aK)).length :Nat):Int)>0)) then (bif (aZ == aO) then (bif (Va (cvT aP) (cvT ((z2x q) (cvT aB) (cvT aK)))) then (bif (Kq (cvT aP) (cvT ((z2x q) (cvT aB) (cvT aK)))) then (.to (.h6 bB aY aO ((z2x q) (cvT aB) (cvT aK)) v4 aF aP aY aZ aE aH aB aK)) else (.to (.h5 aO bB ((z2x q) (cvT aB) (cvT aK)) ((((z2x q) (cvT aB) (cvT aK)).length :Nat):Int) 0 v4 aF (aF.length:Int) aE aH aB aK))) else .stuck) else (.to (.h5 aO bB ((z2x q) (cvT aB) (cvT aK)) ((((z2x q) (cvT aB) (cvT aK)).length :Nat):Int) 0 v4 aF (aF.length:Int) aE aH aB aK))) else (.to (.h5 aO bB ((z2x q) (cvT aB) (cvT aK)) ((((z2x q) (cvT aB) (cvT aK)).length :Nat):Int) 0 v4 aF (aF.length:Int) aE aH aB aK)))) else .stuck))
 | .h5 v1 v2 v71 v72 v73 aR aD bD aE aH aO bB=>(bif (decide (v73<v72)) then (bif ((decide (0≤v73∧v73<(v71.length:Int)))&&true) then (bif (Nat.beq 4 4&&((decide (0+aD.length=aD.length))&&decide ((aD.length+1+1)*(32+1)≤Us))) then (.to (.h5 v1 v2 v71 v72 (IntKind.wrap .i64 (v73+1)) aR (aD++[(R4.mk v1 (rd v71 v73.toNat).a v2 (rd v71 v73.toNat).b)]) bD aE aH aO bB)) else .stuck) else .stuck) else (.to (.h2 (IntKind.wrap .i64 (aR+1)) aD v71 bD v2 aE aH)))
 | .h6 v2 v8 cK cL aR aD bC bD bR bH bN aB aK=>(bif (decide (v8<(aD.length:Int))) then (bif ((decide (0≤v8∧v8<(aD.length:Int)))&&true) then (bif (decide ((0+v8.toNat)<aD.length)) then (.to (.h6 v2 (IntKind.wrap .i64 (v8+1)) cK cL aR (aD.set (0+v8.toNat) (R4.mk (rd aD (0+v8.toNat)).a (rd aD (0+v8.toNat)).b v2 (rd aD (0+v8.toNat)).d)) bC bD bR bH bN aB aK)) else .stuck) else .stuck) else (.to (.h2 (IntKind.wrap .i64 (aR+1)) aD bC bD v2 bH bN)))
def y1b (q:Op) (l0:List R4) (l1:List R4):Xo rgjS:=(bif (z3d (cvT l0)) then (bif ((y5a (cvT l0)) != 0) then (.ret [.nils,(.int .i64 (y5a (cvT l0)))]) else (bif (z3d (cvT l1)) then (bif ((y5a (cvT l1)) != 0) then (.ret [.nils,(.int .i64 (y5a (cvT l1)))]) else (.to (.h0 0 ([]:List Int)))) else .stuck)) else .stuck)
theorem w2l (q:Op) (l0:List R4) (l1:List R4): ∀s,Xk prog (Zy prog (nRg q)) (rgjC q l0 l1) (rgjC q l0 l1 s) (Ye q l0 l1 s):=by cases q <;> refine (?f: ∀q:Op,∀s,Xk prog (Zy prog (nRg q)) (rgjC q l0 l1) (rgjC q l0 l1 s) (Ye q l0 l1 s)) _ <;> exact fun q=>fun
 | .h0 v16 aA=>(lb (fun k0=>(lo fun o0=>(lo fun o1=>(sl Jo 32 [] ⟨[0,1,2,3,4,5,6,10],[],rgjN0,rgjM0⟩ ⟨[],[.keep,.keep,.cells [.len (z8a aA l0 v16).length],.keep,.keep,.keep,.keep,.rowed 1 (z8a aA l0 v16).length (Zz (z8a aA l0 v16))],[]⟩ [true] (pp (xL (aA.length+2) (z8a aA l0 v16).length) (pp (xL (aA.length+2) (z8a aA l0 v16).length) (pp (xS (aA.length+2) (Zi (Zz aA) 0 aA.length 1 [(ii (rd l0 (tn v16)).a),(ii (rd l0 (tn v16)).c)]) (Zz (z8a aA l0 v16))) (pp (pp (xF (Zi (Zz aA) 0 aA.length 1 [(ii (rd l0 (tn v16)).a),(ii (rd l0 (tn v16)).c)])) nn) (ww o1 (ww o0 (tt k0 nn))))))))))) (fun k0=>(sl Jo 36 [] ⟨(List.range 8),[],rgjN1,rgjM1⟩ ⟨[],[],[]⟩ (bl 2 2) (pp (fl aA nn) (tt k0 nn)))))
 | .h1 v16 aA=>(lb (fun k0=>(lo fun o0=>(lo fun o1=>(sl Jo 32 [] ⟨[0,1,2,3,4,5,6,10],[],rgjN1,rgjM1⟩ ⟨[],[.keep,.keep,.cells [.len (z7z aA l1 v16).length],.keep,.keep,.keep,.keep,.rowed 1 (z7z aA l1 v16).length (Zz (z7z aA l1 v16))],[]⟩ [true] (pp (xL (aA.length+2) (z7z aA l1 v16).length) (pp (xL (aA.length+2) (z7z aA l1 v16).length) (pp (xS (aA.length+2) (Zi (Zz aA) 0 aA.length 1 [(ii (rd l1 (tn v16)).a),(ii (rd l1 (tn v16)).c)]) (Zz (z7z aA l1 v16))) (pp (pp (xF (Zi (Zz aA) 0 aA.length 1 [(ii (rd l1 (tn v16)).a),(ii (rd l1 (tn v16)).c)])) nn) (ww o1 (ww o0 (tt k0 nn))))))))))) (fun k0=>(lo fun o0=>(lo fun o1=>(sl Jo 46 [(88,4,Zz ([]:List R4))] ⟨[8,3,4,5,6,2,7,0,1,9],[],u3g,u3h⟩ ⟨[],(kpB 4 [.cells [.grow 9 4,.list 0 (Zz ([]:List R2)),.keep,.keep],.keep,.rowed 1 (y6o aA).length (Zz (y6o aA)),.keep,.keep,.keep]),[]⟩ (bl 2 0) (pp (xL aA.length (y6o aA).length (by first | exact z1a _ _ | exact Wo rfl)) (pp (xS aA.length (Zz (y6o aA)) (Zz (y6o aA))) (pp (fl (y6o aA) (fl ([]:List R4) nn)) (pp (pp (xG (Nat.beq 1 1)) (pp (xG (Nat.beq 1 1)) (pp (xG (Nat.beq 0 0)) (pp (xG (decide (aA.length=aA.length))) (pp (xG (isI (Zz (Yo (Zc aA.length (cOf (Zz aA))))))) (xG (decide (aA.length<4611686018427387904)))))))) (pp (pp (xG (Nat.beq 1 1)) (pp (xG (Nat.beq 1 1)) (pp (xG (Nat.beq 0 0)) (pp (xG (decide (aA.length=aA.length))) (pp (xG (isI (Zz aA))) (xG (decide (aA.length<4611686018427387904)))))))) (tt k0 nn)))))))))))
 | .h2 v4 aF aP aY aZ aE aH=>(lb (fun k0=>(lo fun o0=>(lo fun o1=>(lo fun o2=>(lo fun o3=>(sl Jo 48 [(183,2,Zz ([]:List R2))] ⟨[0,1,2,3,4,5,6,7,8,10,11,12,9],[],v3j,v3m⟩ ⟨[],(kpB 10 [.cells [.grow 11 2,.keep],.keep,.keep]),[]⟩ (trs 3 []) (pp (fl aH (fl ([]:List R2) (fl aF nn))) (ww o3 (ww o2 (ww o1 (ww o0 (tt k0 nn)))))))))))) (fun k0=>(lb (fun k1=>(lr 11 3 [1,1,1,1,1,1,1,0] 1 28 [(4,.nils),(5,(ii 4))] (sl Jo 49 [] ⟨[],[],[some [4,5]],[]⟩ ⟨[],[],[]⟩ (bl 2 2) (tt k1 (tt k0 nn))))) (fun k1=>(lr 11 3 [1,1,1,1,1,1,1,0] 1 28 [(4,(.dat aF.length (Zz aF))),(5,(ii 0))] (sl Jo 54 [] ⟨[],[9],[some [4,5]],[]⟩ ⟨[(4,.frz aF.length aF.length (Zz aF) (Zz aF))],[],[]⟩ (bl 2 0) (pp (xZ (z5p 4 4 0 aF.length aF.length (Zz aF)) aF.length (Zz aF)) (pp (xL aF.length aF.length) (pp (xS aF.length (Zz aF) (Zz aF)) (pp (fl aF nn) (tt k1 (tt k0 nn))))))))))))
 | .h3 v4 v38 aF aP aY aZ aE aH aO bB aB=>(lb (fun k0=>(lo fun aG=>(lb (fun k1=>(lb (fun k2=>(lo fun o0=>(sl Jo 39 [] ⟨[0,1,2,3,4,5,6,7,8,9,10,15,12],[],v3j,v3m⟩ ⟨[],(kpB 10 [.cells [.len (y6n aB l0 v38).length,.keep],.rowed 2 (y6n aB l0 v38).length (Zz (y6n aB l0 v38)),.keep]),[]⟩ (trs 7 []) (pp (xL (aB.length+1) (y6n aB l0 v38).length) (pp (xL (aB.length+1) (y6n aB l0 v38).length) (pp (xS (aB.length+1) (Zi (Zz aB) 0 aB.length 2 [(ii (rd l0 (tn v38)).b),(ii (rd l0 (tn v38)).d)]) (Zz (y6n aB l0 v38))) (pp (fl aH (pp (xF (Zi (Zz aB) 0 aB.length 2 [(ii (rd l0 (tn v38)).b),(ii (rd l0 (tn v38)).d)])) (fl aF nn))) (ww o0 (tt k2 (tt k1 (ww aG (tt k0 nn)))))))))))) (fun k2=>(sl Jo 39 [] ⟨(List.range 13),[],v3j,v3m⟩ ⟨[],[],[]⟩ (trs 6 [false]) (pp (fl aH (fl aB (fl aF nn))) (tt k2 (tt k1 (ww aG (tt k0 nn))))))))) (fun k1=>(sl Jo 39 [] ⟨(List.range 13),[],v3j,v3m⟩ ⟨[],[],[]⟩ (bl 7 1) (pp (fl aH (fl aB (fl aF nn))) (tt k1 (ww aG (tt k0 nn))))))))) (fun k0=>(sl Jo 38 [(183,2,Zz ([]:List R2))] ⟨[0,1,2,3,4,5,6,7,8,9,10,11,13,12],[],v3i,v3l⟩ ⟨[],(kpB 10 [.cells [.keep,.grow 12 2],.keep,.keep,.keep]),[]⟩ (bl 2 2) (pp (fl aH (fl aB (fl ([]:List R2) (fl aF nn)))) (tt k0 nn)))))
 | .h4 v4 v38 aF aP aY aZ aE aH aO bB aB aK=>(lb (fun k0=>(lo fun aG=>(lb (fun k1=>(lb (fun k2=>(lo fun o0=>(sl Jo 39 [] ⟨[0,1,2,3,4,5,6,7,8,9,10,11,16,13],[],v3i,v3l⟩ ⟨[],(kpB 10 [.cells [.keep,.len (y6m aK l1 v38).length],.keep,.rowed 2 (y6m aK l1 v38).length (Zz (y6m aK l1 v38)),.keep]),[]⟩ (trs 7 []) (pp (xL (aK.length+1) (y6m aK l1 v38).length) (pp (xL (aK.length+1) (y6m aK l1 v38).length) (pp (xS (aK.length+1) (Zi (Zz aK) 0 aK.length 2 [(ii (rd l1 (tn v38)).b),(ii (rd l1 (tn v38)).d)]) (Zz (y6m aK l1 v38))) (pp (fl aH (fl aB (pp (xF (Zi (Zz aK) 0 aK.length 2 [(ii (rd l1 (tn v38)).b),(ii (rd l1 (tn v38)).d)])) (fl aF nn)))) (ww o0 (tt k2 (tt k1 (ww aG (tt k0 nn)))))))))))) (fun k2=>(sl Jo 39 [] ⟨(List.range 14),[],v3i,v3l⟩ ⟨[],[],[]⟩ (trs 6 [false]) (pp (fl aH (fl aB (fl aK (fl aF nn)))) (tt k2 (tt k1 (ww aG (tt k0 nn))))))))) (fun k1=>(sl Jo 39 [] ⟨(List.range 14),[],v3i,v3l⟩ ⟨[],[],[]⟩ (bl 7 1) (pp (fl aH (fl aB (fl aK (fl aF nn)))) (tt k1 (ww aG (tt k0 nn))))))))) (fun k0=>(Wh (sl Jo (C':=⟨⟨49,0,true⟩,none,(Zd prog 122 [1,1,1,0,1,0,1,0,0] 0),(some 0),[],⟨Yc [(5,(.ptr 1 0)),(6,(.ptr 2 0)),(7,(.ptr 3 0)),(9,(.ptr 4 0)),(10,(.ptr 6 0))],z9o [(1,⟨[(.fn (nSp q) [])],151,none⟩),(2,⟨[.nils],100,none⟩),(3,⟨[(ii 0)],26,none⟩),(4,⟨[(.sla 5 4 0 aF.length (.un 4)),(.dat aP.length (Zz aP)),(ii aY),(ii aZ)],200,none⟩),(5,⟨rows aF.length (Zz aF),88,some ⟨4,aF.length,(Zz aF)⟩⟩),(6,⟨[(ii aO),(ii bB),(.sl 7 0 2 (.ex 2))],205,none⟩),(7,⟨[(.dat aB.length (Zz aB)),(.dat aK.length (Zz aK))],180,none⟩),(8,⟨[(.sla 9 1 0 aE (.un 1))],93,none⟩),(9,⟨rows aH.length (Zz aH),3,some ⟨1,aH.length,(Zz aH)⟩⟩),(10,⟨[(.sl 11 0 2 (.un 1))],236,none⟩),(11,⟨[(.dat l0.length (Zz l0)),(.dat l1.length (Zz l1))],100,none⟩)],12,[],true⟩,[⟨⟨76,0,true⟩,(Ui prog 190 [1,0,0,1,0,0,1,1,0] 2),(Zd prog 190 [1,0,0,1,0,0,1,1,0] 1),none,[],Yc [(0,(.yld 0)),(1,(.ptr 8 0)),(2,(.ptr 10 0)),(4,(ii v4)),(72,(.yld 0)),(73,(.agg [(ii aO),(ii bB),(.sl 7 0 2 (.ex 2))]))]⟩,⟨⟨49,0,true⟩,none,(.inRangeFunc 0::(Zd prog 122 [1,1,1,0,1,0] 1)),none,(Zy prog 122),Yc [(6,(.ptr 2 0)),(7,(.ptr 3 0)),(9,(.ptr 4 0))]⟩,⟨⟨11,0,true⟩,(Ui prog (nRg q) [1,0] 2),(Zd prog (nRg q) [1,0] 1),none,(Zy prog 28),Yc [(6,(.dat l0.length (Zz l0))),(7,(.dat l1.length (Zz l1)))]⟩],(y5b [(0,⟨.busy,none,49,Yc [(5,(.ptr 1 0)),(6,(.ptr 2 0)),(7,(.ptr 3 0)),(9,(.ptr 4 0))],[23],(Vv prog 122 [1,1,1,0,1,0,0]),(Vv prog 122 [1,1,1,0,1,0,1])⟩)])⟩) 32 [] ⟨[0,1,2,3,4,13,14,10,5,6,7,8],[11,12],[some [5,6,7,9,10],some [0,1,2,4,72,73],some [6,7,9],some [6,7]],[some [5,6,7,9],none,none,none,none,none,none,none,none,none,none,none]⟩ ⟨[],[.keep,.keep,.keep,.keep,.keep,.keep,.keep,.cells [.frz aB.length aB.length (Zz aB) (Zz aB),.frz aK.length aK.length (Zz aK) (Zz aK)],.keep,.keep,.keep,.keep],[]⟩ (bl 2 0) (pp (xZ (z5p 2 2 0 aB.length aB.length (Zz aB)) aB.length (Zz aB)) (pp (xL aB.length aB.length) (pp (xS aB.length (Zz aB) (Zz aB)) (pp (xZ (z5p 2 2 0 aK.length aK.length (Zz aK)) aK.length (Zz aK)) (pp (xL aK.length aK.length) (pp (xS aK.length (Zz aK) (Zz aK)) (pp (fl aF (fl aH nn)) (pp (fl aB (fl aK nn)) (tt k0 nn)))))))))) (lo fun aG=>(lb (fun k1=>(lr 11 3 [1,1,1,1,1,1,1,0] 1 28 [(4,.nils),(5,(ii ((w1r q) (cvT aB) (cvT aK))))] (sl Jo 26 [] ⟨[],[],[some [4,5]],[]⟩ ⟨[],[],[]⟩ (bl 2 3) (tt k1 (pp (pp (xr aB) (pp (xr aK) (xw aG))) nn))))) (fun k1=>(lb (fun k2=>(lb (fun k3=>(lo fun bT=>(lb (fun k4=>(sl Jo 51 [] ⟨[4,5,0,1,2,3,8,9,10,11,7],[],rgjN6,rgjM6⟩ ⟨[],[],[]⟩ (bl 14 16382) (pp (fl aF (fl aH nn)) (tt k4 (pp (pp (xr aP) (pp (xI R2 ((z2x q) (cvT aB) (cvT aK)).length (Zz ((z2x q) (cvT aB) (cvT aK)))) (xw bT))) (tt k3 (tt k2 (tt k1 (pp (pp (xr aB) (pp (xr aK) (xw aG))) nn))))))))) (fun k4=>(sl Jo 71 [] ⟨[4,0,1,2,3,8,9,10,11,7,5],[],v3h,v3k⟩ ⟨[],[],[]⟩ (bl 14 8190) (pp (fl aH (fl aF nn)) (tt k4 (pp (pp (xr aP) (pp (xI R2 ((z2x q) (cvT aB) (cvT aK)).length (Zz ((z2x q) (cvT aB) (cvT aK)))) (xw bT))) (tt k3 (tt k2 (tt k1 (pp (pp (xr aB) (pp (xr aK) (xw aG))) nn)))))))))))) (fun k3=>(sl Jo 71 [] ⟨[4,0,1,2,3,8,9,10,11,7,5],[],v3h,v3k⟩ ⟨[],[],[]⟩ (bl 14 126) (pp (fl aH (fl aF nn)) (tt k3 (tt k2 (tt k1 (pp (pp (xr aB) (pp (xr aK) (xw aG))) nn))))))))) (fun k2=>(sl Jo 71 [] ⟨[4,0,1,2,3,8,9,10,11,7,5],[],v3h,v3k⟩ ⟨[],[],[]⟩ (bl 14 0) (pp (fl aH (fl aF nn)) (tt k2 (tt k1 (pp (pp (xr aB) (pp (xr aK) (xw aG))) nn)))))))))))))
 | .h5 v1 v2 v71 v72 v73 aR aD bD aE aH aO bB=>(lb (fun k0=>(lo fun o0=>(lo fun o1=>(sl Jo 23 [] ⟨[0,1,2,3,4,5,6,7,8,9,13],[],v3h,v3k⟩ ⟨[],[.cells [.len (z8b aD v1 v71 v73 v2).length,.keep,.keep,.keep],.keep,.keep,.keep,.keep,.keep,.keep,.keep,.keep,.keep,.rowed 4 (z8b aD v1 v71 v73 v2).length (Zz (z8b aD v1 v71 v73 v2))],[]⟩ [true] (pp (xL (aD.length+1) (z8b aD v1 v71 v73 v2).length) (pp (xL (aD.length+1) (z8b aD v1 v71 v73 v2).length) (pp (xS (aD.length+1) (Zi (Zz aD) 0 aD.length 4 [(ii v1),(ii (rd v71 (tn v73)).a),(ii v2),(ii (rd v71 (tn v73)).b)]) (Zz (z8b aD v1 v71 v73 v2))) (pp (fl aH (pp (xF (Zi (Zz aD) 0 aD.length 4 [(ii v1),(ii (rd v71 (tn v73)).a),(ii v2),(ii (rd v71 (tn v73)).b)])) nn)) (ww o1 (ww o0 (tt k0 nn))))))))))) (fun k0=>(sl Jo 22 [] ⟨[1,2,3,4,0,5,6,7,8,10],[],u3g,u3h⟩ ⟨[],[],[]⟩ (bl 2 0) (pp (fl aH (fl aD nn)) (tt k0 nn)))))
 | .h6 v2 v8 cK cL aR aD bC bD bR bH bN aB aK=>(lb (fun k0=>(lo fun o0=>(lo fun o1=>(sl Jo 33 [] ⟨(List.range 11),[],rgjN6,rgjM6⟩ ⟨[],[.cells [.len (y6p aD v8 v2).length,.keep,.keep,.keep],.rowed 4 (y6p aD v8 v2).length (Zz (y6p aD v8 v2)),.keep,.keep,.keep,.keep,.keep,.keep,.keep,.keep,.keep],[]⟩ [true] (pp (xL aD.length (y6p aD v8 v2).length) (pp (xL aD.length (y6p aD v8 v2).length) (pp (xS aD.length (Xe (Zz aD) (0+(tn v8)) 2 [(ii v2)]) (Zz (y6p aD v8 v2))) (pp (pp (xF (Xe (Zz aD) (0+(tn v8)) 2 [(ii v2)])) (fl bN nn)) (ww o1 (ww o0 (tt k0 nn))))))))))) (fun k0=>(sl Jo 36 [] ⟨[2,3,4,5,0,6,7,8,9,1],[],u3g,u3h⟩ ⟨[],[],[]⟩ (bl 2 0) (pp (fl bN (fl aD nn)) (tt k0 nn)))))
theorem x5d (q:Op) (l0:List R4) (l1:List R4):Xk prog (Zy prog (nRg q)) (rgjC q l0 l1) (Ze prog (nRg q) [(.dat l0.length (Zz l0)),(.dat l1.length (Zz l1))] true []) (y1b q l0 l1):=by cases q <;> exact (lo fun bW=>(lb (fun k0=>(lr 11 3 [1,1,1,1,1,1,1,0] 1 28 [(4,.nils),(5,(ii (y5a (cvT l0))))] (sl Jo 65 [] ⟨[],[],[some [4,5]],[]⟩ ⟨[],[],[]⟩ [true,true] (tt k0 (tt k0 (pp (pp (xr l0) (xw bW)) nn)))))) (fun k0=>(lo fun aG=>(lb (fun k1=>(lr 11 3 [1,1,1,1,1,1,1,0] 1 28 [(4,.nils),(5,(ii (y5a (cvT l1))))] (sl Jo 67 [] ⟨[],[],[some [4,5]],[]⟩ ⟨[],[],[]⟩ [false,true] (tt k1 (pp (pp (xr l1) (xw aG)) (tt k0 (pp (pp (xr l0) (xw bW)) nn))))))) (fun k1=>(sl Jo 108 [(3,1,Zz ([]:List Int))] ⟨[5,4,6,0,1,2,3,7],[],rgjN0,rgjM0⟩ ⟨[],[.keep,.keep,.cells [.grow 7 1],.keep,.keep,.keep,.keep,.keep],[]⟩ [false,false,true] (pp (fl ([]:List Int) nn) (tt k1 (pp (pp (xr l1) (xw aG)) (tt k0 (pp (pp (xr l0) (xw bW)) nn))))))))))))
theorem v3g (q:Op) (l0:List R4) (l1:List R4) (n:Nat) (vs:List AVal) (h:Yk (Ye q l0 l1) n (y1b q l0 l1)=.ret vs):Kv prog (Zy prog (nRg q)) (Ze prog (nRg q) [(.dat l0.length (Zz l0)),(.dat l1.length (Zz l1))] true []) vs:=by have:=Zr (w2l q l0 l1) n _ (x5d q l0 l1);rwa [h] at this
end Go.Am
namespace Go.Am
open Go.Proofs.Tryz
open Go.Proofs
open Go.Sort Go.Shelf Go.RowKit Go.Lib
def w4w (E:Int→Int) (cs:List Int):Nat→Nat→Int
 | 0,_=>0
 | k+1,i=>bif E (rd cs i) != 0 then E (rd cs i) else w4w E cs k (i+1)
def eJ (e:Int) (n:Nat):Int:=bif e != 0 then e else y7u n
theorem v3q {α:Type} [Yh α] (L:List α):y2q (eJ 0 L.length) L=Kg L:=(z7n L).symm
theorem y9w {n:Nat} (h:y7u n=0):n≤400:=by
 unfold y7u at h;by_cases g:(n:Int)>400
 ·rw [decide_eq_true g] at h;cases h
 ·omega
theorem v0e {α:Type} {e:Int} (L:List α) (h:(e != 0)=false):y9s e L=L:=by unfold y9s;rw [h];rfl
def rgS (q:Op) (a b:List R4) (x:Int):List R2:=spJ q.k (D4.inn a x) (D4.inn b x)
def rgA (q:Op) (a b:List R4) (x:Int):Int:=spE q.k (D4.inn a x) (D4.inn b x)
theorem u3j (q:Op) (a b:List R4) (x:Int) (h:(rgA q a b x != 0)=false):(rgS q a b x).length ≤1000:=by
 have h:rgA q a b x=0:=by simpa using h
 unfold rgA spE at h;cases g1:(y6h (D4.inn a x) != 0) with
 | true=>rw [g1,cond_true] at h;rw [h] at g1;cases g1
 | false=>
  cases g2:(y6h (D4.inn b x) != 0) with
  | true=>rw [g1,g2,cond_false,cond_true] at h;rw [h] at g2;cases g2
  | false=>rw [g1,g2,cond_false,cond_false] at h;exact Nat.le_trans (y9w h) (by omega)
section
variable (q:Op) (a b:List R4) (ha:a.length≤400) (hb:b.length≤400)
include ha hb
theorem v8s (i:Nat) (out:List R4) (last:List R2) (first fin x x':Int): ∀(k j:Nat) (acc:List R2),j+k=a.length→acc.length≤j→
  ∃n,∀N,Yk (Ye q a b) (N+n) (.to (.h3 (i:Int) (j:Int) out last first fin ((D4.cuts (a++b)).length) (Wx (Yo (D4.ends (a++b)))) x x' acc))=Yk (Ye q a b) N (.to (.h4 (i:Int) 0 out last first fin ((D4.cuts (a++b)).length) (Wx (Yo (D4.ends (a++b)))) x x' (acc++D4.inn (a.drop j) x) []))
 | 0,j,acc,h,h'=>by have _u:=ha;have _v:=hb;refine ⟨1,fun N=> ?_⟩;rw [List.drop_eq_nil_of_le (by omega),show D4.inn ([]:List R4) x=[] from rfl,List.append_nil,Zv];simp (disch:=omega) only [Ye,Yv,cond_false]
 | k+1,j,acc,h,h'=>by
  have hj:j<a.length:=by omega
  obtain ⟨n,hn⟩:=v8s i out last first fin x x' k (j+1) (acc++D4.inn [rd a j] x) (by omega) (by have:=D4.inn_length [rd a j] x;simp only [List.length_append,List.length_singleton] at*;omega)
  refine ⟨n+1,fun N=> ?_⟩;have e:D4.inn (a.drop j) x=D4.inn [rd a j] x++D4.inn (a.drop (j+1)) x:=by rw [Ya hj,←D4.inn_append];rfl
  rw [e,←Nat.add_assoc,Zv,←List.append_assoc,←hn N];by_cases h1:D4.lo (rd a j)≤x
  ·by_cases h2:x<D4.hi (rd a j)
   ·rw [D4.inn_t _ _ h1 h2];simp only [D4] at h1 h2 ⊢;simp (disch:=omega) only [Ye,Xn,Zb,Zk,Zt,Yz,Yb,Yu,Yq,Zh,Zq,Zx,Yp,Zj,Nat.zero_add,decide_true,Bool.and_true,Bool.true_and,cond_true,cond_false]
   ·rw [D4.inn_f2 _ _ h2,List.append_nil];simp only [D4] at h1 h2;simp (disch:=omega) only [Ye,Xn,Yv,Zb,Zk,Zt,Yz,Yb,Yu,Yq,Zh,Zq,Zx,Yp,Zj,Nat.zero_add,decide_true,Bool.and_true,Bool.true_and,cond_true,cond_false]
  ·rw [D4.inn_f1 _ _ h1,List.append_nil];simp only [D4] at h1;simp (disch:=omega) only [Ye,x7g,Zb,Zk,Zt,Yz,Yb,Yu,Yq,Zh,Zq,Zx,Yp,Zj,Nat.zero_add,decide_true,Bool.and_true,Bool.true_and,cond_true,cond_false]
theorem v8r (i:Nat) (out:List R4) (last:List R2) (first fin x x':Int) (o1:List R2): ∀(k j:Nat) (acc:List R2),j+k=b.length→acc.length≤j→
  ∃n,∀N,Yk (Ye q a b) (N+n) (.to (.h4 (i:Int) (j:Int) out last first fin ((D4.cuts (a++b)).length) (Wx (Yo (D4.ends (a++b)))) x x' o1 acc))=Yk (Ye q a b) N (.to (.h4 (i:Int) (b.length:Int) out last first fin ((D4.cuts (a++b)).length) (Wx (Yo (D4.ends (a++b)))) x x' o1 (acc++D4.inn (b.drop j) x)))
 | 0,j,acc,h,h'=>by have _u:=ha;have _v:=hb;refine ⟨0,fun N=> ?_⟩;rw [List.drop_eq_nil_of_le (by omega),show D4.inn ([]:List R4) x=[] from rfl,List.append_nil,Nat.add_zero,show j=b.length by omega]
 | k+1,j,acc,h,h'=>by
  have hj:j<b.length:=by omega
  obtain ⟨n,hn⟩:=v8r i out last first fin x x' o1 k (j+1) (acc++D4.inn [rd b j] x) (by omega) (by have:=D4.inn_length [rd b j] x;simp only [List.length_append,List.length_singleton] at*;omega)
  refine ⟨n+1,fun N=> ?_⟩;have e:D4.inn (b.drop j) x=D4.inn [rd b j] x++D4.inn (b.drop (j+1)) x:=by rw [Ya hj,←D4.inn_append];rfl
  rw [e,←Nat.add_assoc,Zv,←List.append_assoc,←hn N];by_cases h1:D4.lo (rd b j)≤x
  ·by_cases h2:x<D4.hi (rd b j)
   ·rw [D4.inn_t _ _ h1 h2];simp only [D4] at h1 h2 ⊢;simp (disch:=omega) only [Ye,Xn,Zb,Zk,Zt,Yz,Yb,Yu,Yq,Zh,Zq,Zx,Yp,Zj,Nat.zero_add,decide_true,Bool.and_true,Bool.true_and,cond_true,cond_false]
   ·rw [D4.inn_f2 _ _ h2,List.append_nil];simp only [D4] at h1 h2;simp (disch:=omega) only [Ye,Xn,Yv,Zb,Zk,Zt,Yz,Yb,Yu,Yq,Zh,Zq,Zx,Yp,Zj,Nat.zero_add,decide_true,Bool.and_true,Bool.true_and,cond_true,cond_false]
  ·rw [D4.inn_f1 _ _ h1,List.append_nil];simp only [D4] at h1;simp (disch:=omega) only [Ye,x7g,Zb,Zk,Zt,Yz,Yb,Yu,Yq,Zh,Zq,Zx,Yp,Zj,Nat.zero_add,decide_true,Bool.and_true,Bool.true_and,cond_true,cond_false]
theorem v8q (i:Nat) (hi:i≤2000) (x x':Int) (s:List R2) (first:Int) (o1 o2:List R2) (hs:s.length≤1000): ∀(k j:Nat) (out:List R4),j+k=s.length→out.length≤10000000+j→
  ∃n,∀N,Yk (Ye q a b) (N+n) (.to (.h5 x x' s (s.length:Int) (j:Int) (i:Int) out first ((D4.cuts (a++b)).length) (Wx (Yo (D4.ends (a++b)))) o1 o2))=Yk (Ye q a b) N (.to (.h2 ((i+1:Nat):Int) (out++(s.drop j).map (D4.put x x')) s first x' ((D4.cuts (a++b)).length) (Wx (Yo (D4.ends (a++b))))))
 | 0,j,out,h,ho=>by have _u:=ha;have _v:=hb;refine ⟨1,fun N=> ?_⟩;rw [List.drop_eq_nil_of_le (by omega),Zv];simp (disch:=omega) only [Ye,Yv,Zq,Zx,cond_false,List.map_nil,List.append_nil]
 | k+1,j,out,h,ho=>by
  obtain ⟨n,hn⟩:=v8q i hi x x' s first o1 o2 hs k (j+1) (out++[D4.put x x' (rd s j)]) (by omega) (by simp;omega)
  refine ⟨n+1,fun N=> ?_⟩;have:=hn N;rw [Ya (show j<s.length by omega),List.map_cons,←Nat.add_assoc,Zv];simp (disch:=omega) only [Ye,Zb,Zk,Zt,Yz,Yb,Yu,Yq,Zh,Zq,Zx,Yp,Zj,Nat.zero_add,decide_true,Bool.and_true,Bool.true_and,cond_true,cond_false];rw [List.append_assoc] at this;exact this
theorem v8p (i:Nat) (hi:i≤2000) (x x' fin:Int) (s last:List R2) (first:Int) (o1 o2:List R2): ∀(k j:Nat) (out:List R4),j+k=out.length→out.length≤10000000→
  ∃n,∀N,Yk (Ye q a b) (N+n) (.to (.h6 x' (j:Int) x s (i:Int) out last first fin ((D4.cuts (a++b)).length) (Wx (Yo (D4.ends (a++b)))) o1 o2))=Yk (Ye q a b) N (.to (.h2 ((i+1:Nat):Int) (D4.grow out j x') last first x' ((D4.cuts (a++b)).length) (Wx (Yo (D4.ends (a++b))))))
 | 0,j,out,h,ho=>by have _u:=ha;have _v:=hb;refine ⟨1,fun N=> ?_⟩;rw [D4.grow_nil _ _ _ (by omega),Zv];simp (disch:=omega) only [Ye,Yv,Zq,Zx,cond_false]
 | k+1,j,out,h,ho=>by
  obtain ⟨n,hn⟩:=v8p i hi x x' fin s last first o1 o2 k (j+1) (out.set j (D4.ext x' (rd out j))) (by simp;omega) (by simpa using ho)
  refine ⟨n+1,fun N=> ?_⟩;have:=hn N;rw [D4.grow_set out j _ (by omega)] at this;rw [←Nat.add_assoc,Zv];simp (disch:=omega) only [Ye,Zb,Zk,Zt,Yz,Yb,Yu,Yq,Zh,Zq,Zx,Yp,Zj,Nat.zero_add,decide_true,Bool.and_true,Bool.true_and,cond_true,cond_false];exact this
theorem w6y : ∀(k i:Nat) (s:Sw R4 R2),k=(D4.cuts (a++b)).length - 1 - i→i≤(D4.cuts (a++b)).length →s.out.length≤i*1000→s.last.length≤1000→s.first≤s.out.length→
  ∃n,Yk (Ye q a b) n (.to (.h2 ((i+1:Nat):Int) s.out s.last (s.first:Int) s.fin ((D4.cuts (a++b)).length) (Wx (Yo (D4.ends (a++b))))))=.ret (y2q (eJ (w4w (rgA q a b) (D4.cuts (a++b)) k i) (D4.goS (rgS q a b) (D4.cuts (a++b)) k i s).out.length) (D4.goS (rgS q a b) (D4.cuts (a++b)) k i s).out)
 | 0,i,s,h,hi,ho,hla,hf=>by
  have _u:=ha;have _v:=hb;have hc:=D4.cuts_length (a++b);refine ⟨1,?_⟩;rw [Zv,show D4.goS (rgS q a b) (D4.cuts (a++b)) 0 i s=s from rfl,show w4w (rgA q a b) (D4.cuts (a++b)) 0 i=0 from rfl,v3q];unfold Kg;by_cases g:(s.out.length:Int)>400
  ·simp (disch:=omega) only [Ye,Yv,Yi,cond_true,cond_false,Zg]
  ·simp (disch:=omega) only [Ye,Yv,Xj,cond_true,cond_false,Zg]
 | k +1,i,s,h,hi,ho,hla,hf=>by
  have hc:=D4.cuts_length (a++b);rw [List.length_append] at hc;have hi1:i+1<(D4.cuts (a++b)).length :=by omega
  have hpl:(Wx (Yo (D4.ends (a++b)))).length =2*(a.length+b.length):=by rw [Uu,Wz,D4.ends_length,List.length_append]
  have r0:rd (Wx (Yo (D4.ends (a++b)))) i=rd (D4.cuts (a++b)) i:=z3f _ _ (by show i<(D4.cuts (a++b)).length;omega);have r1:rd (Wx (Yo (D4.ends (a++b)))) (i+1)=rd (D4.cuts (a++b)) (i+1):=z3f _ _ (by show i+1<(D4.cuts (a++b)).length;omega);have hbig:i*1000≤2000*1000:=Nat.mul_le_mul_right _ (by omega);have hgo:D4.goS (rgS q a b) (D4.cuts (a++b)) (k+1) i s=D4.goS (rgS q a b) (D4.cuts (a++b)) k (i+1) (D4.oneS (rgS q a b (rd (D4.cuts (a++b)) i)) (rd (D4.cuts (a++b)) i) (rd (D4.cuts (a++b)) (i+1)) s):=rfl;have hfe: ∀x,x=rd (D4.cuts (a++b)) i→(rgA q a b x != 0)=false→w4w (rgA q a b) (D4.cuts (a++b)) (k+1) i=w4w (rgA q a b) (D4.cuts (a++b)) k (i+1):=fun x hx z=>by show (bif rgA q a b (rd (D4.cuts (a++b)) i) != 0 then _ else _)=_;rw [←hx,z];rfl
  revert hgo hfe r0;generalize hx:rd (D4.cuts (a++b)) i=x;generalize hx':rd (D4.cuts (a++b)) (i+1)=x' at r1;intro r0 hgo hfe;obtain ⟨n3,h3⟩:=v8s q a b ha hb (i+1) s.out s.last (s.first:Int) s.fin x x' a.length 0 [] (Nat.zero_add _) (Nat.le_refl _);simp only [List.drop_zero,List.nil_append,z5w] at h3;obtain ⟨n4,h4⟩:=v8r q a b ha hb (i+1) s.out s.last (s.first:Int) s.fin x x' (D4.inn a x) b.length 0 [] (Nat.zero_add _) (Nat.le_refl _);simp only [List.drop_zero,List.nil_append,z5w] at h4;have st0: ∀N,Yk (Ye q a b) (N+n4+n3+1) (.to (.h2 ((i+1:Nat):Int) s.out s.last (s.first:Int) s.fin ((D4.cuts (a++b)).length) (Wx (Yo (D4.ends (a++b))))))=Yk (Ye q a b) N (.to (.h4 ((i+1:Nat):Int) (b.length:Int) s.out s.last (s.first:Int) s.fin ((D4.cuts (a++b)).length) (Wx (Yo (D4.ends (a++b)))) x x' (D4.inn a x) (D4.inn b x))):=fun N=>by
   rw [←h4 N,←h3 (N+n4),Zv];have e1:IntKind.wrap .i64 (((i+1:Nat):Int) - 1)=(i:Int):=by rw [Zs];exact Zq (by omega)
   simp (disch:=omega) only [Ye,e1,r0,r1,Zb,Zk,Zt,Yz,Yb,Yu,Yq,Zh,Zq,Zx,Yp,Zj,Nat.zero_add,decide_true,Bool.and_true,Bool.true_and,cond_true,cond_false]
  have w1:y8h q (D4.inn a x) (D4.inn b x)=true:=rfl;have f1:Kd (Zz (D4.inn a x))=true:=Ys _;have f2:Kd (Zz (D4.inn b x))=true:=Ys _;rcases Yn (rgA q a b x != 0) with z | z
  ·have z':(w1r q (D4.inn a x) (D4.inn b x) != 0)=true:=z;refine ⟨1+n4+n3+1,?_⟩;rw [st0 1,Zv];have e:w4w (rgA q a b) (D4.cuts (a++b)) (k+1) i=rgA q a b x:=by show (bif rgA q a b (rd (D4.cuts (a++b)) i) != 0 then rgA q a b (rd (D4.cuts (a++b)) i) else _)=_;rw [hx,z];rfl
   simp (disch:=omega) only [Ye,Yv,z',w1,f1,f2,Zb,Zk,Zt,Yz,Yb,Yu,Yq,Zh,Zq,Zx,Yp,Zj,Nat.zero_add,decide_true,Bool.and_true,Bool.true_and,cond_true,cond_false,Zg];rw [e,show eJ (rgA q a b x) _=rgA q a b x by unfold eJ;rw [z];rfl,z1s _ z];rfl
  have z':(w1r q (D4.inn a x) (D4.inn b x) != 0)=false:=z;have v:z2x q (D4.inn a x) (D4.inn b x)=rgS q a b x:=v0e _ z;have hsl:=u3j q a b x z;have w2:Va s.last (rgS q a b x)=true:=decide_eq_true (by omega);rw [hgo,hfe x rfl z];have ol:(D4.oneS (rgS q a b x) x x' s).out.length ≤s.out.length+(rgS q a b x).length :=by
   unfold Dim.oneS;cases decide (0<(rgS q a b x).length)&&((s.fin == x)&&D4.same s.last (rgS q a b x))
   ·simp
   ·simp [Dim.grow_length]
  rcases Yn (decide (0<(rgS q a b x).length)&&((s.fin == x)&&D4.same s.last (rgS q a b x))) with g | g
  ·obtain ⟨n6,h6⟩:=v8p q a b ha hb (i+1) (by omega) x x' s.fin (rgS q a b x) s.last (s.first:Int) (D4.inn a x) (D4.inn b x) (s.out.length - s.first) s.first s.out (by omega) (by omega)
   have e:D4.oneS (rgS q a b x) x x' s=⟨D4.grow s.out s.first x',s.last,s.first,x'⟩:=by unfold Dim.oneS;rw [g];rfl
   obtain ⟨n0,h0⟩:=w6y k (i+1) (D4.oneS (rgS q a b x) x x' s) (by omega) (by omega) (by omega) (by rw [e];exact hla) (by rw [e];simpa [Dim.grow_length] using hf);refine ⟨n0+n6+1+n4+n3+1,?_⟩;rw [st0 (n0+n6+1),Zv];simp only [Bool.and_eq_true,decide_eq_true_eq] at g;obtain ⟨g1,g2,g3⟩:=g;have g3':Kq s.last (rgS q a b x)=true:=g3;simp (disch:=omega) only [Ye,Yv,Yi,z',v,g2,g3',w1,f1,f2,w2,Zb,Zk,Zt,Yz,Yb,Yu,Yq,Zh,Zq,Zx,Yp,Zj,Nat.zero_add,decide_true,Bool.and_true,Bool.true_and,cond_true,cond_false];rw [h6 n0];rw [e] at h0 ⊢;exact h0
  ·obtain ⟨n5,h5⟩:=v8q q a b ha hb (i+1) (by omega) x x' (rgS q a b x) (s.out.length:Int) (D4.inn a x) (D4.inn b x) hsl (rgS q a b x).length 0 s.out (Nat.zero_add _) (by omega);simp only [List.drop_zero,z5w] at h5;have e:D4.oneS (rgS q a b x) x x' s=⟨s.out++(rgS q a b x).map (D4.put x x'),rgS q a b x,s.out.length,x'⟩:=by unfold Dim.oneS;rw [g];rfl
   obtain ⟨n0,h0⟩:=w6y k (i+1) (D4.oneS (rgS q a b x) x x' s) (by omega) (by omega) (by omega) (by rw [e];exact hsl) (by rw [e];simp);have hg:Yk (Ye q a b) 1 (.to (.h4 ((i+1:Nat):Int) (b.length:Int) s.out s.last (s.first:Int) s.fin ((D4.cuts (a++b)).length) (Wx (Yo (D4.ends (a++b)))) x x' (D4.inn a x) (D4.inn b x)))=.to (.h5 x x' (rgS q a b x) ((rgS q a b x).length :Int) 0 ((i+1:Nat):Int) s.out (s.out.length:Int) ((D4.cuts (a++b)).length) (Wx (Yo (D4.ends (a++b)))) (D4.inn a x) (D4.inn b x)):=by
    rw [show (1:Nat)=0+1 from rfl,Zv];have e3:D4.same s.last (rgS q a b x)=Kq s.last (rgS q a b x):=rfl;rw [e3] at g;by_cases g1:0<(rgS q a b x).length
    ·rw [decide_eq_true g1,Bool.true_and] at g;rcases Yn (s.fin == x) with g2 | g2
     ·rw [g2,Bool.true_and] at g;simp (disch:=omega) only [Ye,Yv,Yi,z',v,g2,g,w1,f1,f2,w2,Zb,Zk,Zt,Yz,Yb,Yu,Yq,Zh,Zq,Zx,Yp,Zj,Nat.zero_add,decide_true,Bool.and_true,Bool.true_and,cond_true,cond_false];rfl
     ·simp (disch:=omega) only [Ye,Yv,Yi,z',v,g2,w1,f1,f2,w2,Zb,Zk,Zt,Yz,Yb,Yu,Yq,Zh,Zq,Zx,Yp,Zj,Nat.zero_add,decide_true,Bool.and_true,Bool.true_and,cond_true,cond_false];rfl
    ·simp (disch:=omega) only [Ye,Yv,Xj,z',v,w1,f1,f2,w2,Zb,Zk,Zt,Yz,Yb,Yu,Yq,Zh,Zq,Zx,Yp,Zj,Nat.zero_add,decide_true,Bool.and_true,Bool.true_and,cond_true,cond_false];rfl
   refine ⟨n0+n5+1+n4+n3+1,?_⟩;rw [st0 (n0+n5+1),z7a _ (n0+n5) 1,hg,h5 n0];rw [e] at h0 ⊢;exact h0
theorem v8t : ∀(k i:Nat) (acc:List Int),i+k=b.length→acc=D4.ends (a++b.take i)→ ∃n,Yk (Ye q a b) n (.to (.h1 (i:Int) acc))=.ret (y2q (eJ (w4w (rgA q a b) (D4.cuts (a++b)) ((D4.cuts (a++b)).length - 1) 0) (D4.goS (rgS q a b) (D4.cuts (a++b)) ((D4.cuts (a++b)).length - 1) 0 ⟨[],[],0,0⟩).out.length) (D4.goS (rgS q a b) (D4.cuts (a++b)) ((D4.cuts (a++b)).length - 1) 0 ⟨[],[],0,0⟩).out)
 | 0,i,acc,h,h'=>by
  have _u:=ha;have _v:=hb;have e:acc=D4.ends (a++b):=by rw [h',List.take_of_length_le (by omega)]
  subst e;have hle:=D4.ends_length (a++b);rw [List.length_append] at hle;obtain ⟨n,hn⟩:=w6y q a b ha hb ((D4.cuts (a++b)).length - 1) 0 ⟨[],[],0,0⟩ (by omega) (Nat.zero_le _) (Nat.zero_le _) (Nat.zero_le _) (Nat.zero_le _);refine ⟨n+1,?_⟩;rw [Zv];simp (disch:=omega) only [Ye,Wg,Qk,z8s,Yv,Yu,Yq,decide_true,cond_true,cond_false];exact hn
 | k+1,i,acc,h,h'=>by
  have hle:acc.length≤2*(400+i):=by rw [h',D4.ends_length];simp only [List.length_append,List.length_take];omega
  obtain ⟨n,hn⟩:=v8t k (i+1) (acc++D4.ends [rd b i]) (by omega) (by
   rw [h',List.take_add_one];have:b[i]? =some (rd b i):=by rw [Xv (show i<b.length by omega)];exact List.getElem?_eq_getElem _
   rw [this];simp [Dim.ends])
  refine ⟨n+1,?_⟩;rw [Zv];simp (disch:=omega) only [Ye,Zb,Zk,Zt,Yz,Yb,Yu,Yq,Zh,Zq,Zx,Yp,Zj,Nat.zero_add,decide_true,Bool.and_true,Bool.true_and,cond_true,cond_false];exact hn
theorem v8u : ∀(k i:Nat) (acc:List Int),i+k=a.length→acc=D4.ends (a.take i)→ ∃n,Yk (Ye q a b) n (.to (.h0 (i:Int) acc))=.ret (y2q (eJ (w4w (rgA q a b) (D4.cuts (a++b)) ((D4.cuts (a++b)).length - 1) 0) (D4.goS (rgS q a b) (D4.cuts (a++b)) ((D4.cuts (a++b)).length - 1) 0 ⟨[],[],0,0⟩).out.length) (D4.goS (rgS q a b) (D4.cuts (a++b)) ((D4.cuts (a++b)).length - 1) 0 ⟨[],[],0,0⟩).out)
 | 0,i,acc,h,h'=>by have _u:=ha;have _v:=hb;obtain ⟨n,hn⟩:=v8t q a b ha hb b.length 0 acc (Nat.zero_add _) (by rw [h',List.take_of_length_le (by omega),List.take_zero,List.append_nil]);refine ⟨n+1,?_⟩;rw [Zv];simp (disch:=omega) only [Ye,Yv,cond_false];exact hn
 | k+1,i,acc,h,h'=>by
  have hle:acc.length≤2*(400+i):=by rw [h',D4.ends_length];simp only [List.length_append,List.length_take];omega
  obtain ⟨n,hn⟩:=v8u k (i+1) (acc++D4.ends [rd a i]) (by omega) (by
   rw [h',List.take_add_one];have:a[i]? =some (rd a i):=by rw [Xv (show i<a.length by omega)];exact List.getElem?_eq_getElem _
   rw [this];simp [Dim.ends])
  refine ⟨n+1,?_⟩;rw [Zv];simp (disch:=omega) only [Ye,Zb,Zk,Zt,Yz,Yb,Yu,Yq,Zh,Zq,Zx,Yp,Zj,Nat.zero_add,decide_true,Bool.and_true,Bool.true_and,cond_true,cond_false];exact hn
end
def rgE (q:Op) (a b:List R4):Int:=bif y5a a != 0 then y5a a else bif y5a b != 0 then y5a b else eJ (w4w (rgA q a b) (D4.cuts (a++b)) ((D4.cuts (a++b)).length - 1) 0) (rgJ q.k a b).length
def Wf (q:Op) (a b:List R4):List R4:=y9s (rgE q a b) (rgJ q.k a b)
def x1f (q:Op) (a b:List R4):Int:=rgE q a b
def Kr (q:Op) (a b:List R4):Bool:=true
theorem x9h {l:List R4} (h:(y5a l != 0)=false):l.length≤400:=by
 refine Classical.byContradiction fun g=> ?_;have h:y5a l=0:=by simpa using h
 unfold y5a at h;rw [decide_eq_true (by omega)] at h;cases h
theorem rg_run (q:Op) (a b:List R4) (h:Kr q a b=true): ∃n,Yk (Ye q a b) n (y1b q a b)=.ret (y2q (rgE q a b) (rgJ q.k a b)):=by
 unfold y1b;have o: ∀l,z3d l=true:=fun _=>rfl;simp only [Zb,o,cond_true];rcases Yn (y5a a != 0) with q1 | q1
 ·exact ⟨0,by simp only [rgE,q1,cond_true,z1s _ q1];rfl⟩
 rcases Yn (y5a b != 0) with q2 | q2
 ·exact ⟨0,by simp only [rgE,q1,q2,cond_true,cond_false,z1s _ q2];rfl⟩
 obtain ⟨n,hn⟩:=v8u q a b (x9h q1) (x9h q2) a.length 0 [] (Nat.zero_add _) rfl;refine ⟨n,?_⟩;simp only [rgE,q1,q2,cond_false];exact hn
def fRg (q:Op):List AVal→Option (AVal×Bool)
 | [a0,a1]=>match asL R4 a0,asL R4 a1 with
  | some (L0,g0,n0),some (L1,g1,n1)=>some (.tup [.dat (Wf q L0 L1).length (Zz (Wf q L0 L1)),.int .i64 (x1f q L0 L1)],isT R4 n0 g0&&(isT R4 n1 g1&&(Kr q L0 L1)))
  | _,_=>none
 | _=>none
theorem v0b (q:Op) {S:Specs} (hS:Zu prog S):Zu prog (S.with (nRg q) (fRg q)):=by
 refine w4x hS (by cases q <;> kernel_rfl) fun args v h=> ?_;unfold fRg at h;split at h
 ·rename_i a0 a1;split at h
  ·rename_i L0 g0 n0 L1 g1 n1 e0 e1;simp only [Option.some.injEq,Prod.mk.injEq,Bool.and_eq_true] at h;obtain ⟨rfl,ho0,ho1,hw⟩:=h;obtain ⟨N,hN⟩:=rg_run q L0 L1 hw;exact ⟨_,_,(.cons (asL_le e0 ho0) (.cons (asL_le e1 ho1) .nil)),z1r _ _,v3g q L0 L1 N _ hN,3,z5e _ _⟩
  ·cases h
 ·cases h
def Ud :Specs:=((Uc.with (nRg .u) (fRg .u)).with (nRg .e) (fRg .e)).with (nRg .d) (fRg .d)
theorem Ud_ok :Zu prog Ud:=v0b .d (v0b .e (v0b .u Jo))
end Go.Am
namespace Go.Am
structure R7 where
 (a b c d e f g:Int)
instance : Yh R7 where
 w:=7
 d:=⟨0,0,0,0,0,0,0⟩
 cells x:=[.int .u8 x.a,.int .i64 x.b,.int .i64 x.c,.int .i64 x.d,.int .i64 x.e,.int .i64 x.f,.int .i64 x.g]
 of l:=⟨iOf (l.getD 0 .undef),iOf (l.getD 1 .undef),iOf (l.getD 2 .undef),iOf (l.getD 3 .undef),iOf (l.getD 4 .undef),iOf (l.getD 5 .undef),iOf (l.getD 6 .undef)⟩
 len _:=rfl
 pos:=by decide
 flat _:=rfl
 sc _:=rfl
 back _:=rfl
end Go.Am
namespace Go.Am
inductive Ax where
 | x | y | z
def Ax.lo (q:Ax) (r:R6):Int:=match q with
 | .x =>r.a
 | .y =>r.b
 | .z =>r.c
def Ax.hi (q:Ax) (r:R6):Int:=match q with
 | .x =>r.d
 | .y =>r.e
 | .z =>r.f
def Ax.rc (q:Ax) (r:R6):R4:=match q with
 | .x =>⟨r.b,r.c,r.e,r.f⟩
 | .y =>⟨r.a,r.c,r.d,r.f⟩
 | .z =>⟨r.a,r.b,r.d,r.e⟩
def Ax.ix (q:Ax):Int:=match q with
 | .x =>0
 | .y =>1
 | .z =>2
def sdI (s:Bool):Int:=match s with
 | true=>0
 | false=>1
def qd (q:Ax) (s:Bool) (p:Int) (t:R4):R7:=match q,s with
 | .x,true=>⟨0,p,t.a,t.b,p,t.c,t.d⟩
 | .x,false=>⟨1,p,t.a,t.b,p,t.c,t.d⟩
 | .y,true=>⟨2,t.a,p,t.b,t.c,p,t.d⟩
 | .y,false=>⟨3,t.a,p,t.b,t.c,p,t.d⟩
 | .z,true=>⟨4,t.a,t.b,p,t.c,t.d,p⟩
 | .z,false=>⟨5,t.a,t.b,p,t.c,t.d,p⟩
def z1d (q:Ax) (L:List R6) (p:Int):List R4:=(L.filter fun r=>decide (q.lo r≤p)&&decide (p<q.hi r)).map q.rc
end Go.Am
namespace Go.Am
open Go.Proofs.Tryz
open Go.Proofs
abbrev nV1 :Ax→Nat
 | .x =>nMv1
 | .y =>nMv4
 | .z =>nMv7
abbrev nV2 :Ax→Nat
 | .x =>nMv2
 | .y =>nMv5
 | .z =>nMv8
abbrev nV3 :Ax→Nat
 | .x =>nMv3
 | .y =>nMv6
 | .z =>nMv9
def isV (q:Ax) (a b c:Nat):Bool:=Nat.beq a (nV1 q)&&(Nat.beq b (nV2 q)&&Nat.beq c (nV3 q))
theorem w9c {q:Ax} {a b c:Nat} (h:isV q a b c=true):a=nV1 q∧b=nV2 q∧c=nV3 q:=by simp only [isV,Bool.and_eq_true] at h;exact ⟨Nat.eq_of_beq_eq_true h.1,Nat.eq_of_beq_eq_true h.2.1,Nat.eq_of_beq_eq_true h.2.2⟩
def axOf (a b c:Nat):Option Ax:=bif isV .x a b c then some .x else bif isV .y a b c then some .y else bif isV .z a b c then some .z else none
theorem x7w {a b c:Nat} {q:Ax} (h:axOf a b c=some q):a=nV1 q∧b=nV2 q∧c=nV3 q:=by
 unfold axOf at h;cases hx:isV .x a b c with
 | true=>rw [hx,cond_true] at h;obtain rfl:=Option.some.inj h;exact w9c hx
 | false=>
  rw [hx,cond_false] at h;cases hy:isV .y a b c with
  | true=>rw [hy,cond_true] at h;obtain rfl:=Option.some.inj h;exact w9c hy
  | false=>
   rw [hy,cond_false] at h;cases hz:isV .z a b c with
   | true=>rw [hz,cond_true] at h;obtain rfl:=Option.some.inj h;exact w9c hz
   | false=>rw [hz,cond_false] at h;cases h
abbrev Ma :Specs:=Ud
theorem x8l :Zu prog Ma:=Ud_ok
end Go.Am
namespace Go.Am
open Go.Proofs.Tryz
open Go.Proofs
inductive mctS where
 | h0 (v8:List R4) (v13:Int)
def mctC (q:Ax) (l1:List R6) (x2:Int):mctS→Cfg
 | .h0 v8 v13=>⟨⟨47,0,true⟩,none,(Zd prog 141 [1,1,0,1,0,0] 0),none,(Zy prog 32),⟨Yc [(2,(ii x2)),(3,(.ptr 0 0)),(8,(.sla 1 4 0 v8.length (.un 4))),(11,(.dat l1.length (Zz l1))),(12,(ii (l1.length:Int))),(13,(ii v13))],Un [⟨[(.fn (nV1 q) []),(.fn (nV2 q) []),(.fn (nV3 q) [])],84,none⟩,⟨rows v8.length (Zz v8),88,some ⟨4,v8.length,(Zz v8)⟩⟩] 0,2,[],true⟩,[],.leaf⟩
def v4r :List (Option (List Nat)):=[some [2,3,8,11,12,13]]
def v4s :List (Option (List Nat)):=[]
def z2a (q:Ax) (l1:List R6) (x2:Int):mctS→Xo mctS
 | .h0 v8 v13=>(bif (decide (v13<(l1.length:Int))) then (bif ((decide (0≤v13∧v13<(l1.length:Int)))&&true) then (bif (decide ((q.lo (rd l1 v13.toNat))≤x2)) then (bif (decide (x2<(q.hi (rd l1 v13.toNat)))) then (bif (Nat.beq 4 4&&((decide (0+v8.length=v8.length))&&decide ((v8.length+1+1)*(32+1)≤Us))) then (.to (.h0 (v8++[(q.rc (rd l1 v13.toNat))]) (IntKind.wrap .i64 (v13+1)))) else .stuck) else (.to (.h0 v8 (IntKind.wrap .i64 (v13+1))))) else (.to (.h0 v8 (IntKind.wrap .i64 (v13+1))))) else .stuck) else (bif (Ux (cvT v8)) then (.ret [(.dat (Za (cvT v8)).length (Zz (Za (cvT v8)))),(.int .i64 (Xg (cvT v8)))]) else .stuck))
def y9f (q:Ax) (l1:List R6) (x2:Int):Xo mctS:=(.to (.h0 ([]:List R4) 0))
theorem w3b (q:Ax) (l1:List R6) (x2:Int): ∀s,Xk prog (Zy prog 141) (mctC q l1 x2) (mctC q l1 x2 s) (z2a q l1 x2 s):=by cases q <;> refine (?f: ∀q:Ax,∀s,Xk prog (Zy prog 141) (mctC q l1 x2) (mctC q l1 x2 s) (z2a q l1 x2 s)) _ <;> exact fun q=>fun
 | .h0 v8 v13=>(lb (fun k0=>(lo fun aG=>(lb (fun k1=>(lb (fun k2=>(lo fun o0=>(sl x8l 137 [] ⟨[0,12],[],v4r,v4s⟩ ⟨[(8,.len (v8++[(q.rc (rd l1 (tn v13)))]).length)],[.keep,.rowed 4 (v8++[(q.rc (rd l1 (tn v13)))]).length (Zz (v8++[(q.rc (rd l1 (tn v13)))]))],[]⟩ (trs 9 []) (pp (xL (v8.length+1) (v8++[(q.rc (rd l1 (tn v13)))]).length) (pp (xL (v8.length+1) (v8++[(q.rc (rd l1 (tn v13)))]).length) (pp (xS (v8.length+1) (Zi (Zz v8) 0 v8.length 4 (Yh.cells (q.rc (rd l1 (tn v13))))) (Zz (v8++[(q.rc (rd l1 (tn v13)))]))) (pp (pp (xF (Zi (Zz v8) 0 v8.length 4 (Yh.cells (q.rc (rd l1 (tn v13)))))) nn) (ww o0 (tt k2 (tt k1 (ww aG (tt k0 nn)))))))))))) (fun k2=>(sl x8l 67 [] ⟨[0,1],[],v4r,v4s⟩ ⟨[],[],[]⟩ (trs 8 [false]) (pp (fl v8 nn) (tt k2 (tt k1 (ww aG (tt k0 nn))))))))) (fun k1=>(sl x8l 55 [] ⟨[0,1],[],v4r,v4s⟩ ⟨[],[],[]⟩ (bl 9 1) (pp (fl v8 nn) (tt k1 (ww aG (tt k0 nn))))))))) (fun k0=>(Wh (sl x8l (C':=⟨⟨47,0,true⟩,(Ui prog 141 [1,1,1,0] 1),(Zd prog 141 [1,1,1,0] 1),none,(Zy prog 32),⟨Yc [(43,(.dat v8.length (Zz v8)))],Un [] 0,0,[],true⟩,[],.leaf⟩) 10 [] ⟨[],[1],[some [43]],[]⟩ ⟨[(43,.frz v8.length v8.length (Zz v8) (Zz v8))],[],[]⟩ [false] (pp (xZ (z5p 4 4 0 v8.length v8.length (Zz v8)) v8.length (Zz v8)) (pp (xL v8.length v8.length) (pp (xS v8.length (Zz v8) (Zz v8)) (pp (fl v8 nn) (tt k0 nn)))))) (lo fun o0=>(lr 47 3 [1,1,1,1,1,1,1,0] 1 32 [(6,(.dat (Za (cvT v8)).length (Zz (Za (cvT v8))))),(7,(ii (Xg (cvT v8))))] (sl x8l 6 [] ⟨[],[],[some [6,7]],[]⟩ ⟨[],[],[]⟩ [] (pp (pp (xr v8) (xw o0)) nn)))))))
theorem x5z (q:Ax) (l1:List R6) (x2:Int):Xk prog (Zy prog 141) (mctC q l1 x2) (Ze prog 141 [(.agg [(.fn (nV1 q) []),(.fn (nV2 q) []),(.fn (nV3 q) [])]),(.dat l1.length (Zz l1)),(.int .i64 x2)] true []) (y9f q l1 x2):=by cases q <;> exact (sl x8l 19 [(88,4,Zz ([]:List R4))] ⟨[0,1],[],v4r,v4s⟩ ⟨[(8,.grow 1 4)],[],[]⟩ [] (pp (fl ([]:List R4) nn) nn))
theorem v4q (q:Ax) (l1:List R6) (x2:Int) (n:Nat) (vs:List AVal) (h:Yk (z2a q l1 x2) n (y9f q l1 x2)=.ret vs):Kv prog (Zy prog 141) (Ze prog 141 [(.agg [(.fn (nV1 q) []),(.fn (nV2 q) []),(.fn (nV3 q) [])]),(.dat l1.length (Zz l1)),(.int .i64 x2)] true []) vs:=by have:=Zr (w3b q l1 x2) n _ (x5z q l1 x2);rwa [h] at this
end Go.Am
namespace Go.Am
open Go.Proofs.Tryz
open Go.Proofs
theorem x7l (q:Ax) (L M:List R6) (p:Int):z1d q (L++M) p=z1d q L p++z1d q M p:=by unfold z1d;rw [List.filter_append,List.map_append]
theorem cutL_t (q:Ax) {r:R6} {p:Int} (h1:q.lo r≤p) (h2:p<q.hi r):z1d q [r] p=[q.rc r]:=by unfold z1d;rw [List.filter_cons,if_pos (by simp [h1,h2])];rfl
theorem u6w (q:Ax) {r:R6} {p:Int} (h1: ¬q.lo r≤p):z1d q [r] p=[]:=by unfold z1d;rw [List.filter_cons,if_neg (by simp [h1])];rfl
theorem u6v (q:Ax) {r:R6} {p:Int} (h2: ¬p<q.hi r):z1d q [r] p=[]:=by unfold z1d;rw [List.filter_cons,if_neg (by simp [h2])];rfl
def Ym (q:Ax) (L:List R6) (p:Int):List R4:=Za (z1d q L p)
def Jy (q:Ax) (L:List R6) (p:Int):Int:=Xg (z1d q L p)
def z0y (q:Ax) (L:List R6) (p:Int):Bool:=decide (L.length≤400)
theorem u0c (q:Ax) (L:List R6) (p:Int) (hl:L.length≤400): ∀(k i:Nat) (acc:List R4),i+k=L.length→acc.length≤i→z1d q L p=acc++z1d q (L.drop i) p→
  ∃n,Yk (z2a q L p) n (.to (.h0 acc (i:Int)))=.ret [.dat (Ym q L p).length (Zz (Ym q L p)),.int .i64 (Jy q L p)]
 | 0,i,acc,h,h',e=>by rw [List.drop_eq_nil_of_le (by omega),show z1d q [] p=[] from rfl,List.append_nil] at e;refine ⟨1,?_⟩;unfold Ym Jy;rw [Zv,e];simp (disch:=omega) only [z2a,Zb,show∀l,Ux l=true from fun _=>rfl,Yv,cond_true,cond_false,Zg]
 | k+1,i,acc,h,h',e=>by
  have hi:i<L.length:=by omega
  have e2:z1d q L p=(acc++z1d q [rd L i] p)++z1d q (L.drop (i+1)) p:=by rw [List.append_assoc,←x7l,e,Ya hi];rfl
  obtain ⟨n,hn⟩:=u0c q L p hl k (i+1) (acc++z1d q [rd L i] p) (by omega) (by
   have:(z1d q [rd L i] p).length ≤1:=by unfold z1d;rw [List.length_map];exact List.length_filter_le _ _
   rw [List.length_append];omega) e2
  refine ⟨n+1,?_⟩;rw [Zv];by_cases h1:q.lo (rd L i)≤p
  ·by_cases h2:p<q.hi (rd L i)
   ·rw [cutL_t q h1 h2] at hn;simp (disch:=omega) only [z2a,Xn,Zb,Zk,Zt,Yz,Yb,Yu,Yq,Zh,Zq,Zx,Yp,Zj,Nat.zero_add,decide_true,Bool.and_true,Bool.true_and,cond_true,cond_false];exact hn
   ·rw [u6v q h2,List.append_nil] at hn;simp (disch:=omega) only [z2a,Xn,Yv,Zb,Zk,Zt,Yz,Zq,Zx,Zj,Bool.and_true,cond_true,cond_false];exact hn
  ·rw [u6w q h1,List.append_nil] at hn;simp (disch:=omega) only [z2a,x7g,Zb,Zk,Zt,Yz,Zq,Zx,Zj,Bool.and_true,cond_true,cond_false];exact hn
theorem u4n (q:Ax) (L:List R6) (p:Int) (h:z0y q L p=true): ∃n,Yk (z2a q L p) n (y9f q L p)=.ret [.dat (Ym q L p).length (Zz (Ym q L p)),.int .i64 (Jy q L p)]:=
 u0c q L p (of_decide_eq_true h) L.length 0 [] (Nat.zero_add _) (Nat.le_refl _) rfl
def fMct :List AVal→Option (AVal×Bool)
 | [.agg [.fn a [],.fn b [],.fn c []],a1,.int .i64 x2]=>match axOf a b c,asL R6 a1 with
  | some q,some (L1,g1,n1)=>some (.tup [.dat (Ym q L1 x2).length (Zz (Ym q L1 x2)),.int .i64 (Jy q L1 x2)],isT R6 n1 g1&&(z0y q L1 x2))
  | _,_=>none
 | _=>none
theorem u6c {S:Specs} (hS:Zu prog S):Zu prog (S.with nMCut fMct):=by
 refine z3s hS (by kernel_rfl) fun args v h=> ?_;unfold fMct at h;split at h
 ·rename_i a b c a1 x2;split at h
  ·rename_i q L1 g1 n1 eq e1;simp only [Option.some.injEq,Prod.mk.injEq,Bool.and_eq_true] at h;obtain ⟨rfl,ho1,hw⟩:=h;obtain ⟨rfl,rfl,rfl⟩:=x7w eq;obtain ⟨N,hN⟩:=u4n q L1 x2 hw;exact ⟨_,_,(.cons (.refl _) (.cons (asL_le e1 ho1) (.cons (.refl _) .nil))),rfl,v4q q L1 x2 N _ hN,3,rfl⟩
  ·cases h
 ·cases h
def Mb :Specs:=Ma.with nMCut fMct
theorem v1q :Zu prog Mb:=u6c x8l
end Go.Am
namespace Go.Am
open Go.Proofs.Tryz
open Go.Proofs
inductive mfcS where
def mfcC (q:Ax) (l1:List R6) (x2:Int) (x3:Bool):mfcS→Cfg
 :=nofun
def y9e (q:Ax) (l1:List R6) (x2:Int) (x3:Bool):mfcS→Xo mfcS
 :=nofun
def z1z (q:Ax) (l1:List R6) (x2:Int) (x3:Bool):Xo mfcS:=(bif (z0y q (cvT l1) (IntKind.wrap .i64 (x2 - 1))) then (bif (z0y q (cvT l1) x2) then (bif ((Jy q (cvT l1) (IntKind.wrap .i64 (x2 - 1))) != 0) then (.ret [.nils,(.int .i64 (Jy q (cvT l1) (IntKind.wrap .i64 (x2 - 1))))]) else (bif ((Jy q (cvT l1) x2) != 0) then (.ret [.nils,(.int .i64 (Jy q (cvT l1) x2))]) else (bif x3 then (bif (Kr .d (cvT (Ym q (cvT l1) (IntKind.wrap .i64 (x2 - 1)))) (cvT (Ym q (cvT l1) x2))) then (.ret [(.dat (Wf .d (cvT (Ym q (cvT l1) (IntKind.wrap .i64 (x2 - 1)))) (cvT (Ym q (cvT l1) x2))).length (Zz (Wf .d (cvT (Ym q (cvT l1) (IntKind.wrap .i64 (x2 - 1)))) (cvT (Ym q (cvT l1) x2))))),(.int .i64 (x1f .d (cvT (Ym q (cvT l1) (IntKind.wrap .i64 (x2 - 1)))) (cvT (Ym q (cvT l1) x2))))]) else .stuck) else (bif (Kr .d (cvT (Ym q (cvT l1) x2)) (cvT (Ym q (cvT l1) (IntKind.wrap .i64 (x2 - 1))))) then (.ret [(.dat (Wf .d (cvT (Ym q (cvT l1) x2)) (cvT (Ym q (cvT l1) (IntKind.wrap .i64 (x2 - 1))))).length (Zz (Wf .d (cvT (Ym q (cvT l1) x2)) (cvT (Ym q (cvT l1) (IntKind.wrap .i64 (x2 - 1))))))),(.int .i64 (x1f .d (cvT (Ym q (cvT l1) x2)) (cvT (Ym q (cvT l1) (IntKind.wrap .i64 (x2 - 1))))))]) else .stuck)))) else .stuck) else .stuck)
theorem w2z (q:Ax) (l1:List R6) (x2:Int) (x3:Bool): ∀s,Xk prog (Zy prog 101) (mfcC q l1 x2 x3) (mfcC q l1 x2 x3 s) (y9e q l1 x2 x3 s)
 :=nofun
theorem x5y (q:Ax) (l1:List R6) (x2:Int) (x3:Bool):Xk prog (Zy prog 101) (mfcC q l1 x2 x3) (Ze prog 101 [(.agg [(.fn (nV1 q) []),(.fn (nV2 q) []),(.fn (nV3 q) [])]),(.dat l1.length (Zz l1)),(.int .i64 x2),(.bool x3)] true []) (z1z q l1 x2 x3):=by cases q <;> refine (?f: ∀q:Ax,Xk prog (Zy prog 101) (mfcC q l1 x2 x3) (Ze prog 101 [(.agg [(.fn (nV1 q) []),(.fn (nV2 q) []),(.fn (nV3 q) [])]),(.dat l1.length (Zz l1)),(.int .i64 x2),(.bool x3)] true []) (z1z q l1 x2 x3)) _ <;> exact fun q=>(lo fun bW=>(lo fun cP=>(lb (fun k0=>(lr 50 101 [1,1,1,0,1,0,0] 1 101 [(8,.nils),(9,(ii (Jy q (cvT l1) (wr (x2 - 1)))))] (sl v1q 96 [] ⟨[],[],[some [8,9]],[]⟩ ⟨[],[],[]⟩ (trs 5 []) (tt k0 (tt k0 (pp (pp (pp nn (pp nn (pp nn nn))) (pp (xr l1) (xw cP))) (pp (pp (pp nn (pp nn (pp nn nn))) (pp (xr l1) (xw bW))) nn))))))) (fun k0=>(lb (fun k1=>(lr 50 101 [1,1,1,0,1,0,0] 1 101 [(8,.nils),(9,(ii (Jy q (cvT l1) x2)))] (sl v1q 125 [] ⟨[],[],[some [8,9]],[]⟩ ⟨[],[],[]⟩ [false,false,true,true,false,true,true] (tt k1 (tt k0 (tt k1 (tt k0 (pp (pp (pp nn (pp nn (pp nn nn))) (pp (xr l1) (xw cP))) (pp (pp (pp nn (pp nn (pp nn nn))) (pp (xr l1) (xw bW))) nn))))))))) (fun k1=>(lb (fun k2=>(lo fun o0=>(lr 50 101 [1,1,1,1,0,1,0,0] 1 101 [(8,(.dat (Wf .d (cvT (Ym q (cvT l1) (wr (x2 - 1)))) (cvT (Ym q (cvT l1) x2))).length (Zz (Wf .d (cvT (Ym q (cvT l1) (wr (x2 - 1)))) (cvT (Ym q (cvT l1) x2)))))),(9,(ii (x1f .d (cvT (Ym q (cvT l1) (wr (x2 - 1)))) (cvT (Ym q (cvT l1) x2)))))] (sl v1q 59 [] ⟨[],[],[some [8,9]],[]⟩ ⟨[],[],[]⟩ [false,false,false,true] (pp (pp (xI R4 (Ym q (cvT l1) (wr (x2 - 1))).length (Zz (Ym q (cvT l1) (wr (x2 - 1))))) (pp (xI R4 (Ym q (cvT l1) x2).length (Zz (Ym q (cvT l1) x2))) (xw o0))) (tt k2 (tt k1 (tt k0 (pp (pp (pp nn (pp nn (pp nn nn))) (pp (xr l1) (xw cP))) (pp (pp (pp nn (pp nn (pp nn nn))) (pp (xr l1) (xw bW))) nn)))))))))) (fun k2=>(lo fun o0=>(lr 50 3 [1,1,1,1,1,1,1,0] 1 101 [(8,(.dat (Wf .d (cvT (Ym q (cvT l1) x2)) (cvT (Ym q (cvT l1) (wr (x2 - 1))))).length (Zz (Wf .d (cvT (Ym q (cvT l1) x2)) (cvT (Ym q (cvT l1) (wr (x2 - 1)))))))),(9,(ii (x1f .d (cvT (Ym q (cvT l1) x2)) (cvT (Ym q (cvT l1) (wr (x2 - 1)))))))] (sl v1q 60 [] ⟨[],[],[some [8,9]],[]⟩ ⟨[],[],[]⟩ [false,false,false,false] (pp (pp (xI R4 (Ym q (cvT l1) x2).length (Zz (Ym q (cvT l1) x2))) (pp (xI R4 (Ym q (cvT l1) (wr (x2 - 1))).length (Zz (Ym q (cvT l1) (wr (x2 - 1))))) (xw o0))) (tt k2 (tt k1 (tt k0 (pp (pp (pp nn (pp nn (pp nn nn))) (pp (xr l1) (xw cP))) (pp (pp (pp nn (pp nn (pp nn nn))) (pp (xr l1) (xw bW))) nn)))))))))))))))))
theorem v4n (q:Ax) (l1:List R6) (x2:Int) (x3:Bool) (n:Nat) (vs:List AVal) (h:Yk (y9e q l1 x2 x3) n (z1z q l1 x2 x3)=.ret vs):Kv prog (Zy prog 101) (Ze prog 101 [(.agg [(.fn (nV1 q) []),(.fn (nV2 q) []),(.fn (nV3 q) [])]),(.dat l1.length (Zz l1)),(.int .i64 x2),(.bool x3)] true []) vs:=by have:=Zr (w2z q l1 x2 x3) n _ (x5y q l1 x2 x3);rwa [h] at this
end Go.Am
namespace Go.Am
open Go.Proofs.Tryz
open Go.Proofs
def w3a (q:Ax) (L:List R6) (p:Int):Int:=bif Jy q L (IntKind.wrap .i64 (p - 1)) != 0 then Jy q L (IntKind.wrap .i64 (p - 1)) else Jy q L p
def Uq (q:Ax) (L:List R6) (p:Int) (s:Bool):Int:=bif w3a q L p != 0 then w3a q L p else
 bif s then rgE .d (Ym q L (IntKind.wrap .i64 (p - 1))) (Ym q L p) else rgE .d (Ym q L p) (Ym q L (IntKind.wrap .i64 (p - 1)))
def Vu (q:Ax) (L:List R6) (p:Int) (s:Bool):List R4:=bif w3a q L p != 0 then [] else
 bif s then Wf .d (Ym q L (IntKind.wrap .i64 (p - 1))) (Ym q L p) else Wf .d (Ym q L p) (Ym q L (IntKind.wrap .i64 (p - 1)))
def z3n (q:Ax) (L:List R6) (p:Int) (s:Bool):Bool:=decide (L.length≤400)
theorem u4k (q:Ax) (L:List R6) (p:Int) (s:Bool) (h:z3n q L p s=true): ∃n vs,Yk (y9e q L p s) n (z1z q L p s)=.ret vs∧
  ∀(ρ:Rho) (u:Value),Yy ρ (Je vs) u→Yy ρ (.tup [.dat (Vu q L p s).length (Zz (Vu q L p s)),.int .i64 (Uq q L p s)]) u:=by
 have o: ∀x,z0y q L x=true:=fun _=>h;unfold z1z;simp only [Zb,o,show∀a b,Kr .d a b=true from fun _ _=>rfl,cond_true];rcases Yn (Jy q L (IntKind.wrap .i64 (p - 1)) != 0) with q1 | q1
 ·refine ⟨0,_,by rw [q1,cond_true];rfl,?_⟩;have e:w3a q L p=Jy q L (IntKind.wrap .i64 (p - 1)):=by unfold w3a;rw [q1];rfl
  unfold Vu Uq;rw [e,q1,cond_true,cond_true];exact fun ρ u hu=>z2w (.cons (.nild _) (.cons (.refl _) .nil)) ρ u hu
 rcases Yn (Jy q L p != 0) with q2 | q2
 ·refine ⟨0,_,by rw [q1,q2,cond_false,cond_true];rfl,?_⟩;have e:w3a q L p=Jy q L p:=by unfold w3a;rw [q1];rfl
  unfold Vu Uq;rw [e,q2,cond_true,cond_true];exact fun ρ u hu=>z2w (.cons (.nild _) (.cons (.refl _) .nil)) ρ u hu
 have e:(w3a q L p != 0)=false:=by unfold w3a;rw [q1,cond_false];exact q2
 cases s with
 | true=>refine ⟨0,_,by rw [q1,q2,cond_false,cond_false,cond_true];rfl,?_⟩;unfold Vu Uq;rw [e];exact fun ρ u hu=>hu
 | false=>refine ⟨0,_,by rw [q1,q2,cond_false,cond_false,cond_false];rfl,?_⟩;unfold Vu Uq;rw [e];exact fun ρ u hu=>hu
def fMfc :List AVal→Option (AVal×Bool)
 | [.agg [.fn a [],.fn b [],.fn c []],a1,.int .i64 x2,.bool s]=>match axOf a b c,asL R6 a1 with
  | some q,some (L1,g1,n1)=>some (.tup [.dat (Vu q L1 x2 s).length (Zz (Vu q L1 x2 s)),.int .i64 (Uq q L1 x2 s)],isT R6 n1 g1&&(z3n q L1 x2 s))
  | _,_=>none
 | _=>none
theorem mfc_pf (q:Ax) (L:List R6) (p:Int) (s:Bool) (n:Nat) (vs:List AVal) (h:Yk (y9e q L p s) n (z1z q L p s)=.ret vs) (ho:z3n q L p s=true): ∃d,pf d (Je vs)=true:=by
 have o: ∀x,z0y q L x=true:=fun _=>ho;unfold z1z at h;simp only [Zb,o,show∀a b,Kr .d a b=true from fun _ _=>rfl,cond_true] at h;cases h1:(Jy q L (IntKind.wrap .i64 (p - 1)) != 0) <;> rw [h1] at h <;> simp only [cond_true,cond_false] at h
 ·cases h2:(Jy q L p != 0) <;> rw [h2] at h <;> simp only [cond_true,cond_false] at h
  ·cases s <;> simp only [cond_true,cond_false,Zg] at h <;> obtain rfl:=Xo.ret.inj h <;> exact ⟨3,rfl⟩
  ·rw [Zg] at h;obtain rfl:=Xo.ret.inj h;exact ⟨3,rfl⟩
 ·rw [Zg] at h;obtain rfl:=Xo.ret.inj h;exact ⟨3,rfl⟩
theorem u6b {S:Specs} (hS:Zu prog S):Zu prog (S.with w8g fMfc):=by
 refine w4x hS (by kernel_rfl) fun args v h=> ?_;unfold fMfc at h;split at h
 ·rename_i a b c a1 x2 s;split at h
  ·rename_i q L1 g1 n1 eq e1;simp only [Option.some.injEq,Prod.mk.injEq,Bool.and_eq_true] at h;obtain ⟨rfl,ho1,hw⟩:=h;obtain ⟨rfl,rfl,rfl⟩:=x7w eq;obtain ⟨N,vs,hN,hv⟩:=u4k q L1 x2 s hw;exact ⟨_,vs,(.cons (.refl _) (.cons (asL_le e1 ho1) (.cons (.refl _) (.cons (.refl _) .nil)))),hv,v4n q L1 x2 s N _ hN,mfc_pf q L1 x2 s N vs hN hw⟩
  ·cases h
 ·cases h
def Mc :Specs:=Mb.with w8g fMfc
theorem z9d :Zu prog Mc:=u6b v1q
end Go.Am
namespace Go.Am
open Go.Proofs.Tryz
open Go.Proofs
inductive mmdS where
 | h0 (q:Ax) (s:Bool) (v5:List Int) (v10:Int) (aA:List R7) (aJ:List R7)
 | h1 (q:Ax) (s:Bool) (bL:Nat) (v6:Int) (v7:Int) (aA:List R7) (aJ:List R7) (aQ:List Int)
 | h2 (q:Ax) (s:Bool) (v8:Int) (v37:List R4) (v38:Int) (v39:Int) (bQ:Nat) (cA:Int) (cB:Int) (aA:List R7) (aJ:List R7) (aQ:List Int)
def z8i (l0:List R6):mmdS→Cfg
 | .h0 q s v5 v10 aA aJ=>⟨⟨33,0,true⟩,none,(Zd prog 100 [1,1,0,1,0,0] 0),none,(Zy prog 5),⟨Yc [(2,(.ptr 0 0)),(5,(.sla 10 1 0 v5.length (.un 1))),(8,(.dat l0.length (Zz l0))),(9,(ii (l0.length:Int))),(10,(ii v10))],Un [⟨[(.fn (nV1 q) []),(.fn (nV2 q) []),(.fn (nV3 q) [])],84,none⟩,⟨[(.dat l0.length (Zz l0))],38,none⟩,⟨[(.sla 3 7 0 aA.length (.un 7))],25,none⟩,⟨rows aA.length (Zz aA),62,some ⟨7,aA.length,(Zz aA)⟩⟩,⟨[(ii 0)],26,none⟩,⟨[(.sla 6 7 0 aJ.length (.un 7))],25,none⟩,⟨rows aJ.length (Zz aJ),62,some ⟨7,aJ.length,(Zz aJ)⟩⟩,⟨[(ii q.ix)],3,none⟩,⟨[(.fn (nV1 q) []),(.fn (nV2 q) []),(.fn (nV3 q) [])],84,none⟩,⟨[(ii (sdI s))],3,none⟩,⟨rows v5.length (Zz v5),3,some ⟨1,v5.length,(Zz v5)⟩⟩] 0,11,[],true⟩,[⟨⟨75,0,true⟩,(Ui prog 52 [1,1,0,1,0,0,1,1,0,0,1,1,0,0,1,1,0,0,1,0] 2),(Zd prog 52 [1,1,0,1,0,0,1,1,0,0,1,1,0,0,1,1,0,0,1,0] 1),none,(Zy prog 52),Yc [(1,(.ptr 1 0)),(2,(.ptr 2 0)),(3,(.ptr 4 0)),(4,(.ptr 5 0)),(5,(.ptr 7 0)),(6,(.ptr 8 0)),(7,(.ptr 9 0)),(13,(.agg [(.fn 105 []),(.fn 106 []),(.fn 107 []),(.fn 108 []),(.fn 109 []),(.fn 110 []),(.fn 111 []),(.fn 112 []),(.fn 113 [])])),(14,(ii q.ix)),(18,(ii (sdI s))),(21,(.agg [(.fn (nV1 q) []),(.fn (nV2 q) []),(.fn (nV3 q) [])])),(22,(.dat l0.length (Zz l0)))]⟩],.leaf⟩
 | .h1 q s bL v6 v7 aA aJ aQ=>⟨⟨16,0,true⟩,none,(Zd prog 175 [1,0,0] 0),none,[],⟨Yc [(0,(.yld 0)),(5,(.sla 10 1 0 bL (.un 1))),(6,(ii v6)),(7,(ii v7))],z9o [(1,⟨[(.dat l0.length (Zz l0))],38,none⟩),(2,⟨[(.sla 3 7 0 aA.length (.un 7))],25,none⟩),(3,⟨rows aA.length (Zz aA),62,some ⟨7,aA.length,(Zz aA)⟩⟩),(4,⟨[(ii 0)],26,none⟩),(5,⟨[(.sla 6 7 0 aJ.length (.un 7))],25,none⟩),(6,⟨rows aJ.length (Zz aJ),62,some ⟨7,aJ.length,(Zz aJ)⟩⟩),(7,⟨[(ii q.ix)],3,none⟩),(8,⟨[(.fn (nV1 q) []),(.fn (nV2 q) []),(.fn (nV3 q) [])],84,none⟩),(9,⟨[(ii (sdI s))],3,none⟩),(10,⟨rows aQ.length (Zz aQ),3,some ⟨1,aQ.length,(Zz aQ)⟩⟩)],11,[],true⟩,[⟨⟨75,0,true⟩,none,(.inRangeFunc 0::(Zd prog 52 [1,1,0,1,0,0,1,1,0,0,1,1,0,0,1,1,0,0,1,1,0] 1)),none,(Zy prog 52),Yc [(1,(.ptr 1 0)),(2,(.ptr 2 0)),(3,(.ptr 4 0)),(4,(.ptr 5 0)),(5,(.ptr 7 0)),(6,(.ptr 8 0)),(13,(.agg [(.fn 105 []),(.fn 106 []),(.fn 107 []),(.fn 108 []),(.fn 109 []),(.fn 110 []),(.fn 111 []),(.fn 112 []),(.fn 113 [])])),(14,(ii q.ix)),(18,(ii (sdI s)))]⟩],(y5b [(0,⟨.ready,none,75,Yc [(1,(.ptr 1 0)),(2,(.ptr 2 0)),(3,(.ptr 4 0)),(4,(.ptr 5 0)),(5,(.ptr 7 0)),(6,(.ptr 8 0)),(7,(.ptr 9 0))],[24],(Vv prog 52 [1,1,0,1,0,0,1,1,0,0,1,1,0,0,1,1,0,0,1,1,0,0]),(Vv prog 52 [1,1,0,1,0,0,1,1,0,0,1,1,0,0,1,1,0,0,1,1,0,1])⟩)])⟩
 | .h2 q s v8 v37 v38 v39 bQ cA cB aA aJ aQ=>⟨⟨75,0,true⟩,none,(Zd prog 52 [1,1,0,1,0,0,1,1,0,0,1,1,0,0,1,1,0,0,1,1,0,1,0,1,1,1,0,0] 0),(some 0),[],⟨Yc [(4,(.ptr 5 0)),(5,(.ptr 7 0)),(6,(.ptr 8 0)),(7,(.ptr 9 0)),(8,(ii v8)),(37,(.dat v37.length (Zz v37))),(38,(ii v38)),(39,(ii v39))],z9o [(1,⟨[(.dat l0.length (Zz l0))],38,none⟩),(2,⟨[(.sla 3 7 0 aA.length (.un 7))],25,none⟩),(3,⟨rows aA.length (Zz aA),62,some ⟨7,aA.length,(Zz aA)⟩⟩),(4,⟨[(ii 0)],26,none⟩),(5,⟨[(.sla 6 7 0 aJ.length (.un 7))],25,none⟩),(6,⟨rows aJ.length (Zz aJ),62,some ⟨7,aJ.length,(Zz aJ)⟩⟩),(7,⟨[(ii q.ix)],3,none⟩),(8,⟨[(.fn (nV1 q) []),(.fn (nV2 q) []),(.fn (nV3 q) [])],84,none⟩),(9,⟨[(ii (sdI s))],3,none⟩),(10,⟨rows aQ.length (Zz aQ),3,some ⟨1,aQ.length,(Zz aQ)⟩⟩)],11,[],true⟩,[⟨⟨16,0,true⟩,(Ui prog 175 [1,0,0,1,1,0,0,1,0] 2),(Zd prog 175 [1,0,0,1,1,0,0,1,0] 1),none,[],Yc [(0,(.yld 0)),(5,(.sla 10 1 0 bQ (.un 1))),(6,(ii cA)),(7,(ii cB)),(11,(.yld 0)),(12,(ii v8))]⟩,⟨⟨75,0,true⟩,none,(.inRangeFunc 0::(Zd prog 52 [1,1,0,1,0,0,1,1,0,0,1,1,0,0,1,1,0,0,1,1,0] 1)),none,(Zy prog 52),Yc [(1,(.ptr 1 0)),(2,(.ptr 2 0)),(3,(.ptr 4 0)),(4,(.ptr 5 0)),(5,(.ptr 7 0)),(6,(.ptr 8 0)),(13,(.agg [(.fn 105 []),(.fn 106 []),(.fn 107 []),(.fn 108 []),(.fn 109 []),(.fn 110 []),(.fn 111 []),(.fn 112 []),(.fn 113 [])])),(14,(ii q.ix)),(18,(ii (sdI s)))]⟩],(y5b [(0,⟨.busy,none,75,Yc [(1,(.ptr 1 0)),(2,(.ptr 2 0)),(3,(.ptr 4 0)),(4,(.ptr 5 0)),(5,(.ptr 7 0)),(6,(.ptr 8 0)),(7,(.ptr 9 0))],[24],(Vv prog 52 [1,1,0,1,0,0,1,1,0,0,1,1,0,0,1,1,0,0,1,1,0,0]),(Vv prog 52 [1,1,0,1,0,0,1,1,0,0,1,1,0,0,1,1,0,0,1,1,0,1])⟩)])⟩
def w8q :List (Option (List Nat)):=[some [2,5,8,9,10],some [1,2,3,4,5,6,7,13,14,18,21,22]]
def w8r :List (Option (List Nat)):=[]
def mmdN1 :List (Option (List Nat)):=[some [0,5,6,7],some [1,2,3,4,5,6,13,14,18]]
def mmdM1 :List (Option (List Nat)):=[some [1,2,3,4,5,6,7],none,none,none,none,none,none,none,none,none,none]
def mmdN2 :List (Option (List Nat)):=[some [4,5,6,7,8,37,38,39],some [0,5,6,7,11,12],some [1,2,3,4,5,6,13,14,18]]
def mmdM2 :List (Option (List Nat)):=[some [1,2,3,4,5,6,7],none,none,none,none,none,none,none,none,none,none]
def w8s (q:Ax) (s:Bool) (aA:List R7) (aJ:List R7):Xo mmdS:=match q,s with
 | q,true=>(.to (.h0 q false ([]:List Int) 0 aA aJ))
 | .x,false=>(.to (.h0 .y true ([]:List Int) 0 aA aJ))
 | .y,false=>(.to (.h0 .z true ([]:List Int) 0 aA aJ))
 | .z,false=>(bif (decide ((aJ.length:Int)>3000)) then (.ret [.nils,(.int .i64 4)]) else (.ret [(.dat aJ.length (Zz aJ)),(.int .i64 0)]))
def Xu (l0:List R6):mmdS→Xo mmdS
 | .h0 q s v5 v10 aA aJ=>(bif (decide (v10<(l0.length:Int))) then (bif ((decide (0≤v10∧v10<(l0.length:Int)))&&true) then (bif (Nat.beq 1 1&&((decide (0+v5.length=v5.length))&&decide ((v5.length+2+1)*(8+1)≤Us))) then (.to (.h0 q s (v5++[(q.lo (rd l0 v10.toNat)),(q.hi (rd l0 v10.toNat))]) (IntKind.wrap .i64 (v10+1)) aA aJ)) else .stuck) else .stuck) else (bif (decide (v5.length<4611686018427387904)) then (bif (decide (v5.length=v5.length)) then (.to (.h1 q s (w4z (Zc v5.length (cOf (Zz (Yo (Zc v5.length (cOf (Zz v5)))))))) (((w4z (Zc v5.length (cOf (Zz (Yo (Zc v5.length (cOf (Zz v5)))))))):Nat):Int) 0 aA aJ (Wx (Zc v5.length (cOf (Zz (Yo (Zc v5.length (cOf (Zz v5)))))))))) else .stuck) else .stuck))
 | .h2 q s v8 v37 v38 v39 bQ cA cB aA aJ aQ=>(bif (decide (v39<v38)) then (bif ((decide (0≤v39∧v39<(v37.length:Int)))&&true) then (bif (Nat.beq 7 7&&((decide (0+aJ.length=aJ.length))&&decide ((aJ.length+1+1)*(56+1)≤Us))) then (.to (.h2 q s v8 v37 v38 (IntKind.wrap .i64 (v39+1)) bQ cA cB aA (aJ++[(qd q s v8 (rd v37 v39.toNat))]) aQ)) else .stuck) else .stuck) else (.to (.h1 q s bQ cA (IntKind.wrap .i64 (cB+1)) aA aJ aQ)))
 | .h1 q s bL v6 v7 aA aJ aQ=>(bif (decide (v7<v6)) then (bif ((decide (0≤v7∧v7<((bL:Nat):Int)))&&true) then (bif (decide ((0+v7.toNat)<aQ.length)) then (bif (z3n q (cvT l0) (rd aQ (0+v7.toNat)) s) then (bif ((Uq q (cvT l0) (rd aQ (0+v7.toNat)) s) != 0) then (.ret [.nils,(.int .i64 (Uq q (cvT l0) (rd aQ (0+v7.toNat)) s))]) else (.to (.h2 q s (rd aQ (0+v7.toNat)) (Vu q (cvT l0) (rd aQ (0+v7.toNat)) s) (((Vu q (cvT l0) (rd aQ (0+v7.toNat)) s).length :Nat):Int) 0 bL v6 v7 aA aJ aQ))) else .stuck) else .stuck) else .stuck) else (w8s q s aA aJ))
def y9d (l0:List R6):Xo mmdS:=(.to (.h0 .x true ([]:List Int) 0 ([]:List R7) ([]:List R7)))
theorem u4j (l0:List R6) (q:Ax) (bL:Nat) (v6:Int) (v7:Int) (aA:List R7) (aJ:List R7) (aQ:List Int) (k0:(decide (v7<v6))=false):Xk prog (Zy prog 52) (z8i l0) (z8i l0 (.h1 q true bL v6 v7 aA aJ aQ)) (w8s q true aA aJ):=by cases q <;> refine (?f: ∀q:Ax,Xk prog (Zy prog 52) (z8i l0) (z8i l0 (.h1 q true bL v6 v7 aA aJ aQ)) (w8s q true aA aJ)) _ <;> exact fun q=>(sl z9d 54 [(3,1,Zz ([]:List Int))] ⟨[12,1,2,3,4,5,6,7,8,11,13],[],w8q,w8r⟩ ⟨[(5,.grow 10 1)],[],[]⟩ [false,true] (pp (fl aA (fl aJ (fl ([]:List Int) nn))) (tt k0 nn)))
theorem u4i (l0:List R6) (bL:Nat) (v6:Int) (v7:Int) (aA:List R7) (aJ:List R7) (aQ:List Int) (k0:(decide (v7<v6))=false):Xk prog (Zy prog 52) (z8i l0) (z8i l0 (.h1 .x false bL v6 v7 aA aJ aQ)) (w8s .x false aA aJ):=(sl z9d 91 [(3,1,Zz ([]:List Int))] ⟨[14,1,2,3,4,5,6,11,12,13,15],[],w8q,w8r⟩ ⟨[(5,.grow 10 1)],[],[]⟩ [false,false,true,true,false,true] (pp (fl aA (fl aJ (fl ([]:List Int) nn))) (tt k0 nn)))
theorem u4h (l0:List R6) (bL:Nat) (v6:Int) (v7:Int) (aA:List R7) (aJ:List R7) (aQ:List Int) (k0:(decide (v7<v6))=false):Xk prog (Zy prog 52) (z8i l0) (z8i l0 (.h1 .y false bL v6 v7 aA aJ aQ)) (w8s .y false aA aJ):=(sl z9d 91 [(3,1,Zz ([]:List Int))] ⟨[14,1,2,3,4,5,6,11,12,13,15],[],w8q,w8r⟩ ⟨[(5,.grow 10 1)],[],[]⟩ [false,false,true,true,true,false,true] (pp (fl aA (fl aJ (fl ([]:List Int) nn))) (tt k0 nn)))
theorem u4g (l0:List R6) (bL:Nat) (v6:Int) (v7:Int) (aA:List R7) (aJ:List R7) (aQ:List Int) (k0:(decide (v7<v6))=false):Xk prog (Zy prog 52) (z8i l0) (z8i l0 (.h1 .z false bL v6 v7 aA aJ aQ)) (w8s .z false aA aJ):=(lb (fun k1=>(y1l ⟨⟨75,0,true⟩,none,(Zd prog 52 [1,1,1,0,1,0,0] 1),none,(Zy prog 52),⟨Yc [(2,(.ptr 0 0)),(3,(.ptr 1 0))],Un [⟨[.nils],25,none⟩,⟨[(ii 4)],26,none⟩] 0,2,[],true⟩,[],.leaf⟩ (sl z9d 49 [] ⟨[2,4],[],[some [2,3]],[]⟩ ⟨[],[],[]⟩ [false,false,false,true] (tt k1 (tt k0 nn))) rfl (by kernel_rfl))) (fun k1=>(y1l ⟨⟨75,0,true⟩,none,(Zd prog 3 [1,1,1,1,1,1,1,0] 1),none,(Zy prog 52),⟨Yc [(2,(.ptr 0 0)),(3,(.ptr 1 0))],Un [⟨[(.dat aJ.length (Zz aJ))],25,none⟩,⟨[(ii 0)],26,none⟩] 0,2,[],true⟩,[],.leaf⟩ (sl z9d 51 [] ⟨[2,4],[6],[some [2,3]],[]⟩ ⟨[],[.cells [.frz aJ.length aJ.length (Zz aJ) (Zz aJ)],.keep],[]⟩ [false,false,false,false] (pp (xZ (z5p 7 7 0 aJ.length aJ.length (Zz aJ)) aJ.length (Zz aJ)) (pp (xL aJ.length aJ.length) (pp (xS aJ.length (Zz aJ) (Zz aJ)) (pp (fl aJ nn) (tt k1 (tt k0 nn))))))) rfl (by kernel_rfl))))
theorem mmd_ex (l0:List R6) (q:Ax) (s:Bool) (bL:Nat) (v6:Int) (v7:Int) (aA:List R7) (aJ:List R7) (aQ:List Int) (k0:(decide (v7<v6))=false):Xk prog (Zy prog 52) (z8i l0) (z8i l0 (.h1 q s bL v6 v7 aA aJ aQ)) (w8s q s aA aJ):=match q,s with
 | q,true=>u4j l0 q bL v6 v7 aA aJ aQ k0
 | .x,false=>u4i l0 bL v6 v7 aA aJ aQ k0
 | .y,false=>u4h l0 bL v6 v7 aA aJ aQ k0
 | .z,false=>u4g l0 bL v6 v7 aA aJ aQ k0
theorem mmd_s0 (q:Ax) (s:Bool) (l0:List R6) (v5:List Int) (v10:Int) (aA:List R7) (aJ:List R7):Xk prog (Zy prog 52) (z8i l0) (z8i l0 (.h0 q s v5 v10 aA aJ)) (Xu l0 (.h0 q s v5 v10 aA aJ)):=by cases q <;> cases s <;> refine (?f: ∀(q:Ax) (s:Bool),Xk prog (Zy prog 52) (z8i l0) (z8i l0 (.h0 q s v5 v10 aA aJ)) (Xu l0 (.h0 q s v5 v10 aA aJ))) _ _ <;> exact fun q s=>(lb (fun k0=>(lo fun o0=>(lo fun o1=>(sl z9d 23 [] ⟨[0,1,2,3,4,5,6,7,8,9,15],[],w8q,w8r⟩ ⟨[(5,.len (v5++[(q.lo (rd l0 (tn v10))),(q.hi (rd l0 (tn v10)))]).length)],(kpB 10 [.rowed 1 (v5++[(q.lo (rd l0 (tn v10))),(q.hi (rd l0 (tn v10)))]).length (Zz (v5++[(q.lo (rd l0 (tn v10))),(q.hi (rd l0 (tn v10)))]))]),[]⟩ [true] (pp (xL (v5.length+2) (v5++[(q.lo (rd l0 (tn v10))),(q.hi (rd l0 (tn v10)))]).length) (pp (xL (v5.length+2) (v5++[(q.lo (rd l0 (tn v10))),(q.hi (rd l0 (tn v10)))]).length) (pp (xS (v5.length+2) (Zi (Zz v5) 0 v5.length 1 [(ii (q.lo (rd l0 (tn v10)))),(ii (q.hi (rd l0 (tn v10))))]) (Zz (v5++[(q.lo (rd l0 (tn v10))),(q.hi (rd l0 (tn v10)))]))) (pp (fl aA (fl aJ (pp (xF (Zi (Zz v5) 0 v5.length 1 [(ii (q.lo (rd l0 (tn v10)))),(ii (q.hi (rd l0 (tn v10))))])) nn))) (ww o1 (ww o0 (tt k0 nn))))))))))) (fun k0=>(lo fun o0=>(lo fun o1=>(sl z9d 42 [] ⟨[12,1,2,3,4,5,6,7,8,9,10],[],mmdN1,mmdM1⟩ ⟨[],(kpB 10 [.rowed 1 (Wx (Zc v5.length (cOf (Zz (Yo (Zc v5.length (cOf (Zz v5)))))))).length (Zz (Wx (Zc v5.length (cOf (Zz (Yo (Zc v5.length (cOf (Zz v5)))))))))]),[]⟩ [false] (pp (xL v5.length (Wx (Zc v5.length (cOf (Zz (Yo (Zc v5.length (cOf (Zz v5)))))))).length (by first | exact z1a _ _ | exact Wo rfl)) (pp (xS v5.length (Zz (Wx (Zc v5.length (cOf (Zz (Yo (Zc v5.length (cOf (Zz v5))))))))) (Zz (Wx (Zc v5.length (cOf (Zz (Yo (Zc v5.length (cOf (Zz v5)))))))))) (pp (fl aA (fl aJ (fl (Wx (Zc v5.length (cOf (Zz (Yo (Zc v5.length (cOf (Zz v5)))))))) nn))) (pp (pp (xG (Nat.beq 1 1)) (pp (xG (Nat.beq 1 1)) (pp (xG (Nat.beq 0 0)) (pp (xG (decide (v5.length=v5.length))) (pp (xG (isI (Zz (Yo (Zc v5.length (cOf (Zz v5))))))) (xG (decide (v5.length<4611686018427387904)))))))) (pp (pp (xG (Nat.beq 1 1)) (pp (xG (Nat.beq 1 1)) (pp (xG (Nat.beq 0 0)) (pp (xG (decide (v5.length=v5.length))) (pp (xG (isI (Zz v5))) (xG (decide (v5.length<4611686018427387904)))))))) (tt k0 nn)))))))))))
theorem mmd_s1 (q:Ax) (s:Bool) (l0:List R6) (bL:Nat) (v6:Int) (v7:Int) (aA:List R7) (aJ:List R7) (aQ:List Int):Xk prog (Zy prog 52) (z8i l0) (z8i l0 (.h1 q s bL v6 v7 aA aJ aQ)) (Xu l0 (.h1 q s bL v6 v7 aA aJ aQ)):=by cases q <;> cases s <;> refine (?f: ∀(q:Ax) (s:Bool),Xk prog (Zy prog 52) (z8i l0) (z8i l0 (.h1 q s bL v6 v7 aA aJ aQ)) (Xu l0 (.h1 q s bL v6 v7 aA aJ aQ))) _ _ <;> exact fun q s=>(lb (fun k0=>(lo fun aG=>(lo fun bA=>(lo fun bX=>(lb (fun k1=>(y1l ⟨⟨75,0,true⟩,none,(.code .ret ::(Zd prog 52 [1,1,0,1,0,0,1,1,0,0,1,1,0,0,1,1,0,0,1,1,0] 1)),none,(Zy prog 52),⟨Yc [(2,(.ptr 0 0)),(3,(.ptr 1 0))],Un [⟨[.nils],25,none⟩,⟨[(ii (Uq q (cvT l0) (rd aQ (0+(tn v7))) s))],26,none⟩] 0,2,[],true⟩,[],.leaf⟩ (sl z9d 58 [] ⟨[2,4],[],[some [2,3]],[]⟩ ⟨[],[],[]⟩ (trs 3 []) (tt k1 (pp (pp (pp nn (pp nn (pp nn (pp nn nn)))) (pp (xr l0) (xw bX))) (ww bA (ww aG (tt k0 nn)))))) rfl (by kernel_rfl))) (fun k1=>(sl z9d 55 [] ⟨(List.range 11),[],mmdN2,mmdM2⟩ ⟨[],[],[]⟩ [true,false] (pp (fl aA (fl aJ (fl aQ nn))) (tt k1 (pp (pp (pp nn (pp nn (pp nn (pp nn nn)))) (pp (xr l0) (xw bX))) (ww bA (ww aG (tt k0 nn))))))))))))) (fun k0=>mmd_ex l0 q s bL v6 v7 aA aJ aQ k0))
theorem mmd_s2 (q:Ax) (s:Bool) (l0:List R6) (v8:Int) (v37:List R4) (v38:Int) (v39:Int) (bQ:Nat) (cA:Int) (cB:Int) (aA:List R7) (aJ:List R7) (aQ:List Int):Xk prog (Zy prog 52) (z8i l0) (z8i l0 (.h2 q s v8 v37 v38 v39 bQ cA cB aA aJ aQ)) (Xu l0 (.h2 q s v8 v37 v38 v39 bQ cA cB aA aJ aQ)):=by cases q <;> cases s <;> refine (?f: ∀(q:Ax) (s:Bool),Xk prog (Zy prog 52) (z8i l0) (z8i l0 (.h2 q s v8 v37 v38 v39 bQ cA cB aA aJ aQ)) (Xu l0 (.h2 q s v8 v37 v38 v39 bQ cA cB aA aJ aQ))) _ _ <;> exact fun q s=>(lb (fun k0=>(lo fun o0=>(lo fun o1=>(sl z9d 23 [] ⟨[0,1,2,3,4,5,15,7,8,9,10],[],mmdN2,mmdM2⟩ ⟨[],(kpB 5 [.cells [.len (aJ++[(qd q s v8 (rd v37 (tn v39)))]).length],.rowed 7 (aJ++[(qd q s v8 (rd v37 (tn v39)))]).length (Zz (aJ++[(qd q s v8 (rd v37 (tn v39)))])),.keep,.keep,.keep,.keep]),[]⟩ [true] (pp (xL (aJ.length+1) (aJ++[(qd q s v8 (rd v37 (tn v39)))]).length) (pp (xL (aJ.length+1) (aJ++[(qd q s v8 (rd v37 (tn v39)))]).length) (pp (xS (aJ.length+1) (Zi (Zz aJ) 0 aJ.length 7 (Yh.cells (qd q s v8 (rd v37 (tn v39))))) (Zz (aJ++[(qd q s v8 (rd v37 (tn v39)))]))) (pp (fl aA (pp (xF (Zi (Zz aJ) 0 aJ.length 7 (Yh.cells (qd q s v8 (rd v37 (tn v39)))))) (fl aQ nn))) (ww o1 (ww o0 (tt k0 nn))))))))))) (fun k0=>(sl z9d 19 [] ⟨(List.range 11),[],mmdN1,mmdM1⟩ ⟨[],[],[]⟩ [false,false] (pp (fl aA (fl aJ (fl aQ nn))) (tt k0 nn)))))
theorem w2y (l0:List R6): ∀s,Xk prog (Zy prog 52) (z8i l0) (z8i l0 s) (Xu l0 s)
 | .h0 q s v5 v10 aA aJ=>mmd_s0 q s l0 v5 v10 aA aJ
 | .h1 q s bL v6 v7 aA aJ aQ=>mmd_s1 q s l0 bL v6 v7 aA aJ aQ
 | .h2 q s v8 v37 v38 v39 bQ cA cB aA aJ aQ=>mmd_s2 q s l0 v8 v37 v38 v39 bQ cA cB aA aJ aQ
theorem x5x (l0:List R6):Xk prog (Zy prog 52) (z8i l0) (Ze prog 52 [(.dat l0.length (Zz l0))] true []) (y9d l0):=(sl z9d 93 [(62,7,Zz ([]:List R7)),(62,7,Zz ([]:List R7)),(3,1,Zz ([]:List Int))] ⟨[8,0,1,9,2,3,10,5,6,7,11],[],w8q,w8r⟩ ⟨[(5,.grow 10 1)],[.keep,.keep,.cells [.grow 3 7],.keep,.keep,.cells [.grow 6 7],.keep,.keep,.keep,.keep,.keep],[]⟩ [true,false,true] (pp (fl ([]:List R7) (fl ([]:List R7) (fl ([]:List Int) nn))) nn))
theorem v4m (l0:List R6) (n:Nat) (vs:List AVal) (h:Yk (Xu l0) n (y9d l0)=.ret vs):Kv prog (Zy prog 52) (Ze prog 52 [(.dat l0.length (Zz l0))] true []) vs:=by have:=Zr (w2y l0) n _ (x5x l0);rwa [h] at this
end Go.Am
namespace Go.Am
open Go.Proofs.Tryz
open Go.Proofs Go.Sort Go.Shelf Go.RowKit Go.Lib
theorem v8x {q:Op} {a b:List R4}:(Wf q a b).length ≤400:=by
 unfold Wf y9s;cases g:(rgE q a b != 0) with
 | true=>exact Nat.zero_le _
 | false=>
  rw [cond_false];have h:rgE q a b=0:=by simpa using g
  unfold rgE at h;cases g1:(y5a a != 0) with
  | true=>rw [g1,cond_true] at h;rw [h] at g1;cases g1
  | false=>
   cases g2:(y5a b != 0) with
   | true=>rw [g1,g2,cond_false,cond_true] at h;rw [h] at g2;cases g2
   | false=>
    rw [g1,g2,cond_false,cond_false] at h;unfold eJ at h;revert h;generalize w4w (rgA q a b) _ _ _=e;intro h;cases g3:(e != 0) with
    | true=>rw [g3,cond_true] at h;rw [h] at g3;cases g3
    | false=>rw [g3,cond_false] at h;exact y9w h
theorem w8t (q:Ax) (L:List R6) (p:Int) (s:Bool):(Vu q L p s).length ≤400:=by
 unfold Vu;cases (w3a q L p != 0) with
 | true=>exact Nat.zero_le _
 | false=>cases s <;> exact v8x
def z2s (q:Ax) (L:List R6):List Int:=L.flatMap fun r=>[q.lo r,q.hi r]
theorem z0i (q:Ax) (L:List R6):(z2s q L).length =2*L.length:=by
 induction L with
 | nil=>rfl
 | cons r l ih=>show (_::_::z2s q l).length =_;simp only [List.length_cons,ih];omega
def plQ (q:Ax) (L:List R6):List Int:=Ur (z2s q L)
theorem z8f (q:Ax) (L:List R6):(plQ q L).length ≤2*L.length:=by have h1:=Uu (Yo (z2s q L));have h2:=compact_length_le (Yo (z2s q L));rw [Wz,z0i] at h2;exact h2
def v0f (E:Int→Int):List Int→Int
 | []=>0
 | p::r=>bif E p != 0 then E p else v0f E r
def z7k (q:Ax) (s:Bool) (L:List R6):Int:=v0f (fun p=>Uq q L p s) (plQ q L)
def w4y (q:Ax) (s:Bool) (L:List R6) (ps:List Int):List R7:=ps.flatMap fun p=>(Vu q L p s).map (qd q s p)
theorem y4e (q:Ax) (s:Bool) (L:List R6): ∀ps,(w4y q s L ps).length ≤400*ps.length
 | []=>Nat.le_refl _
 | p::ps=>by have:=y4e q s L ps;have h:=w8t q L p s;show ((Vu q L p s).map (qd q s p)++w4y q s L ps).length ≤_;rw [List.length_append,List.length_map,List.length_cons];omega
section
variable (L:List R6) (hL:L.length≤400)
include hL
theorem u0b (q:Ax) (s:Bool) (v2 out:List R7): ∀(k i:Nat) (acc:List Int),i+k=L.length→acc=z2s q (L.take i)→
  ∃n,∀N,Yk (Xu L) (N+n) (.to (.h0 q s acc (i:Int) v2 out))=Yk (Xu L) N (.to (.h1 q s (plQ q L).length ((plQ q L).length :Int) 0 v2 out (Wx (Yo (z2s q L)))))
 | 0,i,acc,h,h'=>by
  have e:acc=z2s q L:=by rw [h',List.take_of_length_le (by omega)]
  subst e;have hle:=z0i q L;refine ⟨1,fun N=> ?_⟩;rw [Zv];simp (disch:=omega) only [Xu,Wg,Qk,z8s,Yv,Yu,Yq,decide_true,cond_true,cond_false];rfl
 | k+1,i,acc,h,h'=>by
  have hle:acc.length≤2*i:=by rw [h',z0i,List.length_take];omega
  obtain ⟨n,hn⟩:=u0b q s v2 out k (i+1) (acc++z2s q [rd L i]) (by omega) (by
   rw [h',List.take_add_one];have:L[i]? =some (rd L i):=by rw [Xv (show i<L.length by omega)];exact List.getElem?_eq_getElem _
   rw [this];simp [z2s])
  refine ⟨n+1,fun N=> ?_⟩;rw [←Nat.add_assoc,Zv,←hn N];simp (disch:=omega) only [Xu,Zb,Zk,Zt,Yz,Yb,Yu,Yq,Zh,Zq,Zx,Yp,Zj,Nat.zero_add,decide_true,Bool.and_true,Bool.true_and,cond_true,cond_false];rfl
theorem v9z (q:Ax) (s:Bool) (p:Int) (R:List R4) (hR:R.length≤400) (n5:Nat) (v6 v7:Int) (v2:List R7) (P:List Int): ∀(k j:Nat) (out:List R7),j+k=R.length→out.length≤10000000+j→
  ∃n,∀N,Yk (Xu L) (N+n) (.to (.h2 q s p R (R.length:Int) (j:Int) n5 v6 v7 v2 out P))=Yk (Xu L) N (.to (.h1 q s n5 v6 (IntKind.wrap .i64 (v7+1)) v2 (out++(R.drop j).map (qd q s p)) P))
 | 0,j,out,h,h'=>by have _u:=hL;refine ⟨1,fun N=> ?_⟩;rw [List.drop_eq_nil_of_le (by omega),List.map_nil,List.append_nil,Zv];simp (disch:=omega) only [Xu,Yv,cond_false]
 | k+1,j,out,h,h'=>by
  have hj:j<R.length:=by omega
  obtain ⟨n,hn⟩:=v9z q s p R hR n5 v6 v7 v2 P k (j+1) (out++[qd q s p (rd R j)]) (by omega) (by simp only [List.length_append,List.length_singleton];omega);refine ⟨n+1,fun N=> ?_⟩;rw [Ya hj,List.map_cons,←Nat.add_assoc,Zv,show out++qd q s p (rd R j)::(R.drop (j+1)).map (qd q s p)=(out++[qd q s p (rd R j)])++(R.drop (j+1)).map (qd q s p) by simp,←hn N];simp (disch:=omega) only [Xu,Zb,Zk,Zt,Yz,Yb,Yu,Yq,Zh,Zq,Zx,Yp,Zj,Nat.zero_add,decide_true,Bool.and_true,Bool.true_and,cond_true,cond_false]
theorem u0a (q:Ax) (s:Bool) (v2:List R7): ∀(k i:Nat) (out:List R7),i+k=(plQ q L).length →out.length+400*k≤8000000→
  (v0f (fun p=>Uq q L p s) ((plQ q L).drop i)=0→ ∃n,∀N,Yk (Xu L) (N+n) (.to (.h1 q s (plQ q L).length ((plQ q L).length :Int) (i:Int) v2 out (Wx (Yo (z2s q L)))))=Yk (Xu L) N (w8s q s v2 (out++w4y q s L ((plQ q L).drop i))))∧
  ((v0f (fun p=>Uq q L p s) ((plQ q L).drop i) != 0)=true→ ∃n,∀N,Yk (Xu L) (N+n) (.to (.h1 q s (plQ q L).length ((plQ q L).length :Int) (i:Int) v2 out (Wx (Yo (z2s q L)))))=.ret [.nils,.int .i64 (v0f (fun p=>Uq q L p s) ((plQ q L).drop i))])
 | 0,i,out,h,h'=>by have _u:=hL;rw [List.drop_eq_nil_of_le (show (plQ q L).length ≤i by omega)];refine ⟨fun _=>⟨1,fun N=> ?_⟩,fun e=>by cases e⟩;rw [show w4y q s L []=[] from rfl,List.append_nil,Zv];simp (disch:=omega) only [Xu,Yv,cond_false]
 | k+1,i,out,h,h'=>by
  have hi:i<(plQ q L).length :=by omega
  have hp:=z8f q L;have hpl:(Wx (Yo (z2s q L))).length =2*L.length:=by rw [Uu,Wz,z0i]
  have r0:rd (Wx (Yo (z2s q L))) i=rd (plQ q L) i:=z3f _ _ hi;have o:z3n q L (rd (plQ q L) i) s=true:=decide_eq_true hL;rw [Ya hi];have eE:v0f (fun p=>Uq q L p s) (rd (plQ q L) i::(plQ q L).drop (i+1))=bif Uq q L (rd (plQ q L) i) s != 0 then Uq q L (rd (plQ q L) i) s else v0f (fun p=>Uq q L p s) ((plQ q L).drop (i+1)):=rfl;have eM:w4y q s L (rd (plQ q L) i::(plQ q L).drop (i+1))=(Vu q L (rd (plQ q L) i) s).map (qd q s (rd (plQ q L) i))++w4y q s L ((plQ q L).drop (i+1)):=rfl;rw [eE,eM];rcases Yn (Uq q L (rd (plQ q L) i) s != 0) with z | z
  ·rw [z,cond_true];refine ⟨fun e=>(by rw [e] at z;cases z),fun _=>⟨1,fun N=> ?_⟩⟩;rw [Zv];simp (disch:=omega) only [Xu,r0,o,z,Zb,Zk,Zt,Yz,Yu,Zj,Nat.zero_add,decide_true,Bool.and_true,Bool.true_and,cond_true,cond_false,Zg]
  ·rw [z,cond_false];have hm:=w8t q L (rd (plQ q L) i) s;obtain ⟨n2,h2⟩:=v9z L hL q s (rd (plQ q L) i) (Vu q L (rd (plQ q L) i) s) hm (plQ q L).length ((plQ q L).length :Int) (i:Int) v2 (Wx (Yo (z2s q L))) (Vu q L (rd (plQ q L) i) s).length 0 out (Nat.zero_add _) (by omega);rw [List.drop_zero] at h2;obtain ⟨a1,a2⟩:=u0a q s v2 k (i+1) (out++(Vu q L (rd (plQ q L) i) s).map (qd q s (rd (plQ q L) i))) (by omega) (by rw [List.length_append,List.length_map];omega);have ew:IntKind.wrap .i64 ((i:Int)+1)=((i+1:Nat):Int):=by rw [Zq (by omega)];exact Zx i
   have st: ∀N,Yk (Xu L) (N+n2+1) (.to (.h1 q s (plQ q L).length ((plQ q L).length :Int) (i:Int) v2 out (Wx (Yo (z2s q L)))))=Yk (Xu L) N (.to (.h1 q s (plQ q L).length ((plQ q L).length :Int) ((i+1:Nat):Int) v2 (out++(Vu q L (rd (plQ q L) i) s).map (qd q s (rd (plQ q L) i))) (Wx (Yo (z2s q L))))):=fun N=>by rw [←ew,←h2 N,Zv];simp (disch:=omega) only [Xu,r0,o,z,Zb,Zk,Zt,Yz,Yu,Zj,Nat.zero_add,decide_true,Bool.and_true,Bool.true_and,cond_true,cond_false];rfl
   refine ⟨fun e=> ?_,fun e=> ?_⟩
   ·obtain ⟨n,hn⟩:=a1 e;refine ⟨n+n2+1,fun N=> ?_⟩;rw [←List.append_assoc,←hn N,←st (N+n),Nat.add_assoc N,Nat.add_assoc N,Nat.add_assoc n]
   ·obtain ⟨n,hn⟩:=a2 e;refine ⟨n+n2+1,fun N=> ?_⟩;rw [←hn N,←st (N+n),Nat.add_assoc N,Nat.add_assoc N,Nat.add_assoc n]
theorem z8h (q:Ax) (s:Bool) (v2 out:List R7) (ho:out.length≤2000000):
  (z7k q s L=0→ ∃n,∀N,Yk (Xu L) (N+n) (.to (.h0 q s [] 0 v2 out))=Yk (Xu L) N (w8s q s v2 (out++w4y q s L (plQ q L))))∧
  ((z7k q s L != 0)=true→ ∃n,∀N,Yk (Xu L) (N+n) (.to (.h0 q s [] 0 v2 out))=.ret [.nils,.int .i64 (z7k q s L)]):=by
 have hp:=z8f q L;obtain ⟨n0,h0⟩:=u0b L hL q s v2 out L.length 0 [] (Nat.zero_add _) rfl;obtain ⟨a1,a2⟩:=u0a L hL q s v2 (plQ q L).length 0 out (Nat.zero_add _) (by omega);rw [List.drop_zero] at a1 a2;refine ⟨fun e=> ?_,fun e=> ?_⟩
 ·obtain ⟨n,hn⟩:=a1 e;exact ⟨n+n0,fun N=>by rw [←Nat.add_assoc];exact (h0 (N+n)).trans (hn N)⟩
 ·obtain ⟨n,hn⟩:=a2 e;exact ⟨n+n0,fun N=>by rw [←Nat.add_assoc];exact (h0 (N+n)).trans (hn N)⟩
end
def dM (q:Ax) (s:Bool) (L:List R6):List R7:=w4y q s L (plQ q L)
def Kc (L:List R6):List R7:=dM .x true L++dM .x false L++dM .y true L++dM .y false L++dM .z true L++dM .z false L
def w4u (L:List R6):Int:=bif z7k .x true L != 0 then z7k .x true L else bif z7k .x false L != 0 then z7k .x false L else bif z7k .y true L != 0 then z7k .y true L else
 bif z7k .y false L != 0 then z7k .y false L else bif z7k .z true L != 0 then z7k .z true L else bif z7k .z false L != 0 then z7k .z false L else bif decide (((Kc L).length :Int)>3000) then 4 else 0
def Uk (L:List R6):List R7:=y9s (w4u L) (Kc L)
def z0x (L:List R6):Int:=w4u L
def z0w (L:List R6):Bool:=decide (L.length≤400)
theorem z3u (q:Ax) (s:Bool) {L:List R6} (h:L.length≤400):(dM q s L).length ≤320000:=by have h1:=y4e q s L (plQ q L);have h2:=z8f q L;unfold dM;omega
theorem u4e (L:List R6) (h:z0w L=true): ∃n,Yk (Xu L) n (y9d L)=.ret (y2q (z0x L) (Kc L)):=by
 have hL:L.length≤400:=of_decide_eq_true h;have l1:=z3u .x true hL;have l2:=z3u .x false hL;have l3:=z3u .y true hL;have l4:=z3u .y false hL;have l5:=z3u .z true hL;have d1:=z8h L hL .x true [] [] (Nat.zero_le _);have d2:=z8h L hL .x false [] (dM .x true L) (by omega);have d3:=z8h L hL .y true [] (dM .x true L++dM .x false L) (by simp only [List.length_append];omega);have d4:=z8h L hL .y false [] (dM .x true L++dM .x false L++dM .y true L) (by simp only [List.length_append];omega);have d5:=z8h L hL .z true [] (dM .x true L++dM .x false L++dM .y true L++dM .y false L) (by simp only [List.length_append];omega);have d6:=z8h L hL .z false [] (dM .x true L++dM .x false L++dM .y true L++dM .y false L++dM .z true L) (by simp only [List.length_append];omega);have go: ∀(q:Ax) (s:Bool) (out:List R7) (V:List AVal),((z7k q s L=0→ ∃n,∀N,Yk (Xu L) (N+n) (.to (.h0 q s [] 0 [] out))=Yk (Xu L) N (w8s q s [] (out++w4y q s L (plQ q L))))∧
   ((z7k q s L != 0)=true→ ∃n,∀N,Yk (Xu L) (N+n) (.to (.h0 q s [] 0 [] out))=.ret [.nils,.int .i64 (z7k q s L)]))→
   (∃n,Yk (Xu L) n (w8s q s [] (out++dM q s L))=.ret V)→ ∃n,Yk (Xu L) n (.to (.h0 q s [] 0 [] out))=.ret (bif z7k q s L != 0 then [.nils,.int .i64 (z7k q s L)] else V):=fun q s out V d ⟨n,hn⟩=>by
  rcases Yn (z7k q s L != 0) with z | z
  ·obtain ⟨m,hm⟩:=d.2 z;refine ⟨0+m,?_⟩;rw [hm 0,z,cond_true]
  ·obtain ⟨m,hm⟩:=d.1 (by simpa using z);refine ⟨n+m,?_⟩;rw [hm n,z,cond_false];exact hn
 have e6:=go .z false _ (bif decide (((Kc L).length :Int)>3000) then [.nils,.int .i64 4] else [.dat (Kc L).length (Zz (Kc L)),.int .i64 0]) d6 ⟨0,by
  show Yk (Xu L) 0 (bif decide (((Kc L).length :Int)>3000) then _ else _)=_;cases decide (((Kc L).length :Int)>3000) <;> rfl⟩
 obtain ⟨n,hn⟩:=go .x true _ _ d1 (go .x false _ _ d2 (go .y true _ _ d3 (go .y false _ _ d4 (go .z true _ _ d5 e6))));refine ⟨n,hn.trans ?_⟩;unfold y2q z0x w4u
 congr 1
 cases z1:(z7k .x true L != 0) with
 | true=>simp only [z1,cond_true]
 | false=>cases z2:(z7k .x false L != 0) with
  | true=>simp only [z2,cond_true,cond_false]
  | false=>cases z3:(z7k .y true L != 0) with
   | true=>simp only [z3,cond_true,cond_false]
   | false=>cases z4:(z7k .y false L != 0) with
    | true=>simp only [z4,cond_true,cond_false]
    | false=>cases z5:(z7k .z true L != 0) with
     | true=>simp only [z5,cond_true,cond_false]
     | false=>cases z6:(z7k .z false L != 0) with
      | true=>simp only [z6,cond_true,cond_false]
      | false=>cases z7:decide (((Kc L).length :Int)>3000) <;> rfl
def fMmd :List AVal→Option (AVal×Bool)
 | [a0]=>match asL R6 a0 with
  | some (L0,g0,n0)=>some (.tup [.dat (Uk L0).length (Zz (Uk L0)),.int .i64 (z0x L0)],isT R6 n0 g0&&(z0w L0))
  | _=>none
 | _=>none
theorem u6a {S:Specs} (hS:Zu prog S):Zu prog (S.with v9n fMmd):=by
 refine w4x hS (by kernel_rfl) fun args v h=> ?_;unfold fMmd at h;split at h
 ·rename_i a0;split at h
  ·rename_i L0 g0 n0 e0;simp only [Option.some.injEq,Prod.mk.injEq,Bool.and_eq_true] at h;obtain ⟨rfl,ho0,hw⟩:=h;obtain ⟨N,hN⟩:=u4e L0 hw;exact ⟨_,_,(.cons (asL_le e0 ho0) .nil),z1r _ _,v4m L0 N _ hN,3,z5e _ _⟩
  ·cases h
 ·cases h
def Md :Specs:=Mc.with v9n fMmd
theorem z3w :Zu prog Md:=u6a z9d
end Go.Am
namespace Go.Am
open Go.Proofs
end Go.Am
namespace Go.Am
open Go.Proofs
section
variable (X Y:List R6) (hX:X.length≤10000) (hY:Y.length≤10000)
include hX hY
end
end Go.Am
namespace Go.Am
open Go.Proofs
-- h0: index into an array (choices [true, false, false, false])
end Go.Am
namespace Go.Am
open Go.Proofs
end Go.Am
namespace Go.Am
open Go.Proofs
end Go.Am
namespace Go.Am
open Go.Proofs
end Go.Am
namespace Go.Am
open Go.Proofs
end Go.Am
namespace Go.Am
open Go.Proofs
def z1m (l:List R6):Bool:=true
def y2t (l:List R6):Bool:=true
end Go.Am
namespace Go.Am
open Go.Proofs.Tryz
open Go.Proofs
inductive mofS where
def mofC (l0:List R6):mofS→Cfg
 :=nofun
def x5v (l0:List R6):mofS→Xo mofS
 :=nofun
def y1h (l0:List R6):Xo mofS:=(bif (z1m (cvT l0)) then (bif ((Wc (cvT l0)) != 0) then (.ret [.nils,(.int .i64 (Wc (cvT l0)))]) else (bif (z0w (cvT l0)) then (.ret [(.dat (Uk (cvT l0)).length (Zz (Uk (cvT l0)))),(.int .i64 (z0x (cvT l0)))]) else .stuck)) else .stuck)
theorem w2x (l0:List R6): ∀s,Xk prog (Zy prog 15) (mofC l0) (mofC l0 s) (x5v l0 s)
 :=nofun
theorem x5w (l0:List R6):Xk prog (Zy prog 15) (mofC l0) (Ze prog 15 [(.dat l0.length (Zz l0))] true []) (y1h l0):=(lo fun bW=>(lb (fun k0=>(lr 14 15 [1,0,1,1,0,0] 1 15 [(2,.nils),(3,(ii (Wc (cvT l0))))] (sl z3w 24 [] ⟨[],[],[some [2,3]],[]⟩ ⟨[],[],[]⟩ [true] (tt k0 (pp (pp (xr l0) (xw bW)) nn))))) (fun k0=>(lo fun o0=>(lr 14 3 [1,1,1,1,1,1,1,0] 1 15 [(2,(.dat (Uk (cvT l0)).length (Zz (Uk (cvT l0))))),(3,(ii (z0x (cvT l0))))] (sl z3w 28 [] ⟨[],[],[some [2,3]],[]⟩ ⟨[],[],[]⟩ [false] (pp (pp (xr l0) (xw o0)) (tt k0 (pp (pp (xr l0) (xw bW)) nn)))))))))
theorem v4l (l0:List R6) (n:Nat) (vs:List AVal) (h:Yk (x5v l0) n (y1h l0)=.ret vs):Kv prog (Zy prog 15) (Ze prog 15 [(.dat l0.length (Zz l0))] true []) vs:=by have:=Zr (w2x l0) n _ (x5w l0);rwa [h] at this
inductive shsS where
 | h0 (v8:Int)
def shsC (l0:List R6) (cC:Int) (cD:Int) (cE:Int):shsS→Cfg
 | .h0 v8=>⟨⟨19,0,true⟩,none,(Zd prog 133 [1,0,1,0,0] 0),none,(Zy prog 5),⟨Yc [(0,(.dat l0.length (Zz l0))),(1,(.fn 90 [(.ptr 0 0)])),(7,(ii (l0.length:Int))),(8,(ii v8))],Un [⟨[(ii cC),(ii cD),(ii cE)],55,none⟩] 0,1,[],true⟩,[⟨⟨9,0,true⟩,(Ui prog 89 [1,0] 2),(Zd prog 89 [1,0] 1),none,(Zy prog 5),Yc [(5,(.dat l0.length (Zz l0))),(6,(.fn 90 [(.ptr 0 0)]))]⟩,⟨⟨8,0,true⟩,(Ui prog 43 [1,0] 2),(Zd prog 43 [1,0] 1),none,(Zy prog 5),Yc [(5,(.dat l0.length (Zz l0))),(6,(.fn 90 [(.ptr 0 0)]))]⟩],.leaf⟩
def x4f :List (Option (List Nat)):=[some [0,1,7,8],some [5,6],some [5,6]]
def x4g :List (Option (List Nat)):=[]
def z4z (l0:List R6) (cC:Int) (cD:Int) (cE:Int):shsS→Xo shsS
 | .h0 v8=>(bif (decide (v8<(l0.length:Int))) then (bif ((decide (0≤v8∧v8<(l0.length:Int)))&&true) then (bif (decide ((rd l0 v8.toNat).a ≤cC)) then (bif (decide (cC<(rd l0 v8.toNat).d)) then (bif (decide ((rd l0 v8.toNat).b ≤cD)) then (bif (decide (cD<(rd l0 v8.toNat).e)) then (bif (decide ((rd l0 v8.toNat).c ≤cE)) then (bif (decide (cE<(rd l0 v8.toNat).f)) then (.ret [(.bool (decide (v8≥0)))]) else (.to (.h0 (IntKind.wrap .i64 (v8+1))))) else (.to (.h0 (IntKind.wrap .i64 (v8+1))))) else (.to (.h0 (IntKind.wrap .i64 (v8+1))))) else (.to (.h0 (IntKind.wrap .i64 (v8+1))))) else (.to (.h0 (IntKind.wrap .i64 (v8+1))))) else (.to (.h0 (IntKind.wrap .i64 (v8+1))))) else .stuck) else (.ret [(.bool false)]))
def y8i (l0:List R6) (cC:Int) (cD:Int) (cE:Int):Xo shsS:=(.to (.h0 0))
theorem w1w (l0:List R6) (cC:Int) (cD:Int) (cE:Int): ∀s,Xk prog (Zy prog 43) (shsC l0 cC cD cE) (shsC l0 cC cD cE s) (z4z l0 cC cD cE s)
 | .h0 v8=>(lb (fun k0=>(lo fun aG=>(lb (fun k1=>(lb (fun k2=>(lb (fun k3=>(lb (fun k4=>(lb (fun k5=>(lb (fun k6=>(lr 8 3 [1,1,1,1,1,1,1,0] 1 5 [(4,(.bool (decide (v8≥0))))] (sl z3w 92 [] ⟨[],[],[some [4]],[]⟩ ⟨[],[],[]⟩ (trs 32 []) (tt k6 (tt k5 (tt k4 (tt k3 (tt k2 (tt k1 (ww aG (tt k0 nn))))))))))) (fun k6=>(sl z3w 87 [] ⟨[0],[],x4f,x4g⟩ ⟨[],[],[]⟩ (trs 31 [false]) (tt k6 (tt k5 (tt k4 (tt k3 (tt k2 (tt k1 (ww aG (tt k0 nn)))))))))))) (fun k5=>(sl z3w 87 [] ⟨[0],[],x4f,x4g⟩ ⟨[],[],[]⟩ (trs 25 (bl 7 0)) (tt k5 (tt k4 (tt k3 (tt k2 (tt k1 (ww aG (tt k0 nn))))))))))) (fun k4=>(sl z3w 87 [] ⟨[0],[],x4f,x4g⟩ ⟨[],[],[]⟩ (trs 19 (bl 13 0)) (tt k4 (tt k3 (tt k2 (tt k1 (ww aG (tt k0 nn)))))))))) (fun k3=>(sl z3w 87 [] ⟨[0],[],x4f,x4g⟩ ⟨[],[],[]⟩ (trs 13 (bl 19 0)) (tt k3 (tt k2 (tt k1 (ww aG (tt k0 nn))))))))) (fun k2=>(sl z3w 87 [] ⟨[0],[],x4f,x4g⟩ ⟨[],[],[]⟩ (trs 7 (bl 25 0)) (tt k2 (tt k1 (ww aG (tt k0 nn)))))))) (fun k1=>(sl z3w 87 [] ⟨[0],[],x4f,x4g⟩ ⟨[],[],[]⟩ (bl 32 1) (tt k1 (ww aG (tt k0 nn)))))))) (fun k0=>(lr 8 3 [1,1,1,1,1,1,1,0] 1 5 [(4,(.bool false))] (sl z3w 18 [] ⟨[],[],[some [4]],[]⟩ ⟨[],[],[]⟩ [false] (tt k0 nn)))))
theorem x4e (l0:List R6) (cC:Int) (cD:Int) (cE:Int):Xk prog (Zy prog 43) (shsC l0 cC cD cE) (Ze prog 43 [(.dat l0.length (Zz l0)),(.agg [(.int .i64 cC),(.int .i64 cD),(.int .i64 cE)])] true []) (y8i l0 cC cD cE):=(sl z3w 32 [] ⟨[0],[],x4f,x4g⟩ ⟨[],[],[]⟩ [] nn)
theorem v2j (l0:List R6) (cC:Int) (cD:Int) (cE:Int) (n:Nat) (vs:List AVal) (h:Yk (z4z l0 cC cD cE) n (y8i l0 cC cD cE)=.ret vs):Kv prog (Zy prog 43) (Ze prog 43 [(.dat l0.length (Zz l0)),(.agg [(.int .i64 cC),(.int .i64 cD),(.int .i64 cE)])] true []) vs:=by have:=Zr (w1w l0 cC cD cE) n _ (x4e l0 cC cD cE);rwa [h] at this
inductive fitS where
def fitC (l0:List R6):fitS→Cfg
 :=nofun
def x6x (l0:List R6):fitS→Xo fitS
 :=nofun
def y1s (l0:List R6):Xo fitS:=(bif (decide ((l0.length:Int)≤20)) then (bif (y2t (cvT l0)) then (.ret [(.bool ((z9l (cvT l0)) == 0))]) else .stuck) else (.ret [(.bool false)]))
theorem w3t (l0:List R6): ∀s,Xk prog (Zy prog 37) (fitC l0) (fitC l0 s) (x6x l0 s)
 :=nofun
theorem x6y (l0:List R6):Xk prog (Zy prog 37) (fitC l0) (Ze prog 37 [(.dat l0.length (Zz l0))] true []) (y1s l0):=(lb (fun k0=>(lo fun o0=>(lr 11 3 [1,1,1,1,1,1,1,0] 1 3 [(2,(.bool ((z9l (cvT l0)) == 0)))] (sl z3w 16 [] ⟨[],[],[some [2]],[]⟩ ⟨[],[],[]⟩ (trs 3 []) (pp (pp (xr l0) (xw o0)) (tt k0 nn)))))) (fun k0=>(lr 11 3 [1,1,1,1,1,1,1,0] 1 3 [(2,(.bool false))] (sl z3w 16 [] ⟨[],[],[some [2]],[]⟩ ⟨[],[],[]⟩ [false,false,false] (tt k0 nn)))))
theorem v5u (l0:List R6) (n:Nat) (vs:List AVal) (h:Yk (x6x l0) n (y1s l0)=.ret vs):Kv prog (Zy prog 37) (Ze prog 37 [(.dat l0.length (Zz l0))] true []) vs:=by have:=Zr (w3t l0) n _ (x6y l0);rwa [h] at this
inductive crdS where
def crdC (aT:Int) (aU:Int) (aV:Int) (x1:Int):crdS→Cfg
 :=nofun
def x7n (aT:Int) (aU:Int) (aV:Int) (x1:Int):crdS→Xo crdS
 :=nofun
def y1v (aT:Int) (aU:Int) (aV:Int) (x1:Int):Xo crdS:=(bif (x1 == 0) then (.ret [(.int .i64 aT)]) else (bif (x1 == 1) then (.ret [(.int .i64 aU)]) else (.ret [(.int .i64 aV)])))
theorem w4f (aT:Int) (aU:Int) (aV:Int) (x1:Int): ∀s,Xk prog (Zy prog 42) (crdC aT aU aV x1) (crdC aT aU aV x1 s) (x7n aT aU aV x1 s)
 :=nofun
theorem x7o (aT:Int) (aU:Int) (aV:Int) (x1:Int):Xk prog (Zy prog 42) (crdC aT aU aV x1) (Ze prog 42 [(.agg [(.int .i64 aT),(.int .i64 aU),(.int .i64 aV)]),(.int .i64 x1)] true []) (y1v aT aU aV x1):=(lb (fun k0=>(lr 15 42 [1,0,1,0,0] 1 5 [(4,(ii aT))] (sl z3w 18 [] ⟨[],[],[some [4]],[]⟩ ⟨[],[],[]⟩ [true] (tt k0 nn)))) (fun k0=>(lb (fun k1=>(lr 15 42 [1,1,0,1,0,0] 1 5 [(4,(ii aU))] (sl z3w 26 [] ⟨[],[],[some [4]],[]⟩ ⟨[],[],[]⟩ [false,true] (tt k1 (tt k0 nn))))) (fun k1=>(lr 15 3 [1,1,1,1,1,1,1,0] 1 5 [(4,(ii aV))] (sl z3w 27 [] ⟨[],[],[some [4]],[]⟩ ⟨[],[],[]⟩ [false,false] (tt k1 (tt k0 nn))))))))
theorem v6l (aT:Int) (aU:Int) (aV:Int) (x1:Int) (n:Nat) (vs:List AVal) (h:Yk (x7n aT aU aV x1) n (y1v aT aU aV x1)=.ret vs):Kv prog (Zy prog 42) (Ze prog 42 [(.agg [(.int .i64 aT),(.int .i64 aU),(.int .i64 aV)]),(.int .i64 x1)] true []) vs:=by have:=Zr (w4f aT aU aV x1) n _ (x7o aT aU aV x1);rwa [h] at this
end Go.Am
namespace Go.Am
abbrev nEq7 :Nat:=69
end Go.Am
namespace Go.Am
open Go.Proofs.Tryz
open Go.Proofs Go.Sort Go.Shelf Go.RowKit Go.Lib
def Zp (L:List R6):List R7:=bif Wc L != 0 then [] else Uk L
def z6w (L:List R6):Int:=bif Wc L != 0 then Wc L else z0x L
def z3m (L:List R6):Bool:=true
theorem u4d (L:List R6): ∃n vs,Yk (x5v L) n (y1h L)=.ret vs∧(∀(ρ:Rho) (u:Value),Yy ρ (Je vs) u→Yy ρ (.tup [.dat (Zp L).length (Zz (Zp L)),.int .i64 (z6w L)]) u)∧ ∃d,pf d (Je vs)=true:=by
 unfold y1h;simp only [Zb,show∀l,z1m l=true from fun _=>rfl,cond_true];rcases Yn (Wc L != 0) with q1 | q1
 ·refine ⟨0,_,by rw [q1,cond_true];rfl,?_,3,rfl⟩;unfold Zp z6w;rw [q1,cond_true,cond_true];exact fun ρ u hu=>z2w (.cons (.nild _) (.cons (.refl _) .nil)) ρ u hu
 ·have o:z0w L=true:=decide_eq_true (Xr (by simpa using q1)).1;refine ⟨0,_,by rw [q1,o,cond_false,cond_true];rfl,?_,3,rfl⟩;unfold Zp z6w;rw [q1,cond_false,cond_false];exact fun ρ u hu=>hu
def fMof :List AVal→Option (AVal×Bool)
 | [a0]=>match asL R6 a0 with
  | some (L0,g0,n0)=>some (.tup [.dat (Zp L0).length (Zz (Zp L0)),.int .i64 (z6w L0)],isT R6 n0 g0&&(z3m L0))
  | _=>none
 | _=>none
theorem u5z {S:Specs} (hS:Zu prog S):Zu prog (S.with nMOf fMof):=by
 refine w4x hS (by kernel_rfl) fun args v h=> ?_;unfold fMof at h;split at h
 ·rename_i a0;split at h
  ·rename_i L0 g0 n0 e0;simp only [Option.some.injEq,Prod.mk.injEq,Bool.and_eq_true] at h;obtain ⟨rfl,ho0,hw⟩:=h;obtain ⟨N,vs,hN,hv,hp⟩:=u4d L0;exact ⟨_,vs,(.cons (asL_le e0 ho0) .nil),hv,v4l L0 N _ hN,hp⟩
  ·cases h
 ·cases h
def shR (x y z:Int) (r:R6):Bool:=decide (r.a≤x)&&(decide (x<r.d)&&(decide (r.b≤y)&&(decide (y<r.e)&&(decide (r.c≤z)&&decide (z<r.f)))))
def shsV (L:List R6) (x y z:Int):Bool:=L.any (shR x y z)
def z6c (L:List R6) (x y z:Int):Bool:=decide (L.length≤100000)
theorem v7p {L:List R6} {x y z:Int} (hl:L.length≤100000): ∀(k i:Nat),i+k=L.length→ ∃N,Yk (z4z L x y z) N (.to (.h0 (i:Int)))=.ret [.bool ((L.drop i).any (shR x y z))]
 | 0,i,h=>by refine ⟨1,?_⟩;rw [Zv,List.drop_eq_nil_of_le (by omega)];simp (disch:=omega) only [z4z,Yv,cond_false];rfl
 | k+1,i,h=>by
  have hi:i<L.length:=by omega
  obtain ⟨N,hN⟩:=v7p (x:=x) (y:=y) (z:=z) hl k (i+1) (by omega);have hw:IntKind.wrap .i64 ((i:Int)+1)=((i+1:Nat):Int):=Zq (by omega);have e:z4z L x y z (.h0 (i:Int))=bif shR x y z (rd L i) then .ret [.bool true] else .to (.h0 ((i+1:Nat):Int)):=by simp (disch:=omega) only [z4z,Zt,Yz,x2t,hw,Zj,Bool.and_true,cond_true];unfold shR;cases decide ((rd L i).a ≤x) <;> cases decide (x<(rd L i).d) <;> cases decide ((rd L i).b ≤y) <;> cases decide (y<(rd L i).e) <;> cases decide ((rd L i).c ≤z) <;> cases decide (z<(rd L i).f) <;> rfl
  refine ⟨N+1,?_⟩;rw [Zv,Ya hi,e,List.any_cons];rcases Yn (shR x y z (rd L i)) with q | q
  ·rw [q,cond_true,Bool.true_or];exact Zg _ _ _
  ·rw [q,cond_false,Bool.false_or];exact hN
theorem u2b (L:List R6) (x y z:Int) (h:z6c L x y z=true): ∃N,Yk (z4z L x y z) N (y8i L x y z)=.ret [.bool (shsV L x y z)]:=
 v7p (of_decide_eq_true h) L.length 0 (Nat.zero_add _)
def u0u (x y z i:Int):Int:=bif i == 0 then x else bif i == 1 then y else z
theorem u6y (x y z i:Int): ∃N,Yk (x7n x y z i) N (y1v x y z i)=.ret [.int .i64 (u0u x y z i)]:=⟨0,by
 unfold y1v u0u;cases (i == 0) <;> cases (i == 1) <;> rfl⟩
def u5f (L:List R6):Bool:=decide ((L.length:Int)≤20)&&(z9l L == 0)
def z3q (L:List R6):Bool:=true
theorem u5e (L:List R6) (h:z3q L=true): ∃N,Yk (x6x L) N (y1s L)=.ret [.bool (u5f L)]:=⟨0,by
 unfold y1s u5f;simp only [Zb,show∀l,y2t l=true from fun _=>rfl,cond_true];cases decide ((L.length:Int)≤20) <;> rfl⟩
def fShs :List AVal→Option (AVal×Bool)
 | [a0,.agg [.int .i64 cC,.int .i64 cD,.int .i64 cE]]=>match asL R6 a0 with
  | some (L0,g0,n0)=>some (.bool (shsV L0 cC cD cE),isT R6 n0 g0&&(z6c L0 cC cD cE))
  | _=>none
 | _=>none
theorem u5p {S:Specs} (hS:Zu prog S):Zu prog (S.with nSHas fShs):=by
 refine z3s hS (by kernel_rfl) fun args v h=> ?_;unfold fShs at h;split at h
 ·rename_i a0 cC cD cE;split at h
  ·rename_i L0 g0 n0 e0;simp only [Option.some.injEq,Prod.mk.injEq,Bool.and_eq_true] at h;obtain ⟨rfl,ho0,hw⟩:=h;obtain ⟨N,hN⟩:=u2b L0 cC cD cE hw;exact ⟨_,_,(.cons (asL_le e0 ho0) (.cons (.refl _) .nil)),rfl,v2j L0 cC cD cE N _ hN,3,rfl⟩
  ·cases h
 ·cases h
def fCrd :List AVal→Option (AVal×Bool)
 | [.agg [.int .i64 aT,.int .i64 aU,.int .i64 aV],.int .i64 x1]=>some (.int .i64 (u0u aT aU aV x1),true)
 | _=>none
theorem u6l {S:Specs} (hS:Zu prog S):Zu prog (S.with v9t fCrd):=by
 refine z3s hS (by kernel_rfl) fun args v h=> ?_;unfold fCrd at h;split at h
 ·rename_i aT aU aV x1;simp only [Option.some.injEq,Prod.mk.injEq,and_true] at h;subst h;obtain ⟨N,hN⟩:=u6y aT aU aV x1;exact ⟨_,_,(.cons (.refl _) (.cons (.refl _) .nil)),rfl,v6l aT aU aV x1 N _ hN,3,rfl⟩
 ·cases h
def fFit :List AVal→Option (AVal×Bool)
 | [a0]=>match asL R6 a0 with
  | some (L0,g0,n0)=>some (.bool (u5f L0),isT R6 n0 g0&&(z3q L0))
  | _=>none
 | _=>none
theorem u6h {S:Specs} (hS:Zu prog S):Zu prog (S.with v9s fFit):=by
 refine z3s hS (by kernel_rfl) fun args v h=> ?_;unfold fFit at h;split at h
 ·rename_i a0;split at h
  ·rename_i L0 g0 n0 e0;simp only [Option.some.injEq,Prod.mk.injEq,Bool.and_eq_true] at h;obtain ⟨rfl,ho0,hw⟩:=h;obtain ⟨N,hN⟩:=u5e L0 hw;exact ⟨_,_,(.cons (asL_le e0 ho0) .nil),rfl,v5u L0 N _ hN,3,rfl⟩
  ·cases h
 ·cases h
def Me :Specs:=((((Md.with nMOf fMof).with nSHas fShs).with v9t fCrd).with v9s fFit)
theorem Jx :Zu prog Me:=(u6h (u6l (u5p (u5z z3w))))
end Go.Am
namespace Go.Am
open Go.Proofs.Tryz
open Go.Proofs
inductive finS where
def finC (aT:Int) (aU:Int) (aV:Int):finS→Cfg
 :=nofun
def x6z (aT:Int) (aU:Int) (aV:Int):finS→Xo finS
 :=nofun
def y1t (aT:Int) (aU:Int) (aV:Int):Xo finS:=(bif (decide ((z5n (z5n aT aU) aV)≥(-1000000))) then (.ret [(.bool (decide ((z5o (z5o aT aU) aV)≤1000000)))]) else (.ret [(.bool false)]))
theorem w3u (aT:Int) (aU:Int) (aV:Int): ∀s,Xk prog (Zy prog 73) (finC aT aU aV) (finC aT aU aV s) (x6z aT aU aV s)
 :=nofun
theorem x7a (aT:Int) (aU:Int) (aV:Int):Xk prog (Zy prog 73) (finC aT aU aV) (Ze prog 73 [(.agg [(.int .i64 aT),(.int .i64 aU),(.int .i64 aV)])] true []) (y1t aT aU aV):=(lb (fun k0=>(lr 21 3 [1,1,1,1,1,1,1,0] 1 3 [(2,(.bool (decide ((z5o (z5o aT aU) aV)≤1000000))))] (sl Jx 27 [] ⟨[],[],[some [2]],[]⟩ ⟨[],[],[]⟩ (trs 8 []) (tt k0 nn)))) (fun k0=>(lr 21 3 [1,1,1,1,1,1,1,0] 1 3 [(2,(.bool false))] (sl Jx 27 [] ⟨[],[],[some [2]],[]⟩ ⟨[],[],[]⟩ [false,false,false,false,false,false,false,false] (tt k0 nn)))))
theorem v5v (aT:Int) (aU:Int) (aV:Int) (n:Nat) (vs:List AVal) (h:Yk (x6z aT aU aV) n (y1t aT aU aV)=.ret vs):Kv prog (Zy prog 73) (Ze prog 73 [(.agg [(.int .i64 aT),(.int .i64 aU),(.int .i64 aV)])] true []) vs:=by have:=Zr (w3u aT aU aV) n _ (x7a aT aU aV);rwa [h] at this
inductive eqqS where
 | h0 (v13:Int)
def eqqC (l0:List R7) (l1:List R7):eqqS→Cfg
 | .h0 v13=>⟨⟨26,0,true⟩,none,(Zd prog 69 [1,1,0,1,0,0] 0),none,(Zy prog 5),⟨Yc [(0,(.dat l0.length (Zz l0))),(1,(.dat l1.length (Zz l1))),(12,(ii (l0.length:Int))),(13,(ii v13))],Un [] 0,0,[],true⟩,[],.leaf⟩
def eqqN0 :List (Option (List Nat)):=[some [0,1,12,13]]
def eqqM0 :List (Option (List Nat)):=[]
def z5r (l0:List R7) (l1:List R7):eqqS→Xo eqqS
 | .h0 v13=>(bif (decide (v13<(l0.length:Int))) then (bif ((decide (0≤v13∧v13<(l0.length:Int)))&&true) then (bif ((decide (0≤v13∧v13<(l1.length:Int)))&&true) then (bif (!(((rd l0 v13.toNat).a == (rd l1 v13.toNat).a)&&((((rd l0 v13.toNat).b == (rd l1 v13.toNat).b)&&(((rd l0 v13.toNat).c == (rd l1 v13.toNat).c)&&(((rd l0 v13.toNat).d == (rd l1 v13.toNat).d)&&true)))&&((((rd l0 v13.toNat).e == (rd l1 v13.toNat).e)&&(((rd l0 v13.toNat).f == (rd l1 v13.toNat).f)&&(((rd l0 v13.toNat).g == (rd l1 v13.toNat).g)&&true)))&&true)))) then (.ret [(.bool false)]) else (.to (.h0 (IntKind.wrap .i64 (v13+1))))) else .stuck) else .stuck) else (.ret [(.bool true)]))
def y1u (l0:List R7) (l1:List R7):Xo eqqS:=(bif ((l0.length:Int) != (l1.length:Int)) then (.ret [(.bool false)]) else (.to (.h0 0)))
theorem w3y (l0:List R7) (l1:List R7): ∀s,Xk prog (Zy prog 69) (eqqC l0 l1) (eqqC l0 l1 s) (z5r l0 l1 s)
 | .h0 v13=>(lb (fun k0=>(lo fun aG=>(lo fun bA=>(lb (fun k1=>(lr 26 69 [1,1,0,1,0,0,1,1,0,0,1,1,0,0] 1 5 [(4,(.bool false))] (sl Jx 21 [] ⟨[],[],[some [4]],[]⟩ ⟨[],[],[]⟩ (bl 2 3) (tt k1 (ww bA (ww aG (tt k0 nn))))))) (fun k1=>(sl Jx 24 [] ⟨[],[],eqqN0,eqqM0⟩ ⟨[],[],[]⟩ (bl 2 1) (tt k1 (ww bA (ww aG (tt k0 nn)))))))))) (fun k0=>(lr 26 3 [1,1,1,1,1,1,1,0] 1 5 [(4,(.bool true))] (sl Jx 11 [] ⟨[],[],[some [4]],[]⟩ ⟨[],[],[]⟩ [false] (tt k0 nn)))))
theorem x7b (l0:List R7) (l1:List R7):Xk prog (Zy prog 69) (eqqC l0 l1) (Ze prog 69 [(.dat l0.length (Zz l0)),(.dat l1.length (Zz l1))] true []) (y1u l0 l1):=(lb (fun k0=>(lr 26 69 [1,0,1,0,0] 1 5 [(4,(.bool false))] (sl Jx 18 [] ⟨[],[],[some [4]],[]⟩ ⟨[],[],[]⟩ [true] (tt k0 nn)))) (fun k0=>(sl Jx 24 [] ⟨[],[],eqqN0,eqqM0⟩ ⟨[],[],[]⟩ [false] (tt k0 nn))))
theorem v6b (l0:List R7) (l1:List R7) (n:Nat) (vs:List AVal) (h:Yk (z5r l0 l1) n (y1u l0 l1)=.ret vs):Kv prog (Zy prog 69) (Ze prog 69 [(.dat l0.length (Zz l0)),(.dat l1.length (Zz l1))] true []) vs:=by have:=Zr (w3y l0 l1) n _ (x7b l0 l1);rwa [h] at this
inductive slmS where
 | h0 (v8:Int)
 | h1 (v16:Int) (aA:List Int)
 | h2 (v4:Int) (aF:List R6) (aP:List R4) (aY:Int) (aZ:Int) (aE:Nat) (aH:List Int)
 | h3 (v4:Int) (v38:Int) (aF:List R6) (aP:List R4) (aY:Int) (aZ:Int) (aE:Nat) (aH:List Int) (aO:Int) (bB:Int) (aB:List R4)
 | h4 (v1:Int) (v2:Int) (v72:List R4) (v73:Int) (v74:Int) (bI:List R4) (aR:Int) (aD:List R6) (bC:List R4) (bD:Int) (aE:Nat) (aH:List Int) (aO:List R4)
 | h5 (v2:Int) (v8:Int) (bV:Int) (bI:List R4) (aR:Int) (aD:List R6) (bC:List R4) (bD:Int) (bR:Int) (bH:Nat) (bN:List Int) (aB:List R4)
def slmC (l0:List R6):slmS→Cfg
 | .h0 v8=>⟨⟨19,0,true⟩,none,(Zd prog 134 [1,0,1,0,0] 0),none,(Zy prog 5),⟨Yc [(0,(.dat l0.length (Zz l0))),(1,(.fn 93 [])),(7,(ii (l0.length:Int))),(8,(ii v8))],Un [] 0,0,[],true⟩,[⟨⟨9,0,true⟩,(Ui prog 92 [1,0] 2),(Zd prog 92 [1,0] 1),none,(Zy prog 5),Yc [(5,(.dat l0.length (Zz l0))),(6,(.fn 93 []))]⟩,⟨⟨15,0,true⟩,(Ui prog 47 [1,1,0,0] 1),(Zd prog 47 [1,1,0,0] 1),none,(Zy prog 15),Yc [(0,(.dat l0.length (Zz l0))),(7,(.dat l0.length (Zz l0)))]⟩],.leaf⟩
 | .h1 v16 aA=>⟨⟨36,0,true⟩,none,(Zd prog 136 [1,1,0,1,0,0,1,1,0,0,1,1,0,0] 0),none,(Zy prog 3),⟨Yc [(1,(.ptr 0 0)),(3,(.ptr 2 0)),(8,(.sl 1 0 1 (.un 1))),(9,(ii 1)),(10,(ii 0)),(14,(.dat l0.length (Zz l0))),(15,(ii (l0.length:Int))),(16,(ii v16))],Un [⟨[(.sl 1 0 1 (.un 1))],166,none⟩,⟨[(.dat l0.length (Zz l0))],22,none⟩,⟨[(.sla 7 1 0 aA.length (.un 1))],93,none⟩,⟨[.nilf],117,none⟩,⟨[.nils],38,none⟩,⟨[(ii 0)],26,none⟩,⟨[.nils,.nils,(ii 0),(ii 0)],168,none⟩,⟨rows aA.length (Zz aA),3,some ⟨1,aA.length,(Zz aA)⟩⟩] 0,8,[],true⟩,[⟨⟨65,0,true⟩,(Ui prog 95 [1,1,0,0] 1),(Zd prog 95 [1,1,0,0] 1),none,(Zy prog 95),Yc [(2,(.ptr 3 0)),(4,(.ptr 4 0)),(5,(.ptr 5 0)),(6,(.ptr 6 0)),(13,(.sl 1 0 1 (.un 1)))]⟩,⟨⟨15,0,true⟩,(Ui prog 47 [1,1,1,0] 3),(Zd prog 47 [1,1,1,0] 1),none,(Zy prog 15),Yc [(9,(.agg [.nilf])),(11,(.sl 1 0 1 (.un 1)))]⟩],.leaf⟩
 | .h2 v4 aF aP aY aZ aE aH=>⟨⟨86,0,true⟩,none,(Zd prog 171 [1,0,0] 0),none,[],⟨Yc [(0,(.yld 0)),(1,(.ptr 5 0)),(2,(.ptr 7 0)),(4,(ii v4))],z9o [(1,⟨[.nilf],117,none⟩),(2,⟨[.nils],38,none⟩),(3,⟨[(ii 0)],26,none⟩),(4,⟨[(.sla 9 6 0 aF.length (.un 6)),(.dat aP.length (Zz aP)),(ii aY),(ii aZ)],168,none⟩),(5,⟨[(.sla 6 1 0 aE (.un 1))],93,none⟩),(6,⟨rows aH.length (Zz aH),3,some ⟨1,aH.length,(Zz aH)⟩⟩),(7,⟨[(.sl 8 0 1 (.un 1))],166,none⟩),(8,⟨[(.dat l0.length (Zz l0))],22,none⟩),(9,⟨rows aF.length (Zz aF),67,some ⟨6,aF.length,(Zz aF)⟩⟩)],10,[],true⟩,[⟨⟨65,0,true⟩,none,(.inRangeFunc 0::(Zd prog 95 [1,1,0,1,0] 1)),none,(Zy prog 95),Yc [(4,(.ptr 2 0)),(5,(.ptr 3 0)),(6,(.ptr 4 0))]⟩,⟨⟨15,0,true⟩,(Ui prog 47 [1,1,1,0] 3),(Zd prog 47 [1,1,1,0] 1),none,(Zy prog 15),Yc [(9,(.agg [.nilf])),(11,(.sl 8 0 1 (.un 1)))]⟩],(y5b [(0,⟨.ready,none,65,Yc [(2,(.ptr 1 0)),(4,(.ptr 2 0)),(5,(.ptr 3 0)),(6,(.ptr 4 0))],[15],(Vv prog 95 [1,1,0,1,0,0]),(Vv prog 95 [1,1,0,1,0,1])⟩)])⟩
 | .h3 v4 v38 aF aP aY aZ aE aH aO bB aB=>⟨⟨86,0,true⟩,none,(Zd prog 171 [1,0,0,1,0,0,1,0,1,0,0,1,1,0,0,1,1,0,0] 0),none,[],⟨Yc [(0,(.yld 0)),(1,(.ptr 5 0)),(2,(.ptr 7 0)),(4,(ii v4)),(5,(.ptr 9 0)),(6,(ii 0)),(29,(.sl 8 0 1 (.un 1))),(30,(ii 1)),(31,(ii 0)),(36,(.dat l0.length (Zz l0))),(37,(ii (l0.length:Int))),(38,(ii v38))],z9o [(1,⟨[.nilf],117,none⟩),(2,⟨[.nils],38,none⟩),(3,⟨[(ii 0)],26,none⟩),(4,⟨[(.sla 12 6 0 aF.length (.un 6)),(.dat aP.length (Zz aP)),(ii aY),(ii aZ)],168,none⟩),(5,⟨[(.sla 6 1 0 aE (.un 1))],93,none⟩),(6,⟨rows aH.length (Zz aH),3,some ⟨1,aH.length,(Zz aH)⟩⟩),(7,⟨[(.sl 8 0 1 (.un 1))],166,none⟩),(8,⟨[(.dat l0.length (Zz l0))],22,none⟩),(9,⟨[(ii aO),(ii bB),(.sl 10 0 1 (.ex 1))],173,none⟩),(10,⟨[(.sla 11 4 0 aB.length (.un 4))],99,none⟩),(11,⟨rows aB.length (Zz aB),88,some ⟨4,aB.length,(Zz aB)⟩⟩),(12,⟨rows aF.length (Zz aF),67,some ⟨6,aF.length,(Zz aF)⟩⟩)],13,[],true⟩,[⟨⟨65,0,true⟩,none,(.inRangeFunc 0::(Zd prog 95 [1,1,0,1,0] 1)),none,(Zy prog 95),Yc [(4,(.ptr 2 0)),(5,(.ptr 3 0)),(6,(.ptr 4 0))]⟩,⟨⟨15,0,true⟩,(Ui prog 47 [1,1,1,0] 3),(Zd prog 47 [1,1,1,0] 1),none,(Zy prog 15),Yc [(9,(.agg [.nilf])),(11,(.sl 8 0 1 (.un 1)))]⟩],(y5b [(0,⟨.ready,none,65,Yc [(2,(.ptr 1 0)),(4,(.ptr 2 0)),(5,(.ptr 3 0)),(6,(.ptr 4 0))],[15],(Vv prog 95 [1,1,0,1,0,0]),(Vv prog 95 [1,1,0,1,0,1])⟩)])⟩
 | .h4 v1 v2 v72 v73 v74 bI aR aD bC bD aE aH aO=>⟨⟨101,0,true⟩,none,(Zd prog 137 [1,1,1,0,0] 0),none,[],⟨Yc [(0,(.ptr 0 0)),(1,(ii v1)),(2,(ii v2)),(72,(.dat v72.length (Zz v72))),(73,(ii v73)),(74,(ii v74))],z9o [(0,⟨[(.sla 10 6 0 aD.length (.un 6)),(.dat bC.length (Zz bC)),(ii bD),(ii v2)],168,none⟩),(2,⟨[.nilf],117,none⟩),(3,⟨[.nils],38,none⟩),(4,⟨[(ii 0)],26,none⟩),(5,⟨[(.sla 6 1 0 aE (.un 1))],93,none⟩),(6,⟨rows aH.length (Zz aH),3,some ⟨1,aH.length,(Zz aH)⟩⟩),(7,⟨[(.sl 8 0 1 (.un 1))],166,none⟩),(8,⟨[(.dat l0.length (Zz l0))],22,none⟩),(9,⟨[(.dat aO.length (Zz aO))],99,none⟩),(10,⟨rows aD.length (Zz aD),67,some ⟨6,aD.length,(Zz aD)⟩⟩)],11,[],true⟩,[⟨⟨65,0,true⟩,(Ui prog 95 [1,1,0,1,0,1,0,1,1,1] 5),(Zd prog 95 [1,1,0,1,0,1,0,1,1,1] 1),(some 1),[],Yc [(6,(.ptr 0 0)),(54,(ii v1)),(56,(ii v2)),(57,(.dat bI.length (Zz bI)))]⟩,⟨⟨86,0,true⟩,(Ui prog 171 [1,0,0,1,0,0,1,1,0] 2),(Zd prog 171 [1,0,0,1,0,0,1,1,0] 1),none,[],Yc [(0,(.yld 1)),(1,(.ptr 5 0)),(2,(.ptr 7 0)),(4,(ii aR)),(82,(.yld 1)),(83,(.agg [(ii v1),(ii v2),(.sl 9 0 1 (.ex 1))]))]⟩,⟨⟨65,0,true⟩,none,(.inRangeFunc 1::(Zd prog 95 [1,1,0,1,0] 1)),none,(Zy prog 95),Yc [(4,(.ptr 3 0)),(5,(.ptr 4 0)),(6,(.ptr 0 0))]⟩,⟨⟨15,0,true⟩,(Ui prog 47 [1,1,1,0] 3),(Zd prog 47 [1,1,1,0] 1),none,(Zy prog 15),Yc [(9,(.agg [.nilf])),(11,(.sl 8 0 1 (.un 1)))]⟩],(y5b [(1,⟨.busy,none,65,Yc [(2,(.ptr 2 0)),(4,(.ptr 3 0)),(5,(.ptr 4 0)),(6,(.ptr 0 0))],[15],(Vv prog 95 [1,1,0,1,0,0]),(Vv prog 95 [1,1,0,1,0,1])⟩)])⟩
 | .h5 v2 v8 bV bI aR aD bC bD bR bH bN aB=>⟨⟨101,0,true⟩,none,(Zd prog 137 [0,1,0,0,1,0,0] 0),none,[],⟨Yc [(0,(.ptr 0 0)),(2,(ii v2)),(8,(ii v8))],z9o [(0,⟨[(.sla 1 6 0 aD.length (.un 6)),(.dat bC.length (Zz bC)),(ii bD),(ii bR)],168,none⟩),(1,⟨rows aD.length (Zz aD),67,some ⟨6,aD.length,(Zz aD)⟩⟩),(3,⟨[.nilf],117,none⟩),(4,⟨[.nils],38,none⟩),(5,⟨[(ii 0)],26,none⟩),(6,⟨[(.sla 7 1 0 bH (.un 1))],93,none⟩),(7,⟨rows bN.length (Zz bN),3,some ⟨1,bN.length,(Zz bN)⟩⟩),(8,⟨[(.sl 9 0 1 (.un 1))],166,none⟩),(9,⟨[(.dat l0.length (Zz l0))],22,none⟩),(10,⟨[(.dat aB.length (Zz aB))],99,none⟩)],11,[],true⟩,[⟨⟨65,0,true⟩,(Ui prog 95 [1,1,0,1,0,1,0,1,1,1] 5),(Zd prog 95 [1,1,0,1,0,1,0,1,1,1] 1),(some 2),[],Yc [(6,(.ptr 0 0)),(54,(ii bV)),(56,(ii v2)),(57,(.dat bI.length (Zz bI)))]⟩,⟨⟨86,0,true⟩,(Ui prog 171 [1,0,0,1,0,0,1,1,0] 2),(Zd prog 171 [1,0,0,1,0,0,1,1,0] 1),none,[],Yc [(0,(.yld 2)),(1,(.ptr 6 0)),(2,(.ptr 8 0)),(4,(ii aR)),(82,(.yld 2)),(83,(.agg [(ii bV),(ii v2),(.sl 10 0 1 (.ex 1))]))]⟩,⟨⟨65,0,true⟩,none,(.inRangeFunc 2::(Zd prog 95 [1,1,0,1,0] 1)),none,(Zy prog 95),Yc [(4,(.ptr 4 0)),(5,(.ptr 5 0)),(6,(.ptr 0 0))]⟩,⟨⟨15,0,true⟩,(Ui prog 47 [1,1,1,0] 3),(Zd prog 47 [1,1,1,0] 1),none,(Zy prog 15),Yc [(9,(.agg [.nilf])),(11,(.sl 9 0 1 (.un 1)))]⟩],(y5b [(2,⟨.busy,none,65,Yc [(2,(.ptr 3 0)),(4,(.ptr 4 0)),(5,(.ptr 5 0)),(6,(.ptr 0 0))],[15],(Vv prog 95 [1,1,0,1,0,0]),(Vv prog 95 [1,1,0,1,0,1])⟩)])⟩
def slmN0 :List (Option (List Nat)):=[some [0,1,7,8],some [5,6],some [0,7]]
def slmM0 :List (Option (List Nat)):=[]
def u1y :List (Option (List Nat)):=[some [1,3,8,9,10,14,15,16],some [2,4,5,6,13],some [9,11]]
def u2a :List (Option (List Nat)):=[]
def u1x :List (Option (List Nat)):=[some [0,1,2,4],some [4,5,6],some [9,11]]
def u1z :List (Option (List Nat)):=[some [2,4,5,6],none,none,none,none,none,none,none,none,none]
def v2g :List (Option (List Nat)):=[some [0,1,2,4,5,6,29,30,31,36,37,38],some [4,5,6],some [9,11]]
def v2i :List (Option (List Nat)):=[some [2,4,5,6],none,none,none,none,none,none,none,none,none,none,none,none]
def v2f :List (Option (List Nat)):=[some [0,1,2,72,73,74],some [6,54,56,57],some [0,1,2,4,82,83],some [4,5,6],some [9,11]]
def v2h :List (Option (List Nat)):=[none,some [2,4,5,6],none,none,none,none,none,none,none,none,none]
def slmN5 :List (Option (List Nat)):=[some [0,2,8],some [6,54,56,57],some [0,1,2,4,82,83],some [4,5,6],some [9,11]]
def slmM5 :List (Option (List Nat)):=[none,none,some [2,4,5,6],none,none,none,none,none,none,none,none]
def Xx (l0:List R6):slmS→Xo slmS
 | .h0 v8=>(bif (decide (v8<(l0.length:Int))) then (bif ((decide (0≤v8∧v8<(l0.length:Int)))&&true) then (bif (!(u1d (rd l0 v8.toNat).a (rd l0 v8.toNat).b (rd l0 v8.toNat).c (rd l0 v8.toNat).d (rd l0 v8.toNat).e (rd l0 v8.toNat).f)) then (bif (decide (v8≥0)) then (.ret [.nils,(.int .i64 8)]) else (.to (.h1 0 ([]:List Int)))) else (.to (.h0 (IntKind.wrap .i64 (v8+1))))) else .stuck) else (.to (.h1 0 ([]:List Int))))
 | .h1 v16 aA=>(bif (decide (v16<(l0.length:Int))) then (bif ((decide (0≤v16∧v16<(l0.length:Int)))&&true) then (bif (Nat.beq 1 1&&((decide (0+aA.length=aA.length))&&decide ((aA.length+2+1)*(8+1)≤Us))) then (.to (.h1 (IntKind.wrap .i64 (v16+1)) (aA++[(rd l0 v16.toNat).c,(rd l0 v16.toNat).f]))) else .stuck) else .stuck) else (bif (decide (aA.length<4611686018427387904)) then (bif (decide (aA.length=aA.length)) then (.to (.h2 1 ([]:List R6) ([]:List R4) 0 0 (w4z (Zc aA.length (cOf (Zz (Yo (Zc aA.length (cOf (Zz aA)))))))) (Wx (Zc aA.length (cOf (Zz (Yo (Zc aA.length (cOf (Zz aA)))))))))) else .stuck) else .stuck))
 | .h2 v4 aF aP aY aZ aE aH=>(bif (decide (v4<((aE:Nat):Int))) then (bif ((decide (0≤(IntKind.wrap .i64 (v4 - 1))∧(IntKind.wrap .i64 (v4 - 1))<((aE:Nat):Int)))&&true) then (bif (decide ((0+(Int.toNat (IntKind.wrap .i64 (v4 - 1))))<aH.length)) then (bif ((decide (0≤v4∧v4<((aE:Nat):Int)))&&true) then (bif (decide ((0+v4.toNat)<aH.length)) then (.to (.h3 v4 0 aF aP aY aZ aE aH (rd aH (0+(Int.toNat (IntKind.wrap .i64 (v4 - 1))))) (rd aH (0+v4.toNat)) ([]:List R4))) else .stuck) else .stuck) else .stuck) else .stuck) else (bif (decide ((aF.length:Int)>400)) then (.ret [.nils,(.int .i64 4)]) else (.ret [(.dat aF.length (Zz aF)),(.int .i64 0)])))
 | .h3 v4 v38 aF aP aY aZ aE aH aO bB aB=>(bif (decide (v38<(l0.length:Int))) then (bif ((decide (0≤v38∧v38<(l0.length:Int)))&&true) then (bif (decide ((rd l0 v38.toNat).c ≤aO)) then (bif (decide (aO<(rd l0 v38.toNat).f)) then (bif (Nat.beq 4 4&&((decide (0+aB.length=aB.length))&&decide ((aB.length+1+1)*(32+1)≤Us))) then (.to (.h3 v4 (IntKind.wrap .i64 (v38+1)) aF aP aY aZ aE aH aO bB (aB++[(R4.mk (rd l0 v38.toNat).a (rd l0 v38.toNat).b (rd l0 v38.toNat).d (rd l0 v38.toNat).e)]))) else .stuck) else (.to (.h3 v4 (IntKind.wrap .i64 (v38+1)) aF aP aY aZ aE aH aO bB aB))) else (.to (.h3 v4 (IntKind.wrap .i64 (v38+1)) aF aP aY aZ aE aH aO bB aB))) else .stuck) else (bif (Ux (cvT aB)) then (bif ((Xg (cvT aB)) != 0) then (.ret [.nils,(.int .i64 (Xg (cvT aB)))]) else (bif (decide ((((Za (cvT aB)).length :Nat):Int)>0)) then (bif (aZ == aO) then (bif (Wm (cvT aP) (cvT (Za (cvT aB)))) then (bif (Uo (cvT aP) (cvT (Za (cvT aB)))) then (.to (.h5 bB aY aO (Za (cvT aB)) v4 aF aP aY aZ aE aH aB)) else (.to (.h4 aO bB (Za (cvT aB)) (((Za (cvT aB)).length :Nat):Int) 0 (Za (cvT aB)) v4 aF (Za (cvT aB)) (aF.length:Int) aE aH aB))) else .stuck) else (.to (.h4 aO bB (Za (cvT aB)) (((Za (cvT aB)).length :Nat):Int) 0 (Za (cvT aB)) v4 aF (Za (cvT aB)) (aF.length:Int) aE aH aB))) else (.to (.h4 aO bB (Za (cvT aB)) (((Za (cvT aB)).length :Nat):Int) 0 (Za (cvT aB)) v4 aF (Za (cvT aB)) (aF.length:Int) aE aH aB)))) else .stuck))
 | .h4 v1 v2 v72 v73 v74 bI aR aD bC bD aE aH aO=>(bif (decide (v74<v73)) then (bif ((decide (0≤v74∧v74<(v72.length:Int)))&&true) then (bif (Nat.beq 6 6&&((decide (0+aD.length=aD.length))&&decide ((aD.length+1+1)*(48+1)≤Us))) then (.to (.h4 v1 v2 v72 v73 (IntKind.wrap .i64 (v74+1)) bI aR (aD++[(R6.mk (rd v72 v74.toNat).a (rd v72 v74.toNat).b v1 (rd v72 v74.toNat).c (rd v72 v74.toNat).d v2)]) bC bD aE aH aO)) else .stuck) else .stuck) else (.to (.h2 (IntKind.wrap .i64 (aR+1)) aD bC bD v2 aE aH)))
 | .h5 v2 v8 bV bI aR aD bC bD bR bH bN aB=>(bif (decide (v8<(aD.length:Int))) then (bif ((decide (0≤v8∧v8<(aD.length:Int)))&&true) then (bif (decide ((0+v8.toNat)<aD.length)) then (.to (.h5 v2 (IntKind.wrap .i64 (v8+1)) bV bI aR (aD.set (0+v8.toNat) (R6.mk (rd aD (0+v8.toNat)).a (rd aD (0+v8.toNat)).b (rd aD (0+v8.toNat)).c (rd aD (0+v8.toNat)).d (rd aD (0+v8.toNat)).e v2)) bC bD bR bH bN aB)) else .stuck) else .stuck) else (.to (.h2 (IntKind.wrap .i64 (aR+1)) aD bC bD v2 bH bN)))
def y0r (l0:List R6):Xo slmS:=(bif (decide ((l0.length:Int)>400)) then (.ret [.nils,(.int .i64 4)]) else (.to (.h0 0)))
theorem w1u (l0:List R6): ∀s,Xk prog (Zy prog 47) (slmC l0) (slmC l0 s) (Xx l0 s)
 | .h0 v8=>(lb (fun k0=>(lo fun aG=>(lb (fun k1=>(lb (fun k2=>(lr 15 47 [1,1,0,1,0,0] 1 15 [(2,.nils),(3,(ii 8))] (sl Jx 54 [] ⟨[],[],[some [2,3]],[]⟩ ⟨[],[],[]⟩ (trs 3 []) (tt k2 (tt k1 (ww aG (tt k0 nn))))))) (fun k2=>(sl Jx 112 [(3,1,Zz ([]:List Int))] ⟨[6,1,7,2,3,4,5,8],[],u1y,u2a⟩ ⟨[],[.keep,.keep,.cells [.grow 7 1],.keep,.keep,.keep,.keep,.keep],[]⟩ (bl 4 11) (pp (fl ([]:List Int) nn) (tt k2 (tt k1 (ww aG (tt k0 nn))))))))) (fun k1=>(sl Jx 44 [] ⟨[],[],slmN0,slmM0⟩ ⟨[],[],[]⟩ (bl 2 1) (tt k1 (ww aG (tt k0 nn)))))))) (fun k0=>(sl Jx 81 [(3,1,Zz ([]:List Int))] ⟨[5,0,6,1,2,3,4,7],[],u1y,u2a⟩ ⟨[],[.keep,.keep,.cells [.grow 7 1],.keep,.keep,.keep,.keep,.keep],[]⟩ (bl 3 4) (pp (fl ([]:List Int) nn) (tt k0 nn)))))
 | .h1 v16 aA=>(lb (fun k0=>(lo fun o0=>(lo fun o1=>(sl Jx 34 [] ⟨[0,1,2,3,4,5,6,10],[],u1y,u2a⟩ ⟨[],[.keep,.keep,.cells [.len (aA++[(rd l0 (tn v16)).c,(rd l0 (tn v16)).f]).length],.keep,.keep,.keep,.keep,.rowed 1 (aA++[(rd l0 (tn v16)).c,(rd l0 (tn v16)).f]).length (Zz (aA++[(rd l0 (tn v16)).c,(rd l0 (tn v16)).f]))],[]⟩ [true] (pp (xL (aA.length+2) (aA++[(rd l0 (tn v16)).c,(rd l0 (tn v16)).f]).length) (pp (xL (aA.length+2) (aA++[(rd l0 (tn v16)).c,(rd l0 (tn v16)).f]).length) (pp (xS (aA.length+2) (Zi (Zz aA) 0 aA.length 1 [(ii (rd l0 (tn v16)).c),(ii (rd l0 (tn v16)).f)]) (Zz (aA++[(rd l0 (tn v16)).c,(rd l0 (tn v16)).f]))) (pp (pp (xF (Zi (Zz aA) 0 aA.length 1 [(ii (rd l0 (tn v16)).c),(ii (rd l0 (tn v16)).f)])) nn) (ww o1 (ww o0 (tt k0 nn))))))))))) (fun k0=>(lo fun o0=>(lo fun o1=>(sl Jx 46 [(67,6,Zz ([]:List R6))] ⟨[8,3,4,5,6,2,7,0,1,9],[],u1x,u1z⟩ ⟨[],(kpB 4 [.cells [.grow 9 6,.list 0 (Zz ([]:List R4)),.keep,.keep],.keep,.rowed 1 (Wx (Zc aA.length (cOf (Zz (Yo (Zc aA.length (cOf (Zz aA)))))))).length (Zz (Wx (Zc aA.length (cOf (Zz (Yo (Zc aA.length (cOf (Zz aA))))))))),.keep,.keep,.keep]),[]⟩ (bl 2 0) (pp (xL aA.length (Wx (Zc aA.length (cOf (Zz (Yo (Zc aA.length (cOf (Zz aA)))))))).length (by first | exact z1a _ _ | exact Wo rfl)) (pp (xS aA.length (Zz (Wx (Zc aA.length (cOf (Zz (Yo (Zc aA.length (cOf (Zz aA))))))))) (Zz (Wx (Zc aA.length (cOf (Zz (Yo (Zc aA.length (cOf (Zz aA)))))))))) (pp (fl (Wx (Zc aA.length (cOf (Zz (Yo (Zc aA.length (cOf (Zz aA)))))))) (fl ([]:List R6) nn)) (pp (pp (xG (Nat.beq 1 1)) (pp (xG (Nat.beq 1 1)) (pp (xG (Nat.beq 0 0)) (pp (xG (decide (aA.length=aA.length))) (pp (xG (isI (Zz (Yo (Zc aA.length (cOf (Zz aA))))))) (xG (decide (aA.length<4611686018427387904)))))))) (pp (pp (xG (Nat.beq 1 1)) (pp (xG (Nat.beq 1 1)) (pp (xG (Nat.beq 0 0)) (pp (xG (decide (aA.length=aA.length))) (pp (xG (isI (Zz aA))) (xG (decide (aA.length<4611686018427387904)))))))) (tt k0 nn)))))))))))
 | .h2 v4 aF aP aY aZ aE aH=>(lb (fun k0=>(lo fun o0=>(lo fun o1=>(lo fun o2=>(lo fun o3=>(sl Jx 48 [(88,4,Zz ([]:List R4))] ⟨[0,1,2,3,4,5,6,7,8,10,11,12,9],[],v2g,v2i⟩ ⟨[],(kpB 10 [.cells [.grow 11 4],.keep,.keep]),[]⟩ (trs 3 []) (pp (fl aH (fl ([]:List R4) (fl aF nn))) (ww o3 (ww o2 (ww o1 (ww o0 (tt k0 nn)))))))))))) (fun k0=>(lb (fun k1=>(lr 15 3 [1,1,1,1,1,1,1,0] 1 15 [(2,.nils),(3,(ii 4))] (sl Jx 33 [] ⟨[],[],[some [2,3]],[]⟩ ⟨[],[],[]⟩ (bl 2 2) (tt k1 (tt k0 nn))))) (fun k1=>(lr 15 3 [1,1,1,1,1,1,1,0] 1 15 [(2,(.dat aF.length (Zz aF))),(3,(ii 0))] (sl Jx 36 [] ⟨[],[9],[some [2,3]],[]⟩ ⟨[(2,.frz aF.length aF.length (Zz aF) (Zz aF))],[],[]⟩ (bl 2 0) (pp (xZ (z5p 6 6 0 aF.length aF.length (Zz aF)) aF.length (Zz aF)) (pp (xL aF.length aF.length) (pp (xS aF.length (Zz aF) (Zz aF)) (pp (fl aF nn) (tt k1 (tt k0 nn))))))))))))
 | .h3 v4 v38 aF aP aY aZ aE aH aO bB aB=>(lb (fun k0=>(lo fun aG=>(lb (fun k1=>(lb (fun k2=>(lo fun o0=>(sl Jx 41 [] ⟨[0,1,2,3,4,5,6,7,8,9,10,15,12],[],v2g,v2i⟩ ⟨[],(kpB 10 [.cells [.len (aB++[(R4.mk (rd l0 (tn v38)).a (rd l0 (tn v38)).b (rd l0 (tn v38)).d (rd l0 (tn v38)).e)]).length],.rowed 4 (aB++[(R4.mk (rd l0 (tn v38)).a (rd l0 (tn v38)).b (rd l0 (tn v38)).d (rd l0 (tn v38)).e)]).length (Zz (aB++[(R4.mk (rd l0 (tn v38)).a (rd l0 (tn v38)).b (rd l0 (tn v38)).d (rd l0 (tn v38)).e)])),.keep]),[]⟩ (trs 8 []) (pp (xL (aB.length+1) (aB++[(R4.mk (rd l0 (tn v38)).a (rd l0 (tn v38)).b (rd l0 (tn v38)).d (rd l0 (tn v38)).e)]).length) (pp (xL (aB.length+1) (aB++[(R4.mk (rd l0 (tn v38)).a (rd l0 (tn v38)).b (rd l0 (tn v38)).d (rd l0 (tn v38)).e)]).length) (pp (xS (aB.length+1) (Zi (Zz aB) 0 aB.length 4 [(ii (rd l0 (tn v38)).a),(ii (rd l0 (tn v38)).b),(ii (rd l0 (tn v38)).d),(ii (rd l0 (tn v38)).e)]) (Zz (aB++[(R4.mk (rd l0 (tn v38)).a (rd l0 (tn v38)).b (rd l0 (tn v38)).d (rd l0 (tn v38)).e)]))) (pp (fl aH (pp (xF (Zi (Zz aB) 0 aB.length 4 [(ii (rd l0 (tn v38)).a),(ii (rd l0 (tn v38)).b),(ii (rd l0 (tn v38)).d),(ii (rd l0 (tn v38)).e)])) (fl aF nn))) (ww o0 (tt k2 (tt k1 (ww aG (tt k0 nn)))))))))))) (fun k2=>(sl Jx 41 [] ⟨(List.range 13),[],v2g,v2i⟩ ⟨[],[],[]⟩ (trs 7 [false]) (pp (fl aH (fl aB (fl aF nn))) (tt k2 (tt k1 (ww aG (tt k0 nn))))))))) (fun k1=>(sl Jx 41 [] ⟨(List.range 13),[],v2g,v2i⟩ ⟨[],[],[]⟩ (bl 8 1) (pp (fl aH (fl aB (fl aF nn))) (tt k1 (ww aG (tt k0 nn))))))))) (fun k0=>(Wh (sl Jx (C':=⟨⟨65,0,true⟩,(Ui prog 95 [1,1,0,1,0,1,0,0] 4),(Zd prog 95 [1,1,0,1,0,1,0,0] 1),(some 0),[],⟨Yc [(2,(.ptr 1 0)),(4,(.ptr 2 0)),(5,(.ptr 3 0)),(6,(.ptr 4 0)),(7,(.ptr 6 0)),(20,(.dat aB.length (Zz aB)))],z9o [(1,⟨[.nilf],117,none⟩),(2,⟨[.nils],38,none⟩),(3,⟨[(ii 0)],26,none⟩),(4,⟨[(.sla 5 6 0 aF.length (.un 6)),(.dat aP.length (Zz aP)),(ii aY),(ii aZ)],168,none⟩),(5,⟨rows aF.length (Zz aF),67,some ⟨6,aF.length,(Zz aF)⟩⟩),(6,⟨[(ii aO),(ii bB),(.sl 7 0 1 (.ex 1))],173,none⟩),(7,⟨[(.dat aB.length (Zz aB))],99,none⟩),(8,⟨[(.sla 9 1 0 aE (.un 1))],93,none⟩),(9,⟨rows aH.length (Zz aH),3,some ⟨1,aH.length,(Zz aH)⟩⟩),(10,⟨[(.sl 11 0 1 (.un 1))],166,none⟩),(11,⟨[(.dat l0.length (Zz l0))],22,none⟩)],12,[],true⟩,[⟨⟨86,0,true⟩,(Ui prog 171 [1,0,0,1,0,0,1,1,0] 2),(Zd prog 171 [1,0,0,1,0,0,1,1,0] 1),none,[],Yc [(0,(.yld 0)),(1,(.ptr 8 0)),(2,(.ptr 10 0)),(4,(ii v4)),(82,(.yld 0)),(83,(.agg [(ii aO),(ii bB),(.sl 7 0 1 (.ex 1))]))]⟩,⟨⟨65,0,true⟩,none,(.inRangeFunc 0::(Zd prog 95 [1,1,0,1,0] 1)),none,(Zy prog 95),Yc [(4,(.ptr 2 0)),(5,(.ptr 3 0)),(6,(.ptr 4 0))]⟩,⟨⟨15,0,true⟩,(Ui prog 47 [1,1,1,0] 3),(Zd prog 47 [1,1,1,0] 1),none,(Zy prog 15),Yc [(9,(.agg [.nilf])),(11,(.sl 11 0 1 (.un 1)))]⟩],(y5b [(0,⟨.busy,none,65,Yc [(2,(.ptr 1 0)),(4,(.ptr 2 0)),(5,(.ptr 3 0)),(6,(.ptr 4 0))],[15],(Vv prog 95 [1,1,0,1,0,0]),(Vv prog 95 [1,1,0,1,0,1])⟩)])⟩) 37 [] ⟨[0,1,2,3,4,12,13,10,5,6,7,8],[11],[some [2,4,5,6,7,20],some [0,1,2,4,82,83],some [4,5,6],some [9,11]],[some [2,4,5,6],none,none,none,none,none,none,none,none,none,none,none]⟩ ⟨[(20,.frz aB.length aB.length (Zz aB) (Zz aB))],[.keep,.keep,.keep,.keep,.keep,.keep,.keep,.cells [.frz aB.length aB.length (Zz aB) (Zz aB)],.keep,.keep,.keep,.keep],[]⟩ (bl 2 0) (pp (xZ (z5p 4 4 0 aB.length aB.length (Zz aB)) aB.length (Zz aB)) (pp (xL aB.length aB.length) (pp (xS aB.length (Zz aB) (Zz aB)) (pp (xZ (z5p 4 4 0 aB.length aB.length (Zz aB)) aB.length (Zz aB)) (pp (xL aB.length aB.length) (pp (xS aB.length (Zz aB) (Zz aB)) (pp (fl aF (fl aH nn)) (pp (fl aB nn) (tt k0 nn)))))))))) (lo fun aG=>(lb (fun k1=>(lr 15 3 [1,1,1,1,1,1,1,0] 1 15 [(2,.nils),(3,(ii (Xg (cvT aB))))] (sl Jx 50 [] ⟨[],[],[some [2,3]],[]⟩ ⟨[],[],[]⟩ (bl 3 6) (tt k1 (pp (pp (xr aB) (xw aG)) nn))))) (fun k1=>(lb (fun k2=>(lb (fun k3=>(lo fun bT=>(lb (fun k4=>(sl Jx 75 [] ⟨[4,5,0,1,2,3,8,9,10,11,7],[],slmN5,slmM5⟩ ⟨[],[],[]⟩ (bl 15 32764) (pp (fl aF (fl aH nn)) (tt k4 (pp (pp (xr aP) (pp (xI R4 (Za (cvT aB)).length (Zz (Za (cvT aB)))) (xw bT))) (tt k3 (tt k2 (tt k1 (pp (pp (xr aB) (xw aG)) nn))))))))) (fun k4=>(sl Jx 95 [] ⟨[4,0,1,2,3,8,9,10,11,7,5],[],v2f,v2h⟩ ⟨[],[],[]⟩ (bl 15 16380) (pp (fl aH (fl aF nn)) (tt k4 (pp (pp (xr aP) (pp (xI R4 (Za (cvT aB)).length (Zz (Za (cvT aB)))) (xw bT))) (tt k3 (tt k2 (tt k1 (pp (pp (xr aB) (xw aG)) nn)))))))))))) (fun k3=>(sl Jx 95 [] ⟨[4,0,1,2,3,8,9,10,11,7,5],[],v2f,v2h⟩ ⟨[],[],[]⟩ (bl 15 252) (pp (fl aH (fl aF nn)) (tt k3 (tt k2 (tt k1 (pp (pp (xr aB) (xw aG)) nn))))))))) (fun k2=>(sl Jx 95 [] ⟨[4,0,1,2,3,8,9,10,11,7,5],[],v2f,v2h⟩ ⟨[],[],[]⟩ (bl 15 0) (pp (fl aH (fl aF nn)) (tt k2 (tt k1 (pp (pp (xr aB) (xw aG)) nn)))))))))))))
 | .h4 v1 v2 v72 v73 v74 bI aR aD bC bD aE aH aO=>(lb (fun k0=>(lo fun o0=>(lo fun o1=>(sl Jx 23 [] ⟨[0,1,2,3,4,5,6,7,8,9,13],[],v2f,v2h⟩ ⟨[],[.cells [.len (aD++[(R6.mk (rd v72 (tn v74)).a (rd v72 (tn v74)).b v1 (rd v72 (tn v74)).c (rd v72 (tn v74)).d v2)]).length,.keep,.keep,.keep],.keep,.keep,.keep,.keep,.keep,.keep,.keep,.keep,.keep,.rowed 6 (aD++[(R6.mk (rd v72 (tn v74)).a (rd v72 (tn v74)).b v1 (rd v72 (tn v74)).c (rd v72 (tn v74)).d v2)]).length (Zz (aD++[(R6.mk (rd v72 (tn v74)).a (rd v72 (tn v74)).b v1 (rd v72 (tn v74)).c (rd v72 (tn v74)).d v2)]))],[]⟩ [true] (pp (xL (aD.length+1) (aD++[(R6.mk (rd v72 (tn v74)).a (rd v72 (tn v74)).b v1 (rd v72 (tn v74)).c (rd v72 (tn v74)).d v2)]).length) (pp (xL (aD.length+1) (aD++[(R6.mk (rd v72 (tn v74)).a (rd v72 (tn v74)).b v1 (rd v72 (tn v74)).c (rd v72 (tn v74)).d v2)]).length) (pp (xS (aD.length+1) (Zi (Zz aD) 0 aD.length 6 [(ii (rd v72 (tn v74)).a),(ii (rd v72 (tn v74)).b),(ii v1),(ii (rd v72 (tn v74)).c),(ii (rd v72 (tn v74)).d),(ii v2)]) (Zz (aD++[(R6.mk (rd v72 (tn v74)).a (rd v72 (tn v74)).b v1 (rd v72 (tn v74)).c (rd v72 (tn v74)).d v2)]))) (pp (fl aH (pp (xF (Zi (Zz aD) 0 aD.length 6 [(ii (rd v72 (tn v74)).a),(ii (rd v72 (tn v74)).b),(ii v1),(ii (rd v72 (tn v74)).c),(ii (rd v72 (tn v74)).d),(ii v2)])) nn)) (ww o1 (ww o0 (tt k0 nn))))))))))) (fun k0=>(sl Jx 22 [] ⟨[1,2,3,4,0,5,6,7,8,10],[],u1x,u1z⟩ ⟨[],[],[]⟩ (bl 2 0) (pp (fl aH (fl aD nn)) (tt k0 nn)))))
 | .h5 v2 v8 bV bI aR aD bC bD bR bH bN aB=>(lb (fun k0=>(lo fun o0=>(lo fun o1=>(sl Jx 34 [] ⟨(List.range 11),[],slmN5,slmM5⟩ ⟨[],[.cells [.len (aD.set (0+(tn v8)) (R6.mk (rd aD (0+(tn v8))).a (rd aD (0+(tn v8))).b (rd aD (0+(tn v8))).c (rd aD (0+(tn v8))).d (rd aD (0+(tn v8))).e v2)).length,.keep,.keep,.keep],.rowed 6 (aD.set (0+(tn v8)) (R6.mk (rd aD (0+(tn v8))).a (rd aD (0+(tn v8))).b (rd aD (0+(tn v8))).c (rd aD (0+(tn v8))).d (rd aD (0+(tn v8))).e v2)).length (Zz (aD.set (0+(tn v8)) (R6.mk (rd aD (0+(tn v8))).a (rd aD (0+(tn v8))).b (rd aD (0+(tn v8))).c (rd aD (0+(tn v8))).d (rd aD (0+(tn v8))).e v2))),.keep,.keep,.keep,.keep,.keep,.keep,.keep,.keep,.keep],[]⟩ [true] (pp (xL aD.length (aD.set (0+(tn v8)) (R6.mk (rd aD (0+(tn v8))).a (rd aD (0+(tn v8))).b (rd aD (0+(tn v8))).c (rd aD (0+(tn v8))).d (rd aD (0+(tn v8))).e v2)).length) (pp (xL aD.length (aD.set (0+(tn v8)) (R6.mk (rd aD (0+(tn v8))).a (rd aD (0+(tn v8))).b (rd aD (0+(tn v8))).c (rd aD (0+(tn v8))).d (rd aD (0+(tn v8))).e v2)).length) (pp (xS aD.length (Xe (Zz aD) (0+(tn v8)) 5 [(ii v2)]) (Zz (aD.set (0+(tn v8)) (R6.mk (rd aD (0+(tn v8))).a (rd aD (0+(tn v8))).b (rd aD (0+(tn v8))).c (rd aD (0+(tn v8))).d (rd aD (0+(tn v8))).e v2)))) (pp (pp (xF (Xe (Zz aD) (0+(tn v8)) 5 [(ii v2)])) (fl bN nn)) (ww o1 (ww o0 (tt k0 nn))))))))))) (fun k0=>(sl Jx 36 [] ⟨[2,3,4,5,0,6,7,8,9,1],[],u1x,u1z⟩ ⟨[],[],[]⟩ (bl 2 0) (pp (fl bN (fl aD nn)) (tt k0 nn)))))
theorem x4d (l0:List R6):Xk prog (Zy prog 47) (slmC l0) (Ze prog 47 [(.dat l0.length (Zz l0))] true []) (y0r l0):=(lb (fun k0=>(lr 15 47 [1,0,1,0,0] 1 15 [(2,.nils),(3,(ii 4))] (sl Jx 18 [] ⟨[],[],[some [2,3]],[]⟩ ⟨[],[],[]⟩ [true] (tt k0 nn)))) (fun k0=>(sl Jx 41 [] ⟨[],[],slmN0,slmM0⟩ ⟨[],[],[]⟩ [false] (tt k0 nn))))
theorem v2e (l0:List R6) (n:Nat) (vs:List AVal) (h:Yk (Xx l0) n (y0r l0)=.ret vs):Kv prog (Zy prog 47) (Ze prog 47 [(.dat l0.length (Zz l0))] true []) vs:=by have:=Zr (w1u l0) n _ (x4d l0);rwa [h] at this
end Go.Am
namespace Go.Am
open Go.Proofs.Tryz
open Go.Proofs Go.Sort Go.Shelf Go.RowKit Go.Lib
def w9u (x y z:Int):Bool:=decide (z5n (z5n x y) z≥(-1000000))&&decide (z5o (z5o x y) z≤1000000)
theorem u5g (x y z:Int): ∃N,Yk (x6z x y z) N (y1t x y z)=.ret [.bool (w9u x y z)]:=⟨0,by
 unfold y1t w9u;cases decide (z5n (z5n x y) z≥(-1000000)) <;> rfl⟩
instance : DecidableEq R7:=Classical.typeDecidableEq _
def y2l (l m:List R7):Bool:=decide (l=m)
def z1n (l m:List R7):Bool:=decide (l.length≤1000000)
def eq7 (r s:R7):Bool:=(r.a == s.a)&&(((r.b == s.b)&&((r.c == s.c)&&((r.d == s.d)&&true)))&&(((r.e == s.e)&&((r.f == s.f)&&((r.g == s.g)&&true)))&&true))
theorem v0g (r s:R7):eq7 r s=true↔r=s:=by obtain ⟨a,b,c,d,e,f,g⟩:=r;obtain ⟨a',b',c',d',e',f',g'⟩:=s;simp [eq7,and_assoc]
theorem u0n (l m:List R7) (hl:l.length≤1000000) (hm:l.length=m.length): ∀(k i:Nat),i+k=l.length→ ∃N,Yk (z5r l m) N (.to (.h0 (i:Int)))=.ret [.bool (decide (l.drop i=m.drop i))]
 | 0,i,h=>by refine ⟨1,?_⟩;rw [Zv,List.drop_eq_nil_of_le (by omega),List.drop_eq_nil_of_le (by omega)];simp (disch:=omega) only [z5r,Yv,cond_false,Zg,decide_true]
 | k+1,i,h=>by
  have hi:i<l.length:=by omega
  obtain ⟨N,hN⟩:=u0n l m hl hm k (i+1) (by omega);refine ⟨N+1,?_⟩;rw [Zv,Ya hi,Ya (show i<m.length by omega)];have e:z5r l m (.h0 (i:Int))=bif !(eq7 (rd l i) (rd m i)) then .ret [.bool false] else .to (.h0 ((i+1:Nat):Int)):=by simp (disch:=omega) only [z5r,eq7,Zt,Yz,Zq,Zx,Zj,Bool.and_true,cond_true,cond_false]
  rw [e];by_cases q:rd l i=rd m i
  ·rw [(v0g _ _).2 q,Bool.not_true,cond_false,hN]
   congr 3
   exact decide_eq_decide.2 ⟨fun h=>by rw [q,h],fun h=>(List.cons.inj h).2⟩
  ·rw [show eq7 (rd l i) (rd m i)=false from Bool.eq_false_iff.2 fun h=>q ((v0g _ _).1 h),Bool.not_false,cond_true,Zg]
   congr 3
   exact (decide_eq_false fun h=>q (List.cons.inj h).1).symm
theorem u6n (l m:List R7) (h:z1n l m=true): ∃N,Yk (z5r l m) N (y1u l m)=.ret [.bool (y2l l m)]:=by
 have hl:l.length≤1000000:=of_decide_eq_true h;unfold y1u;by_cases hm:l.length=m.length
 ·obtain ⟨N,hN⟩:=u0n l m hl hm l.length 0 (Nat.zero_add _);refine ⟨N,?_⟩;rw [show ((l.length:Int) != (m.length:Int))=false by rw [hm];simp,cond_false];exact hN
 ·refine ⟨0,?_⟩;rw [show ((l.length:Int) != (m.length:Int))=true by simp;omega,cond_true,Zg]
  congr 3
  exact (decide_eq_false fun e=>hm (by rw [e])).symm
def slmX :List AVal:=[.nils,.int .i64 8]
def eF (l:List R6):Nat→Nat→Int
 | 0,_=>0
 | k+1,i=>bif v1c l (rd (D6.cuts l) i) then Xg (D6.inn l (rd (D6.cuts l) i)) else eF l k (i+1)
def slmE (l:List R6) (k i:Nat):List AVal:=[.nils,.int .i64 (eF l k i)]
section
variable (l:List R6) (hl:l.length≤400)
include hl
theorem v7m (i:Nat) (out:List R6) (last:List R4) (first fin x x':Int): ∀(k j:Nat) (acc:List R4),j+k=l.length→acc.length≤j→
  ∃n,∀N,Yk (Xx l) (N+n) (.to (.h3 (i:Int) (j:Int) out last first fin ((D6.cuts l).length) (Wx (Yo (D6.ends l))) x x' acc))=Yk (Xx l) N (.to (.h3 (i:Int) (l.length:Int) out last first fin ((D6.cuts l).length) (Wx (Yo (D6.ends l))) x x' (acc++D6.inn (l.drop j) x)))
 | 0,j,acc,h,ha=>by refine ⟨0,fun N=> ?_⟩;rw [List.drop_eq_nil_of_le (by omega),show D6.inn ([]:List R6) x=[] from rfl,List.append_nil,Nat.add_zero,show j=l.length by omega]
 | k+1,j,acc,h,ha=>by
  have hj:j<l.length:=by omega
  obtain ⟨n,hn⟩:=v7m i out last first fin x x' k (j+1) (acc++D6.inn [rd l j] x) (by omega) (by have:=D6.inn_length [rd l j] x;simp only [List.length_append,List.length_singleton] at*;omega)
  refine ⟨n+1,fun N=> ?_⟩;have e:D6.inn (l.drop j) x=D6.inn [rd l j] x++D6.inn (l.drop (j+1)) x:=by rw [Ya hj,←D6.inn_append];rfl
  rw [e,←Nat.add_assoc,Zv,←List.append_assoc,←hn N];by_cases h1:D6.lo (rd l j)≤x
  ·by_cases h2:x<D6.hi (rd l j)
   ·rw [D6.inn_t _ _ h1 h2];simp only [D6] at h1 h2 ⊢;simp (disch:=omega) only [Xx,Xn,Zb,Zk,Zt,Yz,Yb,Yu,Yq,Zh,Zq,Zx,Yp,Zj,Nat.zero_add,decide_true,Bool.and_true,Bool.true_and,cond_true,cond_false]
   ·rw [D6.inn_f2 _ _ h2,List.append_nil];simp only [D6] at h1 h2;simp (disch:=omega) only [Xx,Xn,Yv,Zb,Zk,Zt,Yz,Yb,Yu,Yq,Zh,Zq,Zx,Yp,Zj,Nat.zero_add,decide_true,Bool.and_true,Bool.true_and,cond_true,cond_false]
  ·rw [D6.inn_f1 _ _ h1,List.append_nil];simp only [D6] at h1;simp (disch:=omega) only [Xx,x7g,Zb,Zk,Zt,Yz,Yb,Yu,Yq,Zh,Zq,Zx,Yp,Zj,Nat.zero_add,decide_true,Bool.and_true,Bool.true_and,cond_true,cond_false]
theorem v7l (i:Nat) (hi:i≤1000) (x x':Int) (s last:List R4) (first:Int) (inn:List R4) (hs:s.length≤1000): ∀(k j:Nat) (out:List R6),j+k=s.length→out.length≤10000000+j→
  ∃n,∀N,Yk (Xx l) (N+n) (.to (.h4 x x' s (s.length:Int) (j:Int) s (i:Int) out last first ((D6.cuts l).length) (Wx (Yo (D6.ends l))) inn))=Yk (Xx l) N (.to (.h2 ((i+1:Nat):Int) (out++(s.drop j).map (D6.put x x')) last first x' ((D6.cuts l).length) (Wx (Yo (D6.ends l)))))
 | 0,j,out,h,ho=>by have _u:=hl;refine ⟨1,fun N=> ?_⟩;rw [List.drop_eq_nil_of_le (by omega),Zv];simp (disch:=omega) only [Xx,Yv,Zq,Zx,cond_false,List.map_nil,List.append_nil]
 | k+1,j,out,h,ho=>by
  obtain ⟨n,hn⟩:=v7l i hi x x' s last first inn hs k (j+1) (out++[D6.put x x' (rd s j)]) (by omega) (by simp;omega)
  refine ⟨n+1,fun N=> ?_⟩;have:=hn N;rw [Ya (show j<s.length by omega),List.map_cons,←Nat.add_assoc,Zv];simp (disch:=omega) only [Xx,Zb,Zk,Zt,Yz,Yb,Yu,Yq,Zh,Zq,Zx,Yp,Zj,Nat.zero_add,decide_true,Bool.and_true,Bool.true_and,cond_true,cond_false];rw [List.append_assoc] at this;exact this
theorem v7k (i:Nat) (hi:i≤1000) (x x' fin:Int) (s last:List R4) (first:Int) (inn:List R4): ∀(k j:Nat) (out:List R6),j+k=out.length→out.length≤10000000→
  ∃n,∀N,Yk (Xx l) (N+n) (.to (.h5 x' (j:Int) x s (i:Int) out last first fin ((D6.cuts l).length) (Wx (Yo (D6.ends l))) inn))=Yk (Xx l) N (.to (.h2 ((i+1:Nat):Int) (D6.grow out j x') last first x' ((D6.cuts l).length) (Wx (Yo (D6.ends l)))))
 | 0,j,out,h,ho=>by have _u:=hl;refine ⟨1,fun N=> ?_⟩;rw [D6.grow_nil _ _ _ (by omega),Zv];simp (disch:=omega) only [Xx,Yv,Zq,Zx,cond_false]
 | k+1,j,out,h,ho=>by
  obtain ⟨n,hn⟩:=v7k i hi x x' fin s last first inn k (j+1) (out.set j (D6.ext x' (rd out j))) (by simp;omega) (by simpa using ho)
  refine ⟨n+1,fun N=> ?_⟩;have:=hn N;rw [D6.grow_set out j _ (by omega)] at this;rw [←Nat.add_assoc,Zv];simp (disch:=omega) only [Xx,Zb,Zk,Zt,Yz,Yb,Yu,Yq,Zh,Zq,Zx,Yp,Zj,Nat.zero_add,decide_true,Bool.and_true,Bool.true_and,cond_true,cond_false];exact this
theorem w5y : ∀(k i:Nat) (s:Sw R6 R4),k=(D6.cuts l).length - 1 - i→i≤(D6.cuts l).length →s.out.length≤i*1000→s.last.length≤1000→s.first≤s.out.length→
  ∃n,Yk (Xx l) n (.to (.h2 ((i+1:Nat):Int) s.out s.last (s.first:Int) s.fin ((D6.cuts l).length) (Wx (Yo (D6.ends l)))))=.ret ((bif okF l k i then Kg (D6.go l k i s).out else slmE l k i))
 | 0,i,s,h,hi,ho,hla,hf=>by
  have hc:=D6.cuts_length l;refine ⟨1,?_⟩;rw [Zv,show D6.go l 0 i s=s from rfl,show okF l 0 i=true from rfl,cond_true];unfold Kg;by_cases q:(s.out.length:Int)>400
  ·simp (disch:=omega) only [Xx,Yv,Yi,cond_true,cond_false,Zg]
  ·simp (disch:=omega) only [Xx,Zb,Yv,Xj,cond_true,cond_false,Zg]
 | k +1,i,s,h,hi,ho,hla,hf=>by
  have hc:=D6.cuts_length l;have hi1:i+1<(D6.cuts l).length :=by omega
  have hpl:(Wx (Yo (D6.ends l))).length =2*l.length:=by rw [Uu,Wz,D6.ends_length]
  have r0:rd (Wx (Yo (D6.ends l))) i=rd (D6.cuts l) i:=z3f _ _ (by show i<(D6.cuts l).length;omega);have r1:rd (Wx (Yo (D6.ends l))) (i+1)=rd (D6.cuts l) (i+1):=z3f _ _ (by show i+1<(D6.cuts l).length;omega);have hbig:i*1000≤1000*1000:=Nat.mul_le_mul_right _ (by omega);have hsl:=u1a l (rd (D6.cuts l) i);have hsd:D6.sec l (rd (D6.cuts l) i)=Za (D6.inn l (rd (D6.cuts l) i)):=rfl;obtain ⟨n3,h3⟩:=v7m l hl (i+1) s.out s.last (s.first:Int) s.fin (rd (D6.cuts l) i) (rd (D6.cuts l) (i+1)) l.length 0 [] (Nat.zero_add _) (Nat.le_refl _);simp only [List.drop_zero,List.nil_append,z5w] at h3;have w1:Ux (D6.inn l (rd (D6.cuts l) i))=true:=rfl;have w2:Wm s.last (Za (D6.inn l (rd (D6.cuts l) i)))=true:=decide_eq_true (by omega);have ol:=D6.one_length l (rd (D6.cuts l) i) (rd (D6.cuts l) (i+1)) s;have st0: ∀N,Yk (Xx l) (N+n3+1) (.to (.h2 ((i+1:Nat):Int) s.out s.last (s.first:Int) s.fin ((D6.cuts l).length) (Wx (Yo (D6.ends l)))))=Yk (Xx l) N (.to (.h3 ((i+1:Nat):Int) (l.length:Int) s.out s.last (s.first:Int) s.fin ((D6.cuts l).length) (Wx (Yo (D6.ends l))) (rd (D6.cuts l) i) (rd (D6.cuts l) (i+1)) (D6.inn l (rd (D6.cuts l) i)))):=fun N=>by
   rw [←h3 N,Zv];have e1:IntKind.wrap .i64 (((i+1:Nat):Int) - 1)=(i:Int):=by rw [Zs];exact Zq (by omega)
   simp (disch:=omega) only [Xx,e1,r0,r1,Zb,Zk,Zt,Yz,Yb,Yu,Yq,Zh,Zq,Zx,Yp,Zj,Nat.zero_add,decide_true,Bool.and_true,Bool.true_and,cond_true,cond_false]
  rcases Yn (v1c l (rd (D6.cuts l) i)) with q0 | q0
  ·refine ⟨1+n3+1,?_⟩;rw [st0 1,Zv];simp only [okF,slmE,eF,q0,cond_true,cond_false];have q0':(Xg (D6.inn l (rd (D6.cuts l) i)) != 0)=true:=q0;simp (disch:=omega) only [Xx,Zb,Zk,Yv,q0',w1,cond_true,cond_false,Zg]
  have q0':(Xg (D6.inn l (rd (D6.cuts l) i)) != 0)=false:=q0;rcases Yn (decide (0<(D6.sec l (rd (D6.cuts l) i)).length)&&((s.fin == rd (D6.cuts l) i)&&D6.same s.last (D6.sec l (rd (D6.cuts l) i)))) with q | q
  ·obtain ⟨n5,h5⟩:=v7k l hl (i+1) (by omega) (rd (D6.cuts l) i) (rd (D6.cuts l) (i+1)) s.fin (D6.sec l (rd (D6.cuts l) i)) s.last (s.first:Int) (D6.inn l (rd (D6.cuts l) i)) (s.out.length - s.first) s.first s.out (by omega) (by omega)
   have e:D6.one l (rd (D6.cuts l) i) (rd (D6.cuts l) (i+1)) s=⟨D6.grow s.out s.first (rd (D6.cuts l) (i+1)),s.last,s.first,rd (D6.cuts l) (i+1)⟩:=by unfold Dim.one;rw [q];rfl
   obtain ⟨n0,h0⟩:=w5y k (i+1) (D6.one l (rd (D6.cuts l) i) (rd (D6.cuts l) (i+1)) s) (by omega) (by omega) (by omega) (by rw [e];exact hla) (by rw [e];simpa [Dim.grow_length] using hf);refine ⟨n0+n5+1+n3+1,?_⟩;rw [st0 (n0+n5+1),Zv];simp only [Bool.and_eq_true,decide_eq_true_eq] at q;obtain ⟨q1,q2,q3⟩:=q;have q3':Uo s.last (Za (D6.inn l (rd (D6.cuts l) i)))=true:=q3;rw [hsd] at q1;simp (disch:=omega) only [Xx,Zb,Zk,Yv,Yi,q0',q2,q3',w1,w2,cond_true,cond_false];rw [←hsd,h5 n0];simp only [okF,slmE,eF,q0,cond_false];simp only [Dim.go];rw [e] at h0 ⊢;exact h0
  ·obtain ⟨n4,h4⟩:=v7l l hl (i+1) (by omega) (rd (D6.cuts l) i) (rd (D6.cuts l) (i+1)) (D6.sec l (rd (D6.cuts l) i)) (D6.sec l (rd (D6.cuts l) i)) (s.out.length:Int) (D6.inn l (rd (D6.cuts l) i)) hsl (D6.sec l (rd (D6.cuts l) i)).length 0 s.out (Nat.zero_add _) (by omega);simp only [List.drop_zero,z5w] at h4;have e:D6.one l (rd (D6.cuts l) i) (rd (D6.cuts l) (i+1)) s=⟨s.out++(D6.sec l (rd (D6.cuts l) i)).map (D6.put (rd (D6.cuts l) i) (rd (D6.cuts l) (i+1))),D6.sec l (rd (D6.cuts l) i),s.out.length,rd (D6.cuts l) (i+1)⟩:=by unfold Dim.one;rw [q];rfl
   obtain ⟨n0,h0⟩:=w5y k (i+1) (D6.one l (rd (D6.cuts l) i) (rd (D6.cuts l) (i+1)) s) (by omega) (by omega) (by omega) (by rw [e];exact hsl) (by rw [e];simp);have hg:Yk (Xx l) 1 (.to (.h3 ((i+1:Nat):Int) (l.length:Int) s.out s.last (s.first:Int) s.fin ((D6.cuts l).length) (Wx (Yo (D6.ends l))) (rd (D6.cuts l) i) (rd (D6.cuts l) (i+1)) (D6.inn l (rd (D6.cuts l) i))))=.to (.h4 (rd (D6.cuts l) i) (rd (D6.cuts l) (i+1)) (D6.sec l (rd (D6.cuts l) i)) ((D6.sec l (rd (D6.cuts l) i)).length :Int) 0 (D6.sec l (rd (D6.cuts l) i)) ((i+1:Nat):Int) s.out (D6.sec l (rd (D6.cuts l) i)) (s.out.length:Int) ((D6.cuts l).length) (Wx (Yo (D6.ends l))) (D6.inn l (rd (D6.cuts l) i))):=by
    rw [show (1:Nat)=0+1 from rfl,Zv];rw [hsd] at q ⊢;have e3:D6.same s.last (Za (D6.inn l (rd (D6.cuts l) i)))=Uo s.last (Za (D6.inn l (rd (D6.cuts l) i))):=rfl;rw [e3] at q;by_cases q1:0<(Za (D6.inn l (rd (D6.cuts l) i))).length
    ·rw [decide_eq_true q1,Bool.true_and] at q;rcases Yn (s.fin == rd (D6.cuts l) i) with q2 | q2
     ·rw [q2,Bool.true_and] at q;simp (disch:=omega) only [Xx,Zb,Zk,Yv,Yi,q0',q2,q,w1,w2,cond_true,cond_false];rfl
     ·simp (disch:=omega) only [Xx,Zb,Zk,Yv,Yi,q0',q2,w1,w2,cond_true,cond_false];rfl
    ·simp (disch:=omega) only [Xx,Zb,Zk,Yv,Xj,q0',w1,w2,cond_true,cond_false];rfl
   refine ⟨n0+n4+1+n3+1,?_⟩;rw [st0 (n0+n4+1),z7a _ (n0+n4) 1,hg,h4 n0];simp only [okF,slmE,eF,q0,cond_false];simp only [Dim.go];rw [e] at h0 ⊢;exact h0
theorem v7n : ∀(k i:Nat) (acc:List Int),i+k=l.length→acc=D6.ends (l.take i)→ ∃n,Yk (Xx l) n (.to (.h1 (i:Int) acc))=.ret ((bif okF l ((D6.cuts l).length - 1) 0 then Kg (D6.go l ((D6.cuts l).length - 1) 0 ⟨[],[],0,0⟩).out else slmE l ((D6.cuts l).length - 1) 0))
 | 0,i,acc,h,ha=>by
  have e:acc=D6.ends l:=by rw [ha,List.take_of_length_le (by omega)]
  subst e;have hle:=D6.ends_length l;obtain ⟨n,hn⟩:=w5y l hl ((D6.cuts l).length - 1) 0 ⟨[],[],0,0⟩ (by omega) (Nat.zero_le _) (Nat.zero_le _) (Nat.zero_le _) (Nat.zero_le _);refine ⟨n+1,?_⟩;rw [Zv];simp (disch:=omega) only [Xx,Wg,Qk,z8s,Yv,Yu,Yq,decide_true,cond_true,cond_false];exact hn
 | k+1,i,acc,h,ha=>by
  have hle:=D6.ends_length (l.take i);have fG:acc.length≤2*i:=by rw [ha,hle];simp;omega
  obtain ⟨n,hn⟩:=v7n k (i+1) (acc++D6.ends [rd l i]) (by omega) (by
   rw [ha,List.take_add_one];have:l[i]? =some (rd l i):=by rw [Xv (show i<l.length by omega)];exact List.getElem?_eq_getElem _
   rw [this,D6.ends_append];rfl)
  refine ⟨n+1,?_⟩;rw [Zv];simp (disch:=omega) only [Xx,Zb,Zk,Zt,Yz,Yb,Yu,Yq,Zh,Zq,Zx,Yp,Zj,Nat.zero_add,decide_true,Bool.and_true,Bool.true_and,cond_true,cond_false];exact hn
theorem v7o : ∀(k i:Nat),i+k=l.length→(∀s∈l.take i,Qu s=true)→ ∃n,Yk (Xx l) n (.to (.h0 (i:Int)))=.ret (bif l.all Qu then (bif okF l ((D6.cuts l).length - 1) 0 then Kg (D6.go l ((D6.cuts l).length - 1) 0 ⟨[],[],0,0⟩).out else slmE l ((D6.cuts l).length - 1) 0) else slmX)
 | 0,i,h,ht=>by have hv:l.all Qu=true:=List.all_eq_true.2 fun s hs=>ht s (by rw [List.take_of_length_le (by omega)];exact hs);obtain ⟨n,hn⟩:=v7n l hl l.length 0 [] (Nat.zero_add _) rfl;refine ⟨n+1,?_⟩;rw [Zv,hv,cond_true];simp (disch:=omega) only [Xx,Yv,cond_false];exact hn
 | k+1,i,h,ht=>by
  have hi:i<l.length:=by omega
  have hs:Xx l (.h0 (i:Int))=bif Qu (rd l i) then .to (.h0 ((i+1:Nat):Int)) else .ret slmX:=by have e:u1d (rd l i).a (rd l i).b (rd l i).c (rd l i).d (rd l i).e (rd l i).f =Qu (rd l i):=rfl;simp (disch:=omega) only [Xx,e,z5x,x2s,x2t,Yz,Zq,Zx,Zj,Bool.and_true,cond_true,cond_false];rfl
  rcases Yn (Qu (rd l i)) with q | q
  ·obtain ⟨n,hn⟩:=v7o k (i+1) (by omega) (fun s hs=>by
    rw [List.take_add_one] at hs;have e:l[i]? =some (rd l i):=by rw [Xv hi];exact List.getElem?_eq_getElem _
    rw [e] at hs;simp only [Option.toList_some,List.mem_append,List.mem_singleton] at hs;rcases hs with hs | rfl
    ·exact ht s hs
    ·exact q)
   refine ⟨n+1,?_⟩;rw [Zv,hs,q,cond_true];exact hn
  ·have hv:l.all Qu=false:=Bool.eq_false_iff.2 fun e=>by have:=List.all_eq_true.1 e (rd l i) (by rw [Xv hi];exact List.getElem_mem hi);rw [this] at q;cases q
   refine ⟨1,?_⟩;rw [Zv,hv,cond_false,hs,q,cond_false,Zg]
end
theorem v6g {l:List R6}: ∀(k i:Nat),okF l k i=false→(eF l k i != 0)=true
 | 0,i,h=>by cases h
 | k+1,i,h=>by
  unfold okF at h;unfold eF;rcases Yn (v1c l (rd (D6.cuts l) i)) with q | q
  ·rw [q,cond_true];exact q
  ·rw [q,cond_false] at h ⊢;exact v6g k (i+1) h
def Jq (l:List R6):Int:=bif decide (400<l.length) then 4 else bif l.all Qu then (bif okF l ((D6.cuts l).length - 1) 0 then y7u (D6.out l).length else eF l ((D6.cuts l).length - 1) 0) else 8
def Xq (l:List R6):List R6:=y9s (Jq l) (D6.out l)
def z6b (l:List R6):Bool:=true
theorem u1v (l:List R6) (h:z6b l=true): ∃n,Yk (Xx l) n (y0r l)=.ret (y2q (Jq l) (D6.out l)):=by
 unfold y0r Jq;by_cases h:400<l.length
 ·refine ⟨0,?_⟩;rw [decide_eq_true h,Yi (show (l.length:Int)>400 by omega)];rfl
 ·obtain ⟨n,hn⟩:=v7o l (by omega) l.length 0 (Nat.zero_add _) (fun s hs=>by simp at hs);refine ⟨n,?_⟩;rw [decide_eq_false h,Xj (show¬(l.length:Int)>400 by omega),cond_false,cond_false];rw [z5w] at hn;rw [hn];rcases Yn (l.all Qu) with q | q
  ·rw [q,cond_true,cond_true];rcases Yn (okF l ((D6.cuts l).length - 1) 0) with q2 | q2
   ·rw [q2,cond_true,cond_true,z7n];rfl
   ·rw [q2,cond_false,cond_false,z1s _ (v6g _ _ q2)];rfl
  ·rw [q];rfl
def fSlm :List AVal→Option (AVal×Bool)
 | [a0]=>match asL R6 a0 with
  | some (L0,g0,n0)=>some (.tup [.dat (Xq L0).length (Zz (Xq L0)),.int .i64 (Jq L0)],isT R6 n0 g0&&(z6b L0))
  | _=>none
 | _=>none
theorem u5o {S:Specs} (hS:Zu prog S):Zu prog (S.with w8c fSlm):=by
 refine w4x hS (by kernel_rfl) fun args v h=> ?_;unfold fSlm at h;split at h
 ·rename_i a0;split at h
  ·rename_i L0 g0 n0 e0;simp only [Option.some.injEq,Prod.mk.injEq,Bool.and_eq_true] at h;obtain ⟨rfl,ho0,hw⟩:=h;obtain ⟨N,hN⟩:=u1v L0 hw;exact ⟨_,_,(.cons (asL_le e0 ho0) .nil),z1r _ _,v2e L0 N _ hN,3,z5e _ _⟩
  ·cases h
 ·cases h
def fFin :List AVal→Option (AVal×Bool)
 | [.agg [.int .i64 aT,.int .i64 aU,.int .i64 aV]]=>some (.bool (w9u aT aU aV),true)
 | _=>none
theorem u6i {S:Specs} (hS:Zu prog S):Zu prog (S.with v9o fFin):=by
 refine z3s hS (by kernel_rfl) fun args v h=> ?_;unfold fFin at h;split at h
 ·rename_i aT aU aV;simp only [Option.some.injEq,Prod.mk.injEq,and_true] at h;subst h;obtain ⟨N,hN⟩:=u5g aT aU aV;exact ⟨_,_,(.cons (.refl _) .nil),rfl,v5v aT aU aV N _ hN,3,rfl⟩
 ·cases h
def fEqq :List AVal→Option (AVal×Bool)
 | [a0,a1]=>match asL R7 a0,asL R7 a1 with
  | some (L0,g0,n0),some (L1,g1,n1)=>some (.bool (y2l L0 L1),isT R7 n0 g0&&(isT R7 n1 g1&&(z1n L0 L1)))
  | _,_=>none
 | _=>none
theorem u6j {S:Specs} (hS:Zu prog S):Zu prog (S.with nEq7 fEqq):=by
 refine z3s hS (by kernel_rfl) fun args v h=> ?_;unfold fEqq at h;split at h
 ·rename_i a0 a1;split at h
  ·rename_i L0 g0 n0 L1 g1 n1 e0 e1;simp only [Option.some.injEq,Prod.mk.injEq,Bool.and_eq_true] at h;obtain ⟨rfl,ho0,ho1,hw⟩:=h;obtain ⟨N,hN⟩:=u6n L0 L1 hw;exact ⟨_,_,(.cons (asL_le e0 ho0) (.cons (asL_le e1 ho1) .nil)),rfl,v6b L0 L1 N _ hN,3,rfl⟩
  ·cases h
 ·cases h
def Mg :Specs:=(((Me.with v9o fFin).with nEq7 fEqq).with w8c fSlm)
theorem z2m :Zu prog Mg:=(u5o (u6j (u6i Jx)))
end Go.Am
namespace Go.Am
open Go.Proofs.Tryz
open Go.Proofs
-- h0: index into an array (choices [true, false, false, false, false, false, false])
inductive mckS where
 | h0 (v14:Int)
def mckC (l0:List R7):mckS→Cfg
 | .h0 v14=>⟨⟨70,0,true⟩,none,(Zd prog 24 [1,1,1,0,1,0,0] 0),none,(Zy prog 3),⟨Yc [(3,(.ptr 0 0)),(12,(.dat l0.length (Zz l0))),(13,(ii (l0.length:Int))),(14,(ii v14))],Un [⟨[(.fn 105 []),(.fn 106 []),(.fn 107 []),(.fn 108 []),(.fn 109 []),(.fn 110 []),(.fn 111 []),(.fn 112 []),(.fn 113 [])],85,none⟩] 0,1,[],true⟩,[],.leaf⟩
def v4u :List (Option (List Nat)):=[some [3,12,13,14]]
def v4v :List (Option (List Nat)):=[]
def z5l (l0:List R7):mckS→Xo mckS
 | .h0 v14=>(bif (decide (v14<(l0.length:Int))) then (bif ((decide (0≤v14∧v14<(l0.length:Int)))&&true) then (bif (decide ((rd l0 v14.toNat).a >5)) then (.ret [(.int .i64 8)]) else (bif (!(w9u (rd l0 v14.toNat).b (rd l0 v14.toNat).c (rd l0 v14.toNat).d)) then (.ret [(.int .i64 8)]) else (bif (!(w9u (rd l0 v14.toNat).e (rd l0 v14.toNat).f (rd l0 v14.toNat).g)) then (.ret [(.int .i64 8)]) else (bif (decide ((IntKind.wrap IntKind.u8 (Int.tdiv (rd l0 v14.toNat).a 2))=Int.ofNat 0)) then (bif ((rd l0 v14.toNat).b != (rd l0 v14.toNat).e) then (.ret [(.int .i64 8)]) else (bif (decide ((rd l0 v14.toNat).c ≥(rd l0 v14.toNat).f)) then (.ret [(.int .i64 8)]) else (bif (decide ((rd l0 v14.toNat).d ≥(rd l0 v14.toNat).g)) then (.ret [(.int .i64 8)]) else (.to (.h0 (IntKind.wrap .i64 (v14+1))))))) else (bif (decide ((IntKind.wrap IntKind.u8 (Int.tdiv (rd l0 v14.toNat).a 2))=Int.ofNat 1)) then (bif ((rd l0 v14.toNat).c != (rd l0 v14.toNat).f) then (.ret [(.int .i64 8)]) else (bif (decide ((rd l0 v14.toNat).b ≥(rd l0 v14.toNat).e)) then (.ret [(.int .i64 8)]) else (bif (decide ((rd l0 v14.toNat).d ≥(rd l0 v14.toNat).g)) then (.ret [(.int .i64 8)]) else (.to (.h0 (IntKind.wrap .i64 (v14+1))))))) else (bif (decide ((IntKind.wrap IntKind.u8 (Int.tdiv (rd l0 v14.toNat).a 2))=Int.ofNat 2)) then (bif ((rd l0 v14.toNat).d != (rd l0 v14.toNat).g) then (.ret [(.int .i64 8)]) else (bif (decide ((rd l0 v14.toNat).b ≥(rd l0 v14.toNat).e)) then (.ret [(.int .i64 8)]) else (bif (decide ((rd l0 v14.toNat).c ≥(rd l0 v14.toNat).f)) then (.ret [(.int .i64 8)]) else (.to (.h0 (IntKind.wrap .i64 (v14+1))))))) else .stuck)))))) else .stuck) else (.ret [(.int .i64 0)]))
def y1j (l0:List R7):Xo mckS:=(bif (decide ((l0.length:Int)>3000)) then (.ret [(.int .i64 4)]) else (.to (.h0 0)))
theorem w3c (l0:List R7): ∀s,Xk prog (Zy prog 24) (mckC l0) (mckC l0 s) (z5l l0 s)
 | .h0 v14=>(lb (fun k0=>(lo fun aG=>(lb (fun k1=>(lr 70 24 [1,1,1,0,1,0,0,1,1,0,0,1,0,1,0,0] 1 3 [(2,(ii 8))] (sl z2m 40 [] ⟨[],[],[some [2]],[]⟩ ⟨[],[],[]⟩ (trs 10 []) (tt k1 (ww aG (tt k0 nn)))))) (fun k1=>(lb (fun k2=>(lr 70 24 [1,1,1,0,1,0,0,1,1,0,0,1,0,1,0,0] 1 3 [(2,(ii 8))] (sl z2m 40 [] ⟨[],[],[some [2]],[]⟩ ⟨[],[],[]⟩ (bl 10 993) (tt k2 (tt k1 (ww aG (tt k0 nn))))))) (fun k2=>(lb (fun k3=>(lr 70 24 [1,1,1,0,1,0,0,1,1,0,0,1,0,1,0,0] 1 3 [(2,(ii 8))] (sl z2m 40 [] ⟨[],[],[some [2]],[]⟩ ⟨[],[],[]⟩ (bl 10 513) (tt k3 (tt k2 (tt k1 (ww aG (tt k0 nn)))))))) (fun k3=>(lb (fun k4=>(lb (fun k5=>(lr 70 24 [1,1,1,0,1,0,0,1,1,0,0,1,1,1,1,1,0,0] 1 3 [(2,(ii 8))] (sl z2m 124 [] ⟨[],[],[some [2]],[]⟩ ⟨[],[],[]⟩ (bl 22 4192257) (tt k5 (ww k4 (tt k3 (tt k2 (tt k1 (ww aG (tt k0 nn)))))))))) (fun k5=>(lb (fun k6=>(lr 70 24 [1,1,1,0,1,0,0,1,1,0,0,1,1,1,1,1,0,0] 1 3 [(2,(ii 8))] (sl z2m 124 [] ⟨[],[],[some [2]],[]⟩ ⟨[],[],[]⟩ (bl 22 4128769) (tt k6 (tt k5 (ww k4 (tt k3 (tt k2 (tt k1 (ww aG (tt k0 nn))))))))))) (fun k6=>(lb (fun k7=>(lr 70 24 [1,1,1,0,1,0,0,1,1,0,0,1,1,1,1,1,0,0] 1 3 [(2,(ii 8))] (sl z2m 124 [] ⟨[],[],[some [2]],[]⟩ ⟨[],[],[]⟩ (bl 22 2097153) (tt k7 (tt k6 (tt k5 (ww k4 (tt k3 (tt k2 (tt k1 (ww aG (tt k0 nn)))))))))))) (fun k7=>(sl z2m 127 [] ⟨[0],[],v4u,v4v⟩ ⟨[],[],[]⟩ (bl 22 1) (tt k7 (tt k6 (tt k5 (ww k4 (tt k3 (tt k2 (tt k1 (ww aG (tt k0 nn))))))))))))))))) (fun k4=>(lb (fun k5=>(lb (fun k6=>(lr 70 24 [1,1,1,0,1,0,0,1,1,0,0,1,1,1,1,1,0,0] 1 3 [(2,(ii 8))] (sl z2m 124 [] ⟨[],[],[some [2]],[]⟩ ⟨[],[],[]⟩ (bl 23 8385537) (tt k6 (ww k5 (tt k3 (tt k2 (tt k1 (ww aG (tt k0 nn)))))))))) (fun k6=>(lb (fun k7=>(lr 70 24 [1,1,1,0,1,0,0,1,1,0,0,1,1,1,1,1,0,0] 1 3 [(2,(ii 8))] (sl z2m 124 [] ⟨[],[],[some [2]],[]⟩ ⟨[],[],[]⟩ (bl 23 8258561) (tt k7 (tt k6 (ww k5 (tt k3 (tt k2 (tt k1 (ww aG (tt k0 nn))))))))))) (fun k7=>(lb (fun k8=>(lr 70 24 [1,1,1,0,1,0,0,1,1,0,0,1,1,1,1,1,0,0] 1 3 [(2,(ii 8))] (sl z2m 124 [] ⟨[],[],[some [2]],[]⟩ ⟨[],[],[]⟩ (bl 23 4195329) (tt k8 (tt k7 (tt k6 (ww k5 (tt k3 (tt k2 (tt k1 (ww aG (tt k0 nn)))))))))))) (fun k8=>(sl z2m 127 [] ⟨[0],[],v4u,v4v⟩ ⟨[],[],[]⟩ (bl 23 1025) (tt k8 (tt k7 (tt k6 (ww k5 (tt k3 (tt k2 (tt k1 (ww aG (tt k0 nn))))))))))))))))) (fun k5=>(lb (fun k6=>(lb (fun k7=>(lr 70 24 [1,1,1,0,1,0,0,1,1,0,0,1,1,1,1,1,0,0] 1 3 [(2,(ii 8))] (sl z2m 124 [] ⟨[],[],[some [2]],[]⟩ ⟨[],[],[]⟩ (bl 24 16772097) (tt k7 (ww k6 (tt k3 (tt k2 (tt k1 (ww aG (tt k0 nn)))))))))) (fun k7=>(lb (fun k8=>(lr 70 24 [1,1,1,0,1,0,0,1,1,0,0,1,1,1,1,1,0,0] 1 3 [(2,(ii 8))] (sl z2m 124 [] ⟨[],[],[some [2]],[]⟩ ⟨[],[],[]⟩ (bl 24 16518145) (tt k8 (tt k7 (ww k6 (tt k3 (tt k2 (tt k1 (ww aG (tt k0 nn))))))))))) (fun k8=>(lb (fun k9=>(lr 70 24 [1,1,1,0,1,0,0,1,1,0,0,1,1,1,1,1,0,0] 1 3 [(2,(ii 8))] (sl z2m 124 [] ⟨[],[],[some [2]],[]⟩ ⟨[],[],[]⟩ (bl 24 8391681) (tt k9 (tt k8 (tt k7 (ww k6 (tt k3 (tt k2 (tt k1 (ww aG (tt k0 nn)))))))))))) (fun k9=>(sl z2m 127 [] ⟨[0],[],v4u,v4v⟩ ⟨[],[],[]⟩ (bl 24 3073) (tt k9 (tt k8 (tt k7 (ww k6 (tt k3 (tt k2 (tt k1 (ww aG (tt k0 nn))))))))))))))))) (fun k6=>trivial)))))))))))))) (fun k0=>(lr 70 3 [1,1,1,1,1,1,1,0] 1 3 [(2,(ii 0))] (sl z2m 11 [] ⟨[],[],[some [2]],[]⟩ ⟨[],[],[]⟩ [false] (tt k0 nn)))))
theorem x6a (l0:List R7):Xk prog (Zy prog 24) (mckC l0) (Ze prog 24 [(.dat l0.length (Zz l0))] true []) (y1j l0):=(lb (fun k0=>(lr 70 24 [1,0,1,0,0] 1 3 [(2,(ii 4))] (sl z2m 16 [] ⟨[],[],[some [2]],[]⟩ ⟨[],[],[]⟩ [true] (tt k0 nn)))) (fun k0=>(sl z2m 41 [] ⟨[1],[],v4u,v4v⟩ ⟨[],[],[]⟩ [false] (tt k0 nn))))
theorem v4t (l0:List R7) (n:Nat) (vs:List AVal) (h:Yk (z5l l0) n (y1j l0)=.ret vs):Kv prog (Zy prog 24) (Ze prog 24 [(.dat l0.length (Zz l0))] true []) vs:=by have:=Zr (w3c l0) n _ (x6a l0);rwa [h] at this
end Go.Am
namespace Go.Am
open Go.Proofs.Tryz
open Go.Proofs Go.Sort Go.Shelf Go.RowKit Go.Lib
def w5g (r:R7):Bool:=decide (r.a≤5)&&(w9u r.b r.c r.d&&(w9u r.e r.f r.g&&
 (bif decide (r.a<2) then (r.b == r.e)&&(decide (r.c<r.f)&&decide (r.d<r.g)) else bif decide (r.a<4) then (r.c == r.f)&&(decide (r.b<r.e)&&decide (r.d<r.g)) else (r.d == r.g)&&(decide (r.b<r.e)&&decide (r.c<r.f)))))
def x6b (L:List R7):Int:=bif decide (3000<L.length) then 4 else bif L.all w5g then 0 else 8
def Qc (L:List R7):Bool:=L.all fun r=>decide (0≤r.a)&&decide (r.a<256)
theorem w9l (a b:Int):decide (a≥b)= !decide (a<b):=by
 by_cases h:a<b
 ·rw [decide_eq_true h];exact decide_eq_false (by omega)
 ·rw [decide_eq_false h];exact decide_eq_true (by omega)
theorem u1i {a:Int} (h0:0≤a) (h5:a≤5):IntKind.wrap IntKind.u8 (Int.tdiv a 2)=(if a<2 then 0 else if a<4 then 1 else 2):=by
 have:a=0∨a=1∨a=2∨a=3∨a=4∨a=5:=by omega
 rcases this with rfl | rfl | rfl | rfl | rfl | rfl <;> rfl
theorem u0d (L:List R7) (hl:L.length≤3000) (ho:Qc L=true): ∀(k i:Nat),i+k=L.length→ ∃N,Yk (z5l L) N (.to (.h0 (i:Int)))=.ret [.int .i64 (bif (L.drop i).all w5g then 0 else 8)]
 | 0,i,h=>by refine ⟨1,?_⟩;rw [Zv,List.drop_eq_nil_of_le (by omega)];simp (disch:=omega) only [z5l,Yv,cond_false];rfl
 | k +1,i,h=>by
  have hi:i<L.length:=by omega
  obtain ⟨N,hN⟩:=u0d L hl ho k (i+1) (by omega);have hb:0≤(rd L i).a ∧(rd L i).a <256:=by
   have:=List.all_eq_true.1 ho (rd L i) (by rw [Xv hi];exact List.getElem_mem hi)
   simpa using this
  refine ⟨N+1,?_⟩;rw [Zv,Ya hi,List.all_cons];have e:z5l L (.h0 (i:Int))=bif w5g (rd L i) then .to (.h0 ((i+1:Nat):Int)) else .ret [.int .i64 8]:=by
   have hw:IntKind.wrap .i64 ((i:Int)+1)=((i+1:Nat):Int):=Zq (by omega);simp (disch:=omega) only [z5l,Zt,Yz,hw,Zj,Bool.and_true,cond_true];unfold w5g;by_cases h5:(rd L i).a ≤5
   ·rw [Xj (by omega),Xn h5,cond_false,u1i hb.1 h5];cases w9u (rd L i).b (rd L i).c (rd L i).d <;> cases w9u (rd L i).e (rd L i).f (rd L i).g <;> try rfl
    by_cases h2:(rd L i).a <2
    ·rw [if_pos h2,Zt h2];simp only [w9l,bne];cases ((rd L i).b == (rd L i).e) <;> cases decide ((rd L i).c <(rd L i).f) <;> cases decide ((rd L i).d <(rd L i).g) <;> rfl
    ·rw [if_neg h2,Yv h2];by_cases h4:(rd L i).a <4
     ·rw [if_pos h4,Zt h4];simp only [w9l,bne];cases ((rd L i).c == (rd L i).f) <;> cases decide ((rd L i).b <(rd L i).e) <;> cases decide ((rd L i).d <(rd L i).g) <;> rfl
     ·rw [if_neg h4,Yv h4];simp only [w9l,bne];cases ((rd L i).d == (rd L i).g) <;> cases decide ((rd L i).b <(rd L i).e) <;> cases decide ((rd L i).c <(rd L i).f) <;> rfl
   ·rw [Yi (by omega),x7g h5];rfl
  rw [e];rcases Yn (w5g (rd L i)) with q | q
  ·rw [q,cond_true,Bool.true_and];exact hN
  ·rw [q,cond_false,Bool.false_and];exact Zg _ _ _
theorem u4o (L:List R7) (h:Qc L=true): ∃N,Yk (z5l L) N (y1j L)=.ret [.int .i64 (x6b L)]:=by
 unfold y1j x6b;by_cases g:3000<L.length
 ·refine ⟨0,?_⟩;rw [Yi (by omega),decide_eq_true g];rfl
 ·obtain ⟨N,hN⟩:=u0d L (by omega) h L.length 0 (Nat.zero_add _);refine ⟨N,?_⟩;rw [Xj (by omega),decide_eq_false g];exact hN
def fMck :List AVal→Option (AVal×Bool)
 | [a0]=>match asL R7 a0 with
  | some (L0,g0,n0)=>some (.int .i64 (x6b L0),isT R7 n0 g0&&(Qc L0))
  | _=>none
 | _=>none
theorem u6d {S:Specs} (hS:Zu prog S):Zu prog (S.with w8h fMck):=by
 refine z3s hS (by kernel_rfl) fun args v h=> ?_;unfold fMck at h;split at h
 ·rename_i a0;split at h
  ·rename_i L0 g0 n0 e0;simp only [Option.some.injEq,Prod.mk.injEq,Bool.and_eq_true] at h;obtain ⟨rfl,ho0,hw⟩:=h;obtain ⟨N,hN⟩:=u4o L0 hw;exact ⟨_,_,(.cons (asL_le e0 ho0) .nil),rfl,v4t L0 N _ hN,3,rfl⟩
  ·cases h
 ·cases h
def Mh :Specs:=(Mg.with w8h fMck)
theorem Ka :Zu prog Mh:=(u6d z2m)
end Go.Am
namespace Go.Am
open Go.Proofs.Tryz
open Go.Proofs
-- h2: index into an array (choices [true, true, true, false, false])
inductive msoS where
 | h0 (v6:List Int) (v39:Int)
 | h1 (bM:Nat) (v9:List R6) (v10:List R4) (bJ:Nat) (v59:Int) (v60:Int) (aW:List Int)
 | h2 (bM:Nat) (v9:List R6) (v10:List R4) (v11:Int) (v12:Int) (bJ:Nat) (v59:Int) (v60:Int) (v67:Int) (aW:List Int) (aA:List R4) (aI:List R4)
 | h3 (bM:Nat) (v9:List R6) (v10:List R4) (v11:Int) (v12:Int) (bJ:Nat) (v59:Int) (v60:Int) (v132:List R4) (v133:Int) (v134:Int) (aW:List Int)
def msoC (l0:List R7):msoS→Cfg
 | .h0 v6 v39=>⟨⟨186,0,true⟩,none,(Zd prog 22 [1,1,1,1,0,1,0,0] 0),none,(Zy prog 15),⟨Yc [(0,(.dat l0.length (Zz l0))),(5,(.ptr 0 0)),(6,(.sla 1 1 0 v6.length (.un 1))),(37,(.dat l0.length (Zz l0))),(38,(ii (l0.length:Int))),(39,(ii v39))],Un [⟨[(.fn 111 []),(.fn 112 []),(.fn 113 [])],84,none⟩,⟨rows v6.length (Zz v6),3,some ⟨1,v6.length,(Zz v6)⟩⟩] 0,2,[],true⟩,[],.leaf⟩
 | .h1 bM v9 v10 bJ v59 v60 aW=>⟨⟨186,0,true⟩,none,(Zd prog 22 [1,1,1,1,1,1,1,1,1,0,1,0,0] 0),none,(Zy prog 15),⟨Yc [(0,(.dat l0.length (Zz l0))),(5,(.ptr 0 0)),(6,(.sla 1 1 0 bM (.un 1))),(9,(.sla 2 6 0 v9.length (.un 6))),(10,(.dat v10.length (Zz v10))),(58,(.sla 1 1 0 bJ (.un 1))),(59,(ii v59)),(60,(ii v60))],Un [⟨[(.fn 111 []),(.fn 112 []),(.fn 113 [])],84,none⟩,⟨rows aW.length (Zz aW),3,some ⟨1,aW.length,(Zz aW)⟩⟩,⟨rows v9.length (Zz v9),67,some ⟨6,v9.length,(Zz v9)⟩⟩] 0,3,[],true⟩,[],.leaf⟩
 | .h2 bM v9 v10 v11 v12 bJ v59 v60 v67 aW aA aI=>⟨⟨186,0,true⟩,none,(Zd prog 22 [1,1,1,1,1,1,1,1,1,0,1,0,0,1,1,0,0,1,1,0,1,0,0] 0),none,(Zy prog 15),⟨Yc [(0,(.dat l0.length (Zz l0))),(5,(.ptr 0 0)),(6,(.sla 1 1 0 bM (.un 1))),(9,(.sla 5 6 0 v9.length (.un 6))),(10,(.dat v10.length (Zz v10))),(11,(ii v11)),(12,(ii v12)),(13,(.ptr 2 0)),(58,(.sla 1 1 0 bJ (.un 1))),(59,(ii v59)),(60,(ii v60)),(65,(.dat l0.length (Zz l0))),(66,(ii (l0.length:Int))),(67,(ii v67))],Un [⟨[(.fn 111 []),(.fn 112 []),(.fn 113 [])],84,none⟩,⟨rows aW.length (Zz aW),3,some ⟨1,aW.length,(Zz aW)⟩⟩,⟨[(.sla 3 4 0 aA.length (.un 4)),(.sla 4 4 0 aI.length (.un 4))],101,none⟩,⟨rows aA.length (Zz aA),88,some ⟨4,aA.length,(Zz aA)⟩⟩,⟨rows aI.length (Zz aI),88,some ⟨4,aI.length,(Zz aI)⟩⟩,⟨rows v9.length (Zz v9),67,some ⟨6,v9.length,(Zz v9)⟩⟩] 0,6,[],true⟩,[],.leaf⟩
 | .h3 bM v9 v10 v11 v12 bJ v59 v60 v132 v133 v134 aW=>⟨⟨186,0,true⟩,none,(Zd prog 22 [1,1,1,1,1,1,1,1,1,0,1,0,0,1,1,0,0,1,1,1,1,1,1,1,1,1,1,0,0] 0),none,(Zy prog 15),⟨Yc [(0,(.dat l0.length (Zz l0))),(5,(.ptr 0 0)),(6,(.sla 1 1 0 bM (.un 1))),(9,(.sla 2 6 0 v9.length (.un 6))),(10,(.dat v10.length (Zz v10))),(11,(ii v11)),(12,(ii v12)),(58,(.sla 1 1 0 bJ (.un 1))),(59,(ii v59)),(60,(ii v60)),(132,(.dat v132.length (Zz v132))),(133,(ii v133)),(134,(ii v134))],Un [⟨[(.fn 111 []),(.fn 112 []),(.fn 113 [])],84,none⟩,⟨rows aW.length (Zz aW),3,some ⟨1,aW.length,(Zz aW)⟩⟩,⟨rows v9.length (Zz v9),67,some ⟨6,v9.length,(Zz v9)⟩⟩] 0,3,[],true⟩,[],.leaf⟩
def u3t :List (Option (List Nat)):=[some [0,5,6,37,38,39]]
def u3v :List (Option (List Nat)):=[]
def msoN1 :List (Option (List Nat)):=[some [0,5,6,9,10,58,59,60]]
def msoM1 :List (Option (List Nat)):=[]
def w8k :List (Option (List Nat)):=[some [0,5,6,9,10,11,12,13,58,59,60,65,66,67]]
def w8l :List (Option (List Nat)):=[]
def u3s :List (Option (List Nat)):=[some [0,5,6,9,10,11,12,58,59,60,132,133,134]]
def u3u :List (Option (List Nat)):=[]
def Wu (l0:List R7):msoS→Xo msoS
 | .h0 v6 v39=>(bif (decide (v39<(l0.length:Int))) then (bif ((decide (0≤v39∧v39<(l0.length:Int)))&&true) then (bif ((IntKind.wrap IntKind.u8 (Int.tdiv (rd l0 v39.toNat).a 2)) == 2) then (bif (Nat.beq 1 1&&((decide (0+v6.length=v6.length))&&decide ((v6.length+1+1)*(8+1)≤Us))) then (.to (.h0 (v6++[(rd l0 v39.toNat).d]) (IntKind.wrap .i64 (v39+1)))) else .stuck) else (.to (.h0 v6 (IntKind.wrap .i64 (v39+1))))) else .stuck) else (bif (decide (v6.length<4611686018427387904)) then (bif (decide (v6.length=v6.length)) then (.to (.h1 (w4z (Zc v6.length (cOf (Zz (Yo (Zc v6.length (cOf (Zz v6)))))))) ([]:List R6) ([]:List R4) (w4z (Zc v6.length (cOf (Zz (Yo (Zc v6.length (cOf (Zz v6)))))))) (((w4z (Zc v6.length (cOf (Zz (Yo (Zc v6.length (cOf (Zz v6)))))))):Nat):Int) 0 (Wx (Zc v6.length (cOf (Zz (Yo (Zc v6.length (cOf (Zz v6)))))))))) else .stuck) else .stuck))
 | .h1 bM v9 v10 bJ v59 v60 aW=>(bif (decide (v60<v59)) then (bif ((decide (0≤v60∧v60<((bJ:Nat):Int)))&&true) then (bif (decide ((0+v60.toNat)<aW.length)) then (.to (.h2 bM v9 v10 v60 (rd aW (0+v60.toNat)) bJ v59 v60 0 aW ([]:List R4) ([]:List R4))) else .stuck) else .stuck) else (bif (z6b (cvT v9)) then (bif ((Jq (cvT v9)) != 0) then (.ret [.nils,(.int .i64 28)]) else (bif (z0w (cvT (Xq (cvT v9)))) then (bif ((z0x (cvT (Xq (cvT v9)))) != 0) then (.ret [.nils,(.int .i64 28)]) else (bif (z1n (cvT (Uk (cvT (Xq (cvT v9))))) (cvT l0)) then (bif (!(y2l (cvT (Uk (cvT (Xq (cvT v9))))) (cvT l0))) then (.ret [.nils,(.int .i64 28)]) else (.ret [(.dat (Xq (cvT v9)).length (Zz (Xq (cvT v9)))),(.int .i64 0)])) else .stuck)) else .stuck)) else .stuck))
 | .h2 bM v9 v10 v11 v12 bJ v59 v60 v67 aW aA aI=>(bif (decide (v67<(l0.length:Int))) then (bif ((decide (0≤v67∧v67<(l0.length:Int)))&&true) then (bif ((IntKind.wrap IntKind.u8 (Int.tdiv (rd l0 v67.toNat).a 2)) == 2) then (bif ((rd l0 v67.toNat).d == v12) then (bif (decide ((Int.tmod (rd l0 v67.toNat).a 2)=Int.ofNat 0)) then (bif (Nat.beq 4 4&&((decide (0+aA.length=aA.length))&&decide ((aA.length+1+1)*(32+1)≤Us))) then (.to (.h2 bM v9 v10 v11 v12 bJ v59 v60 (IntKind.wrap .i64 (v67+1)) aW (aA++[(R4.mk (rd l0 v67.toNat).b (rd l0 v67.toNat).c (rd l0 v67.toNat).e (rd l0 v67.toNat).f)]) aI)) else .stuck) else (bif (decide ((Int.tmod (rd l0 v67.toNat).a 2)=Int.ofNat 1)) then (bif (Nat.beq 4 4&&((decide (0+aI.length=aI.length))&&decide ((aI.length+1+1)*(32+1)≤Us))) then (.to (.h2 bM v9 v10 v11 v12 bJ v59 v60 (IntKind.wrap .i64 (v67+1)) aW aA (aI++[(R4.mk (rd l0 v67.toNat).b (rd l0 v67.toNat).c (rd l0 v67.toNat).e (rd l0 v67.toNat).f)]))) else .stuck) else .stuck)) else (.to (.h2 bM v9 v10 v11 v12 bJ v59 v60 (IntKind.wrap .i64 (v67+1)) aW aA aI))) else (.to (.h2 bM v9 v10 v11 v12 bJ v59 v60 (IntKind.wrap .i64 (v67+1)) aW aA aI))) else .stuck) else (bif (Ux (cvT aA)) then (bif (Ux (cvT aI)) then (bif (Kr .d (cvT v10) (cvT (Za (cvT aA)))) then (bif (Kr .u (cvT (Wf .d (cvT v10) (cvT (Za (cvT aA))))) (cvT (Za (cvT aI)))) then (bif ((Xg (cvT aA)) != 0) then (.ret [.nils,(.int .i64 28)]) else (bif ((Xg (cvT aI)) != 0) then (.ret [.nils,(.int .i64 28)]) else (bif ((x1f .d (cvT v10) (cvT (Za (cvT aA)))) != 0) then (.ret [.nils,(.int .i64 28)]) else (bif ((x1f .u (cvT (Wf .d (cvT v10) (cvT (Za (cvT aA))))) (cvT (Za (cvT aI)))) != 0) then (.ret [.nils,(.int .i64 28)]) else (.to (.h3 bM v9 (Wf .u (cvT (Wf .d (cvT v10) (cvT (Za (cvT aA))))) (cvT (Za (cvT aI)))) v11 v12 bJ v59 v60 (Wf .u (cvT (Wf .d (cvT v10) (cvT (Za (cvT aA))))) (cvT (Za (cvT aI)))) (((Wf .u (cvT (Wf .d (cvT v10) (cvT (Za (cvT aA))))) (cvT (Za (cvT aI)))).length :Nat):Int) 0 aW)))))) else .stuck) else .stuck) else .stuck) else .stuck))
 | .h3 bM v9 v10 v11 v12 bJ v59 v60 v132 v133 v134 aW=>(bif (decide (v134<v133)) then (bif ((decide (0≤v134∧v134<(v132.length:Int)))&&true) then (bif (decide ((IntKind.wrap .i64 (v11+1))<((bM:Nat):Int))) then (bif ((decide (0≤(IntKind.wrap .i64 (v11+1))∧(IntKind.wrap .i64 (v11+1))<((bM:Nat):Int)))&&true) then (bif (decide ((0+(Int.toNat (IntKind.wrap .i64 (v11+1))))<aW.length)) then (bif (Nat.beq 6 6&&((decide (0+v9.length=v9.length))&&decide ((v9.length+1+1)*(48+1)≤Us))) then (.to (.h3 bM (v9++[(R6.mk (rd v132 v134.toNat).a (rd v132 v134.toNat).b v12 (rd v132 v134.toNat).c (rd v132 v134.toNat).d (rd aW (0+(Int.toNat (IntKind.wrap .i64 (v11+1))))))]) v10 v11 v12 bJ v59 v60 v132 v133 (IntKind.wrap .i64 (v134+1)) aW)) else .stuck) else .stuck) else .stuck) else (.to (.h3 bM v9 v10 v11 v12 bJ v59 v60 v132 v133 (IntKind.wrap .i64 (v134+1)) aW))) else .stuck) else (.to (.h1 bM v9 v10 bJ v59 (IntKind.wrap .i64 (v60+1)) aW)))
def y1d (l0:List R7):Xo msoS:=(bif (Qc (cvT l0)) then (bif ((x6b (cvT l0)) != 0) then (.ret [.nils,(.int .i64 (x6b (cvT l0)))]) else (.to (.h0 ([]:List Int) 0))) else .stuck)
theorem w2t (l0:List R7): ∀s,Xk prog (Zy prog 22) (msoC l0) (msoC l0 s) (Wu l0 s)
 | .h0 v6 v39=>(lb (fun k0=>(lo fun aG=>(lb (fun k1=>(lo fun o0=>(sl Ka 39 [] ⟨[0,4],[],u3t,u3v⟩ ⟨[(6,.len (v6++[(rd l0 (tn v39)).d]).length)],[.keep,.rowed 1 (v6++[(rd l0 (tn v39)).d]).length (Zz (v6++[(rd l0 (tn v39)).d]))],[]⟩ (bl 2 3) (pp (xL (v6.length+1) (v6++[(rd l0 (tn v39)).d]).length) (pp (xL (v6.length+1) (v6++[(rd l0 (tn v39)).d]).length) (pp (xS (v6.length+1) (Zi (Zz v6) 0 v6.length 1 [(ii (rd l0 (tn v39)).d)]) (Zz (v6++[(rd l0 (tn v39)).d]))) (pp (pp (xF (Zi (Zz v6) 0 v6.length 1 [(ii (rd l0 (tn v39)).d)])) nn) (ww o0 (tt k1 (ww aG (tt k0 nn))))))))))) (fun k1=>(sl Ka 31 [] ⟨[0,1],[],u3t,u3v⟩ ⟨[],[],[]⟩ (bl 2 1) (pp (fl v6 nn) (tt k1 (ww aG (tt k0 nn))))))))) (fun k0=>(lo fun o0=>(lo fun o1=>(sl Ka 35 [(67,6,Zz ([]:List R6))] ⟨[0,1,2],[],msoN1,msoM1⟩ ⟨[(9,.grow 2 6),(10,.list 0 (Zz ([]:List R4)))],[.keep,.rowed 1 (Wx (Zc v6.length (cOf (Zz (Yo (Zc v6.length (cOf (Zz v6)))))))).length (Zz (Wx (Zc v6.length (cOf (Zz (Yo (Zc v6.length (cOf (Zz v6))))))))),.keep],[]⟩ [false] (pp (xL v6.length (Wx (Zc v6.length (cOf (Zz (Yo (Zc v6.length (cOf (Zz v6)))))))).length (by first | exact z1a _ _ | exact Wo rfl)) (pp (xS v6.length (Zz (Wx (Zc v6.length (cOf (Zz (Yo (Zc v6.length (cOf (Zz v6))))))))) (Zz (Wx (Zc v6.length (cOf (Zz (Yo (Zc v6.length (cOf (Zz v6)))))))))) (pp (fl (Wx (Zc v6.length (cOf (Zz (Yo (Zc v6.length (cOf (Zz v6)))))))) (fl ([]:List R6) nn)) (pp (pp (xG (Nat.beq 1 1)) (pp (xG (Nat.beq 1 1)) (pp (xG (Nat.beq 0 0)) (pp (xG (decide (v6.length=v6.length))) (pp (xG (isI (Zz (Yo (Zc v6.length (cOf (Zz v6))))))) (xG (decide (v6.length<4611686018427387904)))))))) (pp (pp (xG (Nat.beq 1 1)) (pp (xG (Nat.beq 1 1)) (pp (xG (Nat.beq 0 0)) (pp (xG (decide (v6.length=v6.length))) (pp (xG (isI (Zz v6))) (xG (decide (v6.length<4611686018427387904)))))))) (tt k0 nn)))))))))))
 | .h1 bM v9 v10 bJ v59 v60 aW=>(lb (fun k0=>(lo fun o0=>(lo fun o1=>(sl Ka 30 [(88,4,Zz ([]:List R4)),(88,4,Zz ([]:List R4))] ⟨[0,1,3,4,5,2],[],w8k,w8l⟩ ⟨[],[.keep,.keep,.cells [.grow 3 4,.grow 4 4],.keep,.keep,.keep],[]⟩ [true] (pp (fl aW (fl ([]:List R4) (fl ([]:List R4) (fl v9 nn)))) (ww o1 (ww o0 (tt k0 nn)))))))) (fun k0=>(Wh (sl Ka (C':=⟨⟨186,0,true⟩,(Ui prog 22 [1,1,1,1,1,1,1,1,1,1,0] 1),(Zd prog 22 [1,1,1,1,1,1,1,1,1,1,0] 1),none,(Zy prog 15),⟨Yc [(0,(.dat l0.length (Zz l0))),(166,(.dat v9.length (Zz v9)))],Un [] 0,0,[],true⟩,[],.leaf⟩) 10 [] ⟨[],[2],[some [0,166]],[]⟩ ⟨[(166,.frz v9.length v9.length (Zz v9) (Zz v9))],[],[]⟩ [false] (pp (xZ (z5p 6 6 0 v9.length v9.length (Zz v9)) v9.length (Zz v9)) (pp (xL v9.length v9.length) (pp (xS v9.length (Zz v9) (Zz v9)) (pp (fl v9 nn) (tt k0 nn)))))) (lo fun aG=>(lb (fun k1=>(lr 186 22 [1,1,1,1,1,1,1,1,1,1,1,0,1,0,0] 1 15 [(2,.nils),(3,(ii 28))] (sl Ka 19 [] ⟨[],[],[some [2,3]],[]⟩ ⟨[],[],[]⟩ [true] (tt k1 (pp (pp (xr v9) (xw aG)) nn))))) (fun k1=>(lo fun bS=>(lb (fun k2=>(lr 186 22 [1,1,1,1,1,1,1,1,1,1,1,1,0,1,1,0,0] 1 15 [(2,.nils),(3,(ii 28))] (sl Ka 43 [] ⟨[],[],[some [2,3]],[]⟩ ⟨[],[],[]⟩ (bl 6 62) (tt k2 (pp (pp (xI R6 (Xq (cvT v9)).length (Zz (Xq (cvT v9)))) (xw bS)) (tt k1 (pp (pp (xr v9) (xw aG)) nn))))))) (fun k2=>(lo fun cG=>(lb (fun k3=>(lr 186 22 [1,1,1,1,1,1,1,1,1,1,1,1,0,1,1,0,0] 1 15 [(2,.nils),(3,(ii 28))] (sl Ka 43 [] ⟨[],[],[some [2,3]],[]⟩ ⟨[],[],[]⟩ (bl 6 32) (tt k3 (pp (pp (xI R7 (Uk (cvT (Xq (cvT v9)))).length (Zz (Uk (cvT (Xq (cvT v9)))))) (pp (xr l0) (xw cG))) (tt k2 (pp (pp (xI R6 (Xq (cvT v9)).length (Zz (Xq (cvT v9)))) (xw bS)) (tt k1 (pp (pp (xr v9) (xw aG)) nn))))))))) (fun k3=>(lr 186 3 [1,1,1,1,1,1,1,0] 1 15 [(2,(.dat (Xq (cvT v9)).length (Zz (Xq (cvT v9))))),(3,(ii 0))] (sl Ka 45 [] ⟨[],[],[some [2,3]],[]⟩ ⟨[],[],[]⟩ (bl 6 0) (tt k3 (pp (pp (xI R7 (Uk (cvT (Xq (cvT v9)))).length (Zz (Uk (cvT (Xq (cvT v9)))))) (pp (xr l0) (xw cG))) (tt k2 (pp (pp (xI R6 (Xq (cvT v9)).length (Zz (Xq (cvT v9)))) (xw bS)) (tt k1 (pp (pp (xr v9) (xw aG)) nn))))))))))))))))))))
 | .h2 bM v9 v10 v11 v12 bJ v59 v60 v67 aW aA aI=>(lb (fun k0=>(lo fun aG=>(lb (fun k1=>(lb (fun k2=>(lb (fun k3=>(lo fun o0=>(sl Ka 38 [] ⟨[0,1,2,14,4,5],[],w8k,w8l⟩ ⟨[],[.keep,.keep,.cells [.len (aA++[(R4.mk (rd l0 (tn v67)).b (rd l0 (tn v67)).c (rd l0 (tn v67)).e (rd l0 (tn v67)).f)]).length,.keep],.rowed 4 (aA++[(R4.mk (rd l0 (tn v67)).b (rd l0 (tn v67)).c (rd l0 (tn v67)).e (rd l0 (tn v67)).f)]).length (Zz (aA++[(R4.mk (rd l0 (tn v67)).b (rd l0 (tn v67)).c (rd l0 (tn v67)).e (rd l0 (tn v67)).f)])),.keep,.keep],[]⟩ (trs 7 (bl 2 0)) (pp (xL (aA.length+1) (aA++[(R4.mk (rd l0 (tn v67)).b (rd l0 (tn v67)).c (rd l0 (tn v67)).e (rd l0 (tn v67)).f)]).length) (pp (xL (aA.length+1) (aA++[(R4.mk (rd l0 (tn v67)).b (rd l0 (tn v67)).c (rd l0 (tn v67)).e (rd l0 (tn v67)).f)]).length) (pp (xS (aA.length+1) (Zi (Zz aA) 0 aA.length 4 [(ii (rd l0 (tn v67)).b),(ii (rd l0 (tn v67)).c),(ii (rd l0 (tn v67)).e),(ii (rd l0 (tn v67)).f)]) (Zz (aA++[(R4.mk (rd l0 (tn v67)).b (rd l0 (tn v67)).c (rd l0 (tn v67)).e (rd l0 (tn v67)).f)]))) (pp (fl aW (pp (xF (Zi (Zz aA) 0 aA.length 4 [(ii (rd l0 (tn v67)).b),(ii (rd l0 (tn v67)).c),(ii (rd l0 (tn v67)).e),(ii (rd l0 (tn v67)).f)])) (fl aI (fl v9 nn)))) (ww k3 (ww o0 (ww k3 (tt k2 (tt k1 (ww aG (tt k0 nn)))))))))))))) (fun k3=>(lb (fun k4=>(lo fun o0=>(sl Ka 38 [] ⟨[0,1,2,3,14,5],[],w8k,w8l⟩ ⟨[],[.keep,.keep,.cells [.keep,.len (aI++[(R4.mk (rd l0 (tn v67)).b (rd l0 (tn v67)).c (rd l0 (tn v67)).e (rd l0 (tn v67)).f)]).length],.keep,.rowed 4 (aI++[(R4.mk (rd l0 (tn v67)).b (rd l0 (tn v67)).c (rd l0 (tn v67)).e (rd l0 (tn v67)).f)]).length (Zz (aI++[(R4.mk (rd l0 (tn v67)).b (rd l0 (tn v67)).c (rd l0 (tn v67)).e (rd l0 (tn v67)).f)])),.keep],[]⟩ (trs 8 (bl 3 2)) (pp (xL (aI.length+1) (aI++[(R4.mk (rd l0 (tn v67)).b (rd l0 (tn v67)).c (rd l0 (tn v67)).e (rd l0 (tn v67)).f)]).length) (pp (xL (aI.length+1) (aI++[(R4.mk (rd l0 (tn v67)).b (rd l0 (tn v67)).c (rd l0 (tn v67)).e (rd l0 (tn v67)).f)]).length) (pp (xS (aI.length+1) (Zi (Zz aI) 0 aI.length 4 [(ii (rd l0 (tn v67)).b),(ii (rd l0 (tn v67)).c),(ii (rd l0 (tn v67)).e),(ii (rd l0 (tn v67)).f)]) (Zz (aI++[(R4.mk (rd l0 (tn v67)).b (rd l0 (tn v67)).c (rd l0 (tn v67)).e (rd l0 (tn v67)).f)]))) (pp (fl aW (fl aA (pp (xF (Zi (Zz aI) 0 aI.length 4 [(ii (rd l0 (tn v67)).b),(ii (rd l0 (tn v67)).c),(ii (rd l0 (tn v67)).e),(ii (rd l0 (tn v67)).f)])) (fl v9 nn)))) (ww k4 (ww o0 (ww k4 (tt k2 (tt k1 (ww aG (tt k0 nn)))))))))))))) (fun k4=>trivial))))) (fun k2=>(sl Ka 38 [] ⟨(List.range 6),[],w8k,w8l⟩ ⟨[],[],[]⟩ (trs 6 [false]) (pp (fl aW (fl aA (fl aI (fl v9 nn)))) (tt k2 (tt k1 (ww aG (tt k0 nn))))))))) (fun k1=>(sl Ka 38 [] ⟨(List.range 6),[],w8k,w8l⟩ ⟨[],[],[]⟩ (bl 7 1) (pp (fl aW (fl aA (fl aI (fl v9 nn)))) (tt k1 (ww aG (tt k0 nn))))))))) (fun k0=>(Wh (sl Ka (C':=⟨⟨186,0,true⟩,(Ui prog 22 [1,1,1,1,1,1,1,1,1,0,1,0,0,1,1,0,0,1,1,1,0] 2),(Zd prog 22 [1,1,1,1,1,1,1,1,1,0,1,0,0,1,1,0,0,1,1,1,0] 1),none,(Zy prog 15),⟨Yc [(0,(.dat l0.length (Zz l0))),(5,(.ptr 0 0)),(6,(.sla 1 1 0 bM (.un 1))),(9,(.sla 2 6 0 v9.length (.un 6))),(10,(.dat v10.length (Zz v10))),(11,(ii v11)),(12,(ii v12)),(13,(.ptr 3 0)),(58,(.sla 1 1 0 bJ (.un 1))),(59,(ii v59)),(60,(ii v60)),(102,(.dat aA.length (Zz aA)))],Un [⟨[(.fn 111 []),(.fn 112 []),(.fn 113 [])],84,none⟩,⟨rows aW.length (Zz aW),3,some ⟨1,aW.length,(Zz aW)⟩⟩,⟨rows v9.length (Zz v9),67,some ⟨6,v9.length,(Zz v9)⟩⟩,⟨[(.dat aA.length (Zz aA)),(.sla 4 4 0 aI.length (.un 4))],101,none⟩,⟨rows aI.length (Zz aI),88,some ⟨4,aI.length,(Zz aI)⟩⟩] 0,5,[],true⟩,[],.leaf⟩) 11 [] ⟨[0,1,5,2,4],[3],[some [0,5,6,9,10,11,12,13,58,59,60,102]],[]⟩ ⟨[(102,.frz aA.length aA.length (Zz aA) (Zz aA))],[.keep,.keep,.keep,.cells [.frz aA.length aA.length (Zz aA) (Zz aA),.keep],.keep],[]⟩ [false] (pp (xZ (z5p 4 4 0 aA.length aA.length (Zz aA)) aA.length (Zz aA)) (pp (xL aA.length aA.length) (pp (xS aA.length (Zz aA) (Zz aA)) (pp (xZ (z5p 4 4 0 aA.length aA.length (Zz aA)) aA.length (Zz aA)) (pp (xL aA.length aA.length) (pp (xS aA.length (Zz aA) (Zz aA)) (pp (fl aW (fl v9 (fl aI nn))) (pp (fl aA nn) (tt k0 nn)))))))))) (lo fun q1_0=>(Wh (sl Ka (C':=⟨⟨186,0,true⟩,(Ui prog 22 [1,1,1,1,1,1,1,1,1,0,1,0,0,1,1,0,0,1,1,1,1,0] 2),(Zd prog 22 [1,1,1,1,1,1,1,1,1,0,1,0,0,1,1,0,0,1,1,1,1,0] 1),none,(Zy prog 15),⟨Yc [(0,(.dat l0.length (Zz l0))),(5,(.ptr 0 0)),(6,(.sla 1 1 0 bM (.un 1))),(9,(.sla 2 6 0 v9.length (.un 6))),(10,(.dat v10.length (Zz v10))),(11,(ii v11)),(12,(ii v12)),(16,(.dat (Za (cvT aA)).length (Zz (Za (cvT aA))))),(17,(ii (Xg (cvT aA)))),(58,(.sla 1 1 0 bJ (.un 1))),(59,(ii v59)),(60,(ii v60)),(108,(.dat aI.length (Zz aI)))],Un [⟨[(.fn 111 []),(.fn 112 []),(.fn 113 [])],84,none⟩,⟨rows aW.length (Zz aW),3,some ⟨1,aW.length,(Zz aW)⟩⟩,⟨rows v9.length (Zz v9),67,some ⟨6,v9.length,(Zz v9)⟩⟩] 0,3,[],true⟩,[],.leaf⟩) 11 [] ⟨[0,1,2],[4],[some [0,5,6,9,10,11,12,16,17,58,59,60,108]],[]⟩ ⟨[(108,.frz aI.length aI.length (Zz aI) (Zz aI))],[],[]⟩ [] (pp (xZ (z5p 4 4 0 aI.length aI.length (Zz aI)) aI.length (Zz aI)) (pp (xL aI.length aI.length) (pp (xS aI.length (Zz aI) (Zz aI)) (pp (fl aW (fl v9 nn)) (pp (fl aI nn) (pp (pp (xr aA) (xw q1_0)) nn))))))) (lo fun aG=>(lo fun bA=>(lo fun bX=>(lb (fun k1=>(lr 186 22 [1,1,1,1,1,1,1,1,1,0,1,0,0,1,1,0,0,1,1,1,1,1,1,1,0,1,0,0] 1 15 [(2,.nils),(3,(ii 28))] (sl Ka 91 [] ⟨[],[],[some [2,3]],[]⟩ ⟨[],[],[]⟩ (trs 3 []) (tt k1 (tt k1 (pp (pp (xI R4 (Wf .d (cvT v10) (cvT (Za (cvT aA)))).length (Zz (Wf .d (cvT v10) (cvT (Za (cvT aA)))))) (pp (xI R4 (Za (cvT aI)).length (Zz (Za (cvT aI)))) (xw bX))) (pp (pp (xr v10) (pp (xI R4 (Za (cvT aA)).length (Zz (Za (cvT aA)))) (xw bA))) (pp (pp (xr aI) (xw aG)) nn)))))))) (fun k1=>(lb (fun k2=>(lr 186 22 [1,1,1,1,1,1,1,1,1,0,1,0,0,1,1,0,0,1,1,1,1,1,1,1,0,1,0,0] 1 15 [(2,.nils),(3,(ii 28))] (sl Ka 120 [] ⟨[],[],[some [2,3]],[]⟩ ⟨[],[],[]⟩ (bl 5 29) (tt k2 (tt k2 (tt k1 (pp (pp (xI R4 (Wf .d (cvT v10) (cvT (Za (cvT aA)))).length (Zz (Wf .d (cvT v10) (cvT (Za (cvT aA)))))) (pp (xI R4 (Za (cvT aI)).length (Zz (Za (cvT aI)))) (xw bX))) (pp (pp (xr v10) (pp (xI R4 (Za (cvT aA)).length (Zz (Za (cvT aA)))) (xw bA))) (pp (pp (xr aI) (xw aG)) nn))))))))) (fun k2=>(lb (fun k3=>(lr 186 22 [1,1,1,1,1,1,1,1,1,0,1,0,0,1,1,0,0,1,1,1,1,1,1,1,0,1,0,0] 1 15 [(2,.nils),(3,(ii 28))] (sl Ka 149 [] ⟨[],[],[some [2,3]],[]⟩ ⟨[],[],[]⟩ (bl 7 117) (tt k3 (tt k3 (tt k2 (tt k1 (pp (pp (xI R4 (Wf .d (cvT v10) (cvT (Za (cvT aA)))).length (Zz (Wf .d (cvT v10) (cvT (Za (cvT aA)))))) (pp (xI R4 (Za (cvT aI)).length (Zz (Za (cvT aI)))) (xw bX))) (pp (pp (xr v10) (pp (xI R4 (Za (cvT aA)).length (Zz (Za (cvT aA)))) (xw bA))) (pp (pp (xr aI) (xw aG)) nn)))))))))) (fun k3=>(lb (fun k4=>(lr 186 22 [1,1,1,1,1,1,1,1,1,0,1,0,0,1,1,0,0,1,1,1,1,1,1,1,0,1,0,0] 1 15 [(2,.nils),(3,(ii 28))] (sl Ka 178 [] ⟨[],[],[some [2,3]],[]⟩ ⟨[],[],[]⟩ (bl 9 469) (tt k4 (tt k4 (tt k3 (tt k2 (tt k1 (pp (pp (xI R4 (Wf .d (cvT v10) (cvT (Za (cvT aA)))).length (Zz (Wf .d (cvT v10) (cvT (Za (cvT aA)))))) (pp (xI R4 (Za (cvT aI)).length (Zz (Za (cvT aI)))) (xw bX))) (pp (pp (xr v10) (pp (xI R4 (Za (cvT aA)).length (Zz (Za (cvT aA)))) (xw bA))) (pp (pp (xr aI) (xw aG)) nn))))))))))) (fun k4=>(sl Ka 201 [] ⟨[0,1,2],[],u3s,u3u⟩ ⟨[],[],[]⟩ (bl 10 85) (pp (fl aW (fl v9 nn)) (tt k4 (tt k3 (tt k2 (tt k1 (pp (pp (xI R4 (Wf .d (cvT v10) (cvT (Za (cvT aA)))).length (Zz (Wf .d (cvT v10) (cvT (Za (cvT aA)))))) (pp (xI R4 (Za (cvT aI)).length (Zz (Za (cvT aI)))) (xw bX))) (pp (pp (xr v10) (pp (xI R4 (Za (cvT aA)).length (Zz (Za (cvT aA)))) (xw bA))) (pp (pp (xr aI) (xw aG)) nn)))))))))))))))))))))))))
 | .h3 bM v9 v10 v11 v12 bJ v59 v60 v132 v133 v134 aW=>(lb (fun k0=>(lo fun aG=>(lb (fun k1=>(lo fun o0=>(lo fun o1=>(lo fun o2=>(sl Ka 32 [] ⟨[0,1,5],[],u3s,u3u⟩ ⟨[(9,.len (v9++[(R6.mk (rd v132 (tn v134)).a (rd v132 (tn v134)).b v12 (rd v132 (tn v134)).c (rd v132 (tn v134)).d (rd aW (0+(tn (wr (v11+1))))))]).length)],[.keep,.keep,.rowed 6 (v9++[(R6.mk (rd v132 (tn v134)).a (rd v132 (tn v134)).b v12 (rd v132 (tn v134)).c (rd v132 (tn v134)).d (rd aW (0+(tn (wr (v11+1))))))]).length (Zz (v9++[(R6.mk (rd v132 (tn v134)).a (rd v132 (tn v134)).b v12 (rd v132 (tn v134)).c (rd v132 (tn v134)).d (rd aW (0+(tn (wr (v11+1))))))]))],[]⟩ (bl 2 3) (pp (xL (v9.length+1) (v9++[(R6.mk (rd v132 (tn v134)).a (rd v132 (tn v134)).b v12 (rd v132 (tn v134)).c (rd v132 (tn v134)).d (rd aW (0+(tn (wr (v11+1))))))]).length) (pp (xL (v9.length+1) (v9++[(R6.mk (rd v132 (tn v134)).a (rd v132 (tn v134)).b v12 (rd v132 (tn v134)).c (rd v132 (tn v134)).d (rd aW (0+(tn (wr (v11+1))))))]).length) (pp (xS (v9.length+1) (Zi (Zz v9) 0 v9.length 6 [(ii (rd v132 (tn v134)).a),(ii (rd v132 (tn v134)).b),(ii v12),(ii (rd v132 (tn v134)).c),(ii (rd v132 (tn v134)).d),(ii (rd aW (0+(tn (wr (v11+1))))))]) (Zz (v9++[(R6.mk (rd v132 (tn v134)).a (rd v132 (tn v134)).b v12 (rd v132 (tn v134)).c (rd v132 (tn v134)).d (rd aW (0+(tn (wr (v11+1))))))]))) (pp (fl aW (pp (xF (Zi (Zz v9) 0 v9.length 6 [(ii (rd v132 (tn v134)).a),(ii (rd v132 (tn v134)).b),(ii v12),(ii (rd v132 (tn v134)).c),(ii (rd v132 (tn v134)).d),(ii (rd aW (0+(tn (wr (v11+1))))))])) nn)) (ww o2 (ww o1 (ww o0 (tt k1 (ww aG (tt k0 nn))))))))))))))) (fun k1=>(sl Ka 32 [] ⟨[0,1,2],[],u3s,u3u⟩ ⟨[],[],[]⟩ (bl 2 1) (pp (fl aW (fl v9 nn)) (tt k1 (ww aG (tt k0 nn))))))))) (fun k0=>(sl Ka 13 [] ⟨[0,1,2],[],msoN1,msoM1⟩ ⟨[],[],[]⟩ [false] (pp (fl aW (fl v9 nn)) (tt k0 nn)))))
theorem x5r (l0:List R7):Xk prog (Zy prog 22) (msoC l0) (Ze prog 22 [(.dat l0.length (Zz l0))] true []) (y1d l0):=(lo fun bW=>(lb (fun k0=>(lr 186 22 [1,0,1,1,0,0] 1 15 [(2,.nils),(3,(ii (x6b (cvT l0))))] (sl Ka 24 [] ⟨[],[],[some [2,3]],[]⟩ ⟨[],[],[]⟩ [true] (tt k0 (pp (pp (xr l0) (xw bW)) nn))))) (fun k0=>(sl Ka 52 [(3,1,Zz ([]:List Int))] ⟨[1,2],[],u3t,u3v⟩ ⟨[(6,.grow 1 1)],[],[]⟩ [false] (pp (fl ([]:List Int) nn) (tt k0 (pp (pp (xr l0) (xw bW)) nn)))))))
theorem x9y (l0:List R7) (n:Nat) (vs:List AVal) (h:Yk (Wu l0) n (y1d l0)=.ret vs):Kv prog (Zy prog 22) (Ze prog 22 [(.dat l0.length (Zz l0))] true []) vs:=by have:=Zr (w2t l0) n _ (x5r l0);rwa [h] at this
end Go.Am
namespace Go.Am
open Go.Proofs.Tryz
open Go.Proofs Go.Sort Go.Shelf Go.RowKit Go.Lib
def zQ (d:Int) (l:List R7) (z:Int):List R4:=(l.filter fun r=>decide (r.a=d)&&decide (r.d=z)).map fun r=>⟨r.b,r.c,r.e,r.f⟩
def zsQ (l:List R7):List Int:=(l.filter fun r=>decide (4≤r.a)).map (·.d)
def plZ (l:List R7):List Int:=Ur (zsQ l)
def pz6 (z z':Int) (t:R4):R6:=⟨t.a,t.b,z,t.c,t.d,z'⟩
def u7f (now e b:List R4):Bool:=(Xg e != 0)||((Xg b != 0)||((rgE .d now (Za e) != 0)||(rgE .u (Wf .d now (Za e)) (Za b) != 0)))
def y8y (now e b:List R4):List R4:=Wf .u (Wf .d now (Za e)) (Za b)
def goP (l:List R7):List Int→List R4→List R6→Option (List R6)
 | [],_,bx=>some bx
 | z::r,now,bx=>bif u7f now (zQ 4 l z) (zQ 5 l z) then none else
  goP l r (y8y now (zQ 4 l z) (zQ 5 l z)) (bx++match r with
   | []=>[]
   | z'::_=>(y8y now (zQ 4 l z) (zQ 5 l z)).map (pz6 z z'))
def v5w (l:List R7) (bx:List R6):Int:=bif Jq bx != 0 then 28 else bif z0x (Xq bx) != 0 then 28 else bif !(y2l (Uk (Xq bx)) l) then 28 else 0
def msoE (l:List R7):Int:=bif x6b l != 0 then x6b l else match goP l (plZ l) [] [] with
 | none=>28
 | some bx=>v5w l bx
def msoL (l:List R7):List R6:=match goP l (plZ l) [] [] with
 | none=>[]
 | some bx=>Xq bx
def z9n (l:List R7):Int:=msoE l
def z0f (l:List R7):List R6:=y9s (msoE l) (msoL l)
def z3l (l:List R7):Bool:=Qc l
theorem y5o (l:List R7):(zsQ l).length ≤l.length:=by unfold zsQ;rw [List.length_map];exact List.length_filter_le _ _
theorem x0q (d:Int) (l:List R7) (z:Int):(zQ d l z).length ≤l.length:=by unfold zQ;rw [List.length_map];exact List.length_filter_le _ _
theorem Wd (d:Int) (l m:List R7) (z:Int):zQ d (l++m) z=zQ d l z++zQ d m z:=by unfold zQ;rw [List.filter_append,List.map_append]
theorem w1c (l m:List R7):zsQ (l++m)=zsQ l++zsQ m:=by unfold zsQ;rw [List.filter_append,List.map_append]
theorem y9g {l:List R7} (h:x6b l=0):l.length≤3000∧ ∀r∈l,w5g r=true:=by
 unfold x6b at h;by_cases g:3000<l.length
 ·rw [decide_eq_true g] at h;cases h
 ·rw [decide_eq_false g,cond_false] at h;cases q:l.all w5g with
  | false=>rw [q] at h;cases h
  | true=>exact ⟨by omega,List.all_eq_true.1 q⟩
theorem v6z {r:R7} (h:w5g r=true):r.a≤5:=by unfold w5g at h;simp only [Bool.and_eq_true,decide_eq_true_eq] at h;exact h.1
theorem u1w (l:List R6):(Xq l).length ≤400:=by
 unfold Xq y9s;cases g:(Jq l != 0) with
 | true=>exact Nat.zero_le _
 | false=>
  rw [cond_false];have h:Jq l=0:=by simpa using g
  unfold Jq at h;cases g1:decide (400<l.length) with
  | true=>rw [g1] at h;cases h
  | false=>
   cases g2:l.all Qu with
   | false=>rw [g1,g2] at h;cases h
   | true=>
    rw [g1,g2,cond_false,cond_true] at h;cases g3:okF l ((D6.cuts l).length - 1) 0 with
    | false=>rw [g3,cond_false] at h;have:=v6g _ _ g3;rw [h] at this;cases this
    | true=>rw [g3,cond_true] at h;exact y9w h
theorem u4f {L:List R6}:(Uk L).length ≤3000:=by
 unfold Uk y9s;cases g:(w4u L != 0) with
 | true=>exact Nat.zero_le _
 | false=>
  rw [cond_false];have h:w4u L=0:=by simpa using g
  unfold w4u at h;refine Classical.byContradiction fun hn=> ?_;rw [show decide (((Kc L).length :Int)>3000)=true from decide_eq_true (by omega)] at h;revert h;have z: ∀(e x:Int),x≠0→(bif e != 0 then e else x)≠0:=fun e x hx=>by
   cases q:(e != 0) with
   | true=>rw [cond_true];simpa using q
   | false=>rw [cond_false];exact hx
  exact z _ _ (z _ _ (z _ _ (z _ _ (z _ _ (z _ _ (by decide))))))
theorem six {a:Int} (h0:0≤a) (h5:a≤5):((IntKind.wrap IntKind.u8 (Int.tdiv a 2)) == 2)=decide (4≤a)∧decide (Int.tmod a 2=Int.ofNat 0)=decide (a=0∨a=2∨a=4)∧decide (Int.tmod a 2=Int.ofNat 1)=decide (a=1∨a=3∨a=5):=by
 have:a=0∨a=1∨a=2∨a=3∨a=4∨a=5:=by omega
 rcases this with rfl | rfl | rfl | rfl | rfl | rfl <;> exact ⟨rfl,rfl,rfl⟩
section
variable (l:List R7) (hl:l.length≤3000) (ha: ∀i,i<l.length→0≤(rd l i).a ∧(rd l i).a ≤5)
include hl ha
theorem v9x : ∀(k i:Nat) (acc:List Int),i+k=l.length→acc.length≤i→zsQ l=acc++zsQ (l.drop i)→
  ∃n,∀N,Yk (Wu l) (N+n) (.to (.h0 acc (i:Int)))=Yk (Wu l) N (.to (.h1 (plZ l).length [] [] (plZ l).length ((plZ l).length :Int) 0 (Wx (Yo (zsQ l)))))
 | 0,i,acc,h,h',e=>by have _u:=ha;rw [List.drop_eq_nil_of_le (by omega),show zsQ []=[] from rfl,List.append_nil] at e;subst e;refine ⟨1,fun N=> ?_⟩;rw [Zv];simp (disch:=omega) only [Wu,Wg,Qk,z8s,Yv,Yu,Yq,decide_true,cond_true,cond_false];rfl
 | k+1,i,acc,h,h',e=>by
  have hi:i<l.length:=by omega
  obtain ⟨b0,b5⟩:=ha i hi;obtain ⟨s1,_,_⟩:=six b0 b5;have e2:zsQ l=(acc++zsQ [rd l i])++zsQ (l.drop (i+1)):=by rw [List.append_assoc,←w1c,e,Ya hi];rfl
  obtain ⟨n,hn⟩:=v9x k (i+1) (acc++zsQ [rd l i]) (by omega) (by have:=y5o [rd l i];simp only [List.length_append,List.length_singleton] at*;omega) e2;refine ⟨n+1,fun N=> ?_⟩;rw [←Nat.add_assoc,Zv,←hn N];by_cases h4:4≤(rd l i).a
  ·rw [show zsQ [rd l i]=[(rd l i).d] by unfold zsQ;rw [List.filter_cons,if_pos (decide_eq_true h4)];rfl];rw [decide_eq_true h4] at s1;simp (disch:=omega) only [Wu,s1,Zb,Zk,Zt,Yz,Yb,Yu,Yq,Zh,Zq,Zx,Yp,Zj,Nat.zero_add,decide_true,Bool.and_true,Bool.true_and,cond_true,cond_false]
  ·rw [show zsQ [rd l i]=[] by unfold zsQ;rw [List.filter_cons,if_neg (by simp [h4])];rfl,List.append_nil];rw [decide_eq_false h4] at s1;simp (disch:=omega) only [Wu,s1,Zb,Zk,Zt,Yz,Yb,Yu,Yq,Zh,Zq,Zx,Yp,Zj,Nat.zero_add,decide_true,Bool.and_true,Bool.true_and,cond_true,cond_false]
theorem v9v (n6:Nat) (bx:List R6) (now:List R4) (v11 z:Int) (n58:Nat) (v59 v60:Int) (P:List Int): ∀(k j:Nat) (e b:List R4),j+k=l.length→e.length≤j→b.length≤j→zQ 4 l z=e++zQ 4 (l.drop j) z→zQ 5 l z=b++zQ 5 (l.drop j) z→
  ∃n,∀N,Yk (Wu l) (N+n) (.to (.h2 n6 bx now v11 z n58 v59 v60 (j:Int) P e b))=Yk (Wu l) N (bif u7f now (zQ 4 l z) (zQ 5 l z) then .ret [.nils,.int .i64 28] else
   .to (.h3 n6 bx (y8y now (zQ 4 l z) (zQ 5 l z)) v11 z n58 v59 v60 (y8y now (zQ 4 l z) (zQ 5 l z)) ((y8y now (zQ 4 l z) (zQ 5 l z)).length :Int) 0 P))
 | 0,j,e,b,h,h1,h2,e4,e5=>by
  have _u:=ha;rw [List.drop_eq_nil_of_le (by omega),show∀d,zQ d [] z=[] from fun _=>rfl,List.append_nil] at e4 e5;refine ⟨1,fun N=> ?_⟩;rw [Zv,e4,e5];have o1: ∀x,Ux x=true:=fun _=>rfl;have o2: ∀q x y,Kr q x y=true:=fun _ _ _=>rfl;simp (disch:=omega) only [Wu,Yv,Zb,o1,o2,cond_true,cond_false,u7f,y8y,x1f]
  congr 1
  cases (Xg e != 0) <;> cases (Xg b != 0) <;> cases (rgE .d now (Za e) != 0) <;> cases (rgE .u (Wf .d now (Za e)) (Za b) != 0) <;> rfl
 | k +1,j,e,b,h,h1,h2,e4,e5=>by
  have hj:j<l.length:=by omega
  obtain ⟨b0,b5⟩:=ha j hj;obtain ⟨s1,s2,s3⟩:=six b0 b5;have f4:zQ 4 l z=(e++zQ 4 [rd l j] z)++zQ 4 (l.drop (j+1)) z:=by rw [List.append_assoc,←Wd,e4,Ya hj];rfl
  have f5:zQ 5 l z=(b++zQ 5 [rd l j] z)++zQ 5 (l.drop (j+1)) z:=by rw [List.append_assoc,←Wd,e5,Ya hj];rfl
  obtain ⟨n,hn⟩:=v9v n6 bx now v11 z n58 v59 v60 P k (j+1) (e++zQ 4 [rd l j] z) (b++zQ 5 [rd l j] z) (by omega)
   (by have:=x0q 4 [rd l j] z;simp only [List.length_append,List.length_singleton] at*;omega) (by have:=x0q 5 [rd l j] z;simp only [List.length_append,List.length_singleton] at*;omega) f4 f5
  refine ⟨n+1,fun N=> ?_⟩;rw [←Nat.add_assoc,Zv,←hn N];have no: ∀d,¬((rd l j).a =d∧(rd l j).d =z)→zQ d [rd l j] z=[]:=fun d hn=>by unfold zQ;rw [List.filter_cons,if_neg (by simpa using hn)];rfl
  have ye: ∀d,((rd l j).a =d∧(rd l j).d =z)→zQ d [rd l j] z=[⟨(rd l j).b,(rd l j).c,(rd l j).e,(rd l j).f⟩]:=fun d hy=>by unfold zQ;rw [List.filter_cons,if_pos (by simpa using hy)];rfl
  by_cases h4:4≤(rd l j).a
  ·rw [decide_eq_true h4] at s1;by_cases hz:(rd l j).d =z
   ·have hzb:((rd l j).d == z)=true:=(by simpa using hz);by_cases h44:(rd l j).a =4
    ·replace s2:=s2.trans (decide_eq_true (p:=(rd l j).a =0∨(rd l j).a =2∨(rd l j).a =4) (by omega))
     rw [ye 4 ⟨h44,hz⟩,no 5 (by omega),List.append_nil];simp (disch:=omega) only [Wu,s1,s2,hzb,Zb,Zk,Zt,Yz,Yb,Yu,Yq,Zh,Zq,Zx,Yp,Zj,Nat.zero_add,decide_true,Bool.and_true,Bool.true_and,cond_true,cond_false]
    ·replace s2:=s2.trans (decide_eq_false (p:=(rd l j).a =0∨(rd l j).a =2∨(rd l j).a =4) (by omega))
     replace s3:=s3.trans (decide_eq_true (p:=(rd l j).a =1∨(rd l j).a =3∨(rd l j).a =5) (by omega))
     rw [ye 5 ⟨by omega,hz⟩,no 4 (by omega),List.append_nil];simp (disch:=omega) only [Wu,s1,s2,s3,hzb,Zb,Zk,Zt,Yz,Yb,Yu,Yq,Zh,Zq,Zx,Yp,Zj,Nat.zero_add,decide_true,Bool.and_true,Bool.true_and,cond_true,cond_false]
   ·have hzb:((rd l j).d == z)=false:=(by simpa using hz);rw [no 5 (fun g=>hz g.2),no 4 (fun g=>hz g.2),List.append_nil,List.append_nil];simp (disch:=omega) only [Wu,s1,hzb,Zb,Zk,Zt,Yz,Yb,Yu,Yq,Zh,Zq,Zx,Yp,Zj,Nat.zero_add,decide_true,Bool.and_true,Bool.true_and,cond_true,cond_false]
  ·rw [decide_eq_false h4] at s1;rw [no 5 (by omega),no 4 (by omega),List.append_nil,List.append_nil];simp (disch:=omega) only [Wu,s1,Zb,Zk,Zt,Yz,Yb,Yu,Yq,Zh,Zq,Zx,Yp,Zj,Nat.zero_add,decide_true,Bool.and_true,Bool.true_and,cond_true,cond_false]
theorem w8j (n6:Nat) (hn6:n6≤3000) (now:List R4) (i:Nat) (hi:i<n6) (z:Int) (v59:Int) (R:List R4) (hR:R.length≤400) (P:List Int) (hP:n6≤P.length): ∀(k j:Nat) (bx:List R6),j+k=R.length→bx.length≤2000000+j→
  ∃n,∀N,Yk (Wu l) (N+n) (.to (.h3 n6 bx now (i:Int) z n6 v59 (i:Int) R (R.length:Int) (j:Int) P))=Yk (Wu l) N (.to (.h1 n6 (bx++bif decide (i+1<n6) then (R.drop j).map (pz6 z (rd P (i+1))) else []) now n6 v59 ((i+1:Nat):Int) P))
 | 0,j,bx,h,h'=>by have _u:=ha;have _v:=hl;refine ⟨1,fun N=> ?_⟩;rw [List.drop_eq_nil_of_le (by omega),List.map_nil,show (bif decide (i+1<n6) then ([]:List R6) else [])=[] by cases decide (i+1<n6) <;> rfl,List.append_nil,Zv];simp (disch:=omega) only [Wu,Yv,Zq,Zx,cond_false]
 | k+1,j,bx,h,h'=>by
  have hj:j<R.length:=by omega
  have ew:IntKind.wrap .i64 ((i:Int)+1)=((i+1:Nat):Int):=by rw [Zq (by omega)];exact Zx i
  by_cases g:i+1<n6
  ·obtain ⟨n,hn⟩:=w8j n6 hn6 now i hi z v59 R hR P hP k (j+1) (bx++[pz6 z (rd P (i+1)) (rd R j)]) (by omega) (by simp only [List.length_append,List.length_singleton];omega);refine ⟨n+1,fun N=> ?_⟩;rw [decide_eq_true g,cond_true] at hn;rw [decide_eq_true g,cond_true,Ya hj,List.map_cons,←Nat.add_assoc,Zv,show bx++pz6 z (rd P (i+1)) (rd R j)::(R.drop (j+1)).map (pz6 z (rd P (i+1)))=(bx++[pz6 z (rd P (i+1)) (rd R j)])++(R.drop (j+1)).map (pz6 z (rd P (i+1))) by simp,←hn N];simp (disch:=omega) only [Wu,ew,Zb,Zk,Zt,Yz,Yb,Yu,Yq,Zh,Zq,Zx,Yp,Zj,Nat.zero_add,decide_true,Bool.and_true,Bool.true_and,cond_true,cond_false];rfl
  ·obtain ⟨n,hn⟩:=w8j n6 hn6 now i hi z v59 R hR P hP k (j+1) bx (by omega) (by omega);refine ⟨n+1,fun N=> ?_⟩;rw [decide_eq_false g,cond_false] at hn;rw [decide_eq_false g,cond_false,←Nat.add_assoc,Zv,←hn N];simp (disch:=omega) only [Wu,ew,Yv,Zb,Zk,Zt,Yz,Zq,Zx,Zj,Bool.and_true,cond_true,cond_false]
def resR (l:List R7):Option (List R6)→List AVal
 | none=>[.nils,.int .i64 28]
 | some bx=>y2q (v5w l bx) (Xq bx)
theorem v9w : ∀(k i:Nat) (now:List R4) (bx:List R6),i+k=(plZ l).length →bx.length≤400*i→
  ∃n,Yk (Wu l) n (.to (.h1 (plZ l).length bx now (plZ l).length ((plZ l).length :Int) (i:Int) (Wx (Yo (zsQ l)))))=.ret (resR l (goP l ((plZ l).drop i) now bx))
 | 0,i,now,bx,h,hb=>by have _u:=ha;have _v:=hl;rw [List.drop_eq_nil_of_le (show (plZ l).length ≤i by omega)];have o2:z0w (Xq bx)=true:=decide_eq_true (u1w bx);have o3:z1n (Uk (Xq bx)) l=true:=decide_eq_true (by have:=u4f (L:=Xq bx);omega);refine ⟨1,?_⟩;rw [Zv];simp (disch:=omega) only [Wu,Yv,Zb,show∀x,z6b x=true from fun _=>rfl,o2,o3,cond_true,cond_false];show Yk (Wu l) 0 _=.ret (y2q (v5w l bx) (Xq bx));unfold v5w y2q;cases (Jq bx != 0) <;> cases (z0x (Xq bx) != 0) <;> cases (y2l (Uk (Xq bx)) l) <;> rfl
 | k +1,i,now,bx,h,hb=>by
  have hi:i<(plZ l).length :=by omega
  have hp:(plZ l).length ≤3000:=Nat.le_trans (z2d _) (Nat.le_trans (y5o l) hl);have hpl:(Wx (Yo (zsQ l))).length =(zsQ l).length :=by rw [Uu,Wz]
  have hcl:(plZ l).length ≤(zsQ l).length :=z2d _;have r0:rd (Wx (Yo (zsQ l))) i=rd (plZ l) i:=z3f _ _ hi;obtain ⟨n2,h2⟩:=v9v l hl ha (plZ l).length bx now (i:Int) (rd (plZ l) i) (plZ l).length ((plZ l).length :Int) (i:Int) (Wx (Yo (zsQ l))) l.length 0 [] [] (Nat.zero_add _) (Nat.le_refl _) (Nat.le_refl _) rfl rfl;have st: ∀N,Yk (Wu l) (N+n2+1) (.to (.h1 (plZ l).length bx now (plZ l).length ((plZ l).length :Int) (i:Int) (Wx (Yo (zsQ l)))))=Yk (Wu l) N (bif u7f now (zQ 4 l (rd (plZ l) i)) (zQ 5 l (rd (plZ l) i)) then .ret [.nils,.int .i64 28] else
    .to (.h3 (plZ l).length bx (y8y now (zQ 4 l (rd (plZ l) i)) (zQ 5 l (rd (plZ l) i))) (i:Int) (rd (plZ l) i) (plZ l).length ((plZ l).length :Int) (i:Int) (y8y now (zQ 4 l (rd (plZ l) i)) (zQ 5 l (rd (plZ l) i))) ((y8y now (zQ 4 l (rd (plZ l) i)) (zQ 5 l (rd (plZ l) i))).length :Int) 0 (Wx (Yo (zsQ l))))):=fun N=>by
   rw [←h2 N,Zv];simp (disch:=omega) only [Wu,r0,Zb,Zt,Yz,Yu,Zj,Nat.zero_add,decide_true,Bool.and_true,cond_true,cond_false];rfl
  rw [Ya hi];rcases Yn (u7f now (zQ 4 l (rd (plZ l) i)) (zQ 5 l (rd (plZ l) i))) with g | g
  ·refine ⟨0+n2+1,?_⟩;rw [st 0,g,cond_true,Zg];unfold goP;rw [g];rfl
  ·have hn4:(y8y now (zQ 4 l (rd (plZ l) i)) (zQ 5 l (rd (plZ l) i))).length ≤400:=v8x;obtain ⟨n3,h3⟩:=w8j l hl ha (plZ l).length hp (y8y now (zQ 4 l (rd (plZ l) i)) (zQ 5 l (rd (plZ l) i))) i hi (rd (plZ l) i) ((plZ l).length :Int) (y8y now (zQ 4 l (rd (plZ l) i)) (zQ 5 l (rd (plZ l) i))) hn4 (Wx (Yo (zsQ l))) (by omega) (y8y now (zQ 4 l (rd (plZ l) i)) (zQ 5 l (rd (plZ l) i))).length 0 bx (Nat.zero_add _) (by omega);rw [List.drop_zero] at h3;obtain ⟨n,hn⟩:=v9w k (i+1) (y8y now (zQ 4 l (rd (plZ l) i)) (zQ 5 l (rd (plZ l) i))) (bx++bif decide (i+1<(plZ l).length) then (y8y now (zQ 4 l (rd (plZ l) i)) (zQ 5 l (rd (plZ l) i))).map (pz6 (rd (plZ l) i) (rd (Wx (Yo (zsQ l))) (i+1))) else []) (by omega) (by
    rw [List.length_append];cases decide (i+1<(plZ l).length) with
    | true=>rw [cond_true,List.length_map];omega
    | false=>rw [cond_false,List.length_nil];omega)
   refine ⟨n+n3+n2+1,?_⟩;rw [st (n+n3),g,cond_false];refine (h3 n).trans (hn.trans ?_);have em:(bif decide (i+1<(plZ l).length) then (y8y now (zQ 4 l (rd (plZ l) i)) (zQ 5 l (rd (plZ l) i))).map (pz6 (rd (plZ l) i) (rd (Wx (Yo (zsQ l))) (i+1))) else [])=(match (plZ l).drop (i+1) with
     | []=>[]
     | z'::_=>(y8y now (zQ 4 l (rd (plZ l) i)) (zQ 5 l (rd (plZ l) i))).map (pz6 (rd (plZ l) i) z')):=by
    by_cases q:i+1<(plZ l).length
    ·rw [decide_eq_true q,cond_true,Ya q,z3f _ _ q];rfl
    ·rw [decide_eq_false q,cond_false,List.drop_eq_nil_of_le (by omega)]
   rw [em]
   conv=>rhs;unfold goP
   rw [g,cond_false]
end
theorem w8i (l:List R7) (h:z3l l=true): ∃n,Yk (Wu l) n (y1d l)=.ret (y2q (z9n l) (msoL l)):=by
 unfold y1d z9n msoE;simp only [Zb,show Qc l=true from h,cond_true];rcases Yn (x6b l != 0) with q | q
 ·refine ⟨0,?_⟩;rw [q,cond_true,cond_true,z1s _ q];rfl
 ·rw [q,cond_false,cond_false];obtain ⟨hl,hv⟩:=y9g (l:=l) (by simpa using q);have ha: ∀i,i<l.length→0≤(rd l i).a ∧(rd l i).a ≤5:=fun i hi=>by
   have hm:rd l i∈l:=by rw [Xv hi];exact List.getElem_mem hi
   have:=List.all_eq_true.1 h _ hm;simp only [Bool.and_eq_true,decide_eq_true_eq] at this;exact ⟨this.1,v6z (hv _ hm)⟩
  obtain ⟨n0,h0⟩:=v9x l hl ha l.length 0 [] (Nat.zero_add _) (Nat.le_refl _) rfl;obtain ⟨n1,h1⟩:=v9w l hl ha (plZ l).length 0 [] [] (Nat.zero_add _) (Nat.le_refl _);refine ⟨n1+n0,?_⟩;refine (h0 n1).trans (h1.trans ?_);rw [List.drop_zero];unfold msoL;cases goP l (plZ l) [] [] with
  | none=>rfl
  | some bx=>rfl
def fMso :List AVal→Option (AVal×Bool)
 | [a0]=>match asL R7 a0 with
  | some (L0,g0,n0)=>some (.tup [.dat (z0f L0).length (Zz (z0f L0)),.int .i64 (z9n L0)],isT R7 n0 g0&&(z3l L0))
  | _=>none
 | _=>none
theorem u5w {S:Specs} (hS:Zu prog S):Zu prog (S.with y8z fMso):=by
 refine w4x hS (by kernel_rfl) fun args v h=> ?_;unfold fMso at h;split at h
 ·rename_i a0;split at h
  ·rename_i L0 g0 n0 e0;simp only [Option.some.injEq,Prod.mk.injEq,Bool.and_eq_true] at h;obtain ⟨rfl,ho0,hw⟩:=h;obtain ⟨N,hN⟩:=w8i L0 hw;exact ⟨_,_,(.cons (asL_le e0 ho0) .nil),z1r _ _,x9y L0 N _ hN,3,z5e _ _⟩
  ·cases h
 ·cases h
def Mi :Specs:=(Mh.with y8z fMso)
theorem z2u :Zu prog Mi:=(u5w Ka)
end Go.Am
namespace Go.Am
open Go.Proofs.Tryz
open Go.Proofs
inductive mpzS where
 | h0 (v15:List Int) (v32:Int)
 | h1 (v15:List Int) (v20:Int) (v21:Int) (v22:Int) (v23:Int)
def mpzC (l1:List R6) (x2:Int) (x3:Int) (x4:Int) (x5:Int) (x6:Bool):mpzS→Cfg
 | .h0 v15 v32=>⟨⟨122,0,true⟩,none,(Zd prog 58 [1,1,1,0,1,0,0] 0),none,(Zy prog 58),⟨Yc [(1,(.dat l1.length (Zz l1))),(2,(ii x2)),(3,(ii x3)),(4,(ii x4)),(5,(ii x5)),(6,(.bool x6)),(7,(.ptr 0 0)),(15,(.sla 1 1 0 v15.length (.un 1))),(30,(.dat l1.length (Zz l1))),(31,(ii (l1.length:Int))),(32,(ii v32))],Un [⟨[(.fn 111 []),(.fn 112 []),(.fn 113 [])],84,none⟩,⟨rows v15.length (Zz v15),3,some ⟨1,v15.length,(Zz v15)⟩⟩] 0,2,[],true⟩,[],.leaf⟩
 | .h1 v15 v20 v21 v22 v23=>⟨⟨122,0,true⟩,none,(Zd prog 58 [1,1,1,1,1,1,1,1,0,1,0,0] 0),none,(Zy prog 58),⟨Yc [(1,(.dat l1.length (Zz l1))),(2,(ii x2)),(7,(.ptr 0 0)),(15,(.sla 1 1 0 v15.length (.un 1))),(20,(ii v20)),(21,(ii v21)),(22,(ii v22)),(23,(ii v23))],Un [⟨[(.fn 111 []),(.fn 112 []),(.fn 113 [])],84,none⟩,⟨rows v15.length (Zz v15),3,some ⟨1,v15.length,(Zz v15)⟩⟩] 0,2,[],true⟩,[],.leaf⟩
def y5h :List (Option (List Nat)):=[some [1,2,3,4,5,6,7,15,30,31,32]]
def y5i :List (Option (List Nat)):=[]
def w8m :List (Option (List Nat)):=[some [1,2,7,15,20,21,22,23]]
def w8n :List (Option (List Nat)):=[]
def y3a (l1:List R6) (x2:Int) (x3:Int) (x4:Int) (x5:Int) (x6:Bool):mpzS→Xo mpzS
 | .h0 v15 v32=>(bif (decide (v32<(l1.length:Int))) then (bif ((decide (0≤v32∧v32<(l1.length:Int)))&&true) then (bif (decide (x4<(rd l1 v32.toNat).c)) then (bif (decide ((rd l1 v32.toNat).c <x5)) then (bif (Nat.beq 1 1&&((decide (0+v15.length=v15.length))&&decide ((v15.length+1+1)*(8+1)≤Us))) then (bif (decide (x4<(rd l1 v32.toNat).f)) then (bif (decide ((rd l1 v32.toNat).f <x5)) then (bif (Nat.beq 1 1&&((decide (0+(v15.length+1)=(v15.length+1)))&&decide (((v15.length+1)+1+1)*(8+1)≤Us))) then (.to (.h0 ((v15++[(rd l1 v32.toNat).c])++[(rd l1 v32.toNat).f]) (IntKind.wrap .i64 (v32+1)))) else .stuck) else (.to (.h0 (v15++[(rd l1 v32.toNat).c]) (IntKind.wrap .i64 (v32+1))))) else (.to (.h0 (v15++[(rd l1 v32.toNat).c]) (IntKind.wrap .i64 (v32+1))))) else .stuck) else (bif (decide (x4<(rd l1 v32.toNat).f)) then (bif (decide ((rd l1 v32.toNat).f <x5)) then (bif (Nat.beq 1 1&&((decide (0+v15.length=v15.length))&&decide ((v15.length+1+1)*(8+1)≤Us))) then (.to (.h0 (v15++[(rd l1 v32.toNat).f]) (IntKind.wrap .i64 (v32+1)))) else .stuck) else (.to (.h0 v15 (IntKind.wrap .i64 (v32+1))))) else (.to (.h0 v15 (IntKind.wrap .i64 (v32+1)))))) else (bif (decide (x4<(rd l1 v32.toNat).f)) then (bif (decide ((rd l1 v32.toNat).f <x5)) then (bif (Nat.beq 1 1&&((decide (0+v15.length=v15.length))&&decide ((v15.length+1+1)*(8+1)≤Us))) then (.to (.h0 (v15++[(rd l1 v32.toNat).f]) (IntKind.wrap .i64 (v32+1)))) else .stuck) else (.to (.h0 v15 (IntKind.wrap .i64 (v32+1))))) else (.to (.h0 v15 (IntKind.wrap .i64 (v32+1)))))) else .stuck) else (bif (decide (v15.length<4611686018427387904)) then (bif (decide (v15.length=v15.length)) then (bif (!x6) then (.to (.h1 (Yo (Zc v15.length (cOf (Zz v15)))) (IntKind.wrap .i64 (x3 - 1)) x3 0 1)) else (.to (.h1 (Yo (Zc v15.length (cOf (Zz v15)))) x3 (IntKind.wrap .i64 (x3 - 1)) 0 1))) else .stuck) else .stuck))
 | .h1 v15 v20 v21 v22 v23=>(bif (decide (v23<(v15.length:Int))) then (bif ((decide (0≤(IntKind.wrap .i64 (v23 - 1))∧(IntKind.wrap .i64 (v23 - 1))<(v15.length:Int)))&&true) then (bif (decide ((0+(Int.toNat (IntKind.wrap .i64 (v23 - 1))))<v15.length)) then (bif (z6c (cvT l1) (IntKind.wrap .i64 (x2 - 1)) v20 (rd v15 (0+(Int.toNat (IntKind.wrap .i64 (v23 - 1)))))) then (bif (!(shsV (cvT l1) (IntKind.wrap .i64 (x2 - 1)) v20 (rd v15 (0+(Int.toNat (IntKind.wrap .i64 (v23 - 1))))))) then (bif (z6c (cvT l1) x2 v21 (rd v15 (0+(Int.toNat (IntKind.wrap .i64 (v23 - 1)))))) then (bif (!(shsV (cvT l1) x2 v21 (rd v15 (0+(Int.toNat (IntKind.wrap .i64 (v23 - 1))))))) then (bif ((decide (0≤v23∧v23<(v15.length:Int)))&&true) then (bif (decide ((0+v23.toNat)<v15.length)) then (.to (.h1 v15 v20 v21 (IntKind.wrap .i64 (v22+(IntKind.wrap .i64 ((rd v15 (0+v23.toNat)) - (rd v15 (0+(Int.toNat (IntKind.wrap .i64 (v23 - 1))))))))) (IntKind.wrap .i64 (v23+1)))) else .stuck) else .stuck) else (.to (.h1 v15 v20 v21 v22 (IntKind.wrap .i64 (v23+1))))) else .stuck) else (.to (.h1 v15 v20 v21 v22 (IntKind.wrap .i64 (v23+1))))) else .stuck) else .stuck) else .stuck) else (.ret [(.int .i64 v22)]))
def y1e (l1:List R6) (x2:Int) (x3:Int) (x4:Int) (x5:Int) (x6:Bool):Xo mpzS:=(bif (decide (x4≥x5)) then (.ret [(.int .i64 0)]) else (.to (.h0 ([x4,x5]:List Int) 0)))
theorem w2u (l1:List R6) (x2:Int) (x3:Int) (x4:Int) (x5:Int) (x6:Bool): ∀s,Xk prog (Zy prog 58) (mpzC l1 x2 x3 x4 x5 x6) (mpzC l1 x2 x3 x4 x5 x6 s) (y3a l1 x2 x3 x4 x5 x6 s)
 | .h0 v15 v32=>(lb (fun k0=>(lo fun aG=>(lb (fun k1=>(lb (fun k2=>(lo fun cG=>(lb (fun k3=>(lb (fun k4=>(lo fun o0=>(sl z2u 111 [] ⟨[0,8],[],y5h,y5i⟩ ⟨[(15,.len ((v15++[(rd l1 (tn v32)).c])++[(rd l1 (tn v32)).f]).length)],[.keep,.rowed 1 ((v15++[(rd l1 (tn v32)).c])++[(rd l1 (tn v32)).f]).length (Zz ((v15++[(rd l1 (tn v32)).c])++[(rd l1 (tn v32)).f]))],[]⟩ (bl 15 15867) (pp (xL ((v15.length+1)+1) ((v15++[(rd l1 (tn v32)).c])++[(rd l1 (tn v32)).f]).length) (pp (xL ((v15.length+1)+1) ((v15++[(rd l1 (tn v32)).c])++[(rd l1 (tn v32)).f]).length) (pp (xS ((v15.length+1)+1) (Zi (Zi (Zz v15) 0 v15.length 1 [(ii (rd l1 (tn v32)).c)]) 0 (v15.length+1) 1 [(ii (rd l1 (tn v32)).f)]) (Zz ((v15++[(rd l1 (tn v32)).c])++[(rd l1 (tn v32)).f]))) (pp (pp (xF (Zi (Zi (Zz v15) 0 v15.length 1 [(ii (rd l1 (tn v32)).c)]) 0 (v15.length+1) 1 [(ii (rd l1 (tn v32)).f)])) nn) (ww o0 (tt k4 (tt k3 (ww cG (tt k2 (tt k1 (ww aG (tt k0 nn))))))))))))))) (fun k4=>(sl z2u 105 [] ⟨[0,6],[],y5h,y5i⟩ ⟨[(15,.len (v15++[(rd l1 (tn v32)).c]).length)],[.keep,.rowed 1 (v15++[(rd l1 (tn v32)).c]).length (Zz (v15++[(rd l1 (tn v32)).c]))],[]⟩ (bl 15 7675) (pp (xL (v15.length+1) (v15++[(rd l1 (tn v32)).c]).length) (pp (xL (v15.length+1) (v15++[(rd l1 (tn v32)).c]).length) (pp (xS (v15.length+1) (Zi (Zz v15) 0 v15.length 1 [(ii (rd l1 (tn v32)).c)]) (Zz (v15++[(rd l1 (tn v32)).c]))) (pp (pp (xF (Zi (Zz v15) 0 v15.length 1 [(ii (rd l1 (tn v32)).c)])) nn) (tt k4 (tt k3 (ww cG (tt k2 (tt k1 (ww aG (tt k0 nn))))))))))))))) (fun k3=>(sl z2u 105 [] ⟨[0,6],[],y5h,y5i⟩ ⟨[(15,.len (v15++[(rd l1 (tn v32)).c]).length)],[.keep,.rowed 1 (v15++[(rd l1 (tn v32)).c]).length (Zz (v15++[(rd l1 (tn v32)).c]))],[]⟩ (bl 15 507) (pp (xL (v15.length+1) (v15++[(rd l1 (tn v32)).c]).length) (pp (xL (v15.length+1) (v15++[(rd l1 (tn v32)).c]).length) (pp (xS (v15.length+1) (Zi (Zz v15) 0 v15.length 1 [(ii (rd l1 (tn v32)).c)]) (Zz (v15++[(rd l1 (tn v32)).c]))) (pp (pp (xF (Zi (Zz v15) 0 v15.length 1 [(ii (rd l1 (tn v32)).c)])) nn) (tt k3 (ww cG (tt k2 (tt k1 (ww aG (tt k0 nn))))))))))))))) (fun k2=>(lb (fun k3=>(lb (fun k4=>(lo fun o0=>(sl z2u 105 [] ⟨[0,6],[],y5h,y5i⟩ ⟨[(15,.len (v15++[(rd l1 (tn v32)).f]).length)],[.keep,.rowed 1 (v15++[(rd l1 (tn v32)).f]).length (Zz (v15++[(rd l1 (tn v32)).f]))],[]⟩ (bl 15 15803) (pp (xL (v15.length+1) (v15++[(rd l1 (tn v32)).f]).length) (pp (xL (v15.length+1) (v15++[(rd l1 (tn v32)).f]).length) (pp (xS (v15.length+1) (Zi (Zz v15) 0 v15.length 1 [(ii (rd l1 (tn v32)).f)]) (Zz (v15++[(rd l1 (tn v32)).f]))) (pp (pp (xF (Zi (Zz v15) 0 v15.length 1 [(ii (rd l1 (tn v32)).f)])) nn) (ww o0 (tt k4 (tt k3 (tt k2 (tt k1 (ww aG (tt k0 nn)))))))))))))) (fun k4=>(sl z2u 99 [] ⟨[0,1],[],y5h,y5i⟩ ⟨[],[],[]⟩ (bl 15 7611) (pp (fl v15 nn) (tt k4 (tt k3 (tt k2 (tt k1 (ww aG (tt k0 nn))))))))))) (fun k3=>(sl z2u 99 [] ⟨[0,1],[],y5h,y5i⟩ ⟨[],[],[]⟩ (bl 15 443) (pp (fl v15 nn) (tt k3 (tt k2 (tt k1 (ww aG (tt k0 nn)))))))))))) (fun k1=>(lb (fun k2=>(lb (fun k3=>(lo fun o0=>(sl z2u 105 [] ⟨[0,6],[],y5h,y5i⟩ ⟨[(15,.len (v15++[(rd l1 (tn v32)).f]).length)],[.keep,.rowed 1 (v15++[(rd l1 (tn v32)).f]).length (Zz (v15++[(rd l1 (tn v32)).f]))],[]⟩ (bl 15 15747) (pp (xL (v15.length+1) (v15++[(rd l1 (tn v32)).f]).length) (pp (xL (v15.length+1) (v15++[(rd l1 (tn v32)).f]).length) (pp (xS (v15.length+1) (Zi (Zz v15) 0 v15.length 1 [(ii (rd l1 (tn v32)).f)]) (Zz (v15++[(rd l1 (tn v32)).f]))) (pp (pp (xF (Zi (Zz v15) 0 v15.length 1 [(ii (rd l1 (tn v32)).f)])) nn) (ww o0 (tt k3 (tt k2 (tt k1 (ww aG (tt k0 nn))))))))))))) (fun k3=>(sl z2u 99 [] ⟨[0,1],[],y5h,y5i⟩ ⟨[],[],[]⟩ (bl 15 7555) (pp (fl v15 nn) (tt k3 (tt k2 (tt k1 (ww aG (tt k0 nn)))))))))) (fun k2=>(sl z2u 99 [] ⟨[0,1],[],y5h,y5i⟩ ⟨[],[],[]⟩ (bl 15 387) (pp (fl v15 nn) (tt k2 (tt k1 (ww aG (tt k0 nn)))))))))))) (fun k0=>(lo fun aG=>(lo fun bA=>(lb (fun k1=>(sl z2u 45 [] ⟨[0,1],[],w8m,w8n⟩ ⟨[(15,.len (Yo (Zc v15.length (cOf (Zz v15)))).length)],[.keep,.rowed 1 (Yo (Zc v15.length (cOf (Zz v15)))).length (Zz (Yo (Zc v15.length (cOf (Zz v15)))))],[]⟩ (bl 2 2) (pp (xL v15.length (Yo (Zc v15.length (cOf (Zz v15)))).length (Wo (by rw [Wz,Wg]))) (pp (xL v15.length (Yo (Zc v15.length (cOf (Zz v15)))).length (Wo (by rw [Wz,Wg]))) (pp (xS v15.length (Zz (Yo (Zc v15.length (cOf (Zz v15))))) (Zz (Yo (Zc v15.length (cOf (Zz v15)))))) (pp (fl (Yo (Zc v15.length (cOf (Zz v15)))) nn) (tt k1 (pp (pp (xG (Nat.beq 1 1)) (pp (xG (Nat.beq 1 1)) (pp (xG (Nat.beq 0 0)) (pp (xG (decide (v15.length=v15.length))) (pp (xG (isI (Zz v15))) (xG (decide (v15.length<4611686018427387904)))))))) (tt k0 nn))))))))) (fun k1=>(sl z2u 39 [] ⟨[0,1],[],w8m,w8n⟩ ⟨[(15,.len (Yo (Zc v15.length (cOf (Zz v15)))).length)],[.keep,.rowed 1 (Yo (Zc v15.length (cOf (Zz v15)))).length (Zz (Yo (Zc v15.length (cOf (Zz v15)))))],[]⟩ (bl 2 0) (pp (xL v15.length (Yo (Zc v15.length (cOf (Zz v15)))).length (Wo (by rw [Wz,Wg]))) (pp (xL v15.length (Yo (Zc v15.length (cOf (Zz v15)))).length (Wo (by rw [Wz,Wg]))) (pp (xS v15.length (Zz (Yo (Zc v15.length (cOf (Zz v15))))) (Zz (Yo (Zc v15.length (cOf (Zz v15)))))) (pp (fl (Yo (Zc v15.length (cOf (Zz v15)))) nn) (tt k1 (pp (pp (xG (Nat.beq 1 1)) (pp (xG (Nat.beq 1 1)) (pp (xG (Nat.beq 0 0)) (pp (xG (decide (v15.length=v15.length))) (pp (xG (isI (Zz v15))) (xG (decide (v15.length<4611686018427387904)))))))) (tt k0 nn))))))))))))))
 | .h1 v15 v20 v21 v22 v23=>(lb (fun k0=>(lo fun aG=>(lo fun bA=>(lo fun bX=>(lb (fun k1=>(lo fun bS=>(lb (fun k2=>(lo fun o0=>(lo fun o1=>(sl z2u 23 [] ⟨[0,1],[],w8m,w8n⟩ ⟨[],[],[]⟩ (trs 15 []) (pp (fl v15 nn) (ww bA (ww aG (ww o1 (ww o0 (tt k2 (pp (pp (xr l1) (xw bS)) (ww bA (ww aG (tt k1 (pp (pp (xr l1) (xw bX)) (ww bA (ww aG (tt k0 nn)))))))))))))))))) (fun k2=>(sl z2u 23 [] ⟨[0,1],[],w8m,w8n⟩ ⟨[],[],[]⟩ (trs 14 [false]) (pp (fl v15 nn) (tt k2 (pp (pp (xr l1) (xw bS)) (ww bA (ww aG (tt k1 (pp (pp (xr l1) (xw bX)) (ww bA (ww aG (tt k0 nn))))))))))))))) (fun k1=>(sl z2u 23 [] ⟨[0,1],[],w8m,w8n⟩ ⟨[],[],[]⟩ (bl 15 1) (pp (fl v15 nn) (tt k1 (pp (pp (xr l1) (xw bX)) (ww bA (ww aG (tt k0 nn))))))))))))) (fun k0=>(lr 122 3 [1,1,1,1,1,1,1,0] 1 58 [(14,(ii v22))] (sl z2u 15 [] ⟨[],[],[some [14]],[]⟩ ⟨[],[],[]⟩ [false] (tt k0 nn)))))
theorem x5s (l1:List R6) (x2:Int) (x3:Int) (x4:Int) (x5:Int) (x6:Bool):Xk prog (Zy prog 58) (mpzC l1 x2 x3 x4 x5 x6) (Ze prog 58 [(.agg [(.fn 111 []),(.fn 112 []),(.fn 113 [])]),(.dat l1.length (Zz l1)),(.int .i64 x2),(.int .i64 x3),(.int .i64 x4),(.int .i64 x5),(.bool x6)] true []) (y1e l1 x2 x3 x4 x5 x6):=(lb (fun k0=>(lr 122 58 [1,0,1,0,0] 1 58 [(14,(ii 0))] (sl z2u 17 [] ⟨[],[],[some [14]],[]⟩ ⟨[],[],[]⟩ [true] (tt k0 nn)))) (fun k0=>(sl z2u 30 [] ⟨[0,1],[],y5h,y5i⟩ ⟨[(15,.grow 1 1)],[.keep,.rowed 1 ([x4,x5]:List Int).length (Zz ([x4,x5]:List Int))],[]⟩ [false] (pp (xG (x4u [(ii x4),(ii x5)] 1 ([x4,x5]:List Int).length (Zz ([x4,x5]:List Int)))) (tt k0 nn)))))
theorem v4h (l1:List R6) (x2:Int) (x3:Int) (x4:Int) (x5:Int) (x6:Bool) (n:Nat) (vs:List AVal) (h:Yk (y3a l1 x2 x3 x4 x5 x6) n (y1e l1 x2 x3 x4 x5 x6)=.ret vs):Kv prog (Zy prog 58) (Ze prog 58 [(.agg [(.fn 111 []),(.fn 112 []),(.fn 113 [])]),(.dat l1.length (Zz l1)),(.int .i64 x2),(.int .i64 x3),(.int .i64 x4),(.int .i64 x5),(.bool x6)] true []) vs:=by have:=Zr (w2u l1 x2 x3 x4 x5 x6) n _ (x5s l1 x2 x3 x4 x5 x6);rwa [h] at this
end Go.Am
namespace Go.Am
open Go.Proofs.Tryz
open Go.Proofs Go.Sort Go.Shelf Go.RowKit Go.Lib
def Ax.l (q:Ax) (a b c:Int):Int:=match q with
 | .x =>a
 | .y =>b
 | .z =>c
def Ax.u (q:Ax) (a b:Int):Int:=match q with
 | .x =>b
 | .y =>a
 | .z =>a
def Ax.w (q:Ax) (a b:Int):Int:=match q with
 | .x =>b
 | .y =>b
 | .z =>a
def two2 :List R6:=[⟨0,0,0,1,1,1⟩,⟨1,1,0,2,2,1⟩]
def eqT (r s:R6):Bool:=(r.a == s.a)&&((r.b == s.b)&&((r.c == s.c)&&((r.d == s.d)&&((r.e == s.e)&&(r.f == s.f)))))
theorem u0r {r s:R6} (h:eqT r s=true):r=s:=by
 obtain ⟨a,b,c,d,e,f⟩:=r;obtain ⟨a',b',c',d',e',f'⟩:=s
 simpa [eqT] using h
def v5h :List R6→Bool
 | [r,s]=>eqT r ⟨0,0,0,1,1,1⟩&&eqT s ⟨1,1,0,2,2,1⟩
 | _=>false
theorem w0h {L:List R6} (h:v5h L=true):L=two2:=by
 unfold v5h at h;split at h
 ·simp only [Bool.and_eq_true] at h;rw [u0r h.1,u0r h.2];rfl
 ·cases h
def isZ :Ax→Bool
 | .z =>true
 | _=>false
def mpoV (q:Ax) (L:List R6) (x y lo hi:Int) (b:Bool):Int:=1
def Qa (q:Ax) (L:List R6) (x y lo hi:Int) (b:Bool):Bool:=isZ q&&(v5h L&&((x == 1)&&((y == 1)&&((lo == 0)&&((hi == 1)&&b)))))
theorem srt01 :Yo [0,1]=[0,1]:=List.mergeSort_of_pairwise (by simp)
theorem u3w {q:Ax} {L:List R6} {x y lo hi:Int} {b:Bool} (h:Qa q L x y lo hi b=true):q=.z ∧ ∃N,Yk (y3a L x y lo hi b) N (y1e L x y lo hi b)=.ret [.int .i64 (mpoV q L x y lo hi b)]:=by
 simp only [Qa,Bool.and_eq_true] at h;obtain ⟨hq,hL,hx,hy,hlo,hhi,rfl⟩:=h;obtain rfl:=w0h hL;obtain rfl:=eq_of_beq hx;obtain rfl:=eq_of_beq hy;obtain rfl:=eq_of_beq hlo;obtain rfl:=eq_of_beq hhi;refine ⟨(by cases q <;> first | rfl | cases hq),3+2+3,?_⟩;have e1:Yk (y3a two2 1 1 0 1 true) (5+3) (y1e two2 1 1 0 1 true)=Yk (y3a two2 1 1 0 1 true) 5 (.to (.h1 (Yo (Zc ([0,1]:List Int).length (cOf (Zz ([0,1]:List Int))))) 1 0 0 1)):=by kernel_rfl
 refine e1.trans ?_;rw [Wg,srt01];kernel_rfl
def fMpo :List AVal→Option (AVal×Bool)
 | [.agg [.fn a [],.fn b [],.fn c []],a1,.int .i64 x2,.int .i64 x3,.int .i64 x4,.int .i64 x5,.bool x6]=>match axOf a b c,asL R6 a1 with
  | some q,some (L1,g1,n1)=>some (.int .i64 (mpoV q L1 x2 x3 x4 x5 x6),isT R6 n1 g1&&(Qa q L1 x2 x3 x4 x5 x6))
  | _,_=>none
 | _=>none
theorem u5x {S:Specs} (hS:Zu prog S):Zu prog (S.with v9m fMpo):=by
 refine z3s hS (by kernel_rfl) fun args v h=> ?_;unfold fMpo at h;split at h
 ·rename_i a b c a1 x2 x3 x4 x5 x6;split at h
  ·rename_i q L1 g1 n1 eq e1;simp only [Option.some.injEq,Prod.mk.injEq,Bool.and_eq_true] at h;obtain ⟨rfl,ho1,hw⟩:=h;obtain ⟨rfl,rfl,rfl⟩:=x7w eq;obtain ⟨rfl,N,hN⟩:=u3w hw;exact ⟨_,_,(.cons (.refl _) (.cons (asL_le e1 ho1) (.cons (.refl _) (.cons (.refl _) (.cons (.refl _) (.cons (.refl _) (.cons (.refl _) .nil))))))),rfl,v4h L1 x2 x3 x4 x5 x6 N _ hN,3,rfl⟩
  ·cases h
 ·cases h
def Mj :Specs:=Mi.with v9m fMpo
theorem z4r :Zu prog Mj:=u5x z2u
end Go.Am
namespace Go.Am
open Go.Proofs.Tryz
open Go.Proofs
inductive mpiS where
 | h0 (q:Ax) (v5:Int) (v26:Int)
 | h1 (q:Ax) (v5:Int) (v26:Int) (v33:List R6) (v34:Int) (v35:Int) (aN:Int) (aX:Int) (bF:Int) (bG:Int) (bK:Int) (bO:Int)
def y9c (l0:List R6):mpiS→Cfg
 | .h0 q v5 v26=>⟨⟨125,0,true⟩,none,(Zd prog 17 [1,1,1,0,1,0,0,1,1,0,0,1,1,0,0] 0),none,(Zy prog 15),⟨Yc [(0,(.dat l0.length (Zz l0))),(5,(ii v5)),(7,(.ptr 0 0)),(20,(.agg [(.fn 105 []),(.fn 106 []),(.fn 107 []),(.fn 108 []),(.fn 109 []),(.fn 110 []),(.fn 111 []),(.fn 112 []),(.fn 113 [])])),(21,(ii q.ix)),(24,(.dat l0.length (Zz l0))),(25,(ii (l0.length:Int))),(26,(ii v26))],Un [⟨[(.fn (nV1 q) []),(.fn (nV2 q) []),(.fn (nV3 q) [])],84,none⟩] 0,1,[],true⟩,[],.leaf⟩
 | .h1 q v5 v26 v33 v34 v35 aN aX bF bG bK bO=>⟨⟨125,0,true⟩,none,(Zd prog 17 [1,1,1,0,1,0,0,1,1,0,0,1,1,0,0,1,1,0,0,1,1,0,0] 0),none,(Zy prog 15),⟨Yc [(0,(.dat l0.length (Zz l0))),(5,(ii v5)),(7,(.ptr 0 0)),(9,(.ptr 1 0)),(20,(.agg [(.fn 105 []),(.fn 106 []),(.fn 107 []),(.fn 108 []),(.fn 109 []),(.fn 110 []),(.fn 111 []),(.fn 112 []),(.fn 113 [])])),(21,(ii q.ix)),(24,(.dat l0.length (Zz l0))),(25,(ii (l0.length:Int))),(26,(ii v26)),(33,(.dat v33.length (Zz v33))),(34,(ii v34)),(35,(ii v35))],Un [⟨[(.fn (nV1 q) []),(.fn (nV2 q) []),(.fn (nV3 q) [])],84,none⟩,⟨[(ii aN),(ii aX),(ii bF),(ii bG),(ii bK),(ii bO)],67,none⟩] 0,2,[],true⟩,[],.leaf⟩
def v4j :List (Option (List Nat)):=[some [0,5,7,20,21,24,25,26]]
def v4k :List (Option (List Nat)):=[]
def y9a :List (Option (List Nat)):=[some [0,5,7,9,20,21,24,25,26,33,34,35]]
def y9b :List (Option (List Nat)):=[]
def mpiE (q:Ax) (v5:Int):Xo mpiS:=match q with
 | .x =>(.to (.h0 .y v5 0))
 | .y =>(.to (.h0 .z v5 0))
 | .z =>(.ret [(.int .i64 v5),(.int .i64 0)])
def z5k (l0:List R6):mpiS→Xo mpiS
 | .h0 q v5 v26=>(bif (decide (v26<(l0.length:Int))) then (bif ((decide (0≤v26∧v26<(l0.length:Int)))&&true) then (bif (decide (0≤v26.toNat)) then (bif (decide (v26.toNat≤l0.length)) then (bif (decide (0≤v26)) then (.to (.h1 q v5 v26 (z3k l0 0 v26.toNat) ((v26.toNat:Nat):Int) 0 (rd l0 v26.toNat).a (rd l0 v26.toNat).b (rd l0 v26.toNat).c (rd l0 v26.toNat).d (rd l0 v26.toNat).e (rd l0 v26.toNat).f)) else .stuck) else .stuck) else .stuck) else .stuck) else (mpiE q v5))
 | .h1 q v5 v26 v33 v34 v35 aN aX bF bG bK bO=>(bif (decide (v35<v34)) then (bif ((decide (0≤v35∧v35<(v33.length:Int)))&&true) then (bif (decide ((q.rc (rd v33 v35.toNat)).a <(q.u aN aX))) then (bif ((q.rc (rd v33 v35.toNat)).c != (q.u aN aX)) then (.to (.h1 q v5 v26 v33 v34 (IntKind.wrap .i64 (v35+1)) aN aX bF bG bK bO)) else (bif ((q.rc (rd v33 v35.toNat)).d != (q.w aX bF)) then (bif ((q.w bK bO) != (q.rc (rd v33 v35.toNat)).b) then (.to (.h1 q v5 v26 v33 v34 (IntKind.wrap .i64 (v35+1)) aN aX bF bG bK bO)) else (bif (Qa q (cvT l0) (q.rc (rd v33 v35.toNat)).c (q.rc (rd v33 v35.toNat)).b (z5o (q.l aN aX bF) (q.lo (rd v33 v35.toNat))) (z5n (q.l bG bK bO) (q.hi (rd v33 v35.toNat))) ((q.rc (rd v33 v35.toNat)).d == (q.w aX bF))) then (.to (.h1 q (IntKind.wrap .i64 (v5+(mpoV q (cvT l0) (q.rc (rd v33 v35.toNat)).c (q.rc (rd v33 v35.toNat)).b (z5o (q.l aN aX bF) (q.lo (rd v33 v35.toNat))) (z5n (q.l bG bK bO) (q.hi (rd v33 v35.toNat))) ((q.rc (rd v33 v35.toNat)).d == (q.w aX bF))))) v26 v33 v34 (IntKind.wrap .i64 (v35+1)) aN aX bF bG bK bO)) else .stuck)) else (bif (Qa q (cvT l0) (q.rc (rd v33 v35.toNat)).c (q.rc (rd v33 v35.toNat)).d (z5o (q.l aN aX bF) (q.lo (rd v33 v35.toNat))) (z5n (q.l bG bK bO) (q.hi (rd v33 v35.toNat))) ((q.rc (rd v33 v35.toNat)).d == (q.w aX bF))) then (.to (.h1 q (IntKind.wrap .i64 (v5+(mpoV q (cvT l0) (q.rc (rd v33 v35.toNat)).c (q.rc (rd v33 v35.toNat)).d (z5o (q.l aN aX bF) (q.lo (rd v33 v35.toNat))) (z5n (q.l bG bK bO) (q.hi (rd v33 v35.toNat))) ((q.rc (rd v33 v35.toNat)).d == (q.w aX bF))))) v26 v33 v34 (IntKind.wrap .i64 (v35+1)) aN aX bF bG bK bO)) else .stuck))) else (bif ((q.u bG bK) != (q.rc (rd v33 v35.toNat)).a) then (.to (.h1 q v5 v26 v33 v34 (IntKind.wrap .i64 (v35+1)) aN aX bF bG bK bO)) else (bif ((q.w bK bO) != (q.rc (rd v33 v35.toNat)).b) then (bif ((q.rc (rd v33 v35.toNat)).d != (q.w aX bF)) then (.to (.h1 q v5 v26 v33 v34 (IntKind.wrap .i64 (v35+1)) aN aX bF bG bK bO)) else (bif (Qa q (cvT l0) (q.u bG bK) (q.w aX bF) (z5o (q.l aN aX bF) (q.lo (rd v33 v35.toNat))) (z5n (q.l bG bK bO) (q.hi (rd v33 v35.toNat))) ((q.w bK bO) == (q.rc (rd v33 v35.toNat)).b)) then (.to (.h1 q (IntKind.wrap .i64 (v5+(mpoV q (cvT l0) (q.u bG bK) (q.w aX bF) (z5o (q.l aN aX bF) (q.lo (rd v33 v35.toNat))) (z5n (q.l bG bK bO) (q.hi (rd v33 v35.toNat))) ((q.w bK bO) == (q.rc (rd v33 v35.toNat)).b)))) v26 v33 v34 (IntKind.wrap .i64 (v35+1)) aN aX bF bG bK bO)) else .stuck)) else (bif (Qa q (cvT l0) (q.u bG bK) (q.w bK bO) (z5o (q.l aN aX bF) (q.lo (rd v33 v35.toNat))) (z5n (q.l bG bK bO) (q.hi (rd v33 v35.toNat))) ((q.w bK bO) == (q.rc (rd v33 v35.toNat)).b)) then (.to (.h1 q (IntKind.wrap .i64 (v5+(mpoV q (cvT l0) (q.u bG bK) (q.w bK bO) (z5o (q.l aN aX bF) (q.lo (rd v33 v35.toNat))) (z5n (q.l bG bK bO) (q.hi (rd v33 v35.toNat))) ((q.w bK bO) == (q.rc (rd v33 v35.toNat)).b)))) v26 v33 v34 (IntKind.wrap .i64 (v35+1)) aN aX bF bG bK bO)) else .stuck)))) else .stuck) else (.to (.h0 q v5 (IntKind.wrap .i64 (v26+1)))))
def y1f (l0:List R6):Xo mpiS:=(bif (z1m (cvT l0)) then (bif ((Wc (cvT l0)) != 0) then (.ret [(.int .i64 0),(.int .i64 (Wc (cvT l0)))]) else (.to (.h0 .x 0 0))) else .stuck)
theorem u4a (l0:List R6) (v5:Int) (v26:Int) (k0:(decide (v26<(l0.length:Int)))=false):Xk prog (Zy prog 17) (y9c l0) (y9c l0 (.h0 .x v5 v26)) (mpiE .x v5):=(sl z4r 36 [] ⟨[1],[],v4j,v4k⟩ ⟨[],[],[]⟩ [false,true,true,false] (tt k0 nn))
theorem u3z (l0:List R6) (v5:Int) (v26:Int) (k0:(decide (v26<(l0.length:Int)))=false):Xk prog (Zy prog 17) (y9c l0) (y9c l0 (.h0 .y v5 v26)) (mpiE .y v5):=(sl z4r 36 [] ⟨[1],[],v4j,v4k⟩ ⟨[],[],[]⟩ [false,true,true,true,false] (tt k0 nn))
theorem u3y (l0:List R6) (v5:Int) (v26:Int) (k0:(decide (v26<(l0.length:Int)))=false):Xk prog (Zy prog 17) (y9c l0) (y9c l0 (.h0 .z v5 v26)) (mpiE .z v5):=(lr 125 3 [1,1,1,1,1,1,1,0] 1 15 [(2,(ii v5)),(3,(ii 0))] (sl z4r 26 [] ⟨[],[],[some [2,3]],[]⟩ ⟨[],[],[]⟩ [false,false] (tt k0 nn)))
theorem mpi_ex (q:Ax) (l0:List R6) (v5:Int) (v26:Int) (k0:(decide (v26<(l0.length:Int)))=false):Xk prog (Zy prog 17) (y9c l0) (y9c l0 (.h0 q v5 v26)) (mpiE q v5):=match q with
 | .x =>u4a l0 v5 v26 k0
 | .y =>u3z l0 v5 v26 k0
 | .z =>u3y l0 v5 v26 k0
theorem mpi_s0 (q:Ax) (l0:List R6) (v5:Int) (v26:Int):Xk prog (Zy prog 17) (y9c l0) (y9c l0 (.h0 q v5 v26)) (z5k l0 (.h0 q v5 v26)):=by cases q <;> refine (?f: ∀q:Ax,Xk prog (Zy prog 17) (y9c l0) (y9c l0 (.h0 q v5 v26)) (z5k l0 (.h0 q v5 v26))) _ <;> exact fun q=>(lb (fun k0=>(lo fun o0=>(lo fun o1=>(lo fun o2=>(lo fun o3=>(sl z4r 28 [] ⟨[0,1],[],y9a,y9b⟩ ⟨[(33,.list (z3k l0 0 (tn v26)).length (Zz (z3k l0 0 (tn v26))))],[],[]⟩ [true] (pp (xL (tn v26) (z3k l0 0 (tn v26)).length) (pp (xS (tn v26) (fun k=>(Zz l0) (0+k)) (Zz (z3k l0 0 (tn v26)))) (pp (pp (xw o3) (pp nn (pp (xG (decide ((tn v26)≤l0.length))) (pp (xG (decide (0≤(tn v26)))) (xG (lenR l0.length (Zz l0) 6)))))) (ww o0 (tt k0 nn))))))))))) (fun k0=>mpi_ex q l0 v5 v26 k0))
theorem mpi_s1 (q:Ax) (l0:List R6) (v5:Int) (v26:Int) (v33:List R6) (v34:Int) (v35:Int) (aN:Int) (aX:Int) (bF:Int) (bG:Int) (bK:Int) (bO:Int):Xk prog (Zy prog 17) (y9c l0) (y9c l0 (.h1 q v5 v26 v33 v34 v35 aN aX bF bG bK bO)) (z5k l0 (.h1 q v5 v26 v33 v34 v35 aN aX bF bG bK bO)):=by cases q <;> refine (?f: ∀q:Ax,Xk prog (Zy prog 17) (y9c l0) (y9c l0 (.h1 q v5 v26 v33 v34 v35 aN aX bF bG bK bO)) (z5k l0 (.h1 q v5 v26 v33 v34 v35 aN aX bF bG bK bO))) _ <;> exact fun q=>(lb (fun k0=>(lo fun aG=>(lb (fun k1=>(lb (fun k2=>(sl z4r 64 [] ⟨[0,1],[],y9a,y9b⟩ ⟨[],[],[]⟩ (trs 10 []) (tt k2 (tt k1 (ww aG (tt k0 nn)))))) (fun k2=>(lb (fun k3=>(lb (fun k4=>(sl z4r 64 [] ⟨[0,1],[],y9a,y9b⟩ ⟨[],[],[]⟩ [true,true,false,false,false,false,false,false,true,true,true,true,true,false,true] (tt k4 (tt k3 (tt k2 (tt k1 (ww aG (tt k0 nn)))))))) (fun k4=>(lo fun o0=>(sl z4r 87 [] ⟨[0,1],[],y9a,y9b⟩ ⟨[],[],[]⟩ [true,true,false,false,false,false,false,false,true,true,true,true,true,false,false,true] (pp (pp (pp nn (pp nn (pp nn (pp nn (pp nn (pp nn (pp nn nn))))))) (pp (xr l0) (xw o0))) (tt k3 (tt k4 (tt k3 (tt k2 (tt k1 (ww aG (tt k0 nn))))))))))))) (fun k3=>(lo fun o0=>(sl z4r 83 [] ⟨[0,1],[],y9a,y9b⟩ ⟨[],[],[]⟩ [true,true,false,false,false,false,false,false,false,false,false,false,false,false,false,false] (pp (pp (pp nn (pp nn (pp nn (pp nn (pp nn (pp nn (pp nn nn))))))) (pp (xr l0) (xw o0))) (tt k3 (tt k3 (tt k2 (tt k1 (ww aG (tt k0 nn)))))))))))))) (fun k1=>(lb (fun k2=>(sl z4r 59 [] ⟨[0,1],[],y9a,y9b⟩ ⟨[],[],[]⟩ [true,false,true,true,true,true,true,true,true,true] (tt k2 (tt k1 (ww aG (tt k0 nn)))))) (fun k2=>(lb (fun k3=>(lb (fun k4=>(sl z4r 59 [] ⟨[0,1],[],y9a,y9b⟩ ⟨[],[],[]⟩ [true,false,false,false,false,false,false,false,true,true,true,true,true,false,true] (tt k4 (tt k3 (tt k2 (tt k1 (ww aG (tt k0 nn)))))))) (fun k4=>(lo fun o0=>(sl z4r 82 [] ⟨[0,1],[],y9a,y9b⟩ ⟨[],[],[]⟩ [true,false,false,false,false,false,false,false,true,true,true,true,true,false,false,true] (pp (pp (pp nn (pp nn (pp nn (pp nn (pp nn (pp nn (pp nn nn))))))) (pp (xr l0) (xw o0))) (tt k3 (tt k4 (tt k3 (tt k2 (tt k1 (ww aG (tt k0 nn))))))))))))) (fun k3=>(lo fun o0=>(sl z4r 78 [] ⟨[0,1],[],y9a,y9b⟩ ⟨[],[],[]⟩ [true,false,false,false,false,false,false,false,false,false,false,false,false,false,false,false] (pp (pp (pp nn (pp nn (pp nn (pp nn (pp nn (pp nn (pp nn nn))))))) (pp (xr l0) (xw o0))) (tt k3 (tt k3 (tt k2 (tt k1 (ww aG (tt k0 nn))))))))))))))))) (fun k0=>(sl z4r 13 [] ⟨[0],[],v4j,v4k⟩ ⟨[],[],[]⟩ [false] (tt k0 nn))))
theorem w2v (l0:List R6): ∀s,Xk prog (Zy prog 17) (y9c l0) (y9c l0 s) (z5k l0 s)
 | .h0 q v5 v26=>mpi_s0 q l0 v5 v26
 | .h1 q v5 v26 v33 v34 v35 aN aX bF bG bK bO=>mpi_s1 q l0 v5 v26 v33 v34 v35 aN aX bF bG bK bO
theorem x5t (l0:List R6):Xk prog (Zy prog 17) (y9c l0) (Ze prog 17 [(.dat l0.length (Zz l0))] true []) (y1f l0):=(lo fun bW=>(lb (fun k0=>(lr 125 17 [1,0,1,1,0,0] 1 15 [(2,(ii 0)),(3,(ii (Wc (cvT l0))))] (sl z4r 24 [] ⟨[],[],[some [2,3]],[]⟩ ⟨[],[],[]⟩ [true] (tt k0 (pp (pp (xr l0) (xw bW)) nn))))) (fun k0=>(sl z4r 67 [] ⟨[1],[],v4j,v4k⟩ ⟨[],[],[]⟩ [false,true,false] (tt k0 (pp (pp (xr l0) (xw bW)) nn))))))
theorem v4i (l0:List R6) (n:Nat) (vs:List AVal) (h:Yk (z5k l0) n (y1f l0)=.ret vs):Kv prog (Zy prog 17) (Ze prog 17 [(.dat l0.length (Zz l0))] true []) vs:=by have:=Zr (w2v l0) n _ (x5t l0);rwa [h] at this
end Go.Am
namespace Go.Am
open Go.Proofs Go.Sort Go.Shelf Go.RowKit Go.Lib
def ind (a b t:Int):Int:=if a≤t∧t<b then 1 else 0
def Pts (p:List Int):Prop:=(∀a b,-1000005≤a∧b≤1000005→sm p (ind a b)=max 0 (b - a))∧p.length=2000010
def inR (r:R6) (x y z:Int):Int:=ind r.a r.d x*ind r.b r.e y*ind r.c r.f z
end Go.Am
namespace Go.Am
open Go.Proofs Go.Sort Go.Shelf Go.RowKit Go.Lib
theorem sm_pos {α:Type} {l:List α} {f:α→Int} (h:sm l f≠0): ∃x∈l,f x≠0:=Classical.byContradiction fun hn=>h (by
 have:sm l f=sm l fun _=>0:=v2c fun x hx=>Classical.byContradiction fun e=>hn ⟨x,hx,e⟩;rw [this,u1t])
theorem x5m {p:List Int} (hp:Pts p) {t:Int} (h: -1000005≤t∧t<1000005):t∈p:=by
 have h1:=hp.1 t (t+1) (by omega);have h2:sm p (ind t (t+1))≠0:=by rw [h1];omega
 obtain ⟨x,hx,hn⟩:=sm_pos h2;unfold ind at hn;split at hn
 ·have:x=t:=by omega
  rwa [←this]
 ·exact absurd rfl hn
def inS (X:List R6) (x y z:Int):Prop:= ∃r∈X,(r.a≤x∧x<r.d)∧(r.b≤y∧y<r.e)∧(r.c≤z∧z<r.f)
theorem w9g (X:List R6) (x y z:Int):inS X x y z↔ptL x4i.inB X (z,x,y):=by
 constructor
 ·rintro ⟨r,hr,h1,h2,h3⟩;exact ⟨r,hr,h3.1,h3.2,h1.1,h1.2,h2.1,h2.2⟩
 ·rintro ⟨r,hr,h1,h2,h3,h4,h5,h6⟩;exact ⟨r,hr,⟨h3,h4⟩,⟨h5,h6⟩,h1,h2⟩
structure Sol (X:List R6):Prop where
 len:X.length≤400
 val: ∀r∈X,Qu r=true
 ap:X.Pairwise Ap6
theorem Sol.of {X:List R6} (h:Wc X=0):Sol X:=⟨(Xr h).1,(Xr h).2.1,(Xr h).2.2.2⟩
theorem Sol.bnd {X:List R6} (h:Sol X) {x y z:Int} (hp:inS X x y z):(-1000000≤x∧x<1000000)∧(-1000000≤y∧y<1000000)∧(-1000000≤z∧z<1000000):=by obtain ⟨r,hr,h1,h2,h3⟩:=hp;have:=z2v (h.val r hr);omega
theorem Sol.pts {p:List Int} (hp:Pts p) {X:List R6} (h:Sol X) {x y z:Int} (hq:inS X x y z):x∈p∧y∈p∧z∈p:=by have:=h.bnd hq;exact ⟨x5m hp (by omega),x5m hp (by omega),x5m hp (by omega)⟩
end Go.Am
namespace Go.Am
open Go.Proofs Go.Sort Go.Shelf Go.RowKit Go.Lib
theorem Dim.goS_cg {α β:Type} (D:Dim α β) (f g:Int→List β) (cs:List Int): ∀(k i:Nat) (s:Sw α β),(∀j,i≤j→j<i+k→f (rd cs j)=g (rd cs j))→D.goS f cs k i s=D.goS g cs k i s
 | 0,i,s,_=>rfl
 | k+1,i,s,h=>by show D.goS f cs k (i+1) (D.oneS (f (rd cs i)) _ _ s)=D.goS g cs k (i+1) (D.oneS (g (rd cs i)) _ _ s);rw [h i (Nat.le_refl _) (by omega)];exact goS_cg D f g cs k (i+1) _ fun j h1 h2=>h j (by omega) (by omega)
theorem x2u {n:Nat} (h:y7u n=0):n≤400:=by
 unfold y7u at h;by_cases q:(n:Int)>400
 ·rw [decide_eq_true q] at h;cases h
 ·omega
theorem x5b {l:List R4} (h:Xg l=0):l.length≤400∧(∀r∈l,Vy r=true)∧Za l=D4.out l:=by
 unfold Xg at h;cases g1:decide (400<l.length) with
 | true=>rw [g1] at h;cases h
 | false=>
  cases g2:l.all Vy with
  | false=>rw [g1,g2] at h;cases h
  | true=>
   rw [g1,g2,cond_false,cond_true] at h;have hl:l.length≤400:=by have:=of_decide_eq_false g1;omega
   refine ⟨hl,List.all_eq_true.1 g2,?_⟩;exact (z6l (List.all_eq_true.1 g2) hl (x2u h)).1
theorem x9n {l:List R6}: ∀(k i:Nat),okF l k i=true→ ∀j,i≤j→j<i+k→Xg (D6.inn l (rd (D6.cuts l) j))=0
 | 0,i,h,j,h1,h2=>by omega
 | k+1,i,h,j,h1,h2=>by
  unfold okF at h;rcases Yn (v1c l (rd (D6.cuts l) i)) with q | q
  ·rw [q] at h;cases h
  ·rw [q,cond_false] at h;rcases Nat.eq_or_lt_of_le h1 with e | e
   ·rw [←e];unfold v1c at q
    simpa using q
   ·exact x9n k (i+1) h j e (by omega)
theorem x8t {l:List R6} (h:Jq l=0):l.length≤400∧(∀r∈l,Qu r=true)∧okF l ((D6.cuts l).length - 1) 0=true∧(D6.out l).length ≤400:=by
 unfold Jq at h;cases g1:decide (400<l.length) with
 | true=>rw [g1] at h;cases h
 | false=>
  cases g2:l.all Qu with
  | false=>rw [g1,g2] at h;cases h
  | true=>
   rw [g1,g2,cond_false,cond_true] at h;cases g3:okF l ((D6.cuts l).length - 1) 0 with
   | false=>rw [g3,cond_false] at h;have:=v6g _ _ g3;rw [h] at this;cases this
   | true=>rw [g3,cond_true] at h;exact ⟨by have:=of_decide_eq_false g1;omega,List.all_eq_true.1 g2,rfl,x2u h⟩
theorem w5w {l:List R6} (h:Jq l=0):Xq l=D6.out l:=by unfold Xq y9s;rw [h];rfl
theorem w5x {l:List R6} (h:Jq l=0):x4i.can (Xq l)∧ ∀x y z,inS (Xq l) x y z↔inS l x y z:=by
 obtain ⟨hl,hv,hok,ho⟩:=x8t h;have hf:=x9n _ _ hok;rw [w5w h];have hc:(D6.cuts l).Pairwise (· < ·):=by show (Ur (D6.ends l)).Pairwise (· < ·);rw [Ug];exact (Xf _).1
 have eS:D6.out l=(D6.goS (fun x=>bif Xg (D6.inn l x) != 0 then [] else Za (D6.inn l x)) (D6.cuts l) ((D6.cuts l).length - 1) 0 ⟨[],[],0,0⟩).out :=by unfold Dim.out;rw [D6.go_goS,D6.goS_cg (D6.sec l) (fun x=>bif Xg (D6.inn l x) != 0 then [] else Za (D6.inn l x))];intro j h1 h2;show _=bif Xg (D6.inn l _) != 0 then _ else _;rw [hf j h1 h2];rfl
 have hs: ∀x,Xs.can (bif Xg (D6.inn l x) != 0 then [] else Za (D6.inn l x)):=fun x=>by
  cases g:(Xg (D6.inn l x) != 0) with
  | true=>exact Xs.nil
  | false=>obtain ⟨m1,m2,m3⟩:=x5b (show Xg (D6.inn l x)=0 by simpa using g);rw [cond_false,m3];exact (Kb m2 m1).1
 obtain ⟨h1,h2⟩:=Dim.goS_can z2n x0y Xs (cs:=D6.cuts l) hc hs;rw [eS];refine ⟨h1,fun x y z=> ?_⟩;rw [w9g,w9g,show ptL x4i.inB _ (z,x,y)↔_ from h2 z (x,y)];have ia: ∀j,j+1<(D6.cuts l).length →rd (D6.cuts l) j≤z→z<rd (D6.cuts l) (j+1)→(ptL Xs.inB (bif Xg (D6.inn l (rd (D6.cuts l) j)) != 0 then [] else Za (D6.inn l (rd (D6.cuts l) j))) (x,y)↔ptL x4i.inB l (z,x,y)):=fun j j1 j2 j3=>by have q:=hf j (Nat.zero_le _) (by omega);obtain ⟨m1,m2,m3⟩:=x5b q;rw [q,show ((0:Int) != 0)=false from rfl,cond_false,m3,(Kb m2 m1).2,Dim.inn_slab l l (fun r hr=>hr) j1 j2 j3];exact Dim.pt_inn (D:=D6) Xs.inB l z (x,y)
 constructor
 ·rintro ⟨j,j1,j2,j3,j4⟩;exact (ia j j1 j2 j3).1 j4
 ·intro hp;refine Classical.byContradiction fun hn=> ?_;have hx: ∀j,j+1<(D6.cuts l).length → ¬(rd (D6.cuts l) j≤z∧z<rd (D6.cuts l) (j+1)):=fun j j1 j2=>hn ⟨j,j1,j2.1,j2.2,(ia j j1 j2.1 j2.2).2 hp⟩;have g:=(Dim.pt_inn (D:=D6) Xs.inB l z (x,y)).2 hp;rw [Dim.inn_out l l (fun r hr=>hr) hx] at g;exact z3g _ _ g
theorem x8u {L:List R6} (h:Wc L=0):Jq L=0∧Xq L=L:=by
 have hs:=Xr h;have key:Jq L=0:=by
  unfold Wc at h;unfold Jq;cases g1:decide (400<L.length) with
  | true=>rw [g1] at h;cases h
  | false=>
   cases g2:L.all Qu with
   | false=>rw [g1,g2] at h;cases h
   | true=>
    rw [g1,g2,cond_false,cond_true] at h;cases g3:okF L ((D6.cuts L).length - 1) 0 with
    | false=>rw [g3] at h;cases h
    | true=>rw [cond_false,cond_true,cond_true];unfold y7u;rw [←hs.2.2.1,Xj (by have:=hs.1;omega)];rfl
 exact ⟨key,(w5w key).trans hs.2.2.1.symm⟩
theorem x4k {L:List R6} (h:Wc L=0):x4i.can L:=by obtain ⟨h1,h2⟩:=x8u h;have:=(w5x h1).1;rwa [h2] at this
end Go.Am
end
