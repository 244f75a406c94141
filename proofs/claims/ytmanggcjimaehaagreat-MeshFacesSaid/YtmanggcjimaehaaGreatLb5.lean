/- A part of a proof: several texts in one. -/
import Derived.Test.YtmanggcjimaehaaGreatLb4
set_option maxRecDepth 1000000
set_option maxHeartbeats 8000000
set_option linter.unusedVariables false
set_option linter.unusedSimpArgs false
noncomputable section
namespace Go.Am
open Go.Proofs.Tryz
open Go.Proofs
inductive rgjS where
 | h0 (v16:Int) (aA:List Int)
 | h1 (v16:Int) (aA:List Int)
 | h2 (v4:Int) (aF:List R4) (aQ:List R2) (aZ:Int) (bA:Int) (aE:Nat) (aH:List Int)
 | h3 (v4:Int) (v38:Int) (aF:List R4) (aQ:List R2) (aZ:Int) (bA:Int) (aE:Nat) (aH:List Int) (aO:Int) (bC:Int) (aB:List R2)
 | h4 (v4:Int) (v38:Int) (aF:List R4) (aQ:List R2) (aZ:Int) (bA:Int) (aE:Nat) (aH:List Int) (aO:Int) (bC:Int) (aB:List R2) (aL:List R2)
 | h5 (v1:Int) (v2:Int) (v71:List R2) (v72:Int) (v73:Int) (aS:Int) (aD:List R4) (bE:Int) (aE:Nat) (aH:List Int) (aO:List R2) (bC:List R2)
 | h6 (v2:Int) (v8:Int) (cK:Int) (cL:List R2) (aS:Int) (aD:List R4) (bD:List R2) (bE:Int) (bV:Int) (bH:Nat) (bQ:List Int) (aB:List R2) (aL:List R2)
def y2f (q:Op) (l0:List R4) (l1:List R4):AFr:=⟨⟨11,0,true⟩,(Up prog (nRg q) [1,0] 2),(Zd prog (nRg q) [1,0] 1),none,(Zy prog 28),Ya [(6,(.dat l0.length (Zz l0))),(7,(.dat l1.length (Zz l1)))]⟩
abbrev y6e (aD:List R4) (v8:Int) (v2:Int):=(aD.set (0+(tn v8)) (R4.mk (rd aD (0+(tn v8))).a (rd aD (0+(tn v8))).b v2 (rd aD (0+(tn v8))).d))
def w6o :=(y4p [(0,⟨.ready,none,49,Ya [(5,(.ptr 1 0)),(6,(.ptr 2 0)),(7,(.ptr 3 0)),(9,(.ptr 4 0))],[23],(Vy prog 122 [1,1,1,0,1,0,0]),(Vy prog 122 [1,1,1,0,1,0,1])⟩)])
abbrev y6d (aA:List Int):=(Wz (Zc aA.length (cOf (Zz (Yh (Zc aA.length (cOf (Zz aA))))))))
def w6n :AFr:=⟨⟨49,0,true⟩,none,(.inRangeFunc 0::(Zd prog 122 [1,1,1,0,1,0] 1)),none,(Zy prog 122),Ya [(6,(.ptr 2 0)),(7,(.ptr 3 0)),(9,(.ptr 4 0))]⟩
def y2e (l0:List R4) (l1:List R4):ABlk:=⟨[(.dat l0.length (Zz l0)),(.dat l1.length (Zz l1))],100,none⟩
def v8h :AFr:=⟨⟨49,0,true⟩,(Up prog 122 [1,1,1,0,0] 3),(Zd prog 122 [1,1,1,0,0] 1),none,(Zy prog 122),Ya [(5,(.ptr 3 0)),(6,(.ptr 4 0)),(7,(.ptr 5 0)),(9,(.ptr 6 0)),(21,(.sl 1 0 2 (.un 1)))]⟩
abbrev y6c (aB:List R2) (l0:List R4) (v38:Int):=(aB++[(R2.mk (rd l0 (tn v38)).b (rd l0 (tn v38)).d)])
abbrev y6b (aL:List R2) (l1:List R4) (v38:Int):=(aL++[(R2.mk (rd l1 (tn v38)).b (rd l1 (tn v38)).d)])
def y2d (q:Op):ABlk:=⟨[(.fn (nSp q) [])],151,none⟩
abbrev z7s (aD:List R4) (v1:Int) (v71:List R2) (v73:Int) (v2:Int):=(aD++[(R4.mk v1 (rd v71 (tn v73)).a v2 (rd v71 (tn v73)).b)])
abbrev z7r (aA:List Int) (l0:List R4) (v16:Int):=(aA++[(rd l0 (tn v16)).a,(rd l0 (tn v16)).c])
abbrev z7q (aA:List Int) (l1:List R4) (v16:Int):=(aA++[(rd l1 (tn v16)).a,(rd l1 (tn v16)).c])
def y8j :ABlk:=⟨[(.sl 8 0 2 (.un 1))],236,none⟩
def w6p :=(Zd prog 190 [1,0,0,1,0,0,1,0,1,0,0,1,1,0,0,1,1,0,0] 0)
def rgjC (q:Op) (l0:List R4) (l1:List R4):rgjS→Cfg
 | .h0 v16 aA=>⟨⟨34,0,true⟩,none,(Zd prog 161 [1,1,0,1,0,0,1,1,0,0,1,1,0,0] 0),none,(Zy prog 3),⟨Ya [(1,(.ptr 0 0)),(3,(.ptr 2 0)),(8,(.sl 1 0 2 (.un 1))),(9,(ii 2)),(10,(ii 0)),(14,(.dat l0.length (Zz l0))),(15,(ii (l0.length:Int))),(16,(ii v16))],Uq [⟨[(.sl 1 0 2 (.un 1))],236,none⟩,(y2e l0 l1),⟨[(.sla 7 1 0 aA.length (.un 1))],93,none⟩,(y2d q),⟨[.nils],100,none⟩,⟨[(ii 0)],26,none⟩,⟨[.nils,.nils,(ii 0),(ii 0)],200,none⟩,⟨rows aA.length (Zz aA),3,some ⟨1,aA.length,(Zz aA)⟩⟩] 0,8,[],true⟩,[v8h,(y2f q l0 l1)],.leaf⟩
 | .h1 v16 aA=>⟨⟨34,0,true⟩,none,(Zd prog 161 [1,1,0,1,0,0,1,1,0,0,1,1,0,0] 0),none,(Zy prog 3),⟨Ya [(1,(.ptr 0 0)),(3,(.ptr 2 0)),(8,(.sl 1 0 2 (.un 1))),(9,(ii 2)),(10,(ii 1)),(14,(.dat l1.length (Zz l1))),(15,(ii (l1.length:Int))),(16,(ii v16))],Uq [⟨[(.sl 1 0 2 (.un 1))],236,none⟩,(y2e l0 l1),⟨[(.sla 7 1 0 aA.length (.un 1))],93,none⟩,(y2d q),⟨[.nils],100,none⟩,⟨[(ii 0)],26,none⟩,⟨[.nils,.nils,(ii 0),(ii 0)],200,none⟩,⟨rows aA.length (Zz aA),3,some ⟨1,aA.length,(Zz aA)⟩⟩] 0,8,[],true⟩,[v8h,(y2f q l0 l1)],.leaf⟩
 | .h2 v4 aF aQ aZ bA aE aH=>⟨⟨76,0,true⟩,none,(Zd prog 190 [1,0,0] 0),none,[],⟨Ya [(0,(.yld 0)),(1,(.ptr 5 0)),(2,(.ptr 7 0)),(4,(ii v4))],z9j [(1,(y2d q)),(2,⟨[.nils],100,none⟩),(3,⟨[(ii 0)],26,none⟩),(4,⟨[(.sla 9 4 0 aF.length (.un 4)),(.dat aQ.length (Zz aQ)),(ii aZ),(ii bA)],200,none⟩),(5,⟨[(.sla 6 1 0 aE (.un 1))],93,none⟩),(6,⟨rows aH.length (Zz aH),3,some ⟨1,aH.length,(Zz aH)⟩⟩),(7,y8j),(8,(y2e l0 l1)),(9,⟨rows aF.length (Zz aF),88,some ⟨4,aF.length,(Zz aF)⟩⟩)],10,[],true⟩,[w6n,(y2f q l0 l1)],w6o⟩
 | .h3 v4 v38 aF aQ aZ bA aE aH aO bC aB=>⟨⟨76,0,true⟩,none,w6p,none,[],⟨Ya [(0,(.yld 0)),(1,(.ptr 5 0)),(2,(.ptr 7 0)),(4,(ii v4)),(5,(.ptr 9 0)),(6,(ii 0)),(29,(.sl 8 0 2 (.un 1))),(30,(ii 2)),(31,(ii 0)),(36,(.dat l0.length (Zz l0))),(37,(ii (l0.length:Int))),(38,(ii v38))],z9j [(1,(y2d q)),(2,⟨[.nils],100,none⟩),(3,⟨[(ii 0)],26,none⟩),(4,⟨[(.sla 12 4 0 aF.length (.un 4)),(.dat aQ.length (Zz aQ)),(ii aZ),(ii bA)],200,none⟩),(5,⟨[(.sla 6 1 0 aE (.un 1))],93,none⟩),(6,⟨rows aH.length (Zz aH),3,some ⟨1,aH.length,(Zz aH)⟩⟩),(7,y8j),(8,(y2e l0 l1)),(9,⟨[(ii aO),(ii bC),(.sl 10 0 2 (.ex 2))],205,none⟩),(10,⟨[(.sla 11 2 0 aB.length (.un 2)),.nils],180,none⟩),(11,⟨rows aB.length (Zz aB),183,some ⟨2,aB.length,(Zz aB)⟩⟩),(12,⟨rows aF.length (Zz aF),88,some ⟨4,aF.length,(Zz aF)⟩⟩)],13,[],true⟩,[w6n,(y2f q l0 l1)],w6o⟩
 | .h4 v4 v38 aF aQ aZ bA aE aH aO bC aB aL=>⟨⟨76,0,true⟩,none,w6p,none,[],⟨Ya [(0,(.yld 0)),(1,(.ptr 5 0)),(2,(.ptr 7 0)),(4,(ii v4)),(5,(.ptr 9 0)),(6,(ii 1)),(29,(.sl 8 0 2 (.un 1))),(30,(ii 2)),(31,(ii 1)),(36,(.dat l1.length (Zz l1))),(37,(ii (l1.length:Int))),(38,(ii v38))],z9j [(1,(y2d q)),(2,⟨[.nils],100,none⟩),(3,⟨[(ii 0)],26,none⟩),(4,⟨[(.sla 13 4 0 aF.length (.un 4)),(.dat aQ.length (Zz aQ)),(ii aZ),(ii bA)],200,none⟩),(5,⟨[(.sla 6 1 0 aE (.un 1))],93,none⟩),(6,⟨rows aH.length (Zz aH),3,some ⟨1,aH.length,(Zz aH)⟩⟩),(7,y8j),(8,(y2e l0 l1)),(9,⟨[(ii aO),(ii bC),(.sl 10 0 2 (.ex 2))],205,none⟩),(10,⟨[(.sla 11 2 0 aB.length (.un 2)),(.sla 12 2 0 aL.length (.un 2))],180,none⟩),(11,⟨rows aB.length (Zz aB),183,some ⟨2,aB.length,(Zz aB)⟩⟩),(12,⟨rows aL.length (Zz aL),183,some ⟨2,aL.length,(Zz aL)⟩⟩),(13,⟨rows aF.length (Zz aF),88,some ⟨4,aF.length,(Zz aF)⟩⟩)],14,[],true⟩,[w6n,(y2f q l0 l1)],w6o⟩
 | .h5 v1 v2 v71 v72 v73 aS aD bE aE aH aO bC=>⟨⟨94,0,true⟩,none,(Zd prog 158 [1,1,1,0,0] 0),none,[],⟨Ya [(0,(.ptr 0 0)),(1,(ii v1)),(2,(ii v2)),(71,(.dat v71.length (Zz v71))),(72,(ii v72)),(73,(ii v73))],z9j [(0,⟨[(.sla 10 4 0 aD.length (.un 4)),(.dat v71.length (Zz v71)),(ii bE),(ii v2)],200,none⟩),(2,(y2d q)),(3,⟨[.nils],100,none⟩),(4,⟨[(ii 0)],26,none⟩),(5,⟨[(.sla 6 1 0 aE (.un 1))],93,none⟩),(6,⟨rows aH.length (Zz aH),3,some ⟨1,aH.length,(Zz aH)⟩⟩),(7,y8j),(8,(y2e l0 l1)),(9,⟨[(.dat aO.length (Zz aO)),(.dat bC.length (Zz bC))],180,none⟩),(10,⟨rows aD.length (Zz aD),88,some ⟨4,aD.length,(Zz aD)⟩⟩)],11,[],true⟩,[⟨⟨49,0,true⟩,(Up prog 122 [1,1,1,0,1,0,1,0,1,1] 5),(Zd prog 122 [1,1,1,0,1,0,1,0,1,1] 1),(some 1),[],Ya [(9,(.ptr 0 0)),(41,(ii v1)),(43,(ii v2)),(44,(.dat v71.length (Zz v71)))]⟩,⟨⟨76,0,true⟩,(Up prog 190 [1,0,0,1,0,0,1,1,0] 2),(Zd prog 190 [1,0,0,1,0,0,1,1,0] 1),none,[],Ya [(0,(.yld 1)),(1,(.ptr 5 0)),(2,(.ptr 7 0)),(4,(ii aS)),(72,(.yld 1)),(73,(.agg [(ii v1),(ii v2),(.sl 9 0 2 (.ex 2))]))]⟩,⟨⟨49,0,true⟩,none,(.inRangeFunc 1::(Zd prog 122 [1,1,1,0,1,0] 1)),none,(Zy prog 122),Ya [(6,(.ptr 3 0)),(7,(.ptr 4 0)),(9,(.ptr 0 0))]⟩,(y2f q l0 l1)],(y4p [(1,⟨.busy,none,49,Ya [(5,(.ptr 2 0)),(6,(.ptr 3 0)),(7,(.ptr 4 0)),(9,(.ptr 0 0))],[23],(Vy prog 122 [1,1,1,0,1,0,0]),(Vy prog 122 [1,1,1,0,1,0,1])⟩)])⟩
 | .h6 v2 v8 cK cL aS aD bD bE bV bH bQ aB aL=>⟨⟨94,0,true⟩,none,(Zd prog 158 [0,1,0,0,1,0,0] 0),none,[],⟨Ya [(0,(.ptr 0 0)),(2,(ii v2)),(8,(ii v8))],z9j [(0,⟨[(.sla 1 4 0 aD.length (.un 4)),(.dat bD.length (Zz bD)),(ii bE),(ii bV)],200,none⟩),(1,⟨rows aD.length (Zz aD),88,some ⟨4,aD.length,(Zz aD)⟩⟩),(3,(y2d q)),(4,⟨[.nils],100,none⟩),(5,⟨[(ii 0)],26,none⟩),(6,⟨[(.sla 7 1 0 bH (.un 1))],93,none⟩),(7,⟨rows bQ.length (Zz bQ),3,some ⟨1,bQ.length,(Zz bQ)⟩⟩),(8,⟨[(.sl 9 0 2 (.un 1))],236,none⟩),(9,(y2e l0 l1)),(10,⟨[(.dat aB.length (Zz aB)),(.dat aL.length (Zz aL))],180,none⟩)],11,[],true⟩,[⟨⟨49,0,true⟩,(Up prog 122 [1,1,1,0,1,0,1,0,1,1] 5),(Zd prog 122 [1,1,1,0,1,0,1,0,1,1] 1),(some 2),[],Ya [(9,(.ptr 0 0)),(41,(ii cK)),(43,(ii v2)),(44,(.dat cL.length (Zz cL)))]⟩,⟨⟨76,0,true⟩,(Up prog 190 [1,0,0,1,0,0,1,1,0] 2),(Zd prog 190 [1,0,0,1,0,0,1,1,0] 1),none,[],Ya [(0,(.yld 2)),(1,(.ptr 6 0)),(2,(.ptr 8 0)),(4,(ii aS)),(72,(.yld 2)),(73,(.agg [(ii cK),(ii v2),(.sl 10 0 2 (.ex 2))]))]⟩,⟨⟨49,0,true⟩,none,(.inRangeFunc 2::(Zd prog 122 [1,1,1,0,1,0] 1)),none,(Zy prog 122),Ya [(6,(.ptr 4 0)),(7,(.ptr 5 0)),(9,(.ptr 0 0))]⟩,(y2f q l0 l1)],(y4p [(2,⟨.busy,none,49,Ya [(5,(.ptr 3 0)),(6,(.ptr 4 0)),(7,(.ptr 5 0)),(9,(.ptr 0 0))],[23],(Vy prog 122 [1,1,1,0,1,0,0]),(Vy prog 122 [1,1,1,0,1,0,1])⟩)])⟩
def rgjN0 :List (Option (List Nat)):=[some [1,3,8,9,10,14,15,16],some [5,6,7,9,21],some [6,7]]
def rgjM0 :List (Option (List Nat)):=[]
def rgjN1 :List (Option (List Nat)):=[some [1,3,8,9,10,14,15,16],some [5,6,7,9,21],some [6,7]]
def rgjM1 :List (Option (List Nat)):=[]
def u2t :List (Option (List Nat)):=[some [0,1,2,4],some [6,7,9],some [6,7]]
def u2u :List (Option (List Nat)):=[some [5,6,7,9],none,none,none,none,none,none,none,none,none]
def v2y :List (Option (List Nat)):=[some [0,1,2,4,5,6,29,30,31,36,37,38],some [6,7,9],some [6,7]]
def v3b :List (Option (List Nat)):=[some [5,6,7,9],none,none,none,none,none,none,none,none,none,none,none,none]
def v2x :List (Option (List Nat)):=[some [0,1,2,4,5,6,29,30,31,36,37,38],some [6,7,9],some [6,7]]
def v3a :List (Option (List Nat)):=[some [5,6,7,9],none,none,none,none,none,none,none,none,none,none,none,none,none]
def v2w :List (Option (List Nat)):=[some [0,1,2,71,72,73],some [9,41,43,44],some [0,1,2,4,72,73],some [6,7,9],some [6,7]]
def v2z :List (Option (List Nat)):=[none,some [5,6,7,9],none,none,none,none,none,none,none,none,none]
def rgjN6 :List (Option (List Nat)):=[some [0,2,8],some [9,41,43,44],some [0,1,2,4,72,73],some [6,7,9],some [6,7]]
def rgjM6 :List (Option (List Nat)):=[none,none,some [5,6,7,9],none,none,none,none,none,none,none,none]
def Yc (q:Op) (l0:List R4) (l1:List R4):rgjS→Xf rgjS
 | .h0 v16 aA=>(bif (decide (v16<(l0.length:Int))) then (bif ((decide (0≤v16∧v16<(l0.length:Int)))&&true) then (bif (Nat.beq 1 1&&((decide (0+aA.length=aA.length))&&decide ((aA.length+2+1)*(8+1)≤Ur))) then (.to (.h0 (IntKind.wrap .i64 (v16+1)) (aA++[(rd l0 v16.toNat).a,(rd l0 v16.toNat).c]))) else .stuck) else .stuck) else (.to (.h1 0 aA)))
 | .h1 v16 aA=>(bif (decide (v16<(l1.length:Int))) then (bif ((decide (0≤v16∧v16<(l1.length:Int)))&&true) then (bif (Nat.beq 1 1&&((decide (0+aA.length=aA.length))&&decide ((aA.length+2+1)*(8+1)≤Ur))) then (.to (.h1 (IntKind.wrap .i64 (v16+1)) (aA++[(rd l1 v16.toNat).a,(rd l1 v16.toNat).c]))) else .stuck) else .stuck) else (bif (decide (aA.length<4611686018427387904)) then (bif (decide (aA.length=aA.length)) then (.to (.h2 1 ([]:List R4) ([]:List R2) 0 0 (w4n (Zc aA.length (cOf (Zz (Yh (Zc aA.length (cOf (Zz aA)))))))) (Wz (Zc aA.length (cOf (Zz (Yh (Zc aA.length (cOf (Zz aA)))))))))) else .stuck) else .stuck))
 | .h2 v4 aF aQ aZ bA aE aH=>(bif (decide (v4<((aE:Nat):Int))) then (bif ((decide (0≤(IntKind.wrap .i64 (v4 - 1))∧(IntKind.wrap .i64 (v4 - 1))<((aE:Nat):Int)))&&true) then (bif (decide ((0+(Int.toNat (IntKind.wrap .i64 (v4 - 1))))<aH.length)) then (bif ((decide (0≤v4∧v4<((aE:Nat):Int)))&&true) then (bif (decide ((0+v4.toNat)<aH.length)) then (.to (.h3 v4 0 aF aQ aZ bA aE aH (rd aH (0+(Int.toNat (IntKind.wrap .i64 (v4 - 1))))) (rd aH (0+v4.toNat)) ([]:List R2))) else .stuck) else .stuck) else .stuck) else .stuck) else (bif (decide ((aF.length:Int)>400)) then (.ret [.nils,(.int .i64 4)]) else (.ret [(.dat aF.length (Zz aF)),(.int .i64 0)])))
 | .h3 v4 v38 aF aQ aZ bA aE aH aO bC aB=>(bif (decide (v38<(l0.length:Int))) then (bif ((decide (0≤v38∧v38<(l0.length:Int)))&&true) then (bif (decide ((rd l0 v38.toNat).a ≤aO)) then (bif (decide (aO<(rd l0 v38.toNat).c)) then (bif (Nat.beq 2 2&&((decide (0+aB.length=aB.length))&&decide ((aB.length+1+1)*(16+1)≤Ur))) then (.to (.h3 v4 (IntKind.wrap .i64 (v38+1)) aF aQ aZ bA aE aH aO bC (aB++[(R2.mk (rd l0 v38.toNat).b (rd l0 v38.toNat).d)]))) else .stuck) else (.to (.h3 v4 (IntKind.wrap .i64 (v38+1)) aF aQ aZ bA aE aH aO bC aB))) else (.to (.h3 v4 (IntKind.wrap .i64 (v38+1)) aF aQ aZ bA aE aH aO bC aB))) else .stuck) else (.to (.h4 v4 0 aF aQ aZ bA aE aH aO bC aB ([]:List R2))))
 | .h4 v4 v38 aF aQ aZ bA aE aH aO bC aB aL=>(bif (decide (v38<(l1.length:Int))) then (bif ((decide (0≤v38∧v38<(l1.length:Int)))&&true) then (bif (decide ((rd l1 v38.toNat).a ≤aO)) then (bif (decide (aO<(rd l1 v38.toNat).c)) then (bif (Nat.beq 2 2&&((decide (0+aL.length=aL.length))&&decide ((aL.length+1+1)*(16+1)≤Ur))) then (.to (.h4 v4 (IntKind.wrap .i64 (v38+1)) aF aQ aZ bA aE aH aO bC aB (aL++[(R2.mk (rd l1 v38.toNat).b (rd l1 v38.toNat).d)]))) else .stuck) else (.to (.h4 v4 (IntKind.wrap .i64 (v38+1)) aF aQ aZ bA aE aH aO bC aB aL))) else (.to (.h4 v4 (IntKind.wrap .i64 (v38+1)) aF aQ aZ bA aE aH aO bC aB aL))) else .stuck) else (bif ((y7y q) (cvT aB) (cvT aL)) then (bif (((w1e q) (cvT aB) (cvT aL)) != 0) then (.ret [.nils,(.int .i64 ((w1e q) (cvT aB) (cvT aL)))]) else (bif (decide (((((z2n q) (cvT aB) (cvT aL)).length :Nat):Int)>0)) then (bif (bA == aO) then (bif (Vp (cvT aQ) (cvT ((z2n q) (cvT aB) (cvT aL)))) then (bif (Kj (cvT aQ) (cvT ((z2n q) (cvT aB) (cvT aL)))) then (.to (.h6 bC aZ aO ((z2n q) (cvT aB) (cvT aL)) v4 aF aQ aZ bA aE aH aB aL)) else (.to (.h5 aO bC ((z2n q) (cvT aB) (cvT aL)) ((((z2n q) (cvT aB) (cvT aL)).length :Nat):Int) 0 v4 aF (aF.length:Int) aE aH aB aL))) else .stuck) else (.to (.h5 aO bC ((z2n q) (cvT aB) (cvT aL)) ((((z2n q) (cvT aB) (cvT aL)).length :Nat):Int) 0 v4 aF (aF.length:Int) aE aH aB aL))) else (.to (.h5 aO bC ((z2n q) (cvT aB) (cvT aL)) ((((z2n q) (cvT aB) (cvT aL)).length :Nat):Int) 0 v4 aF (aF.length:Int) aE aH aB aL)))) else .stuck))
 | .h5 v1 v2 v71 v72 v73 aS aD bE aE aH aO bC=>(bif (decide (v73<v72)) then (bif ((decide (0≤v73∧v73<(v71.length:Int)))&&true) then (bif (Nat.beq 4 4&&((decide (0+aD.length=aD.length))&&decide ((aD.length+1+1)*(32+1)≤Ur))) then (.to (.h5 v1 v2 v71 v72 (IntKind.wrap .i64 (v73+1)) aS (aD++[(R4.mk v1 (rd v71 v73.toNat).a v2 (rd v71 v73.toNat).b)]) bE aE aH aO bC)) else .stuck) else .stuck) else (.to (.h2 (IntKind.wrap .i64 (aS+1)) aD v71 bE v2 aE aH)))
 | .h6 v2 v8 cK cL aS aD bD bE bV bH bQ aB aL=>(bif (decide (v8<(aD.length:Int))) then (bif ((decide (0≤v8∧v8<(aD.length:Int)))&&true) then (bif (decide ((0+v8.toNat)<aD.length)) then (.to (.h6 v2 (IntKind.wrap .i64 (v8+1)) cK cL aS (aD.set (0+v8.toNat) (R4.mk (rd aD (0+v8.toNat)).a (rd aD (0+v8.toNat)).b v2 (rd aD (0+v8.toNat)).d)) bD bE bV bH bQ aB aL)) else .stuck) else .stuck) else (.to (.h2 (IntKind.wrap .i64 (aS+1)) aD bD bE v2 bH bQ)))
def y0u (q:Op) (l0:List R4) (l1:List R4):Xf rgjS:=(bif (z2s (cvT l0)) then (bif ((y4o (cvT l0)) != 0) then (.ret [.nils,(.int .i64 (y4o (cvT l0)))]) else (bif (z2s (cvT l1)) then (bif ((y4o (cvT l1)) != 0) then (.ret [.nils,(.int .i64 (y4o (cvT l1)))]) else (.to (.h0 0 ([]:List Int)))) else .stuck)) else .stuck)
theorem w1y (q:Op) (l0:List R4) (l1:List R4): ∀s,Xj prog (Zy prog (nRg q)) (rgjC q l0 l1) (rgjC q l0 l1 s) (Yc q l0 l1 s):=by cases q <;> refine (?f: ∀q:Op,∀s,Xj prog (Zy prog (nRg q)) (rgjC q l0 l1) (rgjC q l0 l1 s) (Yc q l0 l1 s)) _ <;> exact fun q=>fun
 | .h0 v16 aA=>(lb (fun k0=>(lo fun o0=>(lo fun o1=>(sl Jf 32 [] ⟨[0,1,2,3,4,5,6,10],[],rgjN0,rgjM0⟩ ⟨[],[.keep,.keep,.cells [.len (z7r aA l0 v16).length],.keep,.keep,.keep,.keep,.rowed 1 (z7r aA l0 v16).length (Zz (z7r aA l0 v16))],[]⟩ [true] (pp (xL (aA.length+2) (z7r aA l0 v16).length) (pp (xL (aA.length+2) (z7r aA l0 v16).length) (pp (xS (aA.length+2) (Zh (Zz aA) 0 aA.length 1 [(ii (rd l0 (tn v16)).a),(ii (rd l0 (tn v16)).c)]) (Zz (z7r aA l0 v16))) (pp (pp (xF (Zh (Zz aA) 0 aA.length 1 [(ii (rd l0 (tn v16)).a),(ii (rd l0 (tn v16)).c)])) nn) (ww o1 (ww o0 (tt k0 nn))))))))))) (fun k0=>(sl Jf 36 [] ⟨(List.range 8),[],rgjN1,rgjM1⟩ ⟨[],[],[]⟩ (bl 2 2) (pp (fl aA nn) (tt k0 nn)))))
 | .h1 v16 aA=>(lb (fun k0=>(lo fun o0=>(lo fun o1=>(sl Jf 32 [] ⟨[0,1,2,3,4,5,6,10],[],rgjN1,rgjM1⟩ ⟨[],[.keep,.keep,.cells [.len (z7q aA l1 v16).length],.keep,.keep,.keep,.keep,.rowed 1 (z7q aA l1 v16).length (Zz (z7q aA l1 v16))],[]⟩ [true] (pp (xL (aA.length+2) (z7q aA l1 v16).length) (pp (xL (aA.length+2) (z7q aA l1 v16).length) (pp (xS (aA.length+2) (Zh (Zz aA) 0 aA.length 1 [(ii (rd l1 (tn v16)).a),(ii (rd l1 (tn v16)).c)]) (Zz (z7q aA l1 v16))) (pp (pp (xF (Zh (Zz aA) 0 aA.length 1 [(ii (rd l1 (tn v16)).a),(ii (rd l1 (tn v16)).c)])) nn) (ww o1 (ww o0 (tt k0 nn))))))))))) (fun k0=>(lo fun o0=>(lo fun o1=>(sl Jf 46 [(88,4,Zz ([]:List R4))] ⟨[8,3,4,5,6,2,7,0,1,9],[],u2t,u2u⟩ ⟨[],(kpB 4 [.cells [.grow 9 4,.list 0 (Zz ([]:List R2)),.keep,.keep],.keep,.rowed 1 (y6d aA).length (Zz (y6d aA)),.keep,.keep,.keep]),[]⟩ (bl 2 0) (pp (xL aA.length (y6d aA).length (by first | exact z0w _ _ | exact Wi rfl)) (pp (xS aA.length (Zz (y6d aA)) (Zz (y6d aA))) (pp (fl (y6d aA) (fl ([]:List R4) nn)) (pp (pp (xG (Nat.beq 1 1)) (pp (xG (Nat.beq 1 1)) (pp (xG (Nat.beq 0 0)) (pp (xG (decide (aA.length=aA.length))) (pp (xG (isI (Zz (Yh (Zc aA.length (cOf (Zz aA))))))) (xG (decide (aA.length<4611686018427387904)))))))) (pp (pp (xG (Nat.beq 1 1)) (pp (xG (Nat.beq 1 1)) (pp (xG (Nat.beq 0 0)) (pp (xG (decide (aA.length=aA.length))) (pp (xG (isI (Zz aA))) (xG (decide (aA.length<4611686018427387904)))))))) (tt k0 nn)))))))))))
 | .h2 v4 aF aQ aZ bA aE aH=>(lb (fun k0=>(lo fun o0=>(lo fun o1=>(lo fun o2=>(lo fun o3=>(sl Jf 48 [(183,2,Zz ([]:List R2))] ⟨[0,1,2,3,4,5,6,7,8,10,11,12,9],[],v2y,v3b⟩ ⟨[],(kpB 10 [.cells [.grow 11 2,.keep],.keep,.keep]),[]⟩ (trs 3 []) (pp (fl aH (fl ([]:List R2) (fl aF nn))) (ww o3 (ww o2 (ww o1 (ww o0 (tt k0 nn)))))))))))) (fun k0=>(lb (fun k1=>(lr 11 3 [1,1,1,1,1,1,1,0] 1 28 [(4,.nils),(5,(ii 4))] (sl Jf 49 [] ⟨[],[],[some [4,5]],[]⟩ ⟨[],[],[]⟩ (bl 2 2) (tt k1 (tt k0 nn))))) (fun k1=>(lr 11 3 [1,1,1,1,1,1,1,0] 1 28 [(4,(.dat aF.length (Zz aF))),(5,(ii 0))] (sl Jf 54 [] ⟨[],[9],[some [4,5]],[]⟩ ⟨[(4,.frz aF.length aF.length (Zz aF) (Zz aF))],[],[]⟩ (bl 2 0) (pp (xZ (z5d 4 4 0 aF.length aF.length (Zz aF)) aF.length (Zz aF)) (pp (xL aF.length aF.length) (pp (xS aF.length (Zz aF) (Zz aF)) (pp (fl aF nn) (tt k1 (tt k0 nn))))))))))))
 | .h3 v4 v38 aF aQ aZ bA aE aH aO bC aB=>(lb (fun k0=>(lo fun aG=>(lb (fun k1=>(lb (fun k2=>(lo fun o0=>(sl Jf 39 [] ⟨[0,1,2,3,4,5,6,7,8,9,10,15,12],[],v2y,v3b⟩ ⟨[],(kpB 10 [.cells [.len (y6c aB l0 v38).length,.keep],.rowed 2 (y6c aB l0 v38).length (Zz (y6c aB l0 v38)),.keep]),[]⟩ (trs 7 []) (pp (xL (aB.length+1) (y6c aB l0 v38).length) (pp (xL (aB.length+1) (y6c aB l0 v38).length) (pp (xS (aB.length+1) (Zh (Zz aB) 0 aB.length 2 [(ii (rd l0 (tn v38)).b),(ii (rd l0 (tn v38)).d)]) (Zz (y6c aB l0 v38))) (pp (fl aH (pp (xF (Zh (Zz aB) 0 aB.length 2 [(ii (rd l0 (tn v38)).b),(ii (rd l0 (tn v38)).d)])) (fl aF nn))) (ww o0 (tt k2 (tt k1 (ww aG (tt k0 nn)))))))))))) (fun k2=>(sl Jf 39 [] ⟨(List.range 13),[],v2y,v3b⟩ ⟨[],[],[]⟩ (trs 6 [false]) (pp (fl aH (fl aB (fl aF nn))) (tt k2 (tt k1 (ww aG (tt k0 nn))))))))) (fun k1=>(sl Jf 39 [] ⟨(List.range 13),[],v2y,v3b⟩ ⟨[],[],[]⟩ (bl 7 1) (pp (fl aH (fl aB (fl aF nn))) (tt k1 (ww aG (tt k0 nn))))))))) (fun k0=>(sl Jf 38 [(183,2,Zz ([]:List R2))] ⟨[0,1,2,3,4,5,6,7,8,9,10,11,13,12],[],v2x,v3a⟩ ⟨[],(kpB 10 [.cells [.keep,.grow 12 2],.keep,.keep,.keep]),[]⟩ (bl 2 2) (pp (fl aH (fl aB (fl ([]:List R2) (fl aF nn)))) (tt k0 nn)))))
 | .h4 v4 v38 aF aQ aZ bA aE aH aO bC aB aL=>(lb (fun k0=>(lo fun aG=>(lb (fun k1=>(lb (fun k2=>(lo fun o0=>(sl Jf 39 [] ⟨[0,1,2,3,4,5,6,7,8,9,10,11,16,13],[],v2x,v3a⟩ ⟨[],(kpB 10 [.cells [.keep,.len (y6b aL l1 v38).length],.keep,.rowed 2 (y6b aL l1 v38).length (Zz (y6b aL l1 v38)),.keep]),[]⟩ (trs 7 []) (pp (xL (aL.length+1) (y6b aL l1 v38).length) (pp (xL (aL.length+1) (y6b aL l1 v38).length) (pp (xS (aL.length+1) (Zh (Zz aL) 0 aL.length 2 [(ii (rd l1 (tn v38)).b),(ii (rd l1 (tn v38)).d)]) (Zz (y6b aL l1 v38))) (pp (fl aH (fl aB (pp (xF (Zh (Zz aL) 0 aL.length 2 [(ii (rd l1 (tn v38)).b),(ii (rd l1 (tn v38)).d)])) (fl aF nn)))) (ww o0 (tt k2 (tt k1 (ww aG (tt k0 nn)))))))))))) (fun k2=>(sl Jf 39 [] ⟨(List.range 14),[],v2x,v3a⟩ ⟨[],[],[]⟩ (trs 6 [false]) (pp (fl aH (fl aB (fl aL (fl aF nn)))) (tt k2 (tt k1 (ww aG (tt k0 nn))))))))) (fun k1=>(sl Jf 39 [] ⟨(List.range 14),[],v2x,v3a⟩ ⟨[],[],[]⟩ (bl 7 1) (pp (fl aH (fl aB (fl aL (fl aF nn)))) (tt k1 (ww aG (tt k0 nn))))))))) (fun k0=>(We (sl Jf (C':=⟨⟨49,0,true⟩,none,(Zd prog 122 [1,1,1,0,1,0,1,0,0] 0),(some 0),[],⟨Ya [(5,(.ptr 1 0)),(6,(.ptr 2 0)),(7,(.ptr 3 0)),(9,(.ptr 4 0)),(10,(.ptr 6 0))],z9j [(1,⟨[(.fn (nSp q) [])],151,none⟩),(2,⟨[.nils],100,none⟩),(3,⟨[(ii 0)],26,none⟩),(4,⟨[(.sla 5 4 0 aF.length (.un 4)),(.dat aQ.length (Zz aQ)),(ii aZ),(ii bA)],200,none⟩),(5,⟨rows aF.length (Zz aF),88,some ⟨4,aF.length,(Zz aF)⟩⟩),(6,⟨[(ii aO),(ii bC),(.sl 7 0 2 (.ex 2))],205,none⟩),(7,⟨[(.dat aB.length (Zz aB)),(.dat aL.length (Zz aL))],180,none⟩),(8,⟨[(.sla 9 1 0 aE (.un 1))],93,none⟩),(9,⟨rows aH.length (Zz aH),3,some ⟨1,aH.length,(Zz aH)⟩⟩),(10,⟨[(.sl 11 0 2 (.un 1))],236,none⟩),(11,⟨[(.dat l0.length (Zz l0)),(.dat l1.length (Zz l1))],100,none⟩)],12,[],true⟩,[⟨⟨76,0,true⟩,(Up prog 190 [1,0,0,1,0,0,1,1,0] 2),(Zd prog 190 [1,0,0,1,0,0,1,1,0] 1),none,[],Ya [(0,(.yld 0)),(1,(.ptr 8 0)),(2,(.ptr 10 0)),(4,(ii v4)),(72,(.yld 0)),(73,(.agg [(ii aO),(ii bC),(.sl 7 0 2 (.ex 2))]))]⟩,⟨⟨49,0,true⟩,none,(.inRangeFunc 0::(Zd prog 122 [1,1,1,0,1,0] 1)),none,(Zy prog 122),Ya [(6,(.ptr 2 0)),(7,(.ptr 3 0)),(9,(.ptr 4 0))]⟩,⟨⟨11,0,true⟩,(Up prog (nRg q) [1,0] 2),(Zd prog (nRg q) [1,0] 1),none,(Zy prog 28),Ya [(6,(.dat l0.length (Zz l0))),(7,(.dat l1.length (Zz l1)))]⟩],(y4p [(0,⟨.busy,none,49,Ya [(5,(.ptr 1 0)),(6,(.ptr 2 0)),(7,(.ptr 3 0)),(9,(.ptr 4 0))],[23],(Vy prog 122 [1,1,1,0,1,0,0]),(Vy prog 122 [1,1,1,0,1,0,1])⟩)])⟩) 32 [] ⟨[0,1,2,3,4,13,14,10,5,6,7,8],[11,12],[some [5,6,7,9,10],some [0,1,2,4,72,73],some [6,7,9],some [6,7]],[some [5,6,7,9],none,none,none,none,none,none,none,none,none,none,none]⟩ ⟨[],[.keep,.keep,.keep,.keep,.keep,.keep,.keep,.cells [.frz aB.length aB.length (Zz aB) (Zz aB),.frz aL.length aL.length (Zz aL) (Zz aL)],.keep,.keep,.keep,.keep],[]⟩ (bl 2 0) (pp (xZ (z5d 2 2 0 aB.length aB.length (Zz aB)) aB.length (Zz aB)) (pp (xL aB.length aB.length) (pp (xS aB.length (Zz aB) (Zz aB)) (pp (xZ (z5d 2 2 0 aL.length aL.length (Zz aL)) aL.length (Zz aL)) (pp (xL aL.length aL.length) (pp (xS aL.length (Zz aL) (Zz aL)) (pp (fl aF (fl aH nn)) (pp (fl aB (fl aL nn)) (tt k0 nn)))))))))) (lo fun aG=>(lb (fun k1=>(lr 11 3 [1,1,1,1,1,1,1,0] 1 28 [(4,.nils),(5,(ii ((w1e q) (cvT aB) (cvT aL))))] (sl Jf 26 [] ⟨[],[],[some [4,5]],[]⟩ ⟨[],[],[]⟩ (bl 2 3) (tt k1 (pp (pp (xr aB) (pp (xr aL) (xw aG))) nn))))) (fun k1=>(lb (fun k2=>(lb (fun k3=>(lo fun bW=>(lb (fun k4=>(sl Jf 51 [] ⟨[4,5,0,1,2,3,8,9,10,11,7],[],rgjN6,rgjM6⟩ ⟨[],[],[]⟩ (bl 14 16382) (pp (fl aF (fl aH nn)) (tt k4 (pp (pp (xr aQ) (pp (xI R2 ((z2n q) (cvT aB) (cvT aL)).length (Zz ((z2n q) (cvT aB) (cvT aL)))) (xw bW))) (tt k3 (tt k2 (tt k1 (pp (pp (xr aB) (pp (xr aL) (xw aG))) nn))))))))) (fun k4=>(sl Jf 71 [] ⟨[4,0,1,2,3,8,9,10,11,7,5],[],v2w,v2z⟩ ⟨[],[],[]⟩ (bl 14 8190) (pp (fl aH (fl aF nn)) (tt k4 (pp (pp (xr aQ) (pp (xI R2 ((z2n q) (cvT aB) (cvT aL)).length (Zz ((z2n q) (cvT aB) (cvT aL)))) (xw bW))) (tt k3 (tt k2 (tt k1 (pp (pp (xr aB) (pp (xr aL) (xw aG))) nn)))))))))))) (fun k3=>(sl Jf 71 [] ⟨[4,0,1,2,3,8,9,10,11,7,5],[],v2w,v2z⟩ ⟨[],[],[]⟩ (bl 14 126) (pp (fl aH (fl aF nn)) (tt k3 (tt k2 (tt k1 (pp (pp (xr aB) (pp (xr aL) (xw aG))) nn))))))))) (fun k2=>(sl Jf 71 [] ⟨[4,0,1,2,3,8,9,10,11,7,5],[],v2w,v2z⟩ ⟨[],[],[]⟩ (bl 14 0) (pp (fl aH (fl aF nn)) (tt k2 (tt k1 (pp (pp (xr aB) (pp (xr aL) (xw aG))) nn)))))))))))))
 | .h5 v1 v2 v71 v72 v73 aS aD bE aE aH aO bC=>(lb (fun k0=>(lo fun o0=>(lo fun o1=>(sl Jf 23 [] ⟨[0,1,2,3,4,5,6,7,8,9,13],[],v2w,v2z⟩ ⟨[],[.cells [.len (z7s aD v1 v71 v73 v2).length,.keep,.keep,.keep],.keep,.keep,.keep,.keep,.keep,.keep,.keep,.keep,.keep,.rowed 4 (z7s aD v1 v71 v73 v2).length (Zz (z7s aD v1 v71 v73 v2))],[]⟩ [true] (pp (xL (aD.length+1) (z7s aD v1 v71 v73 v2).length) (pp (xL (aD.length+1) (z7s aD v1 v71 v73 v2).length) (pp (xS (aD.length+1) (Zh (Zz aD) 0 aD.length 4 [(ii v1),(ii (rd v71 (tn v73)).a),(ii v2),(ii (rd v71 (tn v73)).b)]) (Zz (z7s aD v1 v71 v73 v2))) (pp (fl aH (pp (xF (Zh (Zz aD) 0 aD.length 4 [(ii v1),(ii (rd v71 (tn v73)).a),(ii v2),(ii (rd v71 (tn v73)).b)])) nn)) (ww o1 (ww o0 (tt k0 nn))))))))))) (fun k0=>(sl Jf 22 [] ⟨[1,2,3,4,0,5,6,7,8,10],[],u2t,u2u⟩ ⟨[],[],[]⟩ (bl 2 0) (pp (fl aH (fl aD nn)) (tt k0 nn)))))
 | .h6 v2 v8 cK cL aS aD bD bE bV bH bQ aB aL=>(lb (fun k0=>(lo fun o0=>(lo fun o1=>(sl Jf 33 [] ⟨(List.range 11),[],rgjN6,rgjM6⟩ ⟨[],[.cells [.len (y6e aD v8 v2).length,.keep,.keep,.keep],.rowed 4 (y6e aD v8 v2).length (Zz (y6e aD v8 v2)),.keep,.keep,.keep,.keep,.keep,.keep,.keep,.keep,.keep],[]⟩ [true] (pp (xL aD.length (y6e aD v8 v2).length) (pp (xL aD.length (y6e aD v8 v2).length) (pp (xS aD.length (Xb (Zz aD) (0+(tn v8)) 2 [(ii v2)]) (Zz (y6e aD v8 v2))) (pp (pp (xF (Xb (Zz aD) (0+(tn v8)) 2 [(ii v2)])) (fl bQ nn)) (ww o1 (ww o0 (tt k0 nn))))))))))) (fun k0=>(sl Jf 36 [] ⟨[2,3,4,5,0,6,7,8,9,1],[],u2t,u2u⟩ ⟨[],[],[]⟩ (bl 2 0) (pp (fl bQ (fl aD nn)) (tt k0 nn)))))
theorem x4v (q:Op) (l0:List R4) (l1:List R4):Xj prog (Zy prog (nRg q)) (rgjC q l0 l1) (Ze prog (nRg q) [(.dat l0.length (Zz l0)),(.dat l1.length (Zz l1))] true []) (y0u q l0 l1):=by cases q <;> exact (lo fun bU=>(lb (fun k0=>(lr 11 3 [1,1,1,1,1,1,1,0] 1 28 [(4,.nils),(5,(ii (y4o (cvT l0))))] (sl Jf 65 [] ⟨[],[],[some [4,5]],[]⟩ ⟨[],[],[]⟩ [true,true] (tt k0 (tt k0 (pp (pp (xr l0) (xw bU)) nn)))))) (fun k0=>(lo fun aG=>(lb (fun k1=>(lr 11 3 [1,1,1,1,1,1,1,0] 1 28 [(4,.nils),(5,(ii (y4o (cvT l1))))] (sl Jf 67 [] ⟨[],[],[some [4,5]],[]⟩ ⟨[],[],[]⟩ [false,true] (tt k1 (pp (pp (xr l1) (xw aG)) (tt k0 (pp (pp (xr l0) (xw bU)) nn))))))) (fun k1=>(sl Jf 108 [(3,1,Zz ([]:List Int))] ⟨[5,4,6,0,1,2,3,7],[],rgjN0,rgjM0⟩ ⟨[],[.keep,.keep,.cells [.grow 7 1],.keep,.keep,.keep,.keep,.keep],[]⟩ [false,false,true] (pp (fl ([]:List Int) nn) (tt k1 (pp (pp (xr l1) (xw aG)) (tt k0 (pp (pp (xr l0) (xw bU)) nn))))))))))))
theorem v2v (q:Op) (l0:List R4) (l1:List R4) (n:Nat) (vs:List AVal) (h:Yv (Yc q l0 l1) n (y0u q l0 l1)=.ret vs):Ky prog (Zy prog (nRg q)) (Ze prog (nRg q) [(.dat l0.length (Zz l0)),(.dat l1.length (Zz l1))] true []) vs:=by have:=Zr (w1y q l0 l1) n _ (x4v q l0 l1);rwa [h] at this
end Go.Am
namespace Go.Am
open Go.Proofs.Tryz
open Go.Proofs
open Go.Sort Go.Shelf Go.RowKit Go.Lib
def w4m (E:Int→Int) (cs:List Int):Nat→Nat→Int
 | 0,_=>0
 | k+1,i=>bif E (rd cs i) != 0 then E (rd cs i) else w4m E cs k (i+1)
def eJ (e:Int) (n:Nat):Int:=bif e != 0 then e else y7l n
theorem v3f {α:Type} [Yo α] (L:List α):y2g (eJ 0 L.length) L=Km L:=(z7d L).symm
theorem y9o {n:Nat} (h:y7l n=0):n≤400:=by
 unfold y7l at h;by_cases g:(n:Int)>400
 ·rw [decide_eq_true g] at h;cases h
 ·omega
theorem w9u {α:Type} {e:Int} (L:List α) (h:(e != 0)=false):y9k e L=L:=by unfold y9k;rw [h];rfl
def rgS (q:Op) (a b:List R4) (x:Int):List R2:=spJ q.k (D4.inn a x) (D4.inn b x)
def rgA (q:Op) (a b:List R4) (x:Int):Int:=spE q.k (D4.inn a x) (D4.inn b x)
theorem u2w (q:Op) (a b:List R4) (x:Int) (h:(rgA q a b x != 0)=false):(rgS q a b x).length ≤1000:=by
 have h:rgA q a b x=0:=by simpa using h
 unfold rgA spE at h;cases g1:(y5v (D4.inn a x) != 0) with
 | true=>rw [g1,cond_true] at h;rw [h] at g1;cases g1
 | false=>
  cases g2:(y5v (D4.inn b x) != 0) with
  | true=>rw [g1,g2,cond_false,cond_true] at h;rw [h] at g2;cases g2
  | false=>rw [g1,g2,cond_false,cond_false] at h;exact Nat.le_trans (y9o h) (by omega)
section
variable (q:Op) (a b:List R4) (ha:a.length≤400) (hb:b.length≤400)
include ha hb
theorem v8e (i:Nat) (out:List R4) (last:List R2) (first fin x x':Int): ∀(k j:Nat) (acc:List R2),j+k=a.length→acc.length≤j→
  ∃n,∀N,Yv (Yc q a b) (N+n) (.to (.h3 (i:Int) (j:Int) out last first fin ((D4.cuts (a++b)).length) (Wz (Yh (D4.ends (a++b)))) x x' acc))=Yv (Yc q a b) N (.to (.h4 (i:Int) 0 out last first fin ((D4.cuts (a++b)).length) (Wz (Yh (D4.ends (a++b)))) x x' (acc++D4.inn (a.drop j) x) []))
 | 0,j,acc,h,h'=>by have _u:=ha;have _v:=hb;refine ⟨1,fun N=> ?_⟩;rw [List.drop_eq_nil_of_le (by omega),show D4.inn ([]:List R4) x=[] from rfl,List.append_nil,Zv];simp (disch:=omega) only [Yc,Yw,cond_false]
 | k+1,j,acc,h,h'=>by
  have hj:j<a.length:=by omega
  obtain ⟨n,hn⟩:=v8e i out last first fin x x' k (j+1) (acc++D4.inn [rd a j] x) (by omega) (by have:=D4.inn_length [rd a j] x;simp only [List.length_append,List.length_singleton] at*;omega)
  refine ⟨n+1,fun N=> ?_⟩;have e:D4.inn (a.drop j) x=D4.inn [rd a j] x++D4.inn (a.drop (j+1)) x:=by rw [Yp hj,←D4.inn_append];rfl
  rw [e,←Nat.add_assoc,Zv,←List.append_assoc,←hn N];by_cases h1:D4.lo (rd a j)≤x
  ·by_cases h2:x<D4.hi (rd a j)
   ·rw [D4.inn_t _ _ h1 h2];simp only [D4] at h1 h2 ⊢;simp (disch:=omega) only [Yc,Xh,Za,Zq,Zt,Yz,Yg,Yu,Yk,Zi,Zk,Zx,Yq,Zj,Nat.zero_add,decide_true,Bool.and_true,Bool.true_and,cond_true,cond_false]
   ·rw [D4.inn_f2 _ _ h2,List.append_nil];simp only [D4] at h1 h2;simp (disch:=omega) only [Yc,Xh,Yw,Za,Zq,Zt,Yz,Yg,Yu,Yk,Zi,Zk,Zx,Yq,Zj,Nat.zero_add,decide_true,Bool.and_true,Bool.true_and,cond_true,cond_false]
  ·rw [D4.inn_f1 _ _ h1,List.append_nil];simp only [D4] at h1;simp (disch:=omega) only [Yc,x6y,Za,Zq,Zt,Yz,Yg,Yu,Yk,Zi,Zk,Zx,Yq,Zj,Nat.zero_add,decide_true,Bool.and_true,Bool.true_and,cond_true,cond_false]
theorem v8d (i:Nat) (out:List R4) (last:List R2) (first fin x x':Int) (o1:List R2): ∀(k j:Nat) (acc:List R2),j+k=b.length→acc.length≤j→
  ∃n,∀N,Yv (Yc q a b) (N+n) (.to (.h4 (i:Int) (j:Int) out last first fin ((D4.cuts (a++b)).length) (Wz (Yh (D4.ends (a++b)))) x x' o1 acc))=Yv (Yc q a b) N (.to (.h4 (i:Int) (b.length:Int) out last first fin ((D4.cuts (a++b)).length) (Wz (Yh (D4.ends (a++b)))) x x' o1 (acc++D4.inn (b.drop j) x)))
 | 0,j,acc,h,h'=>by have _u:=ha;have _v:=hb;refine ⟨0,fun N=> ?_⟩;rw [List.drop_eq_nil_of_le (by omega),show D4.inn ([]:List R4) x=[] from rfl,List.append_nil,Nat.add_zero,show j=b.length by omega]
 | k+1,j,acc,h,h'=>by
  have hj:j<b.length:=by omega
  obtain ⟨n,hn⟩:=v8d i out last first fin x x' o1 k (j+1) (acc++D4.inn [rd b j] x) (by omega) (by have:=D4.inn_length [rd b j] x;simp only [List.length_append,List.length_singleton] at*;omega)
  refine ⟨n+1,fun N=> ?_⟩;have e:D4.inn (b.drop j) x=D4.inn [rd b j] x++D4.inn (b.drop (j+1)) x:=by rw [Yp hj,←D4.inn_append];rfl
  rw [e,←Nat.add_assoc,Zv,←List.append_assoc,←hn N];by_cases h1:D4.lo (rd b j)≤x
  ·by_cases h2:x<D4.hi (rd b j)
   ·rw [D4.inn_t _ _ h1 h2];simp only [D4] at h1 h2 ⊢;simp (disch:=omega) only [Yc,Xh,Za,Zq,Zt,Yz,Yg,Yu,Yk,Zi,Zk,Zx,Yq,Zj,Nat.zero_add,decide_true,Bool.and_true,Bool.true_and,cond_true,cond_false]
   ·rw [D4.inn_f2 _ _ h2,List.append_nil];simp only [D4] at h1 h2;simp (disch:=omega) only [Yc,Xh,Yw,Za,Zq,Zt,Yz,Yg,Yu,Yk,Zi,Zk,Zx,Yq,Zj,Nat.zero_add,decide_true,Bool.and_true,Bool.true_and,cond_true,cond_false]
  ·rw [D4.inn_f1 _ _ h1,List.append_nil];simp only [D4] at h1;simp (disch:=omega) only [Yc,x6y,Za,Zq,Zt,Yz,Yg,Yu,Yk,Zi,Zk,Zx,Yq,Zj,Nat.zero_add,decide_true,Bool.and_true,Bool.true_and,cond_true,cond_false]
theorem v8c (i:Nat) (hi:i≤2000) (x x':Int) (s:List R2) (first:Int) (o1 o2:List R2) (hs:s.length≤1000): ∀(k j:Nat) (out:List R4),j+k=s.length→out.length≤10000000+j→
  ∃n,∀N,Yv (Yc q a b) (N+n) (.to (.h5 x x' s (s.length:Int) (j:Int) (i:Int) out first ((D4.cuts (a++b)).length) (Wz (Yh (D4.ends (a++b)))) o1 o2))=Yv (Yc q a b) N (.to (.h2 ((i+1:Nat):Int) (out++(s.drop j).map (D4.put x x')) s first x' ((D4.cuts (a++b)).length) (Wz (Yh (D4.ends (a++b))))))
 | 0,j,out,h,ho=>by have _u:=ha;have _v:=hb;refine ⟨1,fun N=> ?_⟩;rw [List.drop_eq_nil_of_le (by omega),Zv];simp (disch:=omega) only [Yc,Yw,Zk,Zx,cond_false,List.map_nil,List.append_nil]
 | k+1,j,out,h,ho=>by
  obtain ⟨n,hn⟩:=v8c i hi x x' s first o1 o2 hs k (j+1) (out++[D4.put x x' (rd s j)]) (by omega) (by simp;omega)
  refine ⟨n+1,fun N=> ?_⟩;have:=hn N;rw [Yp (show j<s.length by omega),List.map_cons,←Nat.add_assoc,Zv];simp (disch:=omega) only [Yc,Za,Zq,Zt,Yz,Yg,Yu,Yk,Zi,Zk,Zx,Yq,Zj,Nat.zero_add,decide_true,Bool.and_true,Bool.true_and,cond_true,cond_false];rw [List.append_assoc] at this;exact this
theorem v8b (i:Nat) (hi:i≤2000) (x x' fin:Int) (s last:List R2) (first:Int) (o1 o2:List R2): ∀(k j:Nat) (out:List R4),j+k=out.length→out.length≤10000000→
  ∃n,∀N,Yv (Yc q a b) (N+n) (.to (.h6 x' (j:Int) x s (i:Int) out last first fin ((D4.cuts (a++b)).length) (Wz (Yh (D4.ends (a++b)))) o1 o2))=Yv (Yc q a b) N (.to (.h2 ((i+1:Nat):Int) (D4.grow out j x') last first x' ((D4.cuts (a++b)).length) (Wz (Yh (D4.ends (a++b))))))
 | 0,j,out,h,ho=>by have _u:=ha;have _v:=hb;refine ⟨1,fun N=> ?_⟩;rw [D4.grow_nil _ _ _ (by omega),Zv];simp (disch:=omega) only [Yc,Yw,Zk,Zx,cond_false]
 | k+1,j,out,h,ho=>by
  obtain ⟨n,hn⟩:=v8b i hi x x' fin s last first o1 o2 k (j+1) (out.set j (D4.ext x' (rd out j))) (by simp;omega) (by simpa using ho)
  refine ⟨n+1,fun N=> ?_⟩;have:=hn N;rw [D4.grow_set out j _ (by omega)] at this;rw [←Nat.add_assoc,Zv];simp (disch:=omega) only [Yc,Za,Zq,Zt,Yz,Yg,Yu,Yk,Zi,Zk,Zx,Yq,Zj,Nat.zero_add,decide_true,Bool.and_true,Bool.true_and,cond_true,cond_false];exact this
theorem w6m : ∀(k i:Nat) (s:Sw R4 R2),k=(D4.cuts (a++b)).length - 1 - i→i≤(D4.cuts (a++b)).length →s.out.length≤i*1000→s.last.length≤1000→s.first≤s.out.length→
  ∃n,Yv (Yc q a b) n (.to (.h2 ((i+1:Nat):Int) s.out s.last (s.first:Int) s.fin ((D4.cuts (a++b)).length) (Wz (Yh (D4.ends (a++b))))))=.ret (y2g (eJ (w4m (rgA q a b) (D4.cuts (a++b)) k i) (D4.goS (rgS q a b) (D4.cuts (a++b)) k i s).out.length) (D4.goS (rgS q a b) (D4.cuts (a++b)) k i s).out)
 | 0,i,s,h,hi,ho,hla,hf=>by
  have _u:=ha;have _v:=hb;have hc:=D4.cuts_length (a++b);refine ⟨1,?_⟩;rw [Zv,show D4.goS (rgS q a b) (D4.cuts (a++b)) 0 i s=s from rfl,show w4m (rgA q a b) (D4.cuts (a++b)) 0 i=0 from rfl,v3f];unfold Km;by_cases g:(s.out.length:Int)>400
  ·simp (disch:=omega) only [Yc,Yw,Ye,cond_true,cond_false,Zm]
  ·simp (disch:=omega) only [Yc,Yw,Xv,cond_true,cond_false,Zm]
 | k +1,i,s,h,hi,ho,hla,hf=>by
  have hc:=D4.cuts_length (a++b);rw [List.length_append] at hc;have hi1:i+1<(D4.cuts (a++b)).length :=by omega
  have hpl:(Wz (Yh (D4.ends (a++b)))).length =2*(a.length+b.length):=by rw [Uy,Xs,D4.ends_length,List.length_append]
  have r0:rd (Wz (Yh (D4.ends (a++b)))) i=rd (D4.cuts (a++b)) i:=z2u _ _ (by show i<(D4.cuts (a++b)).length;omega);have r1:rd (Wz (Yh (D4.ends (a++b)))) (i+1)=rd (D4.cuts (a++b)) (i+1):=z2u _ _ (by show i+1<(D4.cuts (a++b)).length;omega);have hbig:i*1000≤2000*1000:=Nat.mul_le_mul_right _ (by omega);have hgo:D4.goS (rgS q a b) (D4.cuts (a++b)) (k+1) i s=D4.goS (rgS q a b) (D4.cuts (a++b)) k (i+1) (D4.oneS (rgS q a b (rd (D4.cuts (a++b)) i)) (rd (D4.cuts (a++b)) i) (rd (D4.cuts (a++b)) (i+1)) s):=rfl;have hfe: ∀x,x=rd (D4.cuts (a++b)) i→(rgA q a b x != 0)=false→w4m (rgA q a b) (D4.cuts (a++b)) (k+1) i=w4m (rgA q a b) (D4.cuts (a++b)) k (i+1):=fun x hx z=>by show (bif rgA q a b (rd (D4.cuts (a++b)) i) != 0 then _ else _)=_;rw [←hx,z];rfl
  revert hgo hfe r0;generalize hx:rd (D4.cuts (a++b)) i=x;generalize hx':rd (D4.cuts (a++b)) (i+1)=x' at r1;intro r0 hgo hfe;obtain ⟨n3,h3⟩:=v8e q a b ha hb (i+1) s.out s.last (s.first:Int) s.fin x x' a.length 0 [] (Nat.zero_add _) (Nat.le_refl _);simp only [List.drop_zero,List.nil_append,z5l] at h3;obtain ⟨n4,h4⟩:=v8d q a b ha hb (i+1) s.out s.last (s.first:Int) s.fin x x' (D4.inn a x) b.length 0 [] (Nat.zero_add _) (Nat.le_refl _);simp only [List.drop_zero,List.nil_append,z5l] at h4;have st0: ∀N,Yv (Yc q a b) (N+n4+n3+1) (.to (.h2 ((i+1:Nat):Int) s.out s.last (s.first:Int) s.fin ((D4.cuts (a++b)).length) (Wz (Yh (D4.ends (a++b))))))=Yv (Yc q a b) N (.to (.h4 ((i+1:Nat):Int) (b.length:Int) s.out s.last (s.first:Int) s.fin ((D4.cuts (a++b)).length) (Wz (Yh (D4.ends (a++b)))) x x' (D4.inn a x) (D4.inn b x))):=fun N=>by
   rw [←h4 N,←h3 (N+n4),Zv];have e1:IntKind.wrap .i64 (((i+1:Nat):Int) - 1)=(i:Int):=by rw [Zs];exact Zk (by omega)
   simp (disch:=omega) only [Yc,e1,r0,r1,Za,Zq,Zt,Yz,Yg,Yu,Yk,Zi,Zk,Zx,Yq,Zj,Nat.zero_add,decide_true,Bool.and_true,Bool.true_and,cond_true,cond_false]
  have w1:y7y q (D4.inn a x) (D4.inn b x)=true:=rfl;have f1:Qa (Zz (D4.inn a x))=true:=Xw _;have f2:Qa (Zz (D4.inn b x))=true:=Xw _;rcases Yf (rgA q a b x != 0) with z | z
  ·have z':(w1e q (D4.inn a x) (D4.inn b x) != 0)=true:=z;refine ⟨1+n4+n3+1,?_⟩;rw [st0 1,Zv];have e:w4m (rgA q a b) (D4.cuts (a++b)) (k+1) i=rgA q a b x:=by show (bif rgA q a b (rd (D4.cuts (a++b)) i) != 0 then rgA q a b (rd (D4.cuts (a++b)) i) else _)=_;rw [hx,z];rfl
   simp (disch:=omega) only [Yc,Yw,z',w1,f1,f2,Za,Zq,Zt,Yz,Yg,Yu,Yk,Zi,Zk,Zx,Yq,Zj,Nat.zero_add,decide_true,Bool.and_true,Bool.true_and,cond_true,cond_false,Zm];rw [e,show eJ (rgA q a b x) _=rgA q a b x by unfold eJ;rw [z];rfl,z1m _ z];rfl
  have z':(w1e q (D4.inn a x) (D4.inn b x) != 0)=false:=z;have v:z2n q (D4.inn a x) (D4.inn b x)=rgS q a b x:=w9u _ z;have hsl:=u2w q a b x z;have w2:Vp s.last (rgS q a b x)=true:=decide_eq_true (by omega);rw [hgo,hfe x rfl z];have ol:(D4.oneS (rgS q a b x) x x' s).out.length ≤s.out.length+(rgS q a b x).length :=by
   unfold Dim.oneS;cases decide (0<(rgS q a b x).length)&&((s.fin == x)&&D4.same s.last (rgS q a b x))
   ·simp
   ·simp [Dim.grow_length]
  rcases Yf (decide (0<(rgS q a b x).length)&&((s.fin == x)&&D4.same s.last (rgS q a b x))) with g | g
  ·obtain ⟨n6,h6⟩:=v8b q a b ha hb (i+1) (by omega) x x' s.fin (rgS q a b x) s.last (s.first:Int) (D4.inn a x) (D4.inn b x) (s.out.length - s.first) s.first s.out (by omega) (by omega)
   have e:D4.oneS (rgS q a b x) x x' s=⟨D4.grow s.out s.first x',s.last,s.first,x'⟩:=by unfold Dim.oneS;rw [g];rfl
   obtain ⟨n0,h0⟩:=w6m k (i+1) (D4.oneS (rgS q a b x) x x' s) (by omega) (by omega) (by omega) (by rw [e];exact hla) (by rw [e];simpa [Dim.grow_length] using hf);refine ⟨n0+n6+1+n4+n3+1,?_⟩;rw [st0 (n0+n6+1),Zv];simp only [Bool.and_eq_true,decide_eq_true_eq] at g;obtain ⟨g1,g2,g3⟩:=g;have g3':Kj s.last (rgS q a b x)=true:=g3;simp (disch:=omega) only [Yc,Yw,Ye,z',v,g2,g3',w1,f1,f2,w2,Za,Zq,Zt,Yz,Yg,Yu,Yk,Zi,Zk,Zx,Yq,Zj,Nat.zero_add,decide_true,Bool.and_true,Bool.true_and,cond_true,cond_false];rw [h6 n0];rw [e] at h0 ⊢;exact h0
  ·obtain ⟨n5,h5⟩:=v8c q a b ha hb (i+1) (by omega) x x' (rgS q a b x) (s.out.length:Int) (D4.inn a x) (D4.inn b x) hsl (rgS q a b x).length 0 s.out (Nat.zero_add _) (by omega);simp only [List.drop_zero,z5l] at h5;have e:D4.oneS (rgS q a b x) x x' s=⟨s.out++(rgS q a b x).map (D4.put x x'),rgS q a b x,s.out.length,x'⟩:=by unfold Dim.oneS;rw [g];rfl
   obtain ⟨n0,h0⟩:=w6m k (i+1) (D4.oneS (rgS q a b x) x x' s) (by omega) (by omega) (by omega) (by rw [e];exact hsl) (by rw [e];simp);have hg:Yv (Yc q a b) 1 (.to (.h4 ((i+1:Nat):Int) (b.length:Int) s.out s.last (s.first:Int) s.fin ((D4.cuts (a++b)).length) (Wz (Yh (D4.ends (a++b)))) x x' (D4.inn a x) (D4.inn b x)))=.to (.h5 x x' (rgS q a b x) ((rgS q a b x).length :Int) 0 ((i+1:Nat):Int) s.out (s.out.length:Int) ((D4.cuts (a++b)).length) (Wz (Yh (D4.ends (a++b)))) (D4.inn a x) (D4.inn b x)):=by
    rw [show (1:Nat)=0+1 from rfl,Zv];have e3:D4.same s.last (rgS q a b x)=Kj s.last (rgS q a b x):=rfl;rw [e3] at g;by_cases g1:0<(rgS q a b x).length
    ·rw [decide_eq_true g1,Bool.true_and] at g;rcases Yf (s.fin == x) with g2 | g2
     ·rw [g2,Bool.true_and] at g;simp (disch:=omega) only [Yc,Yw,Ye,z',v,g2,g,w1,f1,f2,w2,Za,Zq,Zt,Yz,Yg,Yu,Yk,Zi,Zk,Zx,Yq,Zj,Nat.zero_add,decide_true,Bool.and_true,Bool.true_and,cond_true,cond_false];rfl
     ·simp (disch:=omega) only [Yc,Yw,Ye,z',v,g2,w1,f1,f2,w2,Za,Zq,Zt,Yz,Yg,Yu,Yk,Zi,Zk,Zx,Yq,Zj,Nat.zero_add,decide_true,Bool.and_true,Bool.true_and,cond_true,cond_false];rfl
    ·simp (disch:=omega) only [Yc,Yw,Xv,z',v,w1,f1,f2,w2,Za,Zq,Zt,Yz,Yg,Yu,Yk,Zi,Zk,Zx,Yq,Zj,Nat.zero_add,decide_true,Bool.and_true,Bool.true_and,cond_true,cond_false];rfl
   refine ⟨n0+n5+1+n4+n3+1,?_⟩;rw [st0 (n0+n5+1),z6q _ (n0+n5) 1,hg,h5 n0];rw [e] at h0 ⊢;exact h0
theorem v8f : ∀(k i:Nat) (acc:List Int),i+k=b.length→acc=D4.ends (a++b.take i)→ ∃n,Yv (Yc q a b) n (.to (.h1 (i:Int) acc))=.ret (y2g (eJ (w4m (rgA q a b) (D4.cuts (a++b)) ((D4.cuts (a++b)).length - 1) 0) (D4.goS (rgS q a b) (D4.cuts (a++b)) ((D4.cuts (a++b)).length - 1) 0 ⟨[],[],0,0⟩).out.length) (D4.goS (rgS q a b) (D4.cuts (a++b)) ((D4.cuts (a++b)).length - 1) 0 ⟨[],[],0,0⟩).out)
 | 0,i,acc,h,h'=>by
  have _u:=ha;have _v:=hb;have e:acc=D4.ends (a++b):=by rw [h',List.take_of_length_le (by omega)]
  subst e;have hle:=D4.ends_length (a++b);rw [List.length_append] at hle;obtain ⟨n,hn⟩:=w6m q a b ha hb ((D4.cuts (a++b)).length - 1) 0 ⟨[],[],0,0⟩ (by omega) (Nat.zero_le _) (Nat.zero_le _) (Nat.zero_le _) (Nat.zero_le _);refine ⟨n+1,?_⟩;rw [Zv];simp (disch:=omega) only [Yc,Wg,Qx,z8o,Yw,Yu,Yk,decide_true,cond_true,cond_false];exact hn
 | k+1,i,acc,h,h'=>by
  have hle:acc.length≤2*(400+i):=by rw [h',D4.ends_length];simp only [List.length_append,List.length_take];omega
  obtain ⟨n,hn⟩:=v8f k (i+1) (acc++D4.ends [rd b i]) (by omega) (by
   rw [h',List.take_add_one];have:b[i]? =some (rd b i):=by rw [Xu (show i<b.length by omega)];exact List.getElem?_eq_getElem _
   rw [this];simp [Dim.ends])
  refine ⟨n+1,?_⟩;rw [Zv];simp (disch:=omega) only [Yc,Za,Zq,Zt,Yz,Yg,Yu,Yk,Zi,Zk,Zx,Yq,Zj,Nat.zero_add,decide_true,Bool.and_true,Bool.true_and,cond_true,cond_false];exact hn
theorem v8g : ∀(k i:Nat) (acc:List Int),i+k=a.length→acc=D4.ends (a.take i)→ ∃n,Yv (Yc q a b) n (.to (.h0 (i:Int) acc))=.ret (y2g (eJ (w4m (rgA q a b) (D4.cuts (a++b)) ((D4.cuts (a++b)).length - 1) 0) (D4.goS (rgS q a b) (D4.cuts (a++b)) ((D4.cuts (a++b)).length - 1) 0 ⟨[],[],0,0⟩).out.length) (D4.goS (rgS q a b) (D4.cuts (a++b)) ((D4.cuts (a++b)).length - 1) 0 ⟨[],[],0,0⟩).out)
 | 0,i,acc,h,h'=>by have _u:=ha;have _v:=hb;obtain ⟨n,hn⟩:=v8f q a b ha hb b.length 0 acc (Nat.zero_add _) (by rw [h',List.take_of_length_le (by omega),List.take_zero,List.append_nil]);refine ⟨n+1,?_⟩;rw [Zv];simp (disch:=omega) only [Yc,Yw,cond_false];exact hn
 | k+1,i,acc,h,h'=>by
  have hle:acc.length≤2*(400+i):=by rw [h',D4.ends_length];simp only [List.length_append,List.length_take];omega
  obtain ⟨n,hn⟩:=v8g k (i+1) (acc++D4.ends [rd a i]) (by omega) (by
   rw [h',List.take_add_one];have:a[i]? =some (rd a i):=by rw [Xu (show i<a.length by omega)];exact List.getElem?_eq_getElem _
   rw [this];simp [Dim.ends])
  refine ⟨n+1,?_⟩;rw [Zv];simp (disch:=omega) only [Yc,Za,Zq,Zt,Yz,Yg,Yu,Yk,Zi,Zk,Zx,Yq,Zj,Nat.zero_add,decide_true,Bool.and_true,Bool.true_and,cond_true,cond_false];exact hn
end
def rgE (q:Op) (a b:List R4):Int:=bif y4o a != 0 then y4o a else bif y4o b != 0 then y4o b else eJ (w4m (rgA q a b) (D4.cuts (a++b)) ((D4.cuts (a++b)).length - 1) 0) (rgJ q.k a b).length
def Vz (q:Op) (a b:List R4):List R4:=y9k (rgE q a b) (rgJ q.k a b)
def x0x (q:Op) (a b:List R4):Int:=rgE q a b
def Kh (q:Op) (a b:List R4):Bool:=true
theorem x8x {l:List R4} (h:(y4o l != 0)=false):l.length≤400:=by
 refine Classical.byContradiction fun g=> ?_;have h:y4o l=0:=by simpa using h
 unfold y4o at h;rw [decide_eq_true (by omega)] at h;cases h
theorem rg_run (q:Op) (a b:List R4) (h:Kh q a b=true): ∃n,Yv (Yc q a b) n (y0u q a b)=.ret (y2g (rgE q a b) (rgJ q.k a b)):=by
 unfold y0u;have o: ∀l,z2s l=true:=fun _=>rfl;simp only [Za,o,cond_true];rcases Yf (y4o a != 0) with q1 | q1
 ·exact ⟨0,by simp only [rgE,q1,cond_true,z1m _ q1];rfl⟩
 rcases Yf (y4o b != 0) with q2 | q2
 ·exact ⟨0,by simp only [rgE,q1,q2,cond_true,cond_false,z1m _ q2];rfl⟩
 obtain ⟨n,hn⟩:=v8g q a b (x8x q1) (x8x q2) a.length 0 [] (Nat.zero_add _) rfl;refine ⟨n,?_⟩;simp only [rgE,q1,q2,cond_false];exact hn
def fRg (q:Op):List AVal→Option (AVal×Bool)
 | [a0,a1]=>match asL R4 a0,asL R4 a1 with
  | some (L0,g0,n0),some (L1,g1,n1)=>some (.tup [.dat (Vz q L0 L1).length (Zz (Vz q L0 L1)),.int .i64 (x0x q L0 L1)],isT R4 n0 g0&&(isT R4 n1 g1&&(Kh q L0 L1)))
  | _,_=>none
 | _=>none
theorem w9r (q:Op) {S:Specs} (hS:Zu prog S):Zu prog (S.with (nRg q) (fRg q)):=by
 refine w9m hS (by cases q <;> kernel_rfl) fun args v h=> ?_;unfold fRg at h;split at h
 ·rename_i a0 a1;split at h
  ·rename_i L0 g0 n0 L1 g1 n1 e0 e1;simp only [Option.some.injEq,Prod.mk.injEq,Bool.and_eq_true] at h;obtain ⟨rfl,ho0,ho1,hw⟩:=h;obtain ⟨N,hN⟩:=rg_run q L0 L1 hw;exact ⟨_,_,(.cons (asL_le e0 ho0) (.cons (asL_le e1 ho1) .nil)),z3s _ _,v2v q L0 L1 N _ hN,3,z7t _ _⟩
  ·cases h
 ·cases h
def Ud :Specs:=((Uc.with (nRg .u) (fRg .u)).with (nRg .e) (fRg .e)).with (nRg .d) (fRg .d)
theorem Ud_ok :Zu prog Ud:=w9r .d (w9r .e (w9r .u Jf))
end Go.Am
namespace Go.Am
structure R7 where
 (a b c d e f g:Int)
instance : Yo R7 where
 w:=7
 d:=⟨0,0,0,0,0,0,0⟩
 cells x:=[.int .u8 x.a,.int .i64 x.b,.int .i64 x.c,.int .i64 x.d,.int .i64 x.e,.int .i64 x.f,.int .i64 x.g]
 of l:=⟨iOf (l.getD 0 .undef),iOf (l.getD 1 .undef),iOf (l.getD 2 .undef),iOf (l.getD 3 .undef),iOf (l.getD 4 .undef),iOf (l.getD 5 .undef),iOf (l.getD 6 .undef)⟩
 len _:=rfl
 pos:=by decide
 flat _:=rfl
 sc _:=rfl
 back _:=rfl
end Go.Am
namespace Go.Am
inductive Ax where
 | x | y | z
def Ax.lo (q:Ax) (r:R6):Int:=match q with
 | .x =>r.a
 | .y =>r.b
 | .z =>r.c
def Ax.hi (q:Ax) (r:R6):Int:=match q with
 | .x =>r.d
 | .y =>r.e
 | .z =>r.f
def Ax.rc (q:Ax) (r:R6):R4:=match q with
 | .x =>⟨r.b,r.c,r.e,r.f⟩
 | .y =>⟨r.a,r.c,r.d,r.f⟩
 | .z =>⟨r.a,r.b,r.d,r.e⟩
def Ax.ix (q:Ax):Int:=match q with
 | .x =>0
 | .y =>1
 | .z =>2
def sdI (s:Bool):Int:=match s with
 | true=>0
 | false=>1
def qd (q:Ax) (s:Bool) (p:Int) (t:R4):R7:=match q,s with
 | .x,true=>⟨0,p,t.a,t.b,p,t.c,t.d⟩
 | .x,false=>⟨1,p,t.a,t.b,p,t.c,t.d⟩
 | .y,true=>⟨2,t.a,p,t.b,t.c,p,t.d⟩
 | .y,false=>⟨3,t.a,p,t.b,t.c,p,t.d⟩
 | .z,true=>⟨4,t.a,t.b,p,t.c,t.d,p⟩
 | .z,false=>⟨5,t.a,t.b,p,t.c,t.d,p⟩
def z1c (q:Ax) (L:List R6) (p:Int):List R4:=(L.filter fun r=>decide (q.lo r≤p)&&decide (p<q.hi r)).map q.rc
end Go.Am
namespace Go.Am
open Go.Proofs.Tryz
open Go.Proofs
abbrev nV1 :Ax→Nat
 | .x =>nMv1
 | .y =>nMv4
 | .z =>nMv7
abbrev nV2 :Ax→Nat
 | .x =>nMv2
 | .y =>nMv5
 | .z =>nMv8
abbrev nV3 :Ax→Nat
 | .x =>nMv3
 | .y =>nMv6
 | .z =>nMv9
def isV (q:Ax) (a b c:Nat):Bool:=Nat.beq a (nV1 q)&&(Nat.beq b (nV2 q)&&Nat.beq c (nV3 q))
theorem w8o {q:Ax} {a b c:Nat} (h:isV q a b c=true):a=nV1 q∧b=nV2 q∧c=nV3 q:=by simp only [isV,Bool.and_eq_true] at h;exact ⟨Nat.eq_of_beq_eq_true h.1,Nat.eq_of_beq_eq_true h.2.1,Nat.eq_of_beq_eq_true h.2.2⟩
def axOf (a b c:Nat):Option Ax:=bif isV .x a b c then some .x else bif isV .y a b c then some .y else bif isV .z a b c then some .z else none
theorem x7o {a b c:Nat} {q:Ax} (h:axOf a b c=some q):a=nV1 q∧b=nV2 q∧c=nV3 q:=by
 unfold axOf at h;cases hx:isV .x a b c with
 | true=>rw [hx,cond_true] at h;obtain rfl:=Option.some.inj h;exact w8o hx
 | false=>
  rw [hx,cond_false] at h;cases hy:isV .y a b c with
  | true=>rw [hy,cond_true] at h;obtain rfl:=Option.some.inj h;exact w8o hy
  | false=>
   rw [hy,cond_false] at h;cases hz:isV .z a b c with
   | true=>rw [hz,cond_true] at h;obtain rfl:=Option.some.inj h;exact w8o hz
   | false=>rw [hz,cond_false] at h;cases h
abbrev Ma :Specs:=Ud
theorem x8d :Zu prog Ma:=Ud_ok
end Go.Am
namespace Go.Am
open Go.Proofs.Tryz
open Go.Proofs
inductive mctS where
 | h0 (v8:List R4) (v13:Int)
def mctC (q:Ax) (l1:List R6) (x2:Int):mctS→Cfg
 | .h0 v8 v13=>⟨⟨47,0,true⟩,none,(Zd prog 141 [1,1,0,1,0,0] 0),none,(Zy prog 32),⟨Ya [(2,(ii x2)),(3,(.ptr 0 0)),(8,(.sla 1 4 0 v8.length (.un 4))),(11,(.dat l1.length (Zz l1))),(12,(ii (l1.length:Int))),(13,(ii v13))],Uq [⟨[(.fn (nV1 q) []),(.fn (nV2 q) []),(.fn (nV3 q) [])],84,none⟩,⟨rows v8.length (Zz v8),88,some ⟨4,v8.length,(Zz v8)⟩⟩] 0,2,[],true⟩,[],.leaf⟩
def v4g :List (Option (List Nat)):=[some [2,3,8,11,12,13]]
def v4h :List (Option (List Nat)):=[]
def z1t (q:Ax) (l1:List R6) (x2:Int):mctS→Xf mctS
 | .h0 v8 v13=>(bif (decide (v13<(l1.length:Int))) then (bif ((decide (0≤v13∧v13<(l1.length:Int)))&&true) then (bif (decide ((q.lo (rd l1 v13.toNat))≤x2)) then (bif (decide (x2<(q.hi (rd l1 v13.toNat)))) then (bif (Nat.beq 4 4&&((decide (0+v8.length=v8.length))&&decide ((v8.length+1+1)*(32+1)≤Ur))) then (.to (.h0 (v8++[(q.rc (rd l1 v13.toNat))]) (IntKind.wrap .i64 (v13+1)))) else .stuck) else (.to (.h0 v8 (IntKind.wrap .i64 (v13+1))))) else (.to (.h0 v8 (IntKind.wrap .i64 (v13+1))))) else .stuck) else (bif (Vs (cvT v8)) then (.ret [(.dat (Zg (cvT v8)).length (Zz (Zg (cvT v8)))),(.int .i64 (Xp (cvT v8)))]) else .stuck))
def y8y (q:Ax) (l1:List R6) (x2:Int):Xf mctS:=(.to (.h0 ([]:List R4) 0))
theorem w2n (q:Ax) (l1:List R6) (x2:Int): ∀s,Xj prog (Zy prog 141) (mctC q l1 x2) (mctC q l1 x2 s) (z1t q l1 x2 s):=by cases q <;> refine (?f: ∀q:Ax,∀s,Xj prog (Zy prog 141) (mctC q l1 x2) (mctC q l1 x2 s) (z1t q l1 x2 s)) _ <;> exact fun q=>fun
 | .h0 v8 v13=>(lb (fun k0=>(lo fun aG=>(lb (fun k1=>(lb (fun k2=>(lo fun o0=>(sl x8d 137 [] ⟨[0,12],[],v4g,v4h⟩ ⟨[(8,.len (v8++[(q.rc (rd l1 (tn v13)))]).length)],[.keep,.rowed 4 (v8++[(q.rc (rd l1 (tn v13)))]).length (Zz (v8++[(q.rc (rd l1 (tn v13)))]))],[]⟩ (trs 9 []) (pp (xL (v8.length+1) (v8++[(q.rc (rd l1 (tn v13)))]).length) (pp (xL (v8.length+1) (v8++[(q.rc (rd l1 (tn v13)))]).length) (pp (xS (v8.length+1) (Zh (Zz v8) 0 v8.length 4 (Yo.cells (q.rc (rd l1 (tn v13))))) (Zz (v8++[(q.rc (rd l1 (tn v13)))]))) (pp (pp (xF (Zh (Zz v8) 0 v8.length 4 (Yo.cells (q.rc (rd l1 (tn v13)))))) nn) (ww o0 (tt k2 (tt k1 (ww aG (tt k0 nn)))))))))))) (fun k2=>(sl x8d 67 [] ⟨[0,1],[],v4g,v4h⟩ ⟨[],[],[]⟩ (trs 8 [false]) (pp (fl v8 nn) (tt k2 (tt k1 (ww aG (tt k0 nn))))))))) (fun k1=>(sl x8d 55 [] ⟨[0,1],[],v4g,v4h⟩ ⟨[],[],[]⟩ (bl 9 1) (pp (fl v8 nn) (tt k1 (ww aG (tt k0 nn))))))))) (fun k0=>(We (sl x8d (C':=⟨⟨47,0,true⟩,(Up prog 141 [1,1,1,0] 1),(Zd prog 141 [1,1,1,0] 1),none,(Zy prog 32),⟨Ya [(43,(.dat v8.length (Zz v8)))],Uq [] 0,0,[],true⟩,[],.leaf⟩) 10 [] ⟨[],[1],[some [43]],[]⟩ ⟨[(43,.frz v8.length v8.length (Zz v8) (Zz v8))],[],[]⟩ [false] (pp (xZ (z5d 4 4 0 v8.length v8.length (Zz v8)) v8.length (Zz v8)) (pp (xL v8.length v8.length) (pp (xS v8.length (Zz v8) (Zz v8)) (pp (fl v8 nn) (tt k0 nn)))))) (lo fun o0=>(lr 47 3 [1,1,1,1,1,1,1,0] 1 32 [(6,(.dat (Zg (cvT v8)).length (Zz (Zg (cvT v8))))),(7,(ii (Xp (cvT v8))))] (sl x8d 6 [] ⟨[],[],[some [6,7]],[]⟩ ⟨[],[],[]⟩ [] (pp (pp (xr v8) (xw o0)) nn)))))))
theorem x5r (q:Ax) (l1:List R6) (x2:Int):Xj prog (Zy prog 141) (mctC q l1 x2) (Ze prog 141 [(.agg [(.fn (nV1 q) []),(.fn (nV2 q) []),(.fn (nV3 q) [])]),(.dat l1.length (Zz l1)),(.int .i64 x2)] true []) (y8y q l1 x2):=by cases q <;> exact (sl x8d 19 [(88,4,Zz ([]:List R4))] ⟨[0,1],[],v4g,v4h⟩ ⟨[(8,.grow 1 4)],[],[]⟩ [] (pp (fl ([]:List R4) nn) nn))
theorem v4f (q:Ax) (l1:List R6) (x2:Int) (n:Nat) (vs:List AVal) (h:Yv (z1t q l1 x2) n (y8y q l1 x2)=.ret vs):Ky prog (Zy prog 141) (Ze prog 141 [(.agg [(.fn (nV1 q) []),(.fn (nV2 q) []),(.fn (nV3 q) [])]),(.dat l1.length (Zz l1)),(.int .i64 x2)] true []) vs:=by have:=Zr (w2n q l1 x2) n _ (x5r q l1 x2);rwa [h] at this
end Go.Am
namespace Go.Am
open Go.Proofs.Tryz
open Go.Proofs
theorem x7d (q:Ax) (L M:List R6) (p:Int):z1c q (L++M) p=z1c q L p++z1c q M p:=by unfold z1c;rw [List.filter_append,List.map_append]
theorem cutL_t (q:Ax) {r:R6} {p:Int} (h1:q.lo r≤p) (h2:p<q.hi r):z1c q [r] p=[q.rc r]:=by unfold z1c;rw [List.filter_cons,if_pos (by simp [h1,h2])];rfl
theorem u6k (q:Ax) {r:R6} {p:Int} (h1: ¬q.lo r≤p):z1c q [r] p=[]:=by unfold z1c;rw [List.filter_cons,if_neg (by simp [h1])];rfl
theorem u6j (q:Ax) {r:R6} {p:Int} (h2: ¬p<q.hi r):z1c q [r] p=[]:=by unfold z1c;rw [List.filter_cons,if_neg (by simp [h2])];rfl
def Yi (q:Ax) (L:List R6) (p:Int):List R4:=Zg (z1c q L p)
def Jj (q:Ax) (L:List R6) (p:Int):Int:=Xp (z1c q L p)
def z0v (q:Ax) (L:List R6) (p:Int):Bool:=decide (L.length≤400)
theorem v9q (q:Ax) (L:List R6) (p:Int) (hl:L.length≤400): ∀(k i:Nat) (acc:List R4),i+k=L.length→acc.length≤i→z1c q L p=acc++z1c q (L.drop i) p→
  ∃n,Yv (z1t q L p) n (.to (.h0 acc (i:Int)))=.ret [.dat (Yi q L p).length (Zz (Yi q L p)),.int .i64 (Jj q L p)]
 | 0,i,acc,h,h',e=>by rw [List.drop_eq_nil_of_le (by omega),show z1c q [] p=[] from rfl,List.append_nil] at e;refine ⟨1,?_⟩;unfold Yi Jj;rw [Zv,e];simp (disch:=omega) only [z1t,Za,show∀l,Vs l=true from fun _=>rfl,Yw,cond_true,cond_false,Zm]
 | k+1,i,acc,h,h',e=>by
  have hi:i<L.length:=by omega
  have e2:z1c q L p=(acc++z1c q [rd L i] p)++z1c q (L.drop (i+1)) p:=by rw [List.append_assoc,←x7d,e,Yp hi];rfl
  obtain ⟨n,hn⟩:=v9q q L p hl k (i+1) (acc++z1c q [rd L i] p) (by omega) (by
   have:(z1c q [rd L i] p).length ≤1:=by unfold z1c;rw [List.length_map];exact List.length_filter_le _ _
   rw [List.length_append];omega) e2
  refine ⟨n+1,?_⟩;rw [Zv];by_cases h1:q.lo (rd L i)≤p
  ·by_cases h2:p<q.hi (rd L i)
   ·rw [cutL_t q h1 h2] at hn;simp (disch:=omega) only [z1t,Xh,Za,Zq,Zt,Yz,Yg,Yu,Yk,Zi,Zk,Zx,Yq,Zj,Nat.zero_add,decide_true,Bool.and_true,Bool.true_and,cond_true,cond_false];exact hn
   ·rw [u6j q h2,List.append_nil] at hn;simp (disch:=omega) only [z1t,Xh,Yw,Za,Zq,Zt,Yz,Zk,Zx,Zj,Bool.and_true,cond_true,cond_false];exact hn
  ·rw [u6k q h1,List.append_nil] at hn;simp (disch:=omega) only [z1t,x6y,Za,Zq,Zt,Yz,Zk,Zx,Zj,Bool.and_true,cond_true,cond_false];exact hn
theorem u4a (q:Ax) (L:List R6) (p:Int) (h:z0v q L p=true): ∃n,Yv (z1t q L p) n (y8y q L p)=.ret [.dat (Yi q L p).length (Zz (Yi q L p)),.int .i64 (Jj q L p)]:=
 v9q q L p (of_decide_eq_true h) L.length 0 [] (Nat.zero_add _) (Nat.le_refl _) rfl
def fMct :List AVal→Option (AVal×Bool)
 | [.agg [.fn a [],.fn b [],.fn c []],a1,.int .i64 x2]=>match axOf a b c,asL R6 a1 with
  | some q,some (L1,g1,n1)=>some (.tup [.dat (Yi q L1 x2).length (Zz (Yi q L1 x2)),.int .i64 (Jj q L1 x2)],isT R6 n1 g1&&(z0v q L1 x2))
  | _,_=>none
 | _=>none
theorem u5q {S:Specs} (hS:Zu prog S):Zu prog (S.with nMCut fMct):=by
 refine z3g hS (by kernel_rfl) fun args v h=> ?_;unfold fMct at h;split at h
 ·rename_i a b c a1 x2;split at h
  ·rename_i q L1 g1 n1 eq e1;simp only [Option.some.injEq,Prod.mk.injEq,Bool.and_eq_true] at h;obtain ⟨rfl,ho1,hw⟩:=h;obtain ⟨rfl,rfl,rfl⟩:=x7o eq;obtain ⟨N,hN⟩:=u4a q L1 x2 hw;exact ⟨_,_,(.cons (.refl _) (.cons (asL_le e1 ho1) (.cons (.refl _) .nil))),rfl,v4f q L1 x2 N _ hN,3,rfl⟩
  ·cases h
 ·cases h
def Mb :Specs:=Ma.with nMCut fMct
theorem v1e :Zu prog Mb:=u5q x8d
end Go.Am
namespace Go.Am
open Go.Proofs.Tryz
open Go.Proofs
inductive mfcS where
def mfcC (q:Ax) (l1:List R6) (x2:Int) (x3:Bool):mfcS→Cfg
 :=nofun
def y8x (q:Ax) (l1:List R6) (x2:Int) (x3:Bool):mfcS→Xf mfcS
 :=nofun
def z1s (q:Ax) (l1:List R6) (x2:Int) (x3:Bool):Xf mfcS:=(bif (z0v q (cvT l1) (IntKind.wrap .i64 (x2 - 1))) then (bif (z0v q (cvT l1) x2) then (bif ((Jj q (cvT l1) (IntKind.wrap .i64 (x2 - 1))) != 0) then (.ret [.nils,(.int .i64 (Jj q (cvT l1) (IntKind.wrap .i64 (x2 - 1))))]) else (bif ((Jj q (cvT l1) x2) != 0) then (.ret [.nils,(.int .i64 (Jj q (cvT l1) x2))]) else (bif x3 then (bif (Kh .d (cvT (Yi q (cvT l1) (IntKind.wrap .i64 (x2 - 1)))) (cvT (Yi q (cvT l1) x2))) then (.ret [(.dat (Vz .d (cvT (Yi q (cvT l1) (IntKind.wrap .i64 (x2 - 1)))) (cvT (Yi q (cvT l1) x2))).length (Zz (Vz .d (cvT (Yi q (cvT l1) (IntKind.wrap .i64 (x2 - 1)))) (cvT (Yi q (cvT l1) x2))))),(.int .i64 (x0x .d (cvT (Yi q (cvT l1) (IntKind.wrap .i64 (x2 - 1)))) (cvT (Yi q (cvT l1) x2))))]) else .stuck) else (bif (Kh .d (cvT (Yi q (cvT l1) x2)) (cvT (Yi q (cvT l1) (IntKind.wrap .i64 (x2 - 1))))) then (.ret [(.dat (Vz .d (cvT (Yi q (cvT l1) x2)) (cvT (Yi q (cvT l1) (IntKind.wrap .i64 (x2 - 1))))).length (Zz (Vz .d (cvT (Yi q (cvT l1) x2)) (cvT (Yi q (cvT l1) (IntKind.wrap .i64 (x2 - 1))))))),(.int .i64 (x0x .d (cvT (Yi q (cvT l1) x2)) (cvT (Yi q (cvT l1) (IntKind.wrap .i64 (x2 - 1))))))]) else .stuck)))) else .stuck) else .stuck)
theorem w2l (q:Ax) (l1:List R6) (x2:Int) (x3:Bool): ∀s,Xj prog (Zy prog 101) (mfcC q l1 x2 x3) (mfcC q l1 x2 x3 s) (y8x q l1 x2 x3 s)
 :=nofun
theorem x5p (q:Ax) (l1:List R6) (x2:Int) (x3:Bool):Xj prog (Zy prog 101) (mfcC q l1 x2 x3) (Ze prog 101 [(.agg [(.fn (nV1 q) []),(.fn (nV2 q) []),(.fn (nV3 q) [])]),(.dat l1.length (Zz l1)),(.int .i64 x2),(.bool x3)] true []) (z1s q l1 x2 x3):=by cases q <;> refine (?f: ∀q:Ax,Xj prog (Zy prog 101) (mfcC q l1 x2 x3) (Ze prog 101 [(.agg [(.fn (nV1 q) []),(.fn (nV2 q) []),(.fn (nV3 q) [])]),(.dat l1.length (Zz l1)),(.int .i64 x2),(.bool x3)] true []) (z1s q l1 x2 x3)) _ <;> exact fun q=>(lo fun bU=>(lo fun cQ=>(lb (fun k0=>(lr 50 101 [1,1,1,0,1,0,0] 1 101 [(8,.nils),(9,(ii (Jj q (cvT l1) (wr (x2 - 1)))))] (sl v1e 96 [] ⟨[],[],[some [8,9]],[]⟩ ⟨[],[],[]⟩ (trs 5 []) (tt k0 (tt k0 (pp (pp (pp nn (pp nn (pp nn nn))) (pp (xr l1) (xw cQ))) (pp (pp (pp nn (pp nn (pp nn nn))) (pp (xr l1) (xw bU))) nn))))))) (fun k0=>(lb (fun k1=>(lr 50 101 [1,1,1,0,1,0,0] 1 101 [(8,.nils),(9,(ii (Jj q (cvT l1) x2)))] (sl v1e 125 [] ⟨[],[],[some [8,9]],[]⟩ ⟨[],[],[]⟩ [false,false,true,true,false,true,true] (tt k1 (tt k0 (tt k1 (tt k0 (pp (pp (pp nn (pp nn (pp nn nn))) (pp (xr l1) (xw cQ))) (pp (pp (pp nn (pp nn (pp nn nn))) (pp (xr l1) (xw bU))) nn))))))))) (fun k1=>(lb (fun k2=>(lo fun o0=>(lr 50 101 [1,1,1,1,0,1,0,0] 1 101 [(8,(.dat (Vz .d (cvT (Yi q (cvT l1) (wr (x2 - 1)))) (cvT (Yi q (cvT l1) x2))).length (Zz (Vz .d (cvT (Yi q (cvT l1) (wr (x2 - 1)))) (cvT (Yi q (cvT l1) x2)))))),(9,(ii (x0x .d (cvT (Yi q (cvT l1) (wr (x2 - 1)))) (cvT (Yi q (cvT l1) x2)))))] (sl v1e 59 [] ⟨[],[],[some [8,9]],[]⟩ ⟨[],[],[]⟩ [false,false,false,true] (pp (pp (xI R4 (Yi q (cvT l1) (wr (x2 - 1))).length (Zz (Yi q (cvT l1) (wr (x2 - 1))))) (pp (xI R4 (Yi q (cvT l1) x2).length (Zz (Yi q (cvT l1) x2))) (xw o0))) (tt k2 (tt k1 (tt k0 (pp (pp (pp nn (pp nn (pp nn nn))) (pp (xr l1) (xw cQ))) (pp (pp (pp nn (pp nn (pp nn nn))) (pp (xr l1) (xw bU))) nn)))))))))) (fun k2=>(lo fun o0=>(lr 50 3 [1,1,1,1,1,1,1,0] 1 101 [(8,(.dat (Vz .d (cvT (Yi q (cvT l1) x2)) (cvT (Yi q (cvT l1) (wr (x2 - 1))))).length (Zz (Vz .d (cvT (Yi q (cvT l1) x2)) (cvT (Yi q (cvT l1) (wr (x2 - 1)))))))),(9,(ii (x0x .d (cvT (Yi q (cvT l1) x2)) (cvT (Yi q (cvT l1) (wr (x2 - 1)))))))] (sl v1e 60 [] ⟨[],[],[some [8,9]],[]⟩ ⟨[],[],[]⟩ [false,false,false,false] (pp (pp (xI R4 (Yi q (cvT l1) x2).length (Zz (Yi q (cvT l1) x2))) (pp (xI R4 (Yi q (cvT l1) (wr (x2 - 1))).length (Zz (Yi q (cvT l1) (wr (x2 - 1))))) (xw o0))) (tt k2 (tt k1 (tt k0 (pp (pp (pp nn (pp nn (pp nn nn))) (pp (xr l1) (xw cQ))) (pp (pp (pp nn (pp nn (pp nn nn))) (pp (xr l1) (xw bU))) nn)))))))))))))))))
theorem v4d (q:Ax) (l1:List R6) (x2:Int) (x3:Bool) (n:Nat) (vs:List AVal) (h:Yv (y8x q l1 x2 x3) n (z1s q l1 x2 x3)=.ret vs):Ky prog (Zy prog 101) (Ze prog 101 [(.agg [(.fn (nV1 q) []),(.fn (nV2 q) []),(.fn (nV3 q) [])]),(.dat l1.length (Zz l1)),(.int .i64 x2),(.bool x3)] true []) vs:=by have:=Zr (w2l q l1 x2 x3) n _ (x5p q l1 x2 x3);rwa [h] at this
end Go.Am
namespace Go.Am
open Go.Proofs.Tryz
open Go.Proofs
def w4k (q:Ax) (L:List R6) (p:Int):Int:=bif Jj q L (IntKind.wrap .i64 (p - 1)) != 0 then Jj q L (IntKind.wrap .i64 (p - 1)) else Jj q L p
def Ju (q:Ax) (L:List R6) (p:Int) (s:Bool):Int:=bif w4k q L p != 0 then w4k q L p else
 bif s then rgE .d (Yi q L (IntKind.wrap .i64 (p - 1))) (Yi q L p) else rgE .d (Yi q L p) (Yi q L (IntKind.wrap .i64 (p - 1)))
def Ui (q:Ax) (L:List R6) (p:Int) (s:Bool):List R4:=bif w4k q L p != 0 then [] else
 bif s then Vz .d (Yi q L (IntKind.wrap .i64 (p - 1))) (Yi q L p) else Vz .d (Yi q L p) (Yi q L (IntKind.wrap .i64 (p - 1)))
def z3c (q:Ax) (L:List R6) (p:Int) (s:Bool):Bool:=decide (L.length≤400)
theorem u3w (q:Ax) (L:List R6) (p:Int) (s:Bool) (h:z3c q L p s=true): ∃n vs,Yv (y8x q L p s) n (z1s q L p s)=.ret vs∧
  ∀(ρ:Rho) (u:Value),VRel ρ (Ja vs) u→VRel ρ (.tup [.dat (Ui q L p s).length (Zz (Ui q L p s)),.int .i64 (Ju q L p s)]) u:=by
 have o: ∀x,z0v q L x=true:=fun _=>h;unfold z1s;simp only [Za,o,show∀a b,Kh .d a b=true from fun _ _=>rfl,cond_true];rcases Yf (Jj q L (IntKind.wrap .i64 (p - 1)) != 0) with q1 | q1
 ·refine ⟨0,_,by rw [q1,cond_true];rfl,?_⟩;have e:w4k q L p=Jj q L (IntKind.wrap .i64 (p - 1)):=by unfold w4k;rw [q1];rfl
  unfold Ui Ju;rw [e,q1,cond_true,cond_true];exact fun ρ u hu=>z4i (.cons (.nild _) (.cons (.refl _) .nil)) ρ u hu
 rcases Yf (Jj q L p != 0) with q2 | q2
 ·refine ⟨0,_,by rw [q1,q2,cond_false,cond_true];rfl,?_⟩;have e:w4k q L p=Jj q L p:=by unfold w4k;rw [q1];rfl
  unfold Ui Ju;rw [e,q2,cond_true,cond_true];exact fun ρ u hu=>z4i (.cons (.nild _) (.cons (.refl _) .nil)) ρ u hu
 have e:(w4k q L p != 0)=false:=by unfold w4k;rw [q1,cond_false];exact q2
 cases s with
 | true=>refine ⟨0,_,by rw [q1,q2,cond_false,cond_false,cond_true];rfl,?_⟩;unfold Ui Ju;rw [e];exact fun ρ u hu=>hu
 | false=>refine ⟨0,_,by rw [q1,q2,cond_false,cond_false,cond_false];rfl,?_⟩;unfold Ui Ju;rw [e];exact fun ρ u hu=>hu
def fMfc :List AVal→Option (AVal×Bool)
 | [.agg [.fn a [],.fn b [],.fn c []],a1,.int .i64 x2,.bool s]=>match axOf a b c,asL R6 a1 with
  | some q,some (L1,g1,n1)=>some (.tup [.dat (Ui q L1 x2 s).length (Zz (Ui q L1 x2 s)),.int .i64 (Ju q L1 x2 s)],isT R6 n1 g1&&(z3c q L1 x2 s))
  | _,_=>none
 | _=>none
theorem mfc_pf (q:Ax) (L:List R6) (p:Int) (s:Bool) (n:Nat) (vs:List AVal) (h:Yv (y8x q L p s) n (z1s q L p s)=.ret vs) (ho:z3c q L p s=true): ∃d,pf d (Ja vs)=true:=by
 have o: ∀x,z0v q L x=true:=fun _=>ho;unfold z1s at h;simp only [Za,o,show∀a b,Kh .d a b=true from fun _ _=>rfl,cond_true] at h;cases h1:(Jj q L (IntKind.wrap .i64 (p - 1)) != 0) <;> rw [h1] at h <;> simp only [cond_true,cond_false] at h
 ·cases h2:(Jj q L p != 0) <;> rw [h2] at h <;> simp only [cond_true,cond_false] at h
  ·cases s <;> simp only [cond_true,cond_false,Zm] at h <;> obtain rfl:=Xf.ret.inj h <;> exact ⟨3,rfl⟩
  ·rw [Zm] at h;obtain rfl:=Xf.ret.inj h;exact ⟨3,rfl⟩
 ·rw [Zm] at h;obtain rfl:=Xf.ret.inj h;exact ⟨3,rfl⟩
theorem u5p {S:Specs} (hS:Zu prog S):Zu prog (S.with w7s fMfc):=by
 refine w9m hS (by kernel_rfl) fun args v h=> ?_;unfold fMfc at h;split at h
 ·rename_i a b c a1 x2 s;split at h
  ·rename_i q L1 g1 n1 eq e1;simp only [Option.some.injEq,Prod.mk.injEq,Bool.and_eq_true] at h;obtain ⟨rfl,ho1,hw⟩:=h;obtain ⟨rfl,rfl,rfl⟩:=x7o eq;obtain ⟨N,vs,hN,hv⟩:=u3w q L1 x2 s hw;exact ⟨_,vs,(.cons (.refl _) (.cons (asL_le e1 ho1) (.cons (.refl _) (.cons (.refl _) .nil)))),hv,v4d q L1 x2 s N _ hN,mfc_pf q L1 x2 s N vs hN hw⟩
  ·cases h
 ·cases h
def Mc :Specs:=Mb.with w7s fMfc
theorem z8z :Zu prog Mc:=u5p v1e
end Go.Am
namespace Go.Am
open Go.Proofs.Tryz
open Go.Proofs
inductive mmdS where
 | h0 (q:Ax) (s:Bool) (v5:List Int) (v10:Int) (aA:List R7) (aJ:List R7)
 | h1 (q:Ax) (s:Bool) (bO:Nat) (v6:Int) (v7:Int) (aA:List R7) (aJ:List R7) (aR:List Int)
 | h2 (q:Ax) (s:Bool) (v8:Int) (v37:List R4) (v38:Int) (v39:Int) (bT:Nat) (cE:Int) (cF:Int) (aA:List R7) (aJ:List R7) (aR:List Int)
def z8d (l0:List R6):mmdS→Cfg
 | .h0 q s v5 v10 aA aJ=>⟨⟨33,0,true⟩,none,(Zd prog 100 [1,1,0,1,0,0] 0),none,(Zy prog 5),⟨Ya [(2,(.ptr 0 0)),(5,(.sla 10 1 0 v5.length (.un 1))),(8,(.dat l0.length (Zz l0))),(9,(ii (l0.length:Int))),(10,(ii v10))],Uq [⟨[(.fn (nV1 q) []),(.fn (nV2 q) []),(.fn (nV3 q) [])],84,none⟩,⟨[(.dat l0.length (Zz l0))],38,none⟩,⟨[(.sla 3 7 0 aA.length (.un 7))],25,none⟩,⟨rows aA.length (Zz aA),62,some ⟨7,aA.length,(Zz aA)⟩⟩,⟨[(ii 0)],26,none⟩,⟨[(.sla 6 7 0 aJ.length (.un 7))],25,none⟩,⟨rows aJ.length (Zz aJ),62,some ⟨7,aJ.length,(Zz aJ)⟩⟩,⟨[(ii q.ix)],3,none⟩,⟨[(.fn (nV1 q) []),(.fn (nV2 q) []),(.fn (nV3 q) [])],84,none⟩,⟨[(ii (sdI s))],3,none⟩,⟨rows v5.length (Zz v5),3,some ⟨1,v5.length,(Zz v5)⟩⟩] 0,11,[],true⟩,[⟨⟨75,0,true⟩,(Up prog 52 [1,1,0,1,0,0,1,1,0,0,1,1,0,0,1,1,0,0,1,0] 2),(Zd prog 52 [1,1,0,1,0,0,1,1,0,0,1,1,0,0,1,1,0,0,1,0] 1),none,(Zy prog 52),Ya [(1,(.ptr 1 0)),(2,(.ptr 2 0)),(3,(.ptr 4 0)),(4,(.ptr 5 0)),(5,(.ptr 7 0)),(6,(.ptr 8 0)),(7,(.ptr 9 0)),(13,(.agg [(.fn 105 []),(.fn 106 []),(.fn 107 []),(.fn 108 []),(.fn 109 []),(.fn 110 []),(.fn 111 []),(.fn 112 []),(.fn 113 [])])),(14,(ii q.ix)),(18,(ii (sdI s))),(21,(.agg [(.fn (nV1 q) []),(.fn (nV2 q) []),(.fn (nV3 q) [])])),(22,(.dat l0.length (Zz l0)))]⟩],.leaf⟩
 | .h1 q s bO v6 v7 aA aJ aR=>⟨⟨16,0,true⟩,none,(Zd prog 175 [1,0,0] 0),none,[],⟨Ya [(0,(.yld 0)),(5,(.sla 10 1 0 bO (.un 1))),(6,(ii v6)),(7,(ii v7))],z9j [(1,⟨[(.dat l0.length (Zz l0))],38,none⟩),(2,⟨[(.sla 3 7 0 aA.length (.un 7))],25,none⟩),(3,⟨rows aA.length (Zz aA),62,some ⟨7,aA.length,(Zz aA)⟩⟩),(4,⟨[(ii 0)],26,none⟩),(5,⟨[(.sla 6 7 0 aJ.length (.un 7))],25,none⟩),(6,⟨rows aJ.length (Zz aJ),62,some ⟨7,aJ.length,(Zz aJ)⟩⟩),(7,⟨[(ii q.ix)],3,none⟩),(8,⟨[(.fn (nV1 q) []),(.fn (nV2 q) []),(.fn (nV3 q) [])],84,none⟩),(9,⟨[(ii (sdI s))],3,none⟩),(10,⟨rows aR.length (Zz aR),3,some ⟨1,aR.length,(Zz aR)⟩⟩)],11,[],true⟩,[⟨⟨75,0,true⟩,none,(.inRangeFunc 0::(Zd prog 52 [1,1,0,1,0,0,1,1,0,0,1,1,0,0,1,1,0,0,1,1,0] 1)),none,(Zy prog 52),Ya [(1,(.ptr 1 0)),(2,(.ptr 2 0)),(3,(.ptr 4 0)),(4,(.ptr 5 0)),(5,(.ptr 7 0)),(6,(.ptr 8 0)),(13,(.agg [(.fn 105 []),(.fn 106 []),(.fn 107 []),(.fn 108 []),(.fn 109 []),(.fn 110 []),(.fn 111 []),(.fn 112 []),(.fn 113 [])])),(14,(ii q.ix)),(18,(ii (sdI s)))]⟩],(y4p [(0,⟨.ready,none,75,Ya [(1,(.ptr 1 0)),(2,(.ptr 2 0)),(3,(.ptr 4 0)),(4,(.ptr 5 0)),(5,(.ptr 7 0)),(6,(.ptr 8 0)),(7,(.ptr 9 0))],[24],(Vy prog 52 [1,1,0,1,0,0,1,1,0,0,1,1,0,0,1,1,0,0,1,1,0,0]),(Vy prog 52 [1,1,0,1,0,0,1,1,0,0,1,1,0,0,1,1,0,0,1,1,0,1])⟩)])⟩
 | .h2 q s v8 v37 v38 v39 bT cE cF aA aJ aR=>⟨⟨75,0,true⟩,none,(Zd prog 52 [1,1,0,1,0,0,1,1,0,0,1,1,0,0,1,1,0,0,1,1,0,1,0,1,1,1,0,0] 0),(some 0),[],⟨Ya [(4,(.ptr 5 0)),(5,(.ptr 7 0)),(6,(.ptr 8 0)),(7,(.ptr 9 0)),(8,(ii v8)),(37,(.dat v37.length (Zz v37))),(38,(ii v38)),(39,(ii v39))],z9j [(1,⟨[(.dat l0.length (Zz l0))],38,none⟩),(2,⟨[(.sla 3 7 0 aA.length (.un 7))],25,none⟩),(3,⟨rows aA.length (Zz aA),62,some ⟨7,aA.length,(Zz aA)⟩⟩),(4,⟨[(ii 0)],26,none⟩),(5,⟨[(.sla 6 7 0 aJ.length (.un 7))],25,none⟩),(6,⟨rows aJ.length (Zz aJ),62,some ⟨7,aJ.length,(Zz aJ)⟩⟩),(7,⟨[(ii q.ix)],3,none⟩),(8,⟨[(.fn (nV1 q) []),(.fn (nV2 q) []),(.fn (nV3 q) [])],84,none⟩),(9,⟨[(ii (sdI s))],3,none⟩),(10,⟨rows aR.length (Zz aR),3,some ⟨1,aR.length,(Zz aR)⟩⟩)],11,[],true⟩,[⟨⟨16,0,true⟩,(Up prog 175 [1,0,0,1,1,0,0,1,0] 2),(Zd prog 175 [1,0,0,1,1,0,0,1,0] 1),none,[],Ya [(0,(.yld 0)),(5,(.sla 10 1 0 bT (.un 1))),(6,(ii cE)),(7,(ii cF)),(11,(.yld 0)),(12,(ii v8))]⟩,⟨⟨75,0,true⟩,none,(.inRangeFunc 0::(Zd prog 52 [1,1,0,1,0,0,1,1,0,0,1,1,0,0,1,1,0,0,1,1,0] 1)),none,(Zy prog 52),Ya [(1,(.ptr 1 0)),(2,(.ptr 2 0)),(3,(.ptr 4 0)),(4,(.ptr 5 0)),(5,(.ptr 7 0)),(6,(.ptr 8 0)),(13,(.agg [(.fn 105 []),(.fn 106 []),(.fn 107 []),(.fn 108 []),(.fn 109 []),(.fn 110 []),(.fn 111 []),(.fn 112 []),(.fn 113 [])])),(14,(ii q.ix)),(18,(ii (sdI s)))]⟩],(y4p [(0,⟨.busy,none,75,Ya [(1,(.ptr 1 0)),(2,(.ptr 2 0)),(3,(.ptr 4 0)),(4,(.ptr 5 0)),(5,(.ptr 7 0)),(6,(.ptr 8 0)),(7,(.ptr 9 0))],[24],(Vy prog 52 [1,1,0,1,0,0,1,1,0,0,1,1,0,0,1,1,0,0,1,1,0,0]),(Vy prog 52 [1,1,0,1,0,0,1,1,0,0,1,1,0,0,1,1,0,0,1,1,0,1])⟩)])⟩
def w8b :List (Option (List Nat)):=[some [2,5,8,9,10],some [1,2,3,4,5,6,7,13,14,18,21,22]]
def w8c :List (Option (List Nat)):=[]
def mmdN1 :List (Option (List Nat)):=[some [0,5,6,7],some [1,2,3,4,5,6,13,14,18]]
def mmdM1 :List (Option (List Nat)):=[some [1,2,3,4,5,6,7],none,none,none,none,none,none,none,none,none,none]
def mmdN2 :List (Option (List Nat)):=[some [4,5,6,7,8,37,38,39],some [0,5,6,7,11,12],some [1,2,3,4,5,6,13,14,18]]
def mmdM2 :List (Option (List Nat)):=[some [1,2,3,4,5,6,7],none,none,none,none,none,none,none,none,none,none]
def w8d (q:Ax) (s:Bool) (aA:List R7) (aJ:List R7):Xf mmdS:=match q,s with
 | q,true=>(.to (.h0 q false ([]:List Int) 0 aA aJ))
 | .x,false=>(.to (.h0 .y true ([]:List Int) 0 aA aJ))
 | .y,false=>(.to (.h0 .z true ([]:List Int) 0 aA aJ))
 | .z,false=>(bif (decide ((aJ.length:Int)>3000)) then (.ret [.nils,(.int .i64 4)]) else (.ret [(.dat aJ.length (Zz aJ)),(.int .i64 0)]))
def Xx (l0:List R6):mmdS→Xf mmdS
 | .h0 q s v5 v10 aA aJ=>(bif (decide (v10<(l0.length:Int))) then (bif ((decide (0≤v10∧v10<(l0.length:Int)))&&true) then (bif (Nat.beq 1 1&&((decide (0+v5.length=v5.length))&&decide ((v5.length+2+1)*(8+1)≤Ur))) then (.to (.h0 q s (v5++[(q.lo (rd l0 v10.toNat)),(q.hi (rd l0 v10.toNat))]) (IntKind.wrap .i64 (v10+1)) aA aJ)) else .stuck) else .stuck) else (bif (decide (v5.length<4611686018427387904)) then (bif (decide (v5.length=v5.length)) then (.to (.h1 q s (w4n (Zc v5.length (cOf (Zz (Yh (Zc v5.length (cOf (Zz v5)))))))) (((w4n (Zc v5.length (cOf (Zz (Yh (Zc v5.length (cOf (Zz v5)))))))):Nat):Int) 0 aA aJ (Wz (Zc v5.length (cOf (Zz (Yh (Zc v5.length (cOf (Zz v5)))))))))) else .stuck) else .stuck))
 | .h2 q s v8 v37 v38 v39 bT cE cF aA aJ aR=>(bif (decide (v39<v38)) then (bif ((decide (0≤v39∧v39<(v37.length:Int)))&&true) then (bif (Nat.beq 7 7&&((decide (0+aJ.length=aJ.length))&&decide ((aJ.length+1+1)*(56+1)≤Ur))) then (.to (.h2 q s v8 v37 v38 (IntKind.wrap .i64 (v39+1)) bT cE cF aA (aJ++[(qd q s v8 (rd v37 v39.toNat))]) aR)) else .stuck) else .stuck) else (.to (.h1 q s bT cE (IntKind.wrap .i64 (cF+1)) aA aJ aR)))
 | .h1 q s bO v6 v7 aA aJ aR=>(bif (decide (v7<v6)) then (bif ((decide (0≤v7∧v7<((bO:Nat):Int)))&&true) then (bif (decide ((0+v7.toNat)<aR.length)) then (bif (z3c q (cvT l0) (rd aR (0+v7.toNat)) s) then (bif ((Ju q (cvT l0) (rd aR (0+v7.toNat)) s) != 0) then (.ret [.nils,(.int .i64 (Ju q (cvT l0) (rd aR (0+v7.toNat)) s))]) else (.to (.h2 q s (rd aR (0+v7.toNat)) (Ui q (cvT l0) (rd aR (0+v7.toNat)) s) (((Ui q (cvT l0) (rd aR (0+v7.toNat)) s).length :Nat):Int) 0 bO v6 v7 aA aJ aR))) else .stuck) else .stuck) else .stuck) else (w8d q s aA aJ))
def y8w (l0:List R6):Xf mmdS:=(.to (.h0 .x true ([]:List Int) 0 ([]:List R7) ([]:List R7)))
theorem u3v (l0:List R6) (q:Ax) (bO:Nat) (v6:Int) (v7:Int) (aA:List R7) (aJ:List R7) (aR:List Int) (k0:(decide (v7<v6))=false):Xj prog (Zy prog 52) (z8d l0) (z8d l0 (.h1 q true bO v6 v7 aA aJ aR)) (w8d q true aA aJ):=by cases q <;> refine (?f: ∀q:Ax,Xj prog (Zy prog 52) (z8d l0) (z8d l0 (.h1 q true bO v6 v7 aA aJ aR)) (w8d q true aA aJ)) _ <;> exact fun q=>(sl z8z 54 [(3,1,Zz ([]:List Int))] ⟨[12,1,2,3,4,5,6,7,8,11,13],[],w8b,w8c⟩ ⟨[(5,.grow 10 1)],[],[]⟩ [false,true] (pp (fl aA (fl aJ (fl ([]:List Int) nn))) (tt k0 nn)))
theorem u3u (l0:List R6) (bO:Nat) (v6:Int) (v7:Int) (aA:List R7) (aJ:List R7) (aR:List Int) (k0:(decide (v7<v6))=false):Xj prog (Zy prog 52) (z8d l0) (z8d l0 (.h1 .x false bO v6 v7 aA aJ aR)) (w8d .x false aA aJ):=(sl z8z 91 [(3,1,Zz ([]:List Int))] ⟨[14,1,2,3,4,5,6,11,12,13,15],[],w8b,w8c⟩ ⟨[(5,.grow 10 1)],[],[]⟩ [false,false,true,true,false,true] (pp (fl aA (fl aJ (fl ([]:List Int) nn))) (tt k0 nn)))
theorem u3t (l0:List R6) (bO:Nat) (v6:Int) (v7:Int) (aA:List R7) (aJ:List R7) (aR:List Int) (k0:(decide (v7<v6))=false):Xj prog (Zy prog 52) (z8d l0) (z8d l0 (.h1 .y false bO v6 v7 aA aJ aR)) (w8d .y false aA aJ):=(sl z8z 91 [(3,1,Zz ([]:List Int))] ⟨[14,1,2,3,4,5,6,11,12,13,15],[],w8b,w8c⟩ ⟨[(5,.grow 10 1)],[],[]⟩ [false,false,true,true,true,false,true] (pp (fl aA (fl aJ (fl ([]:List Int) nn))) (tt k0 nn)))
theorem u3s (l0:List R6) (bO:Nat) (v6:Int) (v7:Int) (aA:List R7) (aJ:List R7) (aR:List Int) (k0:(decide (v7<v6))=false):Xj prog (Zy prog 52) (z8d l0) (z8d l0 (.h1 .z false bO v6 v7 aA aJ aR)) (w8d .z false aA aJ):=(lb (fun k1=>(y1d ⟨⟨75,0,true⟩,none,(Zd prog 52 [1,1,1,0,1,0,0] 1),none,(Zy prog 52),⟨Ya [(2,(.ptr 0 0)),(3,(.ptr 1 0))],Uq [⟨[.nils],25,none⟩,⟨[(ii 4)],26,none⟩] 0,2,[],true⟩,[],.leaf⟩ (sl z8z 49 [] ⟨[2,4],[],[some [2,3]],[]⟩ ⟨[],[],[]⟩ [false,false,false,true] (tt k1 (tt k0 nn))) rfl (by kernel_rfl))) (fun k1=>(y1d ⟨⟨75,0,true⟩,none,(Zd prog 3 [1,1,1,1,1,1,1,0] 1),none,(Zy prog 52),⟨Ya [(2,(.ptr 0 0)),(3,(.ptr 1 0))],Uq [⟨[(.dat aJ.length (Zz aJ))],25,none⟩,⟨[(ii 0)],26,none⟩] 0,2,[],true⟩,[],.leaf⟩ (sl z8z 51 [] ⟨[2,4],[6],[some [2,3]],[]⟩ ⟨[],[.cells [.frz aJ.length aJ.length (Zz aJ) (Zz aJ)],.keep],[]⟩ [false,false,false,false] (pp (xZ (z5d 7 7 0 aJ.length aJ.length (Zz aJ)) aJ.length (Zz aJ)) (pp (xL aJ.length aJ.length) (pp (xS aJ.length (Zz aJ) (Zz aJ)) (pp (fl aJ nn) (tt k1 (tt k0 nn))))))) rfl (by kernel_rfl))))
theorem mmd_ex (l0:List R6) (q:Ax) (s:Bool) (bO:Nat) (v6:Int) (v7:Int) (aA:List R7) (aJ:List R7) (aR:List Int) (k0:(decide (v7<v6))=false):Xj prog (Zy prog 52) (z8d l0) (z8d l0 (.h1 q s bO v6 v7 aA aJ aR)) (w8d q s aA aJ):=match q,s with
 | q,true=>u3v l0 q bO v6 v7 aA aJ aR k0
 | .x,false=>u3u l0 bO v6 v7 aA aJ aR k0
 | .y,false=>u3t l0 bO v6 v7 aA aJ aR k0
 | .z,false=>u3s l0 bO v6 v7 aA aJ aR k0
theorem mmd_s0 (q:Ax) (s:Bool) (l0:List R6) (v5:List Int) (v10:Int) (aA:List R7) (aJ:List R7):Xj prog (Zy prog 52) (z8d l0) (z8d l0 (.h0 q s v5 v10 aA aJ)) (Xx l0 (.h0 q s v5 v10 aA aJ)):=by cases q <;> cases s <;> refine (?f: ∀(q:Ax) (s:Bool),Xj prog (Zy prog 52) (z8d l0) (z8d l0 (.h0 q s v5 v10 aA aJ)) (Xx l0 (.h0 q s v5 v10 aA aJ))) _ _ <;> exact fun q s=>(lb (fun k0=>(lo fun o0=>(lo fun o1=>(sl z8z 23 [] ⟨[0,1,2,3,4,5,6,7,8,9,15],[],w8b,w8c⟩ ⟨[(5,.len (v5++[(q.lo (rd l0 (tn v10))),(q.hi (rd l0 (tn v10)))]).length)],(kpB 10 [.rowed 1 (v5++[(q.lo (rd l0 (tn v10))),(q.hi (rd l0 (tn v10)))]).length (Zz (v5++[(q.lo (rd l0 (tn v10))),(q.hi (rd l0 (tn v10)))]))]),[]⟩ [true] (pp (xL (v5.length+2) (v5++[(q.lo (rd l0 (tn v10))),(q.hi (rd l0 (tn v10)))]).length) (pp (xL (v5.length+2) (v5++[(q.lo (rd l0 (tn v10))),(q.hi (rd l0 (tn v10)))]).length) (pp (xS (v5.length+2) (Zh (Zz v5) 0 v5.length 1 [(ii (q.lo (rd l0 (tn v10)))),(ii (q.hi (rd l0 (tn v10))))]) (Zz (v5++[(q.lo (rd l0 (tn v10))),(q.hi (rd l0 (tn v10)))]))) (pp (fl aA (fl aJ (pp (xF (Zh (Zz v5) 0 v5.length 1 [(ii (q.lo (rd l0 (tn v10)))),(ii (q.hi (rd l0 (tn v10))))])) nn))) (ww o1 (ww o0 (tt k0 nn))))))))))) (fun k0=>(lo fun o0=>(lo fun o1=>(sl z8z 42 [] ⟨[12,1,2,3,4,5,6,7,8,9,10],[],mmdN1,mmdM1⟩ ⟨[],(kpB 10 [.rowed 1 (Wz (Zc v5.length (cOf (Zz (Yh (Zc v5.length (cOf (Zz v5)))))))).length (Zz (Wz (Zc v5.length (cOf (Zz (Yh (Zc v5.length (cOf (Zz v5)))))))))]),[]⟩ [false] (pp (xL v5.length (Wz (Zc v5.length (cOf (Zz (Yh (Zc v5.length (cOf (Zz v5)))))))).length (by first | exact z0w _ _ | exact Wi rfl)) (pp (xS v5.length (Zz (Wz (Zc v5.length (cOf (Zz (Yh (Zc v5.length (cOf (Zz v5))))))))) (Zz (Wz (Zc v5.length (cOf (Zz (Yh (Zc v5.length (cOf (Zz v5)))))))))) (pp (fl aA (fl aJ (fl (Wz (Zc v5.length (cOf (Zz (Yh (Zc v5.length (cOf (Zz v5)))))))) nn))) (pp (pp (xG (Nat.beq 1 1)) (pp (xG (Nat.beq 1 1)) (pp (xG (Nat.beq 0 0)) (pp (xG (decide (v5.length=v5.length))) (pp (xG (isI (Zz (Yh (Zc v5.length (cOf (Zz v5))))))) (xG (decide (v5.length<4611686018427387904)))))))) (pp (pp (xG (Nat.beq 1 1)) (pp (xG (Nat.beq 1 1)) (pp (xG (Nat.beq 0 0)) (pp (xG (decide (v5.length=v5.length))) (pp (xG (isI (Zz v5))) (xG (decide (v5.length<4611686018427387904)))))))) (tt k0 nn)))))))))))
theorem mmd_s1 (q:Ax) (s:Bool) (l0:List R6) (bO:Nat) (v6:Int) (v7:Int) (aA:List R7) (aJ:List R7) (aR:List Int):Xj prog (Zy prog 52) (z8d l0) (z8d l0 (.h1 q s bO v6 v7 aA aJ aR)) (Xx l0 (.h1 q s bO v6 v7 aA aJ aR)):=by cases q <;> cases s <;> refine (?f: ∀(q:Ax) (s:Bool),Xj prog (Zy prog 52) (z8d l0) (z8d l0 (.h1 q s bO v6 v7 aA aJ aR)) (Xx l0 (.h1 q s bO v6 v7 aA aJ aR))) _ _ <;> exact fun q s=>(lb (fun k0=>(lo fun aG=>(lo fun bB=>(lo fun bZ=>(lb (fun k1=>(y1d ⟨⟨75,0,true⟩,none,(.code .ret ::(Zd prog 52 [1,1,0,1,0,0,1,1,0,0,1,1,0,0,1,1,0,0,1,1,0] 1)),none,(Zy prog 52),⟨Ya [(2,(.ptr 0 0)),(3,(.ptr 1 0))],Uq [⟨[.nils],25,none⟩,⟨[(ii (Ju q (cvT l0) (rd aR (0+(tn v7))) s))],26,none⟩] 0,2,[],true⟩,[],.leaf⟩ (sl z8z 58 [] ⟨[2,4],[],[some [2,3]],[]⟩ ⟨[],[],[]⟩ (trs 3 []) (tt k1 (pp (pp (pp nn (pp nn (pp nn (pp nn nn)))) (pp (xr l0) (xw bZ))) (ww bB (ww aG (tt k0 nn)))))) rfl (by kernel_rfl))) (fun k1=>(sl z8z 55 [] ⟨(List.range 11),[],mmdN2,mmdM2⟩ ⟨[],[],[]⟩ [true,false] (pp (fl aA (fl aJ (fl aR nn))) (tt k1 (pp (pp (pp nn (pp nn (pp nn (pp nn nn)))) (pp (xr l0) (xw bZ))) (ww bB (ww aG (tt k0 nn))))))))))))) (fun k0=>mmd_ex l0 q s bO v6 v7 aA aJ aR k0))
theorem mmd_s2 (q:Ax) (s:Bool) (l0:List R6) (v8:Int) (v37:List R4) (v38:Int) (v39:Int) (bT:Nat) (cE:Int) (cF:Int) (aA:List R7) (aJ:List R7) (aR:List Int):Xj prog (Zy prog 52) (z8d l0) (z8d l0 (.h2 q s v8 v37 v38 v39 bT cE cF aA aJ aR)) (Xx l0 (.h2 q s v8 v37 v38 v39 bT cE cF aA aJ aR)):=by cases q <;> cases s <;> refine (?f: ∀(q:Ax) (s:Bool),Xj prog (Zy prog 52) (z8d l0) (z8d l0 (.h2 q s v8 v37 v38 v39 bT cE cF aA aJ aR)) (Xx l0 (.h2 q s v8 v37 v38 v39 bT cE cF aA aJ aR))) _ _ <;> exact fun q s=>(lb (fun k0=>(lo fun o0=>(lo fun o1=>(sl z8z 23 [] ⟨[0,1,2,3,4,5,15,7,8,9,10],[],mmdN2,mmdM2⟩ ⟨[],(kpB 5 [.cells [.len (aJ++[(qd q s v8 (rd v37 (tn v39)))]).length],.rowed 7 (aJ++[(qd q s v8 (rd v37 (tn v39)))]).length (Zz (aJ++[(qd q s v8 (rd v37 (tn v39)))])),.keep,.keep,.keep,.keep]),[]⟩ [true] (pp (xL (aJ.length+1) (aJ++[(qd q s v8 (rd v37 (tn v39)))]).length) (pp (xL (aJ.length+1) (aJ++[(qd q s v8 (rd v37 (tn v39)))]).length) (pp (xS (aJ.length+1) (Zh (Zz aJ) 0 aJ.length 7 (Yo.cells (qd q s v8 (rd v37 (tn v39))))) (Zz (aJ++[(qd q s v8 (rd v37 (tn v39)))]))) (pp (fl aA (pp (xF (Zh (Zz aJ) 0 aJ.length 7 (Yo.cells (qd q s v8 (rd v37 (tn v39)))))) (fl aR nn))) (ww o1 (ww o0 (tt k0 nn))))))))))) (fun k0=>(sl z8z 19 [] ⟨(List.range 11),[],mmdN1,mmdM1⟩ ⟨[],[],[]⟩ [false,false] (pp (fl aA (fl aJ (fl aR nn))) (tt k0 nn)))))
theorem w2k (l0:List R6): ∀s,Xj prog (Zy prog 52) (z8d l0) (z8d l0 s) (Xx l0 s)
 | .h0 q s v5 v10 aA aJ=>mmd_s0 q s l0 v5 v10 aA aJ
 | .h1 q s bO v6 v7 aA aJ aR=>mmd_s1 q s l0 bO v6 v7 aA aJ aR
 | .h2 q s v8 v37 v38 v39 bT cE cF aA aJ aR=>mmd_s2 q s l0 v8 v37 v38 v39 bT cE cF aA aJ aR
theorem x5o (l0:List R6):Xj prog (Zy prog 52) (z8d l0) (Ze prog 52 [(.dat l0.length (Zz l0))] true []) (y8w l0):=(sl z8z 93 [(62,7,Zz ([]:List R7)),(62,7,Zz ([]:List R7)),(3,1,Zz ([]:List Int))] ⟨[8,0,1,9,2,3,10,5,6,7,11],[],w8b,w8c⟩ ⟨[(5,.grow 10 1)],[.keep,.keep,.cells [.grow 3 7],.keep,.keep,.cells [.grow 6 7],.keep,.keep,.keep,.keep,.keep],[]⟩ [true,false,true] (pp (fl ([]:List R7) (fl ([]:List R7) (fl ([]:List Int) nn))) nn))
theorem v4c (l0:List R6) (n:Nat) (vs:List AVal) (h:Yv (Xx l0) n (y8w l0)=.ret vs):Ky prog (Zy prog 52) (Ze prog 52 [(.dat l0.length (Zz l0))] true []) vs:=by have:=Zr (w2k l0) n _ (x5o l0);rwa [h] at this
end Go.Am
namespace Go.Am
open Go.Proofs.Tryz
open Go.Proofs Go.Sort Go.Shelf Go.RowKit Go.Lib
theorem v8k {q:Op} {a b:List R4}:(Vz q a b).length ≤400:=by
 unfold Vz y9k;cases g:(rgE q a b != 0) with
 | true=>exact Nat.zero_le _
 | false=>
  rw [cond_false];have h:rgE q a b=0:=by simpa using g
  unfold rgE at h;cases g1:(y4o a != 0) with
  | true=>rw [g1,cond_true] at h;rw [h] at g1;cases g1
  | false=>
   cases g2:(y4o b != 0) with
   | true=>rw [g1,g2,cond_false,cond_true] at h;rw [h] at g2;cases g2
   | false=>
    rw [g1,g2,cond_false,cond_false] at h;unfold eJ at h;revert h;generalize w4m (rgA q a b) _ _ _=e;intro h;cases g3:(e != 0) with
    | true=>rw [g3,cond_true] at h;rw [h] at g3;cases g3
    | false=>rw [g3,cond_false] at h;exact y9o h
theorem w8e (q:Ax) (L:List R6) (p:Int) (s:Bool):(Ui q L p s).length ≤400:=by
 unfold Ui;cases (w4k q L p != 0) with
 | true=>exact Nat.zero_le _
 | false=>cases s <;> exact v8k
def z2k (q:Ax) (L:List R6):List Int:=L.flatMap fun r=>[q.lo r,q.hi r]
theorem z0g (q:Ax) (L:List R6):(z2k q L).length =2*L.length:=by
 induction L with
 | nil=>rfl
 | cons r l ih=>show (_::_::z2k q l).length =_;simp only [List.length_cons,ih];omega
def plQ (q:Ax) (L:List R6):List Int:=Ug (z2k q L)
theorem z7x (q:Ax) (L:List R6):(plQ q L).length ≤2*L.length:=by have h1:=Uy (Yh (z2k q L));have h2:=compact_length_le (Yh (z2k q L));rw [Xs,z0g] at h2;exact h2
def v5n (E:Int→Int):List Int→Int
 | []=>0
 | p::r=>bif E p != 0 then E p else v5n E r
def z7m (q:Ax) (s:Bool) (L:List R6):Int:=v5n (fun p=>Ju q L p s) (plQ q L)
def v1k (q:Ax) (s:Bool) (L:List R6) (ps:List Int):List R7:=ps.flatMap fun p=>(Ui q L p s).map (qd q s p)
theorem y3s (q:Ax) (s:Bool) (L:List R6): ∀ps,(v1k q s L ps).length ≤400*ps.length
 | []=>Nat.le_refl _
 | p::ps=>by have:=y3s q s L ps;have h:=w8e q L p s;show ((Ui q L p s).map (qd q s p)++v1k q s L ps).length ≤_;rw [List.length_append,List.length_map,List.length_cons];omega
section
variable (L:List R6) (hL:L.length≤400)
include hL
theorem v9n (q:Ax) (s:Bool) (v2 out:List R7): ∀(k i:Nat) (acc:List Int),i+k=L.length→acc=z2k q (L.take i)→
  ∃n,∀N,Yv (Xx L) (N+n) (.to (.h0 q s acc (i:Int) v2 out))=Yv (Xx L) N (.to (.h1 q s (plQ q L).length ((plQ q L).length :Int) 0 v2 out (Wz (Yh (z2k q L)))))
 | 0,i,acc,h,h'=>by
  have e:acc=z2k q L:=by rw [h',List.take_of_length_le (by omega)]
  subst e;have hle:=z0g q L;refine ⟨1,fun N=> ?_⟩;rw [Zv];simp (disch:=omega) only [Xx,Wg,Qx,z8o,Yw,Yu,Yk,decide_true,cond_true,cond_false];rfl
 | k+1,i,acc,h,h'=>by
  have hle:acc.length≤2*i:=by rw [h',z0g,List.length_take];omega
  obtain ⟨n,hn⟩:=v9n q s v2 out k (i+1) (acc++z2k q [rd L i]) (by omega) (by
   rw [h',List.take_add_one];have:L[i]? =some (rd L i):=by rw [Xu (show i<L.length by omega)];exact List.getElem?_eq_getElem _
   rw [this];simp [z2k])
  refine ⟨n+1,fun N=> ?_⟩;rw [←Nat.add_assoc,Zv,←hn N];simp (disch:=omega) only [Xx,Za,Zq,Zt,Yz,Yg,Yu,Yk,Zi,Zk,Zx,Yq,Zj,Nat.zero_add,decide_true,Bool.and_true,Bool.true_and,cond_true,cond_false];rfl
theorem v9l (q:Ax) (s:Bool) (p:Int) (R:List R4) (hR:R.length≤400) (n5:Nat) (v6 v7:Int) (v2:List R7) (P:List Int): ∀(k j:Nat) (out:List R7),j+k=R.length→out.length≤10000000+j→
  ∃n,∀N,Yv (Xx L) (N+n) (.to (.h2 q s p R (R.length:Int) (j:Int) n5 v6 v7 v2 out P))=Yv (Xx L) N (.to (.h1 q s n5 v6 (IntKind.wrap .i64 (v7+1)) v2 (out++(R.drop j).map (qd q s p)) P))
 | 0,j,out,h,h'=>by have _u:=hL;refine ⟨1,fun N=> ?_⟩;rw [List.drop_eq_nil_of_le (by omega),List.map_nil,List.append_nil,Zv];simp (disch:=omega) only [Xx,Yw,cond_false]
 | k+1,j,out,h,h'=>by
  have hj:j<R.length:=by omega
  obtain ⟨n,hn⟩:=v9l q s p R hR n5 v6 v7 v2 P k (j+1) (out++[qd q s p (rd R j)]) (by omega) (by simp only [List.length_append,List.length_singleton];omega);refine ⟨n+1,fun N=> ?_⟩;rw [Yp hj,List.map_cons,←Nat.add_assoc,Zv,show out++qd q s p (rd R j)::(R.drop (j+1)).map (qd q s p)=(out++[qd q s p (rd R j)])++(R.drop (j+1)).map (qd q s p) by simp,←hn N];simp (disch:=omega) only [Xx,Za,Zq,Zt,Yz,Yg,Yu,Yk,Zi,Zk,Zx,Yq,Zj,Nat.zero_add,decide_true,Bool.and_true,Bool.true_and,cond_true,cond_false]
theorem v9m (q:Ax) (s:Bool) (v2:List R7): ∀(k i:Nat) (out:List R7),i+k=(plQ q L).length →out.length+400*k≤8000000→
  (v5n (fun p=>Ju q L p s) ((plQ q L).drop i)=0→ ∃n,∀N,Yv (Xx L) (N+n) (.to (.h1 q s (plQ q L).length ((plQ q L).length :Int) (i:Int) v2 out (Wz (Yh (z2k q L)))))=Yv (Xx L) N (w8d q s v2 (out++v1k q s L ((plQ q L).drop i))))∧
  ((v5n (fun p=>Ju q L p s) ((plQ q L).drop i) != 0)=true→ ∃n,∀N,Yv (Xx L) (N+n) (.to (.h1 q s (plQ q L).length ((plQ q L).length :Int) (i:Int) v2 out (Wz (Yh (z2k q L)))))=.ret [.nils,.int .i64 (v5n (fun p=>Ju q L p s) ((plQ q L).drop i))])
 | 0,i,out,h,h'=>by have _u:=hL;rw [List.drop_eq_nil_of_le (show (plQ q L).length ≤i by omega)];refine ⟨fun _=>⟨1,fun N=> ?_⟩,fun e=>by cases e⟩;rw [show v1k q s L []=[] from rfl,List.append_nil,Zv];simp (disch:=omega) only [Xx,Yw,cond_false]
 | k+1,i,out,h,h'=>by
  have hi:i<(plQ q L).length :=by omega
  have hp:=z7x q L;have hpl:(Wz (Yh (z2k q L))).length =2*L.length:=by rw [Uy,Xs,z0g]
  have r0:rd (Wz (Yh (z2k q L))) i=rd (plQ q L) i:=z2u _ _ hi;have o:z3c q L (rd (plQ q L) i) s=true:=decide_eq_true hL;rw [Yp hi];have eE:v5n (fun p=>Ju q L p s) (rd (plQ q L) i::(plQ q L).drop (i+1))=bif Ju q L (rd (plQ q L) i) s != 0 then Ju q L (rd (plQ q L) i) s else v5n (fun p=>Ju q L p s) ((plQ q L).drop (i+1)):=rfl;have eM:v1k q s L (rd (plQ q L) i::(plQ q L).drop (i+1))=(Ui q L (rd (plQ q L) i) s).map (qd q s (rd (plQ q L) i))++v1k q s L ((plQ q L).drop (i+1)):=rfl;rw [eE,eM];rcases Yf (Ju q L (rd (plQ q L) i) s != 0) with z | z
  ·rw [z,cond_true];refine ⟨fun e=>(by rw [e] at z;cases z),fun _=>⟨1,fun N=> ?_⟩⟩;rw [Zv];simp (disch:=omega) only [Xx,r0,o,z,Za,Zq,Zt,Yz,Yu,Zj,Nat.zero_add,decide_true,Bool.and_true,Bool.true_and,cond_true,cond_false,Zm]
  ·rw [z,cond_false];have hm:=w8e q L (rd (plQ q L) i) s;obtain ⟨n2,h2⟩:=v9l L hL q s (rd (plQ q L) i) (Ui q L (rd (plQ q L) i) s) hm (plQ q L).length ((plQ q L).length :Int) (i:Int) v2 (Wz (Yh (z2k q L))) (Ui q L (rd (plQ q L) i) s).length 0 out (Nat.zero_add _) (by omega);rw [List.drop_zero] at h2;obtain ⟨a1,a2⟩:=v9m q s v2 k (i+1) (out++(Ui q L (rd (plQ q L) i) s).map (qd q s (rd (plQ q L) i))) (by omega) (by rw [List.length_append,List.length_map];omega);have ew:IntKind.wrap .i64 ((i:Int)+1)=((i+1:Nat):Int):=by rw [Zk (by omega)];exact Zx i
   have st: ∀N,Yv (Xx L) (N+n2+1) (.to (.h1 q s (plQ q L).length ((plQ q L).length :Int) (i:Int) v2 out (Wz (Yh (z2k q L)))))=Yv (Xx L) N (.to (.h1 q s (plQ q L).length ((plQ q L).length :Int) ((i+1:Nat):Int) v2 (out++(Ui q L (rd (plQ q L) i) s).map (qd q s (rd (plQ q L) i))) (Wz (Yh (z2k q L))))):=fun N=>by rw [←ew,←h2 N,Zv];simp (disch:=omega) only [Xx,r0,o,z,Za,Zq,Zt,Yz,Yu,Zj,Nat.zero_add,decide_true,Bool.and_true,Bool.true_and,cond_true,cond_false];rfl
   refine ⟨fun e=> ?_,fun e=> ?_⟩
   ·obtain ⟨n,hn⟩:=a1 e;refine ⟨n+n2+1,fun N=> ?_⟩;rw [←List.append_assoc,←hn N,←st (N+n),Nat.add_assoc N,Nat.add_assoc N,Nat.add_assoc n]
   ·obtain ⟨n,hn⟩:=a2 e;refine ⟨n+n2+1,fun N=> ?_⟩;rw [←hn N,←st (N+n),Nat.add_assoc N,Nat.add_assoc N,Nat.add_assoc n]
theorem z8c (q:Ax) (s:Bool) (v2 out:List R7) (ho:out.length≤2000000):
  (z7m q s L=0→ ∃n,∀N,Yv (Xx L) (N+n) (.to (.h0 q s [] 0 v2 out))=Yv (Xx L) N (w8d q s v2 (out++v1k q s L (plQ q L))))∧
  ((z7m q s L != 0)=true→ ∃n,∀N,Yv (Xx L) (N+n) (.to (.h0 q s [] 0 v2 out))=.ret [.nils,.int .i64 (z7m q s L)]):=by
 have hp:=z7x q L;obtain ⟨n0,h0⟩:=v9n L hL q s v2 out L.length 0 [] (Nat.zero_add _) rfl;obtain ⟨a1,a2⟩:=v9m L hL q s v2 (plQ q L).length 0 out (Nat.zero_add _) (by omega);rw [List.drop_zero] at a1 a2;refine ⟨fun e=> ?_,fun e=> ?_⟩
 ·obtain ⟨n,hn⟩:=a1 e;exact ⟨n+n0,fun N=>by rw [←Nat.add_assoc];exact (h0 (N+n)).trans (hn N)⟩
 ·obtain ⟨n,hn⟩:=a2 e;exact ⟨n+n0,fun N=>by rw [←Nat.add_assoc];exact (h0 (N+n)).trans (hn N)⟩
end
def dM (q:Ax) (s:Bool) (L:List R6):List R7:=v1k q s L (plQ q L)
def Qe (L:List R6):List R7:=dM .x true L++dM .x false L++dM .y true L++dM .y false L++dM .z true L++dM .z false L
def v9o (L:List R6):Int:=bif z7m .x true L != 0 then z7m .x true L else bif z7m .x false L != 0 then z7m .x false L else bif z7m .y true L != 0 then z7m .y true L else
 bif z7m .y false L != 0 then z7m .y false L else bif z7m .z true L != 0 then z7m .z true L else bif z7m .z false L != 0 then z7m .z false L else bif decide (((Qe L).length :Int)>3000) then 4 else 0
def Jv (L:List R6):List R7:=y9k (v9o L) (Qe L)
def z3b (L:List R6):Int:=v9o L
def z0u (L:List R6):Bool:=decide (L.length≤400)
theorem z3i (q:Ax) (s:Bool) {L:List R6} (h:L.length≤400):(dM q s L).length ≤320000:=by have h1:=y3s q s L (plQ q L);have h2:=z7x q L;unfold dM;omega
theorem u3q (L:List R6) (h:z0u L=true): ∃n,Yv (Xx L) n (y8w L)=.ret (y2g (z3b L) (Qe L)):=by
 have hL:L.length≤400:=of_decide_eq_true h;have l1:=z3i .x true hL;have l2:=z3i .x false hL;have l3:=z3i .y true hL;have l4:=z3i .y false hL;have l5:=z3i .z true hL;have d1:=z8c L hL .x true [] [] (Nat.zero_le _);have d2:=z8c L hL .x false [] (dM .x true L) (by omega);have d3:=z8c L hL .y true [] (dM .x true L++dM .x false L) (by simp only [List.length_append];omega);have d4:=z8c L hL .y false [] (dM .x true L++dM .x false L++dM .y true L) (by simp only [List.length_append];omega);have d5:=z8c L hL .z true [] (dM .x true L++dM .x false L++dM .y true L++dM .y false L) (by simp only [List.length_append];omega);have d6:=z8c L hL .z false [] (dM .x true L++dM .x false L++dM .y true L++dM .y false L++dM .z true L) (by simp only [List.length_append];omega);have go: ∀(q:Ax) (s:Bool) (out:List R7) (V:List AVal),((z7m q s L=0→ ∃n,∀N,Yv (Xx L) (N+n) (.to (.h0 q s [] 0 [] out))=Yv (Xx L) N (w8d q s [] (out++v1k q s L (plQ q L))))∧
   ((z7m q s L != 0)=true→ ∃n,∀N,Yv (Xx L) (N+n) (.to (.h0 q s [] 0 [] out))=.ret [.nils,.int .i64 (z7m q s L)]))→
   (∃n,Yv (Xx L) n (w8d q s [] (out++dM q s L))=.ret V)→ ∃n,Yv (Xx L) n (.to (.h0 q s [] 0 [] out))=.ret (bif z7m q s L != 0 then [.nils,.int .i64 (z7m q s L)] else V):=fun q s out V d ⟨n,hn⟩=>by
  rcases Yf (z7m q s L != 0) with z | z
  ·obtain ⟨m,hm⟩:=d.2 z;refine ⟨0+m,?_⟩;rw [hm 0,z,cond_true]
  ·obtain ⟨m,hm⟩:=d.1 (by simpa using z);refine ⟨n+m,?_⟩;rw [hm n,z,cond_false];exact hn
 have e6:=go .z false _ (bif decide (((Qe L).length :Int)>3000) then [.nils,.int .i64 4] else [.dat (Qe L).length (Zz (Qe L)),.int .i64 0]) d6 ⟨0,by
  show Yv (Xx L) 0 (bif decide (((Qe L).length :Int)>3000) then _ else _)=_;cases decide (((Qe L).length :Int)>3000) <;> rfl⟩
 obtain ⟨n,hn⟩:=go .x true _ _ d1 (go .x false _ _ d2 (go .y true _ _ d3 (go .y false _ _ d4 (go .z true _ _ d5 e6))));refine ⟨n,hn.trans ?_⟩;unfold y2g z3b v9o
 congr 1
 cases z1:(z7m .x true L != 0) with
 | true=>simp only [z1,cond_true]
 | false=>cases z2:(z7m .x false L != 0) with
  | true=>simp only [z2,cond_true,cond_false]
  | false=>cases z3:(z7m .y true L != 0) with
   | true=>simp only [z3,cond_true,cond_false]
   | false=>cases z4:(z7m .y false L != 0) with
    | true=>simp only [z4,cond_true,cond_false]
    | false=>cases z5:(z7m .z true L != 0) with
     | true=>simp only [z5,cond_true,cond_false]
     | false=>cases z6:(z7m .z false L != 0) with
      | true=>simp only [z6,cond_true,cond_false]
      | false=>cases z7:decide (((Qe L).length :Int)>3000) <;> rfl
def fMmd :List AVal→Option (AVal×Bool)
 | [a0]=>match asL R6 a0 with
  | some (L0,g0,n0)=>some (.tup [.dat (Jv L0).length (Zz (Jv L0)),.int .i64 (z3b L0)],isT R6 n0 g0&&(z0u L0))
  | _=>none
 | _=>none
theorem u5o {S:Specs} (hS:Zu prog S):Zu prog (S.with v9a fMmd):=by
 refine w9m hS (by kernel_rfl) fun args v h=> ?_;unfold fMmd at h;split at h
 ·rename_i a0;split at h
  ·rename_i L0 g0 n0 e0;simp only [Option.some.injEq,Prod.mk.injEq,Bool.and_eq_true] at h;obtain ⟨rfl,ho0,hw⟩:=h;obtain ⟨N,hN⟩:=u3q L0 hw;exact ⟨_,_,(.cons (asL_le e0 ho0) .nil),z3s _ _,v4c L0 N _ hN,3,z7t _ _⟩
  ·cases h
 ·cases h
def Md :Specs:=Mc.with v9a fMmd
theorem z3k :Zu prog Md:=u5o z8z
end Go.Am
namespace Go.Am
open Go.Proofs
end Go.Am
namespace Go.Am
open Go.Proofs
section
variable (X Y:List R6) (hX:X.length≤10000) (hY:Y.length≤10000)
include hX hY
end
end Go.Am
namespace Go.Am
open Go.Proofs
-- h0: index into an array (choices [true, false, false, false])
end Go.Am
namespace Go.Am
open Go.Proofs
end Go.Am
namespace Go.Am
open Go.Proofs
end Go.Am
namespace Go.Am
open Go.Proofs
end Go.Am
namespace Go.Am
open Go.Proofs
end Go.Am
namespace Go.Am
open Go.Proofs
def z1h (l:List R6):Bool:=true
def y2j (l:List R6):Bool:=true
end Go.Am
namespace Go.Am
open Go.Proofs.Tryz
open Go.Proofs
inductive mofS where
def mofC (l0:List R6):mofS→Cfg
 :=nofun
def x5m (l0:List R6):mofS→Xf mofS
 :=nofun
def y0z (l0:List R6):Xf mofS:=(bif (z1h (cvT l0)) then (bif ((Wk (cvT l0)) != 0) then (.ret [.nils,(.int .i64 (Wk (cvT l0)))]) else (bif (z0u (cvT l0)) then (.ret [(.dat (Jv (cvT l0)).length (Zz (Jv (cvT l0)))),(.int .i64 (z3b (cvT l0)))]) else .stuck)) else .stuck)
theorem w2j (l0:List R6): ∀s,Xj prog (Zy prog 15) (mofC l0) (mofC l0 s) (x5m l0 s)
 :=nofun
theorem x5n (l0:List R6):Xj prog (Zy prog 15) (mofC l0) (Ze prog 15 [(.dat l0.length (Zz l0))] true []) (y0z l0):=(lo fun bU=>(lb (fun k0=>(lr 14 15 [1,0,1,1,0,0] 1 15 [(2,.nils),(3,(ii (Wk (cvT l0))))] (sl z3k 24 [] ⟨[],[],[some [2,3]],[]⟩ ⟨[],[],[]⟩ [true] (tt k0 (pp (pp (xr l0) (xw bU)) nn))))) (fun k0=>(lo fun o0=>(lr 14 3 [1,1,1,1,1,1,1,0] 1 15 [(2,(.dat (Jv (cvT l0)).length (Zz (Jv (cvT l0))))),(3,(ii (z3b (cvT l0))))] (sl z3k 28 [] ⟨[],[],[some [2,3]],[]⟩ ⟨[],[],[]⟩ [false] (pp (pp (xr l0) (xw o0)) (tt k0 (pp (pp (xr l0) (xw bU)) nn)))))))))
theorem v4b (l0:List R6) (n:Nat) (vs:List AVal) (h:Yv (x5m l0) n (y0z l0)=.ret vs):Ky prog (Zy prog 15) (Ze prog 15 [(.dat l0.length (Zz l0))] true []) vs:=by have:=Zr (w2j l0) n _ (x5n l0);rwa [h] at this
inductive shsS where
 | h0 (v8:Int)
def shsC (l0:List R6) (bI:Int) (bJ:Int) (bK:Int):shsS→Cfg
 | .h0 v8=>⟨⟨19,0,true⟩,none,(Zd prog 133 [1,0,1,0,0] 0),none,(Zy prog 5),⟨Ya [(0,(.dat l0.length (Zz l0))),(1,(.fn 90 [(.ptr 0 0)])),(7,(ii (l0.length:Int))),(8,(ii v8))],Uq [⟨[(ii bI),(ii bJ),(ii bK)],55,none⟩] 0,1,[],true⟩,[⟨⟨9,0,true⟩,(Up prog 89 [1,0] 2),(Zd prog 89 [1,0] 1),none,(Zy prog 5),Ya [(5,(.dat l0.length (Zz l0))),(6,(.fn 90 [(.ptr 0 0)]))]⟩,⟨⟨8,0,true⟩,(Up prog 43 [1,0] 2),(Zd prog 43 [1,0] 1),none,(Zy prog 5),Ya [(5,(.dat l0.length (Zz l0))),(6,(.fn 90 [(.ptr 0 0)]))]⟩],.leaf⟩
def x3z :List (Option (List Nat)):=[some [0,1,7,8],some [5,6],some [5,6]]
def x4a :List (Option (List Nat)):=[]
def z4r (l0:List R6) (bI:Int) (bJ:Int) (bK:Int):shsS→Xf shsS
 | .h0 v8=>(bif (decide (v8<(l0.length:Int))) then (bif ((decide (0≤v8∧v8<(l0.length:Int)))&&true) then (bif (decide ((rd l0 v8.toNat).a ≤bI)) then (bif (decide (bI<(rd l0 v8.toNat).d)) then (bif (decide ((rd l0 v8.toNat).b ≤bJ)) then (bif (decide (bJ<(rd l0 v8.toNat).e)) then (bif (decide ((rd l0 v8.toNat).c ≤bK)) then (bif (decide (bK<(rd l0 v8.toNat).f)) then (.ret [(.bool (decide (v8≥0)))]) else (.to (.h0 (IntKind.wrap .i64 (v8+1))))) else (.to (.h0 (IntKind.wrap .i64 (v8+1))))) else (.to (.h0 (IntKind.wrap .i64 (v8+1))))) else (.to (.h0 (IntKind.wrap .i64 (v8+1))))) else (.to (.h0 (IntKind.wrap .i64 (v8+1))))) else (.to (.h0 (IntKind.wrap .i64 (v8+1))))) else .stuck) else (.ret [(.bool false)]))
def y7z (l0:List R6) (bI:Int) (bJ:Int) (bK:Int):Xf shsS:=(.to (.h0 0))
theorem w1j (l0:List R6) (bI:Int) (bJ:Int) (bK:Int): ∀s,Xj prog (Zy prog 43) (shsC l0 bI bJ bK) (shsC l0 bI bJ bK s) (z4r l0 bI bJ bK s)
 | .h0 v8=>(lb (fun k0=>(lo fun aG=>(lb (fun k1=>(lb (fun k2=>(lb (fun k3=>(lb (fun k4=>(lb (fun k5=>(lb (fun k6=>(lr 8 3 [1,1,1,1,1,1,1,0] 1 5 [(4,(.bool (decide (v8≥0))))] (sl z3k 92 [] ⟨[],[],[some [4]],[]⟩ ⟨[],[],[]⟩ (trs 32 []) (tt k6 (tt k5 (tt k4 (tt k3 (tt k2 (tt k1 (ww aG (tt k0 nn))))))))))) (fun k6=>(sl z3k 87 [] ⟨[0],[],x3z,x4a⟩ ⟨[],[],[]⟩ (trs 31 [false]) (tt k6 (tt k5 (tt k4 (tt k3 (tt k2 (tt k1 (ww aG (tt k0 nn)))))))))))) (fun k5=>(sl z3k 87 [] ⟨[0],[],x3z,x4a⟩ ⟨[],[],[]⟩ (trs 25 (bl 7 0)) (tt k5 (tt k4 (tt k3 (tt k2 (tt k1 (ww aG (tt k0 nn))))))))))) (fun k4=>(sl z3k 87 [] ⟨[0],[],x3z,x4a⟩ ⟨[],[],[]⟩ (trs 19 (bl 13 0)) (tt k4 (tt k3 (tt k2 (tt k1 (ww aG (tt k0 nn)))))))))) (fun k3=>(sl z3k 87 [] ⟨[0],[],x3z,x4a⟩ ⟨[],[],[]⟩ (trs 13 (bl 19 0)) (tt k3 (tt k2 (tt k1 (ww aG (tt k0 nn))))))))) (fun k2=>(sl z3k 87 [] ⟨[0],[],x3z,x4a⟩ ⟨[],[],[]⟩ (trs 7 (bl 25 0)) (tt k2 (tt k1 (ww aG (tt k0 nn)))))))) (fun k1=>(sl z3k 87 [] ⟨[0],[],x3z,x4a⟩ ⟨[],[],[]⟩ (bl 32 1) (tt k1 (ww aG (tt k0 nn)))))))) (fun k0=>(lr 8 3 [1,1,1,1,1,1,1,0] 1 5 [(4,(.bool false))] (sl z3k 18 [] ⟨[],[],[some [4]],[]⟩ ⟨[],[],[]⟩ [false] (tt k0 nn)))))
theorem x3y (l0:List R6) (bI:Int) (bJ:Int) (bK:Int):Xj prog (Zy prog 43) (shsC l0 bI bJ bK) (Ze prog 43 [(.dat l0.length (Zz l0)),(.agg [(.int .i64 bI),(.int .i64 bJ),(.int .i64 bK)])] true []) (y7z l0 bI bJ bK):=(sl z3k 32 [] ⟨[0],[],x3z,x4a⟩ ⟨[],[],[]⟩ [] nn)
theorem v1y (l0:List R6) (bI:Int) (bJ:Int) (bK:Int) (n:Nat) (vs:List AVal) (h:Yv (z4r l0 bI bJ bK) n (y7z l0 bI bJ bK)=.ret vs):Ky prog (Zy prog 43) (Ze prog 43 [(.dat l0.length (Zz l0)),(.agg [(.int .i64 bI),(.int .i64 bJ),(.int .i64 bK)])] true []) vs:=by have:=Zr (w1j l0 bI bJ bK) n _ (x3y l0 bI bJ bK);rwa [h] at this
inductive fitS where
def fitC (l0:List R6):fitS→Cfg
 :=nofun
def x6o (l0:List R6):fitS→Xf fitS
 :=nofun
def y1k (l0:List R6):Xf fitS:=(bif (decide ((l0.length:Int)≤20)) then (bif (y2j (cvT l0)) then (.ret [(.bool ((z9h (cvT l0)) == 0))]) else .stuck) else (.ret [(.bool false)]))
theorem w3h (l0:List R6): ∀s,Xj prog (Zy prog 37) (fitC l0) (fitC l0 s) (x6o l0 s)
 :=nofun
theorem x6p (l0:List R6):Xj prog (Zy prog 37) (fitC l0) (Ze prog 37 [(.dat l0.length (Zz l0))] true []) (y1k l0):=(lb (fun k0=>(lo fun o0=>(lr 11 3 [1,1,1,1,1,1,1,0] 1 3 [(2,(.bool ((z9h (cvT l0)) == 0)))] (sl z3k 16 [] ⟨[],[],[some [2]],[]⟩ ⟨[],[],[]⟩ (trs 3 []) (pp (pp (xr l0) (xw o0)) (tt k0 nn)))))) (fun k0=>(lr 11 3 [1,1,1,1,1,1,1,0] 1 3 [(2,(.bool false))] (sl z3k 16 [] ⟨[],[],[some [2]],[]⟩ ⟨[],[],[]⟩ [false,false,false] (tt k0 nn)))))
theorem v5h (l0:List R6) (n:Nat) (vs:List AVal) (h:Yv (x6o l0) n (y1k l0)=.ret vs):Ky prog (Zy prog 37) (Ze prog 37 [(.dat l0.length (Zz l0))] true []) vs:=by have:=Zr (w3h l0) n _ (x6p l0);rwa [h] at this
inductive crdS where
def crdC (aV:Int) (aW:Int) (aX:Int) (x1:Int):crdS→Cfg
 :=nofun
def x7f (aV:Int) (aW:Int) (aX:Int) (x1:Int):crdS→Xf crdS
 :=nofun
def y1n (aV:Int) (aW:Int) (aX:Int) (x1:Int):Xf crdS:=(bif (x1 == 0) then (.ret [(.int .i64 aV)]) else (bif (x1 == 1) then (.ret [(.int .i64 aW)]) else (.ret [(.int .i64 aX)])))
theorem w3u (aV:Int) (aW:Int) (aX:Int) (x1:Int): ∀s,Xj prog (Zy prog 42) (crdC aV aW aX x1) (crdC aV aW aX x1 s) (x7f aV aW aX x1 s)
 :=nofun
theorem x7g (aV:Int) (aW:Int) (aX:Int) (x1:Int):Xj prog (Zy prog 42) (crdC aV aW aX x1) (Ze prog 42 [(.agg [(.int .i64 aV),(.int .i64 aW),(.int .i64 aX)]),(.int .i64 x1)] true []) (y1n aV aW aX x1):=(lb (fun k0=>(lr 15 42 [1,0,1,0,0] 1 5 [(4,(ii aV))] (sl z3k 18 [] ⟨[],[],[some [4]],[]⟩ ⟨[],[],[]⟩ [true] (tt k0 nn)))) (fun k0=>(lb (fun k1=>(lr 15 42 [1,1,0,1,0,0] 1 5 [(4,(ii aW))] (sl z3k 26 [] ⟨[],[],[some [4]],[]⟩ ⟨[],[],[]⟩ [false,true] (tt k1 (tt k0 nn))))) (fun k1=>(lr 15 3 [1,1,1,1,1,1,1,0] 1 5 [(4,(ii aX))] (sl z3k 27 [] ⟨[],[],[some [4]],[]⟩ ⟨[],[],[]⟩ [false,false] (tt k1 (tt k0 nn))))))))
theorem v5x (aV:Int) (aW:Int) (aX:Int) (x1:Int) (n:Nat) (vs:List AVal) (h:Yv (x7f aV aW aX x1) n (y1n aV aW aX x1)=.ret vs):Ky prog (Zy prog 42) (Ze prog 42 [(.agg [(.int .i64 aV),(.int .i64 aW),(.int .i64 aX)]),(.int .i64 x1)] true []) vs:=by have:=Zr (w3u aV aW aX x1) n _ (x7g aV aW aX x1);rwa [h] at this
end Go.Am
namespace Go.Am
abbrev v9g :Nat:=42
abbrev nEq7 :Nat:=69
end Go.Am
namespace Go.Am
open Go.Proofs.Tryz
open Go.Proofs Go.Sort Go.Shelf Go.RowKit Go.Lib
def Zb (L:List R6):List R7:=bif Wk L != 0 then [] else Jv L
def z6l (L:List R6):Int:=bif Wk L != 0 then Wk L else z3b L
def z3a (L:List R6):Bool:=true
theorem u3p (L:List R6): ∃n vs,Yv (x5m L) n (y0z L)=.ret vs∧(∀(ρ:Rho) (u:Value),VRel ρ (Ja vs) u→VRel ρ (.tup [.dat (Zb L).length (Zz (Zb L)),.int .i64 (z6l L)]) u)∧ ∃d,pf d (Ja vs)=true:=by
 unfold y0z;simp only [Za,show∀l,z1h l=true from fun _=>rfl,cond_true];rcases Yf (Wk L != 0) with q1 | q1
 ·refine ⟨0,_,by rw [q1,cond_true];rfl,?_,3,rfl⟩;unfold Zb z6l;rw [q1,cond_true,cond_true];exact fun ρ u hu=>z4i (.cons (.nild _) (.cons (.refl _) .nil)) ρ u hu
 ·have o:z0u L=true:=decide_eq_true (Xo (by simpa using q1)).1;refine ⟨0,_,by rw [q1,o,cond_false,cond_true];rfl,?_,3,rfl⟩;unfold Zb z6l;rw [q1,cond_false,cond_false];exact fun ρ u hu=>hu
def fMof :List AVal→Option (AVal×Bool)
 | [a0]=>match asL R6 a0 with
  | some (L0,g0,n0)=>some (.tup [.dat (Zb L0).length (Zz (Zb L0)),.int .i64 (z6l L0)],isT R6 n0 g0&&(z3a L0))
  | _=>none
 | _=>none
theorem u5n {S:Specs} (hS:Zu prog S):Zu prog (S.with nMOf fMof):=by
 refine w9m hS (by kernel_rfl) fun args v h=> ?_;unfold fMof at h;split at h
 ·rename_i a0;split at h
  ·rename_i L0 g0 n0 e0;simp only [Option.some.injEq,Prod.mk.injEq,Bool.and_eq_true] at h;obtain ⟨rfl,ho0,hw⟩:=h;obtain ⟨N,vs,hN,hv,hp⟩:=u3p L0;exact ⟨_,vs,(.cons (asL_le e0 ho0) .nil),hv,v4b L0 N _ hN,hp⟩
  ·cases h
 ·cases h
def shR (x y z:Int) (r:R6):Bool:=decide (r.a≤x)&&(decide (x<r.d)&&(decide (r.b≤y)&&(decide (y<r.e)&&(decide (r.c≤z)&&decide (z<r.f)))))
def x0o (L:List R6) (x y z:Int):Bool:=L.any (shR x y z)
def Qu (L:List R6) (x y z:Int):Bool:=decide (L.length≤100000)
theorem v7c {L:List R6} {x y z:Int} (hl:L.length≤100000): ∀(k i:Nat),i+k=L.length→ ∃N,Yv (z4r L x y z) N (.to (.h0 (i:Int)))=.ret [.bool ((L.drop i).any (shR x y z))]
 | 0,i,h=>by refine ⟨1,?_⟩;rw [Zv,List.drop_eq_nil_of_le (by omega)];simp (disch:=omega) only [z4r,Yw,cond_false];rfl
 | k+1,i,h=>by
  have hi:i<L.length:=by omega
  obtain ⟨N,hN⟩:=v7c (x:=x) (y:=y) (z:=z) hl k (i+1) (by omega);have hw:IntKind.wrap .i64 ((i:Int)+1)=((i+1:Nat):Int):=Zk (by omega);have e:z4r L x y z (.h0 (i:Int))=bif shR x y z (rd L i) then .ret [.bool true] else .to (.h0 ((i+1:Nat):Int)):=by simp (disch:=omega) only [z4r,Zt,Yz,x2m,hw,Zj,Bool.and_true,cond_true];unfold shR;cases decide ((rd L i).a ≤x) <;> cases decide (x<(rd L i).d) <;> cases decide ((rd L i).b ≤y) <;> cases decide (y<(rd L i).e) <;> cases decide ((rd L i).c ≤z) <;> cases decide (z<(rd L i).f) <;> rfl
  refine ⟨N+1,?_⟩;rw [Zv,Yp hi,e,List.any_cons];rcases Yf (shR x y z (rd L i)) with q | q
  ·rw [q,cond_true,Bool.true_or];exact Zm _ _ _
  ·rw [q,cond_false,Bool.false_or];exact hN
theorem u1o (L:List R6) (x y z:Int) (h:Qu L x y z=true): ∃N,Yv (z4r L x y z) N (y7z L x y z)=.ret [.bool (x0o L x y z)]:=
 v7c (of_decide_eq_true h) L.length 0 (Nat.zero_add _)
def Jr (x y z i:Int):Int:=bif i == 0 then x else bif i == 1 then y else z
theorem u6m (x y z i:Int): ∃N,Yv (x7f x y z i) N (y1n x y z i)=.ret [.int .i64 (Jr x y z i)]:=⟨0,by
 unfold y1n Jr;cases (i == 0) <;> cases (i == 1) <;> rfl⟩
def u4t (L:List R6):Bool:=decide ((L.length:Int)≤20)&&(z9h L == 0)
def z6s (L:List R6):Bool:=true
theorem u4s (L:List R6) (h:z6s L=true): ∃N,Yv (x6o L) N (y1k L)=.ret [.bool (u4t L)]:=⟨0,by
 unfold y1k u4t;simp only [Za,show∀l,y2j l=true from fun _=>rfl,cond_true];cases decide ((L.length:Int)≤20) <;> rfl⟩
def fShs :List AVal→Option (AVal×Bool)
 | [a0,.agg [.int .i64 bI,.int .i64 bJ,.int .i64 bK]]=>match asL R6 a0 with
  | some (L0,g0,n0)=>some (.bool (x0o L0 bI bJ bK),isT R6 n0 g0&&(Qu L0 bI bJ bK))
  | _=>none
 | _=>none
theorem u5e {S:Specs} (hS:Zu prog S):Zu prog (S.with nSHas fShs):=by
 refine z3g hS (by kernel_rfl) fun args v h=> ?_;unfold fShs at h;split at h
 ·rename_i a0 bI bJ bK;split at h
  ·rename_i L0 g0 n0 e0;simp only [Option.some.injEq,Prod.mk.injEq,Bool.and_eq_true] at h;obtain ⟨rfl,ho0,hw⟩:=h;obtain ⟨N,hN⟩:=u1o L0 bI bJ bK hw;exact ⟨_,_,(.cons (asL_le e0 ho0) (.cons (.refl _) .nil)),rfl,v1y L0 bI bJ bK N _ hN,3,rfl⟩
  ·cases h
 ·cases h
def fCrd :List AVal→Option (AVal×Bool)
 | [.agg [.int .i64 aV,.int .i64 aW,.int .i64 aX],.int .i64 x1]=>some (.int .i64 (Jr aV aW aX x1),true)
 | _=>none
theorem u5z {S:Specs} (hS:Zu prog S):Zu prog (S.with v9g fCrd):=by
 refine z3g hS (by kernel_rfl) fun args v h=> ?_;unfold fCrd at h;split at h
 ·rename_i aV aW aX x1;simp only [Option.some.injEq,Prod.mk.injEq,and_true] at h;subst h;obtain ⟨N,hN⟩:=u6m aV aW aX x1;exact ⟨_,_,(.cons (.refl _) (.cons (.refl _) .nil)),rfl,v5x aV aW aX x1 N _ hN,3,rfl⟩
 ·cases h
def fFit :List AVal→Option (AVal×Bool)
 | [a0]=>match asL R6 a0 with
  | some (L0,g0,n0)=>some (.bool (u4t L0),isT R6 n0 g0&&(z6s L0))
  | _=>none
 | _=>none
theorem u5v {S:Specs} (hS:Zu prog S):Zu prog (S.with v9f fFit):=by
 refine z3g hS (by kernel_rfl) fun args v h=> ?_;unfold fFit at h;split at h
 ·rename_i a0;split at h
  ·rename_i L0 g0 n0 e0;simp only [Option.some.injEq,Prod.mk.injEq,Bool.and_eq_true] at h;obtain ⟨rfl,ho0,hw⟩:=h;obtain ⟨N,hN⟩:=u4s L0 hw;exact ⟨_,_,(.cons (asL_le e0 ho0) .nil),rfl,v5h L0 N _ hN,3,rfl⟩
  ·cases h
 ·cases h
def Me :Specs:=((((Md.with nMOf fMof).with nSHas fShs).with v9g fCrd).with v9f fFit)
theorem Un :Zu prog Me:=(u5v (u5z (u5e (u5n z3k))))
end Go.Am
namespace Go.Am
open Go.Proofs.Tryz
open Go.Proofs
inductive finS where
def finC (aV:Int) (aW:Int) (aX:Int):finS→Cfg
 :=nofun
def x6q (aV:Int) (aW:Int) (aX:Int):finS→Xf finS
 :=nofun
def y1l (aV:Int) (aW:Int) (aX:Int):Xf finS:=(bif (decide ((z5c (z5c aV aW) aX)≥(-1000000))) then (.ret [(.bool (decide ((Kq (Kq aV aW) aX)≤1000000)))]) else (.ret [(.bool false)]))
theorem w3i (aV:Int) (aW:Int) (aX:Int): ∀s,Xj prog (Zy prog 73) (finC aV aW aX) (finC aV aW aX s) (x6q aV aW aX s)
 :=nofun
theorem x6r (aV:Int) (aW:Int) (aX:Int):Xj prog (Zy prog 73) (finC aV aW aX) (Ze prog 73 [(.agg [(.int .i64 aV),(.int .i64 aW),(.int .i64 aX)])] true []) (y1l aV aW aX):=(lb (fun k0=>(lr 21 3 [1,1,1,1,1,1,1,0] 1 3 [(2,(.bool (decide ((Kq (Kq aV aW) aX)≤1000000))))] (sl Un 27 [] ⟨[],[],[some [2]],[]⟩ ⟨[],[],[]⟩ (trs 8 []) (tt k0 nn)))) (fun k0=>(lr 21 3 [1,1,1,1,1,1,1,0] 1 3 [(2,(.bool false))] (sl Un 27 [] ⟨[],[],[some [2]],[]⟩ ⟨[],[],[]⟩ [false,false,false,false,false,false,false,false] (tt k0 nn)))))
theorem v5i (aV:Int) (aW:Int) (aX:Int) (n:Nat) (vs:List AVal) (h:Yv (x6q aV aW aX) n (y1l aV aW aX)=.ret vs):Ky prog (Zy prog 73) (Ze prog 73 [(.agg [(.int .i64 aV),(.int .i64 aW),(.int .i64 aX)])] true []) vs:=by have:=Zr (w3i aV aW aX) n _ (x6r aV aW aX);rwa [h] at this
inductive eqqS where
 | h0 (v13:Int)
def eqqC (l0:List R7) (l1:List R7):eqqS→Cfg
 | .h0 v13=>⟨⟨26,0,true⟩,none,(Zd prog 69 [1,1,0,1,0,0] 0),none,(Zy prog 5),⟨Ya [(0,(.dat l0.length (Zz l0))),(1,(.dat l1.length (Zz l1))),(12,(ii (l0.length:Int))),(13,(ii v13))],Uq [] 0,0,[],true⟩,[],.leaf⟩
def eqqN0 :List (Option (List Nat)):=[some [0,1,12,13]]
def eqqM0 :List (Option (List Nat)):=[]
def z5f (l0:List R7) (l1:List R7):eqqS→Xf eqqS
 | .h0 v13=>(bif (decide (v13<(l0.length:Int))) then (bif ((decide (0≤v13∧v13<(l0.length:Int)))&&true) then (bif ((decide (0≤v13∧v13<(l1.length:Int)))&&true) then (bif (!(((rd l0 v13.toNat).a == (rd l1 v13.toNat).a)&&((((rd l0 v13.toNat).b == (rd l1 v13.toNat).b)&&(((rd l0 v13.toNat).c == (rd l1 v13.toNat).c)&&(((rd l0 v13.toNat).d == (rd l1 v13.toNat).d)&&true)))&&((((rd l0 v13.toNat).e == (rd l1 v13.toNat).e)&&(((rd l0 v13.toNat).f == (rd l1 v13.toNat).f)&&(((rd l0 v13.toNat).g == (rd l1 v13.toNat).g)&&true)))&&true)))) then (.ret [(.bool false)]) else (.to (.h0 (IntKind.wrap .i64 (v13+1))))) else .stuck) else .stuck) else (.ret [(.bool true)]))
def y1m (l0:List R7) (l1:List R7):Xf eqqS:=(bif ((l0.length:Int) != (l1.length:Int)) then (.ret [(.bool false)]) else (.to (.h0 0)))
theorem w3m (l0:List R7) (l1:List R7): ∀s,Xj prog (Zy prog 69) (eqqC l0 l1) (eqqC l0 l1 s) (z5f l0 l1 s)
 | .h0 v13=>(lb (fun k0=>(lo fun aG=>(lo fun bB=>(lb (fun k1=>(lr 26 69 [1,1,0,1,0,0,1,1,0,0,1,1,0,0] 1 5 [(4,(.bool false))] (sl Un 21 [] ⟨[],[],[some [4]],[]⟩ ⟨[],[],[]⟩ (bl 2 3) (tt k1 (ww bB (ww aG (tt k0 nn))))))) (fun k1=>(sl Un 24 [] ⟨[],[],eqqN0,eqqM0⟩ ⟨[],[],[]⟩ (bl 2 1) (tt k1 (ww bB (ww aG (tt k0 nn)))))))))) (fun k0=>(lr 26 3 [1,1,1,1,1,1,1,0] 1 5 [(4,(.bool true))] (sl Un 11 [] ⟨[],[],[some [4]],[]⟩ ⟨[],[],[]⟩ [false] (tt k0 nn)))))
theorem x6t (l0:List R7) (l1:List R7):Xj prog (Zy prog 69) (eqqC l0 l1) (Ze prog 69 [(.dat l0.length (Zz l0)),(.dat l1.length (Zz l1))] true []) (y1m l0 l1):=(lb (fun k0=>(lr 26 69 [1,0,1,0,0] 1 5 [(4,(.bool false))] (sl Un 18 [] ⟨[],[],[some [4]],[]⟩ ⟨[],[],[]⟩ [true] (tt k0 nn)))) (fun k0=>(sl Un 24 [] ⟨[],[],eqqN0,eqqM0⟩ ⟨[],[],[]⟩ [false] (tt k0 nn))))
theorem v5o (l0:List R7) (l1:List R7) (n:Nat) (vs:List AVal) (h:Yv (z5f l0 l1) n (y1m l0 l1)=.ret vs):Ky prog (Zy prog 69) (Ze prog 69 [(.dat l0.length (Zz l0)),(.dat l1.length (Zz l1))] true []) vs:=by have:=Zr (w3m l0 l1) n _ (x6t l0 l1);rwa [h] at this
inductive slmS where
 | h0 (v8:Int)
 | h1 (v16:Int) (aA:List Int)
 | h2 (v4:Int) (aF:List R6) (aQ:List R4) (aZ:Int) (bA:Int) (aE:Nat) (aH:List Int)
 | h3 (v4:Int) (v38:Int) (aF:List R6) (aQ:List R4) (aZ:Int) (bA:Int) (aE:Nat) (aH:List Int) (aO:Int) (bC:Int) (aB:List R4)
 | h4 (v1:Int) (v2:Int) (v72:List R4) (v73:Int) (v74:Int) (bL:List R4) (aS:Int) (aD:List R6) (bD:List R4) (bE:Int) (aE:Nat) (aH:List Int) (aO:List R4)
 | h5 (v2:Int) (v8:Int) (bY:Int) (bL:List R4) (aS:Int) (aD:List R6) (bD:List R4) (bE:Int) (bV:Int) (bH:Nat) (bQ:List Int) (aB:List R4)
def slmC (l0:List R6):slmS→Cfg
 | .h0 v8=>⟨⟨19,0,true⟩,none,(Zd prog 134 [1,0,1,0,0] 0),none,(Zy prog 5),⟨Ya [(0,(.dat l0.length (Zz l0))),(1,(.fn 93 [])),(7,(ii (l0.length:Int))),(8,(ii v8))],Uq [] 0,0,[],true⟩,[⟨⟨9,0,true⟩,(Up prog 92 [1,0] 2),(Zd prog 92 [1,0] 1),none,(Zy prog 5),Ya [(5,(.dat l0.length (Zz l0))),(6,(.fn 93 []))]⟩,⟨⟨15,0,true⟩,(Up prog 47 [1,1,0,0] 1),(Zd prog 47 [1,1,0,0] 1),none,(Zy prog 15),Ya [(0,(.dat l0.length (Zz l0))),(7,(.dat l0.length (Zz l0)))]⟩],.leaf⟩
 | .h1 v16 aA=>⟨⟨36,0,true⟩,none,(Zd prog 136 [1,1,0,1,0,0,1,1,0,0,1,1,0,0] 0),none,(Zy prog 3),⟨Ya [(1,(.ptr 0 0)),(3,(.ptr 2 0)),(8,(.sl 1 0 1 (.un 1))),(9,(ii 1)),(10,(ii 0)),(14,(.dat l0.length (Zz l0))),(15,(ii (l0.length:Int))),(16,(ii v16))],Uq [⟨[(.sl 1 0 1 (.un 1))],166,none⟩,⟨[(.dat l0.length (Zz l0))],22,none⟩,⟨[(.sla 7 1 0 aA.length (.un 1))],93,none⟩,⟨[.nilf],117,none⟩,⟨[.nils],38,none⟩,⟨[(ii 0)],26,none⟩,⟨[.nils,.nils,(ii 0),(ii 0)],168,none⟩,⟨rows aA.length (Zz aA),3,some ⟨1,aA.length,(Zz aA)⟩⟩] 0,8,[],true⟩,[⟨⟨65,0,true⟩,(Up prog 95 [1,1,0,0] 1),(Zd prog 95 [1,1,0,0] 1),none,(Zy prog 95),Ya [(2,(.ptr 3 0)),(4,(.ptr 4 0)),(5,(.ptr 5 0)),(6,(.ptr 6 0)),(13,(.sl 1 0 1 (.un 1)))]⟩,⟨⟨15,0,true⟩,(Up prog 47 [1,1,1,0] 3),(Zd prog 47 [1,1,1,0] 1),none,(Zy prog 15),Ya [(9,(.agg [.nilf])),(11,(.sl 1 0 1 (.un 1)))]⟩],.leaf⟩
 | .h2 v4 aF aQ aZ bA aE aH=>⟨⟨86,0,true⟩,none,(Zd prog 171 [1,0,0] 0),none,[],⟨Ya [(0,(.yld 0)),(1,(.ptr 5 0)),(2,(.ptr 7 0)),(4,(ii v4))],z9j [(1,⟨[.nilf],117,none⟩),(2,⟨[.nils],38,none⟩),(3,⟨[(ii 0)],26,none⟩),(4,⟨[(.sla 9 6 0 aF.length (.un 6)),(.dat aQ.length (Zz aQ)),(ii aZ),(ii bA)],168,none⟩),(5,⟨[(.sla 6 1 0 aE (.un 1))],93,none⟩),(6,⟨rows aH.length (Zz aH),3,some ⟨1,aH.length,(Zz aH)⟩⟩),(7,⟨[(.sl 8 0 1 (.un 1))],166,none⟩),(8,⟨[(.dat l0.length (Zz l0))],22,none⟩),(9,⟨rows aF.length (Zz aF),67,some ⟨6,aF.length,(Zz aF)⟩⟩)],10,[],true⟩,[⟨⟨65,0,true⟩,none,(.inRangeFunc 0::(Zd prog 95 [1,1,0,1,0] 1)),none,(Zy prog 95),Ya [(4,(.ptr 2 0)),(5,(.ptr 3 0)),(6,(.ptr 4 0))]⟩,⟨⟨15,0,true⟩,(Up prog 47 [1,1,1,0] 3),(Zd prog 47 [1,1,1,0] 1),none,(Zy prog 15),Ya [(9,(.agg [.nilf])),(11,(.sl 8 0 1 (.un 1)))]⟩],(y4p [(0,⟨.ready,none,65,Ya [(2,(.ptr 1 0)),(4,(.ptr 2 0)),(5,(.ptr 3 0)),(6,(.ptr 4 0))],[15],(Vy prog 95 [1,1,0,1,0,0]),(Vy prog 95 [1,1,0,1,0,1])⟩)])⟩
 | .h3 v4 v38 aF aQ aZ bA aE aH aO bC aB=>⟨⟨86,0,true⟩,none,(Zd prog 171 [1,0,0,1,0,0,1,0,1,0,0,1,1,0,0,1,1,0,0] 0),none,[],⟨Ya [(0,(.yld 0)),(1,(.ptr 5 0)),(2,(.ptr 7 0)),(4,(ii v4)),(5,(.ptr 9 0)),(6,(ii 0)),(29,(.sl 8 0 1 (.un 1))),(30,(ii 1)),(31,(ii 0)),(36,(.dat l0.length (Zz l0))),(37,(ii (l0.length:Int))),(38,(ii v38))],z9j [(1,⟨[.nilf],117,none⟩),(2,⟨[.nils],38,none⟩),(3,⟨[(ii 0)],26,none⟩),(4,⟨[(.sla 12 6 0 aF.length (.un 6)),(.dat aQ.length (Zz aQ)),(ii aZ),(ii bA)],168,none⟩),(5,⟨[(.sla 6 1 0 aE (.un 1))],93,none⟩),(6,⟨rows aH.length (Zz aH),3,some ⟨1,aH.length,(Zz aH)⟩⟩),(7,⟨[(.sl 8 0 1 (.un 1))],166,none⟩),(8,⟨[(.dat l0.length (Zz l0))],22,none⟩),(9,⟨[(ii aO),(ii bC),(.sl 10 0 1 (.ex 1))],173,none⟩),(10,⟨[(.sla 11 4 0 aB.length (.un 4))],99,none⟩),(11,⟨rows aB.length (Zz aB),88,some ⟨4,aB.length,(Zz aB)⟩⟩),(12,⟨rows aF.length (Zz aF),67,some ⟨6,aF.length,(Zz aF)⟩⟩)],13,[],true⟩,[⟨⟨65,0,true⟩,none,(.inRangeFunc 0::(Zd prog 95 [1,1,0,1,0] 1)),none,(Zy prog 95),Ya [(4,(.ptr 2 0)),(5,(.ptr 3 0)),(6,(.ptr 4 0))]⟩,⟨⟨15,0,true⟩,(Up prog 47 [1,1,1,0] 3),(Zd prog 47 [1,1,1,0] 1),none,(Zy prog 15),Ya [(9,(.agg [.nilf])),(11,(.sl 8 0 1 (.un 1)))]⟩],(y4p [(0,⟨.ready,none,65,Ya [(2,(.ptr 1 0)),(4,(.ptr 2 0)),(5,(.ptr 3 0)),(6,(.ptr 4 0))],[15],(Vy prog 95 [1,1,0,1,0,0]),(Vy prog 95 [1,1,0,1,0,1])⟩)])⟩
 | .h4 v1 v2 v72 v73 v74 bL aS aD bD bE aE aH aO=>⟨⟨101,0,true⟩,none,(Zd prog 137 [1,1,1,0,0] 0),none,[],⟨Ya [(0,(.ptr 0 0)),(1,(ii v1)),(2,(ii v2)),(72,(.dat v72.length (Zz v72))),(73,(ii v73)),(74,(ii v74))],z9j [(0,⟨[(.sla 10 6 0 aD.length (.un 6)),(.dat bD.length (Zz bD)),(ii bE),(ii v2)],168,none⟩),(2,⟨[.nilf],117,none⟩),(3,⟨[.nils],38,none⟩),(4,⟨[(ii 0)],26,none⟩),(5,⟨[(.sla 6 1 0 aE (.un 1))],93,none⟩),(6,⟨rows aH.length (Zz aH),3,some ⟨1,aH.length,(Zz aH)⟩⟩),(7,⟨[(.sl 8 0 1 (.un 1))],166,none⟩),(8,⟨[(.dat l0.length (Zz l0))],22,none⟩),(9,⟨[(.dat aO.length (Zz aO))],99,none⟩),(10,⟨rows aD.length (Zz aD),67,some ⟨6,aD.length,(Zz aD)⟩⟩)],11,[],true⟩,[⟨⟨65,0,true⟩,(Up prog 95 [1,1,0,1,0,1,0,1,1,1] 5),(Zd prog 95 [1,1,0,1,0,1,0,1,1,1] 1),(some 1),[],Ya [(6,(.ptr 0 0)),(54,(ii v1)),(56,(ii v2)),(57,(.dat bL.length (Zz bL)))]⟩,⟨⟨86,0,true⟩,(Up prog 171 [1,0,0,1,0,0,1,1,0] 2),(Zd prog 171 [1,0,0,1,0,0,1,1,0] 1),none,[],Ya [(0,(.yld 1)),(1,(.ptr 5 0)),(2,(.ptr 7 0)),(4,(ii aS)),(82,(.yld 1)),(83,(.agg [(ii v1),(ii v2),(.sl 9 0 1 (.ex 1))]))]⟩,⟨⟨65,0,true⟩,none,(.inRangeFunc 1::(Zd prog 95 [1,1,0,1,0] 1)),none,(Zy prog 95),Ya [(4,(.ptr 3 0)),(5,(.ptr 4 0)),(6,(.ptr 0 0))]⟩,⟨⟨15,0,true⟩,(Up prog 47 [1,1,1,0] 3),(Zd prog 47 [1,1,1,0] 1),none,(Zy prog 15),Ya [(9,(.agg [.nilf])),(11,(.sl 8 0 1 (.un 1)))]⟩],(y4p [(1,⟨.busy,none,65,Ya [(2,(.ptr 2 0)),(4,(.ptr 3 0)),(5,(.ptr 4 0)),(6,(.ptr 0 0))],[15],(Vy prog 95 [1,1,0,1,0,0]),(Vy prog 95 [1,1,0,1,0,1])⟩)])⟩
 | .h5 v2 v8 bY bL aS aD bD bE bV bH bQ aB=>⟨⟨101,0,true⟩,none,(Zd prog 137 [0,1,0,0,1,0,0] 0),none,[],⟨Ya [(0,(.ptr 0 0)),(2,(ii v2)),(8,(ii v8))],z9j [(0,⟨[(.sla 1 6 0 aD.length (.un 6)),(.dat bD.length (Zz bD)),(ii bE),(ii bV)],168,none⟩),(1,⟨rows aD.length (Zz aD),67,some ⟨6,aD.length,(Zz aD)⟩⟩),(3,⟨[.nilf],117,none⟩),(4,⟨[.nils],38,none⟩),(5,⟨[(ii 0)],26,none⟩),(6,⟨[(.sla 7 1 0 bH (.un 1))],93,none⟩),(7,⟨rows bQ.length (Zz bQ),3,some ⟨1,bQ.length,(Zz bQ)⟩⟩),(8,⟨[(.sl 9 0 1 (.un 1))],166,none⟩),(9,⟨[(.dat l0.length (Zz l0))],22,none⟩),(10,⟨[(.dat aB.length (Zz aB))],99,none⟩)],11,[],true⟩,[⟨⟨65,0,true⟩,(Up prog 95 [1,1,0,1,0,1,0,1,1,1] 5),(Zd prog 95 [1,1,0,1,0,1,0,1,1,1] 1),(some 2),[],Ya [(6,(.ptr 0 0)),(54,(ii bY)),(56,(ii v2)),(57,(.dat bL.length (Zz bL)))]⟩,⟨⟨86,0,true⟩,(Up prog 171 [1,0,0,1,0,0,1,1,0] 2),(Zd prog 171 [1,0,0,1,0,0,1,1,0] 1),none,[],Ya [(0,(.yld 2)),(1,(.ptr 6 0)),(2,(.ptr 8 0)),(4,(ii aS)),(82,(.yld 2)),(83,(.agg [(ii bY),(ii v2),(.sl 10 0 1 (.ex 1))]))]⟩,⟨⟨65,0,true⟩,none,(.inRangeFunc 2::(Zd prog 95 [1,1,0,1,0] 1)),none,(Zy prog 95),Ya [(4,(.ptr 4 0)),(5,(.ptr 5 0)),(6,(.ptr 0 0))]⟩,⟨⟨15,0,true⟩,(Up prog 47 [1,1,1,0] 3),(Zd prog 47 [1,1,1,0] 1),none,(Zy prog 15),Ya [(9,(.agg [.nilf])),(11,(.sl 9 0 1 (.un 1)))]⟩],(y4p [(2,⟨.busy,none,65,Ya [(2,(.ptr 3 0)),(4,(.ptr 4 0)),(5,(.ptr 5 0)),(6,(.ptr 0 0))],[15],(Vy prog 95 [1,1,0,1,0,0]),(Vy prog 95 [1,1,0,1,0,1])⟩)])⟩
def slmN0 :List (Option (List Nat)):=[some [0,1,7,8],some [5,6],some [0,7]]
def slmM0 :List (Option (List Nat)):=[]
def u1l :List (Option (List Nat)):=[some [1,3,8,9,10,14,15,16],some [2,4,5,6,13],some [9,11]]
def u1n :List (Option (List Nat)):=[]
def u1k :List (Option (List Nat)):=[some [0,1,2,4],some [4,5,6],some [9,11]]
def u1m :List (Option (List Nat)):=[some [2,4,5,6],none,none,none,none,none,none,none,none,none]
def v1v :List (Option (List Nat)):=[some [0,1,2,4,5,6,29,30,31,36,37,38],some [4,5,6],some [9,11]]
def v1x :List (Option (List Nat)):=[some [2,4,5,6],none,none,none,none,none,none,none,none,none,none,none,none]
def v1u :List (Option (List Nat)):=[some [0,1,2,72,73,74],some [6,54,56,57],some [0,1,2,4,82,83],some [4,5,6],some [9,11]]
def v1w :List (Option (List Nat)):=[none,some [2,4,5,6],none,none,none,none,none,none,none,none,none]
def slmN5 :List (Option (List Nat)):=[some [0,2,8],some [6,54,56,57],some [0,1,2,4,82,83],some [4,5,6],some [9,11]]
def slmM5 :List (Option (List Nat)):=[none,none,some [2,4,5,6],none,none,none,none,none,none,none,none]
def Xz (l0:List R6):slmS→Xf slmS
 | .h0 v8=>(bif (decide (v8<(l0.length:Int))) then (bif ((decide (0≤v8∧v8<(l0.length:Int)))&&true) then (bif (!(u0p (rd l0 v8.toNat).a (rd l0 v8.toNat).b (rd l0 v8.toNat).c (rd l0 v8.toNat).d (rd l0 v8.toNat).e (rd l0 v8.toNat).f)) then (bif (decide (v8≥0)) then (.ret [.nils,(.int .i64 8)]) else (.to (.h1 0 ([]:List Int)))) else (.to (.h0 (IntKind.wrap .i64 (v8+1))))) else .stuck) else (.to (.h1 0 ([]:List Int))))
 | .h1 v16 aA=>(bif (decide (v16<(l0.length:Int))) then (bif ((decide (0≤v16∧v16<(l0.length:Int)))&&true) then (bif (Nat.beq 1 1&&((decide (0+aA.length=aA.length))&&decide ((aA.length+2+1)*(8+1)≤Ur))) then (.to (.h1 (IntKind.wrap .i64 (v16+1)) (aA++[(rd l0 v16.toNat).c,(rd l0 v16.toNat).f]))) else .stuck) else .stuck) else (bif (decide (aA.length<4611686018427387904)) then (bif (decide (aA.length=aA.length)) then (.to (.h2 1 ([]:List R6) ([]:List R4) 0 0 (w4n (Zc aA.length (cOf (Zz (Yh (Zc aA.length (cOf (Zz aA)))))))) (Wz (Zc aA.length (cOf (Zz (Yh (Zc aA.length (cOf (Zz aA)))))))))) else .stuck) else .stuck))
 | .h2 v4 aF aQ aZ bA aE aH=>(bif (decide (v4<((aE:Nat):Int))) then (bif ((decide (0≤(IntKind.wrap .i64 (v4 - 1))∧(IntKind.wrap .i64 (v4 - 1))<((aE:Nat):Int)))&&true) then (bif (decide ((0+(Int.toNat (IntKind.wrap .i64 (v4 - 1))))<aH.length)) then (bif ((decide (0≤v4∧v4<((aE:Nat):Int)))&&true) then (bif (decide ((0+v4.toNat)<aH.length)) then (.to (.h3 v4 0 aF aQ aZ bA aE aH (rd aH (0+(Int.toNat (IntKind.wrap .i64 (v4 - 1))))) (rd aH (0+v4.toNat)) ([]:List R4))) else .stuck) else .stuck) else .stuck) else .stuck) else (bif (decide ((aF.length:Int)>400)) then (.ret [.nils,(.int .i64 4)]) else (.ret [(.dat aF.length (Zz aF)),(.int .i64 0)])))
 | .h3 v4 v38 aF aQ aZ bA aE aH aO bC aB=>(bif (decide (v38<(l0.length:Int))) then (bif ((decide (0≤v38∧v38<(l0.length:Int)))&&true) then (bif (decide ((rd l0 v38.toNat).c ≤aO)) then (bif (decide (aO<(rd l0 v38.toNat).f)) then (bif (Nat.beq 4 4&&((decide (0+aB.length=aB.length))&&decide ((aB.length+1+1)*(32+1)≤Ur))) then (.to (.h3 v4 (IntKind.wrap .i64 (v38+1)) aF aQ aZ bA aE aH aO bC (aB++[(R4.mk (rd l0 v38.toNat).a (rd l0 v38.toNat).b (rd l0 v38.toNat).d (rd l0 v38.toNat).e)]))) else .stuck) else (.to (.h3 v4 (IntKind.wrap .i64 (v38+1)) aF aQ aZ bA aE aH aO bC aB))) else (.to (.h3 v4 (IntKind.wrap .i64 (v38+1)) aF aQ aZ bA aE aH aO bC aB))) else .stuck) else (bif (Vs (cvT aB)) then (bif ((Xp (cvT aB)) != 0) then (.ret [.nils,(.int .i64 (Xp (cvT aB)))]) else (bif (decide ((((Zg (cvT aB)).length :Nat):Int)>0)) then (bif (bA == aO) then (bif (Wm (cvT aQ) (cvT (Zg (cvT aB)))) then (bif (Um (cvT aQ) (cvT (Zg (cvT aB)))) then (.to (.h5 bC aZ aO (Zg (cvT aB)) v4 aF aQ aZ bA aE aH aB)) else (.to (.h4 aO bC (Zg (cvT aB)) (((Zg (cvT aB)).length :Nat):Int) 0 (Zg (cvT aB)) v4 aF (Zg (cvT aB)) (aF.length:Int) aE aH aB))) else .stuck) else (.to (.h4 aO bC (Zg (cvT aB)) (((Zg (cvT aB)).length :Nat):Int) 0 (Zg (cvT aB)) v4 aF (Zg (cvT aB)) (aF.length:Int) aE aH aB))) else (.to (.h4 aO bC (Zg (cvT aB)) (((Zg (cvT aB)).length :Nat):Int) 0 (Zg (cvT aB)) v4 aF (Zg (cvT aB)) (aF.length:Int) aE aH aB)))) else .stuck))
 | .h4 v1 v2 v72 v73 v74 bL aS aD bD bE aE aH aO=>(bif (decide (v74<v73)) then (bif ((decide (0≤v74∧v74<(v72.length:Int)))&&true) then (bif (Nat.beq 6 6&&((decide (0+aD.length=aD.length))&&decide ((aD.length+1+1)*(48+1)≤Ur))) then (.to (.h4 v1 v2 v72 v73 (IntKind.wrap .i64 (v74+1)) bL aS (aD++[(R6.mk (rd v72 v74.toNat).a (rd v72 v74.toNat).b v1 (rd v72 v74.toNat).c (rd v72 v74.toNat).d v2)]) bD bE aE aH aO)) else .stuck) else .stuck) else (.to (.h2 (IntKind.wrap .i64 (aS+1)) aD bD bE v2 aE aH)))
 | .h5 v2 v8 bY bL aS aD bD bE bV bH bQ aB=>(bif (decide (v8<(aD.length:Int))) then (bif ((decide (0≤v8∧v8<(aD.length:Int)))&&true) then (bif (decide ((0+v8.toNat)<aD.length)) then (.to (.h5 v2 (IntKind.wrap .i64 (v8+1)) bY bL aS (aD.set (0+v8.toNat) (R6.mk (rd aD (0+v8.toNat)).a (rd aD (0+v8.toNat)).b (rd aD (0+v8.toNat)).c (rd aD (0+v8.toNat)).d (rd aD (0+v8.toNat)).e v2)) bD bE bV bH bQ aB)) else .stuck) else .stuck) else (.to (.h2 (IntKind.wrap .i64 (aS+1)) aD bD bE v2 bH bQ)))
def y0k (l0:List R6):Xf slmS:=(bif (decide ((l0.length:Int)>400)) then (.ret [.nils,(.int .i64 4)]) else (.to (.h0 0)))
theorem w1h (l0:List R6): ∀s,Xj prog (Zy prog 47) (slmC l0) (slmC l0 s) (Xz l0 s)
 | .h0 v8=>(lb (fun k0=>(lo fun aG=>(lb (fun k1=>(lb (fun k2=>(lr 15 47 [1,1,0,1,0,0] 1 15 [(2,.nils),(3,(ii 8))] (sl Un 54 [] ⟨[],[],[some [2,3]],[]⟩ ⟨[],[],[]⟩ (trs 3 []) (tt k2 (tt k1 (ww aG (tt k0 nn))))))) (fun k2=>(sl Un 112 [(3,1,Zz ([]:List Int))] ⟨[6,1,7,2,3,4,5,8],[],u1l,u1n⟩ ⟨[],[.keep,.keep,.cells [.grow 7 1],.keep,.keep,.keep,.keep,.keep],[]⟩ (bl 4 11) (pp (fl ([]:List Int) nn) (tt k2 (tt k1 (ww aG (tt k0 nn))))))))) (fun k1=>(sl Un 44 [] ⟨[],[],slmN0,slmM0⟩ ⟨[],[],[]⟩ (bl 2 1) (tt k1 (ww aG (tt k0 nn)))))))) (fun k0=>(sl Un 81 [(3,1,Zz ([]:List Int))] ⟨[5,0,6,1,2,3,4,7],[],u1l,u1n⟩ ⟨[],[.keep,.keep,.cells [.grow 7 1],.keep,.keep,.keep,.keep,.keep],[]⟩ (bl 3 4) (pp (fl ([]:List Int) nn) (tt k0 nn)))))
 | .h1 v16 aA=>(lb (fun k0=>(lo fun o0=>(lo fun o1=>(sl Un 34 [] ⟨[0,1,2,3,4,5,6,10],[],u1l,u1n⟩ ⟨[],[.keep,.keep,.cells [.len (aA++[(rd l0 (tn v16)).c,(rd l0 (tn v16)).f]).length],.keep,.keep,.keep,.keep,.rowed 1 (aA++[(rd l0 (tn v16)).c,(rd l0 (tn v16)).f]).length (Zz (aA++[(rd l0 (tn v16)).c,(rd l0 (tn v16)).f]))],[]⟩ [true] (pp (xL (aA.length+2) (aA++[(rd l0 (tn v16)).c,(rd l0 (tn v16)).f]).length) (pp (xL (aA.length+2) (aA++[(rd l0 (tn v16)).c,(rd l0 (tn v16)).f]).length) (pp (xS (aA.length+2) (Zh (Zz aA) 0 aA.length 1 [(ii (rd l0 (tn v16)).c),(ii (rd l0 (tn v16)).f)]) (Zz (aA++[(rd l0 (tn v16)).c,(rd l0 (tn v16)).f]))) (pp (pp (xF (Zh (Zz aA) 0 aA.length 1 [(ii (rd l0 (tn v16)).c),(ii (rd l0 (tn v16)).f)])) nn) (ww o1 (ww o0 (tt k0 nn))))))))))) (fun k0=>(lo fun o0=>(lo fun o1=>(sl Un 46 [(67,6,Zz ([]:List R6))] ⟨[8,3,4,5,6,2,7,0,1,9],[],u1k,u1m⟩ ⟨[],(kpB 4 [.cells [.grow 9 6,.list 0 (Zz ([]:List R4)),.keep,.keep],.keep,.rowed 1 (Wz (Zc aA.length (cOf (Zz (Yh (Zc aA.length (cOf (Zz aA)))))))).length (Zz (Wz (Zc aA.length (cOf (Zz (Yh (Zc aA.length (cOf (Zz aA))))))))),.keep,.keep,.keep]),[]⟩ (bl 2 0) (pp (xL aA.length (Wz (Zc aA.length (cOf (Zz (Yh (Zc aA.length (cOf (Zz aA)))))))).length (by first | exact z0w _ _ | exact Wi rfl)) (pp (xS aA.length (Zz (Wz (Zc aA.length (cOf (Zz (Yh (Zc aA.length (cOf (Zz aA))))))))) (Zz (Wz (Zc aA.length (cOf (Zz (Yh (Zc aA.length (cOf (Zz aA)))))))))) (pp (fl (Wz (Zc aA.length (cOf (Zz (Yh (Zc aA.length (cOf (Zz aA)))))))) (fl ([]:List R6) nn)) (pp (pp (xG (Nat.beq 1 1)) (pp (xG (Nat.beq 1 1)) (pp (xG (Nat.beq 0 0)) (pp (xG (decide (aA.length=aA.length))) (pp (xG (isI (Zz (Yh (Zc aA.length (cOf (Zz aA))))))) (xG (decide (aA.length<4611686018427387904)))))))) (pp (pp (xG (Nat.beq 1 1)) (pp (xG (Nat.beq 1 1)) (pp (xG (Nat.beq 0 0)) (pp (xG (decide (aA.length=aA.length))) (pp (xG (isI (Zz aA))) (xG (decide (aA.length<4611686018427387904)))))))) (tt k0 nn)))))))))))
 | .h2 v4 aF aQ aZ bA aE aH=>(lb (fun k0=>(lo fun o0=>(lo fun o1=>(lo fun o2=>(lo fun o3=>(sl Un 48 [(88,4,Zz ([]:List R4))] ⟨[0,1,2,3,4,5,6,7,8,10,11,12,9],[],v1v,v1x⟩ ⟨[],(kpB 10 [.cells [.grow 11 4],.keep,.keep]),[]⟩ (trs 3 []) (pp (fl aH (fl ([]:List R4) (fl aF nn))) (ww o3 (ww o2 (ww o1 (ww o0 (tt k0 nn)))))))))))) (fun k0=>(lb (fun k1=>(lr 15 3 [1,1,1,1,1,1,1,0] 1 15 [(2,.nils),(3,(ii 4))] (sl Un 33 [] ⟨[],[],[some [2,3]],[]⟩ ⟨[],[],[]⟩ (bl 2 2) (tt k1 (tt k0 nn))))) (fun k1=>(lr 15 3 [1,1,1,1,1,1,1,0] 1 15 [(2,(.dat aF.length (Zz aF))),(3,(ii 0))] (sl Un 36 [] ⟨[],[9],[some [2,3]],[]⟩ ⟨[(2,.frz aF.length aF.length (Zz aF) (Zz aF))],[],[]⟩ (bl 2 0) (pp (xZ (z5d 6 6 0 aF.length aF.length (Zz aF)) aF.length (Zz aF)) (pp (xL aF.length aF.length) (pp (xS aF.length (Zz aF) (Zz aF)) (pp (fl aF nn) (tt k1 (tt k0 nn))))))))))))
 | .h3 v4 v38 aF aQ aZ bA aE aH aO bC aB=>(lb (fun k0=>(lo fun aG=>(lb (fun k1=>(lb (fun k2=>(lo fun o0=>(sl Un 41 [] ⟨[0,1,2,3,4,5,6,7,8,9,10,15,12],[],v1v,v1x⟩ ⟨[],(kpB 10 [.cells [.len (aB++[(R4.mk (rd l0 (tn v38)).a (rd l0 (tn v38)).b (rd l0 (tn v38)).d (rd l0 (tn v38)).e)]).length],.rowed 4 (aB++[(R4.mk (rd l0 (tn v38)).a (rd l0 (tn v38)).b (rd l0 (tn v38)).d (rd l0 (tn v38)).e)]).length (Zz (aB++[(R4.mk (rd l0 (tn v38)).a (rd l0 (tn v38)).b (rd l0 (tn v38)).d (rd l0 (tn v38)).e)])),.keep]),[]⟩ (trs 8 []) (pp (xL (aB.length+1) (aB++[(R4.mk (rd l0 (tn v38)).a (rd l0 (tn v38)).b (rd l0 (tn v38)).d (rd l0 (tn v38)).e)]).length) (pp (xL (aB.length+1) (aB++[(R4.mk (rd l0 (tn v38)).a (rd l0 (tn v38)).b (rd l0 (tn v38)).d (rd l0 (tn v38)).e)]).length) (pp (xS (aB.length+1) (Zh (Zz aB) 0 aB.length 4 [(ii (rd l0 (tn v38)).a),(ii (rd l0 (tn v38)).b),(ii (rd l0 (tn v38)).d),(ii (rd l0 (tn v38)).e)]) (Zz (aB++[(R4.mk (rd l0 (tn v38)).a (rd l0 (tn v38)).b (rd l0 (tn v38)).d (rd l0 (tn v38)).e)]))) (pp (fl aH (pp (xF (Zh (Zz aB) 0 aB.length 4 [(ii (rd l0 (tn v38)).a),(ii (rd l0 (tn v38)).b),(ii (rd l0 (tn v38)).d),(ii (rd l0 (tn v38)).e)])) (fl aF nn))) (ww o0 (tt k2 (tt k1 (ww aG (tt k0 nn)))))))))))) (fun k2=>(sl Un 41 [] ⟨(List.range 13),[],v1v,v1x⟩ ⟨[],[],[]⟩ (trs 7 [false]) (pp (fl aH (fl aB (fl aF nn))) (tt k2 (tt k1 (ww aG (tt k0 nn))))))))) (fun k1=>(sl Un 41 [] ⟨(List.range 13),[],v1v,v1x⟩ ⟨[],[],[]⟩ (bl 8 1) (pp (fl aH (fl aB (fl aF nn))) (tt k1 (ww aG (tt k0 nn))))))))) (fun k0=>(We (sl Un (C':=⟨⟨65,0,true⟩,(Up prog 95 [1,1,0,1,0,1,0,0] 4),(Zd prog 95 [1,1,0,1,0,1,0,0] 1),(some 0),[],⟨Ya [(2,(.ptr 1 0)),(4,(.ptr 2 0)),(5,(.ptr 3 0)),(6,(.ptr 4 0)),(7,(.ptr 6 0)),(20,(.dat aB.length (Zz aB)))],z9j [(1,⟨[.nilf],117,none⟩),(2,⟨[.nils],38,none⟩),(3,⟨[(ii 0)],26,none⟩),(4,⟨[(.sla 5 6 0 aF.length (.un 6)),(.dat aQ.length (Zz aQ)),(ii aZ),(ii bA)],168,none⟩),(5,⟨rows aF.length (Zz aF),67,some ⟨6,aF.length,(Zz aF)⟩⟩),(6,⟨[(ii aO),(ii bC),(.sl 7 0 1 (.ex 1))],173,none⟩),(7,⟨[(.dat aB.length (Zz aB))],99,none⟩),(8,⟨[(.sla 9 1 0 aE (.un 1))],93,none⟩),(9,⟨rows aH.length (Zz aH),3,some ⟨1,aH.length,(Zz aH)⟩⟩),(10,⟨[(.sl 11 0 1 (.un 1))],166,none⟩),(11,⟨[(.dat l0.length (Zz l0))],22,none⟩)],12,[],true⟩,[⟨⟨86,0,true⟩,(Up prog 171 [1,0,0,1,0,0,1,1,0] 2),(Zd prog 171 [1,0,0,1,0,0,1,1,0] 1),none,[],Ya [(0,(.yld 0)),(1,(.ptr 8 0)),(2,(.ptr 10 0)),(4,(ii v4)),(82,(.yld 0)),(83,(.agg [(ii aO),(ii bC),(.sl 7 0 1 (.ex 1))]))]⟩,⟨⟨65,0,true⟩,none,(.inRangeFunc 0::(Zd prog 95 [1,1,0,1,0] 1)),none,(Zy prog 95),Ya [(4,(.ptr 2 0)),(5,(.ptr 3 0)),(6,(.ptr 4 0))]⟩,⟨⟨15,0,true⟩,(Up prog 47 [1,1,1,0] 3),(Zd prog 47 [1,1,1,0] 1),none,(Zy prog 15),Ya [(9,(.agg [.nilf])),(11,(.sl 11 0 1 (.un 1)))]⟩],(y4p [(0,⟨.busy,none,65,Ya [(2,(.ptr 1 0)),(4,(.ptr 2 0)),(5,(.ptr 3 0)),(6,(.ptr 4 0))],[15],(Vy prog 95 [1,1,0,1,0,0]),(Vy prog 95 [1,1,0,1,0,1])⟩)])⟩) 37 [] ⟨[0,1,2,3,4,12,13,10,5,6,7,8],[11],[some [2,4,5,6,7,20],some [0,1,2,4,82,83],some [4,5,6],some [9,11]],[some [2,4,5,6],none,none,none,none,none,none,none,none,none,none,none]⟩ ⟨[(20,.frz aB.length aB.length (Zz aB) (Zz aB))],[.keep,.keep,.keep,.keep,.keep,.keep,.keep,.cells [.frz aB.length aB.length (Zz aB) (Zz aB)],.keep,.keep,.keep,.keep],[]⟩ (bl 2 0) (pp (xZ (z5d 4 4 0 aB.length aB.length (Zz aB)) aB.length (Zz aB)) (pp (xL aB.length aB.length) (pp (xS aB.length (Zz aB) (Zz aB)) (pp (xZ (z5d 4 4 0 aB.length aB.length (Zz aB)) aB.length (Zz aB)) (pp (xL aB.length aB.length) (pp (xS aB.length (Zz aB) (Zz aB)) (pp (fl aF (fl aH nn)) (pp (fl aB nn) (tt k0 nn)))))))))) (lo fun aG=>(lb (fun k1=>(lr 15 3 [1,1,1,1,1,1,1,0] 1 15 [(2,.nils),(3,(ii (Xp (cvT aB))))] (sl Un 50 [] ⟨[],[],[some [2,3]],[]⟩ ⟨[],[],[]⟩ (bl 3 6) (tt k1 (pp (pp (xr aB) (xw aG)) nn))))) (fun k1=>(lb (fun k2=>(lb (fun k3=>(lo fun bW=>(lb (fun k4=>(sl Un 75 [] ⟨[4,5,0,1,2,3,8,9,10,11,7],[],slmN5,slmM5⟩ ⟨[],[],[]⟩ (bl 15 32764) (pp (fl aF (fl aH nn)) (tt k4 (pp (pp (xr aQ) (pp (xI R4 (Zg (cvT aB)).length (Zz (Zg (cvT aB)))) (xw bW))) (tt k3 (tt k2 (tt k1 (pp (pp (xr aB) (xw aG)) nn))))))))) (fun k4=>(sl Un 95 [] ⟨[4,0,1,2,3,8,9,10,11,7,5],[],v1u,v1w⟩ ⟨[],[],[]⟩ (bl 15 16380) (pp (fl aH (fl aF nn)) (tt k4 (pp (pp (xr aQ) (pp (xI R4 (Zg (cvT aB)).length (Zz (Zg (cvT aB)))) (xw bW))) (tt k3 (tt k2 (tt k1 (pp (pp (xr aB) (xw aG)) nn)))))))))))) (fun k3=>(sl Un 95 [] ⟨[4,0,1,2,3,8,9,10,11,7,5],[],v1u,v1w⟩ ⟨[],[],[]⟩ (bl 15 252) (pp (fl aH (fl aF nn)) (tt k3 (tt k2 (tt k1 (pp (pp (xr aB) (xw aG)) nn))))))))) (fun k2=>(sl Un 95 [] ⟨[4,0,1,2,3,8,9,10,11,7,5],[],v1u,v1w⟩ ⟨[],[],[]⟩ (bl 15 0) (pp (fl aH (fl aF nn)) (tt k2 (tt k1 (pp (pp (xr aB) (xw aG)) nn)))))))))))))
 | .h4 v1 v2 v72 v73 v74 bL aS aD bD bE aE aH aO=>(lb (fun k0=>(lo fun o0=>(lo fun o1=>(sl Un 23 [] ⟨[0,1,2,3,4,5,6,7,8,9,13],[],v1u,v1w⟩ ⟨[],[.cells [.len (aD++[(R6.mk (rd v72 (tn v74)).a (rd v72 (tn v74)).b v1 (rd v72 (tn v74)).c (rd v72 (tn v74)).d v2)]).length,.keep,.keep,.keep],.keep,.keep,.keep,.keep,.keep,.keep,.keep,.keep,.keep,.rowed 6 (aD++[(R6.mk (rd v72 (tn v74)).a (rd v72 (tn v74)).b v1 (rd v72 (tn v74)).c (rd v72 (tn v74)).d v2)]).length (Zz (aD++[(R6.mk (rd v72 (tn v74)).a (rd v72 (tn v74)).b v1 (rd v72 (tn v74)).c (rd v72 (tn v74)).d v2)]))],[]⟩ [true] (pp (xL (aD.length+1) (aD++[(R6.mk (rd v72 (tn v74)).a (rd v72 (tn v74)).b v1 (rd v72 (tn v74)).c (rd v72 (tn v74)).d v2)]).length) (pp (xL (aD.length+1) (aD++[(R6.mk (rd v72 (tn v74)).a (rd v72 (tn v74)).b v1 (rd v72 (tn v74)).c (rd v72 (tn v74)).d v2)]).length) (pp (xS (aD.length+1) (Zh (Zz aD) 0 aD.length 6 [(ii (rd v72 (tn v74)).a),(ii (rd v72 (tn v74)).b),(ii v1),(ii (rd v72 (tn v74)).c),(ii (rd v72 (tn v74)).d),(ii v2)]) (Zz (aD++[(R6.mk (rd v72 (tn v74)).a (rd v72 (tn v74)).b v1 (rd v72 (tn v74)).c (rd v72 (tn v74)).d v2)]))) (pp (fl aH (pp (xF (Zh (Zz aD) 0 aD.length 6 [(ii (rd v72 (tn v74)).a),(ii (rd v72 (tn v74)).b),(ii v1),(ii (rd v72 (tn v74)).c),(ii (rd v72 (tn v74)).d),(ii v2)])) nn)) (ww o1 (ww o0 (tt k0 nn))))))))))) (fun k0=>(sl Un 22 [] ⟨[1,2,3,4,0,5,6,7,8,10],[],u1k,u1m⟩ ⟨[],[],[]⟩ (bl 2 0) (pp (fl aH (fl aD nn)) (tt k0 nn)))))
 | .h5 v2 v8 bY bL aS aD bD bE bV bH bQ aB=>(lb (fun k0=>(lo fun o0=>(lo fun o1=>(sl Un 34 [] ⟨(List.range 11),[],slmN5,slmM5⟩ ⟨[],[.cells [.len (aD.set (0+(tn v8)) (R6.mk (rd aD (0+(tn v8))).a (rd aD (0+(tn v8))).b (rd aD (0+(tn v8))).c (rd aD (0+(tn v8))).d (rd aD (0+(tn v8))).e v2)).length,.keep,.keep,.keep],.rowed 6 (aD.set (0+(tn v8)) (R6.mk (rd aD (0+(tn v8))).a (rd aD (0+(tn v8))).b (rd aD (0+(tn v8))).c (rd aD (0+(tn v8))).d (rd aD (0+(tn v8))).e v2)).length (Zz (aD.set (0+(tn v8)) (R6.mk (rd aD (0+(tn v8))).a (rd aD (0+(tn v8))).b (rd aD (0+(tn v8))).c (rd aD (0+(tn v8))).d (rd aD (0+(tn v8))).e v2))),.keep,.keep,.keep,.keep,.keep,.keep,.keep,.keep,.keep],[]⟩ [true] (pp (xL aD.length (aD.set (0+(tn v8)) (R6.mk (rd aD (0+(tn v8))).a (rd aD (0+(tn v8))).b (rd aD (0+(tn v8))).c (rd aD (0+(tn v8))).d (rd aD (0+(tn v8))).e v2)).length) (pp (xL aD.length (aD.set (0+(tn v8)) (R6.mk (rd aD (0+(tn v8))).a (rd aD (0+(tn v8))).b (rd aD (0+(tn v8))).c (rd aD (0+(tn v8))).d (rd aD (0+(tn v8))).e v2)).length) (pp (xS aD.length (Xb (Zz aD) (0+(tn v8)) 5 [(ii v2)]) (Zz (aD.set (0+(tn v8)) (R6.mk (rd aD (0+(tn v8))).a (rd aD (0+(tn v8))).b (rd aD (0+(tn v8))).c (rd aD (0+(tn v8))).d (rd aD (0+(tn v8))).e v2)))) (pp (pp (xF (Xb (Zz aD) (0+(tn v8)) 5 [(ii v2)])) (fl bQ nn)) (ww o1 (ww o0 (tt k0 nn))))))))))) (fun k0=>(sl Un 36 [] ⟨[2,3,4,5,0,6,7,8,9,1],[],u1k,u1m⟩ ⟨[],[],[]⟩ (bl 2 0) (pp (fl bQ (fl aD nn)) (tt k0 nn)))))
theorem x3x (l0:List R6):Xj prog (Zy prog 47) (slmC l0) (Ze prog 47 [(.dat l0.length (Zz l0))] true []) (y0k l0):=(lb (fun k0=>(lr 15 47 [1,0,1,0,0] 1 15 [(2,.nils),(3,(ii 4))] (sl Un 18 [] ⟨[],[],[some [2,3]],[]⟩ ⟨[],[],[]⟩ [true] (tt k0 nn)))) (fun k0=>(sl Un 41 [] ⟨[],[],slmN0,slmM0⟩ ⟨[],[],[]⟩ [false] (tt k0 nn))))
theorem v1t (l0:List R6) (n:Nat) (vs:List AVal) (h:Yv (Xz l0) n (y0k l0)=.ret vs):Ky prog (Zy prog 47) (Ze prog 47 [(.dat l0.length (Zz l0))] true []) vs:=by have:=Zr (w1h l0) n _ (x3x l0);rwa [h] at this
end Go.Am
namespace Go.Am
open Go.Proofs.Tryz
open Go.Proofs Go.Sort Go.Shelf Go.RowKit Go.Lib
def w9j (x y z:Int):Bool:=decide (z5c (z5c x y) z≥(-1000000))&&decide (Kq (Kq x y) z≤1000000)
theorem u4u (x y z:Int): ∃N,Yv (x6q x y z) N (y1l x y z)=.ret [.bool (w9j x y z)]:=⟨0,by
 unfold y1l w9j;cases decide (z5c (z5c x y) z≥(-1000000)) <;> rfl⟩
instance : DecidableEq R7:=Classical.typeDecidableEq _
def y5w (l m:List R7):Bool:=decide (l=m)
def z1i (l m:List R7):Bool:=decide (l.length≤1000000)
def eq7 (r s:R7):Bool:=(r.a == s.a)&&(((r.b == s.b)&&((r.c == s.c)&&((r.d == s.d)&&true)))&&(((r.e == s.e)&&((r.f == s.f)&&((r.g == s.g)&&true)))&&true))
theorem w9v (r s:R7):eq7 r s=true↔r=s:=by obtain ⟨a,b,c,d,e,f,g⟩:=r;obtain ⟨a',b',c',d',e',f',g'⟩:=s;simp [eq7,and_assoc]
theorem u0b (l m:List R7) (hl:l.length≤1000000) (hm:l.length=m.length): ∀(k i:Nat),i+k=l.length→ ∃N,Yv (z5f l m) N (.to (.h0 (i:Int)))=.ret [.bool (decide (l.drop i=m.drop i))]
 | 0,i,h=>by refine ⟨1,?_⟩;rw [Zv,List.drop_eq_nil_of_le (by omega),List.drop_eq_nil_of_le (by omega)];simp (disch:=omega) only [z5f,Yw,cond_false,Zm,decide_true]
 | k+1,i,h=>by
  have hi:i<l.length:=by omega
  obtain ⟨N,hN⟩:=u0b l m hl hm k (i+1) (by omega);refine ⟨N+1,?_⟩;rw [Zv,Yp hi,Yp (show i<m.length by omega)];have e:z5f l m (.h0 (i:Int))=bif !(eq7 (rd l i) (rd m i)) then .ret [.bool false] else .to (.h0 ((i+1:Nat):Int)):=by simp (disch:=omega) only [z5f,eq7,Zt,Yz,Zk,Zx,Zj,Bool.and_true,cond_true,cond_false]
  rw [e];by_cases q:rd l i=rd m i
  ·rw [(w9v _ _).2 q,Bool.not_true,cond_false,hN]
   congr 3
   exact decide_eq_decide.2 ⟨fun h=>by rw [q,h],fun h=>(List.cons.inj h).2⟩
  ·rw [show eq7 (rd l i) (rd m i)=false from Bool.eq_false_iff.2 fun h=>q ((w9v _ _).1 h),Bool.not_false,cond_true,Zm]
   congr 3
   exact (decide_eq_false fun h=>q (List.cons.inj h).1).symm
theorem u6b (l m:List R7) (h:z1i l m=true): ∃N,Yv (z5f l m) N (y1m l m)=.ret [.bool (y5w l m)]:=by
 have hl:l.length≤1000000:=of_decide_eq_true h;unfold y1m;by_cases hm:l.length=m.length
 ·obtain ⟨N,hN⟩:=u0b l m hl hm l.length 0 (Nat.zero_add _);refine ⟨N,?_⟩;rw [show ((l.length:Int) != (m.length:Int))=false by rw [hm];simp,cond_false];exact hN
 ·refine ⟨0,?_⟩;rw [show ((l.length:Int) != (m.length:Int))=true by simp;omega,cond_true,Zm]
  congr 3
  exact (decide_eq_false fun e=>hm (by rw [e])).symm
def slmX :List AVal:=[.nils,.int .i64 8]
def eF (l:List R6):Nat→Nat→Int
 | 0,_=>0
 | k+1,i=>bif v0q l (rd (D6.cuts l) i) then Xp (D6.inn l (rd (D6.cuts l) i)) else eF l k (i+1)
def slmE (l:List R6) (k i:Nat):List AVal:=[.nils,.int .i64 (eF l k i)]
section
variable (l:List R6) (hl:l.length≤400)
include hl
theorem v6y (i:Nat) (out:List R6) (last:List R4) (first fin x x':Int): ∀(k j:Nat) (acc:List R4),j+k=l.length→acc.length≤j→
  ∃n,∀N,Yv (Xz l) (N+n) (.to (.h3 (i:Int) (j:Int) out last first fin ((D6.cuts l).length) (Wz (Yh (D6.ends l))) x x' acc))=Yv (Xz l) N (.to (.h3 (i:Int) (l.length:Int) out last first fin ((D6.cuts l).length) (Wz (Yh (D6.ends l))) x x' (acc++D6.inn (l.drop j) x)))
 | 0,j,acc,h,ha=>by refine ⟨0,fun N=> ?_⟩;rw [List.drop_eq_nil_of_le (by omega),show D6.inn ([]:List R6) x=[] from rfl,List.append_nil,Nat.add_zero,show j=l.length by omega]
 | k+1,j,acc,h,ha=>by
  have hj:j<l.length:=by omega
  obtain ⟨n,hn⟩:=v6y i out last first fin x x' k (j+1) (acc++D6.inn [rd l j] x) (by omega) (by have:=D6.inn_length [rd l j] x;simp only [List.length_append,List.length_singleton] at*;omega)
  refine ⟨n+1,fun N=> ?_⟩;have e:D6.inn (l.drop j) x=D6.inn [rd l j] x++D6.inn (l.drop (j+1)) x:=by rw [Yp hj,←D6.inn_append];rfl
  rw [e,←Nat.add_assoc,Zv,←List.append_assoc,←hn N];by_cases h1:D6.lo (rd l j)≤x
  ·by_cases h2:x<D6.hi (rd l j)
   ·rw [D6.inn_t _ _ h1 h2];simp only [D6] at h1 h2 ⊢;simp (disch:=omega) only [Xz,Xh,Za,Zq,Zt,Yz,Yg,Yu,Yk,Zi,Zk,Zx,Yq,Zj,Nat.zero_add,decide_true,Bool.and_true,Bool.true_and,cond_true,cond_false]
   ·rw [D6.inn_f2 _ _ h2,List.append_nil];simp only [D6] at h1 h2;simp (disch:=omega) only [Xz,Xh,Yw,Za,Zq,Zt,Yz,Yg,Yu,Yk,Zi,Zk,Zx,Yq,Zj,Nat.zero_add,decide_true,Bool.and_true,Bool.true_and,cond_true,cond_false]
  ·rw [D6.inn_f1 _ _ h1,List.append_nil];simp only [D6] at h1;simp (disch:=omega) only [Xz,x6y,Za,Zq,Zt,Yz,Yg,Yu,Yk,Zi,Zk,Zx,Yq,Zj,Nat.zero_add,decide_true,Bool.and_true,Bool.true_and,cond_true,cond_false]
theorem v6x (i:Nat) (hi:i≤1000) (x x':Int) (s last:List R4) (first:Int) (inn:List R4) (hs:s.length≤1000): ∀(k j:Nat) (out:List R6),j+k=s.length→out.length≤10000000+j→
  ∃n,∀N,Yv (Xz l) (N+n) (.to (.h4 x x' s (s.length:Int) (j:Int) s (i:Int) out last first ((D6.cuts l).length) (Wz (Yh (D6.ends l))) inn))=Yv (Xz l) N (.to (.h2 ((i+1:Nat):Int) (out++(s.drop j).map (D6.put x x')) last first x' ((D6.cuts l).length) (Wz (Yh (D6.ends l)))))
 | 0,j,out,h,ho=>by have _u:=hl;refine ⟨1,fun N=> ?_⟩;rw [List.drop_eq_nil_of_le (by omega),Zv];simp (disch:=omega) only [Xz,Yw,Zk,Zx,cond_false,List.map_nil,List.append_nil]
 | k+1,j,out,h,ho=>by
  obtain ⟨n,hn⟩:=v6x i hi x x' s last first inn hs k (j+1) (out++[D6.put x x' (rd s j)]) (by omega) (by simp;omega)
  refine ⟨n+1,fun N=> ?_⟩;have:=hn N;rw [Yp (show j<s.length by omega),List.map_cons,←Nat.add_assoc,Zv];simp (disch:=omega) only [Xz,Za,Zq,Zt,Yz,Yg,Yu,Yk,Zi,Zk,Zx,Yq,Zj,Nat.zero_add,decide_true,Bool.and_true,Bool.true_and,cond_true,cond_false];rw [List.append_assoc] at this;exact this
theorem v6w (i:Nat) (hi:i≤1000) (x x' fin:Int) (s last:List R4) (first:Int) (inn:List R4): ∀(k j:Nat) (out:List R6),j+k=out.length→out.length≤10000000→
  ∃n,∀N,Yv (Xz l) (N+n) (.to (.h5 x' (j:Int) x s (i:Int) out last first fin ((D6.cuts l).length) (Wz (Yh (D6.ends l))) inn))=Yv (Xz l) N (.to (.h2 ((i+1:Nat):Int) (D6.grow out j x') last first x' ((D6.cuts l).length) (Wz (Yh (D6.ends l)))))
 | 0,j,out,h,ho=>by have _u:=hl;refine ⟨1,fun N=> ?_⟩;rw [D6.grow_nil _ _ _ (by omega),Zv];simp (disch:=omega) only [Xz,Yw,Zk,Zx,cond_false]
 | k+1,j,out,h,ho=>by
  obtain ⟨n,hn⟩:=v6w i hi x x' fin s last first inn k (j+1) (out.set j (D6.ext x' (rd out j))) (by simp;omega) (by simpa using ho)
  refine ⟨n+1,fun N=> ?_⟩;have:=hn N;rw [D6.grow_set out j _ (by omega)] at this;rw [←Nat.add_assoc,Zv];simp (disch:=omega) only [Xz,Za,Zq,Zt,Yz,Yg,Yu,Yk,Zi,Zk,Zx,Yq,Zj,Nat.zero_add,decide_true,Bool.and_true,Bool.true_and,cond_true,cond_false];exact this
theorem w5m : ∀(k i:Nat) (s:Sw R6 R4),k=(D6.cuts l).length - 1 - i→i≤(D6.cuts l).length →s.out.length≤i*1000→s.last.length≤1000→s.first≤s.out.length→
  ∃n,Yv (Xz l) n (.to (.h2 ((i+1:Nat):Int) s.out s.last (s.first:Int) s.fin ((D6.cuts l).length) (Wz (Yh (D6.ends l)))))=.ret ((bif okF l k i then Km (D6.go l k i s).out else slmE l k i))
 | 0,i,s,h,hi,ho,hla,hf=>by
  have hc:=D6.cuts_length l;refine ⟨1,?_⟩;rw [Zv,show D6.go l 0 i s=s from rfl,show okF l 0 i=true from rfl,cond_true];unfold Km;by_cases q:(s.out.length:Int)>400
  ·simp (disch:=omega) only [Xz,Yw,Ye,cond_true,cond_false,Zm]
  ·simp (disch:=omega) only [Xz,Za,Yw,Xv,cond_true,cond_false,Zm]
 | k +1,i,s,h,hi,ho,hla,hf=>by
  have hc:=D6.cuts_length l;have hi1:i+1<(D6.cuts l).length :=by omega
  have hpl:(Wz (Yh (D6.ends l))).length =2*l.length:=by rw [Uy,Xs,D6.ends_length]
  have r0:rd (Wz (Yh (D6.ends l))) i=rd (D6.cuts l) i:=z2u _ _ (by show i<(D6.cuts l).length;omega);have r1:rd (Wz (Yh (D6.ends l))) (i+1)=rd (D6.cuts l) (i+1):=z2u _ _ (by show i+1<(D6.cuts l).length;omega);have hbig:i*1000≤1000*1000:=Nat.mul_le_mul_right _ (by omega);have hsl:=u0m l (rd (D6.cuts l) i);have hsd:D6.sec l (rd (D6.cuts l) i)=Zg (D6.inn l (rd (D6.cuts l) i)):=rfl;obtain ⟨n3,h3⟩:=v6y l hl (i+1) s.out s.last (s.first:Int) s.fin (rd (D6.cuts l) i) (rd (D6.cuts l) (i+1)) l.length 0 [] (Nat.zero_add _) (Nat.le_refl _);simp only [List.drop_zero,List.nil_append,z5l] at h3;have w1:Vs (D6.inn l (rd (D6.cuts l) i))=true:=rfl;have w2:Wm s.last (Zg (D6.inn l (rd (D6.cuts l) i)))=true:=decide_eq_true (by omega);have ol:=D6.one_length l (rd (D6.cuts l) i) (rd (D6.cuts l) (i+1)) s;have st0: ∀N,Yv (Xz l) (N+n3+1) (.to (.h2 ((i+1:Nat):Int) s.out s.last (s.first:Int) s.fin ((D6.cuts l).length) (Wz (Yh (D6.ends l)))))=Yv (Xz l) N (.to (.h3 ((i+1:Nat):Int) (l.length:Int) s.out s.last (s.first:Int) s.fin ((D6.cuts l).length) (Wz (Yh (D6.ends l))) (rd (D6.cuts l) i) (rd (D6.cuts l) (i+1)) (D6.inn l (rd (D6.cuts l) i)))):=fun N=>by
   rw [←h3 N,Zv];have e1:IntKind.wrap .i64 (((i+1:Nat):Int) - 1)=(i:Int):=by rw [Zs];exact Zk (by omega)
   simp (disch:=omega) only [Xz,e1,r0,r1,Za,Zq,Zt,Yz,Yg,Yu,Yk,Zi,Zk,Zx,Yq,Zj,Nat.zero_add,decide_true,Bool.and_true,Bool.true_and,cond_true,cond_false]
  rcases Yf (v0q l (rd (D6.cuts l) i)) with q0 | q0
  ·refine ⟨1+n3+1,?_⟩;rw [st0 1,Zv];simp only [okF,slmE,eF,q0,cond_true,cond_false];have q0':(Xp (D6.inn l (rd (D6.cuts l) i)) != 0)=true:=q0;simp (disch:=omega) only [Xz,Za,Zq,Yw,q0',w1,cond_true,cond_false,Zm]
  have q0':(Xp (D6.inn l (rd (D6.cuts l) i)) != 0)=false:=q0;rcases Yf (decide (0<(D6.sec l (rd (D6.cuts l) i)).length)&&((s.fin == rd (D6.cuts l) i)&&D6.same s.last (D6.sec l (rd (D6.cuts l) i)))) with q | q
  ·obtain ⟨n5,h5⟩:=v6w l hl (i+1) (by omega) (rd (D6.cuts l) i) (rd (D6.cuts l) (i+1)) s.fin (D6.sec l (rd (D6.cuts l) i)) s.last (s.first:Int) (D6.inn l (rd (D6.cuts l) i)) (s.out.length - s.first) s.first s.out (by omega) (by omega)
   have e:D6.one l (rd (D6.cuts l) i) (rd (D6.cuts l) (i+1)) s=⟨D6.grow s.out s.first (rd (D6.cuts l) (i+1)),s.last,s.first,rd (D6.cuts l) (i+1)⟩:=by unfold Dim.one;rw [q];rfl
   obtain ⟨n0,h0⟩:=w5m k (i+1) (D6.one l (rd (D6.cuts l) i) (rd (D6.cuts l) (i+1)) s) (by omega) (by omega) (by omega) (by rw [e];exact hla) (by rw [e];simpa [Dim.grow_length] using hf);refine ⟨n0+n5+1+n3+1,?_⟩;rw [st0 (n0+n5+1),Zv];simp only [Bool.and_eq_true,decide_eq_true_eq] at q;obtain ⟨q1,q2,q3⟩:=q;have q3':Um s.last (Zg (D6.inn l (rd (D6.cuts l) i)))=true:=q3;rw [hsd] at q1;simp (disch:=omega) only [Xz,Za,Zq,Yw,Ye,q0',q2,q3',w1,w2,cond_true,cond_false];rw [←hsd,h5 n0];simp only [okF,slmE,eF,q0,cond_false];simp only [Dim.go];rw [e] at h0 ⊢;exact h0
  ·obtain ⟨n4,h4⟩:=v6x l hl (i+1) (by omega) (rd (D6.cuts l) i) (rd (D6.cuts l) (i+1)) (D6.sec l (rd (D6.cuts l) i)) (D6.sec l (rd (D6.cuts l) i)) (s.out.length:Int) (D6.inn l (rd (D6.cuts l) i)) hsl (D6.sec l (rd (D6.cuts l) i)).length 0 s.out (Nat.zero_add _) (by omega);simp only [List.drop_zero,z5l] at h4;have e:D6.one l (rd (D6.cuts l) i) (rd (D6.cuts l) (i+1)) s=⟨s.out++(D6.sec l (rd (D6.cuts l) i)).map (D6.put (rd (D6.cuts l) i) (rd (D6.cuts l) (i+1))),D6.sec l (rd (D6.cuts l) i),s.out.length,rd (D6.cuts l) (i+1)⟩:=by unfold Dim.one;rw [q];rfl
   obtain ⟨n0,h0⟩:=w5m k (i+1) (D6.one l (rd (D6.cuts l) i) (rd (D6.cuts l) (i+1)) s) (by omega) (by omega) (by omega) (by rw [e];exact hsl) (by rw [e];simp);have hg:Yv (Xz l) 1 (.to (.h3 ((i+1:Nat):Int) (l.length:Int) s.out s.last (s.first:Int) s.fin ((D6.cuts l).length) (Wz (Yh (D6.ends l))) (rd (D6.cuts l) i) (rd (D6.cuts l) (i+1)) (D6.inn l (rd (D6.cuts l) i))))=.to (.h4 (rd (D6.cuts l) i) (rd (D6.cuts l) (i+1)) (D6.sec l (rd (D6.cuts l) i)) ((D6.sec l (rd (D6.cuts l) i)).length :Int) 0 (D6.sec l (rd (D6.cuts l) i)) ((i+1:Nat):Int) s.out (D6.sec l (rd (D6.cuts l) i)) (s.out.length:Int) ((D6.cuts l).length) (Wz (Yh (D6.ends l))) (D6.inn l (rd (D6.cuts l) i))):=by
    rw [show (1:Nat)=0+1 from rfl,Zv];rw [hsd] at q ⊢;have e3:D6.same s.last (Zg (D6.inn l (rd (D6.cuts l) i)))=Um s.last (Zg (D6.inn l (rd (D6.cuts l) i))):=rfl;rw [e3] at q;by_cases q1:0<(Zg (D6.inn l (rd (D6.cuts l) i))).length
    ·rw [decide_eq_true q1,Bool.true_and] at q;rcases Yf (s.fin == rd (D6.cuts l) i) with q2 | q2
     ·rw [q2,Bool.true_and] at q;simp (disch:=omega) only [Xz,Za,Zq,Yw,Ye,q0',q2,q,w1,w2,cond_true,cond_false];rfl
     ·simp (disch:=omega) only [Xz,Za,Zq,Yw,Ye,q0',q2,w1,w2,cond_true,cond_false];rfl
    ·simp (disch:=omega) only [Xz,Za,Zq,Yw,Xv,q0',w1,w2,cond_true,cond_false];rfl
   refine ⟨n0+n4+1+n3+1,?_⟩;rw [st0 (n0+n4+1),z6q _ (n0+n4) 1,hg,h4 n0];simp only [okF,slmE,eF,q0,cond_false];simp only [Dim.go];rw [e] at h0 ⊢;exact h0
theorem v6z : ∀(k i:Nat) (acc:List Int),i+k=l.length→acc=D6.ends (l.take i)→ ∃n,Yv (Xz l) n (.to (.h1 (i:Int) acc))=.ret ((bif okF l ((D6.cuts l).length - 1) 0 then Km (D6.go l ((D6.cuts l).length - 1) 0 ⟨[],[],0,0⟩).out else slmE l ((D6.cuts l).length - 1) 0))
 | 0,i,acc,h,ha=>by
  have e:acc=D6.ends l:=by rw [ha,List.take_of_length_le (by omega)]
  subst e;have hle:=D6.ends_length l;obtain ⟨n,hn⟩:=w5m l hl ((D6.cuts l).length - 1) 0 ⟨[],[],0,0⟩ (by omega) (Nat.zero_le _) (Nat.zero_le _) (Nat.zero_le _) (Nat.zero_le _);refine ⟨n+1,?_⟩;rw [Zv];simp (disch:=omega) only [Xz,Wg,Qx,z8o,Yw,Yu,Yk,decide_true,cond_true,cond_false];exact hn
 | k+1,i,acc,h,ha=>by
  have hle:=D6.ends_length (l.take i);have fH:acc.length≤2*i:=by rw [ha,hle];simp;omega
  obtain ⟨n,hn⟩:=v6z k (i+1) (acc++D6.ends [rd l i]) (by omega) (by
   rw [ha,List.take_add_one];have:l[i]? =some (rd l i):=by rw [Xu (show i<l.length by omega)];exact List.getElem?_eq_getElem _
   rw [this,D6.ends_append];rfl)
  refine ⟨n+1,?_⟩;rw [Zv];simp (disch:=omega) only [Xz,Za,Zq,Zt,Yz,Yg,Yu,Yk,Zi,Zk,Zx,Yq,Zj,Nat.zero_add,decide_true,Bool.and_true,Bool.true_and,cond_true,cond_false];exact hn
theorem v7a : ∀(k i:Nat),i+k=l.length→(∀s∈l.take i,z0m s=true)→ ∃n,Yv (Xz l) n (.to (.h0 (i:Int)))=.ret (bif l.all z0m then (bif okF l ((D6.cuts l).length - 1) 0 then Km (D6.go l ((D6.cuts l).length - 1) 0 ⟨[],[],0,0⟩).out else slmE l ((D6.cuts l).length - 1) 0) else slmX)
 | 0,i,h,ht=>by have hv:l.all z0m=true:=List.all_eq_true.2 fun s hs=>ht s (by rw [List.take_of_length_le (by omega)];exact hs);obtain ⟨n,hn⟩:=v6z l hl l.length 0 [] (Nat.zero_add _) rfl;refine ⟨n+1,?_⟩;rw [Zv,hv,cond_true];simp (disch:=omega) only [Xz,Yw,cond_false];exact hn
 | k+1,i,h,ht=>by
  have hi:i<l.length:=by omega
  have hs:Xz l (.h0 (i:Int))=bif z0m (rd l i) then .to (.h0 ((i+1:Nat):Int)) else .ret slmX:=by have e:u0p (rd l i).a (rd l i).b (rd l i).c (rd l i).d (rd l i).e (rd l i).f =z0m (rd l i):=rfl;simp (disch:=omega) only [Xz,e,z5m,x2l,x2m,Yz,Zk,Zx,Zj,Bool.and_true,cond_true,cond_false];rfl
  rcases Yf (z0m (rd l i)) with q | q
  ·obtain ⟨n,hn⟩:=v7a k (i+1) (by omega) (fun s hs=>by
    rw [List.take_add_one] at hs;have e:l[i]? =some (rd l i):=by rw [Xu hi];exact List.getElem?_eq_getElem _
    rw [e] at hs;simp only [Option.toList_some,List.mem_append,List.mem_singleton] at hs;rcases hs with hs | rfl
    ·exact ht s hs
    ·exact q)
   refine ⟨n+1,?_⟩;rw [Zv,hs,q,cond_true];exact hn
  ·have hv:l.all z0m=false:=Bool.eq_false_iff.2 fun e=>by have:=List.all_eq_true.1 e (rd l i) (by rw [Xu hi];exact List.getElem_mem hi);rw [this] at q;cases q
   refine ⟨1,?_⟩;rw [Zv,hv,cond_false,hs,q,cond_false,Zm]
end
theorem v5t {l:List R6}: ∀(k i:Nat),okF l k i=false→(eF l k i != 0)=true
 | 0,i,h=>by cases h
 | k+1,i,h=>by
  unfold okF at h;unfold eF;rcases Yf (v0q l (rd (D6.cuts l) i)) with q | q
  ·rw [q,cond_true];exact q
  ·rw [q,cond_false] at h ⊢;exact v5t k (i+1) h
def Ku (l:List R6):Int:=bif decide (400<l.length) then 4 else bif l.all z0m then (bif okF l ((D6.cuts l).length - 1) 0 then y7l (D6.out l).length else eF l ((D6.cuts l).length - 1) 0) else 8
def Xi (l:List R6):List R6:=y9k (Ku l) (D6.out l)
def z5r (l:List R6):Bool:=true
theorem u1i (l:List R6) (h:z5r l=true): ∃n,Yv (Xz l) n (y0k l)=.ret (y2g (Ku l) (D6.out l)):=by
 unfold y0k Ku;by_cases h:400<l.length
 ·refine ⟨0,?_⟩;rw [decide_eq_true h,Ye (show (l.length:Int)>400 by omega)];rfl
 ·obtain ⟨n,hn⟩:=v7a l (by omega) l.length 0 (Nat.zero_add _) (fun s hs=>by simp at hs);refine ⟨n,?_⟩;rw [decide_eq_false h,Xv (show¬(l.length:Int)>400 by omega),cond_false,cond_false];rw [z5l] at hn;rw [hn];rcases Yf (l.all z0m) with q | q
  ·rw [q,cond_true,cond_true];rcases Yf (okF l ((D6.cuts l).length - 1) 0) with q2 | q2
   ·rw [q2,cond_true,cond_true,z7d];rfl
   ·rw [q2,cond_false,cond_false,z1m _ (v5t _ _ q2)];rfl
  ·rw [q];rfl
def fSlm :List AVal→Option (AVal×Bool)
 | [a0]=>match asL R6 a0 with
  | some (L0,g0,n0)=>some (.tup [.dat (Xi L0).length (Zz (Xi L0)),.int .i64 (Ku L0)],isT R6 n0 g0&&(z5r L0))
  | _=>none
 | _=>none
theorem u5d {S:Specs} (hS:Zu prog S):Zu prog (S.with w7n fSlm):=by
 refine w9m hS (by kernel_rfl) fun args v h=> ?_;unfold fSlm at h;split at h
 ·rename_i a0;split at h
  ·rename_i L0 g0 n0 e0;simp only [Option.some.injEq,Prod.mk.injEq,Bool.and_eq_true] at h;obtain ⟨rfl,ho0,hw⟩:=h;obtain ⟨N,hN⟩:=u1i L0 hw;exact ⟨_,_,(.cons (asL_le e0 ho0) .nil),z3s _ _,v1t L0 N _ hN,3,z7t _ _⟩
  ·cases h
 ·cases h
def fFin :List AVal→Option (AVal×Bool)
 | [.agg [.int .i64 aV,.int .i64 aW,.int .i64 aX]]=>some (.bool (w9j aV aW aX),true)
 | _=>none
theorem u5w {S:Specs} (hS:Zu prog S):Zu prog (S.with v9b fFin):=by
 refine z3g hS (by kernel_rfl) fun args v h=> ?_;unfold fFin at h;split at h
 ·rename_i aV aW aX;simp only [Option.some.injEq,Prod.mk.injEq,and_true] at h;subst h;obtain ⟨N,hN⟩:=u4u aV aW aX;exact ⟨_,_,(.cons (.refl _) .nil),rfl,v5i aV aW aX N _ hN,3,rfl⟩
 ·cases h
def fEqq :List AVal→Option (AVal×Bool)
 | [a0,a1]=>match asL R7 a0,asL R7 a1 with
  | some (L0,g0,n0),some (L1,g1,n1)=>some (.bool (y5w L0 L1),isT R7 n0 g0&&(isT R7 n1 g1&&(z1i L0 L1)))
  | _,_=>none
 | _=>none
theorem u5x {S:Specs} (hS:Zu prog S):Zu prog (S.with nEq7 fEqq):=by
 refine z3g hS (by kernel_rfl) fun args v h=> ?_;unfold fEqq at h;split at h
 ·rename_i a0 a1;split at h
  ·rename_i L0 g0 n0 L1 g1 n1 e0 e1;simp only [Option.some.injEq,Prod.mk.injEq,Bool.and_eq_true] at h;obtain ⟨rfl,ho0,ho1,hw⟩:=h;obtain ⟨N,hN⟩:=u6b L0 L1 hw;exact ⟨_,_,(.cons (asL_le e0 ho0) (.cons (asL_le e1 ho1) .nil)),rfl,v5o L0 L1 N _ hN,3,rfl⟩
  ·cases h
 ·cases h
def Mg :Specs:=(((Me.with v9b fFin).with nEq7 fEqq).with w7n fSlm)
theorem z2e :Zu prog Mg:=(u5d (u5x (u5w Un)))
end Go.Am
namespace Go.Am
open Go.Proofs.Tryz
open Go.Proofs
-- h0: index into an array (choices [true, false, false, false, false, false, false])
inductive mckS where
 | h0 (v14:Int)
def mckC (l0:List R7):mckS→Cfg
 | .h0 v14=>⟨⟨70,0,true⟩,none,(Zd prog 24 [1,1,1,0,1,0,0] 0),none,(Zy prog 3),⟨Ya [(3,(.ptr 0 0)),(12,(.dat l0.length (Zz l0))),(13,(ii (l0.length:Int))),(14,(ii v14))],Uq [⟨[(.fn 105 []),(.fn 106 []),(.fn 107 []),(.fn 108 []),(.fn 109 []),(.fn 110 []),(.fn 111 []),(.fn 112 []),(.fn 113 [])],85,none⟩] 0,1,[],true⟩,[],.leaf⟩
def v4k :List (Option (List Nat)):=[some [3,12,13,14]]
def v4l :List (Option (List Nat)):=[]
def z5a (l0:List R7):mckS→Xf mckS
 | .h0 v14=>(bif (decide (v14<(l0.length:Int))) then (bif ((decide (0≤v14∧v14<(l0.length:Int)))&&true) then (bif (decide ((rd l0 v14.toNat).a >5)) then (.ret [(.int .i64 8)]) else (bif (!(w9j (rd l0 v14.toNat).b (rd l0 v14.toNat).c (rd l0 v14.toNat).d)) then (.ret [(.int .i64 8)]) else (bif (!(w9j (rd l0 v14.toNat).e (rd l0 v14.toNat).f (rd l0 v14.toNat).g)) then (.ret [(.int .i64 8)]) else (bif (decide ((IntKind.wrap IntKind.u8 (Int.tdiv (rd l0 v14.toNat).a 2))=Int.ofNat 0)) then (bif ((rd l0 v14.toNat).b != (rd l0 v14.toNat).e) then (.ret [(.int .i64 8)]) else (bif (decide ((rd l0 v14.toNat).c ≥(rd l0 v14.toNat).f)) then (.ret [(.int .i64 8)]) else (bif (decide ((rd l0 v14.toNat).d ≥(rd l0 v14.toNat).g)) then (.ret [(.int .i64 8)]) else (.to (.h0 (IntKind.wrap .i64 (v14+1))))))) else (bif (decide ((IntKind.wrap IntKind.u8 (Int.tdiv (rd l0 v14.toNat).a 2))=Int.ofNat 1)) then (bif ((rd l0 v14.toNat).c != (rd l0 v14.toNat).f) then (.ret [(.int .i64 8)]) else (bif (decide ((rd l0 v14.toNat).b ≥(rd l0 v14.toNat).e)) then (.ret [(.int .i64 8)]) else (bif (decide ((rd l0 v14.toNat).d ≥(rd l0 v14.toNat).g)) then (.ret [(.int .i64 8)]) else (.to (.h0 (IntKind.wrap .i64 (v14+1))))))) else (bif (decide ((IntKind.wrap IntKind.u8 (Int.tdiv (rd l0 v14.toNat).a 2))=Int.ofNat 2)) then (bif ((rd l0 v14.toNat).d != (rd l0 v14.toNat).g) then (.ret [(.int .i64 8)]) else (bif (decide ((rd l0 v14.toNat).b ≥(rd l0 v14.toNat).e)) then (.ret [(.int .i64 8)]) else (bif (decide ((rd l0 v14.toNat).c ≥(rd l0 v14.toNat).f)) then (.ret [(.int .i64 8)]) else (.to (.h0 (IntKind.wrap .i64 (v14+1))))))) else .stuck)))))) else .stuck) else (.ret [(.int .i64 0)]))
def y1b (l0:List R7):Xf mckS:=(bif (decide ((l0.length:Int)>3000)) then (.ret [(.int .i64 4)]) else (.to (.h0 0)))
theorem w2o (l0:List R7): ∀s,Xj prog (Zy prog 24) (mckC l0) (mckC l0 s) (z5a l0 s)
 | .h0 v14=>(lb (fun k0=>(lo fun aG=>(lb (fun k1=>(lr 70 24 [1,1,1,0,1,0,0,1,1,0,0,1,0,1,0,0] 1 3 [(2,(ii 8))] (sl z2e 40 [] ⟨[],[],[some [2]],[]⟩ ⟨[],[],[]⟩ (trs 10 []) (tt k1 (ww aG (tt k0 nn)))))) (fun k1=>(lb (fun k2=>(lr 70 24 [1,1,1,0,1,0,0,1,1,0,0,1,0,1,0,0] 1 3 [(2,(ii 8))] (sl z2e 40 [] ⟨[],[],[some [2]],[]⟩ ⟨[],[],[]⟩ (bl 10 993) (tt k2 (tt k1 (ww aG (tt k0 nn))))))) (fun k2=>(lb (fun k3=>(lr 70 24 [1,1,1,0,1,0,0,1,1,0,0,1,0,1,0,0] 1 3 [(2,(ii 8))] (sl z2e 40 [] ⟨[],[],[some [2]],[]⟩ ⟨[],[],[]⟩ (bl 10 513) (tt k3 (tt k2 (tt k1 (ww aG (tt k0 nn)))))))) (fun k3=>(lb (fun k4=>(lb (fun k5=>(lr 70 24 [1,1,1,0,1,0,0,1,1,0,0,1,1,1,1,1,0,0] 1 3 [(2,(ii 8))] (sl z2e 124 [] ⟨[],[],[some [2]],[]⟩ ⟨[],[],[]⟩ (bl 22 4192257) (tt k5 (ww k4 (tt k3 (tt k2 (tt k1 (ww aG (tt k0 nn)))))))))) (fun k5=>(lb (fun k6=>(lr 70 24 [1,1,1,0,1,0,0,1,1,0,0,1,1,1,1,1,0,0] 1 3 [(2,(ii 8))] (sl z2e 124 [] ⟨[],[],[some [2]],[]⟩ ⟨[],[],[]⟩ (bl 22 4128769) (tt k6 (tt k5 (ww k4 (tt k3 (tt k2 (tt k1 (ww aG (tt k0 nn))))))))))) (fun k6=>(lb (fun k7=>(lr 70 24 [1,1,1,0,1,0,0,1,1,0,0,1,1,1,1,1,0,0] 1 3 [(2,(ii 8))] (sl z2e 124 [] ⟨[],[],[some [2]],[]⟩ ⟨[],[],[]⟩ (bl 22 2097153) (tt k7 (tt k6 (tt k5 (ww k4 (tt k3 (tt k2 (tt k1 (ww aG (tt k0 nn)))))))))))) (fun k7=>(sl z2e 127 [] ⟨[0],[],v4k,v4l⟩ ⟨[],[],[]⟩ (bl 22 1) (tt k7 (tt k6 (tt k5 (ww k4 (tt k3 (tt k2 (tt k1 (ww aG (tt k0 nn))))))))))))))))) (fun k4=>(lb (fun k5=>(lb (fun k6=>(lr 70 24 [1,1,1,0,1,0,0,1,1,0,0,1,1,1,1,1,0,0] 1 3 [(2,(ii 8))] (sl z2e 124 [] ⟨[],[],[some [2]],[]⟩ ⟨[],[],[]⟩ (bl 23 8385537) (tt k6 (ww k5 (tt k3 (tt k2 (tt k1 (ww aG (tt k0 nn)))))))))) (fun k6=>(lb (fun k7=>(lr 70 24 [1,1,1,0,1,0,0,1,1,0,0,1,1,1,1,1,0,0] 1 3 [(2,(ii 8))] (sl z2e 124 [] ⟨[],[],[some [2]],[]⟩ ⟨[],[],[]⟩ (bl 23 8258561) (tt k7 (tt k6 (ww k5 (tt k3 (tt k2 (tt k1 (ww aG (tt k0 nn))))))))))) (fun k7=>(lb (fun k8=>(lr 70 24 [1,1,1,0,1,0,0,1,1,0,0,1,1,1,1,1,0,0] 1 3 [(2,(ii 8))] (sl z2e 124 [] ⟨[],[],[some [2]],[]⟩ ⟨[],[],[]⟩ (bl 23 4195329) (tt k8 (tt k7 (tt k6 (ww k5 (tt k3 (tt k2 (tt k1 (ww aG (tt k0 nn)))))))))))) (fun k8=>(sl z2e 127 [] ⟨[0],[],v4k,v4l⟩ ⟨[],[],[]⟩ (bl 23 1025) (tt k8 (tt k7 (tt k6 (ww k5 (tt k3 (tt k2 (tt k1 (ww aG (tt k0 nn))))))))))))))))) (fun k5=>(lb (fun k6=>(lb (fun k7=>(lr 70 24 [1,1,1,0,1,0,0,1,1,0,0,1,1,1,1,1,0,0] 1 3 [(2,(ii 8))] (sl z2e 124 [] ⟨[],[],[some [2]],[]⟩ ⟨[],[],[]⟩ (bl 24 16772097) (tt k7 (ww k6 (tt k3 (tt k2 (tt k1 (ww aG (tt k0 nn)))))))))) (fun k7=>(lb (fun k8=>(lr 70 24 [1,1,1,0,1,0,0,1,1,0,0,1,1,1,1,1,0,0] 1 3 [(2,(ii 8))] (sl z2e 124 [] ⟨[],[],[some [2]],[]⟩ ⟨[],[],[]⟩ (bl 24 16518145) (tt k8 (tt k7 (ww k6 (tt k3 (tt k2 (tt k1 (ww aG (tt k0 nn))))))))))) (fun k8=>(lb (fun k9=>(lr 70 24 [1,1,1,0,1,0,0,1,1,0,0,1,1,1,1,1,0,0] 1 3 [(2,(ii 8))] (sl z2e 124 [] ⟨[],[],[some [2]],[]⟩ ⟨[],[],[]⟩ (bl 24 8391681) (tt k9 (tt k8 (tt k7 (ww k6 (tt k3 (tt k2 (tt k1 (ww aG (tt k0 nn)))))))))))) (fun k9=>(sl z2e 127 [] ⟨[0],[],v4k,v4l⟩ ⟨[],[],[]⟩ (bl 24 3073) (tt k9 (tt k8 (tt k7 (ww k6 (tt k3 (tt k2 (tt k1 (ww aG (tt k0 nn))))))))))))))))) (fun k6=>trivial)))))))))))))) (fun k0=>(lr 70 3 [1,1,1,1,1,1,1,0] 1 3 [(2,(ii 0))] (sl z2e 11 [] ⟨[],[],[some [2]],[]⟩ ⟨[],[],[]⟩ [false] (tt k0 nn)))))
theorem x5s (l0:List R7):Xj prog (Zy prog 24) (mckC l0) (Ze prog 24 [(.dat l0.length (Zz l0))] true []) (y1b l0):=(lb (fun k0=>(lr 70 24 [1,0,1,0,0] 1 3 [(2,(ii 4))] (sl z2e 16 [] ⟨[],[],[some [2]],[]⟩ ⟨[],[],[]⟩ [true] (tt k0 nn)))) (fun k0=>(sl z2e 41 [] ⟨[1],[],v4k,v4l⟩ ⟨[],[],[]⟩ [false] (tt k0 nn))))
theorem v4j (l0:List R7) (n:Nat) (vs:List AVal) (h:Yv (z5a l0) n (y1b l0)=.ret vs):Ky prog (Zy prog 24) (Ze prog 24 [(.dat l0.length (Zz l0))] true []) vs:=by have:=Zr (w2o l0) n _ (x5s l0);rwa [h] at this
end Go.Am
namespace Go.Am
open Go.Proofs.Tryz
open Go.Proofs Go.Sort Go.Shelf Go.RowKit Go.Lib
def w4v (r:R7):Bool:=decide (r.a≤5)&&(w9j r.b r.c r.d&&(w9j r.e r.f r.g&&
 (bif decide (r.a<2) then (r.b == r.e)&&(decide (r.c<r.f)&&decide (r.d<r.g)) else bif decide (r.a<4) then (r.c == r.f)&&(decide (r.b<r.e)&&decide (r.d<r.g)) else (r.d == r.g)&&(decide (r.b<r.e)&&decide (r.c<r.f)))))
def w2p (L:List R7):Int:=bif decide (3000<L.length) then 4 else bif L.all w4v then 0 else 8
def Qg (L:List R7):Bool:=L.all fun r=>decide (0≤r.a)&&decide (r.a<256)
theorem w8z (a b:Int):decide (a≥b)= !decide (a<b):=by
 by_cases h:a<b
 ·rw [decide_eq_true h];exact decide_eq_false (by omega)
 ·rw [decide_eq_false h];exact decide_eq_true (by omega)
theorem u0u {a:Int} (h0:0≤a) (h5:a≤5):IntKind.wrap IntKind.u8 (Int.tdiv a 2)=(if a<2 then 0 else if a<4 then 1 else 2):=by
 have:a=0∨a=1∨a=2∨a=3∨a=4∨a=5:=by omega
 rcases this with rfl | rfl | rfl | rfl | rfl | rfl <;> rfl
theorem v9r (L:List R7) (hl:L.length≤3000) (ho:Qg L=true): ∀(k i:Nat),i+k=L.length→ ∃N,Yv (z5a L) N (.to (.h0 (i:Int)))=.ret [.int .i64 (bif (L.drop i).all w4v then 0 else 8)]
 | 0,i,h=>by refine ⟨1,?_⟩;rw [Zv,List.drop_eq_nil_of_le (by omega)];simp (disch:=omega) only [z5a,Yw,cond_false];rfl
 | k +1,i,h=>by
  have hi:i<L.length:=by omega
  obtain ⟨N,hN⟩:=v9r L hl ho k (i+1) (by omega);have hb:0≤(rd L i).a ∧(rd L i).a <256:=by
   have:=List.all_eq_true.1 ho (rd L i) (by rw [Xu hi];exact List.getElem_mem hi)
   simpa using this
  refine ⟨N+1,?_⟩;rw [Zv,Yp hi,List.all_cons];have e:z5a L (.h0 (i:Int))=bif w4v (rd L i) then .to (.h0 ((i+1:Nat):Int)) else .ret [.int .i64 8]:=by
   have hw:IntKind.wrap .i64 ((i:Int)+1)=((i+1:Nat):Int):=Zk (by omega);simp (disch:=omega) only [z5a,Zt,Yz,hw,Zj,Bool.and_true,cond_true];unfold w4v;by_cases h5:(rd L i).a ≤5
   ·rw [Xv (by omega),Xh h5,cond_false,u0u hb.1 h5];cases w9j (rd L i).b (rd L i).c (rd L i).d <;> cases w9j (rd L i).e (rd L i).f (rd L i).g <;> try rfl
    by_cases h2:(rd L i).a <2
    ·rw [if_pos h2,Zt h2];simp only [w8z,bne];cases ((rd L i).b == (rd L i).e) <;> cases decide ((rd L i).c <(rd L i).f) <;> cases decide ((rd L i).d <(rd L i).g) <;> rfl
    ·rw [if_neg h2,Yw h2];by_cases h4:(rd L i).a <4
     ·rw [if_pos h4,Zt h4];simp only [w8z,bne];cases ((rd L i).c == (rd L i).f) <;> cases decide ((rd L i).b <(rd L i).e) <;> cases decide ((rd L i).d <(rd L i).g) <;> rfl
     ·rw [if_neg h4,Yw h4];simp only [w8z,bne];cases ((rd L i).d == (rd L i).g) <;> cases decide ((rd L i).b <(rd L i).e) <;> cases decide ((rd L i).c <(rd L i).f) <;> rfl
   ·rw [Ye (by omega),x6y h5];rfl
  rw [e];rcases Yf (w4v (rd L i)) with q | q
  ·rw [q,cond_true,Bool.true_and];exact hN
  ·rw [q,cond_false,Bool.false_and];exact Zm _ _ _
theorem u4b (L:List R7) (h:Qg L=true): ∃N,Yv (z5a L) N (y1b L)=.ret [.int .i64 (w2p L)]:=by
 unfold y1b w2p;by_cases g:3000<L.length
 ·refine ⟨0,?_⟩;rw [Ye (by omega),decide_eq_true g];rfl
 ·obtain ⟨N,hN⟩:=v9r L (by omega) h L.length 0 (Nat.zero_add _);refine ⟨N,?_⟩;rw [Xv (by omega),decide_eq_false g];exact hN
def fMck :List AVal→Option (AVal×Bool)
 | [a0]=>match asL R7 a0 with
  | some (L0,g0,n0)=>some (.int .i64 (w2p L0),isT R7 n0 g0&&(Qg L0))
  | _=>none
 | _=>none
theorem u5r {S:Specs} (hS:Zu prog S):Zu prog (S.with w7t fMck):=by
 refine z3g hS (by kernel_rfl) fun args v h=> ?_;unfold fMck at h;split at h
 ·rename_i a0;split at h
  ·rename_i L0 g0 n0 e0;simp only [Option.some.injEq,Prod.mk.injEq,Bool.and_eq_true] at h;obtain ⟨rfl,ho0,hw⟩:=h;obtain ⟨N,hN⟩:=u4b L0 hw;exact ⟨_,_,(.cons (asL_le e0 ho0) .nil),rfl,v4j L0 N _ hN,3,rfl⟩
  ·cases h
 ·cases h
def Mh :Specs:=(Mg.with w7t fMck)
theorem Kg :Zu prog Mh:=(u5r z2e)
end Go.Am
namespace Go.Am
open Go.Proofs.Tryz
open Go.Proofs
-- h2: index into an array (choices [true, true, true, false, false])
inductive msoS where
 | h0 (v6:List Int) (v39:Int)
 | h1 (bP:Nat) (v9:List R6) (v10:List R4) (bM:Nat) (v59:Int) (v60:Int) (aY:List Int)
 | h2 (bP:Nat) (v9:List R6) (v10:List R4) (v11:Int) (v12:Int) (bM:Nat) (v59:Int) (v60:Int) (v67:Int) (aY:List Int) (aA:List R4) (aI:List R4)
 | h3 (bP:Nat) (v9:List R6) (v10:List R4) (v11:Int) (v12:Int) (bM:Nat) (v59:Int) (v60:Int) (v132:List R4) (v133:Int) (v134:Int) (aY:List Int)
def msoC (l0:List R7):msoS→Cfg
 | .h0 v6 v39=>⟨⟨186,0,true⟩,none,(Zd prog 22 [1,1,1,1,0,1,0,0] 0),none,(Zy prog 15),⟨Ya [(0,(.dat l0.length (Zz l0))),(5,(.ptr 0 0)),(6,(.sla 1 1 0 v6.length (.un 1))),(37,(.dat l0.length (Zz l0))),(38,(ii (l0.length:Int))),(39,(ii v39))],Uq [⟨[(.fn 111 []),(.fn 112 []),(.fn 113 [])],84,none⟩,⟨rows v6.length (Zz v6),3,some ⟨1,v6.length,(Zz v6)⟩⟩] 0,2,[],true⟩,[],.leaf⟩
 | .h1 bP v9 v10 bM v59 v60 aY=>⟨⟨186,0,true⟩,none,(Zd prog 22 [1,1,1,1,1,1,1,1,1,0,1,0,0] 0),none,(Zy prog 15),⟨Ya [(0,(.dat l0.length (Zz l0))),(5,(.ptr 0 0)),(6,(.sla 1 1 0 bP (.un 1))),(9,(.sla 2 6 0 v9.length (.un 6))),(10,(.dat v10.length (Zz v10))),(58,(.sla 1 1 0 bM (.un 1))),(59,(ii v59)),(60,(ii v60))],Uq [⟨[(.fn 111 []),(.fn 112 []),(.fn 113 [])],84,none⟩,⟨rows aY.length (Zz aY),3,some ⟨1,aY.length,(Zz aY)⟩⟩,⟨rows v9.length (Zz v9),67,some ⟨6,v9.length,(Zz v9)⟩⟩] 0,3,[],true⟩,[],.leaf⟩
 | .h2 bP v9 v10 v11 v12 bM v59 v60 v67 aY aA aI=>⟨⟨186,0,true⟩,none,(Zd prog 22 [1,1,1,1,1,1,1,1,1,0,1,0,0,1,1,0,0,1,1,0,1,0,0] 0),none,(Zy prog 15),⟨Ya [(0,(.dat l0.length (Zz l0))),(5,(.ptr 0 0)),(6,(.sla 1 1 0 bP (.un 1))),(9,(.sla 5 6 0 v9.length (.un 6))),(10,(.dat v10.length (Zz v10))),(11,(ii v11)),(12,(ii v12)),(13,(.ptr 2 0)),(58,(.sla 1 1 0 bM (.un 1))),(59,(ii v59)),(60,(ii v60)),(65,(.dat l0.length (Zz l0))),(66,(ii (l0.length:Int))),(67,(ii v67))],Uq [⟨[(.fn 111 []),(.fn 112 []),(.fn 113 [])],84,none⟩,⟨rows aY.length (Zz aY),3,some ⟨1,aY.length,(Zz aY)⟩⟩,⟨[(.sla 3 4 0 aA.length (.un 4)),(.sla 4 4 0 aI.length (.un 4))],101,none⟩,⟨rows aA.length (Zz aA),88,some ⟨4,aA.length,(Zz aA)⟩⟩,⟨rows aI.length (Zz aI),88,some ⟨4,aI.length,(Zz aI)⟩⟩,⟨rows v9.length (Zz v9),67,some ⟨6,v9.length,(Zz v9)⟩⟩] 0,6,[],true⟩,[],.leaf⟩
 | .h3 bP v9 v10 v11 v12 bM v59 v60 v132 v133 v134 aY=>⟨⟨186,0,true⟩,none,(Zd prog 22 [1,1,1,1,1,1,1,1,1,0,1,0,0,1,1,0,0,1,1,1,1,1,1,1,1,1,1,0,0] 0),none,(Zy prog 15),⟨Ya [(0,(.dat l0.length (Zz l0))),(5,(.ptr 0 0)),(6,(.sla 1 1 0 bP (.un 1))),(9,(.sla 2 6 0 v9.length (.un 6))),(10,(.dat v10.length (Zz v10))),(11,(ii v11)),(12,(ii v12)),(58,(.sla 1 1 0 bM (.un 1))),(59,(ii v59)),(60,(ii v60)),(132,(.dat v132.length (Zz v132))),(133,(ii v133)),(134,(ii v134))],Uq [⟨[(.fn 111 []),(.fn 112 []),(.fn 113 [])],84,none⟩,⟨rows aY.length (Zz aY),3,some ⟨1,aY.length,(Zz aY)⟩⟩,⟨rows v9.length (Zz v9),67,some ⟨6,v9.length,(Zz v9)⟩⟩] 0,3,[],true⟩,[],.leaf⟩
def u3h :List (Option (List Nat)):=[some [0,5,6,37,38,39]]
def u3j :List (Option (List Nat)):=[]
def msoN1 :List (Option (List Nat)):=[some [0,5,6,9,10,58,59,60]]
def msoM1 :List (Option (List Nat)):=[]
def w7v :List (Option (List Nat)):=[some [0,5,6,9,10,11,12,13,58,59,60,65,66,67]]
def w7w :List (Option (List Nat)):=[]
def u3g :List (Option (List Nat)):=[some [0,5,6,9,10,11,12,58,59,60,132,133,134]]
def u3i :List (Option (List Nat)):=[]
def Wv (l0:List R7):msoS→Xf msoS
 | .h0 v6 v39=>(bif (decide (v39<(l0.length:Int))) then (bif ((decide (0≤v39∧v39<(l0.length:Int)))&&true) then (bif ((IntKind.wrap IntKind.u8 (Int.tdiv (rd l0 v39.toNat).a 2)) == 2) then (bif (Nat.beq 1 1&&((decide (0+v6.length=v6.length))&&decide ((v6.length+1+1)*(8+1)≤Ur))) then (.to (.h0 (v6++[(rd l0 v39.toNat).d]) (IntKind.wrap .i64 (v39+1)))) else .stuck) else (.to (.h0 v6 (IntKind.wrap .i64 (v39+1))))) else .stuck) else (bif (decide (v6.length<4611686018427387904)) then (bif (decide (v6.length=v6.length)) then (.to (.h1 (w4n (Zc v6.length (cOf (Zz (Yh (Zc v6.length (cOf (Zz v6)))))))) ([]:List R6) ([]:List R4) (w4n (Zc v6.length (cOf (Zz (Yh (Zc v6.length (cOf (Zz v6)))))))) (((w4n (Zc v6.length (cOf (Zz (Yh (Zc v6.length (cOf (Zz v6)))))))):Nat):Int) 0 (Wz (Zc v6.length (cOf (Zz (Yh (Zc v6.length (cOf (Zz v6)))))))))) else .stuck) else .stuck))
 | .h1 bP v9 v10 bM v59 v60 aY=>(bif (decide (v60<v59)) then (bif ((decide (0≤v60∧v60<((bM:Nat):Int)))&&true) then (bif (decide ((0+v60.toNat)<aY.length)) then (.to (.h2 bP v9 v10 v60 (rd aY (0+v60.toNat)) bM v59 v60 0 aY ([]:List R4) ([]:List R4))) else .stuck) else .stuck) else (bif (z5r (cvT v9)) then (bif ((Ku (cvT v9)) != 0) then (.ret [.nils,(.int .i64 28)]) else (bif (z0u (cvT (Xi (cvT v9)))) then (bif ((z3b (cvT (Xi (cvT v9)))) != 0) then (.ret [.nils,(.int .i64 28)]) else (bif (z1i (cvT (Jv (cvT (Xi (cvT v9))))) (cvT l0)) then (bif (!(y5w (cvT (Jv (cvT (Xi (cvT v9))))) (cvT l0))) then (.ret [.nils,(.int .i64 28)]) else (.ret [(.dat (Xi (cvT v9)).length (Zz (Xi (cvT v9)))),(.int .i64 0)])) else .stuck)) else .stuck)) else .stuck))
 | .h2 bP v9 v10 v11 v12 bM v59 v60 v67 aY aA aI=>(bif (decide (v67<(l0.length:Int))) then (bif ((decide (0≤v67∧v67<(l0.length:Int)))&&true) then (bif ((IntKind.wrap IntKind.u8 (Int.tdiv (rd l0 v67.toNat).a 2)) == 2) then (bif ((rd l0 v67.toNat).d == v12) then (bif (decide ((Int.tmod (rd l0 v67.toNat).a 2)=Int.ofNat 0)) then (bif (Nat.beq 4 4&&((decide (0+aA.length=aA.length))&&decide ((aA.length+1+1)*(32+1)≤Ur))) then (.to (.h2 bP v9 v10 v11 v12 bM v59 v60 (IntKind.wrap .i64 (v67+1)) aY (aA++[(R4.mk (rd l0 v67.toNat).b (rd l0 v67.toNat).c (rd l0 v67.toNat).e (rd l0 v67.toNat).f)]) aI)) else .stuck) else (bif (decide ((Int.tmod (rd l0 v67.toNat).a 2)=Int.ofNat 1)) then (bif (Nat.beq 4 4&&((decide (0+aI.length=aI.length))&&decide ((aI.length+1+1)*(32+1)≤Ur))) then (.to (.h2 bP v9 v10 v11 v12 bM v59 v60 (IntKind.wrap .i64 (v67+1)) aY aA (aI++[(R4.mk (rd l0 v67.toNat).b (rd l0 v67.toNat).c (rd l0 v67.toNat).e (rd l0 v67.toNat).f)]))) else .stuck) else .stuck)) else (.to (.h2 bP v9 v10 v11 v12 bM v59 v60 (IntKind.wrap .i64 (v67+1)) aY aA aI))) else (.to (.h2 bP v9 v10 v11 v12 bM v59 v60 (IntKind.wrap .i64 (v67+1)) aY aA aI))) else .stuck) else (bif (Vs (cvT aA)) then (bif (Vs (cvT aI)) then (bif ((Kh .d) (cvT v10) (cvT (Zg (cvT aA)))) then (bif ((Kh .u) (cvT ((Vz .d) (cvT v10) (cvT (Zg (cvT aA))))) (cvT (Zg (cvT aI)))) then (bif ((Xp (cvT aA)) != 0) then (.ret [.nils,(.int .i64 28)]) else (bif ((Xp (cvT aI)) != 0) then (.ret [.nils,(.int .i64 28)]) else (bif (((x0x .d) (cvT v10) (cvT (Zg (cvT aA)))) != 0) then (.ret [.nils,(.int .i64 28)]) else (bif (((x0x .u) (cvT ((Vz .d) (cvT v10) (cvT (Zg (cvT aA))))) (cvT (Zg (cvT aI)))) != 0) then (.ret [.nils,(.int .i64 28)]) else (.to (.h3 bP v9 ((Vz .u) (cvT ((Vz .d) (cvT v10) (cvT (Zg (cvT aA))))) (cvT (Zg (cvT aI)))) v11 v12 bM v59 v60 ((Vz .u) (cvT ((Vz .d) (cvT v10) (cvT (Zg (cvT aA))))) (cvT (Zg (cvT aI)))) ((((Vz .u) (cvT ((Vz .d) (cvT v10) (cvT (Zg (cvT aA))))) (cvT (Zg (cvT aI)))).length :Nat):Int) 0 aY)))))) else .stuck) else .stuck) else .stuck) else .stuck))
 | .h3 bP v9 v10 v11 v12 bM v59 v60 v132 v133 v134 aY=>(bif (decide (v134<v133)) then (bif ((decide (0≤v134∧v134<(v132.length:Int)))&&true) then (bif (decide ((IntKind.wrap .i64 (v11+1))<((bP:Nat):Int))) then (bif ((decide (0≤(IntKind.wrap .i64 (v11+1))∧(IntKind.wrap .i64 (v11+1))<((bP:Nat):Int)))&&true) then (bif (decide ((0+(Int.toNat (IntKind.wrap .i64 (v11+1))))<aY.length)) then (bif (Nat.beq 6 6&&((decide (0+v9.length=v9.length))&&decide ((v9.length+1+1)*(48+1)≤Ur))) then (.to (.h3 bP (v9++[(R6.mk (rd v132 v134.toNat).a (rd v132 v134.toNat).b v12 (rd v132 v134.toNat).c (rd v132 v134.toNat).d (rd aY (0+(Int.toNat (IntKind.wrap .i64 (v11+1))))))]) v10 v11 v12 bM v59 v60 v132 v133 (IntKind.wrap .i64 (v134+1)) aY)) else .stuck) else .stuck) else .stuck) else (.to (.h3 bP v9 v10 v11 v12 bM v59 v60 v132 v133 (IntKind.wrap .i64 (v134+1)) aY))) else .stuck) else (.to (.h1 bP v9 v10 bM v59 (IntKind.wrap .i64 (v60+1)) aY)))
def y0w (l0:List R7):Xf msoS:=(bif (Qg (cvT l0)) then (bif ((w2p (cvT l0)) != 0) then (.ret [.nils,(.int .i64 (w2p (cvT l0)))]) else (.to (.h0 ([]:List Int) 0))) else .stuck)
theorem w2g (l0:List R7): ∀s,Xj prog (Zy prog 22) (msoC l0) (msoC l0 s) (Wv l0 s)
 | .h0 v6 v39=>(lb (fun k0=>(lo fun aG=>(lb (fun k1=>(lo fun o0=>(sl Kg 39 [] ⟨[0,4],[],u3h,u3j⟩ ⟨[(6,.len (v6++[(rd l0 (tn v39)).d]).length)],[.keep,.rowed 1 (v6++[(rd l0 (tn v39)).d]).length (Zz (v6++[(rd l0 (tn v39)).d]))],[]⟩ (bl 2 3) (pp (xL (v6.length+1) (v6++[(rd l0 (tn v39)).d]).length) (pp (xL (v6.length+1) (v6++[(rd l0 (tn v39)).d]).length) (pp (xS (v6.length+1) (Zh (Zz v6) 0 v6.length 1 [(ii (rd l0 (tn v39)).d)]) (Zz (v6++[(rd l0 (tn v39)).d]))) (pp (pp (xF (Zh (Zz v6) 0 v6.length 1 [(ii (rd l0 (tn v39)).d)])) nn) (ww o0 (tt k1 (ww aG (tt k0 nn))))))))))) (fun k1=>(sl Kg 31 [] ⟨[0,1],[],u3h,u3j⟩ ⟨[],[],[]⟩ (bl 2 1) (pp (fl v6 nn) (tt k1 (ww aG (tt k0 nn))))))))) (fun k0=>(lo fun o0=>(lo fun o1=>(sl Kg 35 [(67,6,Zz ([]:List R6))] ⟨[0,1,2],[],msoN1,msoM1⟩ ⟨[(9,.grow 2 6),(10,.list 0 (Zz ([]:List R4)))],[.keep,.rowed 1 (Wz (Zc v6.length (cOf (Zz (Yh (Zc v6.length (cOf (Zz v6)))))))).length (Zz (Wz (Zc v6.length (cOf (Zz (Yh (Zc v6.length (cOf (Zz v6))))))))),.keep],[]⟩ [false] (pp (xL v6.length (Wz (Zc v6.length (cOf (Zz (Yh (Zc v6.length (cOf (Zz v6)))))))).length (by first | exact z0w _ _ | exact Wi rfl)) (pp (xS v6.length (Zz (Wz (Zc v6.length (cOf (Zz (Yh (Zc v6.length (cOf (Zz v6))))))))) (Zz (Wz (Zc v6.length (cOf (Zz (Yh (Zc v6.length (cOf (Zz v6)))))))))) (pp (fl (Wz (Zc v6.length (cOf (Zz (Yh (Zc v6.length (cOf (Zz v6)))))))) (fl ([]:List R6) nn)) (pp (pp (xG (Nat.beq 1 1)) (pp (xG (Nat.beq 1 1)) (pp (xG (Nat.beq 0 0)) (pp (xG (decide (v6.length=v6.length))) (pp (xG (isI (Zz (Yh (Zc v6.length (cOf (Zz v6))))))) (xG (decide (v6.length<4611686018427387904)))))))) (pp (pp (xG (Nat.beq 1 1)) (pp (xG (Nat.beq 1 1)) (pp (xG (Nat.beq 0 0)) (pp (xG (decide (v6.length=v6.length))) (pp (xG (isI (Zz v6))) (xG (decide (v6.length<4611686018427387904)))))))) (tt k0 nn)))))))))))
 | .h1 bP v9 v10 bM v59 v60 aY=>(lb (fun k0=>(lo fun o0=>(lo fun o1=>(sl Kg 30 [(88,4,Zz ([]:List R4)),(88,4,Zz ([]:List R4))] ⟨[0,1,3,4,5,2],[],w7v,w7w⟩ ⟨[],[.keep,.keep,.cells [.grow 3 4,.grow 4 4],.keep,.keep,.keep],[]⟩ [true] (pp (fl aY (fl ([]:List R4) (fl ([]:List R4) (fl v9 nn)))) (ww o1 (ww o0 (tt k0 nn)))))))) (fun k0=>(We (sl Kg (C':=⟨⟨186,0,true⟩,(Up prog 22 [1,1,1,1,1,1,1,1,1,1,0] 1),(Zd prog 22 [1,1,1,1,1,1,1,1,1,1,0] 1),none,(Zy prog 15),⟨Ya [(0,(.dat l0.length (Zz l0))),(166,(.dat v9.length (Zz v9)))],Uq [] 0,0,[],true⟩,[],.leaf⟩) 10 [] ⟨[],[2],[some [0,166]],[]⟩ ⟨[(166,.frz v9.length v9.length (Zz v9) (Zz v9))],[],[]⟩ [false] (pp (xZ (z5d 6 6 0 v9.length v9.length (Zz v9)) v9.length (Zz v9)) (pp (xL v9.length v9.length) (pp (xS v9.length (Zz v9) (Zz v9)) (pp (fl v9 nn) (tt k0 nn)))))) (lo fun aG=>(lb (fun k1=>(lr 186 22 [1,1,1,1,1,1,1,1,1,1,1,0,1,0,0] 1 15 [(2,.nils),(3,(ii 28))] (sl Kg 19 [] ⟨[],[],[some [2,3]],[]⟩ ⟨[],[],[]⟩ [true] (tt k1 (pp (pp (xr v9) (xw aG)) nn))))) (fun k1=>(lo fun cA=>(lb (fun k2=>(lr 186 22 [1,1,1,1,1,1,1,1,1,1,1,1,0,1,1,0,0] 1 15 [(2,.nils),(3,(ii 28))] (sl Kg 43 [] ⟨[],[],[some [2,3]],[]⟩ ⟨[],[],[]⟩ (bl 6 62) (tt k2 (pp (pp (xI R6 (Xi (cvT v9)).length (Zz (Xi (cvT v9)))) (xw cA)) (tt k1 (pp (pp (xr v9) (xw aG)) nn))))))) (fun k2=>(lo fun cB=>(lb (fun k3=>(lr 186 22 [1,1,1,1,1,1,1,1,1,1,1,1,0,1,1,0,0] 1 15 [(2,.nils),(3,(ii 28))] (sl Kg 43 [] ⟨[],[],[some [2,3]],[]⟩ ⟨[],[],[]⟩ (bl 6 32) (tt k3 (pp (pp (xI R7 (Jv (cvT (Xi (cvT v9)))).length (Zz (Jv (cvT (Xi (cvT v9)))))) (pp (xr l0) (xw cB))) (tt k2 (pp (pp (xI R6 (Xi (cvT v9)).length (Zz (Xi (cvT v9)))) (xw cA)) (tt k1 (pp (pp (xr v9) (xw aG)) nn))))))))) (fun k3=>(lr 186 3 [1,1,1,1,1,1,1,0] 1 15 [(2,(.dat (Xi (cvT v9)).length (Zz (Xi (cvT v9))))),(3,(ii 0))] (sl Kg 45 [] ⟨[],[],[some [2,3]],[]⟩ ⟨[],[],[]⟩ (bl 6 0) (tt k3 (pp (pp (xI R7 (Jv (cvT (Xi (cvT v9)))).length (Zz (Jv (cvT (Xi (cvT v9)))))) (pp (xr l0) (xw cB))) (tt k2 (pp (pp (xI R6 (Xi (cvT v9)).length (Zz (Xi (cvT v9)))) (xw cA)) (tt k1 (pp (pp (xr v9) (xw aG)) nn))))))))))))))))))))
 | .h2 bP v9 v10 v11 v12 bM v59 v60 v67 aY aA aI=>(lb (fun k0=>(lo fun aG=>(lb (fun k1=>(lb (fun k2=>(lb (fun k3=>(lo fun o0=>(sl Kg 38 [] ⟨[0,1,2,14,4,5],[],w7v,w7w⟩ ⟨[],[.keep,.keep,.cells [.len (aA++[(R4.mk (rd l0 (tn v67)).b (rd l0 (tn v67)).c (rd l0 (tn v67)).e (rd l0 (tn v67)).f)]).length,.keep],.rowed 4 (aA++[(R4.mk (rd l0 (tn v67)).b (rd l0 (tn v67)).c (rd l0 (tn v67)).e (rd l0 (tn v67)).f)]).length (Zz (aA++[(R4.mk (rd l0 (tn v67)).b (rd l0 (tn v67)).c (rd l0 (tn v67)).e (rd l0 (tn v67)).f)])),.keep,.keep],[]⟩ (trs 7 (bl 2 0)) (pp (xL (aA.length+1) (aA++[(R4.mk (rd l0 (tn v67)).b (rd l0 (tn v67)).c (rd l0 (tn v67)).e (rd l0 (tn v67)).f)]).length) (pp (xL (aA.length+1) (aA++[(R4.mk (rd l0 (tn v67)).b (rd l0 (tn v67)).c (rd l0 (tn v67)).e (rd l0 (tn v67)).f)]).length) (pp (xS (aA.length+1) (Zh (Zz aA) 0 aA.length 4 [(ii (rd l0 (tn v67)).b),(ii (rd l0 (tn v67)).c),(ii (rd l0 (tn v67)).e),(ii (rd l0 (tn v67)).f)]) (Zz (aA++[(R4.mk (rd l0 (tn v67)).b (rd l0 (tn v67)).c (rd l0 (tn v67)).e (rd l0 (tn v67)).f)]))) (pp (fl aY (pp (xF (Zh (Zz aA) 0 aA.length 4 [(ii (rd l0 (tn v67)).b),(ii (rd l0 (tn v67)).c),(ii (rd l0 (tn v67)).e),(ii (rd l0 (tn v67)).f)])) (fl aI (fl v9 nn)))) (ww k3 (ww o0 (ww k3 (tt k2 (tt k1 (ww aG (tt k0 nn)))))))))))))) (fun k3=>(lb (fun k4=>(lo fun o0=>(sl Kg 38 [] ⟨[0,1,2,3,14,5],[],w7v,w7w⟩ ⟨[],[.keep,.keep,.cells [.keep,.len (aI++[(R4.mk (rd l0 (tn v67)).b (rd l0 (tn v67)).c (rd l0 (tn v67)).e (rd l0 (tn v67)).f)]).length],.keep,.rowed 4 (aI++[(R4.mk (rd l0 (tn v67)).b (rd l0 (tn v67)).c (rd l0 (tn v67)).e (rd l0 (tn v67)).f)]).length (Zz (aI++[(R4.mk (rd l0 (tn v67)).b (rd l0 (tn v67)).c (rd l0 (tn v67)).e (rd l0 (tn v67)).f)])),.keep],[]⟩ (trs 8 (bl 3 2)) (pp (xL (aI.length+1) (aI++[(R4.mk (rd l0 (tn v67)).b (rd l0 (tn v67)).c (rd l0 (tn v67)).e (rd l0 (tn v67)).f)]).length) (pp (xL (aI.length+1) (aI++[(R4.mk (rd l0 (tn v67)).b (rd l0 (tn v67)).c (rd l0 (tn v67)).e (rd l0 (tn v67)).f)]).length) (pp (xS (aI.length+1) (Zh (Zz aI) 0 aI.length 4 [(ii (rd l0 (tn v67)).b),(ii (rd l0 (tn v67)).c),(ii (rd l0 (tn v67)).e),(ii (rd l0 (tn v67)).f)]) (Zz (aI++[(R4.mk (rd l0 (tn v67)).b (rd l0 (tn v67)).c (rd l0 (tn v67)).e (rd l0 (tn v67)).f)]))) (pp (fl aY (fl aA (pp (xF (Zh (Zz aI) 0 aI.length 4 [(ii (rd l0 (tn v67)).b),(ii (rd l0 (tn v67)).c),(ii (rd l0 (tn v67)).e),(ii (rd l0 (tn v67)).f)])) (fl v9 nn)))) (ww k4 (ww o0 (ww k4 (tt k2 (tt k1 (ww aG (tt k0 nn)))))))))))))) (fun k4=>trivial))))) (fun k2=>(sl Kg 38 [] ⟨(List.range 6),[],w7v,w7w⟩ ⟨[],[],[]⟩ (trs 6 [false]) (pp (fl aY (fl aA (fl aI (fl v9 nn)))) (tt k2 (tt k1 (ww aG (tt k0 nn))))))))) (fun k1=>(sl Kg 38 [] ⟨(List.range 6),[],w7v,w7w⟩ ⟨[],[],[]⟩ (bl 7 1) (pp (fl aY (fl aA (fl aI (fl v9 nn)))) (tt k1 (ww aG (tt k0 nn))))))))) (fun k0=>(We (sl Kg (C':=⟨⟨186,0,true⟩,(Up prog 22 [1,1,1,1,1,1,1,1,1,0,1,0,0,1,1,0,0,1,1,1,0] 2),(Zd prog 22 [1,1,1,1,1,1,1,1,1,0,1,0,0,1,1,0,0,1,1,1,0] 1),none,(Zy prog 15),⟨Ya [(0,(.dat l0.length (Zz l0))),(5,(.ptr 0 0)),(6,(.sla 1 1 0 bP (.un 1))),(9,(.sla 2 6 0 v9.length (.un 6))),(10,(.dat v10.length (Zz v10))),(11,(ii v11)),(12,(ii v12)),(13,(.ptr 3 0)),(58,(.sla 1 1 0 bM (.un 1))),(59,(ii v59)),(60,(ii v60)),(102,(.dat aA.length (Zz aA)))],Uq [⟨[(.fn 111 []),(.fn 112 []),(.fn 113 [])],84,none⟩,⟨rows aY.length (Zz aY),3,some ⟨1,aY.length,(Zz aY)⟩⟩,⟨rows v9.length (Zz v9),67,some ⟨6,v9.length,(Zz v9)⟩⟩,⟨[(.dat aA.length (Zz aA)),(.sla 4 4 0 aI.length (.un 4))],101,none⟩,⟨rows aI.length (Zz aI),88,some ⟨4,aI.length,(Zz aI)⟩⟩] 0,5,[],true⟩,[],.leaf⟩) 11 [] ⟨[0,1,5,2,4],[3],[some [0,5,6,9,10,11,12,13,58,59,60,102]],[]⟩ ⟨[(102,.frz aA.length aA.length (Zz aA) (Zz aA))],[.keep,.keep,.keep,.cells [.frz aA.length aA.length (Zz aA) (Zz aA),.keep],.keep],[]⟩ [false] (pp (xZ (z5d 4 4 0 aA.length aA.length (Zz aA)) aA.length (Zz aA)) (pp (xL aA.length aA.length) (pp (xS aA.length (Zz aA) (Zz aA)) (pp (xZ (z5d 4 4 0 aA.length aA.length (Zz aA)) aA.length (Zz aA)) (pp (xL aA.length aA.length) (pp (xS aA.length (Zz aA) (Zz aA)) (pp (fl aY (fl v9 (fl aI nn))) (pp (fl aA nn) (tt k0 nn)))))))))) (lo fun q1_0=>(We (sl Kg (C':=⟨⟨186,0,true⟩,(Up prog 22 [1,1,1,1,1,1,1,1,1,0,1,0,0,1,1,0,0,1,1,1,1,0] 2),(Zd prog 22 [1,1,1,1,1,1,1,1,1,0,1,0,0,1,1,0,0,1,1,1,1,0] 1),none,(Zy prog 15),⟨Ya [(0,(.dat l0.length (Zz l0))),(5,(.ptr 0 0)),(6,(.sla 1 1 0 bP (.un 1))),(9,(.sla 2 6 0 v9.length (.un 6))),(10,(.dat v10.length (Zz v10))),(11,(ii v11)),(12,(ii v12)),(16,(.dat (Zg (cvT aA)).length (Zz (Zg (cvT aA))))),(17,(ii (Xp (cvT aA)))),(58,(.sla 1 1 0 bM (.un 1))),(59,(ii v59)),(60,(ii v60)),(108,(.dat aI.length (Zz aI)))],Uq [⟨[(.fn 111 []),(.fn 112 []),(.fn 113 [])],84,none⟩,⟨rows aY.length (Zz aY),3,some ⟨1,aY.length,(Zz aY)⟩⟩,⟨rows v9.length (Zz v9),67,some ⟨6,v9.length,(Zz v9)⟩⟩] 0,3,[],true⟩,[],.leaf⟩) 11 [] ⟨[0,1,2],[4],[some [0,5,6,9,10,11,12,16,17,58,59,60,108]],[]⟩ ⟨[(108,.frz aI.length aI.length (Zz aI) (Zz aI))],[],[]⟩ [] (pp (xZ (z5d 4 4 0 aI.length aI.length (Zz aI)) aI.length (Zz aI)) (pp (xL aI.length aI.length) (pp (xS aI.length (Zz aI) (Zz aI)) (pp (fl aY (fl v9 nn)) (pp (fl aI nn) (pp (pp (xr aA) (xw q1_0)) nn))))))) (lo fun aG=>(lo fun bB=>(lo fun bZ=>(lb (fun k1=>(lr 186 22 [1,1,1,1,1,1,1,1,1,0,1,0,0,1,1,0,0,1,1,1,1,1,1,1,0,1,0,0] 1 15 [(2,.nils),(3,(ii 28))] (sl Kg 91 [] ⟨[],[],[some [2,3]],[]⟩ ⟨[],[],[]⟩ (trs 3 []) (tt k1 (tt k1 (pp (pp (xI R4 ((Vz .d) (cvT v10) (cvT (Zg (cvT aA)))).length (Zz ((Vz .d) (cvT v10) (cvT (Zg (cvT aA)))))) (pp (xI R4 (Zg (cvT aI)).length (Zz (Zg (cvT aI)))) (xw bZ))) (pp (pp (xr v10) (pp (xI R4 (Zg (cvT aA)).length (Zz (Zg (cvT aA)))) (xw bB))) (pp (pp (xr aI) (xw aG)) nn)))))))) (fun k1=>(lb (fun k2=>(lr 186 22 [1,1,1,1,1,1,1,1,1,0,1,0,0,1,1,0,0,1,1,1,1,1,1,1,0,1,0,0] 1 15 [(2,.nils),(3,(ii 28))] (sl Kg 120 [] ⟨[],[],[some [2,3]],[]⟩ ⟨[],[],[]⟩ (bl 5 29) (tt k2 (tt k2 (tt k1 (pp (pp (xI R4 ((Vz .d) (cvT v10) (cvT (Zg (cvT aA)))).length (Zz ((Vz .d) (cvT v10) (cvT (Zg (cvT aA)))))) (pp (xI R4 (Zg (cvT aI)).length (Zz (Zg (cvT aI)))) (xw bZ))) (pp (pp (xr v10) (pp (xI R4 (Zg (cvT aA)).length (Zz (Zg (cvT aA)))) (xw bB))) (pp (pp (xr aI) (xw aG)) nn))))))))) (fun k2=>(lb (fun k3=>(lr 186 22 [1,1,1,1,1,1,1,1,1,0,1,0,0,1,1,0,0,1,1,1,1,1,1,1,0,1,0,0] 1 15 [(2,.nils),(3,(ii 28))] (sl Kg 149 [] ⟨[],[],[some [2,3]],[]⟩ ⟨[],[],[]⟩ (bl 7 117) (tt k3 (tt k3 (tt k2 (tt k1 (pp (pp (xI R4 ((Vz .d) (cvT v10) (cvT (Zg (cvT aA)))).length (Zz ((Vz .d) (cvT v10) (cvT (Zg (cvT aA)))))) (pp (xI R4 (Zg (cvT aI)).length (Zz (Zg (cvT aI)))) (xw bZ))) (pp (pp (xr v10) (pp (xI R4 (Zg (cvT aA)).length (Zz (Zg (cvT aA)))) (xw bB))) (pp (pp (xr aI) (xw aG)) nn)))))))))) (fun k3=>(lb (fun k4=>(lr 186 22 [1,1,1,1,1,1,1,1,1,0,1,0,0,1,1,0,0,1,1,1,1,1,1,1,0,1,0,0] 1 15 [(2,.nils),(3,(ii 28))] (sl Kg 178 [] ⟨[],[],[some [2,3]],[]⟩ ⟨[],[],[]⟩ (bl 9 469) (tt k4 (tt k4 (tt k3 (tt k2 (tt k1 (pp (pp (xI R4 ((Vz .d) (cvT v10) (cvT (Zg (cvT aA)))).length (Zz ((Vz .d) (cvT v10) (cvT (Zg (cvT aA)))))) (pp (xI R4 (Zg (cvT aI)).length (Zz (Zg (cvT aI)))) (xw bZ))) (pp (pp (xr v10) (pp (xI R4 (Zg (cvT aA)).length (Zz (Zg (cvT aA)))) (xw bB))) (pp (pp (xr aI) (xw aG)) nn))))))))))) (fun k4=>(sl Kg 201 [] ⟨[0,1,2],[],u3g,u3i⟩ ⟨[],[],[]⟩ (bl 10 85) (pp (fl aY (fl v9 nn)) (tt k4 (tt k3 (tt k2 (tt k1 (pp (pp (xI R4 ((Vz .d) (cvT v10) (cvT (Zg (cvT aA)))).length (Zz ((Vz .d) (cvT v10) (cvT (Zg (cvT aA)))))) (pp (xI R4 (Zg (cvT aI)).length (Zz (Zg (cvT aI)))) (xw bZ))) (pp (pp (xr v10) (pp (xI R4 (Zg (cvT aA)).length (Zz (Zg (cvT aA)))) (xw bB))) (pp (pp (xr aI) (xw aG)) nn)))))))))))))))))))))))))
 | .h3 bP v9 v10 v11 v12 bM v59 v60 v132 v133 v134 aY=>(lb (fun k0=>(lo fun aG=>(lb (fun k1=>(lo fun o0=>(lo fun o1=>(lo fun o2=>(sl Kg 32 [] ⟨[0,1,5],[],u3g,u3i⟩ ⟨[(9,.len (v9++[(R6.mk (rd v132 (tn v134)).a (rd v132 (tn v134)).b v12 (rd v132 (tn v134)).c (rd v132 (tn v134)).d (rd aY (0+(tn (wr (v11+1))))))]).length)],[.keep,.keep,.rowed 6 (v9++[(R6.mk (rd v132 (tn v134)).a (rd v132 (tn v134)).b v12 (rd v132 (tn v134)).c (rd v132 (tn v134)).d (rd aY (0+(tn (wr (v11+1))))))]).length (Zz (v9++[(R6.mk (rd v132 (tn v134)).a (rd v132 (tn v134)).b v12 (rd v132 (tn v134)).c (rd v132 (tn v134)).d (rd aY (0+(tn (wr (v11+1))))))]))],[]⟩ (bl 2 3) (pp (xL (v9.length+1) (v9++[(R6.mk (rd v132 (tn v134)).a (rd v132 (tn v134)).b v12 (rd v132 (tn v134)).c (rd v132 (tn v134)).d (rd aY (0+(tn (wr (v11+1))))))]).length) (pp (xL (v9.length+1) (v9++[(R6.mk (rd v132 (tn v134)).a (rd v132 (tn v134)).b v12 (rd v132 (tn v134)).c (rd v132 (tn v134)).d (rd aY (0+(tn (wr (v11+1))))))]).length) (pp (xS (v9.length+1) (Zh (Zz v9) 0 v9.length 6 [(ii (rd v132 (tn v134)).a),(ii (rd v132 (tn v134)).b),(ii v12),(ii (rd v132 (tn v134)).c),(ii (rd v132 (tn v134)).d),(ii (rd aY (0+(tn (wr (v11+1))))))]) (Zz (v9++[(R6.mk (rd v132 (tn v134)).a (rd v132 (tn v134)).b v12 (rd v132 (tn v134)).c (rd v132 (tn v134)).d (rd aY (0+(tn (wr (v11+1))))))]))) (pp (fl aY (pp (xF (Zh (Zz v9) 0 v9.length 6 [(ii (rd v132 (tn v134)).a),(ii (rd v132 (tn v134)).b),(ii v12),(ii (rd v132 (tn v134)).c),(ii (rd v132 (tn v134)).d),(ii (rd aY (0+(tn (wr (v11+1))))))])) nn)) (ww o2 (ww o1 (ww o0 (tt k1 (ww aG (tt k0 nn))))))))))))))) (fun k1=>(sl Kg 32 [] ⟨[0,1,2],[],u3g,u3i⟩ ⟨[],[],[]⟩ (bl 2 1) (pp (fl aY (fl v9 nn)) (tt k1 (ww aG (tt k0 nn))))))))) (fun k0=>(sl Kg 13 [] ⟨[0,1,2],[],msoN1,msoM1⟩ ⟨[],[],[]⟩ [false] (pp (fl aY (fl v9 nn)) (tt k0 nn)))))
theorem x5j (l0:List R7):Xj prog (Zy prog 22) (msoC l0) (Ze prog 22 [(.dat l0.length (Zz l0))] true []) (y0w l0):=(lo fun bU=>(lb (fun k0=>(lr 186 22 [1,0,1,1,0,0] 1 15 [(2,.nils),(3,(ii (w2p (cvT l0))))] (sl Kg 24 [] ⟨[],[],[some [2,3]],[]⟩ ⟨[],[],[]⟩ [true] (tt k0 (pp (pp (xr l0) (xw bU)) nn))))) (fun k0=>(sl Kg 52 [(3,1,Zz ([]:List Int))] ⟨[1,2],[],u3h,u3j⟩ ⟨[(6,.grow 1 1)],[],[]⟩ [false] (pp (fl ([]:List Int) nn) (tt k0 (pp (pp (xr l0) (xw bU)) nn)))))))
theorem v3w (l0:List R7) (n:Nat) (vs:List AVal) (h:Yv (Wv l0) n (y0w l0)=.ret vs):Ky prog (Zy prog 22) (Ze prog 22 [(.dat l0.length (Zz l0))] true []) vs:=by have:=Zr (w2g l0) n _ (x5j l0);rwa [h] at this
end Go.Am
namespace Go.Am
open Go.Proofs.Tryz
open Go.Proofs Go.Sort Go.Shelf Go.RowKit Go.Lib
def zQ (d:Int) (l:List R7) (z:Int):List R4:=(l.filter fun r=>decide (r.a=d)&&decide (r.d=z)).map fun r=>⟨r.b,r.c,r.e,r.f⟩
def zsQ (l:List R7):List Int:=(l.filter fun r=>decide (4≤r.a)).map (·.d)
def plZ (l:List R7):List Int:=Ug (zsQ l)
def pz6 (z z':Int) (t:R4):R6:=⟨t.a,t.b,z,t.c,t.d,z'⟩
def u6s (now e b:List R4):Bool:=(Xp e != 0)||((Xp b != 0)||((rgE .d now (Zg e) != 0)||(rgE .u (Vz .d now (Zg e)) (Zg b) != 0)))
def y8r (now e b:List R4):List R4:=Vz .u (Vz .d now (Zg e)) (Zg b)
def goP (l:List R7):List Int→List R4→List R6→Option (List R6)
 | [],_,bx=>some bx
 | z::r,now,bx=>bif u6s now (zQ 4 l z) (zQ 5 l z) then none else
  goP l r (y8r now (zQ 4 l z) (zQ 5 l z)) (bx++match r with
   | []=>[]
   | z'::_=>(y8r now (zQ 4 l z) (zQ 5 l z)).map (pz6 z z'))
def finE (l:List R7) (bx:List R6):Int:=bif Ku bx != 0 then 28 else bif z3b (Xi bx) != 0 then 28 else bif !(y5w (Jv (Xi bx)) l) then 28 else 0
def msoE (l:List R7):Int:=bif w2p l != 0 then w2p l else match goP l (plZ l) [] [] with
 | none=>28
 | some bx=>finE l bx
def msoL (l:List R7):List R6:=match goP l (plZ l) [] [] with
 | none=>[]
 | some bx=>Xi bx
def x1q (l:List R7):Int:=msoE l
def z0d (l:List R7):List R6:=y9k (msoE l) (msoL l)
def y2o (l:List R7):Bool:=Qg l
theorem y5c (l:List R7):(zsQ l).length ≤l.length:=by unfold zsQ;rw [List.length_map];exact List.length_filter_le _ _
theorem x0i (d:Int) (l:List R7) (z:Int):(zQ d l z).length ≤l.length:=by unfold zQ;rw [List.length_map];exact List.length_filter_le _ _
theorem Wc (d:Int) (l m:List R7) (z:Int):zQ d (l++m) z=zQ d l z++zQ d m z:=by unfold zQ;rw [List.filter_append,List.map_append]
theorem w0o (l m:List R7):zsQ (l++m)=zsQ l++zsQ m:=by unfold zsQ;rw [List.filter_append,List.map_append]
theorem v4i {l:List R7} (h:w2p l=0):l.length≤3000∧ ∀r∈l,w4v r=true:=by
 unfold w2p at h;by_cases g:3000<l.length
 ·rw [decide_eq_true g] at h;cases h
 ·rw [decide_eq_false g,cond_false] at h;cases q:l.all w4v with
  | false=>rw [q] at h;cases h
  | true=>exact ⟨by omega,List.all_eq_true.1 q⟩
theorem val7_a {r:R7} (h:w4v r=true):r.a≤5:=by unfold w4v at h;simp only [Bool.and_eq_true,decide_eq_true_eq] at h;exact h.1
theorem u1j (l:List R6):(Xi l).length ≤400:=by
 unfold Xi y9k;cases g:(Ku l != 0) with
 | true=>exact Nat.zero_le _
 | false=>
  rw [cond_false];have h:Ku l=0:=by simpa using g
  unfold Ku at h;cases g1:decide (400<l.length) with
  | true=>rw [g1] at h;cases h
  | false=>
   cases g2:l.all z0m with
   | false=>rw [g1,g2] at h;cases h
   | true=>
    rw [g1,g2,cond_false,cond_true] at h;cases g3:okF l ((D6.cuts l).length - 1) 0 with
    | false=>rw [g3,cond_false] at h;have:=v5t _ _ g3;rw [h] at this;cases this
    | true=>rw [g3,cond_true] at h;exact y9o h
theorem u3r {L:List R6}:(Jv L).length ≤3000:=by
 unfold Jv y9k;cases g:(v9o L != 0) with
 | true=>exact Nat.zero_le _
 | false=>
  rw [cond_false];have h:v9o L=0:=by simpa using g
  unfold v9o at h;refine Classical.byContradiction fun hn=> ?_;rw [show decide (((Qe L).length :Int)>3000)=true from decide_eq_true (by omega)] at h;revert h;have z: ∀(e x:Int),x≠0→(bif e != 0 then e else x)≠0:=fun e x hx=>by
   cases q:(e != 0) with
   | true=>rw [cond_true];simpa using q
   | false=>rw [cond_false];exact hx
  exact z _ _ (z _ _ (z _ _ (z _ _ (z _ _ (z _ _ (by decide))))))
theorem six {a:Int} (h0:0≤a) (h5:a≤5):((IntKind.wrap IntKind.u8 (Int.tdiv a 2)) == 2)=decide (4≤a)∧decide (Int.tmod a 2=Int.ofNat 0)=decide (a=0∨a=2∨a=4)∧decide (Int.tmod a 2=Int.ofNat 1)=decide (a=1∨a=3∨a=5):=by
 have:a=0∨a=1∨a=2∨a=3∨a=4∨a=5:=by omega
 rcases this with rfl | rfl | rfl | rfl | rfl | rfl <;> exact ⟨rfl,rfl,rfl⟩
section
variable (l:List R7) (hl:l.length≤3000) (ha: ∀i,i<l.length→0≤(rd l i).a ∧(rd l i).a ≤5)
include hl ha
theorem v9k : ∀(k i:Nat) (acc:List Int),i+k=l.length→acc.length≤i→zsQ l=acc++zsQ (l.drop i)→
  ∃n,∀N,Yv (Wv l) (N+n) (.to (.h0 acc (i:Int)))=Yv (Wv l) N (.to (.h1 (plZ l).length [] [] (plZ l).length ((plZ l).length :Int) 0 (Wz (Yh (zsQ l)))))
 | 0,i,acc,h,h',e=>by have _u:=ha;rw [List.drop_eq_nil_of_le (by omega),show zsQ []=[] from rfl,List.append_nil] at e;subst e;refine ⟨1,fun N=> ?_⟩;rw [Zv];simp (disch:=omega) only [Wv,Wg,Qx,z8o,Yw,Yu,Yk,decide_true,cond_true,cond_false];rfl
 | k+1,i,acc,h,h',e=>by
  have hi:i<l.length:=by omega
  obtain ⟨b0,b5⟩:=ha i hi;obtain ⟨s1,_,_⟩:=six b0 b5;have e2:zsQ l=(acc++zsQ [rd l i])++zsQ (l.drop (i+1)):=by rw [List.append_assoc,←w0o,e,Yp hi];rfl
  obtain ⟨n,hn⟩:=v9k k (i+1) (acc++zsQ [rd l i]) (by omega) (by have:=y5c [rd l i];simp only [List.length_append,List.length_singleton] at*;omega) e2;refine ⟨n+1,fun N=> ?_⟩;rw [←Nat.add_assoc,Zv,←hn N];by_cases h4:4≤(rd l i).a
  ·rw [show zsQ [rd l i]=[(rd l i).d] by unfold zsQ;rw [List.filter_cons,if_pos (decide_eq_true h4)];rfl];rw [decide_eq_true h4] at s1;simp (disch:=omega) only [Wv,s1,Za,Zq,Zt,Yz,Yg,Yu,Yk,Zi,Zk,Zx,Yq,Zj,Nat.zero_add,decide_true,Bool.and_true,Bool.true_and,cond_true,cond_false]
  ·rw [show zsQ [rd l i]=[] by unfold zsQ;rw [List.filter_cons,if_neg (by simp [h4])];rfl,List.append_nil];rw [decide_eq_false h4] at s1;simp (disch:=omega) only [Wv,s1,Za,Zq,Zt,Yz,Yg,Yu,Yk,Zi,Zk,Zx,Yq,Zj,Nat.zero_add,decide_true,Bool.and_true,Bool.true_and,cond_true,cond_false]
theorem v9i (n6:Nat) (bx:List R6) (now:List R4) (v11 z:Int) (n58:Nat) (v59 v60:Int) (P:List Int): ∀(k j:Nat) (e b:List R4),j+k=l.length→e.length≤j→b.length≤j→zQ 4 l z=e++zQ 4 (l.drop j) z→zQ 5 l z=b++zQ 5 (l.drop j) z→
  ∃n,∀N,Yv (Wv l) (N+n) (.to (.h2 n6 bx now v11 z n58 v59 v60 (j:Int) P e b))=Yv (Wv l) N (bif u6s now (zQ 4 l z) (zQ 5 l z) then .ret [.nils,.int .i64 28] else
   .to (.h3 n6 bx (y8r now (zQ 4 l z) (zQ 5 l z)) v11 z n58 v59 v60 (y8r now (zQ 4 l z) (zQ 5 l z)) ((y8r now (zQ 4 l z) (zQ 5 l z)).length :Int) 0 P))
 | 0,j,e,b,h,h1,h2,e4,e5=>by
  have _u:=ha;rw [List.drop_eq_nil_of_le (by omega),show∀d,zQ d [] z=[] from fun _=>rfl,List.append_nil] at e4 e5;refine ⟨1,fun N=> ?_⟩;rw [Zv,e4,e5];have o1: ∀x,Vs x=true:=fun _=>rfl;have o2: ∀q x y,Kh q x y=true:=fun _ _ _=>rfl;simp (disch:=omega) only [Wv,Yw,Za,o1,o2,cond_true,cond_false,u6s,y8r,x0x]
  congr 1
  cases (Xp e != 0) <;> cases (Xp b != 0) <;> cases (rgE .d now (Zg e) != 0) <;> cases (rgE .u (Vz .d now (Zg e)) (Zg b) != 0) <;> rfl
 | k +1,j,e,b,h,h1,h2,e4,e5=>by
  have hj:j<l.length:=by omega
  obtain ⟨b0,b5⟩:=ha j hj;obtain ⟨s1,s2,s3⟩:=six b0 b5;have f4:zQ 4 l z=(e++zQ 4 [rd l j] z)++zQ 4 (l.drop (j+1)) z:=by rw [List.append_assoc,←Wc,e4,Yp hj];rfl
  have f5:zQ 5 l z=(b++zQ 5 [rd l j] z)++zQ 5 (l.drop (j+1)) z:=by rw [List.append_assoc,←Wc,e5,Yp hj];rfl
  obtain ⟨n,hn⟩:=v9i n6 bx now v11 z n58 v59 v60 P k (j+1) (e++zQ 4 [rd l j] z) (b++zQ 5 [rd l j] z) (by omega)
   (by have:=x0i 4 [rd l j] z;simp only [List.length_append,List.length_singleton] at*;omega) (by have:=x0i 5 [rd l j] z;simp only [List.length_append,List.length_singleton] at*;omega) f4 f5
  refine ⟨n+1,fun N=> ?_⟩;rw [←Nat.add_assoc,Zv,←hn N];have no: ∀d,¬((rd l j).a =d∧(rd l j).d =z)→zQ d [rd l j] z=[]:=fun d hn=>by unfold zQ;rw [List.filter_cons,if_neg (by simpa using hn)];rfl
  have ye: ∀d,((rd l j).a =d∧(rd l j).d =z)→zQ d [rd l j] z=[⟨(rd l j).b,(rd l j).c,(rd l j).e,(rd l j).f⟩]:=fun d hy=>by unfold zQ;rw [List.filter_cons,if_pos (by simpa using hy)];rfl
  by_cases h4:4≤(rd l j).a
  ·rw [decide_eq_true h4] at s1;by_cases hz:(rd l j).d =z
   ·have hzb:((rd l j).d == z)=true:=(by simpa using hz);by_cases h44:(rd l j).a =4
    ·replace s2:=s2.trans (decide_eq_true (p:=(rd l j).a =0∨(rd l j).a =2∨(rd l j).a =4) (by omega))
     rw [ye 4 ⟨h44,hz⟩,no 5 (by omega),List.append_nil];simp (disch:=omega) only [Wv,s1,s2,hzb,Za,Zq,Zt,Yz,Yg,Yu,Yk,Zi,Zk,Zx,Yq,Zj,Nat.zero_add,decide_true,Bool.and_true,Bool.true_and,cond_true,cond_false]
    ·replace s2:=s2.trans (decide_eq_false (p:=(rd l j).a =0∨(rd l j).a =2∨(rd l j).a =4) (by omega))
     replace s3:=s3.trans (decide_eq_true (p:=(rd l j).a =1∨(rd l j).a =3∨(rd l j).a =5) (by omega))
     rw [ye 5 ⟨by omega,hz⟩,no 4 (by omega),List.append_nil];simp (disch:=omega) only [Wv,s1,s2,s3,hzb,Za,Zq,Zt,Yz,Yg,Yu,Yk,Zi,Zk,Zx,Yq,Zj,Nat.zero_add,decide_true,Bool.and_true,Bool.true_and,cond_true,cond_false]
   ·have hzb:((rd l j).d == z)=false:=(by simpa using hz);rw [no 5 (fun g=>hz g.2),no 4 (fun g=>hz g.2),List.append_nil,List.append_nil];simp (disch:=omega) only [Wv,s1,hzb,Za,Zq,Zt,Yz,Yg,Yu,Yk,Zi,Zk,Zx,Yq,Zj,Nat.zero_add,decide_true,Bool.and_true,Bool.true_and,cond_true,cond_false]
  ·rw [decide_eq_false h4] at s1;rw [no 5 (by omega),no 4 (by omega),List.append_nil,List.append_nil];simp (disch:=omega) only [Wv,s1,Za,Zq,Zt,Yz,Yg,Yu,Yk,Zi,Zk,Zx,Yq,Zj,Nat.zero_add,decide_true,Bool.and_true,Bool.true_and,cond_true,cond_false]
theorem w7u (n6:Nat) (hn6:n6≤3000) (now:List R4) (i:Nat) (hi:i<n6) (z:Int) (v59:Int) (R:List R4) (hR:R.length≤400) (P:List Int) (hP:n6≤P.length): ∀(k j:Nat) (bx:List R6),j+k=R.length→bx.length≤2000000+j→
  ∃n,∀N,Yv (Wv l) (N+n) (.to (.h3 n6 bx now (i:Int) z n6 v59 (i:Int) R (R.length:Int) (j:Int) P))=Yv (Wv l) N (.to (.h1 n6 (bx++bif decide (i+1<n6) then (R.drop j).map (pz6 z (rd P (i+1))) else []) now n6 v59 ((i+1:Nat):Int) P))
 | 0,j,bx,h,h'=>by have _u:=ha;have _v:=hl;refine ⟨1,fun N=> ?_⟩;rw [List.drop_eq_nil_of_le (by omega),List.map_nil,show (bif decide (i+1<n6) then ([]:List R6) else [])=[] by cases decide (i+1<n6) <;> rfl,List.append_nil,Zv];simp (disch:=omega) only [Wv,Yw,Zk,Zx,cond_false]
 | k+1,j,bx,h,h'=>by
  have hj:j<R.length:=by omega
  have ew:IntKind.wrap .i64 ((i:Int)+1)=((i+1:Nat):Int):=by rw [Zk (by omega)];exact Zx i
  by_cases g:i+1<n6
  ·obtain ⟨n,hn⟩:=w7u n6 hn6 now i hi z v59 R hR P hP k (j+1) (bx++[pz6 z (rd P (i+1)) (rd R j)]) (by omega) (by simp only [List.length_append,List.length_singleton];omega);refine ⟨n+1,fun N=> ?_⟩;rw [decide_eq_true g,cond_true] at hn;rw [decide_eq_true g,cond_true,Yp hj,List.map_cons,←Nat.add_assoc,Zv,show bx++pz6 z (rd P (i+1)) (rd R j)::(R.drop (j+1)).map (pz6 z (rd P (i+1)))=(bx++[pz6 z (rd P (i+1)) (rd R j)])++(R.drop (j+1)).map (pz6 z (rd P (i+1))) by simp,←hn N];simp (disch:=omega) only [Wv,ew,Za,Zq,Zt,Yz,Yg,Yu,Yk,Zi,Zk,Zx,Yq,Zj,Nat.zero_add,decide_true,Bool.and_true,Bool.true_and,cond_true,cond_false];rfl
  ·obtain ⟨n,hn⟩:=w7u n6 hn6 now i hi z v59 R hR P hP k (j+1) bx (by omega) (by omega);refine ⟨n+1,fun N=> ?_⟩;rw [decide_eq_false g,cond_false] at hn;rw [decide_eq_false g,cond_false,←Nat.add_assoc,Zv,←hn N];simp (disch:=omega) only [Wv,ew,Yw,Za,Zq,Zt,Yz,Zk,Zx,Zj,Bool.and_true,cond_true,cond_false]
def resR (l:List R7):Option (List R6)→List AVal
 | none=>[.nils,.int .i64 28]
 | some bx=>y2g (finE l bx) (Xi bx)
theorem v9j : ∀(k i:Nat) (now:List R4) (bx:List R6),i+k=(plZ l).length →bx.length≤400*i→
  ∃n,Yv (Wv l) n (.to (.h1 (plZ l).length bx now (plZ l).length ((plZ l).length :Int) (i:Int) (Wz (Yh (zsQ l)))))=.ret (resR l (goP l ((plZ l).drop i) now bx))
 | 0,i,now,bx,h,hb=>by have _u:=ha;have _v:=hl;rw [List.drop_eq_nil_of_le (show (plZ l).length ≤i by omega)];have o2:z0u (Xi bx)=true:=decide_eq_true (u1j bx);have o3:z1i (Jv (Xi bx)) l=true:=decide_eq_true (by have:=u3r (L:=Xi bx);omega);refine ⟨1,?_⟩;rw [Zv];simp (disch:=omega) only [Wv,Yw,Za,show∀x,z5r x=true from fun _=>rfl,o2,o3,cond_true,cond_false];show Yv (Wv l) 0 _=.ret (y2g (finE l bx) (Xi bx));unfold finE y2g;cases (Ku bx != 0) <;> cases (z3b (Xi bx) != 0) <;> cases (y5w (Jv (Xi bx)) l) <;> rfl
 | k +1,i,now,bx,h,hb=>by
  have hi:i<(plZ l).length :=by omega
  have hp:(plZ l).length ≤3000:=Nat.le_trans (z1w _) (Nat.le_trans (y5c l) hl);have hpl:(Wz (Yh (zsQ l))).length =(zsQ l).length :=by rw [Uy,Xs]
  have hcl:(plZ l).length ≤(zsQ l).length :=z1w _;have r0:rd (Wz (Yh (zsQ l))) i=rd (plZ l) i:=z2u _ _ hi;obtain ⟨n2,h2⟩:=v9i l hl ha (plZ l).length bx now (i:Int) (rd (plZ l) i) (plZ l).length ((plZ l).length :Int) (i:Int) (Wz (Yh (zsQ l))) l.length 0 [] [] (Nat.zero_add _) (Nat.le_refl _) (Nat.le_refl _) rfl rfl;have st: ∀N,Yv (Wv l) (N+n2+1) (.to (.h1 (plZ l).length bx now (plZ l).length ((plZ l).length :Int) (i:Int) (Wz (Yh (zsQ l)))))=Yv (Wv l) N (bif u6s now (zQ 4 l (rd (plZ l) i)) (zQ 5 l (rd (plZ l) i)) then .ret [.nils,.int .i64 28] else
    .to (.h3 (plZ l).length bx (y8r now (zQ 4 l (rd (plZ l) i)) (zQ 5 l (rd (plZ l) i))) (i:Int) (rd (plZ l) i) (plZ l).length ((plZ l).length :Int) (i:Int) (y8r now (zQ 4 l (rd (plZ l) i)) (zQ 5 l (rd (plZ l) i))) ((y8r now (zQ 4 l (rd (plZ l) i)) (zQ 5 l (rd (plZ l) i))).length :Int) 0 (Wz (Yh (zsQ l))))):=fun N=>by
   rw [←h2 N,Zv];simp (disch:=omega) only [Wv,r0,Za,Zt,Yz,Yu,Zj,Nat.zero_add,decide_true,Bool.and_true,cond_true,cond_false];rfl
  rw [Yp hi];rcases Yf (u6s now (zQ 4 l (rd (plZ l) i)) (zQ 5 l (rd (plZ l) i))) with g | g
  ·refine ⟨0+n2+1,?_⟩;rw [st 0,g,cond_true,Zm];unfold goP;rw [g];rfl
  ·have hn4:(y8r now (zQ 4 l (rd (plZ l) i)) (zQ 5 l (rd (plZ l) i))).length ≤400:=v8k;obtain ⟨n3,h3⟩:=w7u l hl ha (plZ l).length hp (y8r now (zQ 4 l (rd (plZ l) i)) (zQ 5 l (rd (plZ l) i))) i hi (rd (plZ l) i) ((plZ l).length :Int) (y8r now (zQ 4 l (rd (plZ l) i)) (zQ 5 l (rd (plZ l) i))) hn4 (Wz (Yh (zsQ l))) (by omega) (y8r now (zQ 4 l (rd (plZ l) i)) (zQ 5 l (rd (plZ l) i))).length 0 bx (Nat.zero_add _) (by omega);rw [List.drop_zero] at h3;obtain ⟨n,hn⟩:=v9j k (i+1) (y8r now (zQ 4 l (rd (plZ l) i)) (zQ 5 l (rd (plZ l) i))) (bx++bif decide (i+1<(plZ l).length) then (y8r now (zQ 4 l (rd (plZ l) i)) (zQ 5 l (rd (plZ l) i))).map (pz6 (rd (plZ l) i) (rd (Wz (Yh (zsQ l))) (i+1))) else []) (by omega) (by
    rw [List.length_append];cases decide (i+1<(plZ l).length) with
    | true=>rw [cond_true,List.length_map];omega
    | false=>rw [cond_false,List.length_nil];omega)
   refine ⟨n+n3+n2+1,?_⟩;rw [st (n+n3),g,cond_false];refine (h3 n).trans (hn.trans ?_);have em:(bif decide (i+1<(plZ l).length) then (y8r now (zQ 4 l (rd (plZ l) i)) (zQ 5 l (rd (plZ l) i))).map (pz6 (rd (plZ l) i) (rd (Wz (Yh (zsQ l))) (i+1))) else [])=(match (plZ l).drop (i+1) with
     | []=>[]
     | z'::_=>(y8r now (zQ 4 l (rd (plZ l) i)) (zQ 5 l (rd (plZ l) i))).map (pz6 (rd (plZ l) i) z')):=by
    by_cases q:i+1<(plZ l).length
    ·rw [decide_eq_true q,cond_true,Yp q,z2u _ _ q];rfl
    ·rw [decide_eq_false q,cond_false,List.drop_eq_nil_of_le (by omega)]
   rw [em]
   conv=>rhs;unfold goP
   rw [g,cond_false]
end
theorem u3f (l:List R7) (h:y2o l=true): ∃n,Yv (Wv l) n (y0w l)=.ret (y2g (x1q l) (msoL l)):=by
 unfold y0w x1q msoE;simp only [Za,show Qg l=true from h,cond_true];rcases Yf (w2p l != 0) with q | q
 ·refine ⟨0,?_⟩;rw [q,cond_true,cond_true,z1m _ q];rfl
 ·rw [q,cond_false,cond_false];obtain ⟨hl,hv⟩:=v4i (l:=l) (by simpa using q);have ha: ∀i,i<l.length→0≤(rd l i).a ∧(rd l i).a ≤5:=fun i hi=>by
   have hm:rd l i∈l:=by rw [Xu hi];exact List.getElem_mem hi
   have:=List.all_eq_true.1 h _ hm;simp only [Bool.and_eq_true,decide_eq_true_eq] at this;exact ⟨this.1,val7_a (hv _ hm)⟩
  obtain ⟨n0,h0⟩:=v9k l hl ha l.length 0 [] (Nat.zero_add _) (Nat.le_refl _) rfl;obtain ⟨n1,h1⟩:=v9j l hl ha (plZ l).length 0 [] [] (Nat.zero_add _) (Nat.le_refl _);refine ⟨n1+n0,?_⟩;refine (h0 n1).trans (h1.trans ?_);rw [List.drop_zero];unfold msoL;cases goP l (plZ l) [] [] with
  | none=>rfl
  | some bx=>rfl
def fMso :List AVal→Option (AVal×Bool)
 | [a0]=>match asL R7 a0 with
  | some (L0,g0,n0)=>some (.tup [.dat (z0d L0).length (Zz (z0d L0)),.int .i64 (x1q L0)],isT R7 n0 g0&&(y2o L0))
  | _=>none
 | _=>none
theorem u5k {S:Specs} (hS:Zu prog S):Zu prog (S.with w7q fMso):=by
 refine w9m hS (by kernel_rfl) fun args v h=> ?_;unfold fMso at h;split at h
 ·rename_i a0;split at h
  ·rename_i L0 g0 n0 e0;simp only [Option.some.injEq,Prod.mk.injEq,Bool.and_eq_true] at h;obtain ⟨rfl,ho0,hw⟩:=h;obtain ⟨N,hN⟩:=u3f L0 hw;exact ⟨_,_,(.cons (asL_le e0 ho0) .nil),z3s _ _,v3w L0 N _ hN,3,z7t _ _⟩
  ·cases h
 ·cases h
def Mi :Specs:=(Mh.with w7q fMso)
theorem z2m :Zu prog Mi:=(u5k Kg)
end Go.Am
namespace Go.Am
open Go.Proofs.Tryz
open Go.Proofs
inductive mpzS where
 | h0 (v15:List Int) (v32:Int)
 | h1 (v15:List Int) (v20:Int) (v21:Int) (v22:Int) (v23:Int)
def mpzC (l1:List R6) (x2:Int) (x3:Int) (x4:Int) (x5:Int) (x6:Bool):mpzS→Cfg
 | .h0 v15 v32=>⟨⟨122,0,true⟩,none,(Zd prog 58 [1,1,1,0,1,0,0] 0),none,(Zy prog 58),⟨Ya [(1,(.dat l1.length (Zz l1))),(2,(ii x2)),(3,(ii x3)),(4,(ii x4)),(5,(ii x5)),(6,(.bool x6)),(7,(.ptr 0 0)),(15,(.sla 1 1 0 v15.length (.un 1))),(30,(.dat l1.length (Zz l1))),(31,(ii (l1.length:Int))),(32,(ii v32))],Uq [⟨[(.fn 111 []),(.fn 112 []),(.fn 113 [])],84,none⟩,⟨rows v15.length (Zz v15),3,some ⟨1,v15.length,(Zz v15)⟩⟩] 0,2,[],true⟩,[],.leaf⟩
 | .h1 v15 v20 v21 v22 v23=>⟨⟨122,0,true⟩,none,(Zd prog 58 [1,1,1,1,1,1,1,1,0,1,0,0] 0),none,(Zy prog 58),⟨Ya [(1,(.dat l1.length (Zz l1))),(2,(ii x2)),(7,(.ptr 0 0)),(15,(.sla 1 1 0 v15.length (.un 1))),(20,(ii v20)),(21,(ii v21)),(22,(ii v22)),(23,(ii v23))],Uq [⟨[(.fn 111 []),(.fn 112 []),(.fn 113 [])],84,none⟩,⟨rows v15.length (Zz v15),3,some ⟨1,v15.length,(Zz v15)⟩⟩] 0,2,[],true⟩,[],.leaf⟩
def y4u :List (Option (List Nat)):=[some [1,2,3,4,5,6,7,15,30,31,32]]
def y4v :List (Option (List Nat)):=[]
def w7x :List (Option (List Nat)):=[some [1,2,7,15,20,21,22,23]]
def w7y :List (Option (List Nat)):=[]
def y2p (l1:List R6) (x2:Int) (x3:Int) (x4:Int) (x5:Int) (x6:Bool):mpzS→Xf mpzS
 | .h0 v15 v32=>(bif (decide (v32<(l1.length:Int))) then (bif ((decide (0≤v32∧v32<(l1.length:Int)))&&true) then (bif (decide (x4<(rd l1 v32.toNat).c)) then (bif (decide ((rd l1 v32.toNat).c <x5)) then (bif (Nat.beq 1 1&&((decide (0+v15.length=v15.length))&&decide ((v15.length+1+1)*(8+1)≤Ur))) then (bif (decide (x4<(rd l1 v32.toNat).f)) then (bif (decide ((rd l1 v32.toNat).f <x5)) then (bif (Nat.beq 1 1&&((decide (0+(v15.length+1)=(v15.length+1)))&&decide (((v15.length+1)+1+1)*(8+1)≤Ur))) then (.to (.h0 ((v15++[(rd l1 v32.toNat).c])++[(rd l1 v32.toNat).f]) (IntKind.wrap .i64 (v32+1)))) else .stuck) else (.to (.h0 (v15++[(rd l1 v32.toNat).c]) (IntKind.wrap .i64 (v32+1))))) else (.to (.h0 (v15++[(rd l1 v32.toNat).c]) (IntKind.wrap .i64 (v32+1))))) else .stuck) else (bif (decide (x4<(rd l1 v32.toNat).f)) then (bif (decide ((rd l1 v32.toNat).f <x5)) then (bif (Nat.beq 1 1&&((decide (0+v15.length=v15.length))&&decide ((v15.length+1+1)*(8+1)≤Ur))) then (.to (.h0 (v15++[(rd l1 v32.toNat).f]) (IntKind.wrap .i64 (v32+1)))) else .stuck) else (.to (.h0 v15 (IntKind.wrap .i64 (v32+1))))) else (.to (.h0 v15 (IntKind.wrap .i64 (v32+1)))))) else (bif (decide (x4<(rd l1 v32.toNat).f)) then (bif (decide ((rd l1 v32.toNat).f <x5)) then (bif (Nat.beq 1 1&&((decide (0+v15.length=v15.length))&&decide ((v15.length+1+1)*(8+1)≤Ur))) then (.to (.h0 (v15++[(rd l1 v32.toNat).f]) (IntKind.wrap .i64 (v32+1)))) else .stuck) else (.to (.h0 v15 (IntKind.wrap .i64 (v32+1))))) else (.to (.h0 v15 (IntKind.wrap .i64 (v32+1)))))) else .stuck) else (bif (decide (v15.length<4611686018427387904)) then (bif (decide (v15.length=v15.length)) then (bif (!x6) then (.to (.h1 (Yh (Zc v15.length (cOf (Zz v15)))) (IntKind.wrap .i64 (x3 - 1)) x3 0 1)) else (.to (.h1 (Yh (Zc v15.length (cOf (Zz v15)))) x3 (IntKind.wrap .i64 (x3 - 1)) 0 1))) else .stuck) else .stuck))
 | .h1 v15 v20 v21 v22 v23=>(bif (decide (v23<(v15.length:Int))) then (bif ((decide (0≤(IntKind.wrap .i64 (v23 - 1))∧(IntKind.wrap .i64 (v23 - 1))<(v15.length:Int)))&&true) then (bif (decide ((0+(Int.toNat (IntKind.wrap .i64 (v23 - 1))))<v15.length)) then (bif (Qu (cvT l1) (IntKind.wrap .i64 (x2 - 1)) v20 (rd v15 (0+(Int.toNat (IntKind.wrap .i64 (v23 - 1)))))) then (bif (!(x0o (cvT l1) (IntKind.wrap .i64 (x2 - 1)) v20 (rd v15 (0+(Int.toNat (IntKind.wrap .i64 (v23 - 1))))))) then (bif (Qu (cvT l1) x2 v21 (rd v15 (0+(Int.toNat (IntKind.wrap .i64 (v23 - 1)))))) then (bif (!(x0o (cvT l1) x2 v21 (rd v15 (0+(Int.toNat (IntKind.wrap .i64 (v23 - 1))))))) then (bif ((decide (0≤v23∧v23<(v15.length:Int)))&&true) then (bif (decide ((0+v23.toNat)<v15.length)) then (.to (.h1 v15 v20 v21 (IntKind.wrap .i64 (v22+(IntKind.wrap .i64 ((rd v15 (0+v23.toNat)) - (rd v15 (0+(Int.toNat (IntKind.wrap .i64 (v23 - 1))))))))) (IntKind.wrap .i64 (v23+1)))) else .stuck) else .stuck) else (.to (.h1 v15 v20 v21 v22 (IntKind.wrap .i64 (v23+1))))) else .stuck) else (.to (.h1 v15 v20 v21 v22 (IntKind.wrap .i64 (v23+1))))) else .stuck) else .stuck) else .stuck) else (.ret [(.int .i64 v22)]))
def y0x (l1:List R6) (x2:Int) (x3:Int) (x4:Int) (x5:Int) (x6:Bool):Xf mpzS:=(bif (decide (x4≥x5)) then (.ret [(.int .i64 0)]) else (.to (.h0 ([x4,x5]:List Int) 0)))
theorem w2h (l1:List R6) (x2:Int) (x3:Int) (x4:Int) (x5:Int) (x6:Bool): ∀s,Xj prog (Zy prog 58) (mpzC l1 x2 x3 x4 x5 x6) (mpzC l1 x2 x3 x4 x5 x6 s) (y2p l1 x2 x3 x4 x5 x6 s)
 | .h0 v15 v32=>(lb (fun k0=>(lo fun aG=>(lb (fun k1=>(lb (fun k2=>(lo fun cB=>(lb (fun k3=>(lb (fun k4=>(lo fun o0=>(sl z2m 111 [] ⟨[0,8],[],y4u,y4v⟩ ⟨[(15,.len ((v15++[(rd l1 (tn v32)).c])++[(rd l1 (tn v32)).f]).length)],[.keep,.rowed 1 ((v15++[(rd l1 (tn v32)).c])++[(rd l1 (tn v32)).f]).length (Zz ((v15++[(rd l1 (tn v32)).c])++[(rd l1 (tn v32)).f]))],[]⟩ (bl 15 15867) (pp (xL ((v15.length+1)+1) ((v15++[(rd l1 (tn v32)).c])++[(rd l1 (tn v32)).f]).length) (pp (xL ((v15.length+1)+1) ((v15++[(rd l1 (tn v32)).c])++[(rd l1 (tn v32)).f]).length) (pp (xS ((v15.length+1)+1) (Zh (Zh (Zz v15) 0 v15.length 1 [(ii (rd l1 (tn v32)).c)]) 0 (v15.length+1) 1 [(ii (rd l1 (tn v32)).f)]) (Zz ((v15++[(rd l1 (tn v32)).c])++[(rd l1 (tn v32)).f]))) (pp (pp (xF (Zh (Zh (Zz v15) 0 v15.length 1 [(ii (rd l1 (tn v32)).c)]) 0 (v15.length+1) 1 [(ii (rd l1 (tn v32)).f)])) nn) (ww o0 (tt k4 (tt k3 (ww cB (tt k2 (tt k1 (ww aG (tt k0 nn))))))))))))))) (fun k4=>(sl z2m 105 [] ⟨[0,6],[],y4u,y4v⟩ ⟨[(15,.len (v15++[(rd l1 (tn v32)).c]).length)],[.keep,.rowed 1 (v15++[(rd l1 (tn v32)).c]).length (Zz (v15++[(rd l1 (tn v32)).c]))],[]⟩ (bl 15 7675) (pp (xL (v15.length+1) (v15++[(rd l1 (tn v32)).c]).length) (pp (xL (v15.length+1) (v15++[(rd l1 (tn v32)).c]).length) (pp (xS (v15.length+1) (Zh (Zz v15) 0 v15.length 1 [(ii (rd l1 (tn v32)).c)]) (Zz (v15++[(rd l1 (tn v32)).c]))) (pp (pp (xF (Zh (Zz v15) 0 v15.length 1 [(ii (rd l1 (tn v32)).c)])) nn) (tt k4 (tt k3 (ww cB (tt k2 (tt k1 (ww aG (tt k0 nn))))))))))))))) (fun k3=>(sl z2m 105 [] ⟨[0,6],[],y4u,y4v⟩ ⟨[(15,.len (v15++[(rd l1 (tn v32)).c]).length)],[.keep,.rowed 1 (v15++[(rd l1 (tn v32)).c]).length (Zz (v15++[(rd l1 (tn v32)).c]))],[]⟩ (bl 15 507) (pp (xL (v15.length+1) (v15++[(rd l1 (tn v32)).c]).length) (pp (xL (v15.length+1) (v15++[(rd l1 (tn v32)).c]).length) (pp (xS (v15.length+1) (Zh (Zz v15) 0 v15.length 1 [(ii (rd l1 (tn v32)).c)]) (Zz (v15++[(rd l1 (tn v32)).c]))) (pp (pp (xF (Zh (Zz v15) 0 v15.length 1 [(ii (rd l1 (tn v32)).c)])) nn) (tt k3 (ww cB (tt k2 (tt k1 (ww aG (tt k0 nn))))))))))))))) (fun k2=>(lb (fun k3=>(lb (fun k4=>(lo fun o0=>(sl z2m 105 [] ⟨[0,6],[],y4u,y4v⟩ ⟨[(15,.len (v15++[(rd l1 (tn v32)).f]).length)],[.keep,.rowed 1 (v15++[(rd l1 (tn v32)).f]).length (Zz (v15++[(rd l1 (tn v32)).f]))],[]⟩ (bl 15 15803) (pp (xL (v15.length+1) (v15++[(rd l1 (tn v32)).f]).length) (pp (xL (v15.length+1) (v15++[(rd l1 (tn v32)).f]).length) (pp (xS (v15.length+1) (Zh (Zz v15) 0 v15.length 1 [(ii (rd l1 (tn v32)).f)]) (Zz (v15++[(rd l1 (tn v32)).f]))) (pp (pp (xF (Zh (Zz v15) 0 v15.length 1 [(ii (rd l1 (tn v32)).f)])) nn) (ww o0 (tt k4 (tt k3 (tt k2 (tt k1 (ww aG (tt k0 nn)))))))))))))) (fun k4=>(sl z2m 99 [] ⟨[0,1],[],y4u,y4v⟩ ⟨[],[],[]⟩ (bl 15 7611) (pp (fl v15 nn) (tt k4 (tt k3 (tt k2 (tt k1 (ww aG (tt k0 nn))))))))))) (fun k3=>(sl z2m 99 [] ⟨[0,1],[],y4u,y4v⟩ ⟨[],[],[]⟩ (bl 15 443) (pp (fl v15 nn) (tt k3 (tt k2 (tt k1 (ww aG (tt k0 nn)))))))))))) (fun k1=>(lb (fun k2=>(lb (fun k3=>(lo fun o0=>(sl z2m 105 [] ⟨[0,6],[],y4u,y4v⟩ ⟨[(15,.len (v15++[(rd l1 (tn v32)).f]).length)],[.keep,.rowed 1 (v15++[(rd l1 (tn v32)).f]).length (Zz (v15++[(rd l1 (tn v32)).f]))],[]⟩ (bl 15 15747) (pp (xL (v15.length+1) (v15++[(rd l1 (tn v32)).f]).length) (pp (xL (v15.length+1) (v15++[(rd l1 (tn v32)).f]).length) (pp (xS (v15.length+1) (Zh (Zz v15) 0 v15.length 1 [(ii (rd l1 (tn v32)).f)]) (Zz (v15++[(rd l1 (tn v32)).f]))) (pp (pp (xF (Zh (Zz v15) 0 v15.length 1 [(ii (rd l1 (tn v32)).f)])) nn) (ww o0 (tt k3 (tt k2 (tt k1 (ww aG (tt k0 nn))))))))))))) (fun k3=>(sl z2m 99 [] ⟨[0,1],[],y4u,y4v⟩ ⟨[],[],[]⟩ (bl 15 7555) (pp (fl v15 nn) (tt k3 (tt k2 (tt k1 (ww aG (tt k0 nn)))))))))) (fun k2=>(sl z2m 99 [] ⟨[0,1],[],y4u,y4v⟩ ⟨[],[],[]⟩ (bl 15 387) (pp (fl v15 nn) (tt k2 (tt k1 (ww aG (tt k0 nn)))))))))))) (fun k0=>(lo fun aG=>(lo fun bB=>(lb (fun k1=>(sl z2m 45 [] ⟨[0,1],[],w7x,w7y⟩ ⟨[(15,.len (Yh (Zc v15.length (cOf (Zz v15)))).length)],[.keep,.rowed 1 (Yh (Zc v15.length (cOf (Zz v15)))).length (Zz (Yh (Zc v15.length (cOf (Zz v15)))))],[]⟩ (bl 2 2) (pp (xL v15.length (Yh (Zc v15.length (cOf (Zz v15)))).length (Wi (by rw [Xs,Wg]))) (pp (xL v15.length (Yh (Zc v15.length (cOf (Zz v15)))).length (Wi (by rw [Xs,Wg]))) (pp (xS v15.length (Zz (Yh (Zc v15.length (cOf (Zz v15))))) (Zz (Yh (Zc v15.length (cOf (Zz v15)))))) (pp (fl (Yh (Zc v15.length (cOf (Zz v15)))) nn) (tt k1 (pp (pp (xG (Nat.beq 1 1)) (pp (xG (Nat.beq 1 1)) (pp (xG (Nat.beq 0 0)) (pp (xG (decide (v15.length=v15.length))) (pp (xG (isI (Zz v15))) (xG (decide (v15.length<4611686018427387904)))))))) (tt k0 nn))))))))) (fun k1=>(sl z2m 39 [] ⟨[0,1],[],w7x,w7y⟩ ⟨[(15,.len (Yh (Zc v15.length (cOf (Zz v15)))).length)],[.keep,.rowed 1 (Yh (Zc v15.length (cOf (Zz v15)))).length (Zz (Yh (Zc v15.length (cOf (Zz v15)))))],[]⟩ (bl 2 0) (pp (xL v15.length (Yh (Zc v15.length (cOf (Zz v15)))).length (Wi (by rw [Xs,Wg]))) (pp (xL v15.length (Yh (Zc v15.length (cOf (Zz v15)))).length (Wi (by rw [Xs,Wg]))) (pp (xS v15.length (Zz (Yh (Zc v15.length (cOf (Zz v15))))) (Zz (Yh (Zc v15.length (cOf (Zz v15)))))) (pp (fl (Yh (Zc v15.length (cOf (Zz v15)))) nn) (tt k1 (pp (pp (xG (Nat.beq 1 1)) (pp (xG (Nat.beq 1 1)) (pp (xG (Nat.beq 0 0)) (pp (xG (decide (v15.length=v15.length))) (pp (xG (isI (Zz v15))) (xG (decide (v15.length<4611686018427387904)))))))) (tt k0 nn))))))))))))))
 | .h1 v15 v20 v21 v22 v23=>(lb (fun k0=>(lo fun aG=>(lo fun bB=>(lo fun bZ=>(lb (fun k1=>(lo fun cA=>(lb (fun k2=>(lo fun o0=>(lo fun o1=>(sl z2m 23 [] ⟨[0,1],[],w7x,w7y⟩ ⟨[],[],[]⟩ (trs 15 []) (pp (fl v15 nn) (ww bB (ww aG (ww o1 (ww o0 (tt k2 (pp (pp (xr l1) (xw cA)) (ww bB (ww aG (tt k1 (pp (pp (xr l1) (xw bZ)) (ww bB (ww aG (tt k0 nn)))))))))))))))))) (fun k2=>(sl z2m 23 [] ⟨[0,1],[],w7x,w7y⟩ ⟨[],[],[]⟩ (trs 14 [false]) (pp (fl v15 nn) (tt k2 (pp (pp (xr l1) (xw cA)) (ww bB (ww aG (tt k1 (pp (pp (xr l1) (xw bZ)) (ww bB (ww aG (tt k0 nn))))))))))))))) (fun k1=>(sl z2m 23 [] ⟨[0,1],[],w7x,w7y⟩ ⟨[],[],[]⟩ (bl 15 1) (pp (fl v15 nn) (tt k1 (pp (pp (xr l1) (xw bZ)) (ww bB (ww aG (tt k0 nn))))))))))))) (fun k0=>(lr 122 3 [1,1,1,1,1,1,1,0] 1 58 [(14,(ii v22))] (sl z2m 15 [] ⟨[],[],[some [14]],[]⟩ ⟨[],[],[]⟩ [false] (tt k0 nn)))))
theorem x5k (l1:List R6) (x2:Int) (x3:Int) (x4:Int) (x5:Int) (x6:Bool):Xj prog (Zy prog 58) (mpzC l1 x2 x3 x4 x5 x6) (Ze prog 58 [(.agg [(.fn 111 []),(.fn 112 []),(.fn 113 [])]),(.dat l1.length (Zz l1)),(.int .i64 x2),(.int .i64 x3),(.int .i64 x4),(.int .i64 x5),(.bool x6)] true []) (y0x l1 x2 x3 x4 x5 x6):=(lb (fun k0=>(lr 122 58 [1,0,1,0,0] 1 58 [(14,(ii 0))] (sl z2m 17 [] ⟨[],[],[some [14]],[]⟩ ⟨[],[],[]⟩ [true] (tt k0 nn)))) (fun k0=>(sl z2m 30 [] ⟨[0,1],[],y4u,y4v⟩ ⟨[(15,.grow 1 1)],[.keep,.rowed 1 ([x4,x5]:List Int).length (Zz ([x4,x5]:List Int))],[]⟩ [false] (pp (xG (x4n [(ii x4),(ii x5)] 1 ([x4,x5]:List Int).length (Zz ([x4,x5]:List Int)))) (tt k0 nn)))))
theorem v3x (l1:List R6) (x2:Int) (x3:Int) (x4:Int) (x5:Int) (x6:Bool) (n:Nat) (vs:List AVal) (h:Yv (y2p l1 x2 x3 x4 x5 x6) n (y0x l1 x2 x3 x4 x5 x6)=.ret vs):Ky prog (Zy prog 58) (Ze prog 58 [(.agg [(.fn 111 []),(.fn 112 []),(.fn 113 [])]),(.dat l1.length (Zz l1)),(.int .i64 x2),(.int .i64 x3),(.int .i64 x4),(.int .i64 x5),(.bool x6)] true []) vs:=by have:=Zr (w2h l1 x2 x3 x4 x5 x6) n _ (x5k l1 x2 x3 x4 x5 x6);rwa [h] at this
end Go.Am
namespace Go.Am
open Go.Proofs.Tryz
open Go.Proofs Go.Sort Go.Shelf Go.RowKit Go.Lib
def Ax.l (q:Ax) (a b c:Int):Int:=match q with
 | .x =>a
 | .y =>b
 | .z =>c
def Ax.u (q:Ax) (a b:Int):Int:=match q with
 | .x =>b
 | .y =>a
 | .z =>a
def Ax.w (q:Ax) (a b:Int):Int:=match q with
 | .x =>b
 | .y =>b
 | .z =>a
def two2 :List R6:=[⟨0,0,0,1,1,1⟩,⟨1,1,0,2,2,1⟩]
def eqT (r s:R6):Bool:=(r.a == s.a)&&((r.b == s.b)&&((r.c == s.c)&&((r.d == s.d)&&((r.e == s.e)&&(r.f == s.f)))))
theorem u0f {r s:R6} (h:eqT r s=true):r=s:=by
 obtain ⟨a,b,c,d,e,f⟩:=r;obtain ⟨a',b',c',d',e',f'⟩:=s
 simpa [eqT] using h
def v4w :List R6→Bool
 | [r,s]=>eqT r ⟨0,0,0,1,1,1⟩&&eqT s ⟨1,1,0,2,2,1⟩
 | _=>false
theorem x9u {L:List R6} (h:v4w L=true):L=two2:=by
 unfold v4w at h;split at h
 ·simp only [Bool.and_eq_true] at h;rw [u0f h.1,u0f h.2];rfl
 ·cases h
def isZ :Ax→Bool
 | .z =>true
 | _=>false
def mpoV (q:Ax) (L:List R6) (x y lo hi:Int) (b:Bool):Int:=1
def Qm (q:Ax) (L:List R6) (x y lo hi:Int) (b:Bool):Bool:=isZ q&&(v4w L&&((x == 1)&&((y == 1)&&((lo == 0)&&((hi == 1)&&b)))))
theorem srt01 :Yh [0,1]=[0,1]:=List.mergeSort_of_pairwise (by simp)
theorem u3k {q:Ax} {L:List R6} {x y lo hi:Int} {b:Bool} (h:Qm q L x y lo hi b=true):q=.z ∧ ∃N,Yv (y2p L x y lo hi b) N (y0x L x y lo hi b)=.ret [.int .i64 (mpoV q L x y lo hi b)]:=by
 simp only [Qm,Bool.and_eq_true] at h;obtain ⟨hq,hL,hx,hy,hlo,hhi,rfl⟩:=h;obtain rfl:=x9u hL;obtain rfl:=eq_of_beq hx;obtain rfl:=eq_of_beq hy;obtain rfl:=eq_of_beq hlo;obtain rfl:=eq_of_beq hhi;refine ⟨(by cases q <;> first | rfl | cases hq),3+2+3,?_⟩;have e1:Yv (y2p two2 1 1 0 1 true) (5+3) (y0x two2 1 1 0 1 true)=Yv (y2p two2 1 1 0 1 true) 5 (.to (.h1 (Yh (Zc ([0,1]:List Int).length (cOf (Zz ([0,1]:List Int))))) 1 0 0 1)):=by kernel_rfl
 refine e1.trans ?_;rw [Wg,srt01];kernel_rfl
def fMpo :List AVal→Option (AVal×Bool)
 | [.agg [.fn a [],.fn b [],.fn c []],a1,.int .i64 x2,.int .i64 x3,.int .i64 x4,.int .i64 x5,.bool x6]=>match axOf a b c,asL R6 a1 with
  | some q,some (L1,g1,n1)=>some (.int .i64 (mpoV q L1 x2 x3 x4 x5 x6),isT R6 n1 g1&&(Qm q L1 x2 x3 x4 x5 x6))
  | _,_=>none
 | _=>none
theorem u5l {S:Specs} (hS:Zu prog S):Zu prog (S.with v8z fMpo):=by
 refine z3g hS (by kernel_rfl) fun args v h=> ?_;unfold fMpo at h;split at h
 ·rename_i a b c a1 x2 x3 x4 x5 x6;split at h
  ·rename_i q L1 g1 n1 eq e1;simp only [Option.some.injEq,Prod.mk.injEq,Bool.and_eq_true] at h;obtain ⟨rfl,ho1,hw⟩:=h;obtain ⟨rfl,rfl,rfl⟩:=x7o eq;obtain ⟨rfl,N,hN⟩:=u3k hw;exact ⟨_,_,(.cons (.refl _) (.cons (asL_le e1 ho1) (.cons (.refl _) (.cons (.refl _) (.cons (.refl _) (.cons (.refl _) (.cons (.refl _) .nil))))))),rfl,v3x L1 x2 x3 x4 x5 x6 N _ hN,3,rfl⟩
  ·cases h
 ·cases h
def Mj :Specs:=Mi.with v8z fMpo
theorem z4h :Zu prog Mj:=u5l z2m
end Go.Am
namespace Go.Am
open Go.Proofs.Tryz
open Go.Proofs
inductive mpiS where
 | h0 (q:Ax) (v5:Int) (v26:Int)
 | h1 (q:Ax) (v5:Int) (v26:Int) (v33:List R6) (v34:Int) (v35:Int) (aK:Int) (aP:Int) (aT:Int) (bG:Int) (bN:Int) (bR:Int)
def y8v (l0:List R6):mpiS→Cfg
 | .h0 q v5 v26=>⟨⟨125,0,true⟩,none,(Zd prog 17 [1,1,1,0,1,0,0,1,1,0,0,1,1,0,0] 0),none,(Zy prog 15),⟨Ya [(0,(.dat l0.length (Zz l0))),(5,(ii v5)),(7,(.ptr 0 0)),(20,(.agg [(.fn 105 []),(.fn 106 []),(.fn 107 []),(.fn 108 []),(.fn 109 []),(.fn 110 []),(.fn 111 []),(.fn 112 []),(.fn 113 [])])),(21,(ii q.ix)),(24,(.dat l0.length (Zz l0))),(25,(ii (l0.length:Int))),(26,(ii v26))],Uq [⟨[(.fn (nV1 q) []),(.fn (nV2 q) []),(.fn (nV3 q) [])],84,none⟩] 0,1,[],true⟩,[],.leaf⟩
 | .h1 q v5 v26 v33 v34 v35 aK aP aT bG bN bR=>⟨⟨125,0,true⟩,none,(Zd prog 17 [1,1,1,0,1,0,0,1,1,0,0,1,1,0,0,1,1,0,0,1,1,0,0] 0),none,(Zy prog 15),⟨Ya [(0,(.dat l0.length (Zz l0))),(5,(ii v5)),(7,(.ptr 0 0)),(9,(.ptr 1 0)),(20,(.agg [(.fn 105 []),(.fn 106 []),(.fn 107 []),(.fn 108 []),(.fn 109 []),(.fn 110 []),(.fn 111 []),(.fn 112 []),(.fn 113 [])])),(21,(ii q.ix)),(24,(.dat l0.length (Zz l0))),(25,(ii (l0.length:Int))),(26,(ii v26)),(33,(.dat v33.length (Zz v33))),(34,(ii v34)),(35,(ii v35))],Uq [⟨[(.fn (nV1 q) []),(.fn (nV2 q) []),(.fn (nV3 q) [])],84,none⟩,⟨[(ii aK),(ii aP),(ii aT),(ii bG),(ii bN),(ii bR)],67,none⟩] 0,2,[],true⟩,[],.leaf⟩
def v3z :List (Option (List Nat)):=[some [0,5,7,20,21,24,25,26]]
def v4a :List (Option (List Nat)):=[]
def y8t :List (Option (List Nat)):=[some [0,5,7,9,20,21,24,25,26,33,34,35]]
def y8u :List (Option (List Nat)):=[]
def mpiE (q:Ax) (v5:Int):Xf mpiS:=match q with
 | .x =>(.to (.h0 .y v5 0))
 | .y =>(.to (.h0 .z v5 0))
 | .z =>(.ret [(.int .i64 v5),(.int .i64 0)])
def z4z (l0:List R6):mpiS→Xf mpiS
 | .h0 q v5 v26=>(bif (decide (v26<(l0.length:Int))) then (bif ((decide (0≤v26∧v26<(l0.length:Int)))&&true) then (bif (decide (0≤v26.toNat)) then (bif (decide (v26.toNat≤l0.length)) then (bif (decide (0≤v26)) then (.to (.h1 q v5 v26 (z2z l0 0 v26.toNat) ((v26.toNat:Nat):Int) 0 (rd l0 v26.toNat).a (rd l0 v26.toNat).b (rd l0 v26.toNat).c (rd l0 v26.toNat).d (rd l0 v26.toNat).e (rd l0 v26.toNat).f)) else .stuck) else .stuck) else .stuck) else .stuck) else (mpiE q v5))
 | .h1 q v5 v26 v33 v34 v35 aK aP aT bG bN bR=>(bif (decide (v35<v34)) then (bif ((decide (0≤v35∧v35<(v33.length:Int)))&&true) then (bif (decide ((q.rc (rd v33 v35.toNat)).a <(q.u aK aP))) then (bif ((q.rc (rd v33 v35.toNat)).c != (q.u aK aP)) then (.to (.h1 q v5 v26 v33 v34 (IntKind.wrap .i64 (v35+1)) aK aP aT bG bN bR)) else (bif ((q.rc (rd v33 v35.toNat)).d != (q.w aP aT)) then (bif ((q.w bN bR) != (q.rc (rd v33 v35.toNat)).b) then (.to (.h1 q v5 v26 v33 v34 (IntKind.wrap .i64 (v35+1)) aK aP aT bG bN bR)) else (bif (Qm q (cvT l0) (q.rc (rd v33 v35.toNat)).c (q.rc (rd v33 v35.toNat)).b (Kq (q.l aK aP aT) (q.lo (rd v33 v35.toNat))) (z5c (q.l bG bN bR) (q.hi (rd v33 v35.toNat))) ((q.rc (rd v33 v35.toNat)).d == (q.w aP aT))) then (.to (.h1 q (IntKind.wrap .i64 (v5+(mpoV q (cvT l0) (q.rc (rd v33 v35.toNat)).c (q.rc (rd v33 v35.toNat)).b (Kq (q.l aK aP aT) (q.lo (rd v33 v35.toNat))) (z5c (q.l bG bN bR) (q.hi (rd v33 v35.toNat))) ((q.rc (rd v33 v35.toNat)).d == (q.w aP aT))))) v26 v33 v34 (IntKind.wrap .i64 (v35+1)) aK aP aT bG bN bR)) else .stuck)) else (bif (Qm q (cvT l0) (q.rc (rd v33 v35.toNat)).c (q.rc (rd v33 v35.toNat)).d (Kq (q.l aK aP aT) (q.lo (rd v33 v35.toNat))) (z5c (q.l bG bN bR) (q.hi (rd v33 v35.toNat))) ((q.rc (rd v33 v35.toNat)).d == (q.w aP aT))) then (.to (.h1 q (IntKind.wrap .i64 (v5+(mpoV q (cvT l0) (q.rc (rd v33 v35.toNat)).c (q.rc (rd v33 v35.toNat)).d (Kq (q.l aK aP aT) (q.lo (rd v33 v35.toNat))) (z5c (q.l bG bN bR) (q.hi (rd v33 v35.toNat))) ((q.rc (rd v33 v35.toNat)).d == (q.w aP aT))))) v26 v33 v34 (IntKind.wrap .i64 (v35+1)) aK aP aT bG bN bR)) else .stuck))) else (bif ((q.u bG bN) != (q.rc (rd v33 v35.toNat)).a) then (.to (.h1 q v5 v26 v33 v34 (IntKind.wrap .i64 (v35+1)) aK aP aT bG bN bR)) else (bif ((q.w bN bR) != (q.rc (rd v33 v35.toNat)).b) then (bif ((q.rc (rd v33 v35.toNat)).d != (q.w aP aT)) then (.to (.h1 q v5 v26 v33 v34 (IntKind.wrap .i64 (v35+1)) aK aP aT bG bN bR)) else (bif (Qm q (cvT l0) (q.u bG bN) (q.w aP aT) (Kq (q.l aK aP aT) (q.lo (rd v33 v35.toNat))) (z5c (q.l bG bN bR) (q.hi (rd v33 v35.toNat))) ((q.w bN bR) == (q.rc (rd v33 v35.toNat)).b)) then (.to (.h1 q (IntKind.wrap .i64 (v5+(mpoV q (cvT l0) (q.u bG bN) (q.w aP aT) (Kq (q.l aK aP aT) (q.lo (rd v33 v35.toNat))) (z5c (q.l bG bN bR) (q.hi (rd v33 v35.toNat))) ((q.w bN bR) == (q.rc (rd v33 v35.toNat)).b)))) v26 v33 v34 (IntKind.wrap .i64 (v35+1)) aK aP aT bG bN bR)) else .stuck)) else (bif (Qm q (cvT l0) (q.u bG bN) (q.w bN bR) (Kq (q.l aK aP aT) (q.lo (rd v33 v35.toNat))) (z5c (q.l bG bN bR) (q.hi (rd v33 v35.toNat))) ((q.w bN bR) == (q.rc (rd v33 v35.toNat)).b)) then (.to (.h1 q (IntKind.wrap .i64 (v5+(mpoV q (cvT l0) (q.u bG bN) (q.w bN bR) (Kq (q.l aK aP aT) (q.lo (rd v33 v35.toNat))) (z5c (q.l bG bN bR) (q.hi (rd v33 v35.toNat))) ((q.w bN bR) == (q.rc (rd v33 v35.toNat)).b)))) v26 v33 v34 (IntKind.wrap .i64 (v35+1)) aK aP aT bG bN bR)) else .stuck)))) else .stuck) else (.to (.h0 q v5 (IntKind.wrap .i64 (v26+1)))))
def y0y (l0:List R6):Xf mpiS:=(bif (z1h (cvT l0)) then (bif ((Wk (cvT l0)) != 0) then (.ret [(.int .i64 0),(.int .i64 (Wk (cvT l0)))]) else (.to (.h0 .x 0 0))) else .stuck)
theorem u3o (l0:List R6) (v5:Int) (v26:Int) (k0:(decide (v26<(l0.length:Int)))=false):Xj prog (Zy prog 17) (y8v l0) (y8v l0 (.h0 .x v5 v26)) (mpiE .x v5):=(sl z4h 36 [] ⟨[1],[],v3z,v4a⟩ ⟨[],[],[]⟩ [false,true,true,false] (tt k0 nn))
theorem u3n (l0:List R6) (v5:Int) (v26:Int) (k0:(decide (v26<(l0.length:Int)))=false):Xj prog (Zy prog 17) (y8v l0) (y8v l0 (.h0 .y v5 v26)) (mpiE .y v5):=(sl z4h 36 [] ⟨[1],[],v3z,v4a⟩ ⟨[],[],[]⟩ [false,true,true,true,false] (tt k0 nn))
theorem u3m (l0:List R6) (v5:Int) (v26:Int) (k0:(decide (v26<(l0.length:Int)))=false):Xj prog (Zy prog 17) (y8v l0) (y8v l0 (.h0 .z v5 v26)) (mpiE .z v5):=(lr 125 3 [1,1,1,1,1,1,1,0] 1 15 [(2,(ii v5)),(3,(ii 0))] (sl z4h 26 [] ⟨[],[],[some [2,3]],[]⟩ ⟨[],[],[]⟩ [false,false] (tt k0 nn)))
theorem mpi_ex (q:Ax) (l0:List R6) (v5:Int) (v26:Int) (k0:(decide (v26<(l0.length:Int)))=false):Xj prog (Zy prog 17) (y8v l0) (y8v l0 (.h0 q v5 v26)) (mpiE q v5):=match q with
 | .x =>u3o l0 v5 v26 k0
 | .y =>u3n l0 v5 v26 k0
 | .z =>u3m l0 v5 v26 k0
theorem mpi_s0 (q:Ax) (l0:List R6) (v5:Int) (v26:Int):Xj prog (Zy prog 17) (y8v l0) (y8v l0 (.h0 q v5 v26)) (z4z l0 (.h0 q v5 v26)):=by cases q <;> refine (?f: ∀q:Ax,Xj prog (Zy prog 17) (y8v l0) (y8v l0 (.h0 q v5 v26)) (z4z l0 (.h0 q v5 v26))) _ <;> exact fun q=>(lb (fun k0=>(lo fun o0=>(lo fun o1=>(lo fun o2=>(lo fun o3=>(sl z4h 28 [] ⟨[0,1],[],y8t,y8u⟩ ⟨[(33,.list (z2z l0 0 (tn v26)).length (Zz (z2z l0 0 (tn v26))))],[],[]⟩ [true] (pp (xL (tn v26) (z2z l0 0 (tn v26)).length) (pp (xS (tn v26) (fun k=>(Zz l0) (0+k)) (Zz (z2z l0 0 (tn v26)))) (pp (pp (xw o3) (pp nn (pp (xG (decide ((tn v26)≤l0.length))) (pp (xG (decide (0≤(tn v26)))) (xG (lenR l0.length (Zz l0) 6)))))) (ww o0 (tt k0 nn))))))))))) (fun k0=>mpi_ex q l0 v5 v26 k0))
theorem mpi_s1 (q:Ax) (l0:List R6) (v5:Int) (v26:Int) (v33:List R6) (v34:Int) (v35:Int) (aK:Int) (aP:Int) (aT:Int) (bG:Int) (bN:Int) (bR:Int):Xj prog (Zy prog 17) (y8v l0) (y8v l0 (.h1 q v5 v26 v33 v34 v35 aK aP aT bG bN bR)) (z4z l0 (.h1 q v5 v26 v33 v34 v35 aK aP aT bG bN bR)):=by cases q <;> refine (?f: ∀q:Ax,Xj prog (Zy prog 17) (y8v l0) (y8v l0 (.h1 q v5 v26 v33 v34 v35 aK aP aT bG bN bR)) (z4z l0 (.h1 q v5 v26 v33 v34 v35 aK aP aT bG bN bR))) _ <;> exact fun q=>(lb (fun k0=>(lo fun aG=>(lb (fun k1=>(lb (fun k2=>(sl z4h 64 [] ⟨[0,1],[],y8t,y8u⟩ ⟨[],[],[]⟩ (trs 10 []) (tt k2 (tt k1 (ww aG (tt k0 nn)))))) (fun k2=>(lb (fun k3=>(lb (fun k4=>(sl z4h 64 [] ⟨[0,1],[],y8t,y8u⟩ ⟨[],[],[]⟩ [true,true,false,false,false,false,false,false,true,true,true,true,true,false,true] (tt k4 (tt k3 (tt k2 (tt k1 (ww aG (tt k0 nn)))))))) (fun k4=>(lo fun o0=>(sl z4h 87 [] ⟨[0,1],[],y8t,y8u⟩ ⟨[],[],[]⟩ [true,true,false,false,false,false,false,false,true,true,true,true,true,false,false,true] (pp (pp (pp nn (pp nn (pp nn (pp nn (pp nn (pp nn (pp nn nn))))))) (pp (xr l0) (xw o0))) (tt k3 (tt k4 (tt k3 (tt k2 (tt k1 (ww aG (tt k0 nn))))))))))))) (fun k3=>(lo fun o0=>(sl z4h 83 [] ⟨[0,1],[],y8t,y8u⟩ ⟨[],[],[]⟩ [true,true,false,false,false,false,false,false,false,false,false,false,false,false,false,false] (pp (pp (pp nn (pp nn (pp nn (pp nn (pp nn (pp nn (pp nn nn))))))) (pp (xr l0) (xw o0))) (tt k3 (tt k3 (tt k2 (tt k1 (ww aG (tt k0 nn)))))))))))))) (fun k1=>(lb (fun k2=>(sl z4h 59 [] ⟨[0,1],[],y8t,y8u⟩ ⟨[],[],[]⟩ [true,false,true,true,true,true,true,true,true,true] (tt k2 (tt k1 (ww aG (tt k0 nn)))))) (fun k2=>(lb (fun k3=>(lb (fun k4=>(sl z4h 59 [] ⟨[0,1],[],y8t,y8u⟩ ⟨[],[],[]⟩ [true,false,false,false,false,false,false,false,true,true,true,true,true,false,true] (tt k4 (tt k3 (tt k2 (tt k1 (ww aG (tt k0 nn)))))))) (fun k4=>(lo fun o0=>(sl z4h 82 [] ⟨[0,1],[],y8t,y8u⟩ ⟨[],[],[]⟩ [true,false,false,false,false,false,false,false,true,true,true,true,true,false,false,true] (pp (pp (pp nn (pp nn (pp nn (pp nn (pp nn (pp nn (pp nn nn))))))) (pp (xr l0) (xw o0))) (tt k3 (tt k4 (tt k3 (tt k2 (tt k1 (ww aG (tt k0 nn))))))))))))) (fun k3=>(lo fun o0=>(sl z4h 78 [] ⟨[0,1],[],y8t,y8u⟩ ⟨[],[],[]⟩ [true,false,false,false,false,false,false,false,false,false,false,false,false,false,false,false] (pp (pp (pp nn (pp nn (pp nn (pp nn (pp nn (pp nn (pp nn nn))))))) (pp (xr l0) (xw o0))) (tt k3 (tt k3 (tt k2 (tt k1 (ww aG (tt k0 nn))))))))))))))))) (fun k0=>(sl z4h 13 [] ⟨[0],[],v3z,v4a⟩ ⟨[],[],[]⟩ [false] (tt k0 nn))))
theorem w2i (l0:List R6): ∀s,Xj prog (Zy prog 17) (y8v l0) (y8v l0 s) (z4z l0 s)
 | .h0 q v5 v26=>mpi_s0 q l0 v5 v26
 | .h1 q v5 v26 v33 v34 v35 aK aP aT bG bN bR=>mpi_s1 q l0 v5 v26 v33 v34 v35 aK aP aT bG bN bR
theorem x5l (l0:List R6):Xj prog (Zy prog 17) (y8v l0) (Ze prog 17 [(.dat l0.length (Zz l0))] true []) (y0y l0):=(lo fun bU=>(lb (fun k0=>(lr 125 17 [1,0,1,1,0,0] 1 15 [(2,(ii 0)),(3,(ii (Wk (cvT l0))))] (sl z4h 24 [] ⟨[],[],[some [2,3]],[]⟩ ⟨[],[],[]⟩ [true] (tt k0 (pp (pp (xr l0) (xw bU)) nn))))) (fun k0=>(sl z4h 67 [] ⟨[1],[],v3z,v4a⟩ ⟨[],[],[]⟩ [false,true,false] (tt k0 (pp (pp (xr l0) (xw bU)) nn))))))
theorem v3y (l0:List R6) (n:Nat) (vs:List AVal) (h:Yv (z4z l0) n (y0y l0)=.ret vs):Ky prog (Zy prog 17) (Ze prog 17 [(.dat l0.length (Zz l0))] true []) vs:=by have:=Zr (w2i l0) n _ (x5l l0);rwa [h] at this
end Go.Am
namespace Go.Am
open Go.Proofs Go.Sort Go.Shelf Go.RowKit Go.Lib
def ind (a b t:Int):Int:=if a≤t∧t<b then 1 else 0
def Pts (p:List Int):Prop:=(∀a b,-1000005≤a∧b≤1000005→sm p (ind a b)=max 0 (b - a))∧p.length=2000010
def inR (r:R6) (x y z:Int):Int:=ind r.a r.d x*ind r.b r.e y*ind r.c r.f z
end Go.Am
namespace Go.Am
open Go.Proofs Go.Sort Go.Shelf Go.RowKit Go.Lib
theorem sm_pos {α:Type} {l:List α} {f:α→Int} (h:sm l f≠0): ∃x∈l,f x≠0:=Classical.byContradiction fun hn=>h (by
 have:sm l f=sm l fun _=>0:=v1r fun x hx=>Classical.byContradiction fun e=>hn ⟨x,hx,e⟩;rw [this,u1f])
theorem x5e {p:List Int} (hp:Pts p) {t:Int} (h: -1000005≤t∧t<1000005):t∈p:=by
 have h1:=hp.1 t (t+1) (by omega);have h2:sm p (ind t (t+1))≠0:=by rw [h1];omega
 obtain ⟨x,hx,hn⟩:=sm_pos h2;unfold ind at hn;split at hn
 ·have:x=t:=by omega
  rwa [←this]
 ·exact absurd rfl hn
def inS (X:List R6) (x y z:Int):Prop:= ∃r∈X,(r.a≤x∧x<r.d)∧(r.b≤y∧y<r.e)∧(r.c≤z∧z<r.f)
theorem w8s (X:List R6) (x y z:Int):inS X x y z↔ptL x8j.inB X (z,x,y):=by
 constructor
 ·rintro ⟨r,hr,h1,h2,h3⟩;exact ⟨r,hr,h3.1,h3.2,h1.1,h1.2,h2.1,h2.2⟩
 ·rintro ⟨r,hr,h1,h2,h3,h4,h5,h6⟩;exact ⟨r,hr,⟨h3,h4⟩,⟨h5,h6⟩,h1,h2⟩
structure Sol (X:List R6):Prop where
 len:X.length≤400
 val: ∀r∈X,z0m r=true
 ap:X.Pairwise Ap6
theorem Sol.of {X:List R6} (h:Wk X=0):Sol X:=⟨(Xo h).1,(Xo h).2.1,(Xo h).2.2.2⟩
theorem Sol.bnd {X:List R6} (h:Sol X) {x y z:Int} (hp:inS X x y z):(-1000000≤x∧x<1000000)∧(-1000000≤y∧y<1000000)∧(-1000000≤z∧z<1000000):=by obtain ⟨r,hr,h1,h2,h3⟩:=hp;have:=z5q (h.val r hr);omega
theorem Sol.pts {p:List Int} (hp:Pts p) {X:List R6} (h:Sol X) {x y z:Int} (hq:inS X x y z):x∈p∧y∈p∧z∈p:=by have:=h.bnd hq;exact ⟨x5e hp (by omega),x5e hp (by omega),x5e hp (by omega)⟩
end Go.Am
namespace Go.Am
open Go.Proofs Go.Sort Go.Shelf Go.RowKit Go.Lib
theorem Dim.goS_cg {α β:Type} (D:Dim α β) (f g:Int→List β) (cs:List Int): ∀(k i:Nat) (s:Sw α β),(∀j,i≤j→j<i+k→f (rd cs j)=g (rd cs j))→D.goS f cs k i s=D.goS g cs k i s
 | 0,i,s,_=>rfl
 | k+1,i,s,h=>by show D.goS f cs k (i+1) (D.oneS (f (rd cs i)) _ _ s)=D.goS g cs k (i+1) (D.oneS (g (rd cs i)) _ _ s);rw [h i (Nat.le_refl _) (by omega)];exact goS_cg D f g cs k (i+1) _ fun j h1 h2=>h j (by omega) (by omega)
theorem x2o {n:Nat} (h:y7l n=0):n≤400:=by
 unfold y7l at h;by_cases q:(n:Int)>400
 ·rw [decide_eq_true q] at h;cases h
 ·omega
theorem w6k {l:List R4} (h:Xp l=0):l.length≤400∧(∀r∈l,Vx r=true)∧Zg l=D4.out l:=by
 unfold Xp at h;cases g1:decide (400<l.length) with
 | true=>rw [g1] at h;cases h
 | false=>
  cases g2:l.all Vx with
  | false=>rw [g1,g2] at h;cases h
  | true=>
   rw [g1,g2,cond_false,cond_true] at h;have hl:l.length≤400:=by have:=of_decide_eq_false g1;omega
   refine ⟨hl,List.all_eq_true.1 g2,?_⟩;exact (z6a (List.all_eq_true.1 g2) hl (x2o h)).1
theorem x9c {l:List R6}: ∀(k i:Nat),okF l k i=true→ ∀j,i≤j→j<i+k→Xp (D6.inn l (rd (D6.cuts l) j))=0
 | 0,i,h,j,h1,h2=>by omega
 | k+1,i,h,j,h1,h2=>by
  unfold okF at h;rcases Yf (v0q l (rd (D6.cuts l) i)) with q | q
  ·rw [q] at h;cases h
  ·rw [q,cond_false] at h;rcases Nat.eq_or_lt_of_le h1 with e | e
   ·rw [←e];unfold v0q at q
    simpa using q
   ·exact x9c k (i+1) h j e (by omega)
theorem v1s {l:List R6} (h:Ku l=0):l.length≤400∧(∀r∈l,z0m r=true)∧okF l ((D6.cuts l).length - 1) 0=true∧(D6.out l).length ≤400:=by
 unfold Ku at h;cases g1:decide (400<l.length) with
 | true=>rw [g1] at h;cases h
 | false=>
  cases g2:l.all z0m with
  | false=>rw [g1,g2] at h;cases h
  | true=>
   rw [g1,g2,cond_false,cond_true] at h;cases g3:okF l ((D6.cuts l).length - 1) 0 with
   | false=>rw [g3,cond_false] at h;have:=v5t _ _ g3;rw [h] at this;cases this
   | true=>rw [g3,cond_true] at h;exact ⟨by have:=of_decide_eq_false g1;omega,List.all_eq_true.1 g2,rfl,x2o h⟩
theorem w5l {l:List R6} (h:Ku l=0):Xi l=D6.out l:=by unfold Xi y9k;rw [h];rfl
theorem u1h {l:List R6} (h:Ku l=0):x8j.can (Xi l)∧ ∀x y z,inS (Xi l) x y z↔inS l x y z:=by
 obtain ⟨hl,hv,hok,ho⟩:=v1s h;have hf:=x9c _ _ hok;rw [w5l h];have hc:(D6.cuts l).Pairwise (· < ·):=by show (Ug (D6.ends l)).Pairwise (· < ·);rw [Uv];exact (Xc _).1
 have eS:D6.out l=(D6.goS (fun x=>bif Xp (D6.inn l x) != 0 then [] else Zg (D6.inn l x)) (D6.cuts l) ((D6.cuts l).length - 1) 0 ⟨[],[],0,0⟩).out :=by unfold Dim.out;rw [D6.go_goS,D6.goS_cg (D6.sec l) (fun x=>bif Xp (D6.inn l x) != 0 then [] else Zg (D6.inn l x))];intro j h1 h2;show _=bif Xp (D6.inn l _) != 0 then _ else _;rw [hf j h1 h2];rfl
 have hs: ∀x,Wx.can (bif Xp (D6.inn l x) != 0 then [] else Zg (D6.inn l x)):=fun x=>by
  cases g:(Xp (D6.inn l x) != 0) with
  | true=>exact Wx.nil
  | false=>obtain ⟨m1,m2,m3⟩:=w6k (show Xp (D6.inn l x)=0 by simpa using g);rw [cond_false,m3];exact (Qk m2 m1).1
 obtain ⟨h1,h2⟩:=Dim.goS_can z2f x0q Wx (cs:=D6.cuts l) hc hs;rw [eS];refine ⟨h1,fun x y z=> ?_⟩;rw [w8s,w8s,show ptL x8j.inB _ (z,x,y)↔_ from h2 z (x,y)];have ia: ∀j,j+1<(D6.cuts l).length →rd (D6.cuts l) j≤z→z<rd (D6.cuts l) (j+1)→(ptL Wx.inB (bif Xp (D6.inn l (rd (D6.cuts l) j)) != 0 then [] else Zg (D6.inn l (rd (D6.cuts l) j))) (x,y)↔ptL x8j.inB l (z,x,y)):=fun j j1 j2 j3=>by have q:=hf j (Nat.zero_le _) (by omega);obtain ⟨m1,m2,m3⟩:=w6k q;rw [q,show ((0:Int) != 0)=false from rfl,cond_false,m3,(Qk m2 m1).2,Dim.inn_slab l l (fun r hr=>hr) j1 j2 j3];exact Dim.pt_inn (D:=D6) Wx.inB l z (x,y)
 constructor
 ·rintro ⟨j,j1,j2,j3,j4⟩;exact (ia j j1 j2 j3).1 j4
 ·intro hp;refine Classical.byContradiction fun hn=> ?_;have hx: ∀j,j+1<(D6.cuts l).length → ¬(rd (D6.cuts l) j≤z∧z<rd (D6.cuts l) (j+1)):=fun j j1 j2=>hn ⟨j,j1,j2.1,j2.2,(ia j j1 j2.1 j2.2).2 hp⟩;have g:=(Dim.pt_inn (D:=D6) Wx.inB l z (x,y)).2 hp;rw [Dim.inn_out l l (fun r hr=>hr) hx] at g;exact z2v _ _ g
theorem x8i {L:List R6} (h:Wk L=0):Ku L=0∧Xi L=L:=by
 have hs:=Xo h;have key:Ku L=0:=by
  unfold Wk at h;unfold Ku;cases g1:decide (400<L.length) with
  | true=>rw [g1] at h;cases h
  | false=>
   cases g2:L.all z0m with
   | false=>rw [g1,g2] at h;cases h
   | true=>
    rw [g1,g2,cond_false,cond_true] at h;cases g3:okF L ((D6.cuts L).length - 1) 0 with
    | false=>rw [g3] at h;cases h
    | true=>rw [cond_false,cond_true,cond_true];unfold y7l;rw [←hs.2.2.1,Xv (by have:=hs.1;omega)];rfl
 exact ⟨key,(w5l key).trans hs.2.2.1.symm⟩
theorem x4d {L:List R6} (h:Wk L=0):x8j.can L:=by obtain ⟨h1,h2⟩:=x8i h;have:=(u1h h1).1;rwa [h2] at this
end Go.Am
end
