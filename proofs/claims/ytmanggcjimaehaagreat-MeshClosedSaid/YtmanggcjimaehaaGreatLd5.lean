/- A part of a proof: several texts in one. -/
import Derived.Test.YtmanggcjimaehaaGreatLd4
set_option maxRecDepth 1000000
set_option maxHeartbeats 8000000
set_option linter.unusedVariables false
set_option linter.unusedSimpArgs false
noncomputable section
namespace Go.Am
open Go.Proofs.Tryz
open Go.Proofs
inductive rgjS where
 | h0 (v16:Int) (aA:List Int)
 | h1 (v16:Int) (aA:List Int)
 | h2 (v4:Int) (aG:List R4) (aS:List R2) (bC:Int) (bD:Int) (aE:Nat) (aH:List Int)
 | h3 (v4:Int) (v38:Int) (aG:List R4) (aS:List R2) (bC:Int) (bD:Int) (aE:Nat) (aH:List Int) (aR:Int) (bE:Int) (aB:List R2)
 | h4 (v4:Int) (v38:Int) (aG:List R4) (aS:List R2) (bC:Int) (bD:Int) (aE:Nat) (aH:List Int) (aR:Int) (bE:Int) (aB:List R2) (aK:List R2)
 | h5 (v1:Int) (v2:Int) (v71:List R2) (v72:Int) (v73:Int) (aU:Int) (aD:List R4) (bA:Int) (aE:Nat) (aH:List Int) (aR:List R2) (bE:List R2)
 | h6 (v2:Int) (v8:Int) (cQ:Int) (cR:List R2) (aU:Int) (aD:List R4) (aZ:List R2) (bA:Int) (bX:Int) (bK:Nat) (bT:List Int) (aB:List R2) (aK:List R2)
def y4g (q:Op) (l0:List R4) (l1:List R4):AFr:=⟨⟨11,0,true⟩,(Jk prog (nRg q) [1,0] 2),(Zd prog (nRg q) [1,0] 1),none,(Zy prog 28),Yd [(6,(.dat l0.length (Zz l0))),(7,(.dat l1.length (Zz l1)))]⟩
abbrev y8m (aD:List R4) (v8:Int) (v2:Int):=(aD.set (0+(tn v8)) (R4.mk (rd aD (0+(tn v8))).a (rd aD (0+(tn v8))).b v2 (rd aD (0+(tn v8))).d))
def v0t :=(y7a [(0,⟨.ready,none,49,Yd [(5,(.ptr 1 0)),(6,(.ptr 2 0)),(7,(.ptr 3 0)),(9,(.ptr 4 0))],[23],(Vn prog 122 [1,1,1,0,1,0,0]),(Vn prog 122 [1,1,1,0,1,0,1])⟩)])
abbrev y8l (aA:List Int):=(Wh (Yw aA.length (cOf (Zz (Xm (Yw aA.length (cOf (Zz aA))))))))
def v0s :AFr:=⟨⟨49,0,true⟩,none,(.inRangeFunc 0::(Zd prog 122 [1,1,1,0,1,0] 1)),none,(Zy prog 122),Yd [(6,(.ptr 2 0)),(7,(.ptr 3 0)),(9,(.ptr 4 0))]⟩
def y4f (l0:List R4) (l1:List R4):ABlk:=⟨[(.dat l0.length (Zz l0)),(.dat l1.length (Zz l1))],100,none⟩
def u3o :AFr:=⟨⟨49,0,true⟩,(Jk prog 122 [1,1,1,0,0] 3),(Zd prog 122 [1,1,1,0,0] 1),none,(Zy prog 122),Yd [(5,(.ptr 3 0)),(6,(.ptr 4 0)),(7,(.ptr 5 0)),(9,(.ptr 6 0)),(21,(.sl 1 0 2 (.un 1)))]⟩
abbrev y8k (aB:List R2) (l0:List R4) (v38:Int):=(aB++[(R2.mk (rd l0 (tn v38)).b (rd l0 (tn v38)).d)])
abbrev y8j (aK:List R2) (l1:List R4) (v38:Int):=(aK++[(R2.mk (rd l1 (tn v38)).b (rd l1 (tn v38)).d)])
def y4e (q:Op):ABlk:=⟨[(.fn (nSp q) [])],151,none⟩
abbrev z9i (aD:List R4) (v1:Int) (v71:List R2) (v73:Int) (v2:Int):=(aD++[(R4.mk v1 (rd v71 (tn v73)).a v2 (rd v71 (tn v73)).b)])
abbrev z9h (aA:List Int) (l0:List R4) (v16:Int):=(aA++[(rd l0 (tn v16)).a,(rd l0 (tn v16)).c])
abbrev z9g (aA:List Int) (l1:List R4) (v16:Int):=(aA++[(rd l1 (tn v16)).a,(rd l1 (tn v16)).c])
def x0w :ABlk:=⟨[(.sl 8 0 2 (.un 1))],236,none⟩
def v0u :=(Zd prog 190 [1,0,0,1,0,0,1,0,1,0,0,1,1,0,0,1,1,0,0] 0)
def rgjC (q:Op) (l0:List R4) (l1:List R4):rgjS→Cfg
 | .h0 v16 aA=>⟨⟨34,0,true⟩,none,(Zd prog 161 [1,1,0,1,0,0,1,1,0,0,1,1,0,0] 0),none,(Zy prog 3),⟨Yd [(1,(.ptr 0 0)),(3,(.ptr 2 0)),(8,(.sl 1 0 2 (.un 1))),(9,(ii 2)),(10,(ii 0)),(14,(.dat l0.length (Zz l0))),(15,(ii (l0.length:Int))),(16,(ii v16))],Uw [⟨[(.sl 1 0 2 (.un 1))],236,none⟩,(y4f l0 l1),⟨[(.sla 7 1 0 aA.length (.un 1))],93,none⟩,(y4e q),⟨[.nils],100,none⟩,⟨[(ii 0)],26,none⟩,⟨[.nils,.nils,(ii 0),(ii 0)],200,none⟩,⟨rows aA.length (Zz aA),3,some ⟨1,aA.length,(Zz aA)⟩⟩] 0,8,[],true⟩,[u3o,(y4g q l0 l1)],.leaf⟩
 | .h1 v16 aA=>⟨⟨34,0,true⟩,none,(Zd prog 161 [1,1,0,1,0,0,1,1,0,0,1,1,0,0] 0),none,(Zy prog 3),⟨Yd [(1,(.ptr 0 0)),(3,(.ptr 2 0)),(8,(.sl 1 0 2 (.un 1))),(9,(ii 2)),(10,(ii 1)),(14,(.dat l1.length (Zz l1))),(15,(ii (l1.length:Int))),(16,(ii v16))],Uw [⟨[(.sl 1 0 2 (.un 1))],236,none⟩,(y4f l0 l1),⟨[(.sla 7 1 0 aA.length (.un 1))],93,none⟩,(y4e q),⟨[.nils],100,none⟩,⟨[(ii 0)],26,none⟩,⟨[.nils,.nils,(ii 0),(ii 0)],200,none⟩,⟨rows aA.length (Zz aA),3,some ⟨1,aA.length,(Zz aA)⟩⟩] 0,8,[],true⟩,[u3o,(y4g q l0 l1)],.leaf⟩
 | .h2 v4 aG aS bC bD aE aH=>⟨⟨76,0,true⟩,none,(Zd prog 190 [1,0,0] 0),none,[],⟨Yd [(0,(.yld 0)),(1,(.ptr 5 0)),(2,(.ptr 7 0)),(4,(ii v4))],y1b [(1,(y4e q)),(2,⟨[.nils],100,none⟩),(3,⟨[(ii 0)],26,none⟩),(4,⟨[(.sla 9 4 0 aG.length (.un 4)),(.dat aS.length (Zz aS)),(ii bC),(ii bD)],200,none⟩),(5,⟨[(.sla 6 1 0 aE (.un 1))],93,none⟩),(6,⟨rows aH.length (Zz aH),3,some ⟨1,aH.length,(Zz aH)⟩⟩),(7,x0w),(8,(y4f l0 l1)),(9,⟨rows aG.length (Zz aG),88,some ⟨4,aG.length,(Zz aG)⟩⟩)],10,[],true⟩,[v0s,(y4g q l0 l1)],v0t⟩
 | .h3 v4 v38 aG aS bC bD aE aH aR bE aB=>⟨⟨76,0,true⟩,none,v0u,none,[],⟨Yd [(0,(.yld 0)),(1,(.ptr 5 0)),(2,(.ptr 7 0)),(4,(ii v4)),(5,(.ptr 9 0)),(6,(ii 0)),(29,(.sl 8 0 2 (.un 1))),(30,(ii 2)),(31,(ii 0)),(36,(.dat l0.length (Zz l0))),(37,(ii (l0.length:Int))),(38,(ii v38))],y1b [(1,(y4e q)),(2,⟨[.nils],100,none⟩),(3,⟨[(ii 0)],26,none⟩),(4,⟨[(.sla 12 4 0 aG.length (.un 4)),(.dat aS.length (Zz aS)),(ii bC),(ii bD)],200,none⟩),(5,⟨[(.sla 6 1 0 aE (.un 1))],93,none⟩),(6,⟨rows aH.length (Zz aH),3,some ⟨1,aH.length,(Zz aH)⟩⟩),(7,x0w),(8,(y4f l0 l1)),(9,⟨[(ii aR),(ii bE),(.sl 10 0 2 (.ex 2))],205,none⟩),(10,⟨[(.sla 11 2 0 aB.length (.un 2)),.nils],180,none⟩),(11,⟨rows aB.length (Zz aB),183,some ⟨2,aB.length,(Zz aB)⟩⟩),(12,⟨rows aG.length (Zz aG),88,some ⟨4,aG.length,(Zz aG)⟩⟩)],13,[],true⟩,[v0s,(y4g q l0 l1)],v0t⟩
 | .h4 v4 v38 aG aS bC bD aE aH aR bE aB aK=>⟨⟨76,0,true⟩,none,v0u,none,[],⟨Yd [(0,(.yld 0)),(1,(.ptr 5 0)),(2,(.ptr 7 0)),(4,(ii v4)),(5,(.ptr 9 0)),(6,(ii 1)),(29,(.sl 8 0 2 (.un 1))),(30,(ii 2)),(31,(ii 1)),(36,(.dat l1.length (Zz l1))),(37,(ii (l1.length:Int))),(38,(ii v38))],y1b [(1,(y4e q)),(2,⟨[.nils],100,none⟩),(3,⟨[(ii 0)],26,none⟩),(4,⟨[(.sla 13 4 0 aG.length (.un 4)),(.dat aS.length (Zz aS)),(ii bC),(ii bD)],200,none⟩),(5,⟨[(.sla 6 1 0 aE (.un 1))],93,none⟩),(6,⟨rows aH.length (Zz aH),3,some ⟨1,aH.length,(Zz aH)⟩⟩),(7,x0w),(8,(y4f l0 l1)),(9,⟨[(ii aR),(ii bE),(.sl 10 0 2 (.ex 2))],205,none⟩),(10,⟨[(.sla 11 2 0 aB.length (.un 2)),(.sla 12 2 0 aK.length (.un 2))],180,none⟩),(11,⟨rows aB.length (Zz aB),183,some ⟨2,aB.length,(Zz aB)⟩⟩),(12,⟨rows aK.length (Zz aK),183,some ⟨2,aK.length,(Zz aK)⟩⟩),(13,⟨rows aG.length (Zz aG),88,some ⟨4,aG.length,(Zz aG)⟩⟩)],14,[],true⟩,[v0s,(y4g q l0 l1)],v0t⟩
 | .h5 v1 v2 v71 v72 v73 aU aD bA aE aH aR bE=>⟨⟨94,0,true⟩,none,(Zd prog 158 [1,1,1,0,0] 0),none,[],⟨Yd [(0,(.ptr 0 0)),(1,(ii v1)),(2,(ii v2)),(71,(.dat v71.length (Zz v71))),(72,(ii v72)),(73,(ii v73))],y1b [(0,⟨[(.sla 10 4 0 aD.length (.un 4)),(.dat v71.length (Zz v71)),(ii bA),(ii v2)],200,none⟩),(2,(y4e q)),(3,⟨[.nils],100,none⟩),(4,⟨[(ii 0)],26,none⟩),(5,⟨[(.sla 6 1 0 aE (.un 1))],93,none⟩),(6,⟨rows aH.length (Zz aH),3,some ⟨1,aH.length,(Zz aH)⟩⟩),(7,x0w),(8,(y4f l0 l1)),(9,⟨[(.dat aR.length (Zz aR)),(.dat bE.length (Zz bE))],180,none⟩),(10,⟨rows aD.length (Zz aD),88,some ⟨4,aD.length,(Zz aD)⟩⟩)],11,[],true⟩,[⟨⟨49,0,true⟩,(Jk prog 122 [1,1,1,0,1,0,1,0,1,1] 5),(Zd prog 122 [1,1,1,0,1,0,1,0,1,1] 1),(some 1),[],Yd [(9,(.ptr 0 0)),(41,(ii v1)),(43,(ii v2)),(44,(.dat v71.length (Zz v71)))]⟩,⟨⟨76,0,true⟩,(Jk prog 190 [1,0,0,1,0,0,1,1,0] 2),(Zd prog 190 [1,0,0,1,0,0,1,1,0] 1),none,[],Yd [(0,(.yld 1)),(1,(.ptr 5 0)),(2,(.ptr 7 0)),(4,(ii aU)),(72,(.yld 1)),(73,(.agg [(ii v1),(ii v2),(.sl 9 0 2 (.ex 2))]))]⟩,⟨⟨49,0,true⟩,none,(.inRangeFunc 1::(Zd prog 122 [1,1,1,0,1,0] 1)),none,(Zy prog 122),Yd [(6,(.ptr 3 0)),(7,(.ptr 4 0)),(9,(.ptr 0 0))]⟩,(y4g q l0 l1)],(y7a [(1,⟨.busy,none,49,Yd [(5,(.ptr 2 0)),(6,(.ptr 3 0)),(7,(.ptr 4 0)),(9,(.ptr 0 0))],[23],(Vn prog 122 [1,1,1,0,1,0,0]),(Vn prog 122 [1,1,1,0,1,0,1])⟩)])⟩
 | .h6 v2 v8 cQ cR aU aD aZ bA bX bK bT aB aK=>⟨⟨94,0,true⟩,none,(Zd prog 158 [0,1,0,0,1,0,0] 0),none,[],⟨Yd [(0,(.ptr 0 0)),(2,(ii v2)),(8,(ii v8))],y1b [(0,⟨[(.sla 1 4 0 aD.length (.un 4)),(.dat aZ.length (Zz aZ)),(ii bA),(ii bX)],200,none⟩),(1,⟨rows aD.length (Zz aD),88,some ⟨4,aD.length,(Zz aD)⟩⟩),(3,(y4e q)),(4,⟨[.nils],100,none⟩),(5,⟨[(ii 0)],26,none⟩),(6,⟨[(.sla 7 1 0 bK (.un 1))],93,none⟩),(7,⟨rows bT.length (Zz bT),3,some ⟨1,bT.length,(Zz bT)⟩⟩),(8,⟨[(.sl 9 0 2 (.un 1))],236,none⟩),(9,(y4f l0 l1)),(10,⟨[(.dat aB.length (Zz aB)),(.dat aK.length (Zz aK))],180,none⟩)],11,[],true⟩,[⟨⟨49,0,true⟩,(Jk prog 122 [1,1,1,0,1,0,1,0,1,1] 5),(Zd prog 122 [1,1,1,0,1,0,1,0,1,1] 1),(some 2),[],Yd [(9,(.ptr 0 0)),(41,(ii cQ)),(43,(ii v2)),(44,(.dat cR.length (Zz cR)))]⟩,⟨⟨76,0,true⟩,(Jk prog 190 [1,0,0,1,0,0,1,1,0] 2),(Zd prog 190 [1,0,0,1,0,0,1,1,0] 1),none,[],Yd [(0,(.yld 2)),(1,(.ptr 6 0)),(2,(.ptr 8 0)),(4,(ii aU)),(72,(.yld 2)),(73,(.agg [(ii cQ),(ii v2),(.sl 10 0 2 (.ex 2))]))]⟩,⟨⟨49,0,true⟩,none,(.inRangeFunc 2::(Zd prog 122 [1,1,1,0,1,0] 1)),none,(Zy prog 122),Yd [(6,(.ptr 4 0)),(7,(.ptr 5 0)),(9,(.ptr 0 0))]⟩,(y4g q l0 l1)],(y7a [(2,⟨.busy,none,49,Yd [(5,(.ptr 3 0)),(6,(.ptr 4 0)),(7,(.ptr 5 0)),(9,(.ptr 0 0))],[23],(Vn prog 122 [1,1,1,0,1,0,0]),(Vn prog 122 [1,1,1,0,1,0,1])⟩)])⟩
def rgjN0 :List (Option (List Nat)):=[some [1,3,8,9,10,14,15,16],some [5,6,7,9,21],some [6,7]]
def rgjM0 :List (Option (List Nat)):=[]
def rgjN1 :List (Option (List Nat)):=[some [1,3,8,9,10,14,15,16],some [5,6,7,9,21],some [6,7]]
def rgjM1 :List (Option (List Nat)):=[]
def u8q :List (Option (List Nat)):=[some [0,1,2,4],some [6,7,9],some [6,7]]
def u8r :List (Option (List Nat)):=[some [5,6,7,9],none,none,none,none,none,none,none,none,none]
def v7s :List (Option (List Nat)):=[some [0,1,2,4,5,6,29,30,31,36,37,38],some [6,7,9],some [6,7]]
def v7v :List (Option (List Nat)):=[some [5,6,7,9],none,none,none,none,none,none,none,none,none,none,none,none]
def v7r :List (Option (List Nat)):=[some [0,1,2,4,5,6,29,30,31,36,37,38],some [6,7,9],some [6,7]]
def v7u :List (Option (List Nat)):=[some [5,6,7,9],none,none,none,none,none,none,none,none,none,none,none,none,none]
def v7q :List (Option (List Nat)):=[some [0,1,2,71,72,73],some [9,41,43,44],some [0,1,2,4,72,73],some [6,7,9],some [6,7]]
def v7t :List (Option (List Nat)):=[none,some [5,6,7,9],none,none,none,none,none,none,none,none,none]
def rgjN6 :List (Option (List Nat)):=[some [0,2,8],some [9,41,43,44],some [0,1,2,4,72,73],some [6,7,9],some [6,7]]
def rgjM6 :List (Option (List Nat)):=[none,none,some [5,6,7,9],none,none,none,none,none,none,none,none]
def Yi (q:Op) (l0:List R4) (l1:List R4):rgjS→Xb rgjS
 | .h0 v16 aA=>(bif (decide (v16<(l0.length:Int))) then (bif ((decide (0≤v16∧v16<(l0.length:Int)))&&true) then (bif (Nat.beq 1 1&&((decide (0+aA.length=aA.length))&&decide ((aA.length+2+1)*(8+1)≤Ju))) then (.to (.h0 (IntKind.wrap .i64 (v16+1)) (aA++[(rd l0 v16.toNat).a,(rd l0 v16.toNat).c]))) else .stuck) else .stuck) else (.to (.h1 0 aA)))
 | .h1 v16 aA=>(bif (decide (v16<(l1.length:Int))) then (bif ((decide (0≤v16∧v16<(l1.length:Int)))&&true) then (bif (Nat.beq 1 1&&((decide (0+aA.length=aA.length))&&decide ((aA.length+2+1)*(8+1)≤Ju))) then (.to (.h1 (IntKind.wrap .i64 (v16+1)) (aA++[(rd l1 v16.toNat).a,(rd l1 v16.toNat).c]))) else .stuck) else .stuck) else (bif (decide (aA.length<4611686018427387904)) then (bif (decide (aA.length=aA.length)) then (.to (.h2 1 ([]:List R4) ([]:List R2) 0 0 (w8q (Yw aA.length (cOf (Zz (Xm (Yw aA.length (cOf (Zz aA)))))))) (Wh (Yw aA.length (cOf (Zz (Xm (Yw aA.length (cOf (Zz aA)))))))))) else .stuck) else .stuck))
 | .h2 v4 aG aS bC bD aE aH=>(bif (decide (v4<((aE:Nat):Int))) then (bif ((decide (0≤(IntKind.wrap .i64 (v4 - 1))∧(IntKind.wrap .i64 (v4 - 1))<((aE:Nat):Int)))&&true) then (bif (decide ((0+(Int.toNat (IntKind.wrap .i64 (v4 - 1))))<aH.length)) then (bif ((decide (0≤v4∧v4<((aE:Nat):Int)))&&true) then (bif (decide ((0+v4.toNat)<aH.length)) then (.to (.h3 v4 0 aG aS bC bD aE aH (rd aH (0+(Int.toNat (IntKind.wrap .i64 (v4 - 1))))) (rd aH (0+v4.toNat)) ([]:List R2))) else .stuck) else .stuck) else .stuck) else .stuck) else (bif (decide ((aG.length:Int)>400)) then (.ret [.nils,(.int .i64 4)]) else (.ret [(.dat aG.length (Zz aG)),(.int .i64 0)])))
 | .h3 v4 v38 aG aS bC bD aE aH aR bE aB=>(bif (decide (v38<(l0.length:Int))) then (bif ((decide (0≤v38∧v38<(l0.length:Int)))&&true) then (bif (decide ((rd l0 v38.toNat).a ≤aR)) then (bif (decide (aR<(rd l0 v38.toNat).c)) then (bif (Nat.beq 2 2&&((decide (0+aB.length=aB.length))&&decide ((aB.length+1+1)*(16+1)≤Ju))) then (.to (.h3 v4 (IntKind.wrap .i64 (v38+1)) aG aS bC bD aE aH aR bE (aB++[(R2.mk (rd l0 v38.toNat).b (rd l0 v38.toNat).d)]))) else .stuck) else (.to (.h3 v4 (IntKind.wrap .i64 (v38+1)) aG aS bC bD aE aH aR bE aB))) else (.to (.h3 v4 (IntKind.wrap .i64 (v38+1)) aG aS bC bD aE aH aR bE aB))) else .stuck) else (.to (.h4 v4 0 aG aS bC bD aE aH aR bE aB ([]:List R2))))
 | .h4 v4 v38 aG aS bC bD aE aH aR bE aB aK=>(bif (decide (v38<(l1.length:Int))) then (bif ((decide (0≤v38∧v38<(l1.length:Int)))&&true) then (bif (decide ((rd l1 v38.toNat).a ≤aR)) then (bif (decide (aR<(rd l1 v38.toNat).c)) then (bif (Nat.beq 2 2&&((decide (0+aK.length=aK.length))&&decide ((aK.length+1+1)*(16+1)≤Ju))) then (.to (.h4 v4 (IntKind.wrap .i64 (v38+1)) aG aS bC bD aE aH aR bE aB (aK++[(R2.mk (rd l1 v38.toNat).b (rd l1 v38.toNat).d)]))) else .stuck) else (.to (.h4 v4 (IntKind.wrap .i64 (v38+1)) aG aS bC bD aE aH aR bE aB aK))) else (.to (.h4 v4 (IntKind.wrap .i64 (v38+1)) aG aS bC bD aE aH aR bE aB aK))) else .stuck) else (bif ((x0l q) (cvT aB) (cvT aK)) then (bif (((w4y q) (cvT aB) (cvT aK)) != 0) then (.ret [.nils,(.int .i64 ((w4y q) (cvT aB) (cvT aK)))]) else (bif (decide (((((z3x q) (cvT aB) (cvT aK)).length :Nat):Int)>0)) then (bif (bD == aR) then (bif (Vf (cvT aS) (cvT ((z3x q) (cvT aB) (cvT aK)))) then (bif (Qz (cvT aS) (cvT ((z3x q) (cvT aB) (cvT aK)))) then (.to (.h6 bE bC aR ((z3x q) (cvT aB) (cvT aK)) v4 aG aS bC bD aE aH aB aK)) else (.to (.h5 aR bE ((z3x q) (cvT aB) (cvT aK)) ((((z3x q) (cvT aB) (cvT aK)).length :Nat):Int) 0 v4 aG (aG.length:Int) aE aH aB aK))) else .stuck) else (.to (.h5 aR bE ((z3x q) (cvT aB) (cvT aK)) ((((z3x q) (cvT aB) (cvT aK)).length :Nat):Int) 0 v4 aG (aG.length:Int) aE aH aB aK))) else (.to (.h5 aR bE ((z3x q) (cvT aB) (cvT aK)) ((((z3x q) (cvT aB) (cvT aK)).length :Nat):Int) 0 v4 aG (aG.length:Int) aE aH aB aK)))) else .stuck))
 | .h5 v1 v2 v71 v72 v73 aU aD bA aE aH aR bE=>(bif (decide (v73<v72)) then (bif ((decide (0≤v73∧v73<(v71.length:Int)))&&true) then (bif (Nat.beq 4 4&&((decide (0+aD.length=aD.length))&&decide ((aD.length+1+1)*(32+1)≤Ju))) then (.to (.h5 v1 v2 v71 v72 (IntKind.wrap .i64 (v73+1)) aU (aD++[(R4.mk v1 (rd v71 v73.toNat).a v2 (rd v71 v73.toNat).b)]) bA aE aH aR bE)) else .stuck) else .stuck) else (.to (.h2 (IntKind.wrap .i64 (aU+1)) aD v71 bA v2 aE aH)))
 | .h6 v2 v8 cQ cR aU aD aZ bA bX bK bT aB aK=>(bif (decide (v8<(aD.length:Int))) then (bif ((decide (0≤v8∧v8<(aD.length:Int)))&&true) then (bif (decide ((0+v8.toNat)<aD.length)) then (.to (.h6 v2 (IntKind.wrap .i64 (v8+1)) cQ cR aU (aD.set (0+v8.toNat) (R4.mk (rd aD (0+v8.toNat)).a (rd aD (0+v8.toNat)).b v2 (rd aD (0+v8.toNat)).d)) aZ bA bX bK bT aB aK)) else .stuck) else .stuck) else (.to (.h2 (IntKind.wrap .i64 (aU+1)) aD aZ bA v2 bK bT)))
def y2q (q:Op) (l0:List R4) (l1:List R4):Xb rgjS:=(bif (z4f (cvT l0)) then (bif ((y6q (cvT l0)) != 0) then (.ret [.nils,(.int .i64 (y6q (cvT l0)))]) else (bif (z4f (cvT l1)) then (bif ((y6q (cvT l1)) != 0) then (.ret [.nils,(.int .i64 (y6q (cvT l1)))]) else (.to (.h0 0 ([]:List Int)))) else .stuck)) else .stuck)
theorem w5w (q:Op) (l0:List R4) (l1:List R4): ∀s,Xv prog (Zy prog (nRg q)) (rgjC q l0 l1) (rgjC q l0 l1 s) (Yi q l0 l1 s):=by cases q <;> refine (?f: ∀q:Op,∀s,Xv prog (Zy prog (nRg q)) (rgjC q l0 l1) (rgjC q l0 l1 s) (Yi q l0 l1 s)) _ <;> exact fun q=>fun
 | .h0 v16 aA=>(lb (fun k0=>(lo fun o0=>(lo fun o1=>(sl Km 32 [] ⟨[0,1,2,3,4,5,6,10],[],rgjN0,rgjM0⟩ ⟨[],[.keep,.keep,.cells [.len (z9h aA l0 v16).length],.keep,.keep,.keep,.keep,.rowed 1 (z9h aA l0 v16).length (Zz (z9h aA l0 v16))],[]⟩ [true] (pp (xL (aA.length+2) (z9h aA l0 v16).length) (pp (xL (aA.length+2) (z9h aA l0 v16).length) (pp (xS (aA.length+2) (Zi (Zz aA) 0 aA.length 1 [(ii (rd l0 (tn v16)).a),(ii (rd l0 (tn v16)).c)]) (Zz (z9h aA l0 v16))) (pp (pp (xF (Zi (Zz aA) 0 aA.length 1 [(ii (rd l0 (tn v16)).a),(ii (rd l0 (tn v16)).c)])) nn) (ww o1 (ww o0 (tt k0 nn))))))))))) (fun k0=>(sl Km 36 [] ⟨(List.range 8),[],rgjN1,rgjM1⟩ ⟨[],[],[]⟩ (bl 2 2) (pp (fl aA nn) (tt k0 nn)))))
 | .h1 v16 aA=>(lb (fun k0=>(lo fun o0=>(lo fun o1=>(sl Km 32 [] ⟨[0,1,2,3,4,5,6,10],[],rgjN1,rgjM1⟩ ⟨[],[.keep,.keep,.cells [.len (z9g aA l1 v16).length],.keep,.keep,.keep,.keep,.rowed 1 (z9g aA l1 v16).length (Zz (z9g aA l1 v16))],[]⟩ [true] (pp (xL (aA.length+2) (z9g aA l1 v16).length) (pp (xL (aA.length+2) (z9g aA l1 v16).length) (pp (xS (aA.length+2) (Zi (Zz aA) 0 aA.length 1 [(ii (rd l1 (tn v16)).a),(ii (rd l1 (tn v16)).c)]) (Zz (z9g aA l1 v16))) (pp (pp (xF (Zi (Zz aA) 0 aA.length 1 [(ii (rd l1 (tn v16)).a),(ii (rd l1 (tn v16)).c)])) nn) (ww o1 (ww o0 (tt k0 nn))))))))))) (fun k0=>(lo fun o0=>(lo fun o1=>(sl Km 46 [(88,4,Zz ([]:List R4))] ⟨[8,3,4,5,6,2,7,0,1,9],[],u8q,u8r⟩ ⟨[],(kpB 4 [.cells [.grow 9 4,.list 0 (Zz ([]:List R2)),.keep,.keep],.keep,.rowed 1 (y8l aA).length (Zz (y8l aA)),.keep,.keep,.keep]),[]⟩ (bl 2 0) (pp (xL aA.length (y8l aA).length (by first | exact z2a _ _ | exact Vy rfl)) (pp (xS aA.length (Zz (y8l aA)) (Zz (y8l aA))) (pp (fl (y8l aA) (fl ([]:List R4) nn)) (pp (pp (xG (Nat.beq 1 1)) (pp (xG (Nat.beq 1 1)) (pp (xG (Nat.beq 0 0)) (pp (xG (decide (aA.length=aA.length))) (pp (xG (isI (Zz (Xm (Yw aA.length (cOf (Zz aA))))))) (xG (decide (aA.length<4611686018427387904)))))))) (pp (pp (xG (Nat.beq 1 1)) (pp (xG (Nat.beq 1 1)) (pp (xG (Nat.beq 0 0)) (pp (xG (decide (aA.length=aA.length))) (pp (xG (isI (Zz aA))) (xG (decide (aA.length<4611686018427387904)))))))) (tt k0 nn)))))))))))
 | .h2 v4 aG aS bC bD aE aH=>(lb (fun k0=>(lo fun o0=>(lo fun o1=>(lo fun o2=>(lo fun o3=>(sl Km 48 [(183,2,Zz ([]:List R2))] ⟨[0,1,2,3,4,5,6,7,8,10,11,12,9],[],v7s,v7v⟩ ⟨[],(kpB 10 [.cells [.grow 11 2,.keep],.keep,.keep]),[]⟩ (trs 3 []) (pp (fl aH (fl ([]:List R2) (fl aG nn))) (ww o3 (ww o2 (ww o1 (ww o0 (tt k0 nn)))))))))))) (fun k0=>(lb (fun k1=>(lr 11 3 [1,1,1,1,1,1,1,0] 1 28 [(4,.nils),(5,(ii 4))] (sl Km 49 [] ⟨[],[],[some [4,5]],[]⟩ ⟨[],[],[]⟩ (bl 2 2) (tt k1 (tt k0 nn))))) (fun k1=>(lr 11 3 [1,1,1,1,1,1,1,0] 1 28 [(4,(.dat aG.length (Zz aG))),(5,(ii 0))] (sl Km 54 [] ⟨[],[9],[some [4,5]],[]⟩ ⟨[(4,.frz aG.length aG.length (Zz aG) (Zz aG))],[],[]⟩ (bl 2 0) (pp (xZ (z6q 4 4 0 aG.length aG.length (Zz aG)) aG.length (Zz aG)) (pp (xL aG.length aG.length) (pp (xS aG.length (Zz aG) (Zz aG)) (pp (fl aG nn) (tt k1 (tt k0 nn))))))))))))
 | .h3 v4 v38 aG aS bC bD aE aH aR bE aB=>(lb (fun k0=>(lo fun aF=>(lb (fun k1=>(lb (fun k2=>(lo fun o0=>(sl Km 39 [] ⟨[0,1,2,3,4,5,6,7,8,9,10,15,12],[],v7s,v7v⟩ ⟨[],(kpB 10 [.cells [.len (y8k aB l0 v38).length,.keep],.rowed 2 (y8k aB l0 v38).length (Zz (y8k aB l0 v38)),.keep]),[]⟩ (trs 7 []) (pp (xL (aB.length+1) (y8k aB l0 v38).length) (pp (xL (aB.length+1) (y8k aB l0 v38).length) (pp (xS (aB.length+1) (Zi (Zz aB) 0 aB.length 2 [(ii (rd l0 (tn v38)).b),(ii (rd l0 (tn v38)).d)]) (Zz (y8k aB l0 v38))) (pp (fl aH (pp (xF (Zi (Zz aB) 0 aB.length 2 [(ii (rd l0 (tn v38)).b),(ii (rd l0 (tn v38)).d)])) (fl aG nn))) (ww o0 (tt k2 (tt k1 (ww aF (tt k0 nn)))))))))))) (fun k2=>(sl Km 39 [] ⟨(List.range 13),[],v7s,v7v⟩ ⟨[],[],[]⟩ (trs 6 [false]) (pp (fl aH (fl aB (fl aG nn))) (tt k2 (tt k1 (ww aF (tt k0 nn))))))))) (fun k1=>(sl Km 39 [] ⟨(List.range 13),[],v7s,v7v⟩ ⟨[],[],[]⟩ (bl 7 1) (pp (fl aH (fl aB (fl aG nn))) (tt k1 (ww aF (tt k0 nn))))))))) (fun k0=>(sl Km 38 [(183,2,Zz ([]:List R2))] ⟨[0,1,2,3,4,5,6,7,8,9,10,11,13,12],[],v7r,v7u⟩ ⟨[],(kpB 10 [.cells [.keep,.grow 12 2],.keep,.keep,.keep]),[]⟩ (bl 2 2) (pp (fl aH (fl aB (fl ([]:List R2) (fl aG nn)))) (tt k0 nn)))))
 | .h4 v4 v38 aG aS bC bD aE aH aR bE aB aK=>(lb (fun k0=>(lo fun aF=>(lb (fun k1=>(lb (fun k2=>(lo fun o0=>(sl Km 39 [] ⟨[0,1,2,3,4,5,6,7,8,9,10,11,16,13],[],v7r,v7u⟩ ⟨[],(kpB 10 [.cells [.keep,.len (y8j aK l1 v38).length],.keep,.rowed 2 (y8j aK l1 v38).length (Zz (y8j aK l1 v38)),.keep]),[]⟩ (trs 7 []) (pp (xL (aK.length+1) (y8j aK l1 v38).length) (pp (xL (aK.length+1) (y8j aK l1 v38).length) (pp (xS (aK.length+1) (Zi (Zz aK) 0 aK.length 2 [(ii (rd l1 (tn v38)).b),(ii (rd l1 (tn v38)).d)]) (Zz (y8j aK l1 v38))) (pp (fl aH (fl aB (pp (xF (Zi (Zz aK) 0 aK.length 2 [(ii (rd l1 (tn v38)).b),(ii (rd l1 (tn v38)).d)])) (fl aG nn)))) (ww o0 (tt k2 (tt k1 (ww aF (tt k0 nn)))))))))))) (fun k2=>(sl Km 39 [] ⟨(List.range 14),[],v7r,v7u⟩ ⟨[],[],[]⟩ (trs 6 [false]) (pp (fl aH (fl aB (fl aK (fl aG nn)))) (tt k2 (tt k1 (ww aF (tt k0 nn))))))))) (fun k1=>(sl Km 39 [] ⟨(List.range 14),[],v7r,v7u⟩ ⟨[],[],[]⟩ (bl 7 1) (pp (fl aH (fl aB (fl aK (fl aG nn)))) (tt k1 (ww aF (tt k0 nn))))))))) (fun k0=>(Ws (sl Km (C':=⟨⟨49,0,true⟩,none,(Zd prog 122 [1,1,1,0,1,0,1,0,0] 0),(some 0),[],⟨Yd [(5,(.ptr 1 0)),(6,(.ptr 2 0)),(7,(.ptr 3 0)),(9,(.ptr 4 0)),(10,(.ptr 6 0))],y1b [(1,⟨[(.fn (nSp q) [])],151,none⟩),(2,⟨[.nils],100,none⟩),(3,⟨[(ii 0)],26,none⟩),(4,⟨[(.sla 5 4 0 aG.length (.un 4)),(.dat aS.length (Zz aS)),(ii bC),(ii bD)],200,none⟩),(5,⟨rows aG.length (Zz aG),88,some ⟨4,aG.length,(Zz aG)⟩⟩),(6,⟨[(ii aR),(ii bE),(.sl 7 0 2 (.ex 2))],205,none⟩),(7,⟨[(.dat aB.length (Zz aB)),(.dat aK.length (Zz aK))],180,none⟩),(8,⟨[(.sla 9 1 0 aE (.un 1))],93,none⟩),(9,⟨rows aH.length (Zz aH),3,some ⟨1,aH.length,(Zz aH)⟩⟩),(10,⟨[(.sl 11 0 2 (.un 1))],236,none⟩),(11,⟨[(.dat l0.length (Zz l0)),(.dat l1.length (Zz l1))],100,none⟩)],12,[],true⟩,[⟨⟨76,0,true⟩,(Jk prog 190 [1,0,0,1,0,0,1,1,0] 2),(Zd prog 190 [1,0,0,1,0,0,1,1,0] 1),none,[],Yd [(0,(.yld 0)),(1,(.ptr 8 0)),(2,(.ptr 10 0)),(4,(ii v4)),(72,(.yld 0)),(73,(.agg [(ii aR),(ii bE),(.sl 7 0 2 (.ex 2))]))]⟩,⟨⟨49,0,true⟩,none,(.inRangeFunc 0::(Zd prog 122 [1,1,1,0,1,0] 1)),none,(Zy prog 122),Yd [(6,(.ptr 2 0)),(7,(.ptr 3 0)),(9,(.ptr 4 0))]⟩,⟨⟨11,0,true⟩,(Jk prog (nRg q) [1,0] 2),(Zd prog (nRg q) [1,0] 1),none,(Zy prog 28),Yd [(6,(.dat l0.length (Zz l0))),(7,(.dat l1.length (Zz l1)))]⟩],(y7a [(0,⟨.busy,none,49,Yd [(5,(.ptr 1 0)),(6,(.ptr 2 0)),(7,(.ptr 3 0)),(9,(.ptr 4 0))],[23],(Vn prog 122 [1,1,1,0,1,0,0]),(Vn prog 122 [1,1,1,0,1,0,1])⟩)])⟩) 32 [] ⟨[0,1,2,3,4,13,14,10,5,6,7,8],[11,12],[some [5,6,7,9,10],some [0,1,2,4,72,73],some [6,7,9],some [6,7]],[some [5,6,7,9],none,none,none,none,none,none,none,none,none,none,none]⟩ ⟨[],[.keep,.keep,.keep,.keep,.keep,.keep,.keep,.cells [.frz aB.length aB.length (Zz aB) (Zz aB),.frz aK.length aK.length (Zz aK) (Zz aK)],.keep,.keep,.keep,.keep],[]⟩ (bl 2 0) (pp (xZ (z6q 2 2 0 aB.length aB.length (Zz aB)) aB.length (Zz aB)) (pp (xL aB.length aB.length) (pp (xS aB.length (Zz aB) (Zz aB)) (pp (xZ (z6q 2 2 0 aK.length aK.length (Zz aK)) aK.length (Zz aK)) (pp (xL aK.length aK.length) (pp (xS aK.length (Zz aK) (Zz aK)) (pp (fl aG (fl aH nn)) (pp (fl aB (fl aK nn)) (tt k0 nn)))))))))) (lo fun aF=>(lb (fun k1=>(lr 11 3 [1,1,1,1,1,1,1,0] 1 28 [(4,.nils),(5,(ii ((w4y q) (cvT aB) (cvT aK))))] (sl Km 26 [] ⟨[],[],[some [4,5]],[]⟩ ⟨[],[],[]⟩ (bl 2 3) (tt k1 (pp (pp (xr aB) (pp (xr aK) (xw aF))) nn))))) (fun k1=>(lb (fun k2=>(lb (fun k3=>(lo fun cC=>(lb (fun k4=>(sl Km 51 [] ⟨[4,5,0,1,2,3,8,9,10,11,7],[],rgjN6,rgjM6⟩ ⟨[],[],[]⟩ (bl 14 16382) (pp (fl aG (fl aH nn)) (tt k4 (pp (pp (xr aS) (pp (xI R2 ((z3x q) (cvT aB) (cvT aK)).length (Zz ((z3x q) (cvT aB) (cvT aK)))) (xw cC))) (tt k3 (tt k2 (tt k1 (pp (pp (xr aB) (pp (xr aK) (xw aF))) nn))))))))) (fun k4=>(sl Km 71 [] ⟨[4,0,1,2,3,8,9,10,11,7,5],[],v7q,v7t⟩ ⟨[],[],[]⟩ (bl 14 8190) (pp (fl aH (fl aG nn)) (tt k4 (pp (pp (xr aS) (pp (xI R2 ((z3x q) (cvT aB) (cvT aK)).length (Zz ((z3x q) (cvT aB) (cvT aK)))) (xw cC))) (tt k3 (tt k2 (tt k1 (pp (pp (xr aB) (pp (xr aK) (xw aF))) nn)))))))))))) (fun k3=>(sl Km 71 [] ⟨[4,0,1,2,3,8,9,10,11,7,5],[],v7q,v7t⟩ ⟨[],[],[]⟩ (bl 14 126) (pp (fl aH (fl aG nn)) (tt k3 (tt k2 (tt k1 (pp (pp (xr aB) (pp (xr aK) (xw aF))) nn))))))))) (fun k2=>(sl Km 71 [] ⟨[4,0,1,2,3,8,9,10,11,7,5],[],v7q,v7t⟩ ⟨[],[],[]⟩ (bl 14 0) (pp (fl aH (fl aG nn)) (tt k2 (tt k1 (pp (pp (xr aB) (pp (xr aK) (xw aF))) nn)))))))))))))
 | .h5 v1 v2 v71 v72 v73 aU aD bA aE aH aR bE=>(lb (fun k0=>(lo fun o0=>(lo fun o1=>(sl Km 23 [] ⟨[0,1,2,3,4,5,6,7,8,9,13],[],v7q,v7t⟩ ⟨[],[.cells [.len (z9i aD v1 v71 v73 v2).length,.keep,.keep,.keep],.keep,.keep,.keep,.keep,.keep,.keep,.keep,.keep,.keep,.rowed 4 (z9i aD v1 v71 v73 v2).length (Zz (z9i aD v1 v71 v73 v2))],[]⟩ [true] (pp (xL (aD.length+1) (z9i aD v1 v71 v73 v2).length) (pp (xL (aD.length+1) (z9i aD v1 v71 v73 v2).length) (pp (xS (aD.length+1) (Zi (Zz aD) 0 aD.length 4 [(ii v1),(ii (rd v71 (tn v73)).a),(ii v2),(ii (rd v71 (tn v73)).b)]) (Zz (z9i aD v1 v71 v73 v2))) (pp (fl aH (pp (xF (Zi (Zz aD) 0 aD.length 4 [(ii v1),(ii (rd v71 (tn v73)).a),(ii v2),(ii (rd v71 (tn v73)).b)])) nn)) (ww o1 (ww o0 (tt k0 nn))))))))))) (fun k0=>(sl Km 22 [] ⟨[1,2,3,4,0,5,6,7,8,10],[],u8q,u8r⟩ ⟨[],[],[]⟩ (bl 2 0) (pp (fl aH (fl aD nn)) (tt k0 nn)))))
 | .h6 v2 v8 cQ cR aU aD aZ bA bX bK bT aB aK=>(lb (fun k0=>(lo fun o0=>(lo fun o1=>(sl Km 33 [] ⟨(List.range 11),[],rgjN6,rgjM6⟩ ⟨[],[.cells [.len (y8m aD v8 v2).length,.keep,.keep,.keep],.rowed 4 (y8m aD v8 v2).length (Zz (y8m aD v8 v2)),.keep,.keep,.keep,.keep,.keep,.keep,.keep,.keep,.keep],[]⟩ [true] (pp (xL aD.length (y8m aD v8 v2).length) (pp (xL aD.length (y8m aD v8 v2).length) (pp (xS aD.length (Xi (Zz aD) (0+(tn v8)) 2 [(ii v2)]) (Zz (y8m aD v8 v2))) (pp (pp (xF (Xi (Zz aD) (0+(tn v8)) 2 [(ii v2)])) (fl bT nn)) (ww o1 (ww o0 (tt k0 nn))))))))))) (fun k0=>(sl Km 36 [] ⟨[2,3,4,5,0,6,7,8,9,1],[],u8q,u8r⟩ ⟨[],[],[]⟩ (bl 2 0) (pp (fl bT (fl aD nn)) (tt k0 nn)))))
theorem x7t (q:Op) (l0:List R4) (l1:List R4):Xv prog (Zy prog (nRg q)) (rgjC q l0 l1) (Zc prog (nRg q) [(.dat l0.length (Zz l0)),(.dat l1.length (Zz l1))] true []) (y2q q l0 l1):=by cases q <;> exact (lo fun bV=>(lb (fun k0=>(lr 11 3 [1,1,1,1,1,1,1,0] 1 28 [(4,.nils),(5,(ii (y6q (cvT l0))))] (sl Km 65 [] ⟨[],[],[some [4,5]],[]⟩ ⟨[],[],[]⟩ [true,true] (tt k0 (tt k0 (pp (pp (xr l0) (xw bV)) nn)))))) (fun k0=>(lo fun aF=>(lb (fun k1=>(lr 11 3 [1,1,1,1,1,1,1,0] 1 28 [(4,.nils),(5,(ii (y6q (cvT l1))))] (sl Km 67 [] ⟨[],[],[some [4,5]],[]⟩ ⟨[],[],[]⟩ [false,true] (tt k1 (pp (pp (xr l1) (xw aF)) (tt k0 (pp (pp (xr l0) (xw bV)) nn))))))) (fun k1=>(sl Km 108 [(3,1,Zz ([]:List Int))] ⟨[5,4,6,0,1,2,3,7],[],rgjN0,rgjM0⟩ ⟨[],[.keep,.keep,.cells [.grow 7 1],.keep,.keep,.keep,.keep,.keep],[]⟩ [false,false,true] (pp (fl ([]:List Int) nn) (tt k1 (pp (pp (xr l1) (xw aF)) (tt k0 (pp (pp (xr l0) (xw bV)) nn))))))))))))
theorem v7p (q:Op) (l0:List R4) (l1:List R4) (n:Nat) (vs:List AVal) (h:Yv (Yi q l0 l1) n (y2q q l0 l1)=.ret vs):Jt prog (Zy prog (nRg q)) (Zc prog (nRg q) [(.dat l0.length (Zz l0)),(.dat l1.length (Zz l1))] true []) vs:=by have:=Ze (w5w q l0 l1) n _ (x7t q l0 l1);rwa [h] at this
end Go.Am
namespace Go.Am
open Go.Proofs.Tryz
open Go.Proofs
open Go.Sort Go.Shelf Go.RowKit Go.Lib
def w8p (E:Int→Int) (cs:List Int):Nat→Nat→Int
 | 0,_=>0
 | k+1,i=>bif E (rd cs i) != 0 then E (rd cs i) else w8p E cs k (i+1)
def eJ (e:Int) (n:Nat):Int:=bif e != 0 then e else y9x n
theorem v7z {α:Type} [Yt α] (L:List α):y4h (eJ 0 L.length) L=Qv L:=(z8s L).symm
theorem x2f {n:Nat} (h:y9x n=0):n≤400:=by
 unfold y9x at h;by_cases g:(n:Int)>400
 ·rw [decide_eq_true g] at h;cases h
 ·omega
theorem v4h {α:Type} {e:Int} (L:List α) (h:(e != 0)=false):x2b e L=L:=by unfold x2b;rw [h];rfl
def rgS (q:Op) (a b:List R4) (x:Int):List R2:=spJ q.k (D4.inn a x) (D4.inn b x)
def rgA (q:Op) (a b:List R4) (x:Int):Int:=spE q.k (D4.inn a x) (D4.inn b x)
theorem u8t (q:Op) (a b:List R4) (x:Int) (h:(rgA q a b x != 0)=false):(rgS q a b x).length ≤1000:=by
 have h:rgA q a b x=0:=by simpa using h
 unfold rgA spE at h;cases g1:(y8d (D4.inn a x) != 0) with
 | true=>rw [g1,cond_true] at h;rw [h] at g1;cases g1
 | false=>
  cases g2:(y8d (D4.inn b x) != 0) with
  | true=>rw [g1,g2,cond_false,cond_true] at h;rw [h] at g2;cases g2
  | false=>rw [g1,g2,cond_false,cond_false] at h;exact Nat.le_trans (x2f h) (by omega)
section
variable (q:Op) (a b:List R4) (ha:a.length≤400) (hb:b.length≤400)
include ha hb
theorem u3l (i:Nat) (out:List R4) (last:List R2) (first fin x x':Int): ∀(k j:Nat) (acc:List R2),j+k=a.length→acc.length≤j→
  ∃n,∀N,Yv (Yi q a b) (N+n) (.to (.h3 (i:Int) (j:Int) out last first fin ((D4.cuts (a++b)).length) (Wh (Xm (D4.ends (a++b)))) x x' acc))=Yv (Yi q a b) N (.to (.h4 (i:Int) 0 out last first fin ((D4.cuts (a++b)).length) (Wh (Xm (D4.ends (a++b)))) x x' (acc++D4.inn (a.drop j) x) []))
 | 0,j,acc,h,h'=>by have _u:=ha;have _v:=hb;refine ⟨1,fun N=> ?_⟩;rw [List.drop_eq_nil_of_le (by omega),show D4.inn ([]:List R4) x=[] from rfl,List.append_nil,Zv];simp (disch:=omega) only [Yi,Yx,cond_false]
 | k+1,j,acc,h,h'=>by
  have hj:j<a.length:=by omega
  obtain ⟨n,hn⟩:=u3l i out last first fin x x' k (j+1) (acc++D4.inn [rd a j] x) (by omega) (by have:=D4.inn_length [rd a j] x;simp only [List.length_append,List.length_singleton] at*;omega)
  refine ⟨n+1,fun N=> ?_⟩;have e:D4.inn (a.drop j) x=D4.inn [rd a j] x++D4.inn (a.drop (j+1)) x:=by rw [Ym hj,←D4.inn_append];rfl
  rw [e,←Nat.add_assoc,Zv,←List.append_assoc,←hn N];by_cases h1:D4.lo (rd a j)≤x
  ·by_cases h2:x<D4.hi (rd a j)
   ·rw [D4.inn_t _ _ h1 h2];simp only [D4] at h1 h2 ⊢;simp (disch:=omega) only [Yi,Xs,Za,Zk,Zt,Yz,Yc,Yk,Yp,Zh,Zq,Zx,Yg,Zj,Nat.zero_add,decide_true,Bool.and_true,Bool.true_and,cond_true,cond_false]
   ·rw [D4.inn_f2 _ _ h2,List.append_nil];simp only [D4] at h1 h2;simp (disch:=omega) only [Yi,Xs,Yx,Za,Zk,Zt,Yz,Yc,Yk,Yp,Zh,Zq,Zx,Yg,Zj,Nat.zero_add,decide_true,Bool.and_true,Bool.true_and,cond_true,cond_false]
  ·rw [D4.inn_f1 _ _ h1,List.append_nil];simp only [D4] at h1;simp (disch:=omega) only [Yi,w0f,Za,Zk,Zt,Yz,Yc,Yk,Yp,Zh,Zq,Zx,Yg,Zj,Nat.zero_add,decide_true,Bool.and_true,Bool.true_and,cond_true,cond_false]
theorem u3k (i:Nat) (out:List R4) (last:List R2) (first fin x x':Int) (o1:List R2): ∀(k j:Nat) (acc:List R2),j+k=b.length→acc.length≤j→
  ∃n,∀N,Yv (Yi q a b) (N+n) (.to (.h4 (i:Int) (j:Int) out last first fin ((D4.cuts (a++b)).length) (Wh (Xm (D4.ends (a++b)))) x x' o1 acc))=Yv (Yi q a b) N (.to (.h4 (i:Int) (b.length:Int) out last first fin ((D4.cuts (a++b)).length) (Wh (Xm (D4.ends (a++b)))) x x' o1 (acc++D4.inn (b.drop j) x)))
 | 0,j,acc,h,h'=>by have _u:=ha;have _v:=hb;refine ⟨0,fun N=> ?_⟩;rw [List.drop_eq_nil_of_le (by omega),show D4.inn ([]:List R4) x=[] from rfl,List.append_nil,Nat.add_zero,show j=b.length by omega]
 | k+1,j,acc,h,h'=>by
  have hj:j<b.length:=by omega
  obtain ⟨n,hn⟩:=u3k i out last first fin x x' o1 k (j+1) (acc++D4.inn [rd b j] x) (by omega) (by have:=D4.inn_length [rd b j] x;simp only [List.length_append,List.length_singleton] at*;omega)
  refine ⟨n+1,fun N=> ?_⟩;have e:D4.inn (b.drop j) x=D4.inn [rd b j] x++D4.inn (b.drop (j+1)) x:=by rw [Ym hj,←D4.inn_append];rfl
  rw [e,←Nat.add_assoc,Zv,←List.append_assoc,←hn N];by_cases h1:D4.lo (rd b j)≤x
  ·by_cases h2:x<D4.hi (rd b j)
   ·rw [D4.inn_t _ _ h1 h2];simp only [D4] at h1 h2 ⊢;simp (disch:=omega) only [Yi,Xs,Za,Zk,Zt,Yz,Yc,Yk,Yp,Zh,Zq,Zx,Yg,Zj,Nat.zero_add,decide_true,Bool.and_true,Bool.true_and,cond_true,cond_false]
   ·rw [D4.inn_f2 _ _ h2,List.append_nil];simp only [D4] at h1 h2;simp (disch:=omega) only [Yi,Xs,Yx,Za,Zk,Zt,Yz,Yc,Yk,Yp,Zh,Zq,Zx,Yg,Zj,Nat.zero_add,decide_true,Bool.and_true,Bool.true_and,cond_true,cond_false]
  ·rw [D4.inn_f1 _ _ h1,List.append_nil];simp only [D4] at h1;simp (disch:=omega) only [Yi,w0f,Za,Zk,Zt,Yz,Yc,Yk,Yp,Zh,Zq,Zx,Yg,Zj,Nat.zero_add,decide_true,Bool.and_true,Bool.true_and,cond_true,cond_false]
theorem u3j (i:Nat) (hi:i≤2000) (x x':Int) (s:List R2) (first:Int) (o1 o2:List R2) (hs:s.length≤1000): ∀(k j:Nat) (out:List R4),j+k=s.length→out.length≤10000000+j→
  ∃n,∀N,Yv (Yi q a b) (N+n) (.to (.h5 x x' s (s.length:Int) (j:Int) (i:Int) out first ((D4.cuts (a++b)).length) (Wh (Xm (D4.ends (a++b)))) o1 o2))=Yv (Yi q a b) N (.to (.h2 ((i+1:Nat):Int) (out++(s.drop j).map (D4.put x x')) s first x' ((D4.cuts (a++b)).length) (Wh (Xm (D4.ends (a++b))))))
 | 0,j,out,h,ho=>by have _u:=ha;have _v:=hb;refine ⟨1,fun N=> ?_⟩;rw [List.drop_eq_nil_of_le (by omega),Zv];simp (disch:=omega) only [Yi,Yx,Zq,Zx,cond_false,List.map_nil,List.append_nil]
 | k+1,j,out,h,ho=>by
  obtain ⟨n,hn⟩:=u3j i hi x x' s first o1 o2 hs k (j+1) (out++[D4.put x x' (rd s j)]) (by omega) (by simp;omega)
  refine ⟨n+1,fun N=> ?_⟩;have:=hn N;rw [Ym (show j<s.length by omega),List.map_cons,←Nat.add_assoc,Zv];simp (disch:=omega) only [Yi,Za,Zk,Zt,Yz,Yc,Yk,Yp,Zh,Zq,Zx,Yg,Zj,Nat.zero_add,decide_true,Bool.and_true,Bool.true_and,cond_true,cond_false];rw [List.append_assoc] at this;exact this
theorem u3i (i:Nat) (hi:i≤2000) (x x' fin:Int) (s last:List R2) (first:Int) (o1 o2:List R2): ∀(k j:Nat) (out:List R4),j+k=out.length→out.length≤10000000→
  ∃n,∀N,Yv (Yi q a b) (N+n) (.to (.h6 x' (j:Int) x s (i:Int) out last first fin ((D4.cuts (a++b)).length) (Wh (Xm (D4.ends (a++b)))) o1 o2))=Yv (Yi q a b) N (.to (.h2 ((i+1:Nat):Int) (D4.grow out j x') last first x' ((D4.cuts (a++b)).length) (Wh (Xm (D4.ends (a++b))))))
 | 0,j,out,h,ho=>by have _u:=ha;have _v:=hb;refine ⟨1,fun N=> ?_⟩;rw [D4.grow_nil _ _ _ (by omega),Zv];simp (disch:=omega) only [Yi,Yx,Zq,Zx,cond_false]
 | k+1,j,out,h,ho=>by
  obtain ⟨n,hn⟩:=u3i i hi x x' fin s last first o1 o2 k (j+1) (out.set j (D4.ext x' (rd out j))) (by simp;omega) (by simpa using ho)
  refine ⟨n+1,fun N=> ?_⟩;have:=hn N;rw [D4.grow_set out j _ (by omega)] at this;rw [←Nat.add_assoc,Zv];simp (disch:=omega) only [Yi,Za,Zk,Zt,Yz,Yc,Yk,Yp,Zh,Zq,Zx,Yg,Zj,Nat.zero_add,decide_true,Bool.and_true,Bool.true_and,cond_true,cond_false];exact this
theorem v0r : ∀(k i:Nat) (s:Sw R4 R2),k=(D4.cuts (a++b)).length - 1 - i→i≤(D4.cuts (a++b)).length →s.out.length≤i*1000→s.last.length≤1000→s.first≤s.out.length→
  ∃n,Yv (Yi q a b) n (.to (.h2 ((i+1:Nat):Int) s.out s.last (s.first:Int) s.fin ((D4.cuts (a++b)).length) (Wh (Xm (D4.ends (a++b))))))=.ret (y4h (eJ (w8p (rgA q a b) (D4.cuts (a++b)) k i) (D4.goS (rgS q a b) (D4.cuts (a++b)) k i s).out.length) (D4.goS (rgS q a b) (D4.cuts (a++b)) k i s).out)
 | 0,i,s,h,hi,ho,hla,hf=>by
  have _u:=ha;have _v:=hb;have hc:=D4.cuts_length (a++b);refine ⟨1,?_⟩;rw [Zv,show D4.goS (rgS q a b) (D4.cuts (a++b)) 0 i s=s from rfl,show w8p (rgA q a b) (D4.cuts (a++b)) 0 i=0 from rfl,v7z];unfold Qv;by_cases g:(s.out.length:Int)>400
  ·simp (disch:=omega) only [Yi,Yx,Yo,cond_true,cond_false,Zm]
  ·simp (disch:=omega) only [Yi,Yx,Xp,cond_true,cond_false,Zm]
 | k +1,i,s,h,hi,ho,hla,hf=>by
  have hc:=D4.cuts_length (a++b);rw [List.length_append] at hc;have hi1:i+1<(D4.cuts (a++b)).length :=by omega
  have hpl:(Wh (Xm (D4.ends (a++b)))).length =2*(a.length+b.length):=by rw [Uo,Ww,D4.ends_length,List.length_append]
  have r0:rd (Wh (Xm (D4.ends (a++b)))) i=rd (D4.cuts (a++b)) i:=z4h _ _ (by show i<(D4.cuts (a++b)).length;omega);have r1:rd (Wh (Xm (D4.ends (a++b)))) (i+1)=rd (D4.cuts (a++b)) (i+1):=z4h _ _ (by show i+1<(D4.cuts (a++b)).length;omega);have hbig:i*1000≤2000*1000:=Nat.mul_le_mul_right _ (by omega);have hgo:D4.goS (rgS q a b) (D4.cuts (a++b)) (k+1) i s=D4.goS (rgS q a b) (D4.cuts (a++b)) k (i+1) (D4.oneS (rgS q a b (rd (D4.cuts (a++b)) i)) (rd (D4.cuts (a++b)) i) (rd (D4.cuts (a++b)) (i+1)) s):=rfl;have hfe: ∀x,x=rd (D4.cuts (a++b)) i→(rgA q a b x != 0)=false→w8p (rgA q a b) (D4.cuts (a++b)) (k+1) i=w8p (rgA q a b) (D4.cuts (a++b)) k (i+1):=fun x hx z=>by show (bif rgA q a b (rd (D4.cuts (a++b)) i) != 0 then _ else _)=_;rw [←hx,z];rfl
  revert hgo hfe r0;generalize hx:rd (D4.cuts (a++b)) i=x;generalize hx':rd (D4.cuts (a++b)) (i+1)=x' at r1;intro r0 hgo hfe;obtain ⟨n3,h3⟩:=u3l q a b ha hb (i+1) s.out s.last (s.first:Int) s.fin x x' a.length 0 [] (Nat.zero_add _) (Nat.le_refl _);simp only [List.drop_zero,List.nil_append,z4u] at h3;obtain ⟨n4,h4⟩:=u3k q a b ha hb (i+1) s.out s.last (s.first:Int) s.fin x x' (D4.inn a x) b.length 0 [] (Nat.zero_add _) (Nat.le_refl _);simp only [List.drop_zero,List.nil_append,z4u] at h4;have st0: ∀N,Yv (Yi q a b) (N+n4+n3+1) (.to (.h2 ((i+1:Nat):Int) s.out s.last (s.first:Int) s.fin ((D4.cuts (a++b)).length) (Wh (Xm (D4.ends (a++b))))))=Yv (Yi q a b) N (.to (.h4 ((i+1:Nat):Int) (b.length:Int) s.out s.last (s.first:Int) s.fin ((D4.cuts (a++b)).length) (Wh (Xm (D4.ends (a++b)))) x x' (D4.inn a x) (D4.inn b x))):=fun N=>by
   rw [←h4 N,←h3 (N+n4),Zv];have e1:IntKind.wrap .i64 (((i+1:Nat):Int) - 1)=(i:Int):=by rw [Zr];exact Zq (by omega)
   simp (disch:=omega) only [Yi,e1,r0,r1,Za,Zk,Zt,Yz,Yc,Yk,Yp,Zh,Zq,Zx,Yg,Zj,Nat.zero_add,decide_true,Bool.and_true,Bool.true_and,cond_true,cond_false]
  have w1:x0l q (D4.inn a x) (D4.inn b x)=true:=rfl;have f1:Qq (Zz (D4.inn a x))=true:=Xu _;have f2:Qq (Zz (D4.inn b x))=true:=Xu _;rcases Ye (rgA q a b x != 0) with z | z
  ·have z':(w4y q (D4.inn a x) (D4.inn b x) != 0)=true:=z;refine ⟨1+n4+n3+1,?_⟩;rw [st0 1,Zv];have e:w8p (rgA q a b) (D4.cuts (a++b)) (k+1) i=rgA q a b x:=by show (bif rgA q a b (rd (D4.cuts (a++b)) i) != 0 then rgA q a b (rd (D4.cuts (a++b)) i) else _)=_;rw [hx,z];rfl
   simp (disch:=omega) only [Yi,Yx,z',w1,f1,f2,Za,Zk,Zt,Yz,Yc,Yk,Yp,Zh,Zq,Zx,Yg,Zj,Nat.zero_add,decide_true,Bool.and_true,Bool.true_and,cond_true,cond_false,Zm];rw [e,show eJ (rgA q a b x) _=rgA q a b x by unfold eJ;rw [z];rfl,z2u _ z];rfl
  have z':(w4y q (D4.inn a x) (D4.inn b x) != 0)=false:=z;have v:z3x q (D4.inn a x) (D4.inn b x)=rgS q a b x:=v4h _ z;have hsl:=u8t q a b x z;have w2:Vf s.last (rgS q a b x)=true:=decide_eq_true (by omega);rw [hgo,hfe x rfl z];have ol:(D4.oneS (rgS q a b x) x x' s).out.length ≤s.out.length+(rgS q a b x).length :=by
   unfold Dim.oneS;cases decide (0<(rgS q a b x).length)&&((s.fin == x)&&D4.same s.last (rgS q a b x))
   ·simp
   ·simp [Dim.grow_length]
  rcases Ye (decide (0<(rgS q a b x).length)&&((s.fin == x)&&D4.same s.last (rgS q a b x))) with g | g
  ·obtain ⟨n6,h6⟩:=u3i q a b ha hb (i+1) (by omega) x x' s.fin (rgS q a b x) s.last (s.first:Int) (D4.inn a x) (D4.inn b x) (s.out.length - s.first) s.first s.out (by omega) (by omega)
   have e:D4.oneS (rgS q a b x) x x' s=⟨D4.grow s.out s.first x',s.last,s.first,x'⟩:=by unfold Dim.oneS;rw [g];rfl
   obtain ⟨n0,h0⟩:=v0r k (i+1) (D4.oneS (rgS q a b x) x x' s) (by omega) (by omega) (by omega) (by rw [e];exact hla) (by rw [e];simpa [Dim.grow_length] using hf);refine ⟨n0+n6+1+n4+n3+1,?_⟩;rw [st0 (n0+n6+1),Zv];simp only [Bool.and_eq_true,decide_eq_true_eq] at g;obtain ⟨g1,g2,g3⟩:=g;have g3':Qz s.last (rgS q a b x)=true:=g3;simp (disch:=omega) only [Yi,Yx,Yo,z',v,g2,g3',w1,f1,f2,w2,Za,Zk,Zt,Yz,Yc,Yk,Yp,Zh,Zq,Zx,Yg,Zj,Nat.zero_add,decide_true,Bool.and_true,Bool.true_and,cond_true,cond_false];rw [h6 n0];rw [e] at h0 ⊢;exact h0
  ·obtain ⟨n5,h5⟩:=u3j q a b ha hb (i+1) (by omega) x x' (rgS q a b x) (s.out.length:Int) (D4.inn a x) (D4.inn b x) hsl (rgS q a b x).length 0 s.out (Nat.zero_add _) (by omega);simp only [List.drop_zero,z4u] at h5;have e:D4.oneS (rgS q a b x) x x' s=⟨s.out++(rgS q a b x).map (D4.put x x'),rgS q a b x,s.out.length,x'⟩:=by unfold Dim.oneS;rw [g];rfl
   obtain ⟨n0,h0⟩:=v0r k (i+1) (D4.oneS (rgS q a b x) x x' s) (by omega) (by omega) (by omega) (by rw [e];exact hsl) (by rw [e];simp);have hg:Yv (Yi q a b) 1 (.to (.h4 ((i+1:Nat):Int) (b.length:Int) s.out s.last (s.first:Int) s.fin ((D4.cuts (a++b)).length) (Wh (Xm (D4.ends (a++b)))) x x' (D4.inn a x) (D4.inn b x)))=.to (.h5 x x' (rgS q a b x) ((rgS q a b x).length :Int) 0 ((i+1:Nat):Int) s.out (s.out.length:Int) ((D4.cuts (a++b)).length) (Wh (Xm (D4.ends (a++b)))) (D4.inn a x) (D4.inn b x)):=by
    rw [show (1:Nat)=0+1 from rfl,Zv];have e3:D4.same s.last (rgS q a b x)=Qz s.last (rgS q a b x):=rfl;rw [e3] at g;by_cases g1:0<(rgS q a b x).length
    ·rw [decide_eq_true g1,Bool.true_and] at g;rcases Ye (s.fin == x) with g2 | g2
     ·rw [g2,Bool.true_and] at g;simp (disch:=omega) only [Yi,Yx,Yo,z',v,g2,g,w1,f1,f2,w2,Za,Zk,Zt,Yz,Yc,Yk,Yp,Zh,Zq,Zx,Yg,Zj,Nat.zero_add,decide_true,Bool.and_true,Bool.true_and,cond_true,cond_false];rfl
     ·simp (disch:=omega) only [Yi,Yx,Yo,z',v,g2,w1,f1,f2,w2,Za,Zk,Zt,Yz,Yc,Yk,Yp,Zh,Zq,Zx,Yg,Zj,Nat.zero_add,decide_true,Bool.and_true,Bool.true_and,cond_true,cond_false];rfl
    ·simp (disch:=omega) only [Yi,Yx,Xp,z',v,w1,f1,f2,w2,Za,Zk,Zt,Yz,Yc,Yk,Yp,Zh,Zq,Zx,Yg,Zj,Nat.zero_add,decide_true,Bool.and_true,Bool.true_and,cond_true,cond_false];rfl
   refine ⟨n0+n5+1+n4+n3+1,?_⟩;rw [st0 (n0+n5+1),z8f _ (n0+n5) 1,hg,h5 n0];rw [e] at h0 ⊢;exact h0
theorem u3m : ∀(k i:Nat) (acc:List Int),i+k=b.length→acc=D4.ends (a++b.take i)→ ∃n,Yv (Yi q a b) n (.to (.h1 (i:Int) acc))=.ret (y4h (eJ (w8p (rgA q a b) (D4.cuts (a++b)) ((D4.cuts (a++b)).length - 1) 0) (D4.goS (rgS q a b) (D4.cuts (a++b)) ((D4.cuts (a++b)).length - 1) 0 ⟨[],[],0,0⟩).out.length) (D4.goS (rgS q a b) (D4.cuts (a++b)) ((D4.cuts (a++b)).length - 1) 0 ⟨[],[],0,0⟩).out)
 | 0,i,acc,h,h'=>by
  have _u:=ha;have _v:=hb;have e:acc=D4.ends (a++b):=by rw [h',List.take_of_length_le (by omega)]
  subst e;have hle:=D4.ends_length (a++b);rw [List.length_append] at hle;obtain ⟨n,hn⟩:=v0r q a b ha hb ((D4.cuts (a++b)).length - 1) 0 ⟨[],[],0,0⟩ (by omega) (Nat.zero_le _) (Nat.zero_le _) (Nat.zero_le _) (Nat.zero_le _);refine ⟨n+1,?_⟩;rw [Zv];simp (disch:=omega) only [Yi,Wd,z0a,y0f,Yx,Yk,Yp,decide_true,cond_true,cond_false];exact hn
 | k+1,i,acc,h,h'=>by
  have hle:acc.length≤2*(400+i):=by rw [h',D4.ends_length];simp only [List.length_append,List.length_take];omega
  obtain ⟨n,hn⟩:=u3m k (i+1) (acc++D4.ends [rd b i]) (by omega) (by
   rw [h',List.take_add_one];have:b[i]? =some (rd b i):=by rw [Xy (show i<b.length by omega)];exact List.getElem?_eq_getElem _
   rw [this];simp [Dim.ends])
  refine ⟨n+1,?_⟩;rw [Zv];simp (disch:=omega) only [Yi,Za,Zk,Zt,Yz,Yc,Yk,Yp,Zh,Zq,Zx,Yg,Zj,Nat.zero_add,decide_true,Bool.and_true,Bool.true_and,cond_true,cond_false];exact hn
theorem u3n : ∀(k i:Nat) (acc:List Int),i+k=a.length→acc=D4.ends (a.take i)→ ∃n,Yv (Yi q a b) n (.to (.h0 (i:Int) acc))=.ret (y4h (eJ (w8p (rgA q a b) (D4.cuts (a++b)) ((D4.cuts (a++b)).length - 1) 0) (D4.goS (rgS q a b) (D4.cuts (a++b)) ((D4.cuts (a++b)).length - 1) 0 ⟨[],[],0,0⟩).out.length) (D4.goS (rgS q a b) (D4.cuts (a++b)) ((D4.cuts (a++b)).length - 1) 0 ⟨[],[],0,0⟩).out)
 | 0,i,acc,h,h'=>by have _u:=ha;have _v:=hb;obtain ⟨n,hn⟩:=u3m q a b ha hb b.length 0 acc (Nat.zero_add _) (by rw [h',List.take_of_length_le (by omega),List.take_zero,List.append_nil]);refine ⟨n+1,?_⟩;rw [Zv];simp (disch:=omega) only [Yi,Yx,cond_false];exact hn
 | k+1,i,acc,h,h'=>by
  have hle:acc.length≤2*(400+i):=by rw [h',D4.ends_length];simp only [List.length_append,List.length_take];omega
  obtain ⟨n,hn⟩:=u3n k (i+1) (acc++D4.ends [rd a i]) (by omega) (by
   rw [h',List.take_add_one];have:a[i]? =some (rd a i):=by rw [Xy (show i<a.length by omega)];exact List.getElem?_eq_getElem _
   rw [this];simp [Dim.ends])
  refine ⟨n+1,?_⟩;rw [Zv];simp (disch:=omega) only [Yi,Za,Zk,Zt,Yz,Yc,Yk,Yp,Zh,Zq,Zx,Yg,Zj,Nat.zero_add,decide_true,Bool.and_true,Bool.true_and,cond_true,cond_false];exact hn
end
def rgE (q:Op) (a b:List R4):Int:=bif y6q a != 0 then y6q a else bif y6q b != 0 then y6q b else eJ (w8p (rgA q a b) (D4.cuts (a++b)) ((D4.cuts (a++b)).length - 1) 0) (rgJ q.k a b).length
def Wr (q:Op) (a b:List R4):List R4:=x2b (rgE q a b) (rgJ q.k a b)
def x3q (q:Op) (a b:List R4):Int:=rgE q a b
def Qe (q:Op) (a b:List R4):Bool:=true
theorem w2h {l:List R4} (h:(y6q l != 0)=false):l.length≤400:=by
 refine Classical.byContradiction fun g=> ?_;have h:y6q l=0:=by simpa using h
 unfold y6q at h;rw [decide_eq_true (by omega)] at h;cases h
theorem rg_run (q:Op) (a b:List R4) (h:Qe q a b=true): ∃n,Yv (Yi q a b) n (y2q q a b)=.ret (y4h (rgE q a b) (rgJ q.k a b)):=by
 unfold y2q;have o: ∀l,z4f l=true:=fun _=>rfl;simp only [Za,o,cond_true];rcases Ye (y6q a != 0) with q1 | q1
 ·exact ⟨0,by simp only [rgE,q1,cond_true,z2u _ q1];rfl⟩
 rcases Ye (y6q b != 0) with q2 | q2
 ·exact ⟨0,by simp only [rgE,q1,q2,cond_true,cond_false,z2u _ q2];rfl⟩
 obtain ⟨n,hn⟩:=u3n q a b (w2h q1) (w2h q2) a.length 0 [] (Nat.zero_add _) rfl;refine ⟨n,?_⟩;simp only [rgE,q1,q2,cond_false];exact hn
def fRg (q:Op):List AVal→Option (AVal×Bool)
 | [a0,a1]=>match asL R4 a0,asL R4 a1 with
  | some (L0,g0,n0),some (L1,g1,n1)=>some (.tup [.dat (Wr q L0 L1).length (Zz (Wr q L0 L1)),.int .i64 (x3q q L0 L1)],isT R4 n0 g0&&(isT R4 n1 g1&&(Qe q L0 L1)))
  | _,_=>none
 | _=>none
theorem v4e (q:Op) {S:Specs} (hS:Zu prog S):Zu prog (S.with (nRg q) (fRg q)):=by
 refine v3z hS (by cases q <;> kernel_rfl) fun args v h=> ?_;unfold fRg at h;split at h
 ·rename_i a0 a1;split at h
  ·rename_i L0 g0 n0 L1 g1 n1 e0 e1;simp only [Option.some.injEq,Prod.mk.injEq,Bool.and_eq_true] at h;obtain ⟨rfl,ho0,ho1,hw⟩:=h;obtain ⟨N,hN⟩:=rg_run q L0 L1 hw;exact ⟨_,_,(.cons (asL_le e0 ho0) (.cons (asL_le e1 ho1) .nil)),z5d _ _,v7p q L0 L1 N _ hN,3,z9j _ _⟩
  ·cases h
 ·cases h
def Ud :Specs:=((Uc.with (nRg .u) (fRg .u)).with (nRg .e) (fRg .e)).with (nRg .d) (fRg .d)
theorem z2h :Zu prog Ud:=v4e .d (v4e .e (v4e .u Km))
end Go.Am
namespace Go.Am
structure R7 where
 (a b c d e f g:Int)
instance : Yt R7 where
 w:=7
 d:=⟨0,0,0,0,0,0,0⟩
 cells x:=[.int .u8 x.a,.int .i64 x.b,.int .i64 x.c,.int .i64 x.d,.int .i64 x.e,.int .i64 x.f,.int .i64 x.g]
 of l:=⟨iOf (l.getD 0 .undef),iOf (l.getD 1 .undef),iOf (l.getD 2 .undef),iOf (l.getD 3 .undef),iOf (l.getD 4 .undef),iOf (l.getD 5 .undef),iOf (l.getD 6 .undef)⟩
 len _:=rfl
 pos:=by decide
 flat _:=rfl
 sc _:=rfl
 back _:=rfl
end Go.Am
namespace Go.Am
inductive Ax where
 | x | y | z
def Ax.lo (q:Ax) (r:R6):Int:=match q with
 | .x =>r.a
 | .y =>r.b
 | .z =>r.c
def Ax.hi (q:Ax) (r:R6):Int:=match q with
 | .x =>r.d
 | .y =>r.e
 | .z =>r.f
def Ax.rc (q:Ax) (r:R6):R4:=match q with
 | .x =>⟨r.b,r.c,r.e,r.f⟩
 | .y =>⟨r.a,r.c,r.d,r.f⟩
 | .z =>⟨r.a,r.b,r.d,r.e⟩
def Ax.ix (q:Ax):Int:=match q with
 | .x =>0
 | .y =>1
 | .z =>2
def sdI (s:Bool):Int:=match s with
 | true=>0
 | false=>1
def qd (q:Ax) (s:Bool) (p:Int) (t:R4):R7:=match q,s with
 | .x,true=>⟨0,p,t.a,t.b,p,t.c,t.d⟩
 | .x,false=>⟨1,p,t.a,t.b,p,t.c,t.d⟩
 | .y,true=>⟨2,t.a,p,t.b,t.c,p,t.d⟩
 | .y,false=>⟨3,t.a,p,t.b,t.c,p,t.d⟩
 | .z,true=>⟨4,t.a,t.b,p,t.c,t.d,p⟩
 | .z,false=>⟨5,t.a,t.b,p,t.c,t.d,p⟩
def z2e (q:Ax) (L:List R6) (p:Int):List R4:=(L.filter fun r=>decide (q.lo r≤p)&&decide (p<q.hi r)).map q.rc
end Go.Am
namespace Go.Am
open Go.Proofs.Tryz
open Go.Proofs
abbrev nV1 :Ax→Nat
 | .x =>nMv1
 | .y =>nMv4
 | .z =>nMv7
abbrev nV2 :Ax→Nat
 | .x =>nMv2
 | .y =>nMv5
 | .z =>nMv8
abbrev nV3 :Ax→Nat
 | .x =>nMv3
 | .y =>nMv6
 | .z =>nMv9
def isV (q:Ax) (a b c:Nat):Bool:=Nat.beq a (nV1 q)&&(Nat.beq b (nV2 q)&&Nat.beq c (nV3 q))
theorem v3c {q:Ax} {a b c:Nat} (h:isV q a b c=true):a=nV1 q∧b=nV2 q∧c=nV3 q:=by simp only [isV,Bool.and_eq_true] at h;exact ⟨Nat.eq_of_beq_eq_true h.1,Nat.eq_of_beq_eq_true h.2.1,Nat.eq_of_beq_eq_true h.2.2⟩
def axOf (a b c:Nat):Option Ax:=bif isV .x a b c then some .x else bif isV .y a b c then some .y else bif isV .z a b c then some .z else none
theorem w0v {a b c:Nat} {q:Ax} (h:axOf a b c=some q):a=nV1 q∧b=nV2 q∧c=nV3 q:=by
 unfold axOf at h;cases hx:isV .x a b c with
 | true=>rw [hx,cond_true] at h;obtain rfl:=Option.some.inj h;exact v3c hx
 | false=>
  rw [hx,cond_false] at h;cases hy:isV .y a b c with
  | true=>rw [hy,cond_true] at h;obtain rfl:=Option.some.inj h;exact v3c hy
  | false=>
   rw [hy,cond_false] at h;cases hz:isV .z a b c with
   | true=>rw [hz,cond_true] at h;obtain rfl:=Option.some.inj h;exact v3c hz
   | false=>rw [hz,cond_false] at h;cases h
abbrev Ma :Specs:=Ud
theorem w1k :Zu prog Ma:=z2h
end Go.Am
namespace Go.Am
open Go.Proofs.Tryz
open Go.Proofs
inductive mctS where
 | h0 (v8:List R4) (v13:Int)
def mctC (q:Ax) (l1:List R6) (x2:Int):mctS→Cfg
 | .h0 v8 v13=>⟨⟨47,0,true⟩,none,(Zd prog 141 [1,1,0,1,0,0] 0),none,(Zy prog 32),⟨Yd [(2,(ii x2)),(3,(.ptr 0 0)),(8,(.sla 1 4 0 v8.length (.un 4))),(11,(.dat l1.length (Zz l1))),(12,(ii (l1.length:Int))),(13,(ii v13))],Uw [⟨[(.fn (nV1 q) []),(.fn (nV2 q) []),(.fn (nV3 q) [])],84,none⟩,⟨rows v8.length (Zz v8),88,some ⟨4,v8.length,(Zz v8)⟩⟩] 0,2,[],true⟩,[],.leaf⟩
def v9d :List (Option (List Nat)):=[some [2,3,8,11,12,13]]
def v9e :List (Option (List Nat)):=[]
def z3b (q:Ax) (l1:List R6) (x2:Int):mctS→Xb mctS
 | .h0 v8 v13=>(bif (decide (v13<(l1.length:Int))) then (bif ((decide (0≤v13∧v13<(l1.length:Int)))&&true) then (bif (decide ((q.lo (rd l1 v13.toNat))≤x2)) then (bif (decide (x2<(q.hi (rd l1 v13.toNat)))) then (bif (Nat.beq 4 4&&((decide (0+v8.length=v8.length))&&decide ((v8.length+1+1)*(32+1)≤Ju))) then (.to (.h0 (v8++[(q.rc (rd l1 v13.toNat))]) (IntKind.wrap .i64 (v13+1)))) else .stuck) else (.to (.h0 v8 (IntKind.wrap .i64 (v13+1))))) else (.to (.h0 v8 (IntKind.wrap .i64 (v13+1))))) else .stuck) else (bif (Uh (cvT v8)) then (.ret [(.dat (Zb (cvT v8)).length (Zz (Zb (cvT v8)))),(.int .i64 (Xc (cvT v8)))]) else .stuck))
def x1l (q:Ax) (l1:List R6) (x2:Int):Xb mctS:=(.to (.h0 ([]:List R4) 0))
theorem w6l (q:Ax) (l1:List R6) (x2:Int): ∀s,Xv prog (Zy prog 141) (mctC q l1 x2) (mctC q l1 x2 s) (z3b q l1 x2 s):=by cases q <;> refine (?f: ∀q:Ax,∀s,Xv prog (Zy prog 141) (mctC q l1 x2) (mctC q l1 x2 s) (z3b q l1 x2 s)) _ <;> exact fun q=>fun
 | .h0 v8 v13=>(lb (fun k0=>(lo fun aF=>(lb (fun k1=>(lb (fun k2=>(lo fun o0=>(sl w1k 137 [] ⟨[0,12],[],v9d,v9e⟩ ⟨[(8,.len (v8++[(q.rc (rd l1 (tn v13)))]).length)],[.keep,.rowed 4 (v8++[(q.rc (rd l1 (tn v13)))]).length (Zz (v8++[(q.rc (rd l1 (tn v13)))]))],[]⟩ (trs 9 []) (pp (xL (v8.length+1) (v8++[(q.rc (rd l1 (tn v13)))]).length) (pp (xL (v8.length+1) (v8++[(q.rc (rd l1 (tn v13)))]).length) (pp (xS (v8.length+1) (Zi (Zz v8) 0 v8.length 4 (Yt.cells (q.rc (rd l1 (tn v13))))) (Zz (v8++[(q.rc (rd l1 (tn v13)))]))) (pp (pp (xF (Zi (Zz v8) 0 v8.length 4 (Yt.cells (q.rc (rd l1 (tn v13)))))) nn) (ww o0 (tt k2 (tt k1 (ww aF (tt k0 nn)))))))))))) (fun k2=>(sl w1k 67 [] ⟨[0,1],[],v9d,v9e⟩ ⟨[],[],[]⟩ (trs 8 [false]) (pp (fl v8 nn) (tt k2 (tt k1 (ww aF (tt k0 nn))))))))) (fun k1=>(sl w1k 55 [] ⟨[0,1],[],v9d,v9e⟩ ⟨[],[],[]⟩ (bl 9 1) (pp (fl v8 nn) (tt k1 (ww aF (tt k0 nn))))))))) (fun k0=>(Ws (sl w1k (C':=⟨⟨47,0,true⟩,(Jk prog 141 [1,1,1,0] 1),(Zd prog 141 [1,1,1,0] 1),none,(Zy prog 32),⟨Yd [(43,(.dat v8.length (Zz v8)))],Uw [] 0,0,[],true⟩,[],.leaf⟩) 10 [] ⟨[],[1],[some [43]],[]⟩ ⟨[(43,.frz v8.length v8.length (Zz v8) (Zz v8))],[],[]⟩ [false] (pp (xZ (z6q 4 4 0 v8.length v8.length (Zz v8)) v8.length (Zz v8)) (pp (xL v8.length v8.length) (pp (xS v8.length (Zz v8) (Zz v8)) (pp (fl v8 nn) (tt k0 nn)))))) (lo fun o0=>(lr 47 3 [1,1,1,1,1,1,1,0] 1 32 [(6,(.dat (Zb (cvT v8)).length (Zz (Zb (cvT v8))))),(7,(ii (Xc (cvT v8))))] (sl w1k 6 [] ⟨[],[],[some [6,7]],[]⟩ ⟨[],[],[]⟩ [] (pp (pp (xr v8) (xw o0)) nn)))))))
theorem x8q (q:Ax) (l1:List R6) (x2:Int):Xv prog (Zy prog 141) (mctC q l1 x2) (Zc prog 141 [(.agg [(.fn (nV1 q) []),(.fn (nV2 q) []),(.fn (nV3 q) [])]),(.dat l1.length (Zz l1)),(.int .i64 x2)] true []) (x1l q l1 x2):=by cases q <;> exact (sl w1k 19 [(88,4,Zz ([]:List R4))] ⟨[0,1],[],v9d,v9e⟩ ⟨[(8,.grow 1 4)],[],[]⟩ [] (pp (fl ([]:List R4) nn) nn))
theorem v9c (q:Ax) (l1:List R6) (x2:Int) (n:Nat) (vs:List AVal) (h:Yv (z3b q l1 x2) n (x1l q l1 x2)=.ret vs):Jt prog (Zy prog 141) (Zc prog 141 [(.agg [(.fn (nV1 q) []),(.fn (nV2 q) []),(.fn (nV3 q) [])]),(.dat l1.length (Zz l1)),(.int .i64 x2)] true []) vs:=by have:=Ze (w6l q l1 x2) n _ (x8q q l1 x2);rwa [h] at this
end Go.Am
namespace Go.Am
open Go.Proofs.Tryz
open Go.Proofs
theorem w0k (q:Ax) (L M:List R6) (p:Int):z2e q (L++M) p=z2e q L p++z2e q M p:=by unfold z2e;rw [List.filter_append,List.map_append]
theorem cutL_t (q:Ax) {r:R6} {p:Int} (h1:q.lo r≤p) (h2:p<q.hi r):z2e q [r] p=[q.rc r]:=by unfold z2e;rw [List.filter_cons,if_pos (by simp [h1,h2])];rfl
theorem j2o (q:Ax) {r:R6} {p:Int} (h1: ¬q.lo r≤p):z2e q [r] p=[]:=by unfold z2e;rw [List.filter_cons,if_neg (by simp [h1])];rfl
theorem j2n (q:Ax) {r:R6} {p:Int} (h2: ¬p<q.hi r):z2e q [r] p=[]:=by unfold z2e;rw [List.filter_cons,if_neg (by simp [h2])];rfl
def Ya (q:Ax) (L:List R6) (p:Int):List R4:=Zb (z2e q L p)
def Jm (q:Ax) (L:List R6) (p:Int):Int:=Xc (z2e q L p)
def z1y (q:Ax) (L:List R6) (p:Int):Bool:=decide (L.length≤400)
theorem u5c (q:Ax) (L:List R6) (p:Int) (hl:L.length≤400): ∀(k i:Nat) (acc:List R4),i+k=L.length→acc.length≤i→z2e q L p=acc++z2e q (L.drop i) p→
  ∃n,Yv (z3b q L p) n (.to (.h0 acc (i:Int)))=.ret [.dat (Ya q L p).length (Zz (Ya q L p)),.int .i64 (Jm q L p)]
 | 0,i,acc,h,h',e=>by rw [List.drop_eq_nil_of_le (by omega),show z2e q [] p=[] from rfl,List.append_nil] at e;refine ⟨1,?_⟩;unfold Ya Jm;rw [Zv,e];simp (disch:=omega) only [z3b,Za,show∀l,Uh l=true from fun _=>rfl,Yx,cond_true,cond_false,Zm]
 | k+1,i,acc,h,h',e=>by
  have hi:i<L.length:=by omega
  have e2:z2e q L p=(acc++z2e q [rd L i] p)++z2e q (L.drop (i+1)) p:=by rw [List.append_assoc,←w0k,e,Ym hi];rfl
  obtain ⟨n,hn⟩:=u5c q L p hl k (i+1) (acc++z2e q [rd L i] p) (by omega) (by
   have:(z2e q [rd L i] p).length ≤1:=by unfold z2e;rw [List.length_map];exact List.length_filter_le _ _
   rw [List.length_append];omega) e2
  refine ⟨n+1,?_⟩;rw [Zv];by_cases h1:q.lo (rd L i)≤p
  ·by_cases h2:p<q.hi (rd L i)
   ·rw [cutL_t q h1 h2] at hn;simp (disch:=omega) only [z3b,Xs,Za,Zk,Zt,Yz,Yc,Yk,Yp,Zh,Zq,Zx,Yg,Zj,Nat.zero_add,decide_true,Bool.and_true,Bool.true_and,cond_true,cond_false];exact hn
   ·rw [j2n q h2,List.append_nil] at hn;simp (disch:=omega) only [z3b,Xs,Yx,Za,Zk,Zt,Yz,Zq,Zx,Zj,Bool.and_true,cond_true,cond_false];exact hn
  ·rw [j2o q h1,List.append_nil] at hn;simp (disch:=omega) only [z3b,w0f,Za,Zk,Zt,Yz,Zq,Zx,Zj,Bool.and_true,cond_true,cond_false];exact hn
theorem u9x (q:Ax) (L:List R6) (p:Int) (h:z1y q L p=true): ∃n,Yv (z3b q L p) n (x1l q L p)=.ret [.dat (Ya q L p).length (Zz (Ya q L p)),.int .i64 (Jm q L p)]:=
 u5c q L p (of_decide_eq_true h) L.length 0 [] (Nat.zero_add _) (Nat.le_refl _) rfl
def fMct :List AVal→Option (AVal×Bool)
 | [.agg [.fn a [],.fn b [],.fn c []],a1,.int .i64 x2]=>match axOf a b c,asL R6 a1 with
  | some q,some (L1,g1,n1)=>some (.tup [.dat (Ya q L1 x2).length (Zz (Ya q L1 x2)),.int .i64 (Jm q L1 x2)],isT R6 n1 g1&&(z1y q L1 x2))
  | _,_=>none
 | _=>none
theorem j1q {S:Specs} (hS:Zu prog S):Zu prog (S.with nMCut fMct):=by
 refine z2d hS (by kernel_rfl) fun args v h=> ?_;unfold fMct at h;split at h
 ·rename_i a b c a1 x2;split at h
  ·rename_i q L1 g1 n1 eq e1;simp only [Option.some.injEq,Prod.mk.injEq,Bool.and_eq_true] at h;obtain ⟨rfl,ho1,hw⟩:=h;obtain ⟨rfl,rfl,rfl⟩:=w0v eq;obtain ⟨N,hN⟩:=u9x q L1 x2 hw;exact ⟨_,_,(.cons (.refl _) (.cons (asL_le e1 ho1) (.cons (.refl _) .nil))),rfl,v9c q L1 x2 N _ hN,3,rfl⟩
  ·cases h
 ·cases h
def Mb :Specs:=Ma.with nMCut fMct
theorem v5v :Zu prog Mb:=j1q w1k
end Go.Am
namespace Go.Am
open Go.Proofs.Tryz
open Go.Proofs
inductive mfcS where
def mfcC (q:Ax) (l1:List R6) (x2:Int) (x3:Bool):mfcS→Cfg
 :=nofun
def x1j (q:Ax) (l1:List R6) (x2:Int) (x3:Bool):mfcS→Xb mfcS
 :=nofun
def z3a (q:Ax) (l1:List R6) (x2:Int) (x3:Bool):Xb mfcS:=(bif (z1y q (cvT l1) (IntKind.wrap .i64 (x2 - 1))) then (bif (z1y q (cvT l1) x2) then (bif ((Jm q (cvT l1) (IntKind.wrap .i64 (x2 - 1))) != 0) then (.ret [.nils,(.int .i64 (Jm q (cvT l1) (IntKind.wrap .i64 (x2 - 1))))]) else (bif ((Jm q (cvT l1) x2) != 0) then (.ret [.nils,(.int .i64 (Jm q (cvT l1) x2))]) else (bif x3 then (bif (Qe .d (cvT (Ya q (cvT l1) (IntKind.wrap .i64 (x2 - 1)))) (cvT (Ya q (cvT l1) x2))) then (.ret [(.dat (Wr .d (cvT (Ya q (cvT l1) (IntKind.wrap .i64 (x2 - 1)))) (cvT (Ya q (cvT l1) x2))).length (Zz (Wr .d (cvT (Ya q (cvT l1) (IntKind.wrap .i64 (x2 - 1)))) (cvT (Ya q (cvT l1) x2))))),(.int .i64 (x3q .d (cvT (Ya q (cvT l1) (IntKind.wrap .i64 (x2 - 1)))) (cvT (Ya q (cvT l1) x2))))]) else .stuck) else (bif (Qe .d (cvT (Ya q (cvT l1) x2)) (cvT (Ya q (cvT l1) (IntKind.wrap .i64 (x2 - 1))))) then (.ret [(.dat (Wr .d (cvT (Ya q (cvT l1) x2)) (cvT (Ya q (cvT l1) (IntKind.wrap .i64 (x2 - 1))))).length (Zz (Wr .d (cvT (Ya q (cvT l1) x2)) (cvT (Ya q (cvT l1) (IntKind.wrap .i64 (x2 - 1))))))),(.int .i64 (x3q .d (cvT (Ya q (cvT l1) x2)) (cvT (Ya q (cvT l1) (IntKind.wrap .i64 (x2 - 1))))))]) else .stuck)))) else .stuck) else .stuck)
theorem w6j (q:Ax) (l1:List R6) (x2:Int) (x3:Bool): ∀s,Xv prog (Zy prog 101) (mfcC q l1 x2 x3) (mfcC q l1 x2 x3 s) (x1j q l1 x2 x3 s)
 :=nofun
theorem x8p (q:Ax) (l1:List R6) (x2:Int) (x3:Bool):Xv prog (Zy prog 101) (mfcC q l1 x2 x3) (Zc prog 101 [(.agg [(.fn (nV1 q) []),(.fn (nV2 q) []),(.fn (nV3 q) [])]),(.dat l1.length (Zz l1)),(.int .i64 x2),(.bool x3)] true []) (z3a q l1 x2 x3):=by cases q <;> refine (?f: ∀q:Ax,Xv prog (Zy prog 101) (mfcC q l1 x2 x3) (Zc prog 101 [(.agg [(.fn (nV1 q) []),(.fn (nV2 q) []),(.fn (nV3 q) [])]),(.dat l1.length (Zz l1)),(.int .i64 x2),(.bool x3)] true []) (z3a q l1 x2 x3)) _ <;> exact fun q=>(lo fun bV=>(lo fun cX=>(lb (fun k0=>(lr 50 101 [1,1,1,0,1,0,0] 1 101 [(8,.nils),(9,(ii (Jm q (cvT l1) (wr (x2 - 1)))))] (sl v5v 96 [] ⟨[],[],[some [8,9]],[]⟩ ⟨[],[],[]⟩ (trs 5 []) (tt k0 (tt k0 (pp (pp (pp nn (pp nn (pp nn nn))) (pp (xr l1) (xw cX))) (pp (pp (pp nn (pp nn (pp nn nn))) (pp (xr l1) (xw bV))) nn))))))) (fun k0=>(lb (fun k1=>(lr 50 101 [1,1,1,0,1,0,0] 1 101 [(8,.nils),(9,(ii (Jm q (cvT l1) x2)))] (sl v5v 125 [] ⟨[],[],[some [8,9]],[]⟩ ⟨[],[],[]⟩ [false,false,true,true,false,true,true] (tt k1 (tt k0 (tt k1 (tt k0 (pp (pp (pp nn (pp nn (pp nn nn))) (pp (xr l1) (xw cX))) (pp (pp (pp nn (pp nn (pp nn nn))) (pp (xr l1) (xw bV))) nn))))))))) (fun k1=>(lb (fun k2=>(lo fun o0=>(lr 50 101 [1,1,1,1,0,1,0,0] 1 101 [(8,(.dat (Wr .d (cvT (Ya q (cvT l1) (wr (x2 - 1)))) (cvT (Ya q (cvT l1) x2))).length (Zz (Wr .d (cvT (Ya q (cvT l1) (wr (x2 - 1)))) (cvT (Ya q (cvT l1) x2)))))),(9,(ii (x3q .d (cvT (Ya q (cvT l1) (wr (x2 - 1)))) (cvT (Ya q (cvT l1) x2)))))] (sl v5v 59 [] ⟨[],[],[some [8,9]],[]⟩ ⟨[],[],[]⟩ [false,false,false,true] (pp (pp (xI R4 (Ya q (cvT l1) (wr (x2 - 1))).length (Zz (Ya q (cvT l1) (wr (x2 - 1))))) (pp (xI R4 (Ya q (cvT l1) x2).length (Zz (Ya q (cvT l1) x2))) (xw o0))) (tt k2 (tt k1 (tt k0 (pp (pp (pp nn (pp nn (pp nn nn))) (pp (xr l1) (xw cX))) (pp (pp (pp nn (pp nn (pp nn nn))) (pp (xr l1) (xw bV))) nn)))))))))) (fun k2=>(lo fun o0=>(lr 50 3 [1,1,1,1,1,1,1,0] 1 101 [(8,(.dat (Wr .d (cvT (Ya q (cvT l1) x2)) (cvT (Ya q (cvT l1) (wr (x2 - 1))))).length (Zz (Wr .d (cvT (Ya q (cvT l1) x2)) (cvT (Ya q (cvT l1) (wr (x2 - 1)))))))),(9,(ii (x3q .d (cvT (Ya q (cvT l1) x2)) (cvT (Ya q (cvT l1) (wr (x2 - 1)))))))] (sl v5v 60 [] ⟨[],[],[some [8,9]],[]⟩ ⟨[],[],[]⟩ [false,false,false,false] (pp (pp (xI R4 (Ya q (cvT l1) x2).length (Zz (Ya q (cvT l1) x2))) (pp (xI R4 (Ya q (cvT l1) (wr (x2 - 1))).length (Zz (Ya q (cvT l1) (wr (x2 - 1))))) (xw o0))) (tt k2 (tt k1 (tt k0 (pp (pp (pp nn (pp nn (pp nn nn))) (pp (xr l1) (xw cX))) (pp (pp (pp nn (pp nn (pp nn nn))) (pp (xr l1) (xw bV))) nn)))))))))))))))))
theorem v8z (q:Ax) (l1:List R6) (x2:Int) (x3:Bool) (n:Nat) (vs:List AVal) (h:Yv (x1j q l1 x2 x3) n (z3a q l1 x2 x3)=.ret vs):Jt prog (Zy prog 101) (Zc prog 101 [(.agg [(.fn (nV1 q) []),(.fn (nV2 q) []),(.fn (nV3 q) [])]),(.dat l1.length (Zz l1)),(.int .i64 x2),(.bool x3)] true []) vs:=by have:=Ze (w6j q l1 x2 x3) n _ (x8p q l1 x2 x3);rwa [h] at this
end Go.Am
namespace Go.Am
open Go.Proofs.Tryz
open Go.Proofs
def w6k (q:Ax) (L:List R6) (p:Int):Int:=bif Jm q L (IntKind.wrap .i64 (p - 1)) != 0 then Jm q L (IntKind.wrap .i64 (p - 1)) else Jm q L p
def Ur (q:Ax) (L:List R6) (p:Int) (s:Bool):Int:=bif w6k q L p != 0 then w6k q L p else
 bif s then rgE .d (Ya q L (IntKind.wrap .i64 (p - 1))) (Ya q L p) else rgE .d (Ya q L p) (Ya q L (IntKind.wrap .i64 (p - 1)))
def Vx (q:Ax) (L:List R6) (p:Int) (s:Bool):List R4:=bif w6k q L p != 0 then [] else
 bif s then Wr .d (Ya q L (IntKind.wrap .i64 (p - 1))) (Ya q L p) else Wr .d (Ya q L p) (Ya q L (IntKind.wrap .i64 (p - 1)))
def z4n (q:Ax) (L:List R6) (p:Int) (s:Bool):Bool:=decide (L.length≤400)
theorem u9u (q:Ax) (L:List R6) (p:Int) (s:Bool) (h:z4n q L p s=true): ∃n vs,Yv (x1j q L p s) n (z3a q L p s)=.ret vs∧
  ∀(ρ:Rho) (u:Value),Yy ρ (Ku vs) u→Yy ρ (.tup [.dat (Vx q L p s).length (Zz (Vx q L p s)),.int .i64 (Ur q L p s)]) u:=by
 have o: ∀x,z1y q L x=true:=fun _=>h;unfold z3a;simp only [Za,o,show∀a b,Qe .d a b=true from fun _ _=>rfl,cond_true];rcases Ye (Jm q L (IntKind.wrap .i64 (p - 1)) != 0) with q1 | q1
 ·refine ⟨0,_,by rw [q1,cond_true];rfl,?_⟩;have e:w6k q L p=Jm q L (IntKind.wrap .i64 (p - 1)):=by unfold w6k;rw [q1];rfl
  unfold Vx Ur;rw [e,q1,cond_true,cond_true];exact fun ρ u hu=>z5s (.cons (.nild _) (.cons (.refl _) .nil)) ρ u hu
 rcases Ye (Jm q L p != 0) with q2 | q2
 ·refine ⟨0,_,by rw [q1,q2,cond_false,cond_true];rfl,?_⟩;have e:w6k q L p=Jm q L p:=by unfold w6k;rw [q1];rfl
  unfold Vx Ur;rw [e,q2,cond_true,cond_true];exact fun ρ u hu=>z5s (.cons (.nild _) (.cons (.refl _) .nil)) ρ u hu
 have e:(w6k q L p != 0)=false:=by unfold w6k;rw [q1,cond_false];exact q2
 cases s with
 | true=>refine ⟨0,_,by rw [q1,q2,cond_false,cond_false,cond_true];rfl,?_⟩;unfold Vx Ur;rw [e];exact fun ρ u hu=>hu
 | false=>refine ⟨0,_,by rw [q1,q2,cond_false,cond_false,cond_false];rfl,?_⟩;unfold Vx Ur;rw [e];exact fun ρ u hu=>hu
def fMfc :List AVal→Option (AVal×Bool)
 | [.agg [.fn a [],.fn b [],.fn c []],a1,.int .i64 x2,.bool s]=>match axOf a b c,asL R6 a1 with
  | some q,some (L1,g1,n1)=>some (.tup [.dat (Vx q L1 x2 s).length (Zz (Vx q L1 x2 s)),.int .i64 (Ur q L1 x2 s)],isT R6 n1 g1&&(z4n q L1 x2 s))
  | _,_=>none
 | _=>none
theorem mfc_pf (q:Ax) (L:List R6) (p:Int) (s:Bool) (n:Nat) (vs:List AVal) (h:Yv (x1j q L p s) n (z3a q L p s)=.ret vs) (ho:z4n q L p s=true): ∃d,pf d (Ku vs)=true:=by
 have o: ∀x,z1y q L x=true:=fun _=>ho;unfold z3a at h;simp only [Za,o,show∀a b,Qe .d a b=true from fun _ _=>rfl,cond_true] at h;cases h1:(Jm q L (IntKind.wrap .i64 (p - 1)) != 0) <;> rw [h1] at h <;> simp only [cond_true,cond_false] at h
 ·cases h2:(Jm q L p != 0) <;> rw [h2] at h <;> simp only [cond_true,cond_false] at h
  ·cases s <;> simp only [cond_true,cond_false,Zm] at h <;> obtain rfl:=Xb.ret.inj h <;> exact ⟨3,rfl⟩
  ·rw [Zm] at h;obtain rfl:=Xb.ret.inj h;exact ⟨3,rfl⟩
 ·rw [Zm] at h;obtain rfl:=Xb.ret.inj h;exact ⟨3,rfl⟩
theorem j1p {S:Specs} (hS:Zu prog S):Zu prog (S.with v2c fMfc):=by
 refine v3z hS (by kernel_rfl) fun args v h=> ?_;unfold fMfc at h;split at h
 ·rename_i a b c a1 x2 s;split at h
  ·rename_i q L1 g1 n1 eq e1;simp only [Option.some.injEq,Prod.mk.injEq,Bool.and_eq_true] at h;obtain ⟨rfl,ho1,hw⟩:=h;obtain ⟨rfl,rfl,rfl⟩:=w0v eq;obtain ⟨N,vs,hN,hv⟩:=u9u q L1 x2 s hw;exact ⟨_,vs,(.cons (.refl _) (.cons (asL_le e1 ho1) (.cons (.refl _) (.cons (.refl _) .nil)))),hv,v8z q L1 x2 s N _ hN,mfc_pf q L1 x2 s N vs hN hw⟩
  ·cases h
 ·cases h
def Mc :Specs:=Mb.with v2c fMfc
theorem y0q :Zu prog Mc:=j1p v5v
end Go.Am
namespace Go.Am
open Go.Proofs.Tryz
open Go.Proofs
inductive mmdS where
 | h0 (q:Ax) (s:Bool) (v5:List Int) (v10:Int) (aA:List R7) (aJ:List R7)
 | h1 (q:Ax) (s:Bool) (bR:Nat) (v6:Int) (v7:Int) (aA:List R7) (aJ:List R7) (aT:List Int)
 | h2 (q:Ax) (s:Bool) (v8:Int) (v37:List R4) (v38:Int) (v39:Int) (bW:Nat) (cH:Int) (cI:Int) (aA:List R7) (aJ:List R7) (aT:List Int)
def u5b (q:Ax) (s:Bool):AFr:=⟨⟨75,0,true⟩,none,(.inRangeFunc 0::(Zd prog 52 [1,1,0,1,0,0,1,1,0,0,1,1,0,0,1,1,0,0,1,1,0] 1)),none,(Zy prog 52),Yd [(1,(.ptr 1 0)),(2,(.ptr 2 0)),(3,(.ptr 4 0)),(4,(.ptr 5 0)),(5,(.ptr 7 0)),(6,(.ptr 8 0)),(13,(.agg [(.fn 105 []),(.fn 106 []),(.fn 107 []),(.fn 108 []),(.fn 109 []),(.fn 110 []),(.fn 111 []),(.fn 112 []),(.fn 113 [])])),(14,(ii q.ix)),(18,(ii (sdI s)))]⟩
def w3a (q:Ax):ABlk:=⟨[(.fn (nV1 q) []),(.fn (nV2 q) []),(.fn (nV3 q) [])],84,none⟩
def u5a :=(Vn prog 52 [1,1,0,1,0,0,1,1,0,0,1,1,0,0,1,1,0,0,1,1,0,0])
def u4z :=(Vn prog 52 [1,1,0,1,0,0,1,1,0,0,1,1,0,0,1,1,0,0,1,1,0,1])
def z9r (l0:List R6):mmdS→Cfg
 | .h0 q s v5 v10 aA aJ=>⟨⟨33,0,true⟩,none,(Zd prog 100 [1,1,0,1,0,0] 0),none,(Zy prog 5),⟨Yd [(2,(.ptr 0 0)),(5,(.sla 10 1 0 v5.length (.un 1))),(8,(.dat l0.length (Zz l0))),(9,(ii (l0.length:Int))),(10,(ii v10))],Uw [(w3a q),⟨[(.dat l0.length (Zz l0))],38,none⟩,⟨[(.sla 3 7 0 aA.length (.un 7))],25,none⟩,⟨rows aA.length (Zz aA),62,some ⟨7,aA.length,(Zz aA)⟩⟩,⟨[(ii 0)],26,none⟩,⟨[(.sla 6 7 0 aJ.length (.un 7))],25,none⟩,⟨rows aJ.length (Zz aJ),62,some ⟨7,aJ.length,(Zz aJ)⟩⟩,⟨[(ii q.ix)],3,none⟩,(w3a q),⟨[(ii (sdI s))],3,none⟩,⟨rows v5.length (Zz v5),3,some ⟨1,v5.length,(Zz v5)⟩⟩] 0,11,[],true⟩,[⟨⟨75,0,true⟩,(Jk prog 52 [1,1,0,1,0,0,1,1,0,0,1,1,0,0,1,1,0,0,1,0] 2),(Zd prog 52 [1,1,0,1,0,0,1,1,0,0,1,1,0,0,1,1,0,0,1,0] 1),none,(Zy prog 52),Yd [(1,(.ptr 1 0)),(2,(.ptr 2 0)),(3,(.ptr 4 0)),(4,(.ptr 5 0)),(5,(.ptr 7 0)),(6,(.ptr 8 0)),(7,(.ptr 9 0)),(13,(.agg [(.fn 105 []),(.fn 106 []),(.fn 107 []),(.fn 108 []),(.fn 109 []),(.fn 110 []),(.fn 111 []),(.fn 112 []),(.fn 113 [])])),(14,(ii q.ix)),(18,(ii (sdI s))),(21,(.agg [(.fn (nV1 q) []),(.fn (nV2 q) []),(.fn (nV3 q) [])])),(22,(.dat l0.length (Zz l0)))]⟩],.leaf⟩
 | .h1 q s bR v6 v7 aA aJ aT=>⟨⟨16,0,true⟩,none,(Zd prog 175 [1,0,0] 0),none,[],⟨Yd [(0,(.yld 0)),(5,(.sla 10 1 0 bR (.un 1))),(6,(ii v6)),(7,(ii v7))],y1b [(1,⟨[(.dat l0.length (Zz l0))],38,none⟩),(2,⟨[(.sla 3 7 0 aA.length (.un 7))],25,none⟩),(3,⟨rows aA.length (Zz aA),62,some ⟨7,aA.length,(Zz aA)⟩⟩),(4,⟨[(ii 0)],26,none⟩),(5,⟨[(.sla 6 7 0 aJ.length (.un 7))],25,none⟩),(6,⟨rows aJ.length (Zz aJ),62,some ⟨7,aJ.length,(Zz aJ)⟩⟩),(7,⟨[(ii q.ix)],3,none⟩),(8,(w3a q)),(9,⟨[(ii (sdI s))],3,none⟩),(10,⟨rows aT.length (Zz aT),3,some ⟨1,aT.length,(Zz aT)⟩⟩)],11,[],true⟩,[(u5b q s)],(y7a [(0,⟨.ready,none,75,Yd [(1,(.ptr 1 0)),(2,(.ptr 2 0)),(3,(.ptr 4 0)),(4,(.ptr 5 0)),(5,(.ptr 7 0)),(6,(.ptr 8 0)),(7,(.ptr 9 0))],[24],u5a,u4z⟩)])⟩
 | .h2 q s v8 v37 v38 v39 bW cH cI aA aJ aT=>⟨⟨75,0,true⟩,none,(Zd prog 52 [1,1,0,1,0,0,1,1,0,0,1,1,0,0,1,1,0,0,1,1,0,1,0,1,1,1,0,0] 0),(some 0),[],⟨Yd [(4,(.ptr 5 0)),(5,(.ptr 7 0)),(6,(.ptr 8 0)),(7,(.ptr 9 0)),(8,(ii v8)),(37,(.dat v37.length (Zz v37))),(38,(ii v38)),(39,(ii v39))],y1b [(1,⟨[(.dat l0.length (Zz l0))],38,none⟩),(2,⟨[(.sla 3 7 0 aA.length (.un 7))],25,none⟩),(3,⟨rows aA.length (Zz aA),62,some ⟨7,aA.length,(Zz aA)⟩⟩),(4,⟨[(ii 0)],26,none⟩),(5,⟨[(.sla 6 7 0 aJ.length (.un 7))],25,none⟩),(6,⟨rows aJ.length (Zz aJ),62,some ⟨7,aJ.length,(Zz aJ)⟩⟩),(7,⟨[(ii q.ix)],3,none⟩),(8,(w3a q)),(9,⟨[(ii (sdI s))],3,none⟩),(10,⟨rows aT.length (Zz aT),3,some ⟨1,aT.length,(Zz aT)⟩⟩)],11,[],true⟩,[⟨⟨16,0,true⟩,(Jk prog 175 [1,0,0,1,1,0,0,1,0] 2),(Zd prog 175 [1,0,0,1,1,0,0,1,0] 1),none,[],Yd [(0,(.yld 0)),(5,(.sla 10 1 0 bW (.un 1))),(6,(ii cH)),(7,(ii cI)),(11,(.yld 0)),(12,(ii v8))]⟩,(u5b q s)],(y7a [(0,⟨.busy,none,75,Yd [(1,(.ptr 1 0)),(2,(.ptr 2 0)),(3,(.ptr 4 0)),(4,(.ptr 5 0)),(5,(.ptr 7 0)),(6,(.ptr 8 0)),(7,(.ptr 9 0))],[24],u5a,u4z⟩)])⟩
def v2l :List (Option (List Nat)):=[some [2,5,8,9,10],some [1,2,3,4,5,6,7,13,14,18,21,22]]
def v2m :List (Option (List Nat)):=[]
def mmdN1 :List (Option (List Nat)):=[some [0,5,6,7],some [1,2,3,4,5,6,13,14,18]]
def mmdM1 :List (Option (List Nat)):=[some [1,2,3,4,5,6,7],none,none,none,none,none,none,none,none,none,none]
def mmdN2 :List (Option (List Nat)):=[some [4,5,6,7,8,37,38,39],some [0,5,6,7,11,12],some [1,2,3,4,5,6,13,14,18]]
def mmdM2 :List (Option (List Nat)):=[some [1,2,3,4,5,6,7],none,none,none,none,none,none,none,none,none,none]
def v2n (q:Ax) (s:Bool) (aA:List R7) (aJ:List R7):Xb mmdS:=match q,s with
 | q,true=>(.to (.h0 q false ([]:List Int) 0 aA aJ))
 | .x,false=>(.to (.h0 .y true ([]:List Int) 0 aA aJ))
 | .y,false=>(.to (.h0 .z true ([]:List Int) 0 aA aJ))
 | .z,false=>(bif (decide ((aJ.length:Int)>3000)) then (.ret [.nils,(.int .i64 4)]) else (.ret [(.dat aJ.length (Zz aJ)),(.int .i64 0)]))
def Xq (l0:List R6):mmdS→Xb mmdS
 | .h0 q s v5 v10 aA aJ=>(bif (decide (v10<(l0.length:Int))) then (bif ((decide (0≤v10∧v10<(l0.length:Int)))&&true) then (bif (Nat.beq 1 1&&((decide (0+v5.length=v5.length))&&decide ((v5.length+2+1)*(8+1)≤Ju))) then (.to (.h0 q s (v5++[(q.lo (rd l0 v10.toNat)),(q.hi (rd l0 v10.toNat))]) (IntKind.wrap .i64 (v10+1)) aA aJ)) else .stuck) else .stuck) else (bif (decide (v5.length<4611686018427387904)) then (bif (decide (v5.length=v5.length)) then (.to (.h1 q s (w8q (Yw v5.length (cOf (Zz (Xm (Yw v5.length (cOf (Zz v5)))))))) (((w8q (Yw v5.length (cOf (Zz (Xm (Yw v5.length (cOf (Zz v5)))))))):Nat):Int) 0 aA aJ (Wh (Yw v5.length (cOf (Zz (Xm (Yw v5.length (cOf (Zz v5)))))))))) else .stuck) else .stuck))
 | .h2 q s v8 v37 v38 v39 bW cH cI aA aJ aT=>(bif (decide (v39<v38)) then (bif ((decide (0≤v39∧v39<(v37.length:Int)))&&true) then (bif (Nat.beq 7 7&&((decide (0+aJ.length=aJ.length))&&decide ((aJ.length+1+1)*(56+1)≤Ju))) then (.to (.h2 q s v8 v37 v38 (IntKind.wrap .i64 (v39+1)) bW cH cI aA (aJ++[(qd q s v8 (rd v37 v39.toNat))]) aT)) else .stuck) else .stuck) else (.to (.h1 q s bW cH (IntKind.wrap .i64 (cI+1)) aA aJ aT)))
 | .h1 q s bR v6 v7 aA aJ aT=>(bif (decide (v7<v6)) then (bif ((decide (0≤v7∧v7<((bR:Nat):Int)))&&true) then (bif (decide ((0+v7.toNat)<aT.length)) then (bif (z4n q (cvT l0) (rd aT (0+v7.toNat)) s) then (bif ((Ur q (cvT l0) (rd aT (0+v7.toNat)) s) != 0) then (.ret [.nils,(.int .i64 (Ur q (cvT l0) (rd aT (0+v7.toNat)) s))]) else (.to (.h2 q s (rd aT (0+v7.toNat)) (Vx q (cvT l0) (rd aT (0+v7.toNat)) s) (((Vx q (cvT l0) (rd aT (0+v7.toNat)) s).length :Nat):Int) 0 bR v6 v7 aA aJ aT))) else .stuck) else .stuck) else .stuck) else (v2n q s aA aJ))
def x1i (l0:List R6):Xb mmdS:=(.to (.h0 .x true ([]:List Int) 0 ([]:List R7) ([]:List R7)))
theorem u9t (l0:List R6) (q:Ax) (bR:Nat) (v6:Int) (v7:Int) (aA:List R7) (aJ:List R7) (aT:List Int) (k0:(decide (v7<v6))=false):Xv prog (Zy prog 52) (z9r l0) (z9r l0 (.h1 q true bR v6 v7 aA aJ aT)) (v2n q true aA aJ):=by cases q <;> refine (?f: ∀q:Ax,Xv prog (Zy prog 52) (z9r l0) (z9r l0 (.h1 q true bR v6 v7 aA aJ aT)) (v2n q true aA aJ)) _ <;> exact fun q=>(sl y0q 54 [(3,1,Zz ([]:List Int))] ⟨[12,1,2,3,4,5,6,7,8,11,13],[],v2l,v2m⟩ ⟨[(5,.grow 10 1)],[],[]⟩ [false,true] (pp (fl aA (fl aJ (fl ([]:List Int) nn))) (tt k0 nn)))
theorem u9s (l0:List R6) (bR:Nat) (v6:Int) (v7:Int) (aA:List R7) (aJ:List R7) (aT:List Int) (k0:(decide (v7<v6))=false):Xv prog (Zy prog 52) (z9r l0) (z9r l0 (.h1 .x false bR v6 v7 aA aJ aT)) (v2n .x false aA aJ):=(sl y0q 91 [(3,1,Zz ([]:List Int))] ⟨[14,1,2,3,4,5,6,11,12,13,15],[],v2l,v2m⟩ ⟨[(5,.grow 10 1)],[],[]⟩ [false,false,true,true,false,true] (pp (fl aA (fl aJ (fl ([]:List Int) nn))) (tt k0 nn)))
theorem u9r (l0:List R6) (bR:Nat) (v6:Int) (v7:Int) (aA:List R7) (aJ:List R7) (aT:List Int) (k0:(decide (v7<v6))=false):Xv prog (Zy prog 52) (z9r l0) (z9r l0 (.h1 .y false bR v6 v7 aA aJ aT)) (v2n .y false aA aJ):=(sl y0q 91 [(3,1,Zz ([]:List Int))] ⟨[14,1,2,3,4,5,6,11,12,13,15],[],v2l,v2m⟩ ⟨[(5,.grow 10 1)],[],[]⟩ [false,false,true,true,true,false,true] (pp (fl aA (fl aJ (fl ([]:List Int) nn))) (tt k0 nn)))
theorem u9q (l0:List R6) (bR:Nat) (v6:Int) (v7:Int) (aA:List R7) (aJ:List R7) (aT:List Int) (k0:(decide (v7<v6))=false):Xv prog (Zy prog 52) (z9r l0) (z9r l0 (.h1 .z false bR v6 v7 aA aJ aT)) (v2n .z false aA aJ):=(lb (fun k1=>(y3c ⟨⟨75,0,true⟩,none,(Zd prog 52 [1,1,1,0,1,0,0] 1),none,(Zy prog 52),⟨Yd [(2,(.ptr 0 0)),(3,(.ptr 1 0))],Uw [⟨[.nils],25,none⟩,⟨[(ii 4)],26,none⟩] 0,2,[],true⟩,[],.leaf⟩ (sl y0q 49 [] ⟨[2,4],[],[some [2,3]],[]⟩ ⟨[],[],[]⟩ [false,false,false,true] (tt k1 (tt k0 nn))) rfl (by kernel_rfl))) (fun k1=>(y3c ⟨⟨75,0,true⟩,none,(Zd prog 3 [1,1,1,1,1,1,1,0] 1),none,(Zy prog 52),⟨Yd [(2,(.ptr 0 0)),(3,(.ptr 1 0))],Uw [⟨[(.dat aJ.length (Zz aJ))],25,none⟩,⟨[(ii 0)],26,none⟩] 0,2,[],true⟩,[],.leaf⟩ (sl y0q 51 [] ⟨[2,4],[6],[some [2,3]],[]⟩ ⟨[],[.cells [.frz aJ.length aJ.length (Zz aJ) (Zz aJ)],.keep],[]⟩ [false,false,false,false] (pp (xZ (z6q 7 7 0 aJ.length aJ.length (Zz aJ)) aJ.length (Zz aJ)) (pp (xL aJ.length aJ.length) (pp (xS aJ.length (Zz aJ) (Zz aJ)) (pp (fl aJ nn) (tt k1 (tt k0 nn))))))) rfl (by kernel_rfl))))
theorem mmd_ex (l0:List R6) (q:Ax) (s:Bool) (bR:Nat) (v6:Int) (v7:Int) (aA:List R7) (aJ:List R7) (aT:List Int) (k0:(decide (v7<v6))=false):Xv prog (Zy prog 52) (z9r l0) (z9r l0 (.h1 q s bR v6 v7 aA aJ aT)) (v2n q s aA aJ):=match q,s with
 | q,true=>u9t l0 q bR v6 v7 aA aJ aT k0
 | .x,false=>u9s l0 bR v6 v7 aA aJ aT k0
 | .y,false=>u9r l0 bR v6 v7 aA aJ aT k0
 | .z,false=>u9q l0 bR v6 v7 aA aJ aT k0
theorem mmd_s0 (q:Ax) (s:Bool) (l0:List R6) (v5:List Int) (v10:Int) (aA:List R7) (aJ:List R7):Xv prog (Zy prog 52) (z9r l0) (z9r l0 (.h0 q s v5 v10 aA aJ)) (Xq l0 (.h0 q s v5 v10 aA aJ)):=by cases q <;> cases s <;> refine (?f: ∀(q:Ax) (s:Bool),Xv prog (Zy prog 52) (z9r l0) (z9r l0 (.h0 q s v5 v10 aA aJ)) (Xq l0 (.h0 q s v5 v10 aA aJ))) _ _ <;> exact fun q s=>(lb (fun k0=>(lo fun o0=>(lo fun o1=>(sl y0q 23 [] ⟨[0,1,2,3,4,5,6,7,8,9,15],[],v2l,v2m⟩ ⟨[(5,.len (v5++[(q.lo (rd l0 (tn v10))),(q.hi (rd l0 (tn v10)))]).length)],(kpB 10 [.rowed 1 (v5++[(q.lo (rd l0 (tn v10))),(q.hi (rd l0 (tn v10)))]).length (Zz (v5++[(q.lo (rd l0 (tn v10))),(q.hi (rd l0 (tn v10)))]))]),[]⟩ [true] (pp (xL (v5.length+2) (v5++[(q.lo (rd l0 (tn v10))),(q.hi (rd l0 (tn v10)))]).length) (pp (xL (v5.length+2) (v5++[(q.lo (rd l0 (tn v10))),(q.hi (rd l0 (tn v10)))]).length) (pp (xS (v5.length+2) (Zi (Zz v5) 0 v5.length 1 [(ii (q.lo (rd l0 (tn v10)))),(ii (q.hi (rd l0 (tn v10))))]) (Zz (v5++[(q.lo (rd l0 (tn v10))),(q.hi (rd l0 (tn v10)))]))) (pp (fl aA (fl aJ (pp (xF (Zi (Zz v5) 0 v5.length 1 [(ii (q.lo (rd l0 (tn v10)))),(ii (q.hi (rd l0 (tn v10))))])) nn))) (ww o1 (ww o0 (tt k0 nn))))))))))) (fun k0=>(lo fun o0=>(lo fun o1=>(sl y0q 42 [] ⟨[12,1,2,3,4,5,6,7,8,9,10],[],mmdN1,mmdM1⟩ ⟨[],(kpB 10 [.rowed 1 (Wh (Yw v5.length (cOf (Zz (Xm (Yw v5.length (cOf (Zz v5)))))))).length (Zz (Wh (Yw v5.length (cOf (Zz (Xm (Yw v5.length (cOf (Zz v5)))))))))]),[]⟩ [false] (pp (xL v5.length (Wh (Yw v5.length (cOf (Zz (Xm (Yw v5.length (cOf (Zz v5)))))))).length (by first | exact z2a _ _ | exact Vy rfl)) (pp (xS v5.length (Zz (Wh (Yw v5.length (cOf (Zz (Xm (Yw v5.length (cOf (Zz v5))))))))) (Zz (Wh (Yw v5.length (cOf (Zz (Xm (Yw v5.length (cOf (Zz v5)))))))))) (pp (fl aA (fl aJ (fl (Wh (Yw v5.length (cOf (Zz (Xm (Yw v5.length (cOf (Zz v5)))))))) nn))) (pp (pp (xG (Nat.beq 1 1)) (pp (xG (Nat.beq 1 1)) (pp (xG (Nat.beq 0 0)) (pp (xG (decide (v5.length=v5.length))) (pp (xG (isI (Zz (Xm (Yw v5.length (cOf (Zz v5))))))) (xG (decide (v5.length<4611686018427387904)))))))) (pp (pp (xG (Nat.beq 1 1)) (pp (xG (Nat.beq 1 1)) (pp (xG (Nat.beq 0 0)) (pp (xG (decide (v5.length=v5.length))) (pp (xG (isI (Zz v5))) (xG (decide (v5.length<4611686018427387904)))))))) (tt k0 nn)))))))))))
theorem mmd_s1 (q:Ax) (s:Bool) (l0:List R6) (bR:Nat) (v6:Int) (v7:Int) (aA:List R7) (aJ:List R7) (aT:List Int):Xv prog (Zy prog 52) (z9r l0) (z9r l0 (.h1 q s bR v6 v7 aA aJ aT)) (Xq l0 (.h1 q s bR v6 v7 aA aJ aT)):=by cases q <;> cases s <;> refine (?f: ∀(q:Ax) (s:Bool),Xv prog (Zy prog 52) (z9r l0) (z9r l0 (.h1 q s bR v6 v7 aA aJ aT)) (Xq l0 (.h1 q s bR v6 v7 aA aJ aT))) _ _ <;> exact fun q s=>(lb (fun k0=>(lo fun aF=>(lo fun aW=>(lo fun bZ=>(lb (fun k1=>(y3c ⟨⟨75,0,true⟩,none,(.code .ret ::(Zd prog 52 [1,1,0,1,0,0,1,1,0,0,1,1,0,0,1,1,0,0,1,1,0] 1)),none,(Zy prog 52),⟨Yd [(2,(.ptr 0 0)),(3,(.ptr 1 0))],Uw [⟨[.nils],25,none⟩,⟨[(ii (Ur q (cvT l0) (rd aT (0+(tn v7))) s))],26,none⟩] 0,2,[],true⟩,[],.leaf⟩ (sl y0q 58 [] ⟨[2,4],[],[some [2,3]],[]⟩ ⟨[],[],[]⟩ (trs 3 []) (tt k1 (pp (pp (pp nn (pp nn (pp nn (pp nn nn)))) (pp (xr l0) (xw bZ))) (ww aW (ww aF (tt k0 nn)))))) rfl (by kernel_rfl))) (fun k1=>(sl y0q 55 [] ⟨(List.range 11),[],mmdN2,mmdM2⟩ ⟨[],[],[]⟩ [true,false] (pp (fl aA (fl aJ (fl aT nn))) (tt k1 (pp (pp (pp nn (pp nn (pp nn (pp nn nn)))) (pp (xr l0) (xw bZ))) (ww aW (ww aF (tt k0 nn))))))))))))) (fun k0=>mmd_ex l0 q s bR v6 v7 aA aJ aT k0))
theorem mmd_s2 (q:Ax) (s:Bool) (l0:List R6) (v8:Int) (v37:List R4) (v38:Int) (v39:Int) (bW:Nat) (cH:Int) (cI:Int) (aA:List R7) (aJ:List R7) (aT:List Int):Xv prog (Zy prog 52) (z9r l0) (z9r l0 (.h2 q s v8 v37 v38 v39 bW cH cI aA aJ aT)) (Xq l0 (.h2 q s v8 v37 v38 v39 bW cH cI aA aJ aT)):=by cases q <;> cases s <;> refine (?f: ∀(q:Ax) (s:Bool),Xv prog (Zy prog 52) (z9r l0) (z9r l0 (.h2 q s v8 v37 v38 v39 bW cH cI aA aJ aT)) (Xq l0 (.h2 q s v8 v37 v38 v39 bW cH cI aA aJ aT))) _ _ <;> exact fun q s=>(lb (fun k0=>(lo fun o0=>(lo fun o1=>(sl y0q 23 [] ⟨[0,1,2,3,4,5,15,7,8,9,10],[],mmdN2,mmdM2⟩ ⟨[],(kpB 5 [.cells [.len (aJ++[(qd q s v8 (rd v37 (tn v39)))]).length],.rowed 7 (aJ++[(qd q s v8 (rd v37 (tn v39)))]).length (Zz (aJ++[(qd q s v8 (rd v37 (tn v39)))])),.keep,.keep,.keep,.keep]),[]⟩ [true] (pp (xL (aJ.length+1) (aJ++[(qd q s v8 (rd v37 (tn v39)))]).length) (pp (xL (aJ.length+1) (aJ++[(qd q s v8 (rd v37 (tn v39)))]).length) (pp (xS (aJ.length+1) (Zi (Zz aJ) 0 aJ.length 7 (Yt.cells (qd q s v8 (rd v37 (tn v39))))) (Zz (aJ++[(qd q s v8 (rd v37 (tn v39)))]))) (pp (fl aA (pp (xF (Zi (Zz aJ) 0 aJ.length 7 (Yt.cells (qd q s v8 (rd v37 (tn v39)))))) (fl aT nn))) (ww o1 (ww o0 (tt k0 nn))))))))))) (fun k0=>(sl y0q 19 [] ⟨(List.range 11),[],mmdN1,mmdM1⟩ ⟨[],[],[]⟩ [false,false] (pp (fl aA (fl aJ (fl aT nn))) (tt k0 nn)))))
theorem w6i (l0:List R6): ∀s,Xv prog (Zy prog 52) (z9r l0) (z9r l0 s) (Xq l0 s)
 | .h0 q s v5 v10 aA aJ=>mmd_s0 q s l0 v5 v10 aA aJ
 | .h1 q s bR v6 v7 aA aJ aT=>mmd_s1 q s l0 bR v6 v7 aA aJ aT
 | .h2 q s v8 v37 v38 v39 bW cH cI aA aJ aT=>mmd_s2 q s l0 v8 v37 v38 v39 bW cH cI aA aJ aT
theorem x8o (l0:List R6):Xv prog (Zy prog 52) (z9r l0) (Zc prog 52 [(.dat l0.length (Zz l0))] true []) (x1i l0):=(sl y0q 93 [(62,7,Zz ([]:List R7)),(62,7,Zz ([]:List R7)),(3,1,Zz ([]:List Int))] ⟨[8,0,1,9,2,3,10,5,6,7,11],[],v2l,v2m⟩ ⟨[(5,.grow 10 1)],[.keep,.keep,.cells [.grow 3 7],.keep,.keep,.cells [.grow 6 7],.keep,.keep,.keep,.keep,.keep],[]⟩ [true,false,true] (pp (fl ([]:List R7) (fl ([]:List R7) (fl ([]:List Int) nn))) nn))
theorem v8x (l0:List R6) (n:Nat) (vs:List AVal) (h:Yv (Xq l0) n (x1i l0)=.ret vs):Jt prog (Zy prog 52) (Zc prog 52 [(.dat l0.length (Zz l0))] true []) vs:=by have:=Ze (w6i l0) n _ (x8o l0);rwa [h] at this
end Go.Am
namespace Go.Am
open Go.Proofs.Tryz
open Go.Proofs Go.Sort Go.Shelf Go.RowKit Go.Lib
theorem u3q {q:Op} {a b:List R4}:(Wr q a b).length ≤400:=by
 unfold Wr x2b;cases g:(rgE q a b != 0) with
 | true=>exact Nat.zero_le _
 | false=>
  rw [cond_false];have h:rgE q a b=0:=by simpa using g
  unfold rgE at h;cases g1:(y6q a != 0) with
  | true=>rw [g1,cond_true] at h;rw [h] at g1;cases g1
  | false=>
   cases g2:(y6q b != 0) with
   | true=>rw [g1,g2,cond_false,cond_true] at h;rw [h] at g2;cases g2
   | false=>
    rw [g1,g2,cond_false,cond_false] at h;unfold eJ at h;revert h;generalize w8p (rgA q a b) _ _ _=e;intro h;cases g3:(e != 0) with
    | true=>rw [g3,cond_true] at h;rw [h] at g3;cases g3
    | false=>rw [g3,cond_false] at h;exact x2f h
theorem v2o (q:Ax) (L:List R6) (p:Int) (s:Bool):(Vx q L p s).length ≤400:=by
 unfold Vx;cases (w6k q L p != 0) with
 | true=>exact Nat.zero_le _
 | false=>cases s <;> exact u3q
def z3u (q:Ax) (L:List R6):List Int:=L.flatMap fun r=>[q.lo r,q.hi r]
theorem z1d (q:Ax) (L:List R6):(z3u q L).length =2*L.length:=by
 induction L with
 | nil=>rfl
 | cons r l ih=>show (_::_::z3u q l).length =_;simp only [List.length_cons,ih];omega
def plQ (q:Ax) (L:List R6):List Int:=Jj (z3u q L)
theorem z9n (q:Ax) (L:List R6):(plQ q L).length ≤2*L.length:=by have h1:=Uo (Xm (z3u q L));have h2:=compact_length_le (Xm (z3u q L));rw [Ww,z1d] at h2;exact h2
def v4i (E:Int→Int):List Int→Int
 | []=>0
 | p::r=>bif E p != 0 then E p else v4i E r
def z8p (q:Ax) (s:Bool) (L:List R6):Int:=v4i (fun p=>Ur q L p s) (plQ q L)
def v6b (q:Ax) (s:Bool) (L:List R6) (ps:List Int):List R7:=ps.flatMap fun p=>(Vx q L p s).map (qd q s p)
theorem y5v (q:Ax) (s:Bool) (L:List R6): ∀ps,(v6b q s L ps).length ≤400*ps.length
 | []=>Nat.le_refl _
 | p::ps=>by have:=y5v q s L ps;have h:=v2o q L p s;show ((Vx q L p s).map (qd q s p)++v6b q s L ps).length ≤_;rw [List.length_append,List.length_map,List.length_cons];omega
section
variable (L:List R6) (hL:L.length≤400)
include hL
theorem u4y (q:Ax) (s:Bool) (v2 out:List R7): ∀(k i:Nat) (acc:List Int),i+k=L.length→acc=z3u q (L.take i)→
  ∃n,∀N,Yv (Xq L) (N+n) (.to (.h0 q s acc (i:Int) v2 out))=Yv (Xq L) N (.to (.h1 q s (plQ q L).length ((plQ q L).length :Int) 0 v2 out (Wh (Xm (z3u q L)))))
 | 0,i,acc,h,h'=>by
  have e:acc=z3u q L:=by rw [h',List.take_of_length_le (by omega)]
  subst e;have hle:=z1d q L;refine ⟨1,fun N=> ?_⟩;rw [Zv];simp (disch:=omega) only [Xq,Wd,z0a,y0f,Yx,Yk,Yp,decide_true,cond_true,cond_false];rfl
 | k+1,i,acc,h,h'=>by
  have hle:acc.length≤2*i:=by rw [h',z1d,List.length_take];omega
  obtain ⟨n,hn⟩:=u4y q s v2 out k (i+1) (acc++z3u q [rd L i]) (by omega) (by
   rw [h',List.take_add_one];have:L[i]? =some (rd L i):=by rw [Xy (show i<L.length by omega)];exact List.getElem?_eq_getElem _
   rw [this];simp [z3u])
  refine ⟨n+1,fun N=> ?_⟩;rw [←Nat.add_assoc,Zv,←hn N];simp (disch:=omega) only [Xq,Za,Zk,Zt,Yz,Yc,Yk,Yp,Zh,Zq,Zx,Yg,Zj,Nat.zero_add,decide_true,Bool.and_true,Bool.true_and,cond_true,cond_false];rfl
theorem u4w (q:Ax) (s:Bool) (p:Int) (R:List R4) (hR:R.length≤400) (n5:Nat) (v6 v7:Int) (v2:List R7) (P:List Int): ∀(k j:Nat) (out:List R7),j+k=R.length→out.length≤10000000+j→
  ∃n,∀N,Yv (Xq L) (N+n) (.to (.h2 q s p R (R.length:Int) (j:Int) n5 v6 v7 v2 out P))=Yv (Xq L) N (.to (.h1 q s n5 v6 (IntKind.wrap .i64 (v7+1)) v2 (out++(R.drop j).map (qd q s p)) P))
 | 0,j,out,h,h'=>by have _u:=hL;refine ⟨1,fun N=> ?_⟩;rw [List.drop_eq_nil_of_le (by omega),List.map_nil,List.append_nil,Zv];simp (disch:=omega) only [Xq,Yx,cond_false]
 | k+1,j,out,h,h'=>by
  have hj:j<R.length:=by omega
  obtain ⟨n,hn⟩:=u4w q s p R hR n5 v6 v7 v2 P k (j+1) (out++[qd q s p (rd R j)]) (by omega) (by simp only [List.length_append,List.length_singleton];omega);refine ⟨n+1,fun N=> ?_⟩;rw [Ym hj,List.map_cons,←Nat.add_assoc,Zv,show out++qd q s p (rd R j)::(R.drop (j+1)).map (qd q s p)=(out++[qd q s p (rd R j)])++(R.drop (j+1)).map (qd q s p) by simp,←hn N];simp (disch:=omega) only [Xq,Za,Zk,Zt,Yz,Yc,Yk,Yp,Zh,Zq,Zx,Yg,Zj,Nat.zero_add,decide_true,Bool.and_true,Bool.true_and,cond_true,cond_false]
theorem u4x (q:Ax) (s:Bool) (v2:List R7): ∀(k i:Nat) (out:List R7),i+k=(plQ q L).length →out.length+400*k≤8000000→
  (v4i (fun p=>Ur q L p s) ((plQ q L).drop i)=0→ ∃n,∀N,Yv (Xq L) (N+n) (.to (.h1 q s (plQ q L).length ((plQ q L).length :Int) (i:Int) v2 out (Wh (Xm (z3u q L)))))=Yv (Xq L) N (v2n q s v2 (out++v6b q s L ((plQ q L).drop i))))∧
  ((v4i (fun p=>Ur q L p s) ((plQ q L).drop i) != 0)=true→ ∃n,∀N,Yv (Xq L) (N+n) (.to (.h1 q s (plQ q L).length ((plQ q L).length :Int) (i:Int) v2 out (Wh (Xm (z3u q L)))))=.ret [.nils,.int .i64 (v4i (fun p=>Ur q L p s) ((plQ q L).drop i))])
 | 0,i,out,h,h'=>by have _u:=hL;rw [List.drop_eq_nil_of_le (show (plQ q L).length ≤i by omega)];refine ⟨fun _=>⟨1,fun N=> ?_⟩,fun e=>by cases e⟩;rw [show v6b q s L []=[] from rfl,List.append_nil,Zv];simp (disch:=omega) only [Xq,Yx,cond_false]
 | k+1,i,out,h,h'=>by
  have hi:i<(plQ q L).length :=by omega
  have hp:=z9n q L;have hpl:(Wh (Xm (z3u q L))).length =2*L.length:=by rw [Uo,Ww,z1d]
  have r0:rd (Wh (Xm (z3u q L))) i=rd (plQ q L) i:=z4h _ _ hi;have o:z4n q L (rd (plQ q L) i) s=true:=decide_eq_true hL;rw [Ym hi];have eE:v4i (fun p=>Ur q L p s) (rd (plQ q L) i::(plQ q L).drop (i+1))=bif Ur q L (rd (plQ q L) i) s != 0 then Ur q L (rd (plQ q L) i) s else v4i (fun p=>Ur q L p s) ((plQ q L).drop (i+1)):=rfl;have eM:v6b q s L (rd (plQ q L) i::(plQ q L).drop (i+1))=(Vx q L (rd (plQ q L) i) s).map (qd q s (rd (plQ q L) i))++v6b q s L ((plQ q L).drop (i+1)):=rfl;rw [eE,eM];rcases Ye (Ur q L (rd (plQ q L) i) s != 0) with z | z
  ·rw [z,cond_true];refine ⟨fun e=>(by rw [e] at z;cases z),fun _=>⟨1,fun N=> ?_⟩⟩;rw [Zv];simp (disch:=omega) only [Xq,r0,o,z,Za,Zk,Zt,Yz,Yk,Zj,Nat.zero_add,decide_true,Bool.and_true,Bool.true_and,cond_true,cond_false,Zm]
  ·rw [z,cond_false];have hm:=v2o q L (rd (plQ q L) i) s;obtain ⟨n2,h2⟩:=u4w L hL q s (rd (plQ q L) i) (Vx q L (rd (plQ q L) i) s) hm (plQ q L).length ((plQ q L).length :Int) (i:Int) v2 (Wh (Xm (z3u q L))) (Vx q L (rd (plQ q L) i) s).length 0 out (Nat.zero_add _) (by omega);rw [List.drop_zero] at h2;obtain ⟨a1,a2⟩:=u4x q s v2 k (i+1) (out++(Vx q L (rd (plQ q L) i) s).map (qd q s (rd (plQ q L) i))) (by omega) (by rw [List.length_append,List.length_map];omega);have ew:IntKind.wrap .i64 ((i:Int)+1)=((i+1:Nat):Int):=by rw [Zq (by omega)];exact Zx i
   have st: ∀N,Yv (Xq L) (N+n2+1) (.to (.h1 q s (plQ q L).length ((plQ q L).length :Int) (i:Int) v2 out (Wh (Xm (z3u q L)))))=Yv (Xq L) N (.to (.h1 q s (plQ q L).length ((plQ q L).length :Int) ((i+1:Nat):Int) v2 (out++(Vx q L (rd (plQ q L) i) s).map (qd q s (rd (plQ q L) i))) (Wh (Xm (z3u q L))))):=fun N=>by rw [←ew,←h2 N,Zv];simp (disch:=omega) only [Xq,r0,o,z,Za,Zk,Zt,Yz,Yk,Zj,Nat.zero_add,decide_true,Bool.and_true,Bool.true_and,cond_true,cond_false];rfl
   refine ⟨fun e=> ?_,fun e=> ?_⟩
   ·obtain ⟨n,hn⟩:=a1 e;refine ⟨n+n2+1,fun N=> ?_⟩;rw [←List.append_assoc,←hn N,←st (N+n),Nat.add_assoc N,Nat.add_assoc N,Nat.add_assoc n]
   ·obtain ⟨n,hn⟩:=a2 e;refine ⟨n+n2+1,fun N=> ?_⟩;rw [←hn N,←st (N+n),Nat.add_assoc N,Nat.add_assoc N,Nat.add_assoc n]
theorem z9q (q:Ax) (s:Bool) (v2 out:List R7) (ho:out.length≤2000000):
  (z8p q s L=0→ ∃n,∀N,Yv (Xq L) (N+n) (.to (.h0 q s [] 0 v2 out))=Yv (Xq L) N (v2n q s v2 (out++v6b q s L (plQ q L))))∧
  ((z8p q s L != 0)=true→ ∃n,∀N,Yv (Xq L) (N+n) (.to (.h0 q s [] 0 v2 out))=.ret [.nils,.int .i64 (z8p q s L)]):=by
 have hp:=z9n q L;obtain ⟨n0,h0⟩:=u4y L hL q s v2 out L.length 0 [] (Nat.zero_add _) rfl;obtain ⟨a1,a2⟩:=u4x L hL q s v2 (plQ q L).length 0 out (Nat.zero_add _) (by omega);rw [List.drop_zero] at a1 a2;refine ⟨fun e=> ?_,fun e=> ?_⟩
 ·obtain ⟨n,hn⟩:=a1 e;exact ⟨n+n0,fun N=>by rw [←Nat.add_assoc];exact (h0 (N+n)).trans (hn N)⟩
 ·obtain ⟨n,hn⟩:=a2 e;exact ⟨n+n0,fun N=>by rw [←Nat.add_assoc];exact (h0 (N+n)).trans (hn N)⟩
end
def dM (q:Ax) (s:Bool) (L:List R6):List R7:=v6b q s L (plQ q L)
def Jr (L:List R6):List R7:=dM .x true L++dM .x false L++dM .y true L++dM .y false L++dM .z true L++dM .z false L
def w3b (L:List R6):Int:=bif z8p .x true L != 0 then z8p .x true L else bif z8p .x false L != 0 then z8p .x false L else bif z8p .y true L != 0 then z8p .y true L else
 bif z8p .y false L != 0 then z8p .y false L else bif z8p .z true L != 0 then z8p .z true L else bif z8p .z false L != 0 then z8p .z false L else bif decide (((Jr L).length :Int)>3000) then 4 else 0
def Jo (L:List R6):List R7:=x2b (w3b L) (Jr L)
def z4m (L:List R6):Int:=w3b L
def z1v (L:List R6):Bool:=decide (L.length≤400)
theorem z4t (q:Ax) (s:Bool) {L:List R6} (h:L.length≤400):(dM q s L).length ≤320000:=by have h1:=y5v q s L (plQ q L);have h2:=z9n q L;unfold dM;omega
theorem u9o (L:List R6) (h:z1v L=true): ∃n,Yv (Xq L) n (x1i L)=.ret (y4h (z4m L) (Jr L)):=by
 have hL:L.length≤400:=of_decide_eq_true h;have l1:=z4t .x true hL;have l2:=z4t .x false hL;have l3:=z4t .y true hL;have l4:=z4t .y false hL;have l5:=z4t .z true hL;have d1:=z9q L hL .x true [] [] (Nat.zero_le _);have d2:=z9q L hL .x false [] (dM .x true L) (by omega);have d3:=z9q L hL .y true [] (dM .x true L++dM .x false L) (by simp only [List.length_append];omega);have d4:=z9q L hL .y false [] (dM .x true L++dM .x false L++dM .y true L) (by simp only [List.length_append];omega);have d5:=z9q L hL .z true [] (dM .x true L++dM .x false L++dM .y true L++dM .y false L) (by simp only [List.length_append];omega);have d6:=z9q L hL .z false [] (dM .x true L++dM .x false L++dM .y true L++dM .y false L++dM .z true L) (by simp only [List.length_append];omega);have go: ∀(q:Ax) (s:Bool) (out:List R7) (V:List AVal),((z8p q s L=0→ ∃n,∀N,Yv (Xq L) (N+n) (.to (.h0 q s [] 0 [] out))=Yv (Xq L) N (v2n q s [] (out++v6b q s L (plQ q L))))∧
   ((z8p q s L != 0)=true→ ∃n,∀N,Yv (Xq L) (N+n) (.to (.h0 q s [] 0 [] out))=.ret [.nils,.int .i64 (z8p q s L)]))→
   (∃n,Yv (Xq L) n (v2n q s [] (out++dM q s L))=.ret V)→ ∃n,Yv (Xq L) n (.to (.h0 q s [] 0 [] out))=.ret (bif z8p q s L != 0 then [.nils,.int .i64 (z8p q s L)] else V):=fun q s out V d ⟨n,hn⟩=>by
  rcases Ye (z8p q s L != 0) with z | z
  ·obtain ⟨m,hm⟩:=d.2 z;refine ⟨0+m,?_⟩;rw [hm 0,z,cond_true]
  ·obtain ⟨m,hm⟩:=d.1 (by simpa using z);refine ⟨n+m,?_⟩;rw [hm n,z,cond_false];exact hn
 have e6:=go .z false _ (bif decide (((Jr L).length :Int)>3000) then [.nils,.int .i64 4] else [.dat (Jr L).length (Zz (Jr L)),.int .i64 0]) d6 ⟨0,by
  show Yv (Xq L) 0 (bif decide (((Jr L).length :Int)>3000) then _ else _)=_;cases decide (((Jr L).length :Int)>3000) <;> rfl⟩
 obtain ⟨n,hn⟩:=go .x true _ _ d1 (go .x false _ _ d2 (go .y true _ _ d3 (go .y false _ _ d4 (go .z true _ _ d5 e6))));refine ⟨n,hn.trans ?_⟩;unfold y4h z4m w3b
 congr 1
 cases z1:(z8p .x true L != 0) with
 | true=>simp only [z1,cond_true]
 | false=>cases z2:(z8p .x false L != 0) with
  | true=>simp only [z2,cond_true,cond_false]
  | false=>cases z3:(z8p .y true L != 0) with
   | true=>simp only [z3,cond_true,cond_false]
   | false=>cases z4:(z8p .y false L != 0) with
    | true=>simp only [z4,cond_true,cond_false]
    | false=>cases z5:(z8p .z true L != 0) with
     | true=>simp only [z5,cond_true,cond_false]
     | false=>cases z6:(z8p .z false L != 0) with
      | true=>simp only [z6,cond_true,cond_false]
      | false=>cases z7:decide (((Jr L).length :Int)>3000) <;> rfl
def fMmd :List AVal→Option (AVal×Bool)
 | [a0]=>match asL R6 a0 with
  | some (L0,g0,n0)=>some (.tup [.dat (Jo L0).length (Zz (Jo L0)),.int .i64 (z4m L0)],isT R6 n0 g0&&(z1v L0))
  | _=>none
 | _=>none
theorem j1o {S:Specs} (hS:Zu prog S):Zu prog (S.with u4k fMmd):=by
 refine v3z hS (by kernel_rfl) fun args v h=> ?_;unfold fMmd at h;split at h
 ·rename_i a0;split at h
  ·rename_i L0 g0 n0 e0;simp only [Option.some.injEq,Prod.mk.injEq,Bool.and_eq_true] at h;obtain ⟨rfl,ho0,hw⟩:=h;obtain ⟨N,hN⟩:=u9o L0 hw;exact ⟨_,_,(.cons (asL_le e0 ho0) .nil),z5d _ _,v8x L0 N _ hN,3,z9j _ _⟩
  ·cases h
 ·cases h
def Md :Specs:=Mc.with u4k fMmd
theorem z4w :Zu prog Md:=j1o y0q
end Go.Am
namespace Go.Am
open Go.Proofs
end Go.Am
namespace Go.Am
open Go.Proofs
section
variable (X Y:List R6) (hX:X.length≤10000) (hY:Y.length≤10000)
include hX hY
end
end Go.Am
namespace Go.Am
open Go.Proofs
-- h0: index into an array (choices [true, false, false, false])
end Go.Am
namespace Go.Am
open Go.Proofs
end Go.Am
namespace Go.Am
open Go.Proofs
end Go.Am
namespace Go.Am
open Go.Proofs
end Go.Am
namespace Go.Am
open Go.Proofs
end Go.Am
namespace Go.Am
open Go.Proofs
def Uf (l:List R6):Bool:=true
def y4k (l:List R6):Bool:=true
end Go.Am
namespace Go.Am
open Go.Proofs.Tryz
open Go.Proofs
inductive mofS where
def mofC (l0:List R6):mofS→Cfg
 :=nofun
def x8m (l0:List R6):mofS→Xb mofS
 :=nofun
def y2v (l0:List R6):Xb mofS:=(bif (Uf (cvT l0)) then (bif ((Yr (cvT l0)) != 0) then (.ret [.nils,(.int .i64 (Yr (cvT l0)))]) else (bif (z1v (cvT l0)) then (.ret [(.dat (Jo (cvT l0)).length (Zz (Jo (cvT l0)))),(.int .i64 (z4m (cvT l0)))]) else .stuck)) else .stuck)
theorem w6h (l0:List R6): ∀s,Xv prog (Zy prog 15) (mofC l0) (mofC l0 s) (x8m l0 s)
 :=nofun
theorem x8n (l0:List R6):Xv prog (Zy prog 15) (mofC l0) (Zc prog 15 [(.dat l0.length (Zz l0))] true []) (y2v l0):=(lo fun bV=>(lb (fun k0=>(lr 14 15 [1,0,1,1,0,0] 1 15 [(2,.nils),(3,(ii (Yr (cvT l0))))] (sl z4w 24 [] ⟨[],[],[some [2,3]],[]⟩ ⟨[],[],[]⟩ [true] (tt k0 (pp (pp (xr l0) (xw bV)) nn))))) (fun k0=>(lo fun o0=>(lr 14 3 [1,1,1,1,1,1,1,0] 1 15 [(2,(.dat (Jo (cvT l0)).length (Zz (Jo (cvT l0))))),(3,(ii (z4m (cvT l0))))] (sl z4w 28 [] ⟨[],[],[some [2,3]],[]⟩ ⟨[],[],[]⟩ [false] (pp (pp (xr l0) (xw o0)) (tt k0 (pp (pp (xr l0) (xw bV)) nn)))))))))
theorem v8w (l0:List R6) (n:Nat) (vs:List AVal) (h:Yv (x8m l0) n (y2v l0)=.ret vs):Jt prog (Zy prog 15) (Zc prog 15 [(.dat l0.length (Zz l0))] true []) vs:=by have:=Ze (w6h l0) n _ (x8n l0);rwa [h] at this
inductive shsS where
 | h0 (v8:Int)
def shsC (l0:List R6) (bN:Int) (bO:Int) (bP:Int):shsS→Cfg
 | .h0 v8=>⟨⟨19,0,true⟩,none,(Zd prog 133 [1,0,1,0,0] 0),none,(Zy prog 5),⟨Yd [(0,(.dat l0.length (Zz l0))),(1,(.fn 90 [(.ptr 0 0)])),(7,(ii (l0.length:Int))),(8,(ii v8))],Uw [⟨[(ii bN),(ii bO),(ii bP)],55,none⟩] 0,1,[],true⟩,[⟨⟨9,0,true⟩,(Jk prog 89 [1,0] 2),(Zd prog 89 [1,0] 1),none,(Zy prog 5),Yd [(5,(.dat l0.length (Zz l0))),(6,(.fn 90 [(.ptr 0 0)]))]⟩,⟨⟨8,0,true⟩,(Jk prog 43 [1,0] 2),(Zd prog 43 [1,0] 1),none,(Zy prog 5),Yd [(5,(.dat l0.length (Zz l0))),(6,(.fn 90 [(.ptr 0 0)]))]⟩],.leaf⟩
def x6w :List (Option (List Nat)):=[some [0,1,7,8],some [5,6],some [5,6]]
def x6x :List (Option (List Nat)):=[]
def z6c (l0:List R6) (bN:Int) (bO:Int) (bP:Int):shsS→Xb shsS
 | .h0 v8=>(bif (decide (v8<(l0.length:Int))) then (bif ((decide (0≤v8∧v8<(l0.length:Int)))&&true) then (bif (decide ((rd l0 v8.toNat).a ≤bN)) then (bif (decide (bN<(rd l0 v8.toNat).d)) then (bif (decide ((rd l0 v8.toNat).b ≤bO)) then (bif (decide (bO<(rd l0 v8.toNat).e)) then (bif (decide ((rd l0 v8.toNat).c ≤bP)) then (bif (decide (bP<(rd l0 v8.toNat).f)) then (.ret [(.bool (decide (v8≥0)))]) else (.to (.h0 (IntKind.wrap .i64 (v8+1))))) else (.to (.h0 (IntKind.wrap .i64 (v8+1))))) else (.to (.h0 (IntKind.wrap .i64 (v8+1))))) else (.to (.h0 (IntKind.wrap .i64 (v8+1))))) else (.to (.h0 (IntKind.wrap .i64 (v8+1))))) else (.to (.h0 (IntKind.wrap .i64 (v8+1))))) else .stuck) else (.ret [(.bool false)]))
def x0m (l0:List R6) (bN:Int) (bO:Int) (bP:Int):Xb shsS:=(.to (.h0 0))
theorem w5h (l0:List R6) (bN:Int) (bO:Int) (bP:Int): ∀s,Xv prog (Zy prog 43) (shsC l0 bN bO bP) (shsC l0 bN bO bP s) (z6c l0 bN bO bP s)
 | .h0 v8=>(lb (fun k0=>(lo fun aF=>(lb (fun k1=>(lb (fun k2=>(lb (fun k3=>(lb (fun k4=>(lb (fun k5=>(lb (fun k6=>(lr 8 3 [1,1,1,1,1,1,1,0] 1 5 [(4,(.bool (decide (v8≥0))))] (sl z4w 92 [] ⟨[],[],[some [4]],[]⟩ ⟨[],[],[]⟩ (trs 32 []) (tt k6 (tt k5 (tt k4 (tt k3 (tt k2 (tt k1 (ww aF (tt k0 nn))))))))))) (fun k6=>(sl z4w 87 [] ⟨[0],[],x6w,x6x⟩ ⟨[],[],[]⟩ (trs 31 [false]) (tt k6 (tt k5 (tt k4 (tt k3 (tt k2 (tt k1 (ww aF (tt k0 nn)))))))))))) (fun k5=>(sl z4w 87 [] ⟨[0],[],x6w,x6x⟩ ⟨[],[],[]⟩ (trs 25 (bl 7 0)) (tt k5 (tt k4 (tt k3 (tt k2 (tt k1 (ww aF (tt k0 nn))))))))))) (fun k4=>(sl z4w 87 [] ⟨[0],[],x6w,x6x⟩ ⟨[],[],[]⟩ (trs 19 (bl 13 0)) (tt k4 (tt k3 (tt k2 (tt k1 (ww aF (tt k0 nn)))))))))) (fun k3=>(sl z4w 87 [] ⟨[0],[],x6w,x6x⟩ ⟨[],[],[]⟩ (trs 13 (bl 19 0)) (tt k3 (tt k2 (tt k1 (ww aF (tt k0 nn))))))))) (fun k2=>(sl z4w 87 [] ⟨[0],[],x6w,x6x⟩ ⟨[],[],[]⟩ (trs 7 (bl 25 0)) (tt k2 (tt k1 (ww aF (tt k0 nn)))))))) (fun k1=>(sl z4w 87 [] ⟨[0],[],x6w,x6x⟩ ⟨[],[],[]⟩ (bl 32 1) (tt k1 (ww aF (tt k0 nn)))))))) (fun k0=>(lr 8 3 [1,1,1,1,1,1,1,0] 1 5 [(4,(.bool false))] (sl z4w 18 [] ⟨[],[],[some [4]],[]⟩ ⟨[],[],[]⟩ [false] (tt k0 nn)))))
theorem x6v (l0:List R6) (bN:Int) (bO:Int) (bP:Int):Xv prog (Zy prog 43) (shsC l0 bN bO bP) (Zc prog 43 [(.dat l0.length (Zz l0)),(.agg [(.int .i64 bN),(.int .i64 bO),(.int .i64 bP)])] true []) (x0m l0 bN bO bP):=(sl z4w 32 [] ⟨[0],[],x6w,x6x⟩ ⟨[],[],[]⟩ [] nn)
theorem v6s (l0:List R6) (bN:Int) (bO:Int) (bP:Int) (n:Nat) (vs:List AVal) (h:Yv (z6c l0 bN bO bP) n (x0m l0 bN bO bP)=.ret vs):Jt prog (Zy prog 43) (Zc prog 43 [(.dat l0.length (Zz l0)),(.agg [(.int .i64 bN),(.int .i64 bO),(.int .i64 bP)])] true []) vs:=by have:=Ze (w5h l0 bN bO bP) n _ (x6v l0 bN bO bP);rwa [h] at this
inductive fitS where
def fitC (l0:List R6):fitS→Cfg
 :=nofun
def x9w (l0:List R6):fitS→Xb fitS
 :=nofun
def y3k (l0:List R6):Xb fitS:=(bif (decide ((l0.length:Int)≤20)) then (bif (y4k (cvT l0)) then (.ret [(.bool ((y0z (cvT l0)) == 0))]) else .stuck) else (.ret [(.bool false)]))
theorem w7k (l0:List R6): ∀s,Xv prog (Zy prog 37) (fitC l0) (fitC l0 s) (x9w l0 s)
 :=nofun
theorem x9x (l0:List R6):Xv prog (Zy prog 37) (fitC l0) (Zc prog 37 [(.dat l0.length (Zz l0))] true []) (y3k l0):=(lb (fun k0=>(lo fun o0=>(lr 11 3 [1,1,1,1,1,1,1,0] 1 3 [(2,(.bool ((y0z (cvT l0)) == 0)))] (sl z4w 16 [] ⟨[],[],[some [2]],[]⟩ ⟨[],[],[]⟩ (trs 3 []) (pp (pp (xr l0) (xw o0)) (tt k0 nn)))))) (fun k0=>(lr 11 3 [1,1,1,1,1,1,1,0] 1 3 [(2,(.bool false))] (sl z4w 16 [] ⟨[],[],[some [2]],[]⟩ ⟨[],[],[]⟩ [false,false,false] (tt k0 nn)))))
theorem u0h (l0:List R6) (n:Nat) (vs:List AVal) (h:Yv (x9w l0) n (y3k l0)=.ret vs):Jt prog (Zy prog 37) (Zc prog 37 [(.dat l0.length (Zz l0))] true []) vs:=by have:=Ze (w7k l0) n _ (x9x l0);rwa [h] at this
inductive crdS where
def crdC (aM:Int) (aL:Int) (aN:Int) (x1:Int):crdS→Cfg
 :=nofun
def w0m (aM:Int) (aL:Int) (aN:Int) (x1:Int):crdS→Xb crdS
 :=nofun
def y3n (aM:Int) (aL:Int) (aN:Int) (x1:Int):Xb crdS:=(bif (x1 == 0) then (.ret [(.int .i64 aM)]) else (bif (x1 == 1) then (.ret [(.int .i64 aL)]) else (.ret [(.int .i64 aN)])))
theorem w7w (aM:Int) (aL:Int) (aN:Int) (x1:Int): ∀s,Xv prog (Zy prog 42) (crdC aM aL aN x1) (crdC aM aL aN x1 s) (w0m aM aL aN x1 s)
 :=nofun
theorem w0n (aM:Int) (aL:Int) (aN:Int) (x1:Int):Xv prog (Zy prog 42) (crdC aM aL aN x1) (Zc prog 42 [(.agg [(.int .i64 aM),(.int .i64 aL),(.int .i64 aN)]),(.int .i64 x1)] true []) (y3n aM aL aN x1):=(lb (fun k0=>(lr 15 42 [1,0,1,0,0] 1 5 [(4,(ii aM))] (sl z4w 18 [] ⟨[],[],[some [4]],[]⟩ ⟨[],[],[]⟩ [true] (tt k0 nn)))) (fun k0=>(lb (fun k1=>(lr 15 42 [1,1,0,1,0,0] 1 5 [(4,(ii aL))] (sl z4w 26 [] ⟨[],[],[some [4]],[]⟩ ⟨[],[],[]⟩ [false,true] (tt k1 (tt k0 nn))))) (fun k1=>(lr 15 3 [1,1,1,1,1,1,1,0] 1 5 [(4,(ii aN))] (sl z4w 27 [] ⟨[],[],[some [4]],[]⟩ ⟨[],[],[]⟩ [false,false] (tt k1 (tt k0 nn))))))))
theorem u0x (aM:Int) (aL:Int) (aN:Int) (x1:Int) (n:Nat) (vs:List AVal) (h:Yv (w0m aM aL aN x1) n (y3n aM aL aN x1)=.ret vs):Jt prog (Zy prog 42) (Zc prog 42 [(.agg [(.int .i64 aM),(.int .i64 aL),(.int .i64 aN)]),(.int .i64 x1)] true []) vs:=by have:=Ze (w7w aM aL aN x1) n _ (w0n aM aL aN x1);rwa [h] at this
end Go.Am
namespace Go.Am
abbrev nEq7 :Nat:=69
end Go.Am
namespace Go.Am
open Go.Proofs.Tryz
open Go.Proofs Go.Sort Go.Shelf Go.RowKit Go.Lib
def Zg (L:List R6):List R7:=bif Yr L != 0 then [] else Jo L
def z7y (L:List R6):Int:=bif Yr L != 0 then Yr L else z4m L
def z4l (L:List R6):Bool:=true
theorem u9n (L:List R6): ∃n vs,Yv (x8m L) n (y2v L)=.ret vs∧(∀(ρ:Rho) (u:Value),Yy ρ (Ku vs) u→Yy ρ (.tup [.dat (Zg L).length (Zz (Zg L)),.int .i64 (z7y L)]) u)∧ ∃d,pf d (Ku vs)=true:=by
 unfold y2v;simp only [Za,show∀l,Uf l=true from fun _=>rfl,cond_true];rcases Ye (Yr L != 0) with q1 | q1
 ·refine ⟨0,_,by rw [q1,cond_true];rfl,?_,3,rfl⟩;unfold Zg z7y;rw [q1,cond_true,cond_true];exact fun ρ u hu=>z5s (.cons (.nild _) (.cons (.refl _) .nil)) ρ u hu
 ·have o:z1v L=true:=decide_eq_true (Wu (by simpa using q1)).1;refine ⟨0,_,by rw [q1,o,cond_false,cond_true];rfl,?_,3,rfl⟩;unfold Zg z7y;rw [q1,cond_false,cond_false];exact fun ρ u hu=>hu
def fMof :List AVal→Option (AVal×Bool)
 | [a0]=>match asL R6 a0 with
  | some (L0,g0,n0)=>some (.tup [.dat (Zg L0).length (Zz (Zg L0)),.int .i64 (z7y L0)],isT R6 n0 g0&&(z4l L0))
  | _=>none
 | _=>none
theorem j1n {S:Specs} (hS:Zu prog S):Zu prog (S.with nMOf fMof):=by
 refine v3z hS (by kernel_rfl) fun args v h=> ?_;unfold fMof at h;split at h
 ·rename_i a0;split at h
  ·rename_i L0 g0 n0 e0;simp only [Option.some.injEq,Prod.mk.injEq,Bool.and_eq_true] at h;obtain ⟨rfl,ho0,hw⟩:=h;obtain ⟨N,vs,hN,hv,hp⟩:=u9n L0;exact ⟨_,vs,(.cons (asL_le e0 ho0) .nil),hv,v8w L0 N _ hN,hp⟩
  ·cases h
 ·cases h
def shR (x y z:Int) (r:R6):Bool:=decide (r.a≤x)&&(decide (x<r.d)&&(decide (r.b≤y)&&(decide (y<r.e)&&(decide (r.c≤z)&&decide (z<r.f)))))
def shsV (L:List R6) (x y z:Int):Bool:=L.any (shR x y z)
def z7e (L:List R6) (x y z:Int):Bool:=decide (L.length≤100000)
theorem u2j {L:List R6} {x y z:Int} (hl:L.length≤100000): ∀(k i:Nat),i+k=L.length→ ∃N,Yv (z6c L x y z) N (.to (.h0 (i:Int)))=.ret [.bool ((L.drop i).any (shR x y z))]
 | 0,i,h=>by refine ⟨1,?_⟩;rw [Zv,List.drop_eq_nil_of_le (by omega)];simp (disch:=omega) only [z6c,Yx,cond_false];rfl
 | k+1,i,h=>by
  have hi:i<L.length:=by omega
  obtain ⟨N,hN⟩:=u2j (x:=x) (y:=y) (z:=z) hl k (i+1) (by omega);have hw:IntKind.wrap .i64 ((i:Int)+1)=((i+1:Nat):Int):=Zq (by omega);have e:z6c L x y z (.h0 (i:Int))=bif shR x y z (rd L i) then .ret [.bool true] else .to (.h0 ((i+1:Nat):Int)):=by simp (disch:=omega) only [z6c,Zt,Yz,x5e,hw,Zj,Bool.and_true,cond_true];unfold shR;cases decide ((rd L i).a ≤x) <;> cases decide (x<(rd L i).d) <;> cases decide ((rd L i).b ≤y) <;> cases decide (y<(rd L i).e) <;> cases decide ((rd L i).c ≤z) <;> cases decide (z<(rd L i).f) <;> rfl
  refine ⟨N+1,?_⟩;rw [Zv,Ym hi,e,List.any_cons];rcases Ye (shR x y z (rd L i)) with q | q
  ·rw [q,cond_true,Bool.true_or];exact Zm _ _ _
  ·rw [q,cond_false,Bool.false_or];exact hN
theorem u7k (L:List R6) (x y z:Int) (h:z7e L x y z=true): ∃N,Yv (z6c L x y z) N (x0m L x y z)=.ret [.bool (shsV L x y z)]:=
 u2j (of_decide_eq_true h) L.length 0 (Nat.zero_add _)
def crdV (x y z i:Int):Int:=bif i == 0 then x else bif i == 1 then y else z
theorem j2q (x y z i:Int): ∃N,Yv (w0m x y z i) N (y3n x y z i)=.ret [.int .i64 (crdV x y z i)]:=⟨0,by
 unfold y3n crdV;cases (i == 0) <;> cases (i == 1) <;> rfl⟩
def j0r (L:List R6):Bool:=decide ((L.length:Int)≤20)&&(y0z L == 0)
def z4q (L:List R6):Bool:=true
theorem j0q (L:List R6) (h:z4q L=true): ∃N,Yv (x9w L) N (y3k L)=.ret [.bool (j0r L)]:=⟨0,by
 unfold y3k j0r;simp only [Za,show∀l,y4k l=true from fun _=>rfl,cond_true];cases decide ((L.length:Int)≤20) <;> rfl⟩
def fShs :List AVal→Option (AVal×Bool)
 | [a0,.agg [.int .i64 bN,.int .i64 bO,.int .i64 bP]]=>match asL R6 a0 with
  | some (L0,g0,n0)=>some (.bool (shsV L0 bN bO bP),isT R6 n0 g0&&(z7e L0 bN bO bP))
  | _=>none
 | _=>none
theorem j1e {S:Specs} (hS:Zu prog S):Zu prog (S.with nSHas fShs):=by
 refine z2d hS (by kernel_rfl) fun args v h=> ?_;unfold fShs at h;split at h
 ·rename_i a0 bN bO bP;split at h
  ·rename_i L0 g0 n0 e0;simp only [Option.some.injEq,Prod.mk.injEq,Bool.and_eq_true] at h;obtain ⟨rfl,ho0,hw⟩:=h;obtain ⟨N,hN⟩:=u7k L0 bN bO bP hw;exact ⟨_,_,(.cons (asL_le e0 ho0) (.cons (.refl _) .nil)),rfl,v6s L0 bN bO bP N _ hN,3,rfl⟩
  ·cases h
 ·cases h
def fCrd :List AVal→Option (AVal×Bool)
 | [.agg [.int .i64 aM,.int .i64 aL,.int .i64 aN],.int .i64 x1]=>some (.int .i64 (crdV aM aL aN x1),true)
 | _=>none
theorem j2d {S:Specs} (hS:Zu prog S):Zu prog (S.with u4r fCrd):=by
 refine z2d hS (by kernel_rfl) fun args v h=> ?_;unfold fCrd at h;split at h
 ·rename_i aM aL aN x1;simp only [Option.some.injEq,Prod.mk.injEq,and_true] at h;subst h;obtain ⟨N,hN⟩:=j2q aM aL aN x1;exact ⟨_,_,(.cons (.refl _) (.cons (.refl _) .nil)),rfl,u0x aM aL aN x1 N _ hN,3,rfl⟩
 ·cases h
def fFit :List AVal→Option (AVal×Bool)
 | [a0]=>match asL R6 a0 with
  | some (L0,g0,n0)=>some (.bool (j0r L0),isT R6 n0 g0&&(z4q L0))
  | _=>none
 | _=>none
theorem j1z {S:Specs} (hS:Zu prog S):Zu prog (S.with u4q fFit):=by
 refine z2d hS (by kernel_rfl) fun args v h=> ?_;unfold fFit at h;split at h
 ·rename_i a0;split at h
  ·rename_i L0 g0 n0 e0;simp only [Option.some.injEq,Prod.mk.injEq,Bool.and_eq_true] at h;obtain ⟨rfl,ho0,hw⟩:=h;obtain ⟨N,hN⟩:=j0q L0 hw;exact ⟨_,_,(.cons (asL_le e0 ho0) .nil),rfl,u0h L0 N _ hN,3,rfl⟩
  ·cases h
 ·cases h
def Me :Specs:=((((Md.with nMOf fMof).with nSHas fShs).with u4r fCrd).with u4q fFit)
theorem Jg :Zu prog Me:=(j1z (j2d (j1e (j1n z4w))))
end Go.Am
namespace Go.Am
open Go.Proofs.Tryz
open Go.Proofs
inductive finS where
def finC (aM:Int) (aL:Int) (aN:Int):finS→Cfg
 :=nofun
def x9y (aM:Int) (aL:Int) (aN:Int):finS→Xb finS
 :=nofun
def y3l (aM:Int) (aL:Int) (aN:Int):Xb finS:=(bif (decide ((Vm (Vm aM aL) aN)≥(-1000000))) then (.ret [(.bool (decide ((Vg (Vg aM aL) aN)≤1000000)))]) else (.ret [(.bool false)]))
theorem w7l (aM:Int) (aL:Int) (aN:Int): ∀s,Xv prog (Zy prog 73) (finC aM aL aN) (finC aM aL aN s) (x9y aM aL aN s)
 :=nofun
theorem x9z (aM:Int) (aL:Int) (aN:Int):Xv prog (Zy prog 73) (finC aM aL aN) (Zc prog 73 [(.agg [(.int .i64 aM),(.int .i64 aL),(.int .i64 aN)])] true []) (y3l aM aL aN):=(lb (fun k0=>(lr 21 3 [1,1,1,1,1,1,1,0] 1 3 [(2,(.bool (decide ((Vg (Vg aM aL) aN)≤1000000))))] (sl Jg 27 [] ⟨[],[],[some [2]],[]⟩ ⟨[],[],[]⟩ (trs 8 []) (tt k0 nn)))) (fun k0=>(lr 21 3 [1,1,1,1,1,1,1,0] 1 3 [(2,(.bool false))] (sl Jg 27 [] ⟨[],[],[some [2]],[]⟩ ⟨[],[],[]⟩ [false,false,false,false,false,false,false,false] (tt k0 nn)))))
theorem u0i (aM:Int) (aL:Int) (aN:Int) (n:Nat) (vs:List AVal) (h:Yv (x9y aM aL aN) n (y3l aM aL aN)=.ret vs):Jt prog (Zy prog 73) (Zc prog 73 [(.agg [(.int .i64 aM),(.int .i64 aL),(.int .i64 aN)])] true []) vs:=by have:=Ze (w7l aM aL aN) n _ (x9z aM aL aN);rwa [h] at this
inductive eqqS where
 | h0 (v13:Int)
def eqqC (l0:List R7) (l1:List R7):eqqS→Cfg
 | .h0 v13=>⟨⟨26,0,true⟩,none,(Zd prog 69 [1,1,0,1,0,0] 0),none,(Zy prog 5),⟨Yd [(0,(.dat l0.length (Zz l0))),(1,(.dat l1.length (Zz l1))),(12,(ii (l0.length:Int))),(13,(ii v13))],Uw [] 0,0,[],true⟩,[],.leaf⟩
def eqqN0 :List (Option (List Nat)):=[some [0,1,12,13]]
def eqqM0 :List (Option (List Nat)):=[]
def z6s (l0:List R7) (l1:List R7):eqqS→Xb eqqS
 | .h0 v13=>(bif (decide (v13<(l0.length:Int))) then (bif ((decide (0≤v13∧v13<(l0.length:Int)))&&true) then (bif ((decide (0≤v13∧v13<(l1.length:Int)))&&true) then (bif (!(((rd l0 v13.toNat).a == (rd l1 v13.toNat).a)&&((((rd l0 v13.toNat).b == (rd l1 v13.toNat).b)&&(((rd l0 v13.toNat).c == (rd l1 v13.toNat).c)&&(((rd l0 v13.toNat).d == (rd l1 v13.toNat).d)&&true)))&&((((rd l0 v13.toNat).e == (rd l1 v13.toNat).e)&&(((rd l0 v13.toNat).f == (rd l1 v13.toNat).f)&&(((rd l0 v13.toNat).g == (rd l1 v13.toNat).g)&&true)))&&true)))) then (.ret [(.bool false)]) else (.to (.h0 (IntKind.wrap .i64 (v13+1))))) else .stuck) else .stuck) else (.ret [(.bool true)]))
def y3m (l0:List R7) (l1:List R7):Xb eqqS:=(bif ((l0.length:Int) != (l1.length:Int)) then (.ret [(.bool false)]) else (.to (.h0 0)))
theorem w7p (l0:List R7) (l1:List R7): ∀s,Xv prog (Zy prog 69) (eqqC l0 l1) (eqqC l0 l1 s) (z6s l0 l1 s)
 | .h0 v13=>(lb (fun k0=>(lo fun aF=>(lo fun aW=>(lb (fun k1=>(lr 26 69 [1,1,0,1,0,0,1,1,0,0,1,1,0,0] 1 5 [(4,(.bool false))] (sl Jg 21 [] ⟨[],[],[some [4]],[]⟩ ⟨[],[],[]⟩ (bl 2 3) (tt k1 (ww aW (ww aF (tt k0 nn))))))) (fun k1=>(sl Jg 24 [] ⟨[],[],eqqN0,eqqM0⟩ ⟨[],[],[]⟩ (bl 2 1) (tt k1 (ww aW (ww aF (tt k0 nn)))))))))) (fun k0=>(lr 26 3 [1,1,1,1,1,1,1,0] 1 5 [(4,(.bool true))] (sl Jg 11 [] ⟨[],[],[some [4]],[]⟩ ⟨[],[],[]⟩ [false] (tt k0 nn)))))
theorem w0a (l0:List R7) (l1:List R7):Xv prog (Zy prog 69) (eqqC l0 l1) (Zc prog 69 [(.dat l0.length (Zz l0)),(.dat l1.length (Zz l1))] true []) (y3m l0 l1):=(lb (fun k0=>(lr 26 69 [1,0,1,0,0] 1 5 [(4,(.bool false))] (sl Jg 18 [] ⟨[],[],[some [4]],[]⟩ ⟨[],[],[]⟩ [true] (tt k0 nn)))) (fun k0=>(sl Jg 24 [] ⟨[],[],eqqN0,eqqM0⟩ ⟨[],[],[]⟩ [false] (tt k0 nn))))
theorem u0n (l0:List R7) (l1:List R7) (n:Nat) (vs:List AVal) (h:Yv (z6s l0 l1) n (y3m l0 l1)=.ret vs):Jt prog (Zy prog 69) (Zc prog 69 [(.dat l0.length (Zz l0)),(.dat l1.length (Zz l1))] true []) vs:=by have:=Ze (w7p l0 l1) n _ (w0a l0 l1);rwa [h] at this
inductive slmS where
 | h0 (v8:Int)
 | h1 (v16:Int) (aA:List Int)
 | h2 (v4:Int) (aG:List R6) (aS:List R4) (bC:Int) (bD:Int) (aE:Nat) (aH:List Int)
 | h3 (v4:Int) (v38:Int) (aG:List R6) (aS:List R4) (bC:Int) (bD:Int) (aE:Nat) (aH:List Int) (aR:Int) (bE:Int) (aB:List R4)
 | h4 (v1:Int) (v2:Int) (v72:List R4) (v73:Int) (v74:Int) (bL:List R4) (aU:Int) (aD:List R6) (aZ:List R4) (bA:Int) (aE:Nat) (aH:List Int) (aR:List R4)
 | h5 (v2:Int) (v8:Int) (cE:Int) (bL:List R4) (aU:Int) (aD:List R6) (aZ:List R4) (bA:Int) (bX:Int) (bK:Nat) (bT:List Int) (aB:List R4)
abbrev y7v (aD:List R6) (v8:Int) (v2:Int):=(aD.set (0+(tn v8)) (R6.mk (rd aD (0+(tn v8))).a (rd aD (0+(tn v8))).b (rd aD (0+(tn v8))).c (rd aD (0+(tn v8))).d (rd aD (0+(tn v8))).e v2))
abbrev y7u (aA:List Int):=(Wh (Yw aA.length (cOf (Zz (Xm (Yw aA.length (cOf (Zz aA))))))))
def w9r :AFr:=⟨⟨15,0,true⟩,(Jk prog 47 [1,1,1,0] 3),(Zd prog 47 [1,1,1,0] 1),none,(Zy prog 15),Yd [(9,(.agg [.nilf])),(11,(.sl 8 0 1 (.un 1)))]⟩
abbrev y7t (aB:List R4) (l0:List R6) (v38:Int):=(aB++[(R4.mk (rd l0 (tn v38)).a (rd l0 (tn v38)).b (rd l0 (tn v38)).d (rd l0 (tn v38)).e)])
abbrev y7s (aD:List R6) (v72:List R4) (v74:Int) (v1:Int) (v2:Int):=(aD++[(R6.mk (rd v72 (tn v74)).a (rd v72 (tn v74)).b v1 (rd v72 (tn v74)).c (rd v72 (tn v74)).d v2)])
def u2i :=(y7a [(0,⟨.ready,none,65,Yd [(2,(.ptr 1 0)),(4,(.ptr 2 0)),(5,(.ptr 3 0)),(6,(.ptr 4 0))],[15],(Vn prog 95 [1,1,0,1,0,0]),(Vn prog 95 [1,1,0,1,0,1])⟩)])
def u2h :AFr:=⟨⟨65,0,true⟩,none,(.inRangeFunc 0::(Zd prog 95 [1,1,0,1,0] 1)),none,(Zy prog 95),Yd [(4,(.ptr 2 0)),(5,(.ptr 3 0)),(6,(.ptr 4 0))]⟩
def z3z (l0:List R6):AVal:=(.dat l0.length (Zz l0))
abbrev y7r (aA:List Int) (l0:List R6) (v16:Int):=(aA++[(rd l0 (tn v16)).c,(rd l0 (tn v16)).f])
def slmC (l0:List R6):slmS→Cfg
 | .h0 v8=>⟨⟨19,0,true⟩,none,(Zd prog 134 [1,0,1,0,0] 0),none,(Zy prog 5),⟨Yd [(0,(z3z l0)),(1,(.fn 93 [])),(7,(ii (l0.length:Int))),(8,(ii v8))],Uw [] 0,0,[],true⟩,[⟨⟨9,0,true⟩,(Jk prog 92 [1,0] 2),(Zd prog 92 [1,0] 1),none,(Zy prog 5),Yd [(5,(z3z l0)),(6,(.fn 93 []))]⟩,⟨⟨15,0,true⟩,(Jk prog 47 [1,1,0,0] 1),(Zd prog 47 [1,1,0,0] 1),none,(Zy prog 15),Yd [(0,(z3z l0)),(7,(z3z l0))]⟩],.leaf⟩
 | .h1 v16 aA=>⟨⟨36,0,true⟩,none,(Zd prog 136 [1,1,0,1,0,0,1,1,0,0,1,1,0,0] 0),none,(Zy prog 3),⟨Yd [(1,(.ptr 0 0)),(3,(.ptr 2 0)),(8,(.sl 1 0 1 (.un 1))),(9,(ii 1)),(10,(ii 0)),(14,(z3z l0)),(15,(ii (l0.length:Int))),(16,(ii v16))],Uw [⟨[(.sl 1 0 1 (.un 1))],166,none⟩,⟨[(z3z l0)],22,none⟩,⟨[(.sla 7 1 0 aA.length (.un 1))],93,none⟩,⟨[.nilf],117,none⟩,⟨[.nils],38,none⟩,⟨[(ii 0)],26,none⟩,⟨[.nils,.nils,(ii 0),(ii 0)],168,none⟩,⟨rows aA.length (Zz aA),3,some ⟨1,aA.length,(Zz aA)⟩⟩] 0,8,[],true⟩,[⟨⟨65,0,true⟩,(Jk prog 95 [1,1,0,0] 1),(Zd prog 95 [1,1,0,0] 1),none,(Zy prog 95),Yd [(2,(.ptr 3 0)),(4,(.ptr 4 0)),(5,(.ptr 5 0)),(6,(.ptr 6 0)),(13,(.sl 1 0 1 (.un 1)))]⟩,⟨⟨15,0,true⟩,(Jk prog 47 [1,1,1,0] 3),(Zd prog 47 [1,1,1,0] 1),none,(Zy prog 15),Yd [(9,(.agg [.nilf])),(11,(.sl 1 0 1 (.un 1)))]⟩],.leaf⟩
 | .h2 v4 aG aS bC bD aE aH=>⟨⟨86,0,true⟩,none,(Zd prog 171 [1,0,0] 0),none,[],⟨Yd [(0,(.yld 0)),(1,(.ptr 5 0)),(2,(.ptr 7 0)),(4,(ii v4))],y1b [(1,⟨[.nilf],117,none⟩),(2,⟨[.nils],38,none⟩),(3,⟨[(ii 0)],26,none⟩),(4,⟨[(.sla 9 6 0 aG.length (.un 6)),(.dat aS.length (Zz aS)),(ii bC),(ii bD)],168,none⟩),(5,⟨[(.sla 6 1 0 aE (.un 1))],93,none⟩),(6,⟨rows aH.length (Zz aH),3,some ⟨1,aH.length,(Zz aH)⟩⟩),(7,⟨[(.sl 8 0 1 (.un 1))],166,none⟩),(8,⟨[(z3z l0)],22,none⟩),(9,⟨rows aG.length (Zz aG),67,some ⟨6,aG.length,(Zz aG)⟩⟩)],10,[],true⟩,[u2h,w9r],u2i⟩
 | .h3 v4 v38 aG aS bC bD aE aH aR bE aB=>⟨⟨86,0,true⟩,none,(Zd prog 171 [1,0,0,1,0,0,1,0,1,0,0,1,1,0,0,1,1,0,0] 0),none,[],⟨Yd [(0,(.yld 0)),(1,(.ptr 5 0)),(2,(.ptr 7 0)),(4,(ii v4)),(5,(.ptr 9 0)),(6,(ii 0)),(29,(.sl 8 0 1 (.un 1))),(30,(ii 1)),(31,(ii 0)),(36,(z3z l0)),(37,(ii (l0.length:Int))),(38,(ii v38))],y1b [(1,⟨[.nilf],117,none⟩),(2,⟨[.nils],38,none⟩),(3,⟨[(ii 0)],26,none⟩),(4,⟨[(.sla 12 6 0 aG.length (.un 6)),(.dat aS.length (Zz aS)),(ii bC),(ii bD)],168,none⟩),(5,⟨[(.sla 6 1 0 aE (.un 1))],93,none⟩),(6,⟨rows aH.length (Zz aH),3,some ⟨1,aH.length,(Zz aH)⟩⟩),(7,⟨[(.sl 8 0 1 (.un 1))],166,none⟩),(8,⟨[(z3z l0)],22,none⟩),(9,⟨[(ii aR),(ii bE),(.sl 10 0 1 (.ex 1))],173,none⟩),(10,⟨[(.sla 11 4 0 aB.length (.un 4))],99,none⟩),(11,⟨rows aB.length (Zz aB),88,some ⟨4,aB.length,(Zz aB)⟩⟩),(12,⟨rows aG.length (Zz aG),67,some ⟨6,aG.length,(Zz aG)⟩⟩)],13,[],true⟩,[u2h,w9r],u2i⟩
 | .h4 v1 v2 v72 v73 v74 bL aU aD aZ bA aE aH aR=>⟨⟨101,0,true⟩,none,(Zd prog 137 [1,1,1,0,0] 0),none,[],⟨Yd [(0,(.ptr 0 0)),(1,(ii v1)),(2,(ii v2)),(72,(.dat v72.length (Zz v72))),(73,(ii v73)),(74,(ii v74))],y1b [(0,⟨[(.sla 10 6 0 aD.length (.un 6)),(.dat aZ.length (Zz aZ)),(ii bA),(ii v2)],168,none⟩),(2,⟨[.nilf],117,none⟩),(3,⟨[.nils],38,none⟩),(4,⟨[(ii 0)],26,none⟩),(5,⟨[(.sla 6 1 0 aE (.un 1))],93,none⟩),(6,⟨rows aH.length (Zz aH),3,some ⟨1,aH.length,(Zz aH)⟩⟩),(7,⟨[(.sl 8 0 1 (.un 1))],166,none⟩),(8,⟨[(z3z l0)],22,none⟩),(9,⟨[(.dat aR.length (Zz aR))],99,none⟩),(10,⟨rows aD.length (Zz aD),67,some ⟨6,aD.length,(Zz aD)⟩⟩)],11,[],true⟩,[⟨⟨65,0,true⟩,(Jk prog 95 [1,1,0,1,0,1,0,1,1,1] 5),(Zd prog 95 [1,1,0,1,0,1,0,1,1,1] 1),(some 1),[],Yd [(6,(.ptr 0 0)),(54,(ii v1)),(56,(ii v2)),(57,(.dat bL.length (Zz bL)))]⟩,⟨⟨86,0,true⟩,(Jk prog 171 [1,0,0,1,0,0,1,1,0] 2),(Zd prog 171 [1,0,0,1,0,0,1,1,0] 1),none,[],Yd [(0,(.yld 1)),(1,(.ptr 5 0)),(2,(.ptr 7 0)),(4,(ii aU)),(82,(.yld 1)),(83,(.agg [(ii v1),(ii v2),(.sl 9 0 1 (.ex 1))]))]⟩,⟨⟨65,0,true⟩,none,(.inRangeFunc 1::(Zd prog 95 [1,1,0,1,0] 1)),none,(Zy prog 95),Yd [(4,(.ptr 3 0)),(5,(.ptr 4 0)),(6,(.ptr 0 0))]⟩,w9r],(y7a [(1,⟨.busy,none,65,Yd [(2,(.ptr 2 0)),(4,(.ptr 3 0)),(5,(.ptr 4 0)),(6,(.ptr 0 0))],[15],(Vn prog 95 [1,1,0,1,0,0]),(Vn prog 95 [1,1,0,1,0,1])⟩)])⟩
 | .h5 v2 v8 cE bL aU aD aZ bA bX bK bT aB=>⟨⟨101,0,true⟩,none,(Zd prog 137 [0,1,0,0,1,0,0] 0),none,[],⟨Yd [(0,(.ptr 0 0)),(2,(ii v2)),(8,(ii v8))],y1b [(0,⟨[(.sla 1 6 0 aD.length (.un 6)),(.dat aZ.length (Zz aZ)),(ii bA),(ii bX)],168,none⟩),(1,⟨rows aD.length (Zz aD),67,some ⟨6,aD.length,(Zz aD)⟩⟩),(3,⟨[.nilf],117,none⟩),(4,⟨[.nils],38,none⟩),(5,⟨[(ii 0)],26,none⟩),(6,⟨[(.sla 7 1 0 bK (.un 1))],93,none⟩),(7,⟨rows bT.length (Zz bT),3,some ⟨1,bT.length,(Zz bT)⟩⟩),(8,⟨[(.sl 9 0 1 (.un 1))],166,none⟩),(9,⟨[(z3z l0)],22,none⟩),(10,⟨[(.dat aB.length (Zz aB))],99,none⟩)],11,[],true⟩,[⟨⟨65,0,true⟩,(Jk prog 95 [1,1,0,1,0,1,0,1,1,1] 5),(Zd prog 95 [1,1,0,1,0,1,0,1,1,1] 1),(some 2),[],Yd [(6,(.ptr 0 0)),(54,(ii cE)),(56,(ii v2)),(57,(.dat bL.length (Zz bL)))]⟩,⟨⟨86,0,true⟩,(Jk prog 171 [1,0,0,1,0,0,1,1,0] 2),(Zd prog 171 [1,0,0,1,0,0,1,1,0] 1),none,[],Yd [(0,(.yld 2)),(1,(.ptr 6 0)),(2,(.ptr 8 0)),(4,(ii aU)),(82,(.yld 2)),(83,(.agg [(ii cE),(ii v2),(.sl 10 0 1 (.ex 1))]))]⟩,⟨⟨65,0,true⟩,none,(.inRangeFunc 2::(Zd prog 95 [1,1,0,1,0] 1)),none,(Zy prog 95),Yd [(4,(.ptr 4 0)),(5,(.ptr 5 0)),(6,(.ptr 0 0))]⟩,⟨⟨15,0,true⟩,(Jk prog 47 [1,1,1,0] 3),(Zd prog 47 [1,1,1,0] 1),none,(Zy prog 15),Yd [(9,(.agg [.nilf])),(11,(.sl 9 0 1 (.un 1)))]⟩],(y7a [(2,⟨.busy,none,65,Yd [(2,(.ptr 3 0)),(4,(.ptr 4 0)),(5,(.ptr 5 0)),(6,(.ptr 0 0))],[15],(Vn prog 95 [1,1,0,1,0,0]),(Vn prog 95 [1,1,0,1,0,1])⟩)])⟩
def slmN0 :List (Option (List Nat)):=[some [0,1,7,8],some [5,6],some [0,7]]
def slmM0 :List (Option (List Nat)):=[]
def u7h :List (Option (List Nat)):=[some [1,3,8,9,10,14,15,16],some [2,4,5,6,13],some [9,11]]
def u7j :List (Option (List Nat)):=[]
def u7g :List (Option (List Nat)):=[some [0,1,2,4],some [4,5,6],some [9,11]]
def u7i :List (Option (List Nat)):=[some [2,4,5,6],none,none,none,none,none,none,none,none,none]
def v6o :List (Option (List Nat)):=[some [0,1,2,4,5,6,29,30,31,36,37,38],some [4,5,6],some [9,11]]
def v6q :List (Option (List Nat)):=[some [2,4,5,6],none,none,none,none,none,none,none,none,none,none,none,none]
def v6n :List (Option (List Nat)):=[some [0,1,2,72,73,74],some [6,54,56,57],some [0,1,2,4,82,83],some [4,5,6],some [9,11]]
def v6p :List (Option (List Nat)):=[none,some [2,4,5,6],none,none,none,none,none,none,none,none,none]
def slmN5 :List (Option (List Nat)):=[some [0,2,8],some [6,54,56,57],some [0,1,2,4,82,83],some [4,5,6],some [9,11]]
def slmM5 :List (Option (List Nat)):=[none,none,some [2,4,5,6],none,none,none,none,none,none,none,none]
def Xj (l0:List R6):slmS→Xb slmS
 | .h0 v8=>(bif (decide (v8<(l0.length:Int))) then (bif ((decide (0≤v8∧v8<(l0.length:Int)))&&true) then (bif (!(u6i (rd l0 v8.toNat).a (rd l0 v8.toNat).b (rd l0 v8.toNat).c (rd l0 v8.toNat).d (rd l0 v8.toNat).e (rd l0 v8.toNat).f)) then (bif (decide (v8≥0)) then (.ret [.nils,(.int .i64 8)]) else (.to (.h1 0 ([]:List Int)))) else (.to (.h0 (IntKind.wrap .i64 (v8+1))))) else .stuck) else (.to (.h1 0 ([]:List Int))))
 | .h1 v16 aA=>(bif (decide (v16<(l0.length:Int))) then (bif ((decide (0≤v16∧v16<(l0.length:Int)))&&true) then (bif (Nat.beq 1 1&&((decide (0+aA.length=aA.length))&&decide ((aA.length+2+1)*(8+1)≤Ju))) then (.to (.h1 (IntKind.wrap .i64 (v16+1)) (aA++[(rd l0 v16.toNat).c,(rd l0 v16.toNat).f]))) else .stuck) else .stuck) else (bif (decide (aA.length<4611686018427387904)) then (bif (decide (aA.length=aA.length)) then (.to (.h2 1 ([]:List R6) ([]:List R4) 0 0 (w8q (Yw aA.length (cOf (Zz (Xm (Yw aA.length (cOf (Zz aA)))))))) (Wh (Yw aA.length (cOf (Zz (Xm (Yw aA.length (cOf (Zz aA)))))))))) else .stuck) else .stuck))
 | .h2 v4 aG aS bC bD aE aH=>(bif (decide (v4<((aE:Nat):Int))) then (bif ((decide (0≤(IntKind.wrap .i64 (v4 - 1))∧(IntKind.wrap .i64 (v4 - 1))<((aE:Nat):Int)))&&true) then (bif (decide ((0+(Int.toNat (IntKind.wrap .i64 (v4 - 1))))<aH.length)) then (bif ((decide (0≤v4∧v4<((aE:Nat):Int)))&&true) then (bif (decide ((0+v4.toNat)<aH.length)) then (.to (.h3 v4 0 aG aS bC bD aE aH (rd aH (0+(Int.toNat (IntKind.wrap .i64 (v4 - 1))))) (rd aH (0+v4.toNat)) ([]:List R4))) else .stuck) else .stuck) else .stuck) else .stuck) else (bif (decide ((aG.length:Int)>400)) then (.ret [.nils,(.int .i64 4)]) else (.ret [(.dat aG.length (Zz aG)),(.int .i64 0)])))
 | .h3 v4 v38 aG aS bC bD aE aH aR bE aB=>(bif (decide (v38<(l0.length:Int))) then (bif ((decide (0≤v38∧v38<(l0.length:Int)))&&true) then (bif (decide ((rd l0 v38.toNat).c ≤aR)) then (bif (decide (aR<(rd l0 v38.toNat).f)) then (bif (Nat.beq 4 4&&((decide (0+aB.length=aB.length))&&decide ((aB.length+1+1)*(32+1)≤Ju))) then (.to (.h3 v4 (IntKind.wrap .i64 (v38+1)) aG aS bC bD aE aH aR bE (aB++[(R4.mk (rd l0 v38.toNat).a (rd l0 v38.toNat).b (rd l0 v38.toNat).d (rd l0 v38.toNat).e)]))) else .stuck) else (.to (.h3 v4 (IntKind.wrap .i64 (v38+1)) aG aS bC bD aE aH aR bE aB))) else (.to (.h3 v4 (IntKind.wrap .i64 (v38+1)) aG aS bC bD aE aH aR bE aB))) else .stuck) else (bif (Uh (cvT aB)) then (bif ((Xc (cvT aB)) != 0) then (.ret [.nils,(.int .i64 (Xc (cvT aB)))]) else (bif (decide ((((Zb (cvT aB)).length :Nat):Int)>0)) then (bif (bD == aR) then (bif (Wb (cvT aS) (cvT (Zb (cvT aB)))) then (bif (Jv (cvT aS) (cvT (Zb (cvT aB)))) then (.to (.h5 bE bC aR (Zb (cvT aB)) v4 aG aS bC bD aE aH aB)) else (.to (.h4 aR bE (Zb (cvT aB)) (((Zb (cvT aB)).length :Nat):Int) 0 (Zb (cvT aB)) v4 aG (Zb (cvT aB)) (aG.length:Int) aE aH aB))) else .stuck) else (.to (.h4 aR bE (Zb (cvT aB)) (((Zb (cvT aB)).length :Nat):Int) 0 (Zb (cvT aB)) v4 aG (Zb (cvT aB)) (aG.length:Int) aE aH aB))) else (.to (.h4 aR bE (Zb (cvT aB)) (((Zb (cvT aB)).length :Nat):Int) 0 (Zb (cvT aB)) v4 aG (Zb (cvT aB)) (aG.length:Int) aE aH aB)))) else .stuck))
 | .h4 v1 v2 v72 v73 v74 bL aU aD aZ bA aE aH aR=>(bif (decide (v74<v73)) then (bif ((decide (0≤v74∧v74<(v72.length:Int)))&&true) then (bif (Nat.beq 6 6&&((decide (0+aD.length=aD.length))&&decide ((aD.length+1+1)*(48+1)≤Ju))) then (.to (.h4 v1 v2 v72 v73 (IntKind.wrap .i64 (v74+1)) bL aU (aD++[(R6.mk (rd v72 v74.toNat).a (rd v72 v74.toNat).b v1 (rd v72 v74.toNat).c (rd v72 v74.toNat).d v2)]) aZ bA aE aH aR)) else .stuck) else .stuck) else (.to (.h2 (IntKind.wrap .i64 (aU+1)) aD aZ bA v2 aE aH)))
 | .h5 v2 v8 cE bL aU aD aZ bA bX bK bT aB=>(bif (decide (v8<(aD.length:Int))) then (bif ((decide (0≤v8∧v8<(aD.length:Int)))&&true) then (bif (decide ((0+v8.toNat)<aD.length)) then (.to (.h5 v2 (IntKind.wrap .i64 (v8+1)) cE bL aU (aD.set (0+v8.toNat) (R6.mk (rd aD (0+v8.toNat)).a (rd aD (0+v8.toNat)).b (rd aD (0+v8.toNat)).c (rd aD (0+v8.toNat)).d (rd aD (0+v8.toNat)).e v2)) aZ bA bX bK bT aB)) else .stuck) else .stuck) else (.to (.h2 (IntKind.wrap .i64 (aU+1)) aD aZ bA v2 bK bT)))
def y2g (l0:List R6):Xb slmS:=(bif (decide ((l0.length:Int)>400)) then (.ret [.nils,(.int .i64 4)]) else (.to (.h0 0)))
theorem w5e (l0:List R6): ∀s,Xv prog (Zy prog 47) (slmC l0) (slmC l0 s) (Xj l0 s)
 | .h0 v8=>(lb (fun k0=>(lo fun aF=>(lb (fun k1=>(lb (fun k2=>(lr 15 47 [1,1,0,1,0,0] 1 15 [(2,.nils),(3,(ii 8))] (sl Jg 54 [] ⟨[],[],[some [2,3]],[]⟩ ⟨[],[],[]⟩ (trs 3 []) (tt k2 (tt k1 (ww aF (tt k0 nn))))))) (fun k2=>(sl Jg 112 [(3,1,Zz ([]:List Int))] ⟨[6,1,7,2,3,4,5,8],[],u7h,u7j⟩ ⟨[],[.keep,.keep,.cells [.grow 7 1],.keep,.keep,.keep,.keep,.keep],[]⟩ (bl 4 11) (pp (fl ([]:List Int) nn) (tt k2 (tt k1 (ww aF (tt k0 nn))))))))) (fun k1=>(sl Jg 44 [] ⟨[],[],slmN0,slmM0⟩ ⟨[],[],[]⟩ (bl 2 1) (tt k1 (ww aF (tt k0 nn)))))))) (fun k0=>(sl Jg 81 [(3,1,Zz ([]:List Int))] ⟨[5,0,6,1,2,3,4,7],[],u7h,u7j⟩ ⟨[],[.keep,.keep,.cells [.grow 7 1],.keep,.keep,.keep,.keep,.keep],[]⟩ (bl 3 4) (pp (fl ([]:List Int) nn) (tt k0 nn)))))
 | .h1 v16 aA=>(lb (fun k0=>(lo fun o0=>(lo fun o1=>(sl Jg 34 [] ⟨[0,1,2,3,4,5,6,10],[],u7h,u7j⟩ ⟨[],[.keep,.keep,.cells [.len (y7r aA l0 v16).length],.keep,.keep,.keep,.keep,.rowed 1 (y7r aA l0 v16).length (Zz (y7r aA l0 v16))],[]⟩ [true] (pp (xL (aA.length+2) (y7r aA l0 v16).length) (pp (xL (aA.length+2) (y7r aA l0 v16).length) (pp (xS (aA.length+2) (Zi (Zz aA) 0 aA.length 1 [(ii (rd l0 (tn v16)).c),(ii (rd l0 (tn v16)).f)]) (Zz (y7r aA l0 v16))) (pp (pp (xF (Zi (Zz aA) 0 aA.length 1 [(ii (rd l0 (tn v16)).c),(ii (rd l0 (tn v16)).f)])) nn) (ww o1 (ww o0 (tt k0 nn))))))))))) (fun k0=>(lo fun o0=>(lo fun o1=>(sl Jg 46 [(67,6,Zz ([]:List R6))] ⟨[8,3,4,5,6,2,7,0,1,9],[],u7g,u7i⟩ ⟨[],(kpB 4 [.cells [.grow 9 6,.list 0 (Zz ([]:List R4)),.keep,.keep],.keep,.rowed 1 (y7u aA).length (Zz (y7u aA)),.keep,.keep,.keep]),[]⟩ (bl 2 0) (pp (xL aA.length (y7u aA).length (by first | exact z2a _ _ | exact Vy rfl)) (pp (xS aA.length (Zz (y7u aA)) (Zz (y7u aA))) (pp (fl (y7u aA) (fl ([]:List R6) nn)) (pp (pp (xG (Nat.beq 1 1)) (pp (xG (Nat.beq 1 1)) (pp (xG (Nat.beq 0 0)) (pp (xG (decide (aA.length=aA.length))) (pp (xG (isI (Zz (Xm (Yw aA.length (cOf (Zz aA))))))) (xG (decide (aA.length<4611686018427387904)))))))) (pp (pp (xG (Nat.beq 1 1)) (pp (xG (Nat.beq 1 1)) (pp (xG (Nat.beq 0 0)) (pp (xG (decide (aA.length=aA.length))) (pp (xG (isI (Zz aA))) (xG (decide (aA.length<4611686018427387904)))))))) (tt k0 nn)))))))))))
 | .h2 v4 aG aS bC bD aE aH=>(lb (fun k0=>(lo fun o0=>(lo fun o1=>(lo fun o2=>(lo fun o3=>(sl Jg 48 [(88,4,Zz ([]:List R4))] ⟨[0,1,2,3,4,5,6,7,8,10,11,12,9],[],v6o,v6q⟩ ⟨[],(kpB 10 [.cells [.grow 11 4],.keep,.keep]),[]⟩ (trs 3 []) (pp (fl aH (fl ([]:List R4) (fl aG nn))) (ww o3 (ww o2 (ww o1 (ww o0 (tt k0 nn)))))))))))) (fun k0=>(lb (fun k1=>(lr 15 3 [1,1,1,1,1,1,1,0] 1 15 [(2,.nils),(3,(ii 4))] (sl Jg 33 [] ⟨[],[],[some [2,3]],[]⟩ ⟨[],[],[]⟩ (bl 2 2) (tt k1 (tt k0 nn))))) (fun k1=>(lr 15 3 [1,1,1,1,1,1,1,0] 1 15 [(2,(.dat aG.length (Zz aG))),(3,(ii 0))] (sl Jg 36 [] ⟨[],[9],[some [2,3]],[]⟩ ⟨[(2,.frz aG.length aG.length (Zz aG) (Zz aG))],[],[]⟩ (bl 2 0) (pp (xZ (z6q 6 6 0 aG.length aG.length (Zz aG)) aG.length (Zz aG)) (pp (xL aG.length aG.length) (pp (xS aG.length (Zz aG) (Zz aG)) (pp (fl aG nn) (tt k1 (tt k0 nn))))))))))))
 | .h3 v4 v38 aG aS bC bD aE aH aR bE aB=>(lb (fun k0=>(lo fun aF=>(lb (fun k1=>(lb (fun k2=>(lo fun o0=>(sl Jg 41 [] ⟨[0,1,2,3,4,5,6,7,8,9,10,15,12],[],v6o,v6q⟩ ⟨[],(kpB 10 [.cells [.len (y7t aB l0 v38).length],.rowed 4 (y7t aB l0 v38).length (Zz (y7t aB l0 v38)),.keep]),[]⟩ (trs 8 []) (pp (xL (aB.length+1) (y7t aB l0 v38).length) (pp (xL (aB.length+1) (y7t aB l0 v38).length) (pp (xS (aB.length+1) (Zi (Zz aB) 0 aB.length 4 [(ii (rd l0 (tn v38)).a),(ii (rd l0 (tn v38)).b),(ii (rd l0 (tn v38)).d),(ii (rd l0 (tn v38)).e)]) (Zz (y7t aB l0 v38))) (pp (fl aH (pp (xF (Zi (Zz aB) 0 aB.length 4 [(ii (rd l0 (tn v38)).a),(ii (rd l0 (tn v38)).b),(ii (rd l0 (tn v38)).d),(ii (rd l0 (tn v38)).e)])) (fl aG nn))) (ww o0 (tt k2 (tt k1 (ww aF (tt k0 nn)))))))))))) (fun k2=>(sl Jg 41 [] ⟨(List.range 13),[],v6o,v6q⟩ ⟨[],[],[]⟩ (trs 7 [false]) (pp (fl aH (fl aB (fl aG nn))) (tt k2 (tt k1 (ww aF (tt k0 nn))))))))) (fun k1=>(sl Jg 41 [] ⟨(List.range 13),[],v6o,v6q⟩ ⟨[],[],[]⟩ (bl 8 1) (pp (fl aH (fl aB (fl aG nn))) (tt k1 (ww aF (tt k0 nn))))))))) (fun k0=>(Ws (sl Jg (C':=⟨⟨65,0,true⟩,(Jk prog 95 [1,1,0,1,0,1,0,0] 4),(Zd prog 95 [1,1,0,1,0,1,0,0] 1),(some 0),[],⟨Yd [(2,(.ptr 1 0)),(4,(.ptr 2 0)),(5,(.ptr 3 0)),(6,(.ptr 4 0)),(7,(.ptr 6 0)),(20,(.dat aB.length (Zz aB)))],y1b [(1,⟨[.nilf],117,none⟩),(2,⟨[.nils],38,none⟩),(3,⟨[(ii 0)],26,none⟩),(4,⟨[(.sla 5 6 0 aG.length (.un 6)),(.dat aS.length (Zz aS)),(ii bC),(ii bD)],168,none⟩),(5,⟨rows aG.length (Zz aG),67,some ⟨6,aG.length,(Zz aG)⟩⟩),(6,⟨[(ii aR),(ii bE),(.sl 7 0 1 (.ex 1))],173,none⟩),(7,⟨[(.dat aB.length (Zz aB))],99,none⟩),(8,⟨[(.sla 9 1 0 aE (.un 1))],93,none⟩),(9,⟨rows aH.length (Zz aH),3,some ⟨1,aH.length,(Zz aH)⟩⟩),(10,⟨[(.sl 11 0 1 (.un 1))],166,none⟩),(11,⟨[(.dat l0.length (Zz l0))],22,none⟩)],12,[],true⟩,[⟨⟨86,0,true⟩,(Jk prog 171 [1,0,0,1,0,0,1,1,0] 2),(Zd prog 171 [1,0,0,1,0,0,1,1,0] 1),none,[],Yd [(0,(.yld 0)),(1,(.ptr 8 0)),(2,(.ptr 10 0)),(4,(ii v4)),(82,(.yld 0)),(83,(.agg [(ii aR),(ii bE),(.sl 7 0 1 (.ex 1))]))]⟩,⟨⟨65,0,true⟩,none,(.inRangeFunc 0::(Zd prog 95 [1,1,0,1,0] 1)),none,(Zy prog 95),Yd [(4,(.ptr 2 0)),(5,(.ptr 3 0)),(6,(.ptr 4 0))]⟩,⟨⟨15,0,true⟩,(Jk prog 47 [1,1,1,0] 3),(Zd prog 47 [1,1,1,0] 1),none,(Zy prog 15),Yd [(9,(.agg [.nilf])),(11,(.sl 11 0 1 (.un 1)))]⟩],(y7a [(0,⟨.busy,none,65,Yd [(2,(.ptr 1 0)),(4,(.ptr 2 0)),(5,(.ptr 3 0)),(6,(.ptr 4 0))],[15],(Vn prog 95 [1,1,0,1,0,0]),(Vn prog 95 [1,1,0,1,0,1])⟩)])⟩) 37 [] ⟨[0,1,2,3,4,12,13,10,5,6,7,8],[11],[some [2,4,5,6,7,20],some [0,1,2,4,82,83],some [4,5,6],some [9,11]],[some [2,4,5,6],none,none,none,none,none,none,none,none,none,none,none]⟩ ⟨[(20,.frz aB.length aB.length (Zz aB) (Zz aB))],[.keep,.keep,.keep,.keep,.keep,.keep,.keep,.cells [.frz aB.length aB.length (Zz aB) (Zz aB)],.keep,.keep,.keep,.keep],[]⟩ (bl 2 0) (pp (xZ (z6q 4 4 0 aB.length aB.length (Zz aB)) aB.length (Zz aB)) (pp (xL aB.length aB.length) (pp (xS aB.length (Zz aB) (Zz aB)) (pp (xZ (z6q 4 4 0 aB.length aB.length (Zz aB)) aB.length (Zz aB)) (pp (xL aB.length aB.length) (pp (xS aB.length (Zz aB) (Zz aB)) (pp (fl aG (fl aH nn)) (pp (fl aB nn) (tt k0 nn)))))))))) (lo fun aF=>(lb (fun k1=>(lr 15 3 [1,1,1,1,1,1,1,0] 1 15 [(2,.nils),(3,(ii (Xc (cvT aB))))] (sl Jg 50 [] ⟨[],[],[some [2,3]],[]⟩ ⟨[],[],[]⟩ (bl 3 6) (tt k1 (pp (pp (xr aB) (xw aF)) nn))))) (fun k1=>(lb (fun k2=>(lb (fun k3=>(lo fun cC=>(lb (fun k4=>(sl Jg 75 [] ⟨[4,5,0,1,2,3,8,9,10,11,7],[],slmN5,slmM5⟩ ⟨[],[],[]⟩ (bl 15 32764) (pp (fl aG (fl aH nn)) (tt k4 (pp (pp (xr aS) (pp (xI R4 (Zb (cvT aB)).length (Zz (Zb (cvT aB)))) (xw cC))) (tt k3 (tt k2 (tt k1 (pp (pp (xr aB) (xw aF)) nn))))))))) (fun k4=>(sl Jg 95 [] ⟨[4,0,1,2,3,8,9,10,11,7,5],[],v6n,v6p⟩ ⟨[],[],[]⟩ (bl 15 16380) (pp (fl aH (fl aG nn)) (tt k4 (pp (pp (xr aS) (pp (xI R4 (Zb (cvT aB)).length (Zz (Zb (cvT aB)))) (xw cC))) (tt k3 (tt k2 (tt k1 (pp (pp (xr aB) (xw aF)) nn)))))))))))) (fun k3=>(sl Jg 95 [] ⟨[4,0,1,2,3,8,9,10,11,7,5],[],v6n,v6p⟩ ⟨[],[],[]⟩ (bl 15 252) (pp (fl aH (fl aG nn)) (tt k3 (tt k2 (tt k1 (pp (pp (xr aB) (xw aF)) nn))))))))) (fun k2=>(sl Jg 95 [] ⟨[4,0,1,2,3,8,9,10,11,7,5],[],v6n,v6p⟩ ⟨[],[],[]⟩ (bl 15 0) (pp (fl aH (fl aG nn)) (tt k2 (tt k1 (pp (pp (xr aB) (xw aF)) nn)))))))))))))
 | .h4 v1 v2 v72 v73 v74 bL aU aD aZ bA aE aH aR=>(lb (fun k0=>(lo fun o0=>(lo fun o1=>(sl Jg 23 [] ⟨[0,1,2,3,4,5,6,7,8,9,13],[],v6n,v6p⟩ ⟨[],[.cells [.len (y7s aD v72 v74 v1 v2).length,.keep,.keep,.keep],.keep,.keep,.keep,.keep,.keep,.keep,.keep,.keep,.keep,.rowed 6 (y7s aD v72 v74 v1 v2).length (Zz (y7s aD v72 v74 v1 v2))],[]⟩ [true] (pp (xL (aD.length+1) (y7s aD v72 v74 v1 v2).length) (pp (xL (aD.length+1) (y7s aD v72 v74 v1 v2).length) (pp (xS (aD.length+1) (Zi (Zz aD) 0 aD.length 6 [(ii (rd v72 (tn v74)).a),(ii (rd v72 (tn v74)).b),(ii v1),(ii (rd v72 (tn v74)).c),(ii (rd v72 (tn v74)).d),(ii v2)]) (Zz (y7s aD v72 v74 v1 v2))) (pp (fl aH (pp (xF (Zi (Zz aD) 0 aD.length 6 [(ii (rd v72 (tn v74)).a),(ii (rd v72 (tn v74)).b),(ii v1),(ii (rd v72 (tn v74)).c),(ii (rd v72 (tn v74)).d),(ii v2)])) nn)) (ww o1 (ww o0 (tt k0 nn))))))))))) (fun k0=>(sl Jg 22 [] ⟨[1,2,3,4,0,5,6,7,8,10],[],u7g,u7i⟩ ⟨[],[],[]⟩ (bl 2 0) (pp (fl aH (fl aD nn)) (tt k0 nn)))))
 | .h5 v2 v8 cE bL aU aD aZ bA bX bK bT aB=>(lb (fun k0=>(lo fun o0=>(lo fun o1=>(sl Jg 34 [] ⟨(List.range 11),[],slmN5,slmM5⟩ ⟨[],[.cells [.len (y7v aD v8 v2).length,.keep,.keep,.keep],.rowed 6 (y7v aD v8 v2).length (Zz (y7v aD v8 v2)),.keep,.keep,.keep,.keep,.keep,.keep,.keep,.keep,.keep],[]⟩ [true] (pp (xL aD.length (y7v aD v8 v2).length) (pp (xL aD.length (y7v aD v8 v2).length) (pp (xS aD.length (Xi (Zz aD) (0+(tn v8)) 5 [(ii v2)]) (Zz (y7v aD v8 v2))) (pp (pp (xF (Xi (Zz aD) (0+(tn v8)) 5 [(ii v2)])) (fl bT nn)) (ww o1 (ww o0 (tt k0 nn))))))))))) (fun k0=>(sl Jg 36 [] ⟨[2,3,4,5,0,6,7,8,9,1],[],u7g,u7i⟩ ⟨[],[],[]⟩ (bl 2 0) (pp (fl bT (fl aD nn)) (tt k0 nn)))))
theorem x6u (l0:List R6):Xv prog (Zy prog 47) (slmC l0) (Zc prog 47 [(.dat l0.length (Zz l0))] true []) (y2g l0):=(lb (fun k0=>(lr 15 47 [1,0,1,0,0] 1 15 [(2,.nils),(3,(ii 4))] (sl Jg 18 [] ⟨[],[],[some [2,3]],[]⟩ ⟨[],[],[]⟩ [true] (tt k0 nn)))) (fun k0=>(sl Jg 41 [] ⟨[],[],slmN0,slmM0⟩ ⟨[],[],[]⟩ [false] (tt k0 nn))))
theorem v6m (l0:List R6) (n:Nat) (vs:List AVal) (h:Yv (Xj l0) n (y2g l0)=.ret vs):Jt prog (Zy prog 47) (Zc prog 47 [(.dat l0.length (Zz l0))] true []) vs:=by have:=Ze (w5e l0) n _ (x6u l0);rwa [h] at this
end Go.Am
namespace Go.Am
open Go.Proofs.Tryz
open Go.Proofs Go.Sort Go.Shelf Go.RowKit Go.Lib
def v3x (x y z:Int):Bool:=decide (Vm (Vm x y) z≥(-1000000))&&decide (Vg (Vg x y) z≤1000000)
theorem j0s (x y z:Int): ∃N,Yv (x9y x y z) N (y3l x y z)=.ret [.bool (v3x x y z)]:=⟨0,by
 unfold y3l v3x;cases decide (Vm (Vm x y) z≥(-1000000)) <;> rfl⟩
instance : DecidableEq R7:=Classical.typeDecidableEq _
def y8e (l m:List R7):Bool:=decide (l=m)
def z2q (l m:List R7):Bool:=decide (l.length≤1000000)
def eq7 (r s:R7):Bool:=(r.a == s.a)&&(((r.b == s.b)&&((r.c == s.c)&&((r.d == s.d)&&true)))&&(((r.e == s.e)&&((r.f == s.f)&&((r.g == s.g)&&true)))&&true))
theorem v4j (r s:R7):eq7 r s=true↔r=s:=by obtain ⟨a,b,c,d,e,f,g⟩:=r;obtain ⟨a',b',c',d',e',f',g'⟩:=s;simp [eq7,and_assoc]
theorem u5p (l m:List R7) (hl:l.length≤1000000) (hm:l.length=m.length): ∀(k i:Nat),i+k=l.length→ ∃N,Yv (z6s l m) N (.to (.h0 (i:Int)))=.ret [.bool (decide (l.drop i=m.drop i))]
 | 0,i,h=>by refine ⟨1,?_⟩;rw [Zv,List.drop_eq_nil_of_le (by omega),List.drop_eq_nil_of_le (by omega)];simp (disch:=omega) only [z6s,Yx,cond_false,Zm,decide_true]
 | k+1,i,h=>by
  have hi:i<l.length:=by omega
  obtain ⟨N,hN⟩:=u5p l m hl hm k (i+1) (by omega);refine ⟨N+1,?_⟩;rw [Zv,Ym hi,Ym (show i<m.length by omega)];have e:z6s l m (.h0 (i:Int))=bif !(eq7 (rd l i) (rd m i)) then .ret [.bool false] else .to (.h0 ((i+1:Nat):Int)):=by simp (disch:=omega) only [z6s,eq7,Zt,Yz,Zq,Zx,Zj,Bool.and_true,cond_true,cond_false]
  rw [e];by_cases q:rd l i=rd m i
  ·rw [(v4j _ _).2 q,Bool.not_true,cond_false,hN]
   congr 3
   exact decide_eq_decide.2 ⟨fun h=>by rw [q,h],fun h=>(List.cons.inj h).2⟩
  ·rw [show eq7 (rd l i) (rd m i)=false from Bool.eq_false_iff.2 fun h=>q ((v4j _ _).1 h),Bool.not_false,cond_true,Zm]
   congr 3
   exact (decide_eq_false fun h=>q (List.cons.inj h).1).symm
theorem j2f (l m:List R7) (h:z2q l m=true): ∃N,Yv (z6s l m) N (y3m l m)=.ret [.bool (y8e l m)]:=by
 have hl:l.length≤1000000:=of_decide_eq_true h;unfold y3m;by_cases hm:l.length=m.length
 ·obtain ⟨N,hN⟩:=u5p l m hl hm l.length 0 (Nat.zero_add _);refine ⟨N,?_⟩;rw [show ((l.length:Int) != (m.length:Int))=false by rw [hm];simp,cond_false];exact hN
 ·refine ⟨0,?_⟩;rw [show ((l.length:Int) != (m.length:Int))=true by simp;omega,cond_true,Zm]
  congr 3
  exact (decide_eq_false fun e=>hm (by rw [e])).symm
def slmX :List AVal:=[.nils,.int .i64 8]
def eF (l:List R6):Nat→Nat→Int
 | 0,_=>0
 | k+1,i=>bif v5f l (rd (D6.cuts l) i) then Xc (D6.inn l (rd (D6.cuts l) i)) else eF l k (i+1)
def slmE (l:List R6) (k i:Nat):List AVal:=[.nils,.int .i64 (eF l k i)]
section
variable (l:List R6) (hl:l.length≤400)
include hl
theorem u2e (i:Nat) (out:List R6) (last:List R4) (first fin x x':Int): ∀(k j:Nat) (acc:List R4),j+k=l.length→acc.length≤j→
  ∃n,∀N,Yv (Xj l) (N+n) (.to (.h3 (i:Int) (j:Int) out last first fin ((D6.cuts l).length) (Wh (Xm (D6.ends l))) x x' acc))=Yv (Xj l) N (.to (.h3 (i:Int) (l.length:Int) out last first fin ((D6.cuts l).length) (Wh (Xm (D6.ends l))) x x' (acc++D6.inn (l.drop j) x)))
 | 0,j,acc,h,ha=>by refine ⟨0,fun N=> ?_⟩;rw [List.drop_eq_nil_of_le (by omega),show D6.inn ([]:List R6) x=[] from rfl,List.append_nil,Nat.add_zero,show j=l.length by omega]
 | k+1,j,acc,h,ha=>by
  have hj:j<l.length:=by omega
  obtain ⟨n,hn⟩:=u2e i out last first fin x x' k (j+1) (acc++D6.inn [rd l j] x) (by omega) (by have:=D6.inn_length [rd l j] x;simp only [List.length_append,List.length_singleton] at*;omega)
  refine ⟨n+1,fun N=> ?_⟩;have e:D6.inn (l.drop j) x=D6.inn [rd l j] x++D6.inn (l.drop (j+1)) x:=by rw [Ym hj,←D6.inn_append];rfl
  rw [e,←Nat.add_assoc,Zv,←List.append_assoc,←hn N];by_cases h1:D6.lo (rd l j)≤x
  ·by_cases h2:x<D6.hi (rd l j)
   ·rw [D6.inn_t _ _ h1 h2];simp only [D6] at h1 h2 ⊢;simp (disch:=omega) only [Xj,Xs,Za,Zk,Zt,Yz,Yc,Yk,Yp,Zh,Zq,Zx,Yg,Zj,Nat.zero_add,decide_true,Bool.and_true,Bool.true_and,cond_true,cond_false]
   ·rw [D6.inn_f2 _ _ h2,List.append_nil];simp only [D6] at h1 h2;simp (disch:=omega) only [Xj,Xs,Yx,Za,Zk,Zt,Yz,Yc,Yk,Yp,Zh,Zq,Zx,Yg,Zj,Nat.zero_add,decide_true,Bool.and_true,Bool.true_and,cond_true,cond_false]
  ·rw [D6.inn_f1 _ _ h1,List.append_nil];simp only [D6] at h1;simp (disch:=omega) only [Xj,w0f,Za,Zk,Zt,Yz,Yc,Yk,Yp,Zh,Zq,Zx,Yg,Zj,Nat.zero_add,decide_true,Bool.and_true,Bool.true_and,cond_true,cond_false]
theorem u2d (i:Nat) (hi:i≤1000) (x x':Int) (s last:List R4) (first:Int) (inn:List R4) (hs:s.length≤1000): ∀(k j:Nat) (out:List R6),j+k=s.length→out.length≤10000000+j→
  ∃n,∀N,Yv (Xj l) (N+n) (.to (.h4 x x' s (s.length:Int) (j:Int) s (i:Int) out last first ((D6.cuts l).length) (Wh (Xm (D6.ends l))) inn))=Yv (Xj l) N (.to (.h2 ((i+1:Nat):Int) (out++(s.drop j).map (D6.put x x')) last first x' ((D6.cuts l).length) (Wh (Xm (D6.ends l)))))
 | 0,j,out,h,ho=>by have _u:=hl;refine ⟨1,fun N=> ?_⟩;rw [List.drop_eq_nil_of_le (by omega),Zv];simp (disch:=omega) only [Xj,Yx,Zq,Zx,cond_false,List.map_nil,List.append_nil]
 | k+1,j,out,h,ho=>by
  obtain ⟨n,hn⟩:=u2d i hi x x' s last first inn hs k (j+1) (out++[D6.put x x' (rd s j)]) (by omega) (by simp;omega)
  refine ⟨n+1,fun N=> ?_⟩;have:=hn N;rw [Ym (show j<s.length by omega),List.map_cons,←Nat.add_assoc,Zv];simp (disch:=omega) only [Xj,Za,Zk,Zt,Yz,Yc,Yk,Yp,Zh,Zq,Zx,Yg,Zj,Nat.zero_add,decide_true,Bool.and_true,Bool.true_and,cond_true,cond_false];rw [List.append_assoc] at this;exact this
theorem u2c (i:Nat) (hi:i≤1000) (x x' fin:Int) (s last:List R4) (first:Int) (inn:List R4): ∀(k j:Nat) (out:List R6),j+k=out.length→out.length≤10000000→
  ∃n,∀N,Yv (Xj l) (N+n) (.to (.h5 x' (j:Int) x s (i:Int) out last first fin ((D6.cuts l).length) (Wh (Xm (D6.ends l))) inn))=Yv (Xj l) N (.to (.h2 ((i+1:Nat):Int) (D6.grow out j x') last first x' ((D6.cuts l).length) (Wh (Xm (D6.ends l)))))
 | 0,j,out,h,ho=>by have _u:=hl;refine ⟨1,fun N=> ?_⟩;rw [D6.grow_nil _ _ _ (by omega),Zv];simp (disch:=omega) only [Xj,Yx,Zq,Zx,cond_false]
 | k+1,j,out,h,ho=>by
  obtain ⟨n,hn⟩:=u2c i hi x x' fin s last first inn k (j+1) (out.set j (D6.ext x' (rd out j))) (by simp;omega) (by simpa using ho)
  refine ⟨n+1,fun N=> ?_⟩;have:=hn N;rw [D6.grow_set out j _ (by omega)] at this;rw [←Nat.add_assoc,Zv];simp (disch:=omega) only [Xj,Za,Zk,Zt,Yz,Yc,Yk,Yp,Zh,Zq,Zx,Yg,Zj,Nat.zero_add,decide_true,Bool.and_true,Bool.true_and,cond_true,cond_false];exact this
theorem w9q : ∀(k i:Nat) (s:Sw R6 R4),k=(D6.cuts l).length - 1 - i→i≤(D6.cuts l).length →s.out.length≤i*1000→s.last.length≤1000→s.first≤s.out.length→
  ∃n,Yv (Xj l) n (.to (.h2 ((i+1:Nat):Int) s.out s.last (s.first:Int) s.fin ((D6.cuts l).length) (Wh (Xm (D6.ends l)))))=.ret ((bif okF l k i then Qv (D6.go l k i s).out else slmE l k i))
 | 0,i,s,h,hi,ho,hla,hf=>by
  have hc:=D6.cuts_length l;refine ⟨1,?_⟩;rw [Zv,show D6.go l 0 i s=s from rfl,show okF l 0 i=true from rfl,cond_true];unfold Qv;by_cases q:(s.out.length:Int)>400
  ·simp (disch:=omega) only [Xj,Yx,Yo,cond_true,cond_false,Zm]
  ·simp (disch:=omega) only [Xj,Za,Yx,Xp,cond_true,cond_false,Zm]
 | k +1,i,s,h,hi,ho,hla,hf=>by
  have hc:=D6.cuts_length l;have hi1:i+1<(D6.cuts l).length :=by omega
  have hpl:(Wh (Xm (D6.ends l))).length =2*l.length:=by rw [Uo,Ww,D6.ends_length]
  have r0:rd (Wh (Xm (D6.ends l))) i=rd (D6.cuts l) i:=z4h _ _ (by show i<(D6.cuts l).length;omega);have r1:rd (Wh (Xm (D6.ends l))) (i+1)=rd (D6.cuts l) (i+1):=z4h _ _ (by show i+1<(D6.cuts l).length;omega);have hbig:i*1000≤1000*1000:=Nat.mul_le_mul_right _ (by omega);have hsl:=u6f l (rd (D6.cuts l) i);have hsd:D6.sec l (rd (D6.cuts l) i)=Zb (D6.inn l (rd (D6.cuts l) i)):=rfl;obtain ⟨n3,h3⟩:=u2e l hl (i+1) s.out s.last (s.first:Int) s.fin (rd (D6.cuts l) i) (rd (D6.cuts l) (i+1)) l.length 0 [] (Nat.zero_add _) (Nat.le_refl _);simp only [List.drop_zero,List.nil_append,z4u] at h3;have w1:Uh (D6.inn l (rd (D6.cuts l) i))=true:=rfl;have w2:Wb s.last (Zb (D6.inn l (rd (D6.cuts l) i)))=true:=decide_eq_true (by omega);have ol:=D6.one_length l (rd (D6.cuts l) i) (rd (D6.cuts l) (i+1)) s;have st0: ∀N,Yv (Xj l) (N+n3+1) (.to (.h2 ((i+1:Nat):Int) s.out s.last (s.first:Int) s.fin ((D6.cuts l).length) (Wh (Xm (D6.ends l)))))=Yv (Xj l) N (.to (.h3 ((i+1:Nat):Int) (l.length:Int) s.out s.last (s.first:Int) s.fin ((D6.cuts l).length) (Wh (Xm (D6.ends l))) (rd (D6.cuts l) i) (rd (D6.cuts l) (i+1)) (D6.inn l (rd (D6.cuts l) i)))):=fun N=>by
   rw [←h3 N,Zv];have e1:IntKind.wrap .i64 (((i+1:Nat):Int) - 1)=(i:Int):=by rw [Zr];exact Zq (by omega)
   simp (disch:=omega) only [Xj,e1,r0,r1,Za,Zk,Zt,Yz,Yc,Yk,Yp,Zh,Zq,Zx,Yg,Zj,Nat.zero_add,decide_true,Bool.and_true,Bool.true_and,cond_true,cond_false]
  rcases Ye (v5f l (rd (D6.cuts l) i)) with q0 | q0
  ·refine ⟨1+n3+1,?_⟩;rw [st0 1,Zv];simp only [okF,slmE,eF,q0,cond_true,cond_false];have q0':(Xc (D6.inn l (rd (D6.cuts l) i)) != 0)=true:=q0;simp (disch:=omega) only [Xj,Za,Zk,Yx,q0',w1,cond_true,cond_false,Zm]
  have q0':(Xc (D6.inn l (rd (D6.cuts l) i)) != 0)=false:=q0;rcases Ye (decide (0<(D6.sec l (rd (D6.cuts l) i)).length)&&((s.fin == rd (D6.cuts l) i)&&D6.same s.last (D6.sec l (rd (D6.cuts l) i)))) with q | q
  ·obtain ⟨n5,h5⟩:=u2c l hl (i+1) (by omega) (rd (D6.cuts l) i) (rd (D6.cuts l) (i+1)) s.fin (D6.sec l (rd (D6.cuts l) i)) s.last (s.first:Int) (D6.inn l (rd (D6.cuts l) i)) (s.out.length - s.first) s.first s.out (by omega) (by omega)
   have e:D6.one l (rd (D6.cuts l) i) (rd (D6.cuts l) (i+1)) s=⟨D6.grow s.out s.first (rd (D6.cuts l) (i+1)),s.last,s.first,rd (D6.cuts l) (i+1)⟩:=by unfold Dim.one;rw [q];rfl
   obtain ⟨n0,h0⟩:=w9q k (i+1) (D6.one l (rd (D6.cuts l) i) (rd (D6.cuts l) (i+1)) s) (by omega) (by omega) (by omega) (by rw [e];exact hla) (by rw [e];simpa [Dim.grow_length] using hf);refine ⟨n0+n5+1+n3+1,?_⟩;rw [st0 (n0+n5+1),Zv];simp only [Bool.and_eq_true,decide_eq_true_eq] at q;obtain ⟨q1,q2,q3⟩:=q;have q3':Jv s.last (Zb (D6.inn l (rd (D6.cuts l) i)))=true:=q3;rw [hsd] at q1;simp (disch:=omega) only [Xj,Za,Zk,Yx,Yo,q0',q2,q3',w1,w2,cond_true,cond_false];rw [←hsd,h5 n0];simp only [okF,slmE,eF,q0,cond_false];simp only [Dim.go];rw [e] at h0 ⊢;exact h0
  ·obtain ⟨n4,h4⟩:=u2d l hl (i+1) (by omega) (rd (D6.cuts l) i) (rd (D6.cuts l) (i+1)) (D6.sec l (rd (D6.cuts l) i)) (D6.sec l (rd (D6.cuts l) i)) (s.out.length:Int) (D6.inn l (rd (D6.cuts l) i)) hsl (D6.sec l (rd (D6.cuts l) i)).length 0 s.out (Nat.zero_add _) (by omega);simp only [List.drop_zero,z4u] at h4;have e:D6.one l (rd (D6.cuts l) i) (rd (D6.cuts l) (i+1)) s=⟨s.out++(D6.sec l (rd (D6.cuts l) i)).map (D6.put (rd (D6.cuts l) i) (rd (D6.cuts l) (i+1))),D6.sec l (rd (D6.cuts l) i),s.out.length,rd (D6.cuts l) (i+1)⟩:=by unfold Dim.one;rw [q];rfl
   obtain ⟨n0,h0⟩:=w9q k (i+1) (D6.one l (rd (D6.cuts l) i) (rd (D6.cuts l) (i+1)) s) (by omega) (by omega) (by omega) (by rw [e];exact hsl) (by rw [e];simp);have hg:Yv (Xj l) 1 (.to (.h3 ((i+1:Nat):Int) (l.length:Int) s.out s.last (s.first:Int) s.fin ((D6.cuts l).length) (Wh (Xm (D6.ends l))) (rd (D6.cuts l) i) (rd (D6.cuts l) (i+1)) (D6.inn l (rd (D6.cuts l) i))))=.to (.h4 (rd (D6.cuts l) i) (rd (D6.cuts l) (i+1)) (D6.sec l (rd (D6.cuts l) i)) ((D6.sec l (rd (D6.cuts l) i)).length :Int) 0 (D6.sec l (rd (D6.cuts l) i)) ((i+1:Nat):Int) s.out (D6.sec l (rd (D6.cuts l) i)) (s.out.length:Int) ((D6.cuts l).length) (Wh (Xm (D6.ends l))) (D6.inn l (rd (D6.cuts l) i))):=by
    rw [show (1:Nat)=0+1 from rfl,Zv];rw [hsd] at q ⊢;have e3:D6.same s.last (Zb (D6.inn l (rd (D6.cuts l) i)))=Jv s.last (Zb (D6.inn l (rd (D6.cuts l) i))):=rfl;rw [e3] at q;by_cases q1:0<(Zb (D6.inn l (rd (D6.cuts l) i))).length
    ·rw [decide_eq_true q1,Bool.true_and] at q;rcases Ye (s.fin == rd (D6.cuts l) i) with q2 | q2
     ·rw [q2,Bool.true_and] at q;simp (disch:=omega) only [Xj,Za,Zk,Yx,Yo,q0',q2,q,w1,w2,cond_true,cond_false];rfl
     ·simp (disch:=omega) only [Xj,Za,Zk,Yx,Yo,q0',q2,w1,w2,cond_true,cond_false];rfl
    ·simp (disch:=omega) only [Xj,Za,Zk,Yx,Xp,q0',w1,w2,cond_true,cond_false];rfl
   refine ⟨n0+n4+1+n3+1,?_⟩;rw [st0 (n0+n4+1),z8f _ (n0+n4) 1,hg,h4 n0];simp only [okF,slmE,eF,q0,cond_false];simp only [Dim.go];rw [e] at h0 ⊢;exact h0
theorem u2f : ∀(k i:Nat) (acc:List Int),i+k=l.length→acc=D6.ends (l.take i)→ ∃n,Yv (Xj l) n (.to (.h1 (i:Int) acc))=.ret ((bif okF l ((D6.cuts l).length - 1) 0 then Qv (D6.go l ((D6.cuts l).length - 1) 0 ⟨[],[],0,0⟩).out else slmE l ((D6.cuts l).length - 1) 0))
 | 0,i,acc,h,ha=>by
  have e:acc=D6.ends l:=by rw [ha,List.take_of_length_le (by omega)]
  subst e;have hle:=D6.ends_length l;obtain ⟨n,hn⟩:=w9q l hl ((D6.cuts l).length - 1) 0 ⟨[],[],0,0⟩ (by omega) (Nat.zero_le _) (Nat.zero_le _) (Nat.zero_le _) (Nat.zero_le _);refine ⟨n+1,?_⟩;rw [Zv];simp (disch:=omega) only [Xj,Wd,z0a,y0f,Yx,Yk,Yp,decide_true,cond_true,cond_false];exact hn
 | k+1,i,acc,h,ha=>by
  have hle:=D6.ends_length (l.take i);have fN:acc.length≤2*i:=by rw [ha,hle];simp;omega
  obtain ⟨n,hn⟩:=u2f k (i+1) (acc++D6.ends [rd l i]) (by omega) (by
   rw [ha,List.take_add_one];have:l[i]? =some (rd l i):=by rw [Xy (show i<l.length by omega)];exact List.getElem?_eq_getElem _
   rw [this,D6.ends_append];rfl)
  refine ⟨n+1,?_⟩;rw [Zv];simp (disch:=omega) only [Xj,Za,Zk,Zt,Yz,Yc,Yk,Yp,Zh,Zq,Zx,Yg,Zj,Nat.zero_add,decide_true,Bool.and_true,Bool.true_and,cond_true,cond_false];exact hn
theorem u2g : ∀(k i:Nat),i+k=l.length→(∀s∈l.take i,Ko s=true)→ ∃n,Yv (Xj l) n (.to (.h0 (i:Int)))=.ret (bif l.all Ko then (bif okF l ((D6.cuts l).length - 1) 0 then Qv (D6.go l ((D6.cuts l).length - 1) 0 ⟨[],[],0,0⟩).out else slmE l ((D6.cuts l).length - 1) 0) else slmX)
 | 0,i,h,ht=>by have hv:l.all Ko=true:=List.all_eq_true.2 fun s hs=>ht s (by rw [List.take_of_length_le (by omega)];exact hs);obtain ⟨n,hn⟩:=u2f l hl l.length 0 [] (Nat.zero_add _) rfl;refine ⟨n+1,?_⟩;rw [Zv,hv,cond_true];simp (disch:=omega) only [Xj,Yx,cond_false];exact hn
 | k+1,i,h,ht=>by
  have hi:i<l.length:=by omega
  have hs:Xj l (.h0 (i:Int))=bif Ko (rd l i) then .to (.h0 ((i+1:Nat):Int)) else .ret slmX:=by have e:u6i (rd l i).a (rd l i).b (rd l i).c (rd l i).d (rd l i).e (rd l i).f =Ko (rd l i):=rfl;simp (disch:=omega) only [Xj,e,z6x,x5d,x5e,Yz,Zq,Zx,Zj,Bool.and_true,cond_true,cond_false];rfl
  rcases Ye (Ko (rd l i)) with q | q
  ·obtain ⟨n,hn⟩:=u2g k (i+1) (by omega) (fun s hs=>by
    rw [List.take_add_one] at hs;have e:l[i]? =some (rd l i):=by rw [Xy hi];exact List.getElem?_eq_getElem _
    rw [e] at hs;simp only [Option.toList_some,List.mem_append,List.mem_singleton] at hs;rcases hs with hs | rfl
    ·exact ht s hs
    ·exact q)
   refine ⟨n+1,?_⟩;rw [Zv,hs,q,cond_true];exact hn
  ·have hv:l.all Ko=false:=Bool.eq_false_iff.2 fun e=>by have:=List.all_eq_true.1 e (rd l i) (by rw [Xy hi];exact List.getElem_mem hi);rw [this] at q;cases q
   refine ⟨1,?_⟩;rw [Zv,hv,cond_false,hs,q,cond_false,Zm]
end
theorem u0s {l:List R6}: ∀(k i:Nat),okF l k i=false→(eF l k i != 0)=true
 | 0,i,h=>by cases h
 | k+1,i,h=>by
  unfold okF at h;unfold eF;rcases Ye (v5f l (rd (D6.cuts l) i)) with q | q
  ·rw [q,cond_true];exact q
  ·rw [q,cond_false] at h ⊢;exact u0s k (i+1) h
def Kt (l:List R6):Int:=bif decide (400<l.length) then 4 else bif l.all Ko then (bif okF l ((D6.cuts l).length - 1) 0 then y9x (D6.out l).length else eF l ((D6.cuts l).length - 1) 0) else 8
def Xt (l:List R6):List R6:=x2b (Kt l) (D6.out l)
def z7d (l:List R6):Bool:=true
theorem u7e (l:List R6) (h:z7d l=true): ∃n,Yv (Xj l) n (y2g l)=.ret (y4h (Kt l) (D6.out l)):=by
 unfold y2g Kt;by_cases h:400<l.length
 ·refine ⟨0,?_⟩;rw [decide_eq_true h,Yo (show (l.length:Int)>400 by omega)];rfl
 ·obtain ⟨n,hn⟩:=u2g l (by omega) l.length 0 (Nat.zero_add _) (fun s hs=>by simp at hs);refine ⟨n,?_⟩;rw [decide_eq_false h,Xp (show¬(l.length:Int)>400 by omega),cond_false,cond_false];rw [z4u] at hn;rw [hn];rcases Ye (l.all Ko) with q | q
  ·rw [q,cond_true,cond_true];rcases Ye (okF l ((D6.cuts l).length - 1) 0) with q2 | q2
   ·rw [q2,cond_true,cond_true,z8s];rfl
   ·rw [q2,cond_false,cond_false,z2u _ (u0s _ _ q2)];rfl
  ·rw [q];rfl
def fSlm :List AVal→Option (AVal×Bool)
 | [a0]=>match asL R6 a0 with
  | some (L0,g0,n0)=>some (.tup [.dat (Xt L0).length (Zz (Xt L0)),.int .i64 (Kt L0)],isT R6 n0 g0&&(z7d L0))
  | _=>none
 | _=>none
theorem j1d {S:Specs} (hS:Zu prog S):Zu prog (S.with v1w fSlm):=by
 refine v3z hS (by kernel_rfl) fun args v h=> ?_;unfold fSlm at h;split at h
 ·rename_i a0;split at h
  ·rename_i L0 g0 n0 e0;simp only [Option.some.injEq,Prod.mk.injEq,Bool.and_eq_true] at h;obtain ⟨rfl,ho0,hw⟩:=h;obtain ⟨N,hN⟩:=u7e L0 hw;exact ⟨_,_,(.cons (asL_le e0 ho0) .nil),z5d _ _,v6m L0 N _ hN,3,z9j _ _⟩
  ·cases h
 ·cases h
def fFin :List AVal→Option (AVal×Bool)
 | [.agg [.int .i64 aM,.int .i64 aL,.int .i64 aN]]=>some (.bool (v3x aM aL aN),true)
 | _=>none
theorem j2a {S:Specs} (hS:Zu prog S):Zu prog (S.with u4l fFin):=by
 refine z2d hS (by kernel_rfl) fun args v h=> ?_;unfold fFin at h;split at h
 ·rename_i aM aL aN;simp only [Option.some.injEq,Prod.mk.injEq,and_true] at h;subst h;obtain ⟨N,hN⟩:=j0s aM aL aN;exact ⟨_,_,(.cons (.refl _) .nil),rfl,u0i aM aL aN N _ hN,3,rfl⟩
 ·cases h
def fEqq :List AVal→Option (AVal×Bool)
 | [a0,a1]=>match asL R7 a0,asL R7 a1 with
  | some (L0,g0,n0),some (L1,g1,n1)=>some (.bool (y8e L0 L1),isT R7 n0 g0&&(isT R7 n1 g1&&(z2q L0 L1)))
  | _,_=>none
 | _=>none
theorem j2b {S:Specs} (hS:Zu prog S):Zu prog (S.with nEq7 fEqq):=by
 refine z2d hS (by kernel_rfl) fun args v h=> ?_;unfold fEqq at h;split at h
 ·rename_i a0 a1;split at h
  ·rename_i L0 g0 n0 L1 g1 n1 e0 e1;simp only [Option.some.injEq,Prod.mk.injEq,Bool.and_eq_true] at h;obtain ⟨rfl,ho0,ho1,hw⟩:=h;obtain ⟨N,hN⟩:=j2f L0 L1 hw;exact ⟨_,_,(.cons (asL_le e0 ho0) (.cons (asL_le e1 ho1) .nil)),rfl,u0n L0 L1 N _ hN,3,rfl⟩
  ·cases h
 ·cases h
def Mg :Specs:=(((Me.with u4l fFin).with nEq7 fEqq).with v1w fSlm)
theorem z3m :Zu prog Mg:=(j1d (j2b (j2a Jg)))
end Go.Am
namespace Go.Am
open Go.Proofs.Tryz
open Go.Proofs
-- h0: index into an array (choices [true, false, false, false, false, false, false])
inductive mckS where
 | h0 (v14:Int)
def mckC (l0:List R7):mckS→Cfg
 | .h0 v14=>⟨⟨70,0,true⟩,none,(Zd prog 24 [1,1,1,0,1,0,0] 0),none,(Zy prog 3),⟨Yd [(3,(.ptr 0 0)),(12,(.dat l0.length (Zz l0))),(13,(ii (l0.length:Int))),(14,(ii v14))],Uw [⟨[(.fn 105 []),(.fn 106 []),(.fn 107 []),(.fn 108 []),(.fn 109 []),(.fn 110 []),(.fn 111 []),(.fn 112 []),(.fn 113 [])],85,none⟩] 0,1,[],true⟩,[],.leaf⟩
def v9g :List (Option (List Nat)):=[some [3,12,13,14]]
def v9h :List (Option (List Nat)):=[]
def z6n (l0:List R7):mckS→Xb mckS
 | .h0 v14=>(bif (decide (v14<(l0.length:Int))) then (bif ((decide (0≤v14∧v14<(l0.length:Int)))&&true) then (bif (decide ((rd l0 v14.toNat).a >5)) then (.ret [(.int .i64 8)]) else (bif (!(v3x (rd l0 v14.toNat).b (rd l0 v14.toNat).c (rd l0 v14.toNat).d)) then (.ret [(.int .i64 8)]) else (bif (!(v3x (rd l0 v14.toNat).e (rd l0 v14.toNat).f (rd l0 v14.toNat).g)) then (.ret [(.int .i64 8)]) else (bif (decide ((IntKind.wrap IntKind.u8 (Int.tdiv (rd l0 v14.toNat).a 2))=Int.ofNat 0)) then (bif ((rd l0 v14.toNat).b != (rd l0 v14.toNat).e) then (.ret [(.int .i64 8)]) else (bif (decide ((rd l0 v14.toNat).c ≥(rd l0 v14.toNat).f)) then (.ret [(.int .i64 8)]) else (bif (decide ((rd l0 v14.toNat).d ≥(rd l0 v14.toNat).g)) then (.ret [(.int .i64 8)]) else (.to (.h0 (IntKind.wrap .i64 (v14+1))))))) else (bif (decide ((IntKind.wrap IntKind.u8 (Int.tdiv (rd l0 v14.toNat).a 2))=Int.ofNat 1)) then (bif ((rd l0 v14.toNat).c != (rd l0 v14.toNat).f) then (.ret [(.int .i64 8)]) else (bif (decide ((rd l0 v14.toNat).b ≥(rd l0 v14.toNat).e)) then (.ret [(.int .i64 8)]) else (bif (decide ((rd l0 v14.toNat).d ≥(rd l0 v14.toNat).g)) then (.ret [(.int .i64 8)]) else (.to (.h0 (IntKind.wrap .i64 (v14+1))))))) else (bif (decide ((IntKind.wrap IntKind.u8 (Int.tdiv (rd l0 v14.toNat).a 2))=Int.ofNat 2)) then (bif ((rd l0 v14.toNat).d != (rd l0 v14.toNat).g) then (.ret [(.int .i64 8)]) else (bif (decide ((rd l0 v14.toNat).b ≥(rd l0 v14.toNat).e)) then (.ret [(.int .i64 8)]) else (bif (decide ((rd l0 v14.toNat).c ≥(rd l0 v14.toNat).f)) then (.ret [(.int .i64 8)]) else (.to (.h0 (IntKind.wrap .i64 (v14+1))))))) else .stuck)))))) else .stuck) else (.ret [(.int .i64 0)]))
def y2x (l0:List R7):Xb mckS:=(bif (decide ((l0.length:Int)>3000)) then (.ret [(.int .i64 4)]) else (.to (.h0 0)))
theorem w6n (l0:List R7): ∀s,Xv prog (Zy prog 24) (mckC l0) (mckC l0 s) (z6n l0 s)
 | .h0 v14=>(lb (fun k0=>(lo fun aF=>(lb (fun k1=>(lr 70 24 [1,1,1,0,1,0,0,1,1,0,0,1,0,1,0,0] 1 3 [(2,(ii 8))] (sl z3m 40 [] ⟨[],[],[some [2]],[]⟩ ⟨[],[],[]⟩ (trs 10 []) (tt k1 (ww aF (tt k0 nn)))))) (fun k1=>(lb (fun k2=>(lr 70 24 [1,1,1,0,1,0,0,1,1,0,0,1,0,1,0,0] 1 3 [(2,(ii 8))] (sl z3m 40 [] ⟨[],[],[some [2]],[]⟩ ⟨[],[],[]⟩ (bl 10 993) (tt k2 (tt k1 (ww aF (tt k0 nn))))))) (fun k2=>(lb (fun k3=>(lr 70 24 [1,1,1,0,1,0,0,1,1,0,0,1,0,1,0,0] 1 3 [(2,(ii 8))] (sl z3m 40 [] ⟨[],[],[some [2]],[]⟩ ⟨[],[],[]⟩ (bl 10 513) (tt k3 (tt k2 (tt k1 (ww aF (tt k0 nn)))))))) (fun k3=>(lb (fun k4=>(lb (fun k5=>(lr 70 24 [1,1,1,0,1,0,0,1,1,0,0,1,1,1,1,1,0,0] 1 3 [(2,(ii 8))] (sl z3m 124 [] ⟨[],[],[some [2]],[]⟩ ⟨[],[],[]⟩ (bl 22 4192257) (tt k5 (ww k4 (tt k3 (tt k2 (tt k1 (ww aF (tt k0 nn)))))))))) (fun k5=>(lb (fun k6=>(lr 70 24 [1,1,1,0,1,0,0,1,1,0,0,1,1,1,1,1,0,0] 1 3 [(2,(ii 8))] (sl z3m 124 [] ⟨[],[],[some [2]],[]⟩ ⟨[],[],[]⟩ (bl 22 4128769) (tt k6 (tt k5 (ww k4 (tt k3 (tt k2 (tt k1 (ww aF (tt k0 nn))))))))))) (fun k6=>(lb (fun k7=>(lr 70 24 [1,1,1,0,1,0,0,1,1,0,0,1,1,1,1,1,0,0] 1 3 [(2,(ii 8))] (sl z3m 124 [] ⟨[],[],[some [2]],[]⟩ ⟨[],[],[]⟩ (bl 22 2097153) (tt k7 (tt k6 (tt k5 (ww k4 (tt k3 (tt k2 (tt k1 (ww aF (tt k0 nn)))))))))))) (fun k7=>(sl z3m 127 [] ⟨[0],[],v9g,v9h⟩ ⟨[],[],[]⟩ (bl 22 1) (tt k7 (tt k6 (tt k5 (ww k4 (tt k3 (tt k2 (tt k1 (ww aF (tt k0 nn))))))))))))))))) (fun k4=>(lb (fun k5=>(lb (fun k6=>(lr 70 24 [1,1,1,0,1,0,0,1,1,0,0,1,1,1,1,1,0,0] 1 3 [(2,(ii 8))] (sl z3m 124 [] ⟨[],[],[some [2]],[]⟩ ⟨[],[],[]⟩ (bl 23 8385537) (tt k6 (ww k5 (tt k3 (tt k2 (tt k1 (ww aF (tt k0 nn)))))))))) (fun k6=>(lb (fun k7=>(lr 70 24 [1,1,1,0,1,0,0,1,1,0,0,1,1,1,1,1,0,0] 1 3 [(2,(ii 8))] (sl z3m 124 [] ⟨[],[],[some [2]],[]⟩ ⟨[],[],[]⟩ (bl 23 8258561) (tt k7 (tt k6 (ww k5 (tt k3 (tt k2 (tt k1 (ww aF (tt k0 nn))))))))))) (fun k7=>(lb (fun k8=>(lr 70 24 [1,1,1,0,1,0,0,1,1,0,0,1,1,1,1,1,0,0] 1 3 [(2,(ii 8))] (sl z3m 124 [] ⟨[],[],[some [2]],[]⟩ ⟨[],[],[]⟩ (bl 23 4195329) (tt k8 (tt k7 (tt k6 (ww k5 (tt k3 (tt k2 (tt k1 (ww aF (tt k0 nn)))))))))))) (fun k8=>(sl z3m 127 [] ⟨[0],[],v9g,v9h⟩ ⟨[],[],[]⟩ (bl 23 1025) (tt k8 (tt k7 (tt k6 (ww k5 (tt k3 (tt k2 (tt k1 (ww aF (tt k0 nn))))))))))))))))) (fun k5=>(lb (fun k6=>(lb (fun k7=>(lr 70 24 [1,1,1,0,1,0,0,1,1,0,0,1,1,1,1,1,0,0] 1 3 [(2,(ii 8))] (sl z3m 124 [] ⟨[],[],[some [2]],[]⟩ ⟨[],[],[]⟩ (bl 24 16772097) (tt k7 (ww k6 (tt k3 (tt k2 (tt k1 (ww aF (tt k0 nn)))))))))) (fun k7=>(lb (fun k8=>(lr 70 24 [1,1,1,0,1,0,0,1,1,0,0,1,1,1,1,1,0,0] 1 3 [(2,(ii 8))] (sl z3m 124 [] ⟨[],[],[some [2]],[]⟩ ⟨[],[],[]⟩ (bl 24 16518145) (tt k8 (tt k7 (ww k6 (tt k3 (tt k2 (tt k1 (ww aF (tt k0 nn))))))))))) (fun k8=>(lb (fun k9=>(lr 70 24 [1,1,1,0,1,0,0,1,1,0,0,1,1,1,1,1,0,0] 1 3 [(2,(ii 8))] (sl z3m 124 [] ⟨[],[],[some [2]],[]⟩ ⟨[],[],[]⟩ (bl 24 8391681) (tt k9 (tt k8 (tt k7 (ww k6 (tt k3 (tt k2 (tt k1 (ww aF (tt k0 nn)))))))))))) (fun k9=>(sl z3m 127 [] ⟨[0],[],v9g,v9h⟩ ⟨[],[],[]⟩ (bl 24 3073) (tt k9 (tt k8 (tt k7 (ww k6 (tt k3 (tt k2 (tt k1 (ww aF (tt k0 nn))))))))))))))))) (fun k6=>trivial)))))))))))))) (fun k0=>(lr 70 3 [1,1,1,1,1,1,1,0] 1 3 [(2,(ii 0))] (sl z3m 11 [] ⟨[],[],[some [2]],[]⟩ ⟨[],[],[]⟩ [false] (tt k0 nn)))))
theorem x8s (l0:List R7):Xv prog (Zy prog 24) (mckC l0) (Zc prog 24 [(.dat l0.length (Zz l0))] true []) (y2x l0):=(lb (fun k0=>(lr 70 24 [1,0,1,0,0] 1 3 [(2,(ii 4))] (sl z3m 16 [] ⟨[],[],[some [2]],[]⟩ ⟨[],[],[]⟩ [true] (tt k0 nn)))) (fun k0=>(sl z3m 41 [] ⟨[1],[],v9g,v9h⟩ ⟨[],[],[]⟩ [false] (tt k0 nn))))
theorem v9f (l0:List R7) (n:Nat) (vs:List AVal) (h:Yv (z6n l0) n (y2x l0)=.ret vs):Jt prog (Zy prog 24) (Zc prog 24 [(.dat l0.length (Zz l0))] true []) vs:=by have:=Ze (w6n l0) n _ (x8s l0);rwa [h] at this
end Go.Am
namespace Go.Am
open Go.Proofs.Tryz
open Go.Proofs Go.Sort Go.Shelf Go.RowKit Go.Lib
def w1n (r:R7):Bool:=decide (r.a≤5)&&(v3x r.b r.c r.d&&(v3x r.e r.f r.g&&
 (bif decide (r.a<2) then (r.b == r.e)&&(decide (r.c<r.f)&&decide (r.d<r.g)) else bif decide (r.a<4) then (r.c == r.f)&&(decide (r.b<r.e)&&decide (r.d<r.g)) else (r.d == r.g)&&(decide (r.b<r.e)&&decide (r.c<r.f)))))
def z6o (L:List R7):Int:=bif decide (3000<L.length) then 4 else bif L.all w1n then 0 else 8
def Wf (L:List R7):Bool:=L.all fun r=>decide (0≤r.a)&&decide (r.a<256)
theorem v3n (a b:Int):decide (a≥b)= !decide (a<b):=by
 by_cases h:a<b
 ·rw [decide_eq_true h];exact decide_eq_false (by omega)
 ·rw [decide_eq_false h];exact decide_eq_true (by omega)
theorem u6n {a:Int} (h0:0≤a) (h5:a≤5):IntKind.wrap IntKind.u8 (Int.tdiv a 2)=(if a<2 then 0 else if a<4 then 1 else 2):=by
 have:a=0∨a=1∨a=2∨a=3∨a=4∨a=5:=by omega
 rcases this with rfl | rfl | rfl | rfl | rfl | rfl <;> rfl
theorem u5d (L:List R7) (hl:L.length≤3000) (ho:Wf L=true): ∀(k i:Nat),i+k=L.length→ ∃N,Yv (z6n L) N (.to (.h0 (i:Int)))=.ret [.int .i64 (bif (L.drop i).all w1n then 0 else 8)]
 | 0,i,h=>by refine ⟨1,?_⟩;rw [Zv,List.drop_eq_nil_of_le (by omega)];simp (disch:=omega) only [z6n,Yx,cond_false];rfl
 | k +1,i,h=>by
  have hi:i<L.length:=by omega
  obtain ⟨N,hN⟩:=u5d L hl ho k (i+1) (by omega);have hb:0≤(rd L i).a ∧(rd L i).a <256:=by
   have:=List.all_eq_true.1 ho (rd L i) (by rw [Xy hi];exact List.getElem_mem hi)
   simpa using this
  refine ⟨N+1,?_⟩;rw [Zv,Ym hi,List.all_cons];have e:z6n L (.h0 (i:Int))=bif w1n (rd L i) then .to (.h0 ((i+1:Nat):Int)) else .ret [.int .i64 8]:=by
   have hw:IntKind.wrap .i64 ((i:Int)+1)=((i+1:Nat):Int):=Zq (by omega);simp (disch:=omega) only [z6n,Zt,Yz,hw,Zj,Bool.and_true,cond_true];unfold w1n;by_cases h5:(rd L i).a ≤5
   ·rw [Xp (by omega),Xs h5,cond_false,u6n hb.1 h5];cases v3x (rd L i).b (rd L i).c (rd L i).d <;> cases v3x (rd L i).e (rd L i).f (rd L i).g <;> try rfl
    by_cases h2:(rd L i).a <2
    ·rw [if_pos h2,Zt h2];simp only [v3n,bne];cases ((rd L i).b == (rd L i).e) <;> cases decide ((rd L i).c <(rd L i).f) <;> cases decide ((rd L i).d <(rd L i).g) <;> rfl
    ·rw [if_neg h2,Yx h2];by_cases h4:(rd L i).a <4
     ·rw [if_pos h4,Zt h4];simp only [v3n,bne];cases ((rd L i).c == (rd L i).f) <;> cases decide ((rd L i).b <(rd L i).e) <;> cases decide ((rd L i).d <(rd L i).g) <;> rfl
     ·rw [if_neg h4,Yx h4];simp only [v3n,bne];cases ((rd L i).d == (rd L i).g) <;> cases decide ((rd L i).b <(rd L i).e) <;> cases decide ((rd L i).c <(rd L i).f) <;> rfl
   ·rw [Yo (by omega),w0f h5];rfl
  rw [e];rcases Ye (w1n (rd L i)) with q | q
  ·rw [q,cond_true,Bool.true_and];exact hN
  ·rw [q,cond_false,Bool.false_and];exact Zm _ _ _
theorem u9y (L:List R7) (h:Wf L=true): ∃N,Yv (z6n L) N (y2x L)=.ret [.int .i64 (z6o L)]:=by
 unfold y2x z6o;by_cases g:3000<L.length
 ·refine ⟨0,?_⟩;rw [Yo (by omega),decide_eq_true g];rfl
 ·obtain ⟨N,hN⟩:=u5d L (by omega) h L.length 0 (Nat.zero_add _);refine ⟨N,?_⟩;rw [Xp (by omega),decide_eq_false g];exact hN
def fMck :List AVal→Option (AVal×Bool)
 | [a0]=>match asL R7 a0 with
  | some (L0,g0,n0)=>some (.int .i64 (z6o L0),isT R7 n0 g0&&(Wf L0))
  | _=>none
 | _=>none
theorem j1r {S:Specs} (hS:Zu prog S):Zu prog (S.with v2d fMck):=by
 refine z2d hS (by kernel_rfl) fun args v h=> ?_;unfold fMck at h;split at h
 ·rename_i a0;split at h
  ·rename_i L0 g0 n0 e0;simp only [Option.some.injEq,Prod.mk.injEq,Bool.and_eq_true] at h;obtain ⟨rfl,ho0,hw⟩:=h;obtain ⟨N,hN⟩:=u9y L0 hw;exact ⟨_,_,(.cons (asL_le e0 ho0) .nil),rfl,v9f L0 N _ hN,3,rfl⟩
  ·cases h
 ·cases h
def Mh :Specs:=(Mg.with v2d fMck)
theorem Qj :Zu prog Mh:=(j1r z3m)
end Go.Am
namespace Go.Am
open Go.Proofs.Tryz
open Go.Proofs
-- h2: index into an array (choices [true, true, true, false, false])
inductive msoS where
 | h0 (v6:List Int) (v39:Int)
 | h1 (bS:Nat) (v9:List R6) (v10:List R4) (bM:Nat) (v59:Int) (v60:Int) (aY:List Int)
 | h2 (bS:Nat) (v9:List R6) (v10:List R4) (v11:Int) (v12:Int) (bM:Nat) (v59:Int) (v60:Int) (v67:Int) (aY:List Int) (aA:List R4) (aI:List R4)
 | h3 (bS:Nat) (v9:List R6) (v10:List R4) (v11:Int) (v12:Int) (bM:Nat) (v59:Int) (v60:Int) (v132:List R4) (v133:Int) (v134:Int) (aY:List Int)
abbrev z3q (l0:List R7) (v67:Int):=(R4.mk (rd l0 (tn v67)).b (rd l0 (tn v67)).c (rd l0 (tn v67)).e (rd l0 (tn v67)).f)
abbrev y8x (v9:List R6) (v132:List R4) (v134:Int) (v12:Int) (aY:List Int) (v11:Int):=(v9++[(R6.mk (rd v132 (tn v134)).a (rd v132 (tn v134)).b v12 (rd v132 (tn v134)).c (rd v132 (tn v134)).d (rd aY (0+(tn (wr (v11+1))))))])
abbrev y8w (v6:List Int):=(Wh (Yw v6.length (cOf (Zz (Xm (Yw v6.length (cOf (Zz v6))))))))
def w2y :ABlk:=⟨[(.fn 111 []),(.fn 112 []),(.fn 113 [])],84,none⟩
abbrev z5u (aA:List R4):=(cvT (Zb (cvT aA)))
def msoC (l0:List R7):msoS→Cfg
 | .h0 v6 v39=>⟨⟨186,0,true⟩,none,(Zd prog 22 [1,1,1,1,0,1,0,0] 0),none,(Zy prog 15),⟨Yd [(0,(.dat l0.length (Zz l0))),(5,(.ptr 0 0)),(6,(.sla 1 1 0 v6.length (.un 1))),(37,(.dat l0.length (Zz l0))),(38,(ii (l0.length:Int))),(39,(ii v39))],Uw [w2y,⟨rows v6.length (Zz v6),3,some ⟨1,v6.length,(Zz v6)⟩⟩] 0,2,[],true⟩,[],.leaf⟩
 | .h1 bS v9 v10 bM v59 v60 aY=>⟨⟨186,0,true⟩,none,(Zd prog 22 [1,1,1,1,1,1,1,1,1,0,1,0,0] 0),none,(Zy prog 15),⟨Yd [(0,(.dat l0.length (Zz l0))),(5,(.ptr 0 0)),(6,(.sla 1 1 0 bS (.un 1))),(9,(.sla 2 6 0 v9.length (.un 6))),(10,(.dat v10.length (Zz v10))),(58,(.sla 1 1 0 bM (.un 1))),(59,(ii v59)),(60,(ii v60))],Uw [w2y,⟨rows aY.length (Zz aY),3,some ⟨1,aY.length,(Zz aY)⟩⟩,⟨rows v9.length (Zz v9),67,some ⟨6,v9.length,(Zz v9)⟩⟩] 0,3,[],true⟩,[],.leaf⟩
 | .h2 bS v9 v10 v11 v12 bM v59 v60 v67 aY aA aI=>⟨⟨186,0,true⟩,none,(Zd prog 22 [1,1,1,1,1,1,1,1,1,0,1,0,0,1,1,0,0,1,1,0,1,0,0] 0),none,(Zy prog 15),⟨Yd [(0,(.dat l0.length (Zz l0))),(5,(.ptr 0 0)),(6,(.sla 1 1 0 bS (.un 1))),(9,(.sla 5 6 0 v9.length (.un 6))),(10,(.dat v10.length (Zz v10))),(11,(ii v11)),(12,(ii v12)),(13,(.ptr 2 0)),(58,(.sla 1 1 0 bM (.un 1))),(59,(ii v59)),(60,(ii v60)),(65,(.dat l0.length (Zz l0))),(66,(ii (l0.length:Int))),(67,(ii v67))],Uw [w2y,⟨rows aY.length (Zz aY),3,some ⟨1,aY.length,(Zz aY)⟩⟩,⟨[(.sla 3 4 0 aA.length (.un 4)),(.sla 4 4 0 aI.length (.un 4))],101,none⟩,⟨rows aA.length (Zz aA),88,some ⟨4,aA.length,(Zz aA)⟩⟩,⟨rows aI.length (Zz aI),88,some ⟨4,aI.length,(Zz aI)⟩⟩,⟨rows v9.length (Zz v9),67,some ⟨6,v9.length,(Zz v9)⟩⟩] 0,6,[],true⟩,[],.leaf⟩
 | .h3 bS v9 v10 v11 v12 bM v59 v60 v132 v133 v134 aY=>⟨⟨186,0,true⟩,none,(Zd prog 22 [1,1,1,1,1,1,1,1,1,0,1,0,0,1,1,0,0,1,1,1,1,1,1,1,1,1,1,0,0] 0),none,(Zy prog 15),⟨Yd [(0,(.dat l0.length (Zz l0))),(5,(.ptr 0 0)),(6,(.sla 1 1 0 bS (.un 1))),(9,(.sla 2 6 0 v9.length (.un 6))),(10,(.dat v10.length (Zz v10))),(11,(ii v11)),(12,(ii v12)),(58,(.sla 1 1 0 bM (.un 1))),(59,(ii v59)),(60,(ii v60)),(132,(.dat v132.length (Zz v132))),(133,(ii v133)),(134,(ii v134))],Uw [w2y,⟨rows aY.length (Zz aY),3,some ⟨1,aY.length,(Zz aY)⟩⟩,⟨rows v9.length (Zz v9),67,some ⟨6,v9.length,(Zz v9)⟩⟩] 0,3,[],true⟩,[],.leaf⟩
def u9f :List (Option (List Nat)):=[some [0,5,6,37,38,39]]
def u9h :List (Option (List Nat)):=[]
def msoN1 :List (Option (List Nat)):=[some [0,5,6,9,10,58,59,60]]
def msoM1 :List (Option (List Nat)):=[]
def v2f :List (Option (List Nat)):=[some [0,5,6,9,10,11,12,13,58,59,60,65,66,67]]
def v2g :List (Option (List Nat)):=[]
def u9e :List (Option (List Nat)):=[some [0,5,6,9,10,11,12,58,59,60,132,133,134]]
def u9g :List (Option (List Nat)):=[]
def Wq (l0:List R7):msoS→Xb msoS
 | .h0 v6 v39=>(bif (decide (v39<(l0.length:Int))) then (bif ((decide (0≤v39∧v39<(l0.length:Int)))&&true) then (bif ((IntKind.wrap IntKind.u8 (Int.tdiv (rd l0 v39.toNat).a 2)) == 2) then (bif (Nat.beq 1 1&&((decide (0+v6.length=v6.length))&&decide ((v6.length+1+1)*(8+1)≤Ju))) then (.to (.h0 (v6++[(rd l0 v39.toNat).d]) (IntKind.wrap .i64 (v39+1)))) else .stuck) else (.to (.h0 v6 (IntKind.wrap .i64 (v39+1))))) else .stuck) else (bif (decide (v6.length<4611686018427387904)) then (bif (decide (v6.length=v6.length)) then (.to (.h1 (w8q (Yw v6.length (cOf (Zz (Xm (Yw v6.length (cOf (Zz v6)))))))) ([]:List R6) ([]:List R4) (w8q (Yw v6.length (cOf (Zz (Xm (Yw v6.length (cOf (Zz v6)))))))) (((w8q (Yw v6.length (cOf (Zz (Xm (Yw v6.length (cOf (Zz v6)))))))):Nat):Int) 0 (Wh (Yw v6.length (cOf (Zz (Xm (Yw v6.length (cOf (Zz v6)))))))))) else .stuck) else .stuck))
 | .h1 bS v9 v10 bM v59 v60 aY=>(bif (decide (v60<v59)) then (bif ((decide (0≤v60∧v60<((bM:Nat):Int)))&&true) then (bif (decide ((0+v60.toNat)<aY.length)) then (.to (.h2 bS v9 v10 v60 (rd aY (0+v60.toNat)) bM v59 v60 0 aY ([]:List R4) ([]:List R4))) else .stuck) else .stuck) else (bif (z7d (cvT v9)) then (bif ((Kt (cvT v9)) != 0) then (.ret [.nils,(.int .i64 28)]) else (bif (z1v (cvT (Xt (cvT v9)))) then (bif ((z4m (cvT (Xt (cvT v9)))) != 0) then (.ret [.nils,(.int .i64 28)]) else (bif (z2q (cvT (Jo (cvT (Xt (cvT v9))))) (cvT l0)) then (bif (!(y8e (cvT (Jo (cvT (Xt (cvT v9))))) (cvT l0))) then (.ret [.nils,(.int .i64 28)]) else (.ret [(.dat (Xt (cvT v9)).length (Zz (Xt (cvT v9)))),(.int .i64 0)])) else .stuck)) else .stuck)) else .stuck))
 | .h2 bS v9 v10 v11 v12 bM v59 v60 v67 aY aA aI=>(bif (decide (v67<(l0.length:Int))) then (bif ((decide (0≤v67∧v67<(l0.length:Int)))&&true) then (bif ((IntKind.wrap IntKind.u8 (Int.tdiv (rd l0 v67.toNat).a 2)) == 2) then (bif ((rd l0 v67.toNat).d == v12) then (bif (decide ((Int.tmod (rd l0 v67.toNat).a 2)=Int.ofNat 0)) then (bif (Nat.beq 4 4&&((decide (0+aA.length=aA.length))&&decide ((aA.length+1+1)*(32+1)≤Ju))) then (.to (.h2 bS v9 v10 v11 v12 bM v59 v60 (IntKind.wrap .i64 (v67+1)) aY (aA++[(R4.mk (rd l0 v67.toNat).b (rd l0 v67.toNat).c (rd l0 v67.toNat).e (rd l0 v67.toNat).f)]) aI)) else .stuck) else (bif (decide ((Int.tmod (rd l0 v67.toNat).a 2)=Int.ofNat 1)) then (bif (Nat.beq 4 4&&((decide (0+aI.length=aI.length))&&decide ((aI.length+1+1)*(32+1)≤Ju))) then (.to (.h2 bS v9 v10 v11 v12 bM v59 v60 (IntKind.wrap .i64 (v67+1)) aY aA (aI++[(R4.mk (rd l0 v67.toNat).b (rd l0 v67.toNat).c (rd l0 v67.toNat).e (rd l0 v67.toNat).f)]))) else .stuck) else .stuck)) else (.to (.h2 bS v9 v10 v11 v12 bM v59 v60 (IntKind.wrap .i64 (v67+1)) aY aA aI))) else (.to (.h2 bS v9 v10 v11 v12 bM v59 v60 (IntKind.wrap .i64 (v67+1)) aY aA aI))) else .stuck) else (bif (Uh (cvT aA)) then (bif (Uh (cvT aI)) then (bif (Qe .d (cvT v10) (cvT (Zb (cvT aA)))) then (bif (Qe .u (cvT (Wr .d (cvT v10) (cvT (Zb (cvT aA))))) (cvT (Zb (cvT aI)))) then (bif ((Xc (cvT aA)) != 0) then (.ret [.nils,(.int .i64 28)]) else (bif ((Xc (cvT aI)) != 0) then (.ret [.nils,(.int .i64 28)]) else (bif ((x3q .d (cvT v10) (cvT (Zb (cvT aA)))) != 0) then (.ret [.nils,(.int .i64 28)]) else (bif ((x3q .u (cvT (Wr .d (cvT v10) (cvT (Zb (cvT aA))))) (cvT (Zb (cvT aI)))) != 0) then (.ret [.nils,(.int .i64 28)]) else (.to (.h3 bS v9 (Wr .u (cvT (Wr .d (cvT v10) (cvT (Zb (cvT aA))))) (cvT (Zb (cvT aI)))) v11 v12 bM v59 v60 (Wr .u (cvT (Wr .d (cvT v10) (cvT (Zb (cvT aA))))) (cvT (Zb (cvT aI)))) (((Wr .u (cvT (Wr .d (cvT v10) (cvT (Zb (cvT aA))))) (cvT (Zb (cvT aI)))).length :Nat):Int) 0 aY)))))) else .stuck) else .stuck) else .stuck) else .stuck))
 | .h3 bS v9 v10 v11 v12 bM v59 v60 v132 v133 v134 aY=>(bif (decide (v134<v133)) then (bif ((decide (0≤v134∧v134<(v132.length:Int)))&&true) then (bif (decide ((IntKind.wrap .i64 (v11+1))<((bS:Nat):Int))) then (bif ((decide (0≤(IntKind.wrap .i64 (v11+1))∧(IntKind.wrap .i64 (v11+1))<((bS:Nat):Int)))&&true) then (bif (decide ((0+(Int.toNat (IntKind.wrap .i64 (v11+1))))<aY.length)) then (bif (Nat.beq 6 6&&((decide (0+v9.length=v9.length))&&decide ((v9.length+1+1)*(48+1)≤Ju))) then (.to (.h3 bS (v9++[(R6.mk (rd v132 v134.toNat).a (rd v132 v134.toNat).b v12 (rd v132 v134.toNat).c (rd v132 v134.toNat).d (rd aY (0+(Int.toNat (IntKind.wrap .i64 (v11+1))))))]) v10 v11 v12 bM v59 v60 v132 v133 (IntKind.wrap .i64 (v134+1)) aY)) else .stuck) else .stuck) else .stuck) else (.to (.h3 bS v9 v10 v11 v12 bM v59 v60 v132 v133 (IntKind.wrap .i64 (v134+1)) aY))) else .stuck) else (.to (.h1 bS v9 v10 bM v59 (IntKind.wrap .i64 (v60+1)) aY)))
def y2s (l0:List R7):Xb msoS:=(bif (Wf (cvT l0)) then (bif ((z6o (cvT l0)) != 0) then (.ret [.nils,(.int .i64 (z6o (cvT l0)))]) else (.to (.h0 ([]:List Int) 0))) else .stuck)
theorem w6e (l0:List R7): ∀s,Xv prog (Zy prog 22) (msoC l0) (msoC l0 s) (Wq l0 s)
 | .h0 v6 v39=>(lb (fun k0=>(lo fun aF=>(lb (fun k1=>(lo fun o0=>(sl Qj 39 [] ⟨[0,4],[],u9f,u9h⟩ ⟨[(6,.len (v6++[(rd l0 (tn v39)).d]).length)],[.keep,.rowed 1 (v6++[(rd l0 (tn v39)).d]).length (Zz (v6++[(rd l0 (tn v39)).d]))],[]⟩ (bl 2 3) (pp (xL (v6.length+1) (v6++[(rd l0 (tn v39)).d]).length) (pp (xL (v6.length+1) (v6++[(rd l0 (tn v39)).d]).length) (pp (xS (v6.length+1) (Zi (Zz v6) 0 v6.length 1 [(ii (rd l0 (tn v39)).d)]) (Zz (v6++[(rd l0 (tn v39)).d]))) (pp (pp (xF (Zi (Zz v6) 0 v6.length 1 [(ii (rd l0 (tn v39)).d)])) nn) (ww o0 (tt k1 (ww aF (tt k0 nn))))))))))) (fun k1=>(sl Qj 31 [] ⟨[0,1],[],u9f,u9h⟩ ⟨[],[],[]⟩ (bl 2 1) (pp (fl v6 nn) (tt k1 (ww aF (tt k0 nn))))))))) (fun k0=>(lo fun o0=>(lo fun o1=>(sl Qj 35 [(67,6,Zz ([]:List R6))] ⟨[0,1,2],[],msoN1,msoM1⟩ ⟨[(9,.grow 2 6),(10,.list 0 (Zz ([]:List R4)))],[.keep,.rowed 1 (y8w v6).length (Zz (y8w v6)),.keep],[]⟩ [false] (pp (xL v6.length (y8w v6).length (by first | exact z2a _ _ | exact Vy rfl)) (pp (xS v6.length (Zz (y8w v6)) (Zz (y8w v6))) (pp (fl (y8w v6) (fl ([]:List R6) nn)) (pp (pp (xG (Nat.beq 1 1)) (pp (xG (Nat.beq 1 1)) (pp (xG (Nat.beq 0 0)) (pp (xG (decide (v6.length=v6.length))) (pp (xG (isI (Zz (Xm (Yw v6.length (cOf (Zz v6))))))) (xG (decide (v6.length<4611686018427387904)))))))) (pp (pp (xG (Nat.beq 1 1)) (pp (xG (Nat.beq 1 1)) (pp (xG (Nat.beq 0 0)) (pp (xG (decide (v6.length=v6.length))) (pp (xG (isI (Zz v6))) (xG (decide (v6.length<4611686018427387904)))))))) (tt k0 nn)))))))))))
 | .h1 bS v9 v10 bM v59 v60 aY=>(lb (fun k0=>(lo fun o0=>(lo fun o1=>(sl Qj 30 [(88,4,Zz ([]:List R4)),(88,4,Zz ([]:List R4))] ⟨[0,1,3,4,5,2],[],v2f,v2g⟩ ⟨[],[.keep,.keep,.cells [.grow 3 4,.grow 4 4],.keep,.keep,.keep],[]⟩ [true] (pp (fl aY (fl ([]:List R4) (fl ([]:List R4) (fl v9 nn)))) (ww o1 (ww o0 (tt k0 nn)))))))) (fun k0=>(Ws (sl Qj (C':=⟨⟨186,0,true⟩,(Jk prog 22 [1,1,1,1,1,1,1,1,1,1,0] 1),(Zd prog 22 [1,1,1,1,1,1,1,1,1,1,0] 1),none,(Zy prog 15),⟨Yd [(0,(.dat l0.length (Zz l0))),(166,(.dat v9.length (Zz v9)))],Uw [] 0,0,[],true⟩,[],.leaf⟩) 10 [] ⟨[],[2],[some [0,166]],[]⟩ ⟨[(166,.frz v9.length v9.length (Zz v9) (Zz v9))],[],[]⟩ [false] (pp (xZ (z6q 6 6 0 v9.length v9.length (Zz v9)) v9.length (Zz v9)) (pp (xL v9.length v9.length) (pp (xS v9.length (Zz v9) (Zz v9)) (pp (fl v9 nn) (tt k0 nn)))))) (lo fun aF=>(lb (fun k1=>(lr 186 22 [1,1,1,1,1,1,1,1,1,1,1,0,1,0,0] 1 15 [(2,.nils),(3,(ii 28))] (sl Qj 19 [] ⟨[],[],[some [2,3]],[]⟩ ⟨[],[],[]⟩ [true] (tt k1 (pp (pp (xr v9) (xw aF)) nn))))) (fun k1=>(lo fun cG=>(lb (fun k2=>(lr 186 22 [1,1,1,1,1,1,1,1,1,1,1,1,0,1,1,0,0] 1 15 [(2,.nils),(3,(ii 28))] (sl Qj 43 [] ⟨[],[],[some [2,3]],[]⟩ ⟨[],[],[]⟩ (bl 6 62) (tt k2 (pp (pp (xI R6 (Xt (cvT v9)).length (Zz (Xt (cvT v9)))) (xw cG)) (tt k1 (pp (pp (xr v9) (xw aF)) nn))))))) (fun k2=>(lo fun cK=>(lb (fun k3=>(lr 186 22 [1,1,1,1,1,1,1,1,1,1,1,1,0,1,1,0,0] 1 15 [(2,.nils),(3,(ii 28))] (sl Qj 43 [] ⟨[],[],[some [2,3]],[]⟩ ⟨[],[],[]⟩ (bl 6 32) (tt k3 (pp (pp (xI R7 (Jo (cvT (Xt (cvT v9)))).length (Zz (Jo (cvT (Xt (cvT v9)))))) (pp (xr l0) (xw cK))) (tt k2 (pp (pp (xI R6 (Xt (cvT v9)).length (Zz (Xt (cvT v9)))) (xw cG)) (tt k1 (pp (pp (xr v9) (xw aF)) nn))))))))) (fun k3=>(lr 186 3 [1,1,1,1,1,1,1,0] 1 15 [(2,(.dat (Xt (cvT v9)).length (Zz (Xt (cvT v9))))),(3,(ii 0))] (sl Qj 45 [] ⟨[],[],[some [2,3]],[]⟩ ⟨[],[],[]⟩ (bl 6 0) (tt k3 (pp (pp (xI R7 (Jo (cvT (Xt (cvT v9)))).length (Zz (Jo (cvT (Xt (cvT v9)))))) (pp (xr l0) (xw cK))) (tt k2 (pp (pp (xI R6 (Xt (cvT v9)).length (Zz (Xt (cvT v9)))) (xw cG)) (tt k1 (pp (pp (xr v9) (xw aF)) nn))))))))))))))))))))
 | .h2 bS v9 v10 v11 v12 bM v59 v60 v67 aY aA aI=>(lb (fun k0=>(lo fun aF=>(lb (fun k1=>(lb (fun k2=>(lb (fun k3=>(lo fun o0=>(sl Qj 38 [] ⟨[0,1,2,14,4,5],[],v2f,v2g⟩ ⟨[],[.keep,.keep,.cells [.len (aA++[(z3q l0 v67)]).length,.keep],.rowed 4 (aA++[(z3q l0 v67)]).length (Zz (aA++[(z3q l0 v67)])),.keep,.keep],[]⟩ (trs 7 (bl 2 0)) (pp (xL (aA.length+1) (aA++[(z3q l0 v67)]).length) (pp (xL (aA.length+1) (aA++[(z3q l0 v67)]).length) (pp (xS (aA.length+1) (Zi (Zz aA) 0 aA.length 4 [(ii (rd l0 (tn v67)).b),(ii (rd l0 (tn v67)).c),(ii (rd l0 (tn v67)).e),(ii (rd l0 (tn v67)).f)]) (Zz (aA++[(z3q l0 v67)]))) (pp (fl aY (pp (xF (Zi (Zz aA) 0 aA.length 4 [(ii (rd l0 (tn v67)).b),(ii (rd l0 (tn v67)).c),(ii (rd l0 (tn v67)).e),(ii (rd l0 (tn v67)).f)])) (fl aI (fl v9 nn)))) (ww k3 (ww o0 (ww k3 (tt k2 (tt k1 (ww aF (tt k0 nn)))))))))))))) (fun k3=>(lb (fun k4=>(lo fun o0=>(sl Qj 38 [] ⟨[0,1,2,3,14,5],[],v2f,v2g⟩ ⟨[],[.keep,.keep,.cells [.keep,.len (aI++[(z3q l0 v67)]).length],.keep,.rowed 4 (aI++[(z3q l0 v67)]).length (Zz (aI++[(z3q l0 v67)])),.keep],[]⟩ (trs 8 (bl 3 2)) (pp (xL (aI.length+1) (aI++[(z3q l0 v67)]).length) (pp (xL (aI.length+1) (aI++[(z3q l0 v67)]).length) (pp (xS (aI.length+1) (Zi (Zz aI) 0 aI.length 4 [(ii (rd l0 (tn v67)).b),(ii (rd l0 (tn v67)).c),(ii (rd l0 (tn v67)).e),(ii (rd l0 (tn v67)).f)]) (Zz (aI++[(z3q l0 v67)]))) (pp (fl aY (fl aA (pp (xF (Zi (Zz aI) 0 aI.length 4 [(ii (rd l0 (tn v67)).b),(ii (rd l0 (tn v67)).c),(ii (rd l0 (tn v67)).e),(ii (rd l0 (tn v67)).f)])) (fl v9 nn)))) (ww k4 (ww o0 (ww k4 (tt k2 (tt k1 (ww aF (tt k0 nn)))))))))))))) (fun k4=>trivial))))) (fun k2=>(sl Qj 38 [] ⟨(List.range 6),[],v2f,v2g⟩ ⟨[],[],[]⟩ (trs 6 [false]) (pp (fl aY (fl aA (fl aI (fl v9 nn)))) (tt k2 (tt k1 (ww aF (tt k0 nn))))))))) (fun k1=>(sl Qj 38 [] ⟨(List.range 6),[],v2f,v2g⟩ ⟨[],[],[]⟩ (bl 7 1) (pp (fl aY (fl aA (fl aI (fl v9 nn)))) (tt k1 (ww aF (tt k0 nn))))))))) (fun k0=>(Ws (sl Qj (C':=⟨⟨186,0,true⟩,(Jk prog 22 [1,1,1,1,1,1,1,1,1,0,1,0,0,1,1,0,0,1,1,1,0] 2),(Zd prog 22 [1,1,1,1,1,1,1,1,1,0,1,0,0,1,1,0,0,1,1,1,0] 1),none,(Zy prog 15),⟨Yd [(0,(.dat l0.length (Zz l0))),(5,(.ptr 0 0)),(6,(.sla 1 1 0 bS (.un 1))),(9,(.sla 2 6 0 v9.length (.un 6))),(10,(.dat v10.length (Zz v10))),(11,(ii v11)),(12,(ii v12)),(13,(.ptr 3 0)),(58,(.sla 1 1 0 bM (.un 1))),(59,(ii v59)),(60,(ii v60)),(102,(.dat aA.length (Zz aA)))],Uw [⟨[(.fn 111 []),(.fn 112 []),(.fn 113 [])],84,none⟩,⟨rows aY.length (Zz aY),3,some ⟨1,aY.length,(Zz aY)⟩⟩,⟨rows v9.length (Zz v9),67,some ⟨6,v9.length,(Zz v9)⟩⟩,⟨[(.dat aA.length (Zz aA)),(.sla 4 4 0 aI.length (.un 4))],101,none⟩,⟨rows aI.length (Zz aI),88,some ⟨4,aI.length,(Zz aI)⟩⟩] 0,5,[],true⟩,[],.leaf⟩) 11 [] ⟨[0,1,5,2,4],[3],[some [0,5,6,9,10,11,12,13,58,59,60,102]],[]⟩ ⟨[(102,.frz aA.length aA.length (Zz aA) (Zz aA))],[.keep,.keep,.keep,.cells [.frz aA.length aA.length (Zz aA) (Zz aA),.keep],.keep],[]⟩ [false] (pp (xZ (z6q 4 4 0 aA.length aA.length (Zz aA)) aA.length (Zz aA)) (pp (xL aA.length aA.length) (pp (xS aA.length (Zz aA) (Zz aA)) (pp (xZ (z6q 4 4 0 aA.length aA.length (Zz aA)) aA.length (Zz aA)) (pp (xL aA.length aA.length) (pp (xS aA.length (Zz aA) (Zz aA)) (pp (fl aY (fl v9 (fl aI nn))) (pp (fl aA nn) (tt k0 nn)))))))))) (lo fun q1_0=>(Ws (sl Qj (C':=⟨⟨186,0,true⟩,(Jk prog 22 [1,1,1,1,1,1,1,1,1,0,1,0,0,1,1,0,0,1,1,1,1,0] 2),(Zd prog 22 [1,1,1,1,1,1,1,1,1,0,1,0,0,1,1,0,0,1,1,1,1,0] 1),none,(Zy prog 15),⟨Yd [(0,(.dat l0.length (Zz l0))),(5,(.ptr 0 0)),(6,(.sla 1 1 0 bS (.un 1))),(9,(.sla 2 6 0 v9.length (.un 6))),(10,(.dat v10.length (Zz v10))),(11,(ii v11)),(12,(ii v12)),(16,(.dat (Zb (cvT aA)).length (Zz (Zb (cvT aA))))),(17,(ii (Xc (cvT aA)))),(58,(.sla 1 1 0 bM (.un 1))),(59,(ii v59)),(60,(ii v60)),(108,(.dat aI.length (Zz aI)))],Uw [⟨[(.fn 111 []),(.fn 112 []),(.fn 113 [])],84,none⟩,⟨rows aY.length (Zz aY),3,some ⟨1,aY.length,(Zz aY)⟩⟩,⟨rows v9.length (Zz v9),67,some ⟨6,v9.length,(Zz v9)⟩⟩] 0,3,[],true⟩,[],.leaf⟩) 11 [] ⟨[0,1,2],[4],[some [0,5,6,9,10,11,12,16,17,58,59,60,108]],[]⟩ ⟨[(108,.frz aI.length aI.length (Zz aI) (Zz aI))],[],[]⟩ [] (pp (xZ (z6q 4 4 0 aI.length aI.length (Zz aI)) aI.length (Zz aI)) (pp (xL aI.length aI.length) (pp (xS aI.length (Zz aI) (Zz aI)) (pp (fl aY (fl v9 nn)) (pp (fl aI nn) (pp (pp (xr aA) (xw q1_0)) nn))))))) (lo fun aF=>(lo fun aW=>(lo fun bZ=>(lb (fun k1=>(lr 186 22 [1,1,1,1,1,1,1,1,1,0,1,0,0,1,1,0,0,1,1,1,1,1,1,1,0,1,0,0] 1 15 [(2,.nils),(3,(ii 28))] (sl Qj 91 [] ⟨[],[],[some [2,3]],[]⟩ ⟨[],[],[]⟩ (trs 3 []) (tt k1 (tt k1 (pp (pp (xI R4 (Wr .d (cvT v10) (z5u aA)).length (Zz (Wr .d (cvT v10) (z5u aA)))) (pp (xI R4 (Zb (cvT aI)).length (Zz (Zb (cvT aI)))) (xw bZ))) (pp (pp (xr v10) (pp (xI R4 (Zb (cvT aA)).length (Zz (Zb (cvT aA)))) (xw aW))) (pp (pp (xr aI) (xw aF)) nn)))))))) (fun k1=>(lb (fun k2=>(lr 186 22 [1,1,1,1,1,1,1,1,1,0,1,0,0,1,1,0,0,1,1,1,1,1,1,1,0,1,0,0] 1 15 [(2,.nils),(3,(ii 28))] (sl Qj 120 [] ⟨[],[],[some [2,3]],[]⟩ ⟨[],[],[]⟩ (bl 5 29) (tt k2 (tt k2 (tt k1 (pp (pp (xI R4 (Wr .d (cvT v10) (z5u aA)).length (Zz (Wr .d (cvT v10) (z5u aA)))) (pp (xI R4 (Zb (cvT aI)).length (Zz (Zb (cvT aI)))) (xw bZ))) (pp (pp (xr v10) (pp (xI R4 (Zb (cvT aA)).length (Zz (Zb (cvT aA)))) (xw aW))) (pp (pp (xr aI) (xw aF)) nn))))))))) (fun k2=>(lb (fun k3=>(lr 186 22 [1,1,1,1,1,1,1,1,1,0,1,0,0,1,1,0,0,1,1,1,1,1,1,1,0,1,0,0] 1 15 [(2,.nils),(3,(ii 28))] (sl Qj 149 [] ⟨[],[],[some [2,3]],[]⟩ ⟨[],[],[]⟩ (bl 7 117) (tt k3 (tt k3 (tt k2 (tt k1 (pp (pp (xI R4 (Wr .d (cvT v10) (z5u aA)).length (Zz (Wr .d (cvT v10) (z5u aA)))) (pp (xI R4 (Zb (cvT aI)).length (Zz (Zb (cvT aI)))) (xw bZ))) (pp (pp (xr v10) (pp (xI R4 (Zb (cvT aA)).length (Zz (Zb (cvT aA)))) (xw aW))) (pp (pp (xr aI) (xw aF)) nn)))))))))) (fun k3=>(lb (fun k4=>(lr 186 22 [1,1,1,1,1,1,1,1,1,0,1,0,0,1,1,0,0,1,1,1,1,1,1,1,0,1,0,0] 1 15 [(2,.nils),(3,(ii 28))] (sl Qj 178 [] ⟨[],[],[some [2,3]],[]⟩ ⟨[],[],[]⟩ (bl 9 469) (tt k4 (tt k4 (tt k3 (tt k2 (tt k1 (pp (pp (xI R4 (Wr .d (cvT v10) (z5u aA)).length (Zz (Wr .d (cvT v10) (z5u aA)))) (pp (xI R4 (Zb (cvT aI)).length (Zz (Zb (cvT aI)))) (xw bZ))) (pp (pp (xr v10) (pp (xI R4 (Zb (cvT aA)).length (Zz (Zb (cvT aA)))) (xw aW))) (pp (pp (xr aI) (xw aF)) nn))))))))))) (fun k4=>(sl Qj 201 [] ⟨[0,1,2],[],u9e,u9g⟩ ⟨[],[],[]⟩ (bl 10 85) (pp (fl aY (fl v9 nn)) (tt k4 (tt k3 (tt k2 (tt k1 (pp (pp (xI R4 (Wr .d (cvT v10) (z5u aA)).length (Zz (Wr .d (cvT v10) (z5u aA)))) (pp (xI R4 (Zb (cvT aI)).length (Zz (Zb (cvT aI)))) (xw bZ))) (pp (pp (xr v10) (pp (xI R4 (Zb (cvT aA)).length (Zz (Zb (cvT aA)))) (xw aW))) (pp (pp (xr aI) (xw aF)) nn)))))))))))))))))))))))))
 | .h3 bS v9 v10 v11 v12 bM v59 v60 v132 v133 v134 aY=>(lb (fun k0=>(lo fun aF=>(lb (fun k1=>(lo fun o0=>(lo fun o1=>(lo fun o2=>(sl Qj 32 [] ⟨[0,1,5],[],u9e,u9g⟩ ⟨[(9,.len (y8x v9 v132 v134 v12 aY v11).length)],[.keep,.keep,.rowed 6 (y8x v9 v132 v134 v12 aY v11).length (Zz (y8x v9 v132 v134 v12 aY v11))],[]⟩ (bl 2 3) (pp (xL (v9.length+1) (y8x v9 v132 v134 v12 aY v11).length) (pp (xL (v9.length+1) (y8x v9 v132 v134 v12 aY v11).length) (pp (xS (v9.length+1) (Zi (Zz v9) 0 v9.length 6 [(ii (rd v132 (tn v134)).a),(ii (rd v132 (tn v134)).b),(ii v12),(ii (rd v132 (tn v134)).c),(ii (rd v132 (tn v134)).d),(ii (rd aY (0+(tn (wr (v11+1))))))]) (Zz (y8x v9 v132 v134 v12 aY v11))) (pp (fl aY (pp (xF (Zi (Zz v9) 0 v9.length 6 [(ii (rd v132 (tn v134)).a),(ii (rd v132 (tn v134)).b),(ii v12),(ii (rd v132 (tn v134)).c),(ii (rd v132 (tn v134)).d),(ii (rd aY (0+(tn (wr (v11+1))))))])) nn)) (ww o2 (ww o1 (ww o0 (tt k1 (ww aF (tt k0 nn))))))))))))))) (fun k1=>(sl Qj 32 [] ⟨[0,1,2],[],u9e,u9g⟩ ⟨[],[],[]⟩ (bl 2 1) (pp (fl aY (fl v9 nn)) (tt k1 (ww aF (tt k0 nn))))))))) (fun k0=>(sl Qj 13 [] ⟨[0,1,2],[],msoN1,msoM1⟩ ⟨[],[],[]⟩ [false] (pp (fl aY (fl v9 nn)) (tt k0 nn)))))
theorem x8j (l0:List R7):Xv prog (Zy prog 22) (msoC l0) (Zc prog 22 [(.dat l0.length (Zz l0))] true []) (y2s l0):=(lo fun bV=>(lb (fun k0=>(lr 186 22 [1,0,1,1,0,0] 1 15 [(2,.nils),(3,(ii (z6o (cvT l0))))] (sl Qj 24 [] ⟨[],[],[some [2,3]],[]⟩ ⟨[],[],[]⟩ [true] (tt k0 (pp (pp (xr l0) (xw bV)) nn))))) (fun k0=>(sl Qj 52 [(3,1,Zz ([]:List Int))] ⟨[1,2],[],u9f,u9h⟩ ⟨[(6,.grow 1 1)],[],[]⟩ [false] (pp (fl ([]:List Int) nn) (tt k0 (pp (pp (xr l0) (xw bV)) nn)))))))
theorem v8r (l0:List R7) (n:Nat) (vs:List AVal) (h:Yv (Wq l0) n (y2s l0)=.ret vs):Jt prog (Zy prog 22) (Zc prog 22 [(.dat l0.length (Zz l0))] true []) vs:=by have:=Ze (w6e l0) n _ (x8j l0);rwa [h] at this
end Go.Am
namespace Go.Am
open Go.Proofs.Tryz
open Go.Proofs Go.Sort Go.Shelf Go.RowKit Go.Lib
def zQ (d:Int) (l:List R7) (z:Int):List R4:=(l.filter fun r=>decide (r.a=d)&&decide (r.d=z)).map fun r=>⟨r.b,r.c,r.e,r.f⟩
def zsQ (l:List R7):List Int:=(l.filter fun r=>decide (4≤r.a)).map (·.d)
def plZ (l:List R7):List Int:=Jj (zsQ l)
def pz6 (z z':Int) (t:R4):R6:=⟨t.a,t.b,z,t.c,t.d,z'⟩
def j2w (now e b:List R4):Bool:=(Xc e != 0)||((Xc b != 0)||((rgE .d now (Zb e) != 0)||(rgE .u (Wr .d now (Zb e)) (Zb b) != 0)))
def x1e (now e b:List R4):List R4:=Wr .u (Wr .d now (Zb e)) (Zb b)
def goP (l:List R7):List Int→List R4→List R6→Option (List R6)
 | [],_,bx=>some bx
 | z::r,now,bx=>bif j2w now (zQ 4 l z) (zQ 5 l z) then none else
  goP l r (x1e now (zQ 4 l z) (zQ 5 l z)) (bx++match r with
   | []=>[]
   | z'::_=>(x1e now (zQ 4 l z) (zQ 5 l z)).map (pz6 z z'))
def finE (l:List R7) (bx:List R6):Int:=bif Kt bx != 0 then 28 else bif z4m (Xt bx) != 0 then 28 else bif !(y8e (Jo (Xt bx)) l) then 28 else 0
def msoE (l:List R7):Int:=bif z6o l != 0 then z6o l else match goP l (plZ l) [] [] with
 | none=>28
 | some bx=>finE l bx
def msoL (l:List R7):List R6:=match goP l (plZ l) [] [] with
 | none=>[]
 | some bx=>Xt bx
def x4j (l:List R7):Int:=msoE l
def z1a (l:List R7):List R6:=x2b (msoE l) (msoL l)
def y4p (l:List R7):Bool:=Wf l
theorem y7e (l:List R7):(zsQ l).length ≤l.length:=by unfold zsQ;rw [List.length_map];exact List.length_filter_le _ _
theorem x2z (d:Int) (l:List R7) (z:Int):(zQ d l z).length ≤l.length:=by unfold zQ;rw [List.length_map];exact List.length_filter_le _ _
theorem Wn (d:Int) (l m:List R7) (z:Int):zQ d (l++m) z=zQ d l z++zQ d m z:=by unfold zQ;rw [List.filter_append,List.map_append]
theorem w4g (l m:List R7):zsQ (l++m)=zsQ l++zsQ m:=by unfold zsQ;rw [List.filter_append,List.map_append]
theorem z7z {l:List R7} (h:z6o l=0):l.length≤3000∧ ∀r∈l,w1n r=true:=by
 unfold z6o at h;by_cases g:3000<l.length
 ·rw [decide_eq_true g] at h;cases h
 ·rw [decide_eq_false g,cond_false] at h;cases q:l.all w1n with
  | false=>rw [q] at h;cases h
  | true=>exact ⟨by omega,List.all_eq_true.1 q⟩
theorem w1m {r:R7} (h:w1n r=true):r.a≤5:=by unfold w1n at h;simp only [Bool.and_eq_true,decide_eq_true_eq] at h;exact h.1
theorem u7f (l:List R6):(Xt l).length ≤400:=by
 unfold Xt x2b;cases g:(Kt l != 0) with
 | true=>exact Nat.zero_le _
 | false=>
  rw [cond_false];have h:Kt l=0:=by simpa using g
  unfold Kt at h;cases g1:decide (400<l.length) with
  | true=>rw [g1] at h;cases h
  | false=>
   cases g2:l.all Ko with
   | false=>rw [g1,g2] at h;cases h
   | true=>
    rw [g1,g2,cond_false,cond_true] at h;cases g3:okF l ((D6.cuts l).length - 1) 0 with
    | false=>rw [g3,cond_false] at h;have:=u0s _ _ g3;rw [h] at this;cases this
    | true=>rw [g3,cond_true] at h;exact x2f h
theorem u9p {L:List R6}:(Jo L).length ≤3000:=by
 unfold Jo x2b;cases g:(w3b L != 0) with
 | true=>exact Nat.zero_le _
 | false=>
  rw [cond_false];have h:w3b L=0:=by simpa using g
  unfold w3b at h;refine Classical.byContradiction fun hn=> ?_;rw [show decide (((Jr L).length :Int)>3000)=true from decide_eq_true (by omega)] at h;revert h;have z: ∀(e x:Int),x≠0→(bif e != 0 then e else x)≠0:=fun e x hx=>by
   cases q:(e != 0) with
   | true=>rw [cond_true];simpa using q
   | false=>rw [cond_false];exact hx
  exact z _ _ (z _ _ (z _ _ (z _ _ (z _ _ (z _ _ (by decide))))))
theorem six {a:Int} (h0:0≤a) (h5:a≤5):((IntKind.wrap IntKind.u8 (Int.tdiv a 2)) == 2)=decide (4≤a)∧decide (Int.tmod a 2=Int.ofNat 0)=decide (a=0∨a=2∨a=4)∧decide (Int.tmod a 2=Int.ofNat 1)=decide (a=1∨a=3∨a=5):=by
 have:a=0∨a=1∨a=2∨a=3∨a=4∨a=5:=by omega
 rcases this with rfl | rfl | rfl | rfl | rfl | rfl <;> exact ⟨rfl,rfl,rfl⟩
section
variable (l:List R7) (hl:l.length≤3000) (ha: ∀i,i<l.length→0≤(rd l i).a ∧(rd l i).a ≤5)
include hl ha
theorem u4v : ∀(k i:Nat) (acc:List Int),i+k=l.length→acc.length≤i→zsQ l=acc++zsQ (l.drop i)→
  ∃n,∀N,Yv (Wq l) (N+n) (.to (.h0 acc (i:Int)))=Yv (Wq l) N (.to (.h1 (plZ l).length [] [] (plZ l).length ((plZ l).length :Int) 0 (Wh (Xm (zsQ l)))))
 | 0,i,acc,h,h',e=>by have _u:=ha;rw [List.drop_eq_nil_of_le (by omega),show zsQ []=[] from rfl,List.append_nil] at e;subst e;refine ⟨1,fun N=> ?_⟩;rw [Zv];simp (disch:=omega) only [Wq,Wd,z0a,y0f,Yx,Yk,Yp,decide_true,cond_true,cond_false];rfl
 | k+1,i,acc,h,h',e=>by
  have hi:i<l.length:=by omega
  obtain ⟨b0,b5⟩:=ha i hi;obtain ⟨s1,_,_⟩:=six b0 b5;have e2:zsQ l=(acc++zsQ [rd l i])++zsQ (l.drop (i+1)):=by rw [List.append_assoc,←w4g,e,Ym hi];rfl
  obtain ⟨n,hn⟩:=u4v k (i+1) (acc++zsQ [rd l i]) (by omega) (by have:=y7e [rd l i];simp only [List.length_append,List.length_singleton] at*;omega) e2;refine ⟨n+1,fun N=> ?_⟩;rw [←Nat.add_assoc,Zv,←hn N];by_cases h4:4≤(rd l i).a
  ·rw [show zsQ [rd l i]=[(rd l i).d] by unfold zsQ;rw [List.filter_cons,if_pos (decide_eq_true h4)];rfl];rw [decide_eq_true h4] at s1;simp (disch:=omega) only [Wq,s1,Za,Zk,Zt,Yz,Yc,Yk,Yp,Zh,Zq,Zx,Yg,Zj,Nat.zero_add,decide_true,Bool.and_true,Bool.true_and,cond_true,cond_false]
  ·rw [show zsQ [rd l i]=[] by unfold zsQ;rw [List.filter_cons,if_neg (by simp [h4])];rfl,List.append_nil];rw [decide_eq_false h4] at s1;simp (disch:=omega) only [Wq,s1,Za,Zk,Zt,Yz,Yc,Yk,Yp,Zh,Zq,Zx,Yg,Zj,Nat.zero_add,decide_true,Bool.and_true,Bool.true_and,cond_true,cond_false]
theorem u4t (n6:Nat) (bx:List R6) (now:List R4) (v11 z:Int) (n58:Nat) (v59 v60:Int) (P:List Int): ∀(k j:Nat) (e b:List R4),j+k=l.length→e.length≤j→b.length≤j→zQ 4 l z=e++zQ 4 (l.drop j) z→zQ 5 l z=b++zQ 5 (l.drop j) z→
  ∃n,∀N,Yv (Wq l) (N+n) (.to (.h2 n6 bx now v11 z n58 v59 v60 (j:Int) P e b))=Yv (Wq l) N (bif j2w now (zQ 4 l z) (zQ 5 l z) then .ret [.nils,.int .i64 28] else
   .to (.h3 n6 bx (x1e now (zQ 4 l z) (zQ 5 l z)) v11 z n58 v59 v60 (x1e now (zQ 4 l z) (zQ 5 l z)) ((x1e now (zQ 4 l z) (zQ 5 l z)).length :Int) 0 P))
 | 0,j,e,b,h,h1,h2,e4,e5=>by
  have _u:=ha;rw [List.drop_eq_nil_of_le (by omega),show∀d,zQ d [] z=[] from fun _=>rfl,List.append_nil] at e4 e5;refine ⟨1,fun N=> ?_⟩;rw [Zv,e4,e5];have o1: ∀x,Uh x=true:=fun _=>rfl;have o2: ∀q x y,Qe q x y=true:=fun _ _ _=>rfl;simp (disch:=omega) only [Wq,Yx,Za,o1,o2,cond_true,cond_false,j2w,x1e,x3q]
  congr 1
  cases (Xc e != 0) <;> cases (Xc b != 0) <;> cases (rgE .d now (Zb e) != 0) <;> cases (rgE .u (Wr .d now (Zb e)) (Zb b) != 0) <;> rfl
 | k +1,j,e,b,h,h1,h2,e4,e5=>by
  have hj:j<l.length:=by omega
  obtain ⟨b0,b5⟩:=ha j hj;obtain ⟨s1,s2,s3⟩:=six b0 b5;have f4:zQ 4 l z=(e++zQ 4 [rd l j] z)++zQ 4 (l.drop (j+1)) z:=by rw [List.append_assoc,←Wn,e4,Ym hj];rfl
  have f5:zQ 5 l z=(b++zQ 5 [rd l j] z)++zQ 5 (l.drop (j+1)) z:=by rw [List.append_assoc,←Wn,e5,Ym hj];rfl
  obtain ⟨n,hn⟩:=u4t n6 bx now v11 z n58 v59 v60 P k (j+1) (e++zQ 4 [rd l j] z) (b++zQ 5 [rd l j] z) (by omega)
   (by have:=x2z 4 [rd l j] z;simp only [List.length_append,List.length_singleton] at*;omega) (by have:=x2z 5 [rd l j] z;simp only [List.length_append,List.length_singleton] at*;omega) f4 f5
  refine ⟨n+1,fun N=> ?_⟩;rw [←Nat.add_assoc,Zv,←hn N];have no: ∀d,¬((rd l j).a =d∧(rd l j).d =z)→zQ d [rd l j] z=[]:=fun d hn=>by unfold zQ;rw [List.filter_cons,if_neg (by simpa using hn)];rfl
  have ye: ∀d,((rd l j).a =d∧(rd l j).d =z)→zQ d [rd l j] z=[⟨(rd l j).b,(rd l j).c,(rd l j).e,(rd l j).f⟩]:=fun d hy=>by unfold zQ;rw [List.filter_cons,if_pos (by simpa using hy)];rfl
  by_cases h4:4≤(rd l j).a
  ·rw [decide_eq_true h4] at s1;by_cases hz:(rd l j).d =z
   ·have hzb:((rd l j).d == z)=true:=(by simpa using hz);by_cases h44:(rd l j).a =4
    ·replace s2:=s2.trans (decide_eq_true (p:=(rd l j).a =0∨(rd l j).a =2∨(rd l j).a =4) (by omega))
     rw [ye 4 ⟨h44,hz⟩,no 5 (by omega),List.append_nil];simp (disch:=omega) only [Wq,s1,s2,hzb,Za,Zk,Zt,Yz,Yc,Yk,Yp,Zh,Zq,Zx,Yg,Zj,Nat.zero_add,decide_true,Bool.and_true,Bool.true_and,cond_true,cond_false]
    ·replace s2:=s2.trans (decide_eq_false (p:=(rd l j).a =0∨(rd l j).a =2∨(rd l j).a =4) (by omega))
     replace s3:=s3.trans (decide_eq_true (p:=(rd l j).a =1∨(rd l j).a =3∨(rd l j).a =5) (by omega))
     rw [ye 5 ⟨by omega,hz⟩,no 4 (by omega),List.append_nil];simp (disch:=omega) only [Wq,s1,s2,s3,hzb,Za,Zk,Zt,Yz,Yc,Yk,Yp,Zh,Zq,Zx,Yg,Zj,Nat.zero_add,decide_true,Bool.and_true,Bool.true_and,cond_true,cond_false]
   ·have hzb:((rd l j).d == z)=false:=(by simpa using hz);rw [no 5 (fun g=>hz g.2),no 4 (fun g=>hz g.2),List.append_nil,List.append_nil];simp (disch:=omega) only [Wq,s1,hzb,Za,Zk,Zt,Yz,Yc,Yk,Yp,Zh,Zq,Zx,Yg,Zj,Nat.zero_add,decide_true,Bool.and_true,Bool.true_and,cond_true,cond_false]
  ·rw [decide_eq_false h4] at s1;rw [no 5 (by omega),no 4 (by omega),List.append_nil,List.append_nil];simp (disch:=omega) only [Wq,s1,Za,Zk,Zt,Yz,Yc,Yk,Yp,Zh,Zq,Zx,Yg,Zj,Nat.zero_add,decide_true,Bool.and_true,Bool.true_and,cond_true,cond_false]
theorem v2e (n6:Nat) (hn6:n6≤3000) (now:List R4) (i:Nat) (hi:i<n6) (z:Int) (v59:Int) (R:List R4) (hR:R.length≤400) (P:List Int) (hP:n6≤P.length): ∀(k j:Nat) (bx:List R6),j+k=R.length→bx.length≤2000000+j→
  ∃n,∀N,Yv (Wq l) (N+n) (.to (.h3 n6 bx now (i:Int) z n6 v59 (i:Int) R (R.length:Int) (j:Int) P))=Yv (Wq l) N (.to (.h1 n6 (bx++bif decide (i+1<n6) then (R.drop j).map (pz6 z (rd P (i+1))) else []) now n6 v59 ((i+1:Nat):Int) P))
 | 0,j,bx,h,h'=>by have _u:=ha;have _v:=hl;refine ⟨1,fun N=> ?_⟩;rw [List.drop_eq_nil_of_le (by omega),List.map_nil,show (bif decide (i+1<n6) then ([]:List R6) else [])=[] by cases decide (i+1<n6) <;> rfl,List.append_nil,Zv];simp (disch:=omega) only [Wq,Yx,Zq,Zx,cond_false]
 | k+1,j,bx,h,h'=>by
  have hj:j<R.length:=by omega
  have ew:IntKind.wrap .i64 ((i:Int)+1)=((i+1:Nat):Int):=by rw [Zq (by omega)];exact Zx i
  by_cases g:i+1<n6
  ·obtain ⟨n,hn⟩:=v2e n6 hn6 now i hi z v59 R hR P hP k (j+1) (bx++[pz6 z (rd P (i+1)) (rd R j)]) (by omega) (by simp only [List.length_append,List.length_singleton];omega);refine ⟨n+1,fun N=> ?_⟩;rw [decide_eq_true g,cond_true] at hn;rw [decide_eq_true g,cond_true,Ym hj,List.map_cons,←Nat.add_assoc,Zv,show bx++pz6 z (rd P (i+1)) (rd R j)::(R.drop (j+1)).map (pz6 z (rd P (i+1)))=(bx++[pz6 z (rd P (i+1)) (rd R j)])++(R.drop (j+1)).map (pz6 z (rd P (i+1))) by simp,←hn N];simp (disch:=omega) only [Wq,ew,Za,Zk,Zt,Yz,Yc,Yk,Yp,Zh,Zq,Zx,Yg,Zj,Nat.zero_add,decide_true,Bool.and_true,Bool.true_and,cond_true,cond_false];rfl
  ·obtain ⟨n,hn⟩:=v2e n6 hn6 now i hi z v59 R hR P hP k (j+1) bx (by omega) (by omega);refine ⟨n+1,fun N=> ?_⟩;rw [decide_eq_false g,cond_false] at hn;rw [decide_eq_false g,cond_false,←Nat.add_assoc,Zv,←hn N];simp (disch:=omega) only [Wq,ew,Yx,Za,Zk,Zt,Yz,Zq,Zx,Zj,Bool.and_true,cond_true,cond_false]
def resR (l:List R7):Option (List R6)→List AVal
 | none=>[.nils,.int .i64 28]
 | some bx=>y4h (finE l bx) (Xt bx)
theorem u4u : ∀(k i:Nat) (now:List R4) (bx:List R6),i+k=(plZ l).length →bx.length≤400*i→
  ∃n,Yv (Wq l) n (.to (.h1 (plZ l).length bx now (plZ l).length ((plZ l).length :Int) (i:Int) (Wh (Xm (zsQ l)))))=.ret (resR l (goP l ((plZ l).drop i) now bx))
 | 0,i,now,bx,h,hb=>by have _u:=ha;have _v:=hl;rw [List.drop_eq_nil_of_le (show (plZ l).length ≤i by omega)];have o2:z1v (Xt bx)=true:=decide_eq_true (u7f bx);have o3:z2q (Jo (Xt bx)) l=true:=decide_eq_true (by have:=u9p (L:=Xt bx);omega);refine ⟨1,?_⟩;rw [Zv];simp (disch:=omega) only [Wq,Yx,Za,show∀x,z7d x=true from fun _=>rfl,o2,o3,cond_true,cond_false];show Yv (Wq l) 0 _=.ret (y4h (finE l bx) (Xt bx));unfold finE y4h;cases (Kt bx != 0) <;> cases (z4m (Xt bx) != 0) <;> cases (y8e (Jo (Xt bx)) l) <;> rfl
 | k +1,i,now,bx,h,hb=>by
  have hi:i<(plZ l).length :=by omega
  have hp:(plZ l).length ≤3000:=Nat.le_trans (z3e _) (Nat.le_trans (y7e l) hl);have hpl:(Wh (Xm (zsQ l))).length =(zsQ l).length :=by rw [Uo,Ww]
  have hcl:(plZ l).length ≤(zsQ l).length :=z3e _;have r0:rd (Wh (Xm (zsQ l))) i=rd (plZ l) i:=z4h _ _ hi;obtain ⟨n2,h2⟩:=u4t l hl ha (plZ l).length bx now (i:Int) (rd (plZ l) i) (plZ l).length ((plZ l).length :Int) (i:Int) (Wh (Xm (zsQ l))) l.length 0 [] [] (Nat.zero_add _) (Nat.le_refl _) (Nat.le_refl _) rfl rfl;have st: ∀N,Yv (Wq l) (N+n2+1) (.to (.h1 (plZ l).length bx now (plZ l).length ((plZ l).length :Int) (i:Int) (Wh (Xm (zsQ l)))))=Yv (Wq l) N (bif j2w now (zQ 4 l (rd (plZ l) i)) (zQ 5 l (rd (plZ l) i)) then .ret [.nils,.int .i64 28] else
    .to (.h3 (plZ l).length bx (x1e now (zQ 4 l (rd (plZ l) i)) (zQ 5 l (rd (plZ l) i))) (i:Int) (rd (plZ l) i) (plZ l).length ((plZ l).length :Int) (i:Int) (x1e now (zQ 4 l (rd (plZ l) i)) (zQ 5 l (rd (plZ l) i))) ((x1e now (zQ 4 l (rd (plZ l) i)) (zQ 5 l (rd (plZ l) i))).length :Int) 0 (Wh (Xm (zsQ l))))):=fun N=>by
   rw [←h2 N,Zv];simp (disch:=omega) only [Wq,r0,Za,Zt,Yz,Yk,Zj,Nat.zero_add,decide_true,Bool.and_true,cond_true,cond_false];rfl
  rw [Ym hi];rcases Ye (j2w now (zQ 4 l (rd (plZ l) i)) (zQ 5 l (rd (plZ l) i))) with g | g
  ·refine ⟨0+n2+1,?_⟩;rw [st 0,g,cond_true,Zm];unfold goP;rw [g];rfl
  ·have hn4:(x1e now (zQ 4 l (rd (plZ l) i)) (zQ 5 l (rd (plZ l) i))).length ≤400:=u3q;obtain ⟨n3,h3⟩:=v2e l hl ha (plZ l).length hp (x1e now (zQ 4 l (rd (plZ l) i)) (zQ 5 l (rd (plZ l) i))) i hi (rd (plZ l) i) ((plZ l).length :Int) (x1e now (zQ 4 l (rd (plZ l) i)) (zQ 5 l (rd (plZ l) i))) hn4 (Wh (Xm (zsQ l))) (by omega) (x1e now (zQ 4 l (rd (plZ l) i)) (zQ 5 l (rd (plZ l) i))).length 0 bx (Nat.zero_add _) (by omega);rw [List.drop_zero] at h3;obtain ⟨n,hn⟩:=u4u k (i+1) (x1e now (zQ 4 l (rd (plZ l) i)) (zQ 5 l (rd (plZ l) i))) (bx++bif decide (i+1<(plZ l).length) then (x1e now (zQ 4 l (rd (plZ l) i)) (zQ 5 l (rd (plZ l) i))).map (pz6 (rd (plZ l) i) (rd (Wh (Xm (zsQ l))) (i+1))) else []) (by omega) (by
    rw [List.length_append];cases decide (i+1<(plZ l).length) with
    | true=>rw [cond_true,List.length_map];omega
    | false=>rw [cond_false,List.length_nil];omega)
   refine ⟨n+n3+n2+1,?_⟩;rw [st (n+n3),g,cond_false];refine (h3 n).trans (hn.trans ?_);have em:(bif decide (i+1<(plZ l).length) then (x1e now (zQ 4 l (rd (plZ l) i)) (zQ 5 l (rd (plZ l) i))).map (pz6 (rd (plZ l) i) (rd (Wh (Xm (zsQ l))) (i+1))) else [])=(match (plZ l).drop (i+1) with
     | []=>[]
     | z'::_=>(x1e now (zQ 4 l (rd (plZ l) i)) (zQ 5 l (rd (plZ l) i))).map (pz6 (rd (plZ l) i) z')):=by
    by_cases q:i+1<(plZ l).length
    ·rw [decide_eq_true q,cond_true,Ym q,z4h _ _ q];rfl
    ·rw [decide_eq_false q,cond_false,List.drop_eq_nil_of_le (by omega)]
   rw [em]
   conv=>rhs;unfold goP
   rw [g,cond_false]
end
theorem u9d (l:List R7) (h:y4p l=true): ∃n,Yv (Wq l) n (y2s l)=.ret (y4h (x4j l) (msoL l)):=by
 unfold y2s x4j msoE;simp only [Za,show Wf l=true from h,cond_true];rcases Ye (z6o l != 0) with q | q
 ·refine ⟨0,?_⟩;rw [q,cond_true,cond_true,z2u _ q];rfl
 ·rw [q,cond_false,cond_false];obtain ⟨hl,hv⟩:=z7z (l:=l) (by simpa using q);have ha: ∀i,i<l.length→0≤(rd l i).a ∧(rd l i).a ≤5:=fun i hi=>by
   have hm:rd l i∈l:=by rw [Xy hi];exact List.getElem_mem hi
   have:=List.all_eq_true.1 h _ hm;simp only [Bool.and_eq_true,decide_eq_true_eq] at this;exact ⟨this.1,w1m (hv _ hm)⟩
  obtain ⟨n0,h0⟩:=u4v l hl ha l.length 0 [] (Nat.zero_add _) (Nat.le_refl _) rfl;obtain ⟨n1,h1⟩:=u4u l hl ha (plZ l).length 0 [] [] (Nat.zero_add _) (Nat.le_refl _);refine ⟨n1+n0,?_⟩;refine (h0 n1).trans (h1.trans ?_);rw [List.drop_zero];unfold msoL;cases goP l (plZ l) [] [] with
  | none=>rfl
  | some bx=>rfl
def fMso :List AVal→Option (AVal×Bool)
 | [a0]=>match asL R7 a0 with
  | some (L0,g0,n0)=>some (.tup [.dat (z1a L0).length (Zz (z1a L0)),.int .i64 (x4j L0)],isT R7 n0 g0&&(y4p L0))
  | _=>none
 | _=>none
theorem j1k {S:Specs} (hS:Zu prog S):Zu prog (S.with v2a fMso):=by
 refine v3z hS (by kernel_rfl) fun args v h=> ?_;unfold fMso at h;split at h
 ·rename_i a0;split at h
  ·rename_i L0 g0 n0 e0;simp only [Option.some.injEq,Prod.mk.injEq,Bool.and_eq_true] at h;obtain ⟨rfl,ho0,hw⟩:=h;obtain ⟨N,hN⟩:=u9d L0 hw;exact ⟨_,_,(.cons (asL_le e0 ho0) .nil),z5d _ _,v8r L0 N _ hN,3,z9j _ _⟩
  ·cases h
 ·cases h
def Mi :Specs:=(Mh.with v2a fMso)
theorem Qu :Zu prog Mi:=(j1k Qj)
end Go.Am
namespace Go.Am
open Go.Proofs.Tryz
open Go.Proofs
-- start: index into an array (choices [false, false, false])
inductive marS where
def marC (aM:Int) (aL:Int) (aN:Int) (aV:Int) (bF:Int) (bG:Int) (cN:Int):marS→Cfg
 :=nofun
def x8t (aM:Int) (aL:Int) (aN:Int) (aV:Int) (bF:Int) (bG:Int) (cN:Int):marS→Xb marS
 :=nofun
def y2y (aM:Int) (aL:Int) (aN:Int) (aV:Int) (bF:Int) (bG:Int) (cN:Int):Xb marS:=(bif (decide ((IntKind.wrap IntKind.u8 (Int.tdiv aM 2))=Int.ofNat 0)) then (.ret [(.int .i64 (IntKind.wrap .i64 ((IntKind.wrap .i64 (bG - aN))*(IntKind.wrap .i64 (cN - aV)))))]) else (bif (decide ((IntKind.wrap IntKind.u8 (Int.tdiv aM 2))=Int.ofNat 1)) then (.ret [(.int .i64 (IntKind.wrap .i64 ((IntKind.wrap .i64 (bF - aL))*(IntKind.wrap .i64 (cN - aV)))))]) else (bif (decide ((IntKind.wrap IntKind.u8 (Int.tdiv aM 2))=Int.ofNat 2)) then (.ret [(.int .i64 (IntKind.wrap .i64 ((IntKind.wrap .i64 (bF - aL))*(IntKind.wrap .i64 (bG - aN)))))]) else .stuck)))
theorem w6o (aM:Int) (aL:Int) (aN:Int) (aV:Int) (bF:Int) (bG:Int) (cN:Int): ∀s,Xv prog (Zy prog 91) (marC aM aL aN aV bF bG cN) (marC aM aL aN aV bF bG cN s) (x8t aM aL aN aV bF bG cN s)
 :=nofun
theorem x8u (aM:Int) (aL:Int) (aN:Int) (aV:Int) (bF:Int) (bG:Int) (cN:Int):Xv prog (Zy prog 91) (marC aM aL aN aV bF bG cN) (Zc prog 91 [(.agg [(.int .u8 aM),(.int .i64 aL),(.int .i64 aN),(.int .i64 aV),(.int .i64 bF),(.int .i64 bG),(.int .i64 cN)])] true []) (y2y aM aL aN aV bF bG cN):=(lb (fun k0=>(lr 25 3 [1,1,1,1,1,1,1,0] 1 3 [(2,(ii (wr ((wr (bG - aN))*(wr (cN - aV))))))] (sl Qu 22 [] ⟨[],[],[some [2]],[]⟩ ⟨[],[],[]⟩ [false] (ww k0 nn)))) (fun k0=>(lb (fun k1=>(lr 25 3 [1,1,1,1,1,1,1,0] 1 3 [(2,(ii (wr ((wr (bF - aL))*(wr (cN - aV))))))] (sl Qu 22 [] ⟨[],[],[some [2]],[]⟩ ⟨[],[],[]⟩ [true,false] (ww k1 nn)))) (fun k1=>(lb (fun k2=>(lr 25 3 [1,1,1,1,1,1,1,0] 1 3 [(2,(ii (wr ((wr (bF - aL))*(wr (bG - aN))))))] (sl Qu 22 [] ⟨[],[],[some [2]],[]⟩ ⟨[],[],[]⟩ [true,true,false] (ww k2 nn)))) (fun k2=>trivial))))))
theorem v9i (aM:Int) (aL:Int) (aN:Int) (aV:Int) (bF:Int) (bG:Int) (cN:Int) (n:Nat) (vs:List AVal) (h:Yv (x8t aM aL aN aV bF bG cN) n (y2y aM aL aN aV bF bG cN)=.ret vs):Jt prog (Zy prog 91) (Zc prog 91 [(.agg [(.int .u8 aM),(.int .i64 aL),(.int .i64 aN),(.int .i64 aV),(.int .i64 bF),(.int .i64 bG),(.int .i64 cN)])] true []) vs:=by have:=Ze (w6o aM aL aN aV bF bG cN) n _ (x8u aM aL aN aV bF bG cN);rwa [h] at this
end Go.Am
namespace Go.Am
open Go.Proofs.Tryz
open Go.Proofs Go.Sort Go.Shelf Go.RowKit Go.Lib
def w6p (a b c d e f g:Int):Int:=IntKind.wrap .i64 (if a<2 then IntKind.wrap .i64 (f - c)*IntKind.wrap .i64 (g - d) else if a<4 then IntKind.wrap .i64 (e - b)*IntKind.wrap .i64 (g - d) else IntKind.wrap .i64 (e - b)*IntKind.wrap .i64 (f - c))
def Vt (a b c d e f g:Int):Bool:=decide (0≤a)&&decide (a≤5)
theorem j0a (a b c d e f g:Int) (h:Vt a b c d e f g=true): ∃N,Yv (x8t a b c d e f g) N (y2y a b c d e f g)=.ret [.int .i64 (w6p a b c d e f g)]:=⟨0,by
 simp only [Vt,Bool.and_eq_true,decide_eq_true_eq] at h;unfold y2y w6p;have:a=0∨a=1∨a=2∨a=3∨a=4∨a=5:=by omega
 rcases this with rfl | rfl | rfl | rfl | rfl | rfl <;> rfl⟩
def fMar :List AVal→Option (AVal×Bool)
 | [.agg [.int .u8 a,.int .i64 b,.int .i64 c,.int .i64 d,.int .i64 e,.int .i64 f,.int .i64 g]]=>some (.int .i64 (w6p a b c d e f g),Vt a b c d e f g)
 | _=>none
theorem j1s {S:Specs} (hS:Zu prog S):Zu prog (S.with u4i fMar):=by
 refine z2d hS (by kernel_rfl) fun args v h=> ?_;unfold fMar at h;split at h
 ·rename_i a b c d e f g;simp only [Option.some.injEq,Prod.mk.injEq] at h;obtain ⟨rfl,hw⟩:=h;obtain ⟨N,hN⟩:=j0a a b c d e f g hw;exact ⟨_,_,(.cons (.refl _) .nil),rfl,v9i a b c d e f g N _ hN,3,rfl⟩
 ·cases h
def Mm :Specs:=Mi.with u4i fMar
theorem z3w :Zu prog Mm:=j1s Qu
end Go.Am
namespace Go.Am
open Go.Proofs.Tryz
open Go.Proofs
inductive mArS where
 | h0 (v5:Int) (v15:Int)
def mArC (l0:List R7):mArS→Cfg
 | .h0 v5 v15=>⟨⟨25,0,true⟩,none,(Zd prog 45 [1,1,1,0,1,0,0] 0),none,(Zy prog 15),⟨Yd [(5,(ii v5)),(13,(.dat l0.length (Zz l0))),(14,(ii (l0.length:Int))),(15,(ii v15))],Uw [] 0,0,[],true⟩,[],.leaf⟩
def mArN0 :List (Option (List Nat)):=[some [5,13,14,15]]
def mArM0 :List (Option (List Nat)):=[]
def z9t (l0:List R7):mArS→Xb mArS
 | .h0 v5 v15=>(bif (decide (v15<(l0.length:Int))) then (bif ((decide (0≤v15∧v15<(l0.length:Int)))&&true) then (bif (Vt (rd l0 v15.toNat).a (rd l0 v15.toNat).b (rd l0 v15.toNat).c (rd l0 v15.toNat).d (rd l0 v15.toNat).e (rd l0 v15.toNat).f (rd l0 v15.toNat).g) then (.to (.h0 (IntKind.wrap .i64 (v5+(w6p (rd l0 v15.toNat).a (rd l0 v15.toNat).b (rd l0 v15.toNat).c (rd l0 v15.toNat).d (rd l0 v15.toNat).e (rd l0 v15.toNat).f (rd l0 v15.toNat).g))) (IntKind.wrap .i64 (v15+1)))) else .stuck) else .stuck) else (.ret [(.int .i64 v5),(.int .i64 0)]))
def y3a (l0:List R7):Xb mArS:=(bif (Wf (cvT l0)) then (bif ((z6o (cvT l0)) != 0) then (.ret [(.int .i64 0),(.int .i64 (z6o (cvT l0)))]) else (.to (.h0 0 0))) else .stuck)
theorem w6s (l0:List R7): ∀s,Xv prog (Zy prog 45) (mArC l0) (mArC l0 s) (z9t l0 s)
 | .h0 v5 v15=>(lb (fun k0=>(lo fun o0=>(lo fun o1=>(sl z3w 29 [] ⟨[],[],mArN0,mArM0⟩ ⟨[],[],[]⟩ [true] (ww o1 (ww o0 (tt k0 nn))))))) (fun k0=>(lr 25 3 [1,1,1,1,1,1,1,0] 1 15 [(2,(ii v5)),(3,(ii 0))] (sl z3w 13 [] ⟨[],[],[some [2,3]],[]⟩ ⟨[],[],[]⟩ [false] (tt k0 nn)))))
theorem x8y (l0:List R7):Xv prog (Zy prog 45) (mArC l0) (Zc prog 45 [(.dat l0.length (Zz l0))] true []) (y3a l0):=(lo fun bV=>(lb (fun k0=>(lr 25 45 [1,0,1,1,0,0] 1 15 [(2,(ii 0)),(3,(ii (z6o (cvT l0))))] (sl z3w 24 [] ⟨[],[],[some [2,3]],[]⟩ ⟨[],[],[]⟩ [true] (tt k0 (pp (pp (xr l0) (xw bV)) nn))))) (fun k0=>(sl z3w 32 [] ⟨[],[],mArN0,mArM0⟩ ⟨[],[],[]⟩ [false] (tt k0 (pp (pp (xr l0) (xw bV)) nn))))))
theorem v9p (l0:List R7) (n:Nat) (vs:List AVal) (h:Yv (z9t l0) n (y3a l0)=.ret vs):Jt prog (Zy prog 45) (Zc prog 45 [(.dat l0.length (Zz l0))] true []) vs:=by have:=Ze (w6s l0) n _ (x8y l0);rwa [h] at this
-- h0: index into an array (choices [true, false, false, false])
inductive mVoS where
 | h0 (v7:Int) (v24:Int)
def mVoC (l0:List R7) (x1:Int):mVoS→Cfg
 | .h0 v7 v24=>⟨⟨61,0,true⟩,none,(Zd prog 46 [1,1,1,1,0,1,0,0] 0),none,(Zy prog 28),⟨Yd [(1,(ii x1)),(7,(ii v7)),(22,(.dat l0.length (Zz l0))),(23,(ii (l0.length:Int))),(24,(ii v24))],Uw [] 0,0,[],true⟩,[],.leaf⟩
def y6x :List (Option (List Nat)):=[some [1,7,22,23,24]]
def y6y :List (Option (List Nat)):=[]
def z9s (l0:List R7) (x1:Int):mVoS→Xb mVoS
 | .h0 v7 v24=>(bif (decide (v24<(l0.length:Int))) then (bif ((decide (0≤v24∧v24<(l0.length:Int)))&&true) then (bif (decide (x1=Int.ofNat 0)) then (bif ((IntKind.wrap .i64 (rd l0 v24.toNat).a) == (IntKind.wrap .i64 (2*x1))) then (bif (Vt (rd l0 v24.toNat).a (rd l0 v24.toNat).b (rd l0 v24.toNat).c (rd l0 v24.toNat).d (rd l0 v24.toNat).e (rd l0 v24.toNat).f (rd l0 v24.toNat).g) then (.to (.h0 (IntKind.wrap .i64 (v7+(IntKind.wrap .i64 ((w6p (rd l0 v24.toNat).a (rd l0 v24.toNat).b (rd l0 v24.toNat).c (rd l0 v24.toNat).d (rd l0 v24.toNat).e (rd l0 v24.toNat).f (rd l0 v24.toNat).g)*(rd l0 v24.toNat).b)))) (IntKind.wrap .i64 (v24+1)))) else .stuck) else (bif ((IntKind.wrap .i64 (rd l0 v24.toNat).a) == (IntKind.wrap .i64 ((IntKind.wrap .i64 (2*x1))+1))) then (bif (Vt (rd l0 v24.toNat).a (rd l0 v24.toNat).b (rd l0 v24.toNat).c (rd l0 v24.toNat).d (rd l0 v24.toNat).e (rd l0 v24.toNat).f (rd l0 v24.toNat).g) then (.to (.h0 (IntKind.wrap .i64 (v7 - (IntKind.wrap .i64 ((w6p (rd l0 v24.toNat).a (rd l0 v24.toNat).b (rd l0 v24.toNat).c (rd l0 v24.toNat).d (rd l0 v24.toNat).e (rd l0 v24.toNat).f (rd l0 v24.toNat).g)*(rd l0 v24.toNat).b)))) (IntKind.wrap .i64 (v24+1)))) else .stuck) else (.to (.h0 v7 (IntKind.wrap .i64 (v24+1)))))) else (bif (decide (x1=Int.ofNat 1)) then (bif ((IntKind.wrap .i64 (rd l0 v24.toNat).a) == (IntKind.wrap .i64 (2*x1))) then (bif (Vt (rd l0 v24.toNat).a (rd l0 v24.toNat).b (rd l0 v24.toNat).c (rd l0 v24.toNat).d (rd l0 v24.toNat).e (rd l0 v24.toNat).f (rd l0 v24.toNat).g) then (.to (.h0 (IntKind.wrap .i64 (v7+(IntKind.wrap .i64 ((w6p (rd l0 v24.toNat).a (rd l0 v24.toNat).b (rd l0 v24.toNat).c (rd l0 v24.toNat).d (rd l0 v24.toNat).e (rd l0 v24.toNat).f (rd l0 v24.toNat).g)*(rd l0 v24.toNat).c)))) (IntKind.wrap .i64 (v24+1)))) else .stuck) else (bif ((IntKind.wrap .i64 (rd l0 v24.toNat).a) == (IntKind.wrap .i64 ((IntKind.wrap .i64 (2*x1))+1))) then (bif (Vt (rd l0 v24.toNat).a (rd l0 v24.toNat).b (rd l0 v24.toNat).c (rd l0 v24.toNat).d (rd l0 v24.toNat).e (rd l0 v24.toNat).f (rd l0 v24.toNat).g) then (.to (.h0 (IntKind.wrap .i64 (v7 - (IntKind.wrap .i64 ((w6p (rd l0 v24.toNat).a (rd l0 v24.toNat).b (rd l0 v24.toNat).c (rd l0 v24.toNat).d (rd l0 v24.toNat).e (rd l0 v24.toNat).f (rd l0 v24.toNat).g)*(rd l0 v24.toNat).c)))) (IntKind.wrap .i64 (v24+1)))) else .stuck) else (.to (.h0 v7 (IntKind.wrap .i64 (v24+1)))))) else (bif (decide (x1=Int.ofNat 2)) then (bif ((IntKind.wrap .i64 (rd l0 v24.toNat).a) == (IntKind.wrap .i64 (2*x1))) then (bif (Vt (rd l0 v24.toNat).a (rd l0 v24.toNat).b (rd l0 v24.toNat).c (rd l0 v24.toNat).d (rd l0 v24.toNat).e (rd l0 v24.toNat).f (rd l0 v24.toNat).g) then (.to (.h0 (IntKind.wrap .i64 (v7+(IntKind.wrap .i64 ((w6p (rd l0 v24.toNat).a (rd l0 v24.toNat).b (rd l0 v24.toNat).c (rd l0 v24.toNat).d (rd l0 v24.toNat).e (rd l0 v24.toNat).f (rd l0 v24.toNat).g)*(rd l0 v24.toNat).d)))) (IntKind.wrap .i64 (v24+1)))) else .stuck) else (bif ((IntKind.wrap .i64 (rd l0 v24.toNat).a) == (IntKind.wrap .i64 ((IntKind.wrap .i64 (2*x1))+1))) then (bif (Vt (rd l0 v24.toNat).a (rd l0 v24.toNat).b (rd l0 v24.toNat).c (rd l0 v24.toNat).d (rd l0 v24.toNat).e (rd l0 v24.toNat).f (rd l0 v24.toNat).g) then (.to (.h0 (IntKind.wrap .i64 (v7 - (IntKind.wrap .i64 ((w6p (rd l0 v24.toNat).a (rd l0 v24.toNat).b (rd l0 v24.toNat).c (rd l0 v24.toNat).d (rd l0 v24.toNat).e (rd l0 v24.toNat).f (rd l0 v24.toNat).g)*(rd l0 v24.toNat).d)))) (IntKind.wrap .i64 (v24+1)))) else .stuck) else (.to (.h0 v7 (IntKind.wrap .i64 (v24+1)))))) else .stuck))) else .stuck) else (.ret [(.int .i64 v7),(.int .i64 0)]))
def y2z (l0:List R7) (x1:Int):Xb mVoS:=(bif (Wf (cvT l0)) then (bif ((z6o (cvT l0)) != 0) then (.ret [(.int .i64 0),(.int .i64 (z6o (cvT l0)))]) else (bif (decide (x1<0)) then (.ret [(.int .i64 0),(.int .i64 2)]) else (bif (decide (x1>2)) then (.ret [(.int .i64 0),(.int .i64 2)]) else (.to (.h0 0 0))))) else .stuck)
theorem w6r (l0:List R7) (x1:Int): ∀s,Xv prog (Zy prog 46) (mVoC l0 x1) (mVoC l0 x1 s) (z9s l0 x1 s)
 | .h0 v7 v24=>(lb (fun k0=>(lo fun aF=>(lb (fun k1=>(lb (fun k2=>(lo fun o0=>(sl z3w 49 [] ⟨[],[],y6x,y6y⟩ ⟨[],[],[]⟩ (bl 3 5) (ww o0 (tt k2 (ww k1 (ww aF (tt k0 nn)))))))) (fun k2=>(lb (fun k3=>(lo fun o0=>(sl z3w 58 [] ⟨[],[],y6x,y6y⟩ ⟨[],[],[]⟩ (bl 4 9) (ww o0 (tt k3 (tt k2 (ww k1 (ww aF (tt k0 nn))))))))) (fun k3=>(sl z3w 50 [] ⟨[],[],y6x,y6y⟩ ⟨[],[],[]⟩ (bl 4 1) (tt k3 (tt k2 (ww k1 (ww aF (tt k0 nn))))))))))) (fun k1=>(lb (fun k2=>(lb (fun k3=>(lo fun o0=>(sl z3w 49 [] ⟨[],[],y6x,y6y⟩ ⟨[],[],[]⟩ (bl 4 11) (ww o0 (tt k3 (ww k2 (ww aF (tt k0 nn)))))))) (fun k3=>(lb (fun k4=>(lo fun o0=>(sl z3w 58 [] ⟨[],[],y6x,y6y⟩ ⟨[],[],[]⟩ (bl 5 19) (ww o0 (tt k4 (tt k3 (ww k2 (ww aF (tt k0 nn))))))))) (fun k4=>(sl z3w 50 [] ⟨[],[],y6x,y6y⟩ ⟨[],[],[]⟩ (bl 5 3) (tt k4 (tt k3 (ww k2 (ww aF (tt k0 nn))))))))))) (fun k2=>(lb (fun k3=>(lb (fun k4=>(lo fun o0=>(sl z3w 49 [] ⟨[],[],y6x,y6y⟩ ⟨[],[],[]⟩ (trs 3 (bl 2 2)) (ww o0 (tt k4 (ww k3 (ww aF (tt k0 nn)))))))) (fun k4=>(lb (fun k5=>(lo fun o0=>(sl z3w 58 [] ⟨[],[],y6x,y6y⟩ ⟨[],[],[]⟩ (trs 3 (bl 3 4)) (ww o0 (tt k5 (tt k4 (ww k3 (ww aF (tt k0 nn))))))))) (fun k5=>(sl z3w 50 [] ⟨[],[],y6x,y6y⟩ ⟨[],[],[]⟩ (trs 3 (bl 3 0)) (tt k5 (tt k4 (ww k3 (ww aF (tt k0 nn))))))))))) (fun k3=>trivial)))))))) (fun k0=>(lr 61 3 [1,1,1,1,1,1,1,0] 1 28 [(4,(ii v7)),(5,(ii 0))] (sl z3w 13 [] ⟨[],[],[some [4,5]],[]⟩ ⟨[],[],[]⟩ [false] (tt k0 nn)))))
theorem x8x (l0:List R7) (x1:Int):Xv prog (Zy prog 46) (mVoC l0 x1) (Zc prog 46 [(.dat l0.length (Zz l0)),(.int .i64 x1)] true []) (y2z l0 x1):=(lo fun bV=>(lb (fun k0=>(lr 61 46 [1,0,1,1,0,0] 1 28 [(4,(ii 0)),(5,(ii (z6o (cvT l0))))] (sl z3w 24 [] ⟨[],[],[some [4,5]],[]⟩ ⟨[],[],[]⟩ [true] (tt k0 (pp (pp (xr l0) (xw bV)) nn))))) (fun k0=>(lb (fun k1=>(lr 61 46 [1,1,0,1,0,0] 1 28 [(4,(ii 0)),(5,(ii 2))] (sl z3w 35 [] ⟨[],[],[some [4,5]],[]⟩ ⟨[],[],[]⟩ [false,true,true,true] (tt k1 (tt k0 (pp (pp (xr l0) (xw bV)) nn)))))) (fun k1=>(lb (fun k2=>(lr 61 46 [1,1,0,1,0,0] 1 28 [(4,(ii 0)),(5,(ii 2))] (sl z3w 35 [] ⟨[],[],[some [4,5]],[]⟩ ⟨[],[],[]⟩ [false,false,false,true] (tt k2 (tt k1 (tt k0 (pp (pp (xr l0) (xw bV)) nn))))))) (fun k2=>(sl z3w 44 [] ⟨[],[],y6x,y6y⟩ ⟨[],[],[]⟩ [false,false,false,false] (tt k2 (tt k1 (tt k0 (pp (pp (xr l0) (xw bV)) nn))))))))))))
theorem v9o (l0:List R7) (x1:Int) (n:Nat) (vs:List AVal) (h:Yv (z9s l0 x1) n (y2z l0 x1)=.ret vs):Jt prog (Zy prog 46) (Zc prog 46 [(.dat l0.length (Zz l0)),(.int .i64 x1)] true []) vs:=by have:=Ze (w6r l0 x1) n _ (x8x l0 x1);rwa [h] at this
inductive svoS where
 | h0 (v5:Int) (v18:Int)
def svoC (l0:List R6):svoS→Cfg
 | .h0 v5 v18=>⟨⟨37,0,true⟩,none,(Zd prog 48 [1,1,1,0,1,0,0] 0),none,(Zy prog 15),⟨Yd [(5,(ii v5)),(16,(.dat l0.length (Zz l0))),(17,(ii (l0.length:Int))),(18,(ii v18))],Uw [] 0,0,[],true⟩,[],.leaf⟩
def svoN0 :List (Option (List Nat)):=[some [5,16,17,18]]
def svoM0 :List (Option (List Nat)):=[]
def z9d (l0:List R6):svoS→Xb svoS
 | .h0 v5 v18=>(bif (decide (v18<(l0.length:Int))) then (bif ((decide (0≤v18∧v18<(l0.length:Int)))&&true) then (.to (.h0 (IntKind.wrap .i64 (v5+(IntKind.wrap .i64 ((IntKind.wrap .i64 ((IntKind.wrap .i64 ((rd l0 v18.toNat).d - (rd l0 v18.toNat).a))*(IntKind.wrap .i64 ((rd l0 v18.toNat).e - (rd l0 v18.toNat).b))))*(IntKind.wrap .i64 ((rd l0 v18.toNat).f - (rd l0 v18.toNat).c)))))) (IntKind.wrap .i64 (v18+1)))) else .stuck) else (.ret [(.int .i64 v5),(.int .i64 0)]))
def y2c (l0:List R6):Xb svoS:=(bif (Uf (cvT l0)) then (bif ((Yr (cvT l0)) != 0) then (.ret [(.int .i64 0),(.int .i64 (Yr (cvT l0)))]) else (.to (.h0 0 0))) else .stuck)
theorem w4o (l0:List R6): ∀s,Xv prog (Zy prog 48) (svoC l0) (svoC l0 s) (z9d l0 s)
 | .h0 v5 v18=>(lb (fun k0=>(lo fun o0=>(sl Qu 54 [] ⟨[],[],svoN0,svoM0⟩ ⟨[],[],[]⟩ [true] (ww o0 (tt k0 nn))))) (fun k0=>(lr 37 3 [1,1,1,1,1,1,1,0] 1 15 [(2,(ii v5)),(3,(ii 0))] (sl Qu 13 [] ⟨[],[],[some [2,3]],[]⟩ ⟨[],[],[]⟩ [false] (tt k0 nn)))))
theorem x6m (l0:List R6):Xv prog (Zy prog 48) (svoC l0) (Zc prog 48 [(.dat l0.length (Zz l0))] true []) (y2c l0):=(lo fun bV=>(lb (fun k0=>(lr 37 48 [1,0,1,1,0,0] 1 15 [(2,(ii 0)),(3,(ii (Yr (cvT l0))))] (sl Qu 24 [] ⟨[],[],[some [2,3]],[]⟩ ⟨[],[],[]⟩ [true] (tt k0 (pp (pp (xr l0) (xw bV)) nn))))) (fun k0=>(sl Qu 32 [] ⟨[],[],svoN0,svoM0⟩ ⟨[],[],[]⟩ [false] (tt k0 (pp (pp (xr l0) (xw bV)) nn))))))
theorem v6g (l0:List R6) (n:Nat) (vs:List AVal) (h:Yv (z9d l0) n (y2c l0)=.ret vs):Jt prog (Zy prog 48) (Zc prog 48 [(.dat l0.length (Zz l0))] true []) vs:=by have:=Ze (w4o l0) n _ (x6m l0);rwa [h] at this
end Go.Am
namespace Go.Am
open Go.Proofs.Tryz
open Go.Proofs
inductive kntS where
def kntC (aM:Int) (aL:Int) (aN:Int) (aV:Int) (bF:Int) (bG:Int) (bN:Int) (bO:Int) (bP:Int) (cA:Int) (cB:Int) (cF:Int):kntS→Cfg
 :=nofun
def x9c (aM:Int) (aL:Int) (aN:Int) (aV:Int) (bF:Int) (bG:Int) (bN:Int) (bO:Int) (bP:Int) (cA:Int) (cB:Int) (cF:Int):kntS→Xb kntS
 :=nofun
def y3d (aM:Int) (aL:Int) (aN:Int) (aV:Int) (bF:Int) (bG:Int) (bN:Int) (bO:Int) (bP:Int) (cA:Int) (cB:Int) (cF:Int):Xb kntS:=(bif ((IntKind.wrap .i64 ((Vm aV cA) - (Vg aM bN))) == 0) then (bif (decide ((IntKind.wrap .i64 ((Vm bF cB) - (Vg aL bO)))>0)) then (bif (decide ((IntKind.wrap .i64 ((Vm bG cF) - (Vg aN bP)))>0)) then (.ret [(.int .i64 (IntKind.wrap .i64 ((IntKind.wrap .i64 ((Vm bF cB) - (Vg aL bO)))*(IntKind.wrap .i64 ((Vm bG cF) - (Vg aN bP))))))]) else (bif (decide ((IntKind.wrap .i64 ((Vm aV cA) - (Vg aM bN)))>0)) then (bif ((IntKind.wrap .i64 ((Vm bF cB) - (Vg aL bO))) == 0) then (bif ((IntKind.wrap .i64 ((Vm bG cF) - (Vg aN bP))) == 0) then (.ret [(.int .i64 (IntKind.wrap .i64 ((IntKind.wrap .i64 ((Vm aV cA) - (Vg aM bN)))*(IntKind.wrap .i64 ((Vm bF cB) - (Vg aL bO))))))]) else (.ret [(.int .i64 0)])) else (bif ((IntKind.wrap .i64 ((Vm bG cF) - (Vg aN bP))) == 0) then (.ret [(.int .i64 (IntKind.wrap .i64 ((IntKind.wrap .i64 ((Vm aV cA) - (Vg aM bN)))*(IntKind.wrap .i64 ((Vm bF cB) - (Vg aL bO))))))]) else (.ret [(.int .i64 0)]))) else (.ret [(.int .i64 0)]))) else (bif (decide ((IntKind.wrap .i64 ((Vm aV cA) - (Vg aM bN)))>0)) then (bif ((IntKind.wrap .i64 ((Vm bF cB) - (Vg aL bO))) == 0) then (bif (decide ((IntKind.wrap .i64 ((Vm bG cF) - (Vg aN bP)))>0)) then (.ret [(.int .i64 (IntKind.wrap .i64 ((IntKind.wrap .i64 ((Vm aV cA) - (Vg aM bN)))*(IntKind.wrap .i64 ((Vm bG cF) - (Vg aN bP))))))]) else (.ret [(.int .i64 0)])) else (.ret [(.int .i64 0)])) else (.ret [(.int .i64 0)]))) else (bif (decide ((IntKind.wrap .i64 ((Vm aV cA) - (Vg aM bN)))>0)) then (bif ((IntKind.wrap .i64 ((Vm bF cB) - (Vg aL bO))) == 0) then (bif (decide ((IntKind.wrap .i64 ((Vm bG cF) - (Vg aN bP)))>0)) then (.ret [(.int .i64 (IntKind.wrap .i64 ((IntKind.wrap .i64 ((Vm aV cA) - (Vg aM bN)))*(IntKind.wrap .i64 ((Vm bG cF) - (Vg aN bP))))))]) else (bif (decide ((IntKind.wrap .i64 ((Vm bF cB) - (Vg aL bO)))>0)) then (bif ((IntKind.wrap .i64 ((Vm bG cF) - (Vg aN bP))) == 0) then (.ret [(.int .i64 (IntKind.wrap .i64 ((IntKind.wrap .i64 ((Vm aV cA) - (Vg aM bN)))*(IntKind.wrap .i64 ((Vm bF cB) - (Vg aL bO))))))]) else (.ret [(.int .i64 0)])) else (.ret [(.int .i64 0)]))) else (bif (decide ((IntKind.wrap .i64 ((Vm bF cB) - (Vg aL bO)))>0)) then (bif ((IntKind.wrap .i64 ((Vm bG cF) - (Vg aN bP))) == 0) then (.ret [(.int .i64 (IntKind.wrap .i64 ((IntKind.wrap .i64 ((Vm aV cA) - (Vg aM bN)))*(IntKind.wrap .i64 ((Vm bF cB) - (Vg aL bO))))))]) else (.ret [(.int .i64 0)])) else (.ret [(.int .i64 0)]))) else (.ret [(.int .i64 0)])))
theorem w7c (aM:Int) (aL:Int) (aN:Int) (aV:Int) (bF:Int) (bG:Int) (bN:Int) (bO:Int) (bP:Int) (cA:Int) (cB:Int) (cF:Int): ∀s,Xv prog (Zy prog 87) (kntC aM aL aN aV bF bG bN bO bP cA cB cF) (kntC aM aL aN aV bF bG bN bO bP cA cB cF s) (x9c aM aL aN aV bF bG bN bO bP cA cB cF s)
 :=nofun
theorem x9d (aM:Int) (aL:Int) (aN:Int) (aV:Int) (bF:Int) (bG:Int) (bN:Int) (bO:Int) (bP:Int) (cA:Int) (cB:Int) (cF:Int):Xv prog (Zy prog 87) (kntC aM aL aN aV bF bG bN bO bP cA cB cF) (Zc prog 87 [(.agg [(.int .i64 aM),(.int .i64 aL),(.int .i64 aN),(.int .i64 aV),(.int .i64 bF),(.int .i64 bG)]),(.agg [(.int .i64 bN),(.int .i64 bO),(.int .i64 bP),(.int .i64 cA),(.int .i64 cB),(.int .i64 cF)])] true []) (y3d aM aL aN aV bF bG bN bO bP cA cB cF):=(lb (fun k0=>(lb (fun k1=>(lb (fun k2=>(lr 95 87 [1,1,1,1,0,0,1,0,0] 1 5 [(4,(ii (wr ((wr ((Vm bF cB) - (Vg aL bO)))*(wr ((Vm bG cF) - (Vg aN bP)))))))] (sl z2h 87 [] ⟨[],[],[some [4]],[]⟩ ⟨[],[],[]⟩ (trs 5 []) (tt k2 (tt k1 (tt k0 nn)))))) (fun k2=>(lb (fun k3=>(lb (fun k4=>(lb (fun k5=>(lr 95 87 [1,1,1,1,0,0,1,0,0] 1 5 [(4,(ii (wr ((wr ((Vm aV cA) - (Vg aM bN)))*(wr ((Vm bF cB) - (Vg aL bO)))))))] (sl z2h 117 [] ⟨[],[],[some [4]],[]⟩ ⟨[],[],[]⟩ (trs 4 [false,true,true,true,true,false,true,true,true,true,true]) (tt k5 (tt k1 (tt k3 (tt k2 (tt k4 (tt k3 (tt k2 (tt k1 (tt k0 nn)))))))))))) (fun k5=>(lr 95 3 [1,1,1,1,1,1,1,0] 1 5 [(4,(ii 0))] (sl z2h 116 [] ⟨[],[],[some [4]],[]⟩ ⟨[],[],[]⟩ (trs 4 [false,true,true,true,true,false,true,true,true,true,false]) (tt k5 (tt k1 (tt k3 (tt k2 (tt k4 (tt k3 (tt k2 (tt k1 (tt k0 nn)))))))))))))) (fun k4=>(lb (fun k5=>(lr 95 87 [1,1,1,1,0,0,1,0,0] 1 5 [(4,(ii (wr ((wr ((Vm aV cA) - (Vg aM bN)))*(wr ((Vm bF cB) - (Vg aL bO)))))))] (sl z2h 117 [] ⟨[],[],[some [4]],[]⟩ ⟨[],[],[]⟩ (trs 4 [false,true,true,false,false,false,true,true,true,true,true]) (tt k5 (tt k1 (tt k3 (tt k4 (tt k3 (tt k2 (tt k1 (tt k0 nn))))))))))) (fun k5=>(lr 95 3 [1,1,1,1,1,1,1,0] 1 5 [(4,(ii 0))] (sl z2h 116 [] ⟨[],[],[some [4]],[]⟩ ⟨[],[],[]⟩ (trs 4 [false,true,true,false,false,false,true,true,true,true,false]) (tt k5 (tt k1 (tt k3 (tt k4 (tt k3 (tt k2 (tt k1 (tt k0 nn))))))))))))))) (fun k3=>(lr 95 3 [1,1,1,1,1,1,1,0] 1 5 [(4,(ii 0))] (sl z2h 116 [] ⟨[],[],[some [4]],[]⟩ ⟨[],[],[]⟩ (trs 4 [false,false,false,false,false,false,false,false,false,false,false]) (tt k3 (tt k3 (tt k2 (tt k1 (tt k0 nn)))))))))))) (fun k1=>(lb (fun k2=>(lb (fun k3=>(lb (fun k4=>(lr 95 87 [1,1,1,1,0,0,1,0,0] 1 5 [(4,(ii (wr ((wr ((Vm aV cA) - (Vg aM bN)))*(wr ((Vm bG cF) - (Vg aN bP)))))))] (sl z2h 102 [] ⟨[],[],[some [4]],[]⟩ ⟨[],[],[]⟩ [true,true,false,false,false,true,true,true,true,true] (tt k4 (tt k3 (tt k2 (tt k1 (tt k0 nn)))))))) (fun k4=>(lr 95 3 [1,1,1,1,1,1,1,0] 1 5 [(4,(ii 0))] (sl z2h 116 [] ⟨[],[],[some [4]],[]⟩ ⟨[],[],[]⟩ [true,true,false,false,false,true,true,true,true,false,true,true,false,false,false] (tt k1 (tt k2 (tt k4 (tt k3 (tt k2 (tt k1 (tt k0 nn)))))))))))) (fun k3=>(lr 95 3 [1,1,1,1,1,1,1,0] 1 5 [(4,(ii 0))] (sl z2h 116 [] ⟨[],[],[some [4]],[]⟩ ⟨[],[],[]⟩ [true,true,false,false,false,true,true,false,false,false,true,true,false,false,false] (tt k1 (tt k2 (tt k3 (tt k2 (tt k1 (tt k0 nn))))))))))) (fun k2=>(lr 95 3 [1,1,1,1,1,1,1,0] 1 5 [(4,(ii 0))] (sl z2h 116 [] ⟨[],[],[some [4]],[]⟩ ⟨[],[],[]⟩ [true,true,false,false,false,false,false,false,false,false,false,false,false,false,false] (tt k2 (tt k2 (tt k1 (tt k0 nn))))))))))) (fun k0=>(lb (fun k1=>(lb (fun k2=>(lb (fun k3=>(lr 95 87 [1,1,1,1,0,0,1,0,0] 1 5 [(4,(ii (wr ((wr ((Vm aV cA) - (Vg aM bN)))*(wr ((Vm bG cF) - (Vg aN bP)))))))] (sl z2h 102 [] ⟨[],[],[some [4]],[]⟩ ⟨[],[],[]⟩ [false,false,false,false,false,true,true,true,true,true] (tt k3 (tt k2 (tt k1 (tt k0 nn))))))) (fun k3=>(lb (fun k4=>(lb (fun k5=>(lr 95 87 [1,1,1,1,0,0,1,0,0] 1 5 [(4,(ii (wr ((wr ((Vm aV cA) - (Vg aM bN)))*(wr ((Vm bF cB) - (Vg aL bO)))))))] (sl z2h 117 [] ⟨[],[],[some [4]],[]⟩ ⟨[],[],[]⟩ [false,false,false,false,false,true,true,true,true,false,true,true,true,true,true] (tt k5 (tt k4 (tt k1 (tt k3 (tt k2 (tt k1 (tt k0 nn)))))))))) (fun k5=>(lr 95 3 [1,1,1,1,1,1,1,0] 1 5 [(4,(ii 0))] (sl z2h 116 [] ⟨[],[],[some [4]],[]⟩ ⟨[],[],[]⟩ [false,false,false,false,false,true,true,true,true,false,true,true,true,true,false] (tt k5 (tt k4 (tt k1 (tt k3 (tt k2 (tt k1 (tt k0 nn)))))))))))) (fun k4=>(lr 95 3 [1,1,1,1,1,1,1,0] 1 5 [(4,(ii 0))] (sl z2h 116 [] ⟨[],[],[some [4]],[]⟩ ⟨[],[],[]⟩ [false,false,false,false,false,true,true,true,true,false,true,true,false,false,false] (tt k4 (tt k1 (tt k3 (tt k2 (tt k1 (tt k0 nn))))))))))))) (fun k2=>(lb (fun k3=>(lb (fun k4=>(lr 95 87 [1,1,1,1,0,0,1,0,0] 1 5 [(4,(ii (wr ((wr ((Vm aV cA) - (Vg aM bN)))*(wr ((Vm bF cB) - (Vg aL bO)))))))] (sl z2h 117 [] ⟨[],[],[some [4]],[]⟩ ⟨[],[],[]⟩ [false,false,false,false,false,true,true,false,false,false,true,true,true,true,true] (tt k4 (tt k3 (tt k1 (tt k2 (tt k1 (tt k0 nn))))))))) (fun k4=>(lr 95 3 [1,1,1,1,1,1,1,0] 1 5 [(4,(ii 0))] (sl z2h 116 [] ⟨[],[],[some [4]],[]⟩ ⟨[],[],[]⟩ [false,false,false,false,false,true,true,false,false,false,true,true,true,true,false] (tt k4 (tt k3 (tt k1 (tt k2 (tt k1 (tt k0 nn))))))))))) (fun k3=>(lr 95 3 [1,1,1,1,1,1,1,0] 1 5 [(4,(ii 0))] (sl z2h 116 [] ⟨[],[],[some [4]],[]⟩ ⟨[],[],[]⟩ [false,false,false,false,false,true,true,false,false,false,true,true,false,false,false] (tt k3 (tt k1 (tt k2 (tt k1 (tt k0 nn)))))))))))) (fun k1=>(lr 95 3 [1,1,1,1,1,1,1,0] 1 5 [(4,(ii 0))] (sl z2h 116 [] ⟨[],[],[some [4]],[]⟩ ⟨[],[],[]⟩ [false,false,false,false,false,false,false,false,false,false,false,false,false,false,false] (tt k1 (tt k1 (tt k0 nn)))))))))
theorem v9t (aM:Int) (aL:Int) (aN:Int) (aV:Int) (bF:Int) (bG:Int) (bN:Int) (bO:Int) (bP:Int) (cA:Int) (cB:Int) (cF:Int) (n:Nat) (vs:List AVal) (h:Yv (x9c aM aL aN aV bF bG bN bO bP cA cB cF) n (y3d aM aL aN aV bF bG bN bO bP cA cB cF)=.ret vs):Jt prog (Zy prog 87) (Zc prog 87 [(.agg [(.int .i64 aM),(.int .i64 aL),(.int .i64 aN),(.int .i64 aV),(.int .i64 bF),(.int .i64 bG)]),(.agg [(.int .i64 bN),(.int .i64 bO),(.int .i64 bP),(.int .i64 cA),(.int .i64 cB),(.int .i64 cF)])] true []) vs:=by have:=Ze (w7c aM aL aN aV bF bG bN bO bP cA cB cF) n _ (x9d aM aL aN aV bF bG bN bO bP cA cB cF);rwa [h] at this
end Go.Am
namespace Go.Am
open Go.Proofs.Tryz
open Go.Proofs
open Go.Sort Go.Shelf Go.RowKit Go.Lib
def kX (a d a' d':Int):Int:=IntKind.wrap .i64 (Vm d d' - Vg a a')
def kT (x y z:Int):Int:=bif x == 0&&(decide (y>0)&&decide (z>0)) then IntKind.wrap .i64 (y*z) else bif decide (x>0)&&(y == 0&&decide (z>0)) then IntKind.wrap .i64 (x*z) else bif decide (x>0)&&(decide (y>0)&&z == 0) then IntKind.wrap .i64 (x*y) else 0
def kntV (a b c d e f a' b' c' d' e' f':Int):Int:=kT (kX a d a' d') (kX b e b' e') (kX c f c' f')
theorem triI (t:Int):((t == 0)=true∧decide (t>0)=false)∨((t == 0)=false∧decide (t>0)=true)∨((t == 0)=false∧decide (t>0)=false):=by
 rcases Int.lt_trichotomy t 0 with h | h | h
 ·exact .inr (.inr ⟨x5i (by omega),decide_eq_false (by omega)⟩)
 ·exact .inl ⟨beq_t' h,decide_eq_false (by omega)⟩
 ·exact .inr (.inl ⟨x5i (by omega),decide_eq_true (by omega)⟩)
theorem j0h (a b c d e f a' b' c' d' e' f':Int): ∃N,Yv (x9c a b c d e f a' b' c' d' e' f') N (y3d a b c d e f a' b' c' d' e' f')=.ret [.int .i64 (kntV a b c d e f a' b' c' d' e' f')]:=⟨0,by
 unfold y3d kntV;show Yv _ 0 _=Xb.ret [.int .i64 (kT (IntKind.wrap .i64 (Vm d d' - Vg a a')) (IntKind.wrap .i64 (Vm e e' - Vg b b')) (IntKind.wrap .i64 (Vm f f' - Vg c c')))];generalize IntKind.wrap .i64 (Vm d d' - Vg a a')=x;generalize IntKind.wrap .i64 (Vm e e' - Vg b b')=y;generalize IntKind.wrap .i64 (Vm f f' - Vg c c')=z;unfold kT;rcases triI x with ⟨h1,h2⟩ | ⟨h1,h2⟩ | ⟨h1,h2⟩ <;> rcases triI y with ⟨h3,h4⟩ | ⟨h3,h4⟩ | ⟨h3,h4⟩ <;> rcases triI z with ⟨h5,h6⟩ | ⟨h5,h6⟩ | ⟨h5,h6⟩ <;> rw [h1,h2,h3,h4,h5,h6] <;> rfl⟩
def fKnt :List AVal→Option (AVal×Bool)
 | [.agg [.int .i64 aM,.int .i64 aL,.int .i64 aN,.int .i64 aV,.int .i64 bF,.int .i64 bG],.agg [.int .i64 bN,.int .i64 bO,.int .i64 bP,.int .i64 cA,.int .i64 cB,.int .i64 cF]]=>some (.int .i64 (kntV aM aL aN aV bF bG bN bO bP cA cB cF),true)
 | _=>none
theorem j1w {S:Specs} (hS:Zu prog S):Zu prog (S.with v1x fKnt):=by
 refine z2d hS (by kernel_rfl) fun args v h=> ?_;unfold fKnt at h;split at h
 ·rename_i aM aL aN aV bF bG bN bO bP cA cB cF;simp only [Option.some.injEq,Prod.mk.injEq,and_true] at h;subst h;obtain ⟨N,hN⟩:=j0h aM aL aN aV bF bG bN bO bP cA cB cF;exact ⟨_,_,(.cons (.refl _) (.cons (.refl _) .nil)),rfl,v9t aM aL aN aV bF bG bN bO bP cA cB cF N _ hN,3,rfl⟩
 ·cases h
def Ue :Specs:=(Ud.with v1x fKnt)
theorem w8l :Zu prog Ue:=(j1w z2h)
end Go.Am
namespace Go.Am
open Go.Proofs.Tryz
open Go.Proofs
inductive slsS where
 | h0 (v5:Int) (v20:Int)
 | h1 (v5:Int) (v20:Int) (v47:List R6) (v48:Int) (v49:Int) (aD:Int) (aZ:Int) (bA:Int) (bX:Int) (cU:Int) (cW:Int)
def slsC (l0:List R6):slsS→Cfg
 | .h0 v5 v20=>⟨⟨62,0,true⟩,none,(Zd prog 33 [1,1,1,0,1,0,0] 0),none,(Zy prog 15),⟨Yd [(0,(.dat l0.length (Zz l0))),(5,(ii v5)),(18,(.dat l0.length (Zz l0))),(19,(ii (l0.length:Int))),(20,(ii v20))],Uw [] 0,0,[],true⟩,[],.leaf⟩
 | .h1 v5 v20 v47 v48 v49 aD aZ bA bX cU cW=>⟨⟨62,0,true⟩,none,(Zd prog 33 [1,1,1,0,1,0,0,1,1,0,0,1,1,1,1,0,0] 0),none,(Zy prog 15),⟨Yd [(0,(.dat l0.length (Zz l0))),(5,(ii v5)),(7,(.ptr 0 0)),(18,(.dat l0.length (Zz l0))),(19,(ii (l0.length:Int))),(20,(ii v20)),(47,(.dat v47.length (Zz v47))),(48,(ii v48)),(49,(ii v49))],Uw [⟨[(ii aD),(ii aZ),(ii bA),(ii bX),(ii cU),(ii cW)],67,none⟩] 0,1,[],true⟩,[],.leaf⟩
def slsN0 :List (Option (List Nat)):=[some [0,5,18,19,20]]
def slsM0 :List (Option (List Nat)):=[]
def slsN1 :List (Option (List Nat)):=[some [0,5,7,18,19,20,47,48,49]]
def slsM1 :List (Option (List Nat)):=[]
def z0f (l0:List R6):slsS→Xb slsS
 | .h0 v5 v20=>(bif (decide (v20<(l0.length:Int))) then (bif ((decide (0≤v20∧v20<(l0.length:Int)))&&true) then (bif (decide (0≤v20.toNat)) then (bif (decide (v20.toNat≤l0.length)) then (bif (decide (0≤v20)) then (.to (.h1 (IntKind.wrap .i64 (v5+(IntKind.wrap .i64 (2*(IntKind.wrap .i64 ((IntKind.wrap .i64 ((IntKind.wrap .i64 ((IntKind.wrap .i64 ((rd l0 v20.toNat).d - (rd l0 v20.toNat).a))*(IntKind.wrap .i64 ((rd l0 v20.toNat).e - (rd l0 v20.toNat).b))))+(IntKind.wrap .i64 ((IntKind.wrap .i64 ((rd l0 v20.toNat).d - (rd l0 v20.toNat).a))*(IntKind.wrap .i64 ((rd l0 v20.toNat).f - (rd l0 v20.toNat).c))))))+(IntKind.wrap .i64 ((IntKind.wrap .i64 ((rd l0 v20.toNat).e - (rd l0 v20.toNat).b))*(IntKind.wrap .i64 ((rd l0 v20.toNat).f - (rd l0 v20.toNat).c)))))))))) v20 (Wc l0 0 v20.toNat) ((v20.toNat:Nat):Int) 0 (rd l0 v20.toNat).a (rd l0 v20.toNat).b (rd l0 v20.toNat).c (rd l0 v20.toNat).d (rd l0 v20.toNat).e (rd l0 v20.toNat).f)) else .stuck) else .stuck) else .stuck) else .stuck) else (.ret [(.int .i64 v5),(.int .i64 0)]))
 | .h1 v5 v20 v47 v48 v49 aD aZ bA bX cU cW=>(bif (decide (v49<v48)) then (bif ((decide (0≤v49∧v49<(v47.length:Int)))&&true) then (.to (.h1 (IntKind.wrap .i64 (v5 - (IntKind.wrap .i64 (2*(kntV aD aZ bA bX cU cW (rd v47 v49.toNat).a (rd v47 v49.toNat).b (rd v47 v49.toNat).c (rd v47 v49.toNat).d (rd v47 v49.toNat).e (rd v47 v49.toNat).f))))) v20 v47 v48 (IntKind.wrap .i64 (v49+1)) aD aZ bA bX cU cW)) else .stuck) else (.to (.h0 v5 (IntKind.wrap .i64 (v20+1)))))
def y2f (l0:List R6):Xb slsS:=(bif (Uf (cvT l0)) then (bif ((Yr (cvT l0)) != 0) then (.ret [(.int .i64 0),(.int .i64 (Yr (cvT l0)))]) else (.to (.h0 0 0))) else .stuck)
theorem w5d (l0:List R6): ∀s,Xv prog (Zy prog 33) (slsC l0) (slsC l0 s) (z0f l0 s)
 | .h0 v5 v20=>(lb (fun k0=>(lo fun o0=>(lo fun o1=>(lo fun o2=>(lo fun o3=>(sl w8l 68 [] ⟨[0],[],slsN1,slsM1⟩ ⟨[(47,.list (Wc l0 0 (tn v20)).length (Zz (Wc l0 0 (tn v20))))],[],[]⟩ [true] (pp (xL (tn v20) (Wc l0 0 (tn v20)).length) (pp (xS (tn v20) (fun k=>(Zz l0) (0+k)) (Zz (Wc l0 0 (tn v20)))) (pp (pp (xw o3) (pp nn (pp (xG (decide ((tn v20)≤l0.length))) (pp (xG (decide (0≤(tn v20)))) (xG (lenR l0.length (Zz l0) 6)))))) (ww o0 (tt k0 nn))))))))))) (fun k0=>(lr 62 3 [1,1,1,1,1,1,1,0] 1 15 [(2,(ii v5)),(3,(ii 0))] (sl w8l 13 [] ⟨[],[],[some [2,3]],[]⟩ ⟨[],[],[]⟩ [false] (tt k0 nn)))))
 | .h1 v5 v20 v47 v48 v49 aD aZ bA bX cU cW=>(lb (fun k0=>(lo fun o0=>(sl w8l 31 [] ⟨[0],[],slsN1,slsM1⟩ ⟨[],[],[]⟩ [true] (ww o0 (tt k0 nn))))) (fun k0=>(sl w8l 13 [] ⟨[],[],slsN0,slsM0⟩ ⟨[],[],[]⟩ [false] (tt k0 nn))))
theorem x6t (l0:List R6):Xv prog (Zy prog 33) (slsC l0) (Zc prog 33 [(.dat l0.length (Zz l0))] true []) (y2f l0):=(lo fun bV=>(lb (fun k0=>(lr 62 33 [1,0,1,1,0,0] 1 15 [(2,(ii 0)),(3,(ii (Yr (cvT l0))))] (sl w8l 24 [] ⟨[],[],[some [2,3]],[]⟩ ⟨[],[],[]⟩ [true] (tt k0 (pp (pp (xr l0) (xw bV)) nn))))) (fun k0=>(sl w8l 32 [] ⟨[],[],slsN0,slsM0⟩ ⟨[],[],[]⟩ [false] (tt k0 (pp (pp (xr l0) (xw bV)) nn))))))
theorem v6k (l0:List R6) (n:Nat) (vs:List AVal) (h:Yv (z0f l0) n (y2f l0)=.ret vs):Jt prog (Zy prog 33) (Zc prog 33 [(.dat l0.length (Zz l0))] true []) vs:=by have:=Ze (w5d l0) n _ (x6t l0);rwa [h] at this
end Go.Am
end
