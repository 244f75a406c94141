/- A part of a proof: several texts in one. -/
import Derived.Test.YtmanggcjimaehaaGreatLf4
set_option maxRecDepth 1000000
set_option maxHeartbeats 8000000
set_option linter.unusedVariables false
set_option linter.unusedSimpArgs false
noncomputable section
namespace Go.Am
open IntKind (wrap)
open Go.Proofs.Tryz
open Go.Proofs
inductive rgjS where
 | h0 (v16:Int) (aA:List Int)
 | h1 (v16:Int) (aA:List Int)
 | h2 (v4:Int) (aG:List R4) (aP:List R2) (aZ:Int) (bA:Int) (aE:Nat) (aH:List Int)
 | h3 (v4:Int) (v38:Int) (aG:List R4) (aP:List R2) (aZ:Int) (bA:Int) (aE:Nat) (aH:List Int) (aO:Int) (bB:Int) (aB:List R2)
 | h4 (v4:Int) (v38:Int) (aG:List R4) (aP:List R2) (aZ:Int) (bA:Int) (aE:Nat) (aH:List Int) (aO:Int) (bB:Int) (aB:List R2) (aK:List R2)
 | h5 (v1:Int) (v2:Int) (v71:List R2) (v72:Int) (v73:Int) (aS:Int) (aD:List R4) (bD:Int) (aE:Nat) (aH:List Int) (aO:List R2) (bB:List R2)
 | h6 (v2:Int) (v8:Int) (cN:Int) (cO:List R2) (aS:Int) (aD:List R4) (bC:List R2) (bD:Int) (bX:Int) (bH:Nat) (bO:List Int) (aB:List R2) (aK:List R2)
def y4f (q:Op) (l0:List R4) (l1:List R4):AFr:=⟨⟨11,0,true⟩,(Ur prog (nRg q) [1,0] 2),(Zb prog (nRg q) [1,0] 1),none,(Zy prog 28),Ya [(6,(.dat l0.length (Zz l0))),(7,(.dat l1.length (Zz l1)))]⟩
abbrev y8i (aD:List R4) (v8:Int) (v2:Int):=(aD.set (0+(tn v8)) (R4.mk (rd aD (0+(tn v8))).a (rd aD (0+(tn v8))).b v2 (rd aD (0+(tn v8))).d))
def v1b :=(y6v [(0,⟨.ready,none,49,Ya [(5,(.ptr 1 0)),(6,(.ptr 2 0)),(7,(.ptr 3 0)),(9,(.ptr 4 0))],[23],(Vd prog 122 [1,1,1,0,1,0,0]),(Vd prog 122 [1,1,1,0,1,0,1])⟩)])
abbrev y8h (aA:List Int):=(Wa (Yw aA.length (cOf (Zz (Xu (Yw aA.length (cOf (Zz aA))))))))
def v1a :AFr:=⟨⟨49,0,true⟩,none,(.inRangeFunc 0::(Zb prog 122 [1,1,1,0,1,0] 1)),none,(Zy prog 122),Ya [(6,(.ptr 2 0)),(7,(.ptr 3 0)),(9,(.ptr 4 0))]⟩
def y4e (l0:List R4) (l1:List R4):ABlk:=⟨[(.dat l0.length (Zz l0)),(.dat l1.length (Zz l1))],100,none⟩
def u4l :AFr:=⟨⟨49,0,true⟩,(Ur prog 122 [1,1,1,0,0] 3),(Zb prog 122 [1,1,1,0,0] 1),none,(Zy prog 122),Ya [(5,(.ptr 3 0)),(6,(.ptr 4 0)),(7,(.ptr 5 0)),(9,(.ptr 6 0)),(21,(.sl 1 0 2 (.un 1)))]⟩
abbrev y8g (aB:List R2) (l0:List R4) (v38:Int):=(aB++[(R2.mk (rd l0 (tn v38)).b (rd l0 (tn v38)).d)])
abbrev y8f (aK:List R2) (l1:List R4) (v38:Int):=(aK++[(R2.mk (rd l1 (tn v38)).b (rd l1 (tn v38)).d)])
def y4d (q:Op):ABlk:=⟨[(.fn (nSp q) [])],151,none⟩
abbrev z9h (aD:List R4) (v1:Int) (v71:List R2) (v73:Int) (v2:Int):=(aD++[(R4.mk v1 (rd v71 (tn v73)).a v2 (rd v71 (tn v73)).b)])
abbrev z9g (aA:List Int) (l0:List R4) (v16:Int):=(aA++[(rd l0 (tn v16)).a,(rd l0 (tn v16)).c])
abbrev z9f (aA:List Int) (l1:List R4) (v16:Int):=(aA++[(rd l1 (tn v16)).a,(rd l1 (tn v16)).c])
def x0n :ABlk:=⟨[(.sl 8 0 2 (.un 1))],236,none⟩
def v1c :=(Zb prog 190 [1,0,0,1,0,0,1,0,1,0,0,1,1,0,0,1,1,0,0] 0)
def rgjC (q:Op) (l0:List R4) (l1:List R4):rgjS→Cfg
 | .h0 v16 aA=>⟨⟨34,0,true⟩,none,(Zb prog 161 [1,1,0,1,0,0,1,1,0,0,1,1,0,0] 0),none,(Zy prog 3),⟨Ya [(1,(.ptr 0 0)),(3,(.ptr 2 0)),(8,(.sl 1 0 2 (.un 1))),(9,(ii 2)),(10,(ii 0)),(14,(.dat l0.length (Zz l0))),(15,(ii (l0.length:Int))),(16,(ii v16))],Wr [⟨[(.sl 1 0 2 (.un 1))],236,none⟩,(y4e l0 l1),⟨[(.sla 7 1 0 aA.length (.un 1))],93,none⟩,(y4d q),⟨[.nils],100,none⟩,⟨[(ii 0)],26,none⟩,⟨[.nils,.nils,(ii 0),(ii 0)],200,none⟩,⟨rows aA.length (Zz aA),3,some ⟨1,aA.length,(Zz aA)⟩⟩] 0,8,[],true⟩,[u4l,(y4f q l0 l1)],.leaf⟩
 | .h1 v16 aA=>⟨⟨34,0,true⟩,none,(Zb prog 161 [1,1,0,1,0,0,1,1,0,0,1,1,0,0] 0),none,(Zy prog 3),⟨Ya [(1,(.ptr 0 0)),(3,(.ptr 2 0)),(8,(.sl 1 0 2 (.un 1))),(9,(ii 2)),(10,(ii 1)),(14,(.dat l1.length (Zz l1))),(15,(ii (l1.length:Int))),(16,(ii v16))],Wr [⟨[(.sl 1 0 2 (.un 1))],236,none⟩,(y4e l0 l1),⟨[(.sla 7 1 0 aA.length (.un 1))],93,none⟩,(y4d q),⟨[.nils],100,none⟩,⟨[(ii 0)],26,none⟩,⟨[.nils,.nils,(ii 0),(ii 0)],200,none⟩,⟨rows aA.length (Zz aA),3,some ⟨1,aA.length,(Zz aA)⟩⟩] 0,8,[],true⟩,[u4l,(y4f q l0 l1)],.leaf⟩
 | .h2 v4 aG aP aZ bA aE aH=>⟨⟨76,0,true⟩,none,(Zb prog 190 [1,0,0] 0),none,[],⟨Ya [(0,(.yld 0)),(1,(.ptr 5 0)),(2,(.ptr 7 0)),(4,(ii v4))],y0t [(1,(y4d q)),(2,⟨[.nils],100,none⟩),(3,⟨[(ii 0)],26,none⟩),(4,⟨[(.sla 9 4 0 aG.length (.un 4)),(.dat aP.length (Zz aP)),(ii aZ),(ii bA)],200,none⟩),(5,⟨[(.sla 6 1 0 aE (.un 1))],93,none⟩),(6,⟨rows aH.length (Zz aH),3,some ⟨1,aH.length,(Zz aH)⟩⟩),(7,x0n),(8,(y4e l0 l1)),(9,⟨rows aG.length (Zz aG),88,some ⟨4,aG.length,(Zz aG)⟩⟩)],10,[],true⟩,[v1a,(y4f q l0 l1)],v1b⟩
 | .h3 v4 v38 aG aP aZ bA aE aH aO bB aB=>⟨⟨76,0,true⟩,none,v1c,none,[],⟨Ya [(0,(.yld 0)),(1,(.ptr 5 0)),(2,(.ptr 7 0)),(4,(ii v4)),(5,(.ptr 9 0)),(6,(ii 0)),(29,(.sl 8 0 2 (.un 1))),(30,(ii 2)),(31,(ii 0)),(36,(.dat l0.length (Zz l0))),(37,(ii (l0.length:Int))),(38,(ii v38))],y0t [(1,(y4d q)),(2,⟨[.nils],100,none⟩),(3,⟨[(ii 0)],26,none⟩),(4,⟨[(.sla 12 4 0 aG.length (.un 4)),(.dat aP.length (Zz aP)),(ii aZ),(ii bA)],200,none⟩),(5,⟨[(.sla 6 1 0 aE (.un 1))],93,none⟩),(6,⟨rows aH.length (Zz aH),3,some ⟨1,aH.length,(Zz aH)⟩⟩),(7,x0n),(8,(y4e l0 l1)),(9,⟨[(ii aO),(ii bB),(.sl 10 0 2 (.ex 2))],205,none⟩),(10,⟨[(.sla 11 2 0 aB.length (.un 2)),.nils],180,none⟩),(11,⟨rows aB.length (Zz aB),183,some ⟨2,aB.length,(Zz aB)⟩⟩),(12,⟨rows aG.length (Zz aG),88,some ⟨4,aG.length,(Zz aG)⟩⟩)],13,[],true⟩,[v1a,(y4f q l0 l1)],v1b⟩
 | .h4 v4 v38 aG aP aZ bA aE aH aO bB aB aK=>⟨⟨76,0,true⟩,none,v1c,none,[],⟨Ya [(0,(.yld 0)),(1,(.ptr 5 0)),(2,(.ptr 7 0)),(4,(ii v4)),(5,(.ptr 9 0)),(6,(ii 1)),(29,(.sl 8 0 2 (.un 1))),(30,(ii 2)),(31,(ii 1)),(36,(.dat l1.length (Zz l1))),(37,(ii (l1.length:Int))),(38,(ii v38))],y0t [(1,(y4d q)),(2,⟨[.nils],100,none⟩),(3,⟨[(ii 0)],26,none⟩),(4,⟨[(.sla 13 4 0 aG.length (.un 4)),(.dat aP.length (Zz aP)),(ii aZ),(ii bA)],200,none⟩),(5,⟨[(.sla 6 1 0 aE (.un 1))],93,none⟩),(6,⟨rows aH.length (Zz aH),3,some ⟨1,aH.length,(Zz aH)⟩⟩),(7,x0n),(8,(y4e l0 l1)),(9,⟨[(ii aO),(ii bB),(.sl 10 0 2 (.ex 2))],205,none⟩),(10,⟨[(.sla 11 2 0 aB.length (.un 2)),(.sla 12 2 0 aK.length (.un 2))],180,none⟩),(11,⟨rows aB.length (Zz aB),183,some ⟨2,aB.length,(Zz aB)⟩⟩),(12,⟨rows aK.length (Zz aK),183,some ⟨2,aK.length,(Zz aK)⟩⟩),(13,⟨rows aG.length (Zz aG),88,some ⟨4,aG.length,(Zz aG)⟩⟩)],14,[],true⟩,[v1a,(y4f q l0 l1)],v1b⟩
 | .h5 v1 v2 v71 v72 v73 aS aD bD aE aH aO bB=>⟨⟨94,0,true⟩,none,(Zb prog 158 [1,1,1,0,0] 0),none,[],⟨Ya [(0,(.ptr 0 0)),(1,(ii v1)),(2,(ii v2)),(71,(.dat v71.length (Zz v71))),(72,(ii v72)),(73,(ii v73))],y0t [(0,⟨[(.sla 10 4 0 aD.length (.un 4)),(.dat v71.length (Zz v71)),(ii bD),(ii v2)],200,none⟩),(2,(y4d q)),(3,⟨[.nils],100,none⟩),(4,⟨[(ii 0)],26,none⟩),(5,⟨[(.sla 6 1 0 aE (.un 1))],93,none⟩),(6,⟨rows aH.length (Zz aH),3,some ⟨1,aH.length,(Zz aH)⟩⟩),(7,x0n),(8,(y4e l0 l1)),(9,⟨[(.dat aO.length (Zz aO)),(.dat bB.length (Zz bB))],180,none⟩),(10,⟨rows aD.length (Zz aD),88,some ⟨4,aD.length,(Zz aD)⟩⟩)],11,[],true⟩,[⟨⟨49,0,true⟩,(Ur prog 122 [1,1,1,0,1,0,1,0,1,1] 5),(Zb prog 122 [1,1,1,0,1,0,1,0,1,1] 1),(some 1),[],Ya [(9,(.ptr 0 0)),(41,(ii v1)),(43,(ii v2)),(44,(.dat v71.length (Zz v71)))]⟩,⟨⟨76,0,true⟩,(Ur prog 190 [1,0,0,1,0,0,1,1,0] 2),(Zb prog 190 [1,0,0,1,0,0,1,1,0] 1),none,[],Ya [(0,(.yld 1)),(1,(.ptr 5 0)),(2,(.ptr 7 0)),(4,(ii aS)),(72,(.yld 1)),(73,(.agg [(ii v1),(ii v2),(.sl 9 0 2 (.ex 2))]))]⟩,⟨⟨49,0,true⟩,none,(.inRangeFunc 1::(Zb prog 122 [1,1,1,0,1,0] 1)),none,(Zy prog 122),Ya [(6,(.ptr 3 0)),(7,(.ptr 4 0)),(9,(.ptr 0 0))]⟩,(y4f q l0 l1)],(y6v [(1,⟨.busy,none,49,Ya [(5,(.ptr 2 0)),(6,(.ptr 3 0)),(7,(.ptr 4 0)),(9,(.ptr 0 0))],[23],(Vd prog 122 [1,1,1,0,1,0,0]),(Vd prog 122 [1,1,1,0,1,0,1])⟩)])⟩
 | .h6 v2 v8 cN cO aS aD bC bD bX bH bO aB aK=>⟨⟨94,0,true⟩,none,(Zb prog 158 [0,1,0,0,1,0,0] 0),none,[],⟨Ya [(0,(.ptr 0 0)),(2,(ii v2)),(8,(ii v8))],y0t [(0,⟨[(.sla 1 4 0 aD.length (.un 4)),(.dat bC.length (Zz bC)),(ii bD),(ii bX)],200,none⟩),(1,⟨rows aD.length (Zz aD),88,some ⟨4,aD.length,(Zz aD)⟩⟩),(3,(y4d q)),(4,⟨[.nils],100,none⟩),(5,⟨[(ii 0)],26,none⟩),(6,⟨[(.sla 7 1 0 bH (.un 1))],93,none⟩),(7,⟨rows bO.length (Zz bO),3,some ⟨1,bO.length,(Zz bO)⟩⟩),(8,⟨[(.sl 9 0 2 (.un 1))],236,none⟩),(9,(y4e l0 l1)),(10,⟨[(.dat aB.length (Zz aB)),(.dat aK.length (Zz aK))],180,none⟩)],11,[],true⟩,[⟨⟨49,0,true⟩,(Ur prog 122 [1,1,1,0,1,0,1,0,1,1] 5),(Zb prog 122 [1,1,1,0,1,0,1,0,1,1] 1),(some 2),[],Ya [(9,(.ptr 0 0)),(41,(ii cN)),(43,(ii v2)),(44,(.dat cO.length (Zz cO)))]⟩,⟨⟨76,0,true⟩,(Ur prog 190 [1,0,0,1,0,0,1,1,0] 2),(Zb prog 190 [1,0,0,1,0,0,1,1,0] 1),none,[],Ya [(0,(.yld 2)),(1,(.ptr 6 0)),(2,(.ptr 8 0)),(4,(ii aS)),(72,(.yld 2)),(73,(.agg [(ii cN),(ii v2),(.sl 10 0 2 (.ex 2))]))]⟩,⟨⟨49,0,true⟩,none,(.inRangeFunc 2::(Zb prog 122 [1,1,1,0,1,0] 1)),none,(Zy prog 122),Ya [(6,(.ptr 4 0)),(7,(.ptr 5 0)),(9,(.ptr 0 0))]⟩,(y4f q l0 l1)],(y6v [(2,⟨.busy,none,49,Ya [(5,(.ptr 3 0)),(6,(.ptr 4 0)),(7,(.ptr 5 0)),(9,(.ptr 0 0))],[23],(Vd prog 122 [1,1,1,0,1,0,0]),(Vd prog 122 [1,1,1,0,1,0,1])⟩)])⟩
def rgjN0 :List (Option (List Nat)):=[some [1,3,8,9,10,14,15,16],some [5,6,7,9,21],some [6,7]]
def rgjM0 :List (Option (List Nat)):=[]
def rgjN1 :List (Option (List Nat)):=[some [1,3,8,9,10,14,15,16],some [5,6,7,9,21],some [6,7]]
def rgjM1 :List (Option (List Nat)):=[]
def u9o :List (Option (List Nat)):=[some [0,1,2,4],some [6,7,9],some [6,7]]
def u9p :List (Option (List Nat)):=[some [5,6,7,9],none,none,none,none,none,none,none,none,none]
def v8e :List (Option (List Nat)):=[some [0,1,2,4,5,6,29,30,31,36,37,38],some [6,7,9],some [6,7]]
def v8h :List (Option (List Nat)):=[some [5,6,7,9],none,none,none,none,none,none,none,none,none,none,none,none]
def v8d :List (Option (List Nat)):=[some [0,1,2,4,5,6,29,30,31,36,37,38],some [6,7,9],some [6,7]]
def v8g :List (Option (List Nat)):=[some [5,6,7,9],none,none,none,none,none,none,none,none,none,none,none,none,none]
def v8c :List (Option (List Nat)):=[some [0,1,2,71,72,73],some [9,41,43,44],some [0,1,2,4,72,73],some [6,7,9],some [6,7]]
def v8f :List (Option (List Nat)):=[none,some [5,6,7,9],none,none,none,none,none,none,none,none,none]
def rgjN6 :List (Option (List Nat)):=[some [0,2,8],some [9,41,43,44],some [0,1,2,4,72,73],some [6,7,9],some [6,7]]
def rgjM6 :List (Option (List Nat)):=[none,none,some [5,6,7,9],none,none,none,none,none,none,none,none]
def Yh (q:Op) (l0:List R4) (l1:List R4):rgjS→Xv rgjS
 | .h0 v16 aA=>(bif (decide (v16<(l0.length:Int))) then (bif ((decide (0≤v16∧v16<(l0.length:Int)))&&true) then (bif (Nat.beq 1 1&&((decide (0+aA.length=aA.length))&&decide ((aA.length+2+1)*(8+1)≤Uj))) then (.to (.h0 (wrap .i64 (v16+1)) (aA++[(rd l0 v16.toNat).a,(rd l0 v16.toNat).c]))) else .stuck) else .stuck) else (.to (.h1 0 aA)))
 | .h1 v16 aA=>(bif (decide (v16<(l1.length:Int))) then (bif ((decide (0≤v16∧v16<(l1.length:Int)))&&true) then (bif (Nat.beq 1 1&&((decide (0+aA.length=aA.length))&&decide ((aA.length+2+1)*(8+1)≤Uj))) then (.to (.h1 (wrap .i64 (v16+1)) (aA++[(rd l1 v16.toNat).a,(rd l1 v16.toNat).c]))) else .stuck) else .stuck) else (bif (decide (aA.length<4611686018427387904)) then (bif (decide (aA.length=aA.length)) then (.to (.h2 1 ([]:List R4) ([]:List R2) 0 0 (w8t (Yw aA.length (cOf (Zz (Xu (Yw aA.length (cOf (Zz aA)))))))) (Wa (Yw aA.length (cOf (Zz (Xu (Yw aA.length (cOf (Zz aA)))))))))) else .stuck) else .stuck))
 | .h2 v4 aG aP aZ bA aE aH=>(bif (decide (v4<((aE:Nat):Int))) then (bif ((decide (0≤(wrap .i64 (v4 - 1))∧(wrap .i64 (v4 - 1))<((aE:Nat):Int)))&&true) then (bif (decide ((0+(Int.toNat (wrap .i64 (v4 - 1))))<aH.length)) then (bif ((decide (0≤v4∧v4<((aE:Nat):Int)))&&true) then (bif (decide ((0+v4.toNat)<aH.length)) then (.to (.h3 v4 0 aG aP aZ bA aE aH (rd aH (0+(Int.toNat (wrap .i64 (v4 - 1))))) (rd aH (0+v4.toNat)) ([]:List R2))) else .stuck) else .stuck) else .stuck) else .stuck) else (bif (decide ((aG.length:Int)>400)) then (.ret [.nils,(.int .i64 4)]) else (.ret [(.dat aG.length (Zz aG)),(.int .i64 0)])))
 | .h3 v4 v38 aG aP aZ bA aE aH aO bB aB=>(bif (decide (v38<(l0.length:Int))) then (bif ((decide (0≤v38∧v38<(l0.length:Int)))&&true) then (bif (decide ((rd l0 v38.toNat).a ≤aO)) then (bif (decide (aO<(rd l0 v38.toNat).c)) then (bif (Nat.beq 2 2&&((decide (0+aB.length=aB.length))&&decide ((aB.length+1+1)*(16+1)≤Uj))) then (.to (.h3 v4 (wrap .i64 (v38+1)) aG aP aZ bA aE aH aO bB (aB++[(R2.mk (rd l0 v38.toNat).b (rd l0 v38.toNat).d)]))) else .stuck) else (.to (.h3 v4 (wrap .i64 (v38+1)) aG aP aZ bA aE aH aO bB aB))) else (.to (.h3 v4 (wrap .i64 (v38+1)) aG aP aZ bA aE aH aO bB aB))) else .stuck) else (.to (.h4 v4 0 aG aP aZ bA aE aH aO bB aB ([]:List R2))))
 | .h4 v4 v38 aG aP aZ bA aE aH aO bB aB aK=>(bif (decide (v38<(l1.length:Int))) then (bif ((decide (0≤v38∧v38<(l1.length:Int)))&&true) then (bif (decide ((rd l1 v38.toNat).a ≤aO)) then (bif (decide (aO<(rd l1 v38.toNat).c)) then (bif (Nat.beq 2 2&&((decide (0+aK.length=aK.length))&&decide ((aK.length+1+1)*(16+1)≤Uj))) then (.to (.h4 v4 (wrap .i64 (v38+1)) aG aP aZ bA aE aH aO bB aB (aK++[(R2.mk (rd l1 v38.toNat).b (rd l1 v38.toNat).d)]))) else .stuck) else (.to (.h4 v4 (wrap .i64 (v38+1)) aG aP aZ bA aE aH aO bB aB aK))) else (.to (.h4 v4 (wrap .i64 (v38+1)) aG aP aZ bA aE aH aO bB aB aK))) else .stuck) else (bif ((x0a q) (cvT aB) (cvT aK)) then (bif (((w4t q) (cvT aB) (cvT aK)) != 0) then (.ret [.nils,(.int .i64 ((w4t q) (cvT aB) (cvT aK)))]) else (bif (decide (((((z3r q) (cvT aB) (cvT aK)).length :Nat):Int)>0)) then (bif (bA == aO) then (bif (Va (cvT aP) (cvT ((z3r q) (cvT aB) (cvT aK)))) then (bif (Kd (cvT aP) (cvT ((z3r q) (cvT aB) (cvT aK)))) then (.to (.h6 bB aZ aO ((z3r q) (cvT aB) (cvT aK)) v4 aG aP aZ bA aE aH aB aK)) else (.to (.h5 aO bB ((z3r q) (cvT aB) (cvT aK)) ((((z3r q) (cvT aB) (cvT aK)).length :Nat):Int) 0 v4 aG (aG.length:Int) aE aH aB aK))) else .stuck) else (.to (.h5 aO bB ((z3r q) (cvT aB) (cvT aK)) ((((z3r q) (cvT aB) (cvT aK)).length :Nat):Int) 0 v4 aG (aG.length:Int) aE aH aB aK))) else (.to (.h5 aO bB ((z3r q) (cvT aB) (cvT aK)) ((((z3r q) (cvT aB) (cvT aK)).length :Nat):Int) 0 v4 aG (aG.length:Int) aE aH aB aK)))) else .stuck))
 | .h5 v1 v2 v71 v72 v73 aS aD bD aE aH aO bB=>(bif (decide (v73<v72)) then (bif ((decide (0≤v73∧v73<(v71.length:Int)))&&true) then (bif (Nat.beq 4 4&&((decide (0+aD.length=aD.length))&&decide ((aD.length+1+1)*(32+1)≤Uj))) then (.to (.h5 v1 v2 v71 v72 (wrap .i64 (v73+1)) aS (aD++[(R4.mk v1 (rd v71 v73.toNat).a v2 (rd v71 v73.toNat).b)]) bD aE aH aO bB)) else .stuck) else .stuck) else (.to (.h2 (wrap .i64 (aS+1)) aD v71 bD v2 aE aH)))
 | .h6 v2 v8 cN cO aS aD bC bD bX bH bO aB aK=>(bif (decide (v8<(aD.length:Int))) then (bif ((decide (0≤v8∧v8<(aD.length:Int)))&&true) then (bif (decide ((0+v8.toNat)<aD.length)) then (.to (.h6 v2 (wrap .i64 (v8+1)) cN cO aS (aD.set (0+v8.toNat) (R4.mk (rd aD (0+v8.toNat)).a (rd aD (0+v8.toNat)).b v2 (rd aD (0+v8.toNat)).d)) bC bD bX bH bO aB aK)) else .stuck) else .stuck) else (.to (.h2 (wrap .i64 (aS+1)) aD bC bD v2 bH bO)))
def y2n (q:Op) (l0:List R4) (l1:List R4):Xv rgjS:=(bif (z3z (cvT l0)) then (bif ((y6o (cvT l0)) != 0) then (.ret [.nils,(.int .i64 (y6o (cvT l0)))]) else (bif (z3z (cvT l1)) then (bif ((y6o (cvT l1)) != 0) then (.ret [.nils,(.int .i64 (y6o (cvT l1)))]) else (.to (.h0 0 ([]:List Int)))) else .stuck)) else .stuck)
theorem w5w (q:Op) (l0:List R4) (l1:List R4): ∀s,Ys prog (Zy prog (nRg q)) (rgjC q l0 l1) (rgjC q l0 l1 s) (Yh q l0 l1 s):=by cases q <;> refine (?f: ∀q:Op,∀s,Ys prog (Zy prog (nRg q)) (rgjC q l0 l1) (rgjC q l0 l1 s) (Yh q l0 l1 s)) _ <;> exact fun q=>fun
 | .h0 v16 aA=>(lb (fun k0=>(lo fun o0=>(lo fun o1=>(sl Kc 32 [] ⟨[0,1,2,3,4,5,6,10],[],rgjN0,rgjM0⟩ ⟨[],[.keep,.keep,.cells [.len (z9g aA l0 v16).length],.keep,.keep,.keep,.keep,.rowed 1 (z9g aA l0 v16).length (Zz (z9g aA l0 v16))],[]⟩ [true] (pp (xL (aA.length+2) (z9g aA l0 v16).length) (pp (xL (aA.length+2) (z9g aA l0 v16).length) (pp (xS (aA.length+2) (Ze (Zz aA) 0 aA.length 1 [(ii (rd l0 (tn v16)).a),(ii (rd l0 (tn v16)).c)]) (Zz (z9g aA l0 v16))) (pp (pp (xF (Ze (Zz aA) 0 aA.length 1 [(ii (rd l0 (tn v16)).a),(ii (rd l0 (tn v16)).c)])) nn) (ww o1 (ww o0 (tt k0 nn))))))))))) (fun k0=>(sl Kc 36 [] ⟨(List.range 8),[],rgjN1,rgjM1⟩ ⟨[],[],[]⟩ (bl 2 2) (pp (fl aA nn) (tt k0 nn)))))
 | .h1 v16 aA=>(lb (fun k0=>(lo fun o0=>(lo fun o1=>(sl Kc 32 [] ⟨[0,1,2,3,4,5,6,10],[],rgjN1,rgjM1⟩ ⟨[],[.keep,.keep,.cells [.len (z9f aA l1 v16).length],.keep,.keep,.keep,.keep,.rowed 1 (z9f aA l1 v16).length (Zz (z9f aA l1 v16))],[]⟩ [true] (pp (xL (aA.length+2) (z9f aA l1 v16).length) (pp (xL (aA.length+2) (z9f aA l1 v16).length) (pp (xS (aA.length+2) (Ze (Zz aA) 0 aA.length 1 [(ii (rd l1 (tn v16)).a),(ii (rd l1 (tn v16)).c)]) (Zz (z9f aA l1 v16))) (pp (pp (xF (Ze (Zz aA) 0 aA.length 1 [(ii (rd l1 (tn v16)).a),(ii (rd l1 (tn v16)).c)])) nn) (ww o1 (ww o0 (tt k0 nn))))))))))) (fun k0=>(lo fun o0=>(lo fun o1=>(sl Kc 46 [(88,4,Zz ([]:List R4))] ⟨[8,3,4,5,6,2,7,0,1,9],[],u9o,u9p⟩ ⟨[],(kpB 4 [.cells [.grow 9 4,.list 0 (Zz ([]:List R2)),.keep,.keep],.keep,.rowed 1 (y8h aA).length (Zz (y8h aA)),.keep,.keep,.keep]),[]⟩ (bl 2 0) (pp (xL aA.length (y8h aA).length (by first | exact z1v _ _ | exact Wc rfl)) (pp (xS aA.length (Zz (y8h aA)) (Zz (y8h aA))) (pp (fl (y8h aA) (fl ([]:List R4) nn)) (pp (pp (xG (Nat.beq 1 1)) (pp (xG (Nat.beq 1 1)) (pp (xG (Nat.beq 0 0)) (pp (xG (decide (aA.length=aA.length))) (pp (xG (isI (Zz (Xu (Yw aA.length (cOf (Zz aA))))))) (xG (decide (aA.length<4611686018427387904)))))))) (pp (pp (xG (Nat.beq 1 1)) (pp (xG (Nat.beq 1 1)) (pp (xG (Nat.beq 0 0)) (pp (xG (decide (aA.length=aA.length))) (pp (xG (isI (Zz aA))) (xG (decide (aA.length<4611686018427387904)))))))) (tt k0 nn)))))))))))
 | .h2 v4 aG aP aZ bA aE aH=>(lb (fun k0=>(lo fun o0=>(lo fun o1=>(lo fun o2=>(lo fun o3=>(sl Kc 48 [(183,2,Zz ([]:List R2))] ⟨[0,1,2,3,4,5,6,7,8,10,11,12,9],[],v8e,v8h⟩ ⟨[],(kpB 10 [.cells [.grow 11 2,.keep],.keep,.keep]),[]⟩ (trs 3 []) (pp (fl aH (fl ([]:List R2) (fl aG nn))) (ww o3 (ww o2 (ww o1 (ww o0 (tt k0 nn)))))))))))) (fun k0=>(lb (fun k1=>(lr 11 3 [1,1,1,1,1,1,1,0] 1 28 [(4,.nils),(5,(ii 4))] (sl Kc 49 [] ⟨[],[],[some [4,5]],[]⟩ ⟨[],[],[]⟩ (bl 2 2) (tt k1 (tt k0 nn))))) (fun k1=>(lr 11 3 [1,1,1,1,1,1,1,0] 1 28 [(4,(.dat aG.length (Zz aG))),(5,(ii 0))] (sl Kc 54 [] ⟨[],[9],[some [4,5]],[]⟩ ⟨[(4,.frz aG.length aG.length (Zz aG) (Zz aG))],[],[]⟩ (bl 2 0) (pp (xZ (z3k 4 4 0 aG.length aG.length (Zz aG)) aG.length (Zz aG)) (pp (xL aG.length aG.length) (pp (xS aG.length (Zz aG) (Zz aG)) (pp (fl aG nn) (tt k1 (tt k0 nn))))))))))))
 | .h3 v4 v38 aG aP aZ bA aE aH aO bB aB=>(lb (fun k0=>(lo fun aF=>(lb (fun k1=>(lb (fun k2=>(lo fun o0=>(sl Kc 39 [] ⟨[0,1,2,3,4,5,6,7,8,9,10,15,12],[],v8e,v8h⟩ ⟨[],(kpB 10 [.cells [.len (y8g aB l0 v38).length,.keep],.rowed 2 (y8g aB l0 v38).length (Zz (y8g aB l0 v38)),.keep]),[]⟩ (trs 7 []) (pp (xL (aB.length+1) (y8g aB l0 v38).length) (pp (xL (aB.length+1) (y8g aB l0 v38).length) (pp (xS (aB.length+1) (Ze (Zz aB) 0 aB.length 2 [(ii (rd l0 (tn v38)).b),(ii (rd l0 (tn v38)).d)]) (Zz (y8g aB l0 v38))) (pp (fl aH (pp (xF (Ze (Zz aB) 0 aB.length 2 [(ii (rd l0 (tn v38)).b),(ii (rd l0 (tn v38)).d)])) (fl aG nn))) (ww o0 (tt k2 (tt k1 (ww aF (tt k0 nn)))))))))))) (fun k2=>(sl Kc 39 [] ⟨(List.range 13),[],v8e,v8h⟩ ⟨[],[],[]⟩ (trs 6 [false]) (pp (fl aH (fl aB (fl aG nn))) (tt k2 (tt k1 (ww aF (tt k0 nn))))))))) (fun k1=>(sl Kc 39 [] ⟨(List.range 13),[],v8e,v8h⟩ ⟨[],[],[]⟩ (bl 7 1) (pp (fl aH (fl aB (fl aG nn))) (tt k1 (ww aF (tt k0 nn))))))))) (fun k0=>(sl Kc 38 [(183,2,Zz ([]:List R2))] ⟨[0,1,2,3,4,5,6,7,8,9,10,11,13,12],[],v8d,v8g⟩ ⟨[],(kpB 10 [.cells [.keep,.grow 12 2],.keep,.keep,.keep]),[]⟩ (bl 2 2) (pp (fl aH (fl aB (fl ([]:List R2) (fl aG nn)))) (tt k0 nn)))))
 | .h4 v4 v38 aG aP aZ bA aE aH aO bB aB aK=>(lb (fun k0=>(lo fun aF=>(lb (fun k1=>(lb (fun k2=>(lo fun o0=>(sl Kc 39 [] ⟨[0,1,2,3,4,5,6,7,8,9,10,11,16,13],[],v8d,v8g⟩ ⟨[],(kpB 10 [.cells [.keep,.len (y8f aK l1 v38).length],.keep,.rowed 2 (y8f aK l1 v38).length (Zz (y8f aK l1 v38)),.keep]),[]⟩ (trs 7 []) (pp (xL (aK.length+1) (y8f aK l1 v38).length) (pp (xL (aK.length+1) (y8f aK l1 v38).length) (pp (xS (aK.length+1) (Ze (Zz aK) 0 aK.length 2 [(ii (rd l1 (tn v38)).b),(ii (rd l1 (tn v38)).d)]) (Zz (y8f aK l1 v38))) (pp (fl aH (fl aB (pp (xF (Ze (Zz aK) 0 aK.length 2 [(ii (rd l1 (tn v38)).b),(ii (rd l1 (tn v38)).d)])) (fl aG nn)))) (ww o0 (tt k2 (tt k1 (ww aF (tt k0 nn)))))))))))) (fun k2=>(sl Kc 39 [] ⟨(List.range 14),[],v8d,v8g⟩ ⟨[],[],[]⟩ (trs 6 [false]) (pp (fl aH (fl aB (fl aK (fl aG nn)))) (tt k2 (tt k1 (ww aF (tt k0 nn))))))))) (fun k1=>(sl Kc 39 [] ⟨(List.range 14),[],v8d,v8g⟩ ⟨[],[],[]⟩ (bl 7 1) (pp (fl aH (fl aB (fl aK (fl aG nn)))) (tt k1 (ww aF (tt k0 nn))))))))) (fun k0=>(Wu (sl Kc (C':=⟨⟨49,0,true⟩,none,(Zb prog 122 [1,1,1,0,1,0,1,0,0] 0),(some 0),[],⟨Ya [(5,(.ptr 1 0)),(6,(.ptr 2 0)),(7,(.ptr 3 0)),(9,(.ptr 4 0)),(10,(.ptr 6 0))],y0t [(1,⟨[(.fn (nSp q) [])],151,none⟩),(2,⟨[.nils],100,none⟩),(3,⟨[(ii 0)],26,none⟩),(4,⟨[(.sla 5 4 0 aG.length (.un 4)),(.dat aP.length (Zz aP)),(ii aZ),(ii bA)],200,none⟩),(5,⟨rows aG.length (Zz aG),88,some ⟨4,aG.length,(Zz aG)⟩⟩),(6,⟨[(ii aO),(ii bB),(.sl 7 0 2 (.ex 2))],205,none⟩),(7,⟨[(.dat aB.length (Zz aB)),(.dat aK.length (Zz aK))],180,none⟩),(8,⟨[(.sla 9 1 0 aE (.un 1))],93,none⟩),(9,⟨rows aH.length (Zz aH),3,some ⟨1,aH.length,(Zz aH)⟩⟩),(10,⟨[(.sl 11 0 2 (.un 1))],236,none⟩),(11,⟨[(.dat l0.length (Zz l0)),(.dat l1.length (Zz l1))],100,none⟩)],12,[],true⟩,[⟨⟨76,0,true⟩,(Ur prog 190 [1,0,0,1,0,0,1,1,0] 2),(Zb prog 190 [1,0,0,1,0,0,1,1,0] 1),none,[],Ya [(0,(.yld 0)),(1,(.ptr 8 0)),(2,(.ptr 10 0)),(4,(ii v4)),(72,(.yld 0)),(73,(.agg [(ii aO),(ii bB),(.sl 7 0 2 (.ex 2))]))]⟩,⟨⟨49,0,true⟩,none,(.inRangeFunc 0::(Zb prog 122 [1,1,1,0,1,0] 1)),none,(Zy prog 122),Ya [(6,(.ptr 2 0)),(7,(.ptr 3 0)),(9,(.ptr 4 0))]⟩,⟨⟨11,0,true⟩,(Ur prog (nRg q) [1,0] 2),(Zb prog (nRg q) [1,0] 1),none,(Zy prog 28),Ya [(6,(.dat l0.length (Zz l0))),(7,(.dat l1.length (Zz l1)))]⟩],(y6v [(0,⟨.busy,none,49,Ya [(5,(.ptr 1 0)),(6,(.ptr 2 0)),(7,(.ptr 3 0)),(9,(.ptr 4 0))],[23],(Vd prog 122 [1,1,1,0,1,0,0]),(Vd prog 122 [1,1,1,0,1,0,1])⟩)])⟩) 32 [] ⟨[0,1,2,3,4,13,14,10,5,6,7,8],[11,12],[some [5,6,7,9,10],some [0,1,2,4,72,73],some [6,7,9],some [6,7]],[some [5,6,7,9],none,none,none,none,none,none,none,none,none,none,none]⟩ ⟨[],[.keep,.keep,.keep,.keep,.keep,.keep,.keep,.cells [.frz aB.length aB.length (Zz aB) (Zz aB),.frz aK.length aK.length (Zz aK) (Zz aK)],.keep,.keep,.keep,.keep],[]⟩ (bl 2 0) (pp (xZ (z3k 2 2 0 aB.length aB.length (Zz aB)) aB.length (Zz aB)) (pp (xL aB.length aB.length) (pp (xS aB.length (Zz aB) (Zz aB)) (pp (xZ (z3k 2 2 0 aK.length aK.length (Zz aK)) aK.length (Zz aK)) (pp (xL aK.length aK.length) (pp (xS aK.length (Zz aK) (Zz aK)) (pp (fl aG (fl aH nn)) (pp (fl aB (fl aK nn)) (tt k0 nn)))))))))) (lo fun aF=>(lb (fun k1=>(lr 11 3 [1,1,1,1,1,1,1,0] 1 28 [(4,.nils),(5,(ii ((w4t q) (cvT aB) (cvT aK))))] (sl Kc 26 [] ⟨[],[],[some [4,5]],[]⟩ ⟨[],[],[]⟩ (bl 2 3) (tt k1 (pp (pp (xr aB) (pp (xr aK) (xw aF))) nn))))) (fun k1=>(lb (fun k2=>(lb (fun k3=>(lo fun cB=>(lb (fun k4=>(sl Kc 51 [] ⟨[4,5,0,1,2,3,8,9,10,11,7],[],rgjN6,rgjM6⟩ ⟨[],[],[]⟩ (bl 14 16382) (pp (fl aG (fl aH nn)) (tt k4 (pp (pp (xr aP) (pp (xI R2 ((z3r q) (cvT aB) (cvT aK)).length (Zz ((z3r q) (cvT aB) (cvT aK)))) (xw cB))) (tt k3 (tt k2 (tt k1 (pp (pp (xr aB) (pp (xr aK) (xw aF))) nn))))))))) (fun k4=>(sl Kc 71 [] ⟨[4,0,1,2,3,8,9,10,11,7,5],[],v8c,v8f⟩ ⟨[],[],[]⟩ (bl 14 8190) (pp (fl aH (fl aG nn)) (tt k4 (pp (pp (xr aP) (pp (xI R2 ((z3r q) (cvT aB) (cvT aK)).length (Zz ((z3r q) (cvT aB) (cvT aK)))) (xw cB))) (tt k3 (tt k2 (tt k1 (pp (pp (xr aB) (pp (xr aK) (xw aF))) nn)))))))))))) (fun k3=>(sl Kc 71 [] ⟨[4,0,1,2,3,8,9,10,11,7,5],[],v8c,v8f⟩ ⟨[],[],[]⟩ (bl 14 126) (pp (fl aH (fl aG nn)) (tt k3 (tt k2 (tt k1 (pp (pp (xr aB) (pp (xr aK) (xw aF))) nn))))))))) (fun k2=>(sl Kc 71 [] ⟨[4,0,1,2,3,8,9,10,11,7,5],[],v8c,v8f⟩ ⟨[],[],[]⟩ (bl 14 0) (pp (fl aH (fl aG nn)) (tt k2 (tt k1 (pp (pp (xr aB) (pp (xr aK) (xw aF))) nn)))))))))))))
 | .h5 v1 v2 v71 v72 v73 aS aD bD aE aH aO bB=>(lb (fun k0=>(lo fun o0=>(lo fun o1=>(sl Kc 23 [] ⟨[0,1,2,3,4,5,6,7,8,9,13],[],v8c,v8f⟩ ⟨[],[.cells [.len (z9h aD v1 v71 v73 v2).length,.keep,.keep,.keep],.keep,.keep,.keep,.keep,.keep,.keep,.keep,.keep,.keep,.rowed 4 (z9h aD v1 v71 v73 v2).length (Zz (z9h aD v1 v71 v73 v2))],[]⟩ [true] (pp (xL (aD.length+1) (z9h aD v1 v71 v73 v2).length) (pp (xL (aD.length+1) (z9h aD v1 v71 v73 v2).length) (pp (xS (aD.length+1) (Ze (Zz aD) 0 aD.length 4 [(ii v1),(ii (rd v71 (tn v73)).a),(ii v2),(ii (rd v71 (tn v73)).b)]) (Zz (z9h aD v1 v71 v73 v2))) (pp (fl aH (pp (xF (Ze (Zz aD) 0 aD.length 4 [(ii v1),(ii (rd v71 (tn v73)).a),(ii v2),(ii (rd v71 (tn v73)).b)])) nn)) (ww o1 (ww o0 (tt k0 nn))))))))))) (fun k0=>(sl Kc 22 [] ⟨[1,2,3,4,0,5,6,7,8,10],[],u9o,u9p⟩ ⟨[],[],[]⟩ (bl 2 0) (pp (fl aH (fl aD nn)) (tt k0 nn)))))
 | .h6 v2 v8 cN cO aS aD bC bD bX bH bO aB aK=>(lb (fun k0=>(lo fun o0=>(lo fun o1=>(sl Kc 33 [] ⟨(List.range 11),[],rgjN6,rgjM6⟩ ⟨[],[.cells [.len (y8i aD v8 v2).length,.keep,.keep,.keep],.rowed 4 (y8i aD v8 v2).length (Zz (y8i aD v8 v2)),.keep,.keep,.keep,.keep,.keep,.keep,.keep,.keep,.keep],[]⟩ [true] (pp (xL aD.length (y8i aD v8 v2).length) (pp (xL aD.length (y8i aD v8 v2).length) (pp (xS aD.length (Xe (Zz aD) (0+(tn v8)) 2 [(ii v2)]) (Zz (y8i aD v8 v2))) (pp (pp (xF (Xe (Zz aD) (0+(tn v8)) 2 [(ii v2)])) (fl bO nn)) (ww o1 (ww o0 (tt k0 nn))))))))))) (fun k0=>(sl Kc 36 [] ⟨[2,3,4,5,0,6,7,8,9,1],[],u9o,u9p⟩ ⟨[],[],[]⟩ (bl 2 0) (pp (fl bO (fl aD nn)) (tt k0 nn)))))
theorem x7w (q:Op) (l0:List R4) (l1:List R4):Ys prog (Zy prog (nRg q)) (rgjC q l0 l1) (Za prog (nRg q) [(.dat l0.length (Zz l0)),(.dat l1.length (Zz l1))] true []) (y2n q l0 l1):=by cases q <;> exact (lo fun bW=>(lb (fun k0=>(lr 11 3 [1,1,1,1,1,1,1,0] 1 28 [(4,.nils),(5,(ii (y6o (cvT l0))))] (sl Kc 65 [] ⟨[],[],[some [4,5]],[]⟩ ⟨[],[],[]⟩ [true,true] (tt k0 (tt k0 (pp (pp (xr l0) (xw bW)) nn)))))) (fun k0=>(lo fun aF=>(lb (fun k1=>(lr 11 3 [1,1,1,1,1,1,1,0] 1 28 [(4,.nils),(5,(ii (y6o (cvT l1))))] (sl Kc 67 [] ⟨[],[],[some [4,5]],[]⟩ ⟨[],[],[]⟩ [false,true] (tt k1 (pp (pp (xr l1) (xw aF)) (tt k0 (pp (pp (xr l0) (xw bW)) nn))))))) (fun k1=>(sl Kc 108 [(3,1,Zz ([]:List Int))] ⟨[5,4,6,0,1,2,3,7],[],rgjN0,rgjM0⟩ ⟨[],[.keep,.keep,.cells [.grow 7 1],.keep,.keep,.keep,.keep,.keep],[]⟩ [false,false,true] (pp (fl ([]:List Int) nn) (tt k1 (pp (pp (xr l1) (xw aF)) (tt k0 (pp (pp (xr l0) (xw bW)) nn))))))))))))
theorem v8b (q:Op) (l0:List R4) (l1:List R4) (n:Nat) (vs:List AVal) (h:Zs (Yh q l0 l1) n (y2n q l0 l1)=.ret vs):Jw prog (Zy prog (nRg q)) (Za prog (nRg q) [(.dat l0.length (Zz l0)),(.dat l1.length (Zz l1))] true []) vs:=by have:=Zc (w5w q l0 l1) n _ (x7w q l0 l1);rwa [h] at this
open Go.Sort Go.Shelf Go.RowKit Go.Lib
def w8r (E:Int→Int) (cs:List Int):Nat→Nat→Int
 | 0,_=>0
 | k+1,i=>bif E (rd cs i) != 0 then E (rd cs i) else w8r E cs k (i+1)
def eJ (e:Int) (n:Nat):Int:=bif e != 0 then e else x5d n
theorem v8o {α:Type} [Xz α] (L:List α):y4h (eJ 0 L.length) L=Qw L:=(z8t L).symm
theorem x1z {n:Nat} (h:x5d n=0):n≤400:=by
 unfold x5d at h;by_cases g:(n:Int)>400
 ·rw [Ag g] at h;cases h
 ·omega
theorem v4j {α:Type} {e:Int} (L:List α) (h:(e != 0)=false):x4x e L=L:=by unfold x4x;rw [h];rfl
def rgS (q:Op) (a b:List R4) (x:Int):List R2:=spJ q.k (D4.inn a x) (D4.inn b x)
def rgA (q:Op) (a b:List R4) (x:Int):Int:=spE q.k (D4.inn a x) (D4.inn b x)
theorem u9r (q:Op) (a b:List R4) (x:Int) (h:(rgA q a b x != 0)=false):(rgS q a b x).length ≤1000:=by
 have h:rgA q a b x=0:=by simpa using h
 unfold rgA spE at h;cases g1:(y7v (D4.inn a x) != 0) with
 | true=>rw [g1,Ab] at h;rw [h] at g1;cases g1
 | false=>
  cases g2:(y7v (D4.inn b x) != 0) with
  | true=>rw [g1,g2,Aa,Ab] at h;rw [h] at g2;cases g2
  | false=>rw [g1,g2,Aa,Aa] at h;exact AL (x1z h) (by omega)
section
variable (q:Op) (a b:List R4) (ha:a.length≤400) (hb:b.length≤400)
include ha hb
theorem u4i (i:Nat) (out:List R4) (last:List R2) (first fin x x':Int): ∀(k j:Nat) (acc:List R2),j+k=a.length→acc.length≤j→
  ∃n,∀N,Zs (Yh q a b) (N+n) (.to (.h3 (i:Int) (j:Int) out last first fin ((D4.cuts (a++b)).length) (Wa (Xu (D4.ends (a++b)))) x x' acc))=Zs (Yh q a b) N (.to (.h4 (i:Int) 0 out last first fin ((D4.cuts (a++b)).length) (Wa (Xu (D4.ends (a++b)))) x x' (acc++D4.inn (a.drop j) x) []))
 | 0,j,acc,h,h'=>by have _u:=ha;have _v:=hb;refine ⟨1,fun N=> ?_⟩;rw [Ar (by omega),show D4.inn ([]:List R4) x=[] from rfl,AB,Zv];simp (disch:=omega) only [Yh,Yz,Aa]
 | k+1,j,acc,h,h'=>by
  have hj:j<a.length:=by omega
  obtain ⟨n,hn⟩:=u4i i out last first fin x x' k (j+1) (acc++D4.inn [rd a j] x) (by omega) (by have:=D4.inn_length [rd a j] x;simp only [Ay,Br] at*;omega)
  refine ⟨n+1,fun N=> ?_⟩;have e:D4.inn (a.drop j) x=D4.inn [rd a j] x++D4.inn (a.drop (j+1)) x:=by rw [Yx hj,←D4.inn_append];rfl
  rw [e,←AC,Zv,←AH,←hn N];by_cases h1:D4.lo (rd a j)≤x
  ·by_cases h2:x<D4.hi (rd a j)
   ·rw [D4.inn_t _ _ h1 h2];simp only [D4] at h1 h2 ⊢;simp (disch:=omega) only [Yh,Xn,Zm,Zq,Zo,Zr,Yc,Yk,Yp,Zf,Zk,Zx,Yg,Zj,Ah,Av,Ai,Al,Ab,Aa]
   ·rw [D4.inn_f2 _ _ h2,AB];simp only [D4] at h1 h2;simp (disch:=omega) only [Yh,Xn,Yz,Zm,Zq,Zo,Zr,Yc,Yk,Yp,Zf,Zk,Zx,Yg,Zj,Ah,Av,Ai,Al,Ab,Aa]
  ·rw [D4.inn_f1 _ _ h1,AB];simp only [D4] at h1;simp (disch:=omega) only [Yh,w0f,Zm,Zq,Zo,Zr,Yc,Yk,Yp,Zf,Zk,Zx,Yg,Zj,Ah,Av,Ai,Al,Ab,Aa]
theorem u4h (i:Nat) (out:List R4) (last:List R2) (first fin x x':Int) (o1:List R2): ∀(k j:Nat) (acc:List R2),j+k=b.length→acc.length≤j→
  ∃n,∀N,Zs (Yh q a b) (N+n) (.to (.h4 (i:Int) (j:Int) out last first fin ((D4.cuts (a++b)).length) (Wa (Xu (D4.ends (a++b)))) x x' o1 acc))=Zs (Yh q a b) N (.to (.h4 (i:Int) (b.length:Int) out last first fin ((D4.cuts (a++b)).length) (Wa (Xu (D4.ends (a++b)))) x x' o1 (acc++D4.inn (b.drop j) x)))
 | 0,j,acc,h,h'=>by have _u:=ha;have _v:=hb;refine ⟨0,fun N=> ?_⟩;rw [Ar (by omega),show D4.inn ([]:List R4) x=[] from rfl,AB,A4,show j=b.length by omega]
 | k+1,j,acc,h,h'=>by
  have hj:j<b.length:=by omega
  obtain ⟨n,hn⟩:=u4h i out last first fin x x' o1 k (j+1) (acc++D4.inn [rd b j] x) (by omega) (by have:=D4.inn_length [rd b j] x;simp only [Ay,Br] at*;omega)
  refine ⟨n+1,fun N=> ?_⟩;have e:D4.inn (b.drop j) x=D4.inn [rd b j] x++D4.inn (b.drop (j+1)) x:=by rw [Yx hj,←D4.inn_append];rfl
  rw [e,←AC,Zv,←AH,←hn N];by_cases h1:D4.lo (rd b j)≤x
  ·by_cases h2:x<D4.hi (rd b j)
   ·rw [D4.inn_t _ _ h1 h2];simp only [D4] at h1 h2 ⊢;simp (disch:=omega) only [Yh,Xn,Zm,Zq,Zo,Zr,Yc,Yk,Yp,Zf,Zk,Zx,Yg,Zj,Ah,Av,Ai,Al,Ab,Aa]
   ·rw [D4.inn_f2 _ _ h2,AB];simp only [D4] at h1 h2;simp (disch:=omega) only [Yh,Xn,Yz,Zm,Zq,Zo,Zr,Yc,Yk,Yp,Zf,Zk,Zx,Yg,Zj,Ah,Av,Ai,Al,Ab,Aa]
  ·rw [D4.inn_f1 _ _ h1,AB];simp only [D4] at h1;simp (disch:=omega) only [Yh,w0f,Zm,Zq,Zo,Zr,Yc,Yk,Yp,Zf,Zk,Zx,Yg,Zj,Ah,Av,Ai,Al,Ab,Aa]
theorem u4g (i:Nat) (hi:i≤2000) (x x':Int) (s:List R2) (first:Int) (o1 o2:List R2) (hs:s.length≤1000): ∀(k j:Nat) (out:List R4),j+k=s.length→out.length≤10000000+j→
  ∃n,∀N,Zs (Yh q a b) (N+n) (.to (.h5 x x' s (s.length:Int) (j:Int) (i:Int) out first ((D4.cuts (a++b)).length) (Wa (Xu (D4.ends (a++b)))) o1 o2))=Zs (Yh q a b) N (.to (.h2 ((i+1:Nat):Int) (out++(s.drop j).map (D4.put x x')) s first x' ((D4.cuts (a++b)).length) (Wa (Xu (D4.ends (a++b))))))
 | 0,j,out,h,ho=>by have _u:=ha;have _v:=hb;refine ⟨1,fun N=> ?_⟩;rw [Ar (by omega),Zv];simp (disch:=omega) only [Yh,Yz,Zk,Zx,Aa,A5,AB]
 | k+1,j,out,h,ho=>by
  obtain ⟨n,hn⟩:=u4g i hi x x' s first o1 o2 hs k (j+1) (out++[D4.put x x' (rd s j)]) (by omega) (by simp;omega)
  refine ⟨n+1,fun N=> ?_⟩;have:=hn N;rw [Yx (show j<s.length by omega),AW,←AC,Zv];simp (disch:=omega) only [Yh,Zm,Zq,Zo,Zr,Yc,Yk,Yp,Zf,Zk,Zx,Yg,Zj,Ah,Av,Ai,Al,Ab,Aa];rw [AH] at this;exact this
theorem u4f (i:Nat) (hi:i≤2000) (x x' fin:Int) (s last:List R2) (first:Int) (o1 o2:List R2): ∀(k j:Nat) (out:List R4),j+k=out.length→out.length≤10000000→
  ∃n,∀N,Zs (Yh q a b) (N+n) (.to (.h6 x' (j:Int) x s (i:Int) out last first fin ((D4.cuts (a++b)).length) (Wa (Xu (D4.ends (a++b)))) o1 o2))=Zs (Yh q a b) N (.to (.h2 ((i+1:Nat):Int) (D4.grow out j x') last first x' ((D4.cuts (a++b)).length) (Wa (Xu (D4.ends (a++b))))))
 | 0,j,out,h,ho=>by have _u:=ha;have _v:=hb;refine ⟨1,fun N=> ?_⟩;rw [D4.grow_nil _ _ _ (by omega),Zv];simp (disch:=omega) only [Yh,Yz,Zk,Zx,Aa]
 | k+1,j,out,h,ho=>by
  obtain ⟨n,hn⟩:=u4f i hi x x' fin s last first o1 o2 k (j+1) (out.set j (D4.ext x' (rd out j))) (by simp;omega) (by simpa using ho)
  refine ⟨n+1,fun N=> ?_⟩;have:=hn N;rw [D4.grow_set out j _ (by omega)] at this;rw [←AC,Zv];simp (disch:=omega) only [Yh,Zm,Zq,Zo,Zr,Yc,Yk,Yp,Zf,Zk,Zx,Yg,Zj,Ah,Av,Ai,Al,Ab,Aa];exact this
theorem v0z : ∀(k i:Nat) (s:Sw R4 R2),k=(D4.cuts (a++b)).length - 1 - i→i≤(D4.cuts (a++b)).length →s.out.length≤i*1000→s.last.length≤1000→s.first≤s.out.length→
  ∃n,Zs (Yh q a b) n (.to (.h2 ((i+1:Nat):Int) s.out s.last (s.first:Int) s.fin ((D4.cuts (a++b)).length) (Wa (Xu (D4.ends (a++b))))))=.ret (y4h (eJ (w8r (rgA q a b) (D4.cuts (a++b)) k i) (D4.goS (rgS q a b) (D4.cuts (a++b)) k i s).out.length) (D4.goS (rgS q a b) (D4.cuts (a++b)) k i s).out)
 | 0,i,s,h,hi,ho,hla,hf=>by
  have _u:=ha;have _v:=hb;have hc:=D4.cuts_length (a++b);refine ⟨1,?_⟩;rw [Zv,show D4.goS (rgS q a b) (D4.cuts (a++b)) 0 i s=s from rfl,show w8r (rgA q a b) (D4.cuts (a++b)) 0 i=0 from rfl,v8o];unfold Qw;by_cases g:(s.out.length:Int)>400
  ·simp (disch:=omega) only [Yh,Yz,Yn,Ab,Aa,Zp]
  ·simp (disch:=omega) only [Yh,Yz,Xm,Ab,Aa,Zp]
 | k +1,i,s,h,hi,ho,hla,hf=>by
  have hc:=D4.cuts_length (a++b);rw [Ay] at hc;have hi1:i+1<(D4.cuts (a++b)).length :=by omega
  have hpl:(Wa (Xu (D4.ends (a++b)))).length =2*(a.length+b.length):=by rw [Ug,Xf,D4.ends_length,Ay]
  have r0:rd (Wa (Xu (D4.ends (a++b)))) i=rd (D4.cuts (a++b)) i:=z4b _ _ (by show i<(D4.cuts (a++b)).length;omega);have r1:rd (Wa (Xu (D4.ends (a++b)))) (i+1)=rd (D4.cuts (a++b)) (i+1):=z4b _ _ (by show i+1<(D4.cuts (a++b)).length;omega);have hbig:i*1000≤2000*1000:=AK _ (by omega);have hgo:D4.goS (rgS q a b) (D4.cuts (a++b)) (k+1) i s=D4.goS (rgS q a b) (D4.cuts (a++b)) k (i+1) (D4.oneS (rgS q a b (rd (D4.cuts (a++b)) i)) (rd (D4.cuts (a++b)) i) (rd (D4.cuts (a++b)) (i+1)) s):=rfl;have hfe: ∀x,x=rd (D4.cuts (a++b)) i→(rgA q a b x != 0)=false→w8r (rgA q a b) (D4.cuts (a++b)) (k+1) i=w8r (rgA q a b) (D4.cuts (a++b)) k (i+1):=fun x hx z=>by show (bif rgA q a b (rd (D4.cuts (a++b)) i) != 0 then _ else _)=_;rw [←hx,z];rfl
  revert hgo hfe r0;generalize hx:rd (D4.cuts (a++b)) i=x;generalize hx':rd (D4.cuts (a++b)) (i+1)=x' at r1;intro r0 hgo hfe;obtain ⟨n3,h3⟩:=u4i q a b ha hb (i+1) s.out s.last (s.first:Int) s.fin x x' a.length 0 [] (Ah _) (An _);simp only [AX,Bg,Kb] at h3;obtain ⟨n4,h4⟩:=u4h q a b ha hb (i+1) s.out s.last (s.first:Int) s.fin x x' (D4.inn a x) b.length 0 [] (Ah _) (An _);simp only [AX,Bg,Kb] at h4;have st0: ∀N,Zs (Yh q a b) (N+n4+n3+1) (.to (.h2 ((i+1:Nat):Int) s.out s.last (s.first:Int) s.fin ((D4.cuts (a++b)).length) (Wa (Xu (D4.ends (a++b))))))=Zs (Yh q a b) N (.to (.h4 ((i+1:Nat):Int) (b.length:Int) s.out s.last (s.first:Int) s.fin ((D4.cuts (a++b)).length) (Wa (Xu (D4.ends (a++b)))) x x' (D4.inn a x) (D4.inn b x))):=fun N=>by
   rw [←h4 N,←h3 (N+n4),Zv];have e1:wrap .i64 (((i+1:Nat):Int) - 1)=(i:Int):=by rw [Zt];exact Zk (by omega)
   simp (disch:=omega) only [Yh,e1,r0,r1,Zm,Zq,Zo,Zr,Yc,Yk,Yp,Zf,Zk,Zx,Yg,Zj,Ah,Av,Ai,Al,Ab,Aa]
  have w1:x0a q (D4.inn a x) (D4.inn b x)=true:=rfl;have f1:z0j (Zz (D4.inn a x))=true:=Xp _;have f2:z0j (Zz (D4.inn b x))=true:=Xp _;rcases Ym (rgA q a b x != 0) with z | z
  ·have z':(w4t q (D4.inn a x) (D4.inn b x) != 0)=true:=z;refine ⟨1+n4+n3+1,?_⟩;rw [st0 1,Zv];have e:w8r (rgA q a b) (D4.cuts (a++b)) (k+1) i=rgA q a b x:=by show (bif rgA q a b (rd (D4.cuts (a++b)) i) != 0 then rgA q a b (rd (D4.cuts (a++b)) i) else _)=_;rw [hx,z];rfl
   simp (disch:=omega) only [Yh,Yz,z',w1,f1,f2,Zm,Zq,Zo,Zr,Yc,Yk,Yp,Zf,Zk,Zx,Yg,Zj,Ah,Av,Ai,Al,Ab,Aa,Zp];rw [e,show eJ (rgA q a b x) _=rgA q a b x by unfold eJ;rw [z];rfl,z2k _ z];rfl
  have z':(w4t q (D4.inn a x) (D4.inn b x) != 0)=false:=z;have v:z3r q (D4.inn a x) (D4.inn b x)=rgS q a b x:=v4j _ z;have hsl:=u9r q a b x z;have w2:Va s.last (rgS q a b x)=true:=Ag (by omega);rw [hgo,hfe x rfl z];have ol:(D4.oneS (rgS q a b x) x x' s).out.length ≤s.out.length+(rgS q a b x).length :=by
   unfold Dim.oneS;cases decide (0<(rgS q a b x).length)&&((s.fin == x)&&D4.same s.last (rgS q a b x))
   ·simp
   ·simp [Dim.grow_length]
  rcases Ym (decide (0<(rgS q a b x).length)&&((s.fin == x)&&D4.same s.last (rgS q a b x))) with g | g
  ·obtain ⟨n6,h6⟩:=u4f q a b ha hb (i+1) (by omega) x x' s.fin (rgS q a b x) s.last (s.first:Int) (D4.inn a x) (D4.inn b x) (s.out.length - s.first) s.first s.out (by omega) (by omega)
   have e:D4.oneS (rgS q a b x) x x' s=⟨D4.grow s.out s.first x',s.last,s.first,x'⟩:=by unfold Dim.oneS;rw [g];rfl
   obtain ⟨n0,h0⟩:=v0z k (i+1) (D4.oneS (rgS q a b x) x x' s) (by omega) (by omega) (by omega) (by rw [e];exact hla) (by rw [e];simpa [Dim.grow_length] using hf);refine ⟨n0+n6+1+n4+n3+1,?_⟩;rw [st0 (n0+n6+1),Zv];simp only [Ac,At] at g;obtain ⟨g1,g2,g3⟩:=g;have g3':Kd s.last (rgS q a b x)=true:=g3;simp (disch:=omega) only [Yh,Yz,Yn,z',v,g2,g3',w1,f1,f2,w2,Zm,Zq,Zo,Zr,Yc,Yk,Yp,Zf,Zk,Zx,Yg,Zj,Ah,Av,Ai,Al,Ab,Aa];rw [h6 n0];rw [e] at h0 ⊢;exact h0
  ·obtain ⟨n5,h5⟩:=u4g q a b ha hb (i+1) (by omega) x x' (rgS q a b x) (s.out.length:Int) (D4.inn a x) (D4.inn b x) hsl (rgS q a b x).length 0 s.out (Ah _) (by omega);simp only [AX,Kb] at h5;have e:D4.oneS (rgS q a b x) x x' s=⟨s.out++(rgS q a b x).map (D4.put x x'),rgS q a b x,s.out.length,x'⟩:=by unfold Dim.oneS;rw [g];rfl
   obtain ⟨n0,h0⟩:=v0z k (i+1) (D4.oneS (rgS q a b x) x x' s) (by omega) (by omega) (by omega) (by rw [e];exact hsl) (by rw [e];simp);have hg:Zs (Yh q a b) 1 (.to (.h4 ((i+1:Nat):Int) (b.length:Int) s.out s.last (s.first:Int) s.fin ((D4.cuts (a++b)).length) (Wa (Xu (D4.ends (a++b)))) x x' (D4.inn a x) (D4.inn b x)))=.to (.h5 x x' (rgS q a b x) ((rgS q a b x).length :Int) 0 ((i+1:Nat):Int) s.out (s.out.length:Int) ((D4.cuts (a++b)).length) (Wa (Xu (D4.ends (a++b)))) (D4.inn a x) (D4.inn b x)):=by
    rw [show (1:Nat)=0+1 from rfl,Zv];have e3:D4.same s.last (rgS q a b x)=Kd s.last (rgS q a b x):=rfl;rw [e3] at g;by_cases g1:0<(rgS q a b x).length
    ·rw [Ag g1,Al] at g;rcases Ym (s.fin == x) with g2 | g2
     ·rw [g2,Al] at g;simp (disch:=omega) only [Yh,Yz,Yn,z',v,g2,g,w1,f1,f2,w2,Zm,Zq,Zo,Zr,Yc,Yk,Yp,Zf,Zk,Zx,Yg,Zj,Ah,Av,Ai,Al,Ab,Aa];rfl
     ·simp (disch:=omega) only [Yh,Yz,Yn,z',v,g2,w1,f1,f2,w2,Zm,Zq,Zo,Zr,Yc,Yk,Yp,Zf,Zk,Zx,Yg,Zj,Ah,Av,Ai,Al,Ab,Aa];rfl
    ·simp (disch:=omega) only [Yh,Yz,Xm,z',v,w1,f1,f2,w2,Zm,Zq,Zo,Zr,Yc,Yk,Yp,Zf,Zk,Zx,Yg,Zj,Ah,Av,Ai,Al,Ab,Aa];rfl
   refine ⟨n0+n5+1+n4+n3+1,?_⟩;rw [st0 (n0+n5+1),z8g _ (n0+n5) 1,hg,h5 n0];rw [e] at h0 ⊢;exact h0
theorem u4j : ∀(k i:Nat) (acc:List Int),i+k=b.length→acc=D4.ends (a++b.take i)→ ∃n,Zs (Yh q a b) n (.to (.h1 (i:Int) acc))=.ret (y4h (eJ (w8r (rgA q a b) (D4.cuts (a++b)) ((D4.cuts (a++b)).length - 1) 0) (D4.goS (rgS q a b) (D4.cuts (a++b)) ((D4.cuts (a++b)).length - 1) 0 ⟨[],[],0,0⟩).out.length) (D4.goS (rgS q a b) (D4.cuts (a++b)) ((D4.cuts (a++b)).length - 1) 0 ⟨[],[],0,0⟩).out)
 | 0,i,acc,h,h'=>by
  have _u:=ha;have _v:=hb;have e:acc=D4.ends (a++b):=by rw [h',AQ (by omega)]
  subst e;have hle:=D4.ends_length (a++b);rw [Ay] at hle;obtain ⟨n,hn⟩:=v0z q a b ha hb ((D4.cuts (a++b)).length - 1) 0 ⟨[],[],0,0⟩ (by omega) (AD _) (AD _) (AD _) (AD _);refine ⟨n+1,?_⟩;rw [Zv];simp (disch:=omega) only [Yh,Xr,z0c,z9z,Yz,Yk,Yp,Av,Ab,Aa];exact hn
 | k+1,i,acc,h,h'=>by
  have hle:acc.length≤2*(400+i):=by rw [h',D4.ends_length];simp only [Ay,Bc];omega
  obtain ⟨n,hn⟩:=u4j k (i+1) (acc++D4.ends [rd b i]) (by omega) (by
   rw [h',Ba];have:b[i]? =some (rd b i):=by rw [Yo (show i<b.length by omega)];exact Aq _
   rw [this];simp [Dim.ends])
  refine ⟨n+1,?_⟩;rw [Zv];simp (disch:=omega) only [Yh,Zm,Zq,Zo,Zr,Yc,Yk,Yp,Zf,Zk,Zx,Yg,Zj,Ah,Av,Ai,Al,Ab,Aa];exact hn
theorem u4k : ∀(k i:Nat) (acc:List Int),i+k=a.length→acc=D4.ends (a.take i)→ ∃n,Zs (Yh q a b) n (.to (.h0 (i:Int) acc))=.ret (y4h (eJ (w8r (rgA q a b) (D4.cuts (a++b)) ((D4.cuts (a++b)).length - 1) 0) (D4.goS (rgS q a b) (D4.cuts (a++b)) ((D4.cuts (a++b)).length - 1) 0 ⟨[],[],0,0⟩).out.length) (D4.goS (rgS q a b) (D4.cuts (a++b)) ((D4.cuts (a++b)).length - 1) 0 ⟨[],[],0,0⟩).out)
 | 0,i,acc,h,h'=>by have _u:=ha;have _v:=hb;obtain ⟨n,hn⟩:=u4j q a b ha hb b.length 0 acc (Ah _) (by rw [h',AQ (by omega),List.take_zero,AB]);refine ⟨n+1,?_⟩;rw [Zv];simp (disch:=omega) only [Yh,Yz,Aa];exact hn
 | k+1,i,acc,h,h'=>by
  have hle:acc.length≤2*(400+i):=by rw [h',D4.ends_length];simp only [Ay,Bc];omega
  obtain ⟨n,hn⟩:=u4k k (i+1) (acc++D4.ends [rd a i]) (by omega) (by
   rw [h',Ba];have:a[i]? =some (rd a i):=by rw [Yo (show i<a.length by omega)];exact Aq _
   rw [this];simp [Dim.ends])
  refine ⟨n+1,?_⟩;rw [Zv];simp (disch:=omega) only [Yh,Zm,Zq,Zo,Zr,Yc,Yk,Yp,Zf,Zk,Zx,Yg,Zj,Ah,Av,Ai,Al,Ab,Aa];exact hn
end
def rgE (q:Op) (a b:List R4):Int:=bif y6o a != 0 then y6o a else bif y6o b != 0 then y6o b else eJ (w8r (rgA q a b) (D4.cuts (a++b)) ((D4.cuts (a++b)).length - 1) 0) (rgJ q.k a b).length
def Vv (q:Op) (a b:List R4):List R4:=x4x (rgE q a b) (rgJ q.k a b)
def x3i (q:Op) (a b:List R4):Int:=rgE q a b
def Qf (q:Op) (a b:List R4):Bool:=true
theorem w2d {l:List R4} (h:(y6o l != 0)=false):l.length≤400:=by
 refine A0 fun g=> ?_;have h:y6o l=0:=by simpa using h
 unfold y6o at h;rw [Ag (by omega)] at h;cases h
theorem rg_run (q:Op) (a b:List R4) (h:Qf q a b=true): ∃n,Zs (Yh q a b) n (y2n q a b)=.ret (y4h (rgE q a b) (rgJ q.k a b)):=by
 unfold y2n;have o: ∀l,z3z l=true:=fun _=>rfl;simp only [Zm,o,Ab];rcases Ym (y6o a != 0) with q1 | q1
 ·exact ⟨0,by simp only [rgE,q1,Ab,z2k _ q1];rfl⟩
 rcases Ym (y6o b != 0) with q2 | q2
 ·exact ⟨0,by simp only [rgE,q1,q2,Ab,Aa,z2k _ q2];rfl⟩
 obtain ⟨n,hn⟩:=u4k q a b (w2d q1) (w2d q2) a.length 0 [] (Ah _) rfl;refine ⟨n,?_⟩;simp only [rgE,q1,q2,Aa];exact hn
def fRg (q:Op):List AVal→Option (AVal×Bool)
 | [a0,a1]=>match asL R4 a0,asL R4 a1 with
  | some (L0,g0,n0),some (L1,g1,n1)=>some (.tup [.dat (Vv q L0 L1).length (Zz (Vv q L0 L1)),.int .i64 (x3i q L0 L1)],isT R4 n0 g0&&(isT R4 n1 g1&&(Qf q L0 L1)))
  | _,_=>none
 | _=>none
theorem v4f (q:Op) {S:Specs} (hS:Zu prog S):Zu prog (S.with (nRg q) (fRg q)):=by
 refine w8s hS (by cases q <;> kernel_rfl) fun args v h=> ?_;unfold fRg at h;split at h
 ·rename_i a0 a1;split at h
  ·rename_i L0 g0 n0 L1 g1 n1 e0 e1;simp only [Ae,Ad,Ac] at h;obtain ⟨rfl,ho0,ho1,hw⟩:=h;obtain ⟨N,hN⟩:=rg_run q L0 L1 hw;exact ⟨_,_,(.cons (asL_le e0 ho0) (.cons (asL_le e1 ho1) .nil)),z4t _ _,v8b q L0 L1 N _ hN,3,z9i _ _⟩
  ·cases h
 ·cases h
def Ud :Specs:=((Uc.with (nRg .u) (fRg .u)).with (nRg .e) (fRg .e)).with (nRg .d) (fRg .d)
theorem Ud_ok :Zu prog Ud:=v4f .d (v4f .e (v4f .u Kc))
structure R7 where
 (a b c d e f g:Int)
instance : Xz R7 where
 w:=7
 d:=⟨0,0,0,0,0,0,0⟩
 cells x:=[.int .u8 x.a,.int .i64 x.b,.int .i64 x.c,.int .i64 x.d,.int .i64 x.e,.int .i64 x.f,.int .i64 x.g]
 of l:=⟨iOf (l.getD 0 .undef),iOf (l.getD 1 .undef),iOf (l.getD 2 .undef),iOf (l.getD 3 .undef),iOf (l.getD 4 .undef),iOf (l.getD 5 .undef),iOf (l.getD 6 .undef)⟩
 len _:=rfl
 pos:=by decide
 flat _:=rfl
 sc _:=rfl
 back _:=rfl
inductive Ax where
 | x | y | z
def Ax.lo (q:Ax) (r:R6):Int:=match q with
 | .x =>r.a
 | .y =>r.b
 | .z =>r.c
def Ax.hi (q:Ax) (r:R6):Int:=match q with
 | .x =>r.d
 | .y =>r.e
 | .z =>r.f
def Ax.rc (q:Ax) (r:R6):R4:=match q with
 | .x =>⟨r.b,r.c,r.e,r.f⟩
 | .y =>⟨r.a,r.c,r.d,r.f⟩
 | .z =>⟨r.a,r.b,r.d,r.e⟩
def Ax.ix (q:Ax):Int:=match q with
 | .x =>0
 | .y =>1
 | .z =>2
def sdI (s:Bool):Int:=match s with
 | true=>0
 | false=>1
def qd (q:Ax) (s:Bool) (p:Int) (t:R4):R7:=match q,s with
 | .x,true=>⟨0,p,t.a,t.b,p,t.c,t.d⟩
 | .x,false=>⟨1,p,t.a,t.b,p,t.c,t.d⟩
 | .y,true=>⟨2,t.a,p,t.b,t.c,p,t.d⟩
 | .y,false=>⟨3,t.a,p,t.b,t.c,p,t.d⟩
 | .z,true=>⟨4,t.a,t.b,p,t.c,t.d,p⟩
 | .z,false=>⟨5,t.a,t.b,p,t.c,t.d,p⟩
def z1l (q:Ax) (L:List R6) (p:Int):List R4:=(L.filter fun r=>decide (q.lo r≤p)&&decide (p<q.hi r)).map q.rc
abbrev nV1 :Ax→Nat
 | .x =>nMv1
 | .y =>nMv4
 | .z =>nMv7
abbrev nV2 :Ax→Nat
 | .x =>nMv2
 | .y =>nMv5
 | .z =>nMv8
abbrev nV3 :Ax→Nat
 | .x =>nMv3
 | .y =>nMv6
 | .z =>nMv9
def isV (q:Ax) (a b c:Nat):Bool:=Nat.beq a (nV1 q)&&(Nat.beq b (nV2 q)&&Nat.beq c (nV3 q))
theorem v3h {q:Ax} {a b c:Nat} (h:isV q a b c=true):a=nV1 q∧b=nV2 q∧c=nV3 q:=by simp only [isV,Ac] at h;exact ⟨Aj h.1,Aj h.2.1,Aj h.2.2⟩
def axOf (a b c:Nat):Option Ax:=bif isV .x a b c then some .x else bif isV .y a b c then some .y else bif isV .z a b c then some .z else none
theorem w0t {a b c:Nat} {q:Ax} (h:axOf a b c=some q):a=nV1 q∧b=nV2 q∧c=nV3 q:=by
 unfold axOf at h;cases hx:isV .x a b c with
 | true=>rw [hx,Ab] at h;obtain rfl:=Af h;exact v3h hx
 | false=>
  rw [hx,Aa] at h;cases hy:isV .y a b c with
  | true=>rw [hy,Ab] at h;obtain rfl:=Af h;exact v3h hy
  | false=>
   rw [hy,Aa] at h;cases hz:isV .z a b c with
   | true=>rw [hz,Ab] at h;obtain rfl:=Af h;exact v3h hz
   | false=>rw [hz,Aa] at h;cases h
abbrev Ma :Specs:=Ud
theorem w1h :Zu prog Ma:=Ud_ok
inductive mctS where
 | h0 (v8:List R4) (v13:Int)
def mctC (q:Ax) (l1:List R6) (x2:Int):mctS→Cfg
 | .h0 v8 v13=>⟨⟨47,0,true⟩,none,(Zb prog 141 [1,1,0,1,0,0] 0),none,(Zy prog 32),⟨Ya [(2,(ii x2)),(3,(.ptr 0 0)),(8,(.sla 1 4 0 v8.length (.un 4))),(11,(.dat l1.length (Zz l1))),(12,(ii (l1.length:Int))),(13,(ii v13))],Wr [⟨[(.fn (nV1 q) []),(.fn (nV2 q) []),(.fn (nV3 q) [])],84,none⟩,⟨rows v8.length (Zz v8),88,some ⟨4,v8.length,(Zz v8)⟩⟩] 0,2,[],true⟩,[],.leaf⟩
def v9p :List (Option (List Nat)):=[some [2,3,8,11,12,13]]
def v9q :List (Option (List Nat)):=[]
def z2t (q:Ax) (l1:List R6) (x2:Int):mctS→Xv mctS
 | .h0 v8 v13=>(bif (decide (v13<(l1.length:Int))) then (bif ((decide (0≤v13∧v13<(l1.length:Int)))&&true) then (bif (decide ((q.lo (rd l1 v13.toNat))≤x2)) then (bif (decide (x2<(q.hi (rd l1 v13.toNat)))) then (bif (Nat.beq 4 4&&((decide (0+v8.length=v8.length))&&decide ((v8.length+1+1)*(32+1)≤Uj))) then (.to (.h0 (v8++[(q.rc (rd l1 v13.toNat))]) (wrap .i64 (v13+1)))) else .stuck) else (.to (.h0 v8 (wrap .i64 (v13+1))))) else (.to (.h0 v8 (wrap .i64 (v13+1))))) else .stuck) else (bif (Uq (cvT v8)) then (.ret [(.dat (Zd (cvT v8)).length (Zz (Zd (cvT v8)))),(.int .i64 (Wo (cvT v8)))]) else .stuck))
def x1d (q:Ax) (l1:List R6) (x2:Int):Xv mctS:=(.to (.h0 ([]:List R4) 0))
theorem w6n (q:Ax) (l1:List R6) (x2:Int): ∀s,Ys prog (Zy prog 141) (mctC q l1 x2) (mctC q l1 x2 s) (z2t q l1 x2 s):=by cases q <;> refine (?f: ∀q:Ax,∀s,Ys prog (Zy prog 141) (mctC q l1 x2) (mctC q l1 x2 s) (z2t q l1 x2 s)) _ <;> exact fun q=>fun
 | .h0 v8 v13=>(lb (fun k0=>(lo fun aF=>(lb (fun k1=>(lb (fun k2=>(lo fun o0=>(sl w1h 137 [] ⟨[0,12],[],v9p,v9q⟩ ⟨[(8,.len (v8++[(q.rc (rd l1 (tn v13)))]).length)],[.keep,.rowed 4 (v8++[(q.rc (rd l1 (tn v13)))]).length (Zz (v8++[(q.rc (rd l1 (tn v13)))]))],[]⟩ (trs 9 []) (pp (xL (v8.length+1) (v8++[(q.rc (rd l1 (tn v13)))]).length) (pp (xL (v8.length+1) (v8++[(q.rc (rd l1 (tn v13)))]).length) (pp (xS (v8.length+1) (Ze (Zz v8) 0 v8.length 4 (Xz.cells (q.rc (rd l1 (tn v13))))) (Zz (v8++[(q.rc (rd l1 (tn v13)))]))) (pp (pp (xF (Ze (Zz v8) 0 v8.length 4 (Xz.cells (q.rc (rd l1 (tn v13)))))) nn) (ww o0 (tt k2 (tt k1 (ww aF (tt k0 nn)))))))))))) (fun k2=>(sl w1h 67 [] ⟨[0,1],[],v9p,v9q⟩ ⟨[],[],[]⟩ (trs 8 [false]) (pp (fl v8 nn) (tt k2 (tt k1 (ww aF (tt k0 nn))))))))) (fun k1=>(sl w1h 55 [] ⟨[0,1],[],v9p,v9q⟩ ⟨[],[],[]⟩ (bl 9 1) (pp (fl v8 nn) (tt k1 (ww aF (tt k0 nn))))))))) (fun k0=>(Wu (sl w1h (C':=⟨⟨47,0,true⟩,(Ur prog 141 [1,1,1,0] 1),(Zb prog 141 [1,1,1,0] 1),none,(Zy prog 32),⟨Ya [(43,(.dat v8.length (Zz v8)))],Wr [] 0,0,[],true⟩,[],.leaf⟩) 10 [] ⟨[],[1],[some [43]],[]⟩ ⟨[(43,.frz v8.length v8.length (Zz v8) (Zz v8))],[],[]⟩ [false] (pp (xZ (z3k 4 4 0 v8.length v8.length (Zz v8)) v8.length (Zz v8)) (pp (xL v8.length v8.length) (pp (xS v8.length (Zz v8) (Zz v8)) (pp (fl v8 nn) (tt k0 nn)))))) (lo fun o0=>(lr 47 3 [1,1,1,1,1,1,1,0] 1 32 [(6,(.dat (Zd (cvT v8)).length (Zz (Zd (cvT v8))))),(7,(ii (Wo (cvT v8))))] (sl w1h 6 [] ⟨[],[],[some [6,7]],[]⟩ ⟨[],[],[]⟩ [] (pp (pp (xr v8) (xw o0)) nn)))))))
theorem x8x (q:Ax) (l1:List R6) (x2:Int):Ys prog (Zy prog 141) (mctC q l1 x2) (Za prog 141 [(.agg [(.fn (nV1 q) []),(.fn (nV2 q) []),(.fn (nV3 q) [])]),(.dat l1.length (Zz l1)),(.int .i64 x2)] true []) (x1d q l1 x2):=by cases q <;> exact (sl w1h 19 [(88,4,Zz ([]:List R4))] ⟨[0,1],[],v9p,v9q⟩ ⟨[(8,.grow 1 4)],[],[]⟩ [] (pp (fl ([]:List R4) nn) nn))
theorem v9o (q:Ax) (l1:List R6) (x2:Int) (n:Nat) (vs:List AVal) (h:Zs (z2t q l1 x2) n (x1d q l1 x2)=.ret vs):Jw prog (Zy prog 141) (Za prog 141 [(.agg [(.fn (nV1 q) []),(.fn (nV2 q) []),(.fn (nV3 q) [])]),(.dat l1.length (Zz l1)),(.int .i64 x2)] true []) vs:=by have:=Zc (w6n q l1 x2) n _ (x8x q l1 x2);rwa [h] at this
theorem w0j (q:Ax) (L M:List R6) (p:Int):z1l q (L++M) p=z1l q L p++z1l q M p:=by unfold z1l;rw [List.filter_append,Be]
theorem cutL_t (q:Ax) {r:R6} {p:Int} (h1:q.lo r≤p) (h2:p<q.hi r):z1l q [r] p=[q.rc r]:=by unfold z1l;rw [Bs,Az (by simp [h1,h2])];rfl
theorem j3s (q:Ax) {r:R6} {p:Int} (h1: ¬q.lo r≤p):z1l q [r] p=[]:=by unfold z1l;rw [Bs,As (by simp [h1])];rfl
theorem j3r (q:Ax) {r:R6} {p:Int} (h2: ¬p<q.hi r):z1l q [r] p=[]:=by unfold z1l;rw [Bs,As (by simp [h2])];rfl
def Yr (q:Ax) (L:List R6) (p:Int):List R4:=Zd (z1l q L p)
def Jt (q:Ax) (L:List R6) (p:Int):Int:=Wo (z1l q L p)
def z1t (q:Ax) (L:List R6) (p:Int):Bool:=decide (L.length≤400)
theorem u6g (q:Ax) (L:List R6) (p:Int) (hl:L.length≤400): ∀(k i:Nat) (acc:List R4),i+k=L.length→acc.length≤i→z1l q L p=acc++z1l q (L.drop i) p→
  ∃n,Zs (z2t q L p) n (.to (.h0 acc (i:Int)))=.ret [.dat (Yr q L p).length (Zz (Yr q L p)),.int .i64 (Jt q L p)]
 | 0,i,acc,h,h',e=>by rw [Ar (by omega),show z1l q [] p=[] from rfl,AB] at e;refine ⟨1,?_⟩;unfold Yr Jt;rw [Zv,e];simp (disch:=omega) only [z2t,Zm,show∀l,Uq l=true from fun _=>rfl,Yz,Ab,Aa,Zp]
 | k+1,i,acc,h,h',e=>by
  have hi:i<L.length:=by omega
  have e2:z1l q L p=(acc++z1l q [rd L i] p)++z1l q (L.drop (i+1)) p:=by rw [AH,←w0j,e,Yx hi];rfl
  obtain ⟨n,hn⟩:=u6g q L p hl k (i+1) (acc++z1l q [rd L i] p) (by omega) (by
   have:(z1l q [rd L i] p).length ≤1:=by unfold z1l;rw [AT];exact BO _ _
   rw [Ay];omega) e2
  refine ⟨n+1,?_⟩;rw [Zv];by_cases h1:q.lo (rd L i)≤p
  ·by_cases h2:p<q.hi (rd L i)
   ·rw [cutL_t q h1 h2] at hn;simp (disch:=omega) only [z2t,Xn,Zm,Zq,Zo,Zr,Yc,Yk,Yp,Zf,Zk,Zx,Yg,Zj,Ah,Av,Ai,Al,Ab,Aa];exact hn
   ·rw [j3r q h2,AB] at hn;simp (disch:=omega) only [z2t,Xn,Yz,Zm,Zq,Zo,Zr,Zk,Zx,Zj,Ai,Ab,Aa];exact hn
  ·rw [j3s q h1,AB] at hn;simp (disch:=omega) only [z2t,w0f,Zm,Zq,Zo,Zr,Zk,Zx,Zj,Ai,Ab,Aa];exact hn
theorem j0x (q:Ax) (L:List R6) (p:Int) (h:z1t q L p=true): ∃n,Zs (z2t q L p) n (x1d q L p)=.ret [.dat (Yr q L p).length (Zz (Yr q L p)),.int .i64 (Jt q L p)]:=
 u6g q L p (AA h) L.length 0 [] (Ah _) (An _) rfl
def fMct :List AVal→Option (AVal×Bool)
 | [.agg [.fn a [],.fn b [],.fn c []],a1,.int .i64 x2]=>match axOf a b c,asL R6 a1 with
  | some q,some (L1,g1,n1)=>some (.tup [.dat (Yr q L1 x2).length (Zz (Yr q L1 x2)),.int .i64 (Jt q L1 x2)],isT R6 n1 g1&&(z1t q L1 x2))
  | _,_=>none
 | _=>none
theorem j2u {S:Specs} (hS:Zu prog S):Zu prog (S.with nMCut fMct):=by
 refine z0o hS (by kernel_rfl) fun args v h=> ?_;unfold fMct at h;split at h
 ·rename_i a b c a1 x2;split at h
  ·rename_i q L1 g1 n1 eq e1;simp only [Ae,Ad,Ac] at h;obtain ⟨rfl,ho1,hw⟩:=h;obtain ⟨rfl,rfl,rfl⟩:=w0t eq;obtain ⟨N,hN⟩:=j0x q L1 x2 hw;exact ⟨_,_,(.cons (.refl _) (.cons (asL_le e1 ho1) (.cons (.refl _) .nil))),rfl,v9o q L1 x2 N _ hN,3,rfl⟩
  ·cases h
 ·cases h
def Mb :Specs:=Ma.with nMCut fMct
theorem v5s :Zu prog Mb:=j2u w1h
inductive mfcS where
def mfcC (q:Ax) (l1:List R6) (x2:Int) (x3:Bool):mfcS→Cfg
 :=nofun
def x1c (q:Ax) (l1:List R6) (x2:Int) (x3:Bool):mfcS→Xv mfcS
 :=nofun
def z2s (q:Ax) (l1:List R6) (x2:Int) (x3:Bool):Xv mfcS:=(bif (z1t q (cvT l1) (wrap .i64 (x2 - 1))) then (bif (z1t q (cvT l1) x2) then (bif ((Jt q (cvT l1) (wrap .i64 (x2 - 1))) != 0) then (.ret [.nils,(.int .i64 (Jt q (cvT l1) (wrap .i64 (x2 - 1))))]) else (bif ((Jt q (cvT l1) x2) != 0) then (.ret [.nils,(.int .i64 (Jt q (cvT l1) x2))]) else (bif x3 then (bif (Qf .d (cvT (Yr q (cvT l1) (wrap .i64 (x2 - 1)))) (cvT (Yr q (cvT l1) x2))) then (.ret [(.dat (Vv .d (cvT (Yr q (cvT l1) (wrap .i64 (x2 - 1)))) (cvT (Yr q (cvT l1) x2))).length (Zz (Vv .d (cvT (Yr q (cvT l1) (wrap .i64 (x2 - 1)))) (cvT (Yr q (cvT l1) x2))))),(.int .i64 (x3i .d (cvT (Yr q (cvT l1) (wrap .i64 (x2 - 1)))) (cvT (Yr q (cvT l1) x2))))]) else .stuck) else (bif (Qf .d (cvT (Yr q (cvT l1) x2)) (cvT (Yr q (cvT l1) (wrap .i64 (x2 - 1))))) then (.ret [(.dat (Vv .d (cvT (Yr q (cvT l1) x2)) (cvT (Yr q (cvT l1) (wrap .i64 (x2 - 1))))).length (Zz (Vv .d (cvT (Yr q (cvT l1) x2)) (cvT (Yr q (cvT l1) (wrap .i64 (x2 - 1))))))),(.int .i64 (x3i .d (cvT (Yr q (cvT l1) x2)) (cvT (Yr q (cvT l1) (wrap .i64 (x2 - 1))))))]) else .stuck)))) else .stuck) else .stuck)
theorem w6m (q:Ax) (l1:List R6) (x2:Int) (x3:Bool): ∀s,Ys prog (Zy prog 101) (mfcC q l1 x2 x3) (mfcC q l1 x2 x3 s) (x1c q l1 x2 x3 s)
 :=nofun
theorem x8w (q:Ax) (l1:List R6) (x2:Int) (x3:Bool):Ys prog (Zy prog 101) (mfcC q l1 x2 x3) (Za prog 101 [(.agg [(.fn (nV1 q) []),(.fn (nV2 q) []),(.fn (nV3 q) [])]),(.dat l1.length (Zz l1)),(.int .i64 x2),(.bool x3)] true []) (z2s q l1 x2 x3):=by cases q <;> refine (?f: ∀q:Ax,Ys prog (Zy prog 101) (mfcC q l1 x2 x3) (Za prog 101 [(.agg [(.fn (nV1 q) []),(.fn (nV2 q) []),(.fn (nV3 q) [])]),(.dat l1.length (Zz l1)),(.int .i64 x2),(.bool x3)] true []) (z2s q l1 x2 x3)) _ <;> exact fun q=>(lo fun bW=>(lo fun cS=>(lb (fun k0=>(lr 50 101 [1,1,1,0,1,0,0] 1 101 [(8,.nils),(9,(ii (Jt q (cvT l1) (wr (x2 - 1)))))] (sl v5s 96 [] ⟨[],[],[some [8,9]],[]⟩ ⟨[],[],[]⟩ (trs 5 []) (tt k0 (tt k0 (pp (pp (pp nn (pp nn (pp nn nn))) (pp (xr l1) (xw cS))) (pp (pp (pp nn (pp nn (pp nn nn))) (pp (xr l1) (xw bW))) nn))))))) (fun k0=>(lb (fun k1=>(lr 50 101 [1,1,1,0,1,0,0] 1 101 [(8,.nils),(9,(ii (Jt q (cvT l1) x2)))] (sl v5s 125 [] ⟨[],[],[some [8,9]],[]⟩ ⟨[],[],[]⟩ [false,false,true,true,false,true,true] (tt k1 (tt k0 (tt k1 (tt k0 (pp (pp (pp nn (pp nn (pp nn nn))) (pp (xr l1) (xw cS))) (pp (pp (pp nn (pp nn (pp nn nn))) (pp (xr l1) (xw bW))) nn))))))))) (fun k1=>(lb (fun k2=>(lo fun o0=>(lr 50 101 [1,1,1,1,0,1,0,0] 1 101 [(8,(.dat (Vv .d (cvT (Yr q (cvT l1) (wr (x2 - 1)))) (cvT (Yr q (cvT l1) x2))).length (Zz (Vv .d (cvT (Yr q (cvT l1) (wr (x2 - 1)))) (cvT (Yr q (cvT l1) x2)))))),(9,(ii (x3i .d (cvT (Yr q (cvT l1) (wr (x2 - 1)))) (cvT (Yr q (cvT l1) x2)))))] (sl v5s 59 [] ⟨[],[],[some [8,9]],[]⟩ ⟨[],[],[]⟩ [false,false,false,true] (pp (pp (xI R4 (Yr q (cvT l1) (wr (x2 - 1))).length (Zz (Yr q (cvT l1) (wr (x2 - 1))))) (pp (xI R4 (Yr q (cvT l1) x2).length (Zz (Yr q (cvT l1) x2))) (xw o0))) (tt k2 (tt k1 (tt k0 (pp (pp (pp nn (pp nn (pp nn nn))) (pp (xr l1) (xw cS))) (pp (pp (pp nn (pp nn (pp nn nn))) (pp (xr l1) (xw bW))) nn)))))))))) (fun k2=>(lo fun o0=>(lr 50 3 [1,1,1,1,1,1,1,0] 1 101 [(8,(.dat (Vv .d (cvT (Yr q (cvT l1) x2)) (cvT (Yr q (cvT l1) (wr (x2 - 1))))).length (Zz (Vv .d (cvT (Yr q (cvT l1) x2)) (cvT (Yr q (cvT l1) (wr (x2 - 1)))))))),(9,(ii (x3i .d (cvT (Yr q (cvT l1) x2)) (cvT (Yr q (cvT l1) (wr (x2 - 1)))))))] (sl v5s 60 [] ⟨[],[],[some [8,9]],[]⟩ ⟨[],[],[]⟩ [false,false,false,false] (pp (pp (xI R4 (Yr q (cvT l1) x2).length (Zz (Yr q (cvT l1) x2))) (pp (xI R4 (Yr q (cvT l1) (wr (x2 - 1))).length (Zz (Yr q (cvT l1) (wr (x2 - 1))))) (xw o0))) (tt k2 (tt k1 (tt k0 (pp (pp (pp nn (pp nn (pp nn nn))) (pp (xr l1) (xw cS))) (pp (pp (pp nn (pp nn (pp nn nn))) (pp (xr l1) (xw bW))) nn)))))))))))))))))
theorem v9n (q:Ax) (l1:List R6) (x2:Int) (x3:Bool) (n:Nat) (vs:List AVal) (h:Zs (x1c q l1 x2 x3) n (z2s q l1 x2 x3)=.ret vs):Jw prog (Zy prog 101) (Za prog 101 [(.agg [(.fn (nV1 q) []),(.fn (nV2 q) []),(.fn (nV3 q) [])]),(.dat l1.length (Zz l1)),(.int .i64 x2),(.bool x3)] true []) vs:=by have:=Zc (w6m q l1 x2 x3) n _ (x8w q l1 x2 x3);rwa [h] at this
def w8p (q:Ax) (L:List R6) (p:Int):Int:=bif Jt q L (wrap .i64 (p - 1)) != 0 then Jt q L (wrap .i64 (p - 1)) else Jt q L p
def Js (q:Ax) (L:List R6) (p:Int) (s:Bool):Int:=bif w8p q L p != 0 then w8p q L p else
 bif s then rgE .d (Yr q L (wrap .i64 (p - 1))) (Yr q L p) else rgE .d (Yr q L p) (Yr q L (wrap .i64 (p - 1)))
def Jk (q:Ax) (L:List R6) (p:Int) (s:Bool):List R4:=bif w8p q L p != 0 then [] else
 bif s then Vv .d (Yr q L (wrap .i64 (p - 1))) (Yr q L p) else Vv .d (Yr q L p) (Yr q L (wrap .i64 (p - 1)))
def z4d (q:Ax) (L:List R6) (p:Int) (s:Bool):Bool:=decide (L.length≤400)
theorem j0v (q:Ax) (L:List R6) (p:Int) (s:Bool) (h:z4d q L p s=true): ∃n vs,Zs (x1c q L p s) n (z2s q L p s)=.ret vs∧
  ∀(ρ:Rho) (u:Value),Yy ρ (Jz vs) u→Yy ρ (.tup [.dat (Jk q L p s).length (Zz (Jk q L p s)),.int .i64 (Js q L p s)]) u:=by
 have o: ∀x,z1t q L x=true:=fun _=>h;unfold z2s;simp only [Zm,o,show∀a b,Qf .d a b=true from fun _ _=>rfl,Ab];rcases Ym (Jt q L (wrap .i64 (p - 1)) != 0) with q1 | q1
 ·refine ⟨0,_,by rw [q1,Ab];rfl,?_⟩;have e:w8p q L p=Jt q L (wrap .i64 (p - 1)):=by unfold w8p;rw [q1];rfl
  unfold Jk Js;rw [e,q1,Ab,Ab];exact fun ρ u hu=>z3q (.cons (.nild _) (.cons (.refl _) .nil)) ρ u hu
 rcases Ym (Jt q L p != 0) with q2 | q2
 ·refine ⟨0,_,by rw [q1,q2,Aa,Ab];rfl,?_⟩;have e:w8p q L p=Jt q L p:=by unfold w8p;rw [q1];rfl
  unfold Jk Js;rw [e,q2,Ab,Ab];exact fun ρ u hu=>z3q (.cons (.nild _) (.cons (.refl _) .nil)) ρ u hu
 have e:(w8p q L p != 0)=false:=by unfold w8p;rw [q1,Aa];exact q2
 cases s with
 | true=>refine ⟨0,_,by rw [q1,q2,Aa,Aa,Ab];rfl,?_⟩;unfold Jk Js;rw [e];exact fun ρ u hu=>hu
 | false=>refine ⟨0,_,by rw [q1,q2,Aa,Aa,Aa];rfl,?_⟩;unfold Jk Js;rw [e];exact fun ρ u hu=>hu
def fMfc :List AVal→Option (AVal×Bool)
 | [.agg [.fn a [],.fn b [],.fn c []],a1,.int .i64 x2,.bool s]=>match axOf a b c,asL R6 a1 with
  | some q,some (L1,g1,n1)=>some (.tup [.dat (Jk q L1 x2 s).length (Zz (Jk q L1 x2 s)),.int .i64 (Js q L1 x2 s)],isT R6 n1 g1&&(z4d q L1 x2 s))
  | _,_=>none
 | _=>none
theorem mfc_pf (q:Ax) (L:List R6) (p:Int) (s:Bool) (n:Nat) (vs:List AVal) (h:Zs (x1c q L p s) n (z2s q L p s)=.ret vs) (ho:z4d q L p s=true): ∃d,pf d (Jz vs)=true:=by
 have o: ∀x,z1t q L x=true:=fun _=>ho;unfold z2s at h;simp only [Zm,o,show∀a b,Qf .d a b=true from fun _ _=>rfl,Ab] at h;cases h1:(Jt q L (wrap .i64 (p - 1)) != 0) <;> rw [h1] at h <;> simp only [Ab,Aa] at h
 ·cases h2:(Jt q L p != 0) <;> rw [h2] at h <;> simp only [Ab,Aa] at h
  ·cases s <;> simp only [Ab,Aa,Zp] at h <;> obtain rfl:=Xv.ret.inj h <;> exact ⟨3,rfl⟩
  ·rw [Zp] at h;obtain rfl:=Xv.ret.inj h;exact ⟨3,rfl⟩
 ·rw [Zp] at h;obtain rfl:=Xv.ret.inj h;exact ⟨3,rfl⟩
theorem j2t {S:Specs} (hS:Zu prog S):Zu prog (S.with v2l fMfc):=by
 refine w8s hS (by kernel_rfl) fun args v h=> ?_;unfold fMfc at h;split at h
 ·rename_i a b c a1 x2 s;split at h
  ·rename_i q L1 g1 n1 eq e1;simp only [Ae,Ad,Ac] at h;obtain ⟨rfl,ho1,hw⟩:=h;obtain ⟨rfl,rfl,rfl⟩:=w0t eq;obtain ⟨N,vs,hN,hv⟩:=j0v q L1 x2 s hw;exact ⟨_,vs,(.cons (.refl _) (.cons (asL_le e1 ho1) (.cons (.refl _) (.cons (.refl _) .nil)))),hv,v9n q L1 x2 s N _ hN,mfc_pf q L1 x2 s N vs hN hw⟩
  ·cases h
 ·cases h
def Mc :Specs:=Mb.with v2l fMfc
theorem y0j :Zu prog Mc:=j2t v5s
inductive mmdS where
 | h0 (q:Ax) (s:Bool) (v5:List Int) (v10:Int) (aA:List R7) (aJ:List R7)
 | h1 (q:Ax) (s:Bool) (bM:Nat) (v6:Int) (v7:Int) (aA:List R7) (aJ:List R7) (aQ:List Int)
 | h2 (q:Ax) (s:Bool) (v8:Int) (v37:List R4) (v38:Int) (v39:Int) (bR:Nat) (cF:Int) (cG:Int) (aA:List R7) (aJ:List R7) (aQ:List Int)
def u6f (q:Ax) (s:Bool):AFr:=⟨⟨75,0,true⟩,none,(.inRangeFunc 0::(Zb prog 52 [1,1,0,1,0,0,1,1,0,0,1,1,0,0,1,1,0,0,1,1,0] 1)),none,(Zy prog 52),Ya [(1,(.ptr 1 0)),(2,(.ptr 2 0)),(3,(.ptr 4 0)),(4,(.ptr 5 0)),(5,(.ptr 7 0)),(6,(.ptr 8 0)),(13,(.agg [(.fn 105 []),(.fn 106 []),(.fn 107 []),(.fn 108 []),(.fn 109 []),(.fn 110 []),(.fn 111 []),(.fn 112 []),(.fn 113 [])])),(14,(ii q.ix)),(18,(ii (sdI s)))]⟩
def w2y (q:Ax):ABlk:=⟨[(.fn (nV1 q) []),(.fn (nV2 q) []),(.fn (nV3 q) [])],84,none⟩
def u6e :=(Vd prog 52 [1,1,0,1,0,0,1,1,0,0,1,1,0,0,1,1,0,0,1,1,0,0])
def u6d :=(Vd prog 52 [1,1,0,1,0,0,1,1,0,0,1,1,0,0,1,1,0,0,1,1,0,1])
def z9p (l0:List R6):mmdS→Cfg
 | .h0 q s v5 v10 aA aJ=>⟨⟨33,0,true⟩,none,(Zb prog 100 [1,1,0,1,0,0] 0),none,(Zy prog 5),⟨Ya [(2,(.ptr 0 0)),(5,(.sla 10 1 0 v5.length (.un 1))),(8,(.dat l0.length (Zz l0))),(9,(ii (l0.length:Int))),(10,(ii v10))],Wr [(w2y q),⟨[(.dat l0.length (Zz l0))],38,none⟩,⟨[(.sla 3 7 0 aA.length (.un 7))],25,none⟩,⟨rows aA.length (Zz aA),62,some ⟨7,aA.length,(Zz aA)⟩⟩,⟨[(ii 0)],26,none⟩,⟨[(.sla 6 7 0 aJ.length (.un 7))],25,none⟩,⟨rows aJ.length (Zz aJ),62,some ⟨7,aJ.length,(Zz aJ)⟩⟩,⟨[(ii q.ix)],3,none⟩,(w2y q),⟨[(ii (sdI s))],3,none⟩,⟨rows v5.length (Zz v5),3,some ⟨1,v5.length,(Zz v5)⟩⟩] 0,11,[],true⟩,[⟨⟨75,0,true⟩,(Ur prog 52 [1,1,0,1,0,0,1,1,0,0,1,1,0,0,1,1,0,0,1,0] 2),(Zb prog 52 [1,1,0,1,0,0,1,1,0,0,1,1,0,0,1,1,0,0,1,0] 1),none,(Zy prog 52),Ya [(1,(.ptr 1 0)),(2,(.ptr 2 0)),(3,(.ptr 4 0)),(4,(.ptr 5 0)),(5,(.ptr 7 0)),(6,(.ptr 8 0)),(7,(.ptr 9 0)),(13,(.agg [(.fn 105 []),(.fn 106 []),(.fn 107 []),(.fn 108 []),(.fn 109 []),(.fn 110 []),(.fn 111 []),(.fn 112 []),(.fn 113 [])])),(14,(ii q.ix)),(18,(ii (sdI s))),(21,(.agg [(.fn (nV1 q) []),(.fn (nV2 q) []),(.fn (nV3 q) [])])),(22,(.dat l0.length (Zz l0)))]⟩],.leaf⟩
 | .h1 q s bM v6 v7 aA aJ aQ=>⟨⟨16,0,true⟩,none,(Zb prog 175 [1,0,0] 0),none,[],⟨Ya [(0,(.yld 0)),(5,(.sla 10 1 0 bM (.un 1))),(6,(ii v6)),(7,(ii v7))],y0t [(1,⟨[(.dat l0.length (Zz l0))],38,none⟩),(2,⟨[(.sla 3 7 0 aA.length (.un 7))],25,none⟩),(3,⟨rows aA.length (Zz aA),62,some ⟨7,aA.length,(Zz aA)⟩⟩),(4,⟨[(ii 0)],26,none⟩),(5,⟨[(.sla 6 7 0 aJ.length (.un 7))],25,none⟩),(6,⟨rows aJ.length (Zz aJ),62,some ⟨7,aJ.length,(Zz aJ)⟩⟩),(7,⟨[(ii q.ix)],3,none⟩),(8,(w2y q)),(9,⟨[(ii (sdI s))],3,none⟩),(10,⟨rows aQ.length (Zz aQ),3,some ⟨1,aQ.length,(Zz aQ)⟩⟩)],11,[],true⟩,[(u6f q s)],(y6v [(0,⟨.ready,none,75,Ya [(1,(.ptr 1 0)),(2,(.ptr 2 0)),(3,(.ptr 4 0)),(4,(.ptr 5 0)),(5,(.ptr 7 0)),(6,(.ptr 8 0)),(7,(.ptr 9 0))],[24],u6e,u6d⟩)])⟩
 | .h2 q s v8 v37 v38 v39 bR cF cG aA aJ aQ=>⟨⟨75,0,true⟩,none,(Zb prog 52 [1,1,0,1,0,0,1,1,0,0,1,1,0,0,1,1,0,0,1,1,0,1,0,1,1,1,0,0] 0),(some 0),[],⟨Ya [(4,(.ptr 5 0)),(5,(.ptr 7 0)),(6,(.ptr 8 0)),(7,(.ptr 9 0)),(8,(ii v8)),(37,(.dat v37.length (Zz v37))),(38,(ii v38)),(39,(ii v39))],y0t [(1,⟨[(.dat l0.length (Zz l0))],38,none⟩),(2,⟨[(.sla 3 7 0 aA.length (.un 7))],25,none⟩),(3,⟨rows aA.length (Zz aA),62,some ⟨7,aA.length,(Zz aA)⟩⟩),(4,⟨[(ii 0)],26,none⟩),(5,⟨[(.sla 6 7 0 aJ.length (.un 7))],25,none⟩),(6,⟨rows aJ.length (Zz aJ),62,some ⟨7,aJ.length,(Zz aJ)⟩⟩),(7,⟨[(ii q.ix)],3,none⟩),(8,(w2y q)),(9,⟨[(ii (sdI s))],3,none⟩),(10,⟨rows aQ.length (Zz aQ),3,some ⟨1,aQ.length,(Zz aQ)⟩⟩)],11,[],true⟩,[⟨⟨16,0,true⟩,(Ur prog 175 [1,0,0,1,1,0,0,1,0] 2),(Zb prog 175 [1,0,0,1,1,0,0,1,0] 1),none,[],Ya [(0,(.yld 0)),(5,(.sla 10 1 0 bR (.un 1))),(6,(ii cF)),(7,(ii cG)),(11,(.yld 0)),(12,(ii v8))]⟩,(u6f q s)],(y6v [(0,⟨.busy,none,75,Ya [(1,(.ptr 1 0)),(2,(.ptr 2 0)),(3,(.ptr 4 0)),(4,(.ptr 5 0)),(5,(.ptr 7 0)),(6,(.ptr 8 0)),(7,(.ptr 9 0))],[24],u6e,u6d⟩)])⟩
def v2v :List (Option (List Nat)):=[some [2,5,8,9,10],some [1,2,3,4,5,6,7,13,14,18,21,22]]
def v2w :List (Option (List Nat)):=[]
def mmdN1 :List (Option (List Nat)):=[some [0,5,6,7],some [1,2,3,4,5,6,13,14,18]]
def mmdM1 :List (Option (List Nat)):=[some [1,2,3,4,5,6,7],none,none,none,none,none,none,none,none,none,none]
def mmdN2 :List (Option (List Nat)):=[some [4,5,6,7,8,37,38,39],some [0,5,6,7,11,12],some [1,2,3,4,5,6,13,14,18]]
def mmdM2 :List (Option (List Nat)):=[some [1,2,3,4,5,6,7],none,none,none,none,none,none,none,none,none,none]
def v2x (q:Ax) (s:Bool) (aA:List R7) (aJ:List R7):Xv mmdS:=match q,s with
 | q,true=>(.to (.h0 q false ([]:List Int) 0 aA aJ))
 | .x,false=>(.to (.h0 .y true ([]:List Int) 0 aA aJ))
 | .y,false=>(.to (.h0 .z true ([]:List Int) 0 aA aJ))
 | .z,false=>(bif (decide ((aJ.length:Int)>3000)) then (.ret [.nils,(.int .i64 4)]) else (.ret [(.dat aJ.length (Zz aJ)),(.int .i64 0)]))
def Xq (l0:List R6):mmdS→Xv mmdS
 | .h0 q s v5 v10 aA aJ=>(bif (decide (v10<(l0.length:Int))) then (bif ((decide (0≤v10∧v10<(l0.length:Int)))&&true) then (bif (Nat.beq 1 1&&((decide (0+v5.length=v5.length))&&decide ((v5.length+2+1)*(8+1)≤Uj))) then (.to (.h0 q s (v5++[(q.lo (rd l0 v10.toNat)),(q.hi (rd l0 v10.toNat))]) (wrap .i64 (v10+1)) aA aJ)) else .stuck) else .stuck) else (bif (decide (v5.length<4611686018427387904)) then (bif (decide (v5.length=v5.length)) then (.to (.h1 q s (w8t (Yw v5.length (cOf (Zz (Xu (Yw v5.length (cOf (Zz v5)))))))) (((w8t (Yw v5.length (cOf (Zz (Xu (Yw v5.length (cOf (Zz v5)))))))):Nat):Int) 0 aA aJ (Wa (Yw v5.length (cOf (Zz (Xu (Yw v5.length (cOf (Zz v5)))))))))) else .stuck) else .stuck))
 | .h2 q s v8 v37 v38 v39 bR cF cG aA aJ aQ=>(bif (decide (v39<v38)) then (bif ((decide (0≤v39∧v39<(v37.length:Int)))&&true) then (bif (Nat.beq 7 7&&((decide (0+aJ.length=aJ.length))&&decide ((aJ.length+1+1)*(56+1)≤Uj))) then (.to (.h2 q s v8 v37 v38 (wrap .i64 (v39+1)) bR cF cG aA (aJ++[(qd q s v8 (rd v37 v39.toNat))]) aQ)) else .stuck) else .stuck) else (.to (.h1 q s bR cF (wrap .i64 (cG+1)) aA aJ aQ)))
 | .h1 q s bM v6 v7 aA aJ aQ=>(bif (decide (v7<v6)) then (bif ((decide (0≤v7∧v7<((bM:Nat):Int)))&&true) then (bif (decide ((0+v7.toNat)<aQ.length)) then (bif (z4d q (cvT l0) (rd aQ (0+v7.toNat)) s) then (bif ((Js q (cvT l0) (rd aQ (0+v7.toNat)) s) != 0) then (.ret [.nils,(.int .i64 (Js q (cvT l0) (rd aQ (0+v7.toNat)) s))]) else (.to (.h2 q s (rd aQ (0+v7.toNat)) (Jk q (cvT l0) (rd aQ (0+v7.toNat)) s) (((Jk q (cvT l0) (rd aQ (0+v7.toNat)) s).length :Nat):Int) 0 bM v6 v7 aA aJ aQ))) else .stuck) else .stuck) else .stuck) else (v2x q s aA aJ))
def x1b (l0:List R6):Xv mmdS:=(.to (.h0 .x true ([]:List Int) 0 ([]:List R7) ([]:List R7)))
theorem j0u (l0:List R6) (q:Ax) (bM:Nat) (v6:Int) (v7:Int) (aA:List R7) (aJ:List R7) (aQ:List Int) (k0:(decide (v7<v6))=false):Ys prog (Zy prog 52) (z9p l0) (z9p l0 (.h1 q true bM v6 v7 aA aJ aQ)) (v2x q true aA aJ):=by cases q <;> refine (?f: ∀q:Ax,Ys prog (Zy prog 52) (z9p l0) (z9p l0 (.h1 q true bM v6 v7 aA aJ aQ)) (v2x q true aA aJ)) _ <;> exact fun q=>(sl y0j 54 [(3,1,Zz ([]:List Int))] ⟨[12,1,2,3,4,5,6,7,8,11,13],[],v2v,v2w⟩ ⟨[(5,.grow 10 1)],[],[]⟩ [false,true] (pp (fl aA (fl aJ (fl ([]:List Int) nn))) (tt k0 nn)))
theorem j0t (l0:List R6) (bM:Nat) (v6:Int) (v7:Int) (aA:List R7) (aJ:List R7) (aQ:List Int) (k0:(decide (v7<v6))=false):Ys prog (Zy prog 52) (z9p l0) (z9p l0 (.h1 .x false bM v6 v7 aA aJ aQ)) (v2x .x false aA aJ):=(sl y0j 91 [(3,1,Zz ([]:List Int))] ⟨[14,1,2,3,4,5,6,11,12,13,15],[],v2v,v2w⟩ ⟨[(5,.grow 10 1)],[],[]⟩ [false,false,true,true,false,true] (pp (fl aA (fl aJ (fl ([]:List Int) nn))) (tt k0 nn)))
theorem j0s (l0:List R6) (bM:Nat) (v6:Int) (v7:Int) (aA:List R7) (aJ:List R7) (aQ:List Int) (k0:(decide (v7<v6))=false):Ys prog (Zy prog 52) (z9p l0) (z9p l0 (.h1 .y false bM v6 v7 aA aJ aQ)) (v2x .y false aA aJ):=(sl y0j 91 [(3,1,Zz ([]:List Int))] ⟨[14,1,2,3,4,5,6,11,12,13,15],[],v2v,v2w⟩ ⟨[(5,.grow 10 1)],[],[]⟩ [false,false,true,true,true,false,true] (pp (fl aA (fl aJ (fl ([]:List Int) nn))) (tt k0 nn)))
theorem j0r (l0:List R6) (bM:Nat) (v6:Int) (v7:Int) (aA:List R7) (aJ:List R7) (aQ:List Int) (k0:(decide (v7<v6))=false):Ys prog (Zy prog 52) (z9p l0) (z9p l0 (.h1 .z false bM v6 v7 aA aJ aQ)) (v2x .z false aA aJ):=(lb (fun k1=>(z2u ⟨⟨75,0,true⟩,none,(Zb prog 52 [1,1,1,0,1,0,0] 1),none,(Zy prog 52),⟨Ya [(2,(.ptr 0 0)),(3,(.ptr 1 0))],Wr [⟨[.nils],25,none⟩,⟨[(ii 4)],26,none⟩] 0,2,[],true⟩,[],.leaf⟩ (sl y0j 49 [] ⟨[2,4],[],[some [2,3]],[]⟩ ⟨[],[],[]⟩ [false,false,false,true] (tt k1 (tt k0 nn))) rfl (by kernel_rfl))) (fun k1=>(z2u ⟨⟨75,0,true⟩,none,(Zb prog 3 [1,1,1,1,1,1,1,0] 1),none,(Zy prog 52),⟨Ya [(2,(.ptr 0 0)),(3,(.ptr 1 0))],Wr [⟨[(.dat aJ.length (Zz aJ))],25,none⟩,⟨[(ii 0)],26,none⟩] 0,2,[],true⟩,[],.leaf⟩ (sl y0j 51 [] ⟨[2,4],[6],[some [2,3]],[]⟩ ⟨[],[.cells [.frz aJ.length aJ.length (Zz aJ) (Zz aJ)],.keep],[]⟩ [false,false,false,false] (pp (xZ (z3k 7 7 0 aJ.length aJ.length (Zz aJ)) aJ.length (Zz aJ)) (pp (xL aJ.length aJ.length) (pp (xS aJ.length (Zz aJ) (Zz aJ)) (pp (fl aJ nn) (tt k1 (tt k0 nn))))))) rfl (by kernel_rfl))))
theorem mmd_ex (l0:List R6) (q:Ax) (s:Bool) (bM:Nat) (v6:Int) (v7:Int) (aA:List R7) (aJ:List R7) (aQ:List Int) (k0:(decide (v7<v6))=false):Ys prog (Zy prog 52) (z9p l0) (z9p l0 (.h1 q s bM v6 v7 aA aJ aQ)) (v2x q s aA aJ):=match q,s with
 | q,true=>j0u l0 q bM v6 v7 aA aJ aQ k0
 | .x,false=>j0t l0 bM v6 v7 aA aJ aQ k0
 | .y,false=>j0s l0 bM v6 v7 aA aJ aQ k0
 | .z,false=>j0r l0 bM v6 v7 aA aJ aQ k0
theorem mmd_s0 (q:Ax) (s:Bool) (l0:List R6) (v5:List Int) (v10:Int) (aA:List R7) (aJ:List R7):Ys prog (Zy prog 52) (z9p l0) (z9p l0 (.h0 q s v5 v10 aA aJ)) (Xq l0 (.h0 q s v5 v10 aA aJ)):=by cases q <;> cases s <;> refine (?f: ∀(q:Ax) (s:Bool),Ys prog (Zy prog 52) (z9p l0) (z9p l0 (.h0 q s v5 v10 aA aJ)) (Xq l0 (.h0 q s v5 v10 aA aJ))) _ _ <;> exact fun q s=>(lb (fun k0=>(lo fun o0=>(lo fun o1=>(sl y0j 23 [] ⟨[0,1,2,3,4,5,6,7,8,9,15],[],v2v,v2w⟩ ⟨[(5,.len (v5++[(q.lo (rd l0 (tn v10))),(q.hi (rd l0 (tn v10)))]).length)],(kpB 10 [.rowed 1 (v5++[(q.lo (rd l0 (tn v10))),(q.hi (rd l0 (tn v10)))]).length (Zz (v5++[(q.lo (rd l0 (tn v10))),(q.hi (rd l0 (tn v10)))]))]),[]⟩ [true] (pp (xL (v5.length+2) (v5++[(q.lo (rd l0 (tn v10))),(q.hi (rd l0 (tn v10)))]).length) (pp (xL (v5.length+2) (v5++[(q.lo (rd l0 (tn v10))),(q.hi (rd l0 (tn v10)))]).length) (pp (xS (v5.length+2) (Ze (Zz v5) 0 v5.length 1 [(ii (q.lo (rd l0 (tn v10)))),(ii (q.hi (rd l0 (tn v10))))]) (Zz (v5++[(q.lo (rd l0 (tn v10))),(q.hi (rd l0 (tn v10)))]))) (pp (fl aA (fl aJ (pp (xF (Ze (Zz v5) 0 v5.length 1 [(ii (q.lo (rd l0 (tn v10)))),(ii (q.hi (rd l0 (tn v10))))])) nn))) (ww o1 (ww o0 (tt k0 nn))))))))))) (fun k0=>(lo fun o0=>(lo fun o1=>(sl y0j 42 [] ⟨[12,1,2,3,4,5,6,7,8,9,10],[],mmdN1,mmdM1⟩ ⟨[],(kpB 10 [.rowed 1 (Wa (Yw v5.length (cOf (Zz (Xu (Yw v5.length (cOf (Zz v5)))))))).length (Zz (Wa (Yw v5.length (cOf (Zz (Xu (Yw v5.length (cOf (Zz v5)))))))))]),[]⟩ [false] (pp (xL v5.length (Wa (Yw v5.length (cOf (Zz (Xu (Yw v5.length (cOf (Zz v5)))))))).length (by first | exact z1v _ _ | exact Wc rfl)) (pp (xS v5.length (Zz (Wa (Yw v5.length (cOf (Zz (Xu (Yw v5.length (cOf (Zz v5))))))))) (Zz (Wa (Yw v5.length (cOf (Zz (Xu (Yw v5.length (cOf (Zz v5)))))))))) (pp (fl aA (fl aJ (fl (Wa (Yw v5.length (cOf (Zz (Xu (Yw v5.length (cOf (Zz v5)))))))) nn))) (pp (pp (xG (Nat.beq 1 1)) (pp (xG (Nat.beq 1 1)) (pp (xG (Nat.beq 0 0)) (pp (xG (decide (v5.length=v5.length))) (pp (xG (isI (Zz (Xu (Yw v5.length (cOf (Zz v5))))))) (xG (decide (v5.length<4611686018427387904)))))))) (pp (pp (xG (Nat.beq 1 1)) (pp (xG (Nat.beq 1 1)) (pp (xG (Nat.beq 0 0)) (pp (xG (decide (v5.length=v5.length))) (pp (xG (isI (Zz v5))) (xG (decide (v5.length<4611686018427387904)))))))) (tt k0 nn)))))))))))
theorem mmd_s1 (q:Ax) (s:Bool) (l0:List R6) (bM:Nat) (v6:Int) (v7:Int) (aA:List R7) (aJ:List R7) (aQ:List Int):Ys prog (Zy prog 52) (z9p l0) (z9p l0 (.h1 q s bM v6 v7 aA aJ aQ)) (Xq l0 (.h1 q s bM v6 v7 aA aJ aQ)):=by cases q <;> cases s <;> refine (?f: ∀(q:Ax) (s:Bool),Ys prog (Zy prog 52) (z9p l0) (z9p l0 (.h1 q s bM v6 v7 aA aJ aQ)) (Xq l0 (.h1 q s bM v6 v7 aA aJ aQ))) _ _ <;> exact fun q s=>(lb (fun k0=>(lo fun aF=>(lo fun aR=>(lo fun bV=>(lb (fun k1=>(z2u ⟨⟨75,0,true⟩,none,(.code .ret ::(Zb prog 52 [1,1,0,1,0,0,1,1,0,0,1,1,0,0,1,1,0,0,1,1,0] 1)),none,(Zy prog 52),⟨Ya [(2,(.ptr 0 0)),(3,(.ptr 1 0))],Wr [⟨[.nils],25,none⟩,⟨[(ii (Js q (cvT l0) (rd aQ (0+(tn v7))) s))],26,none⟩] 0,2,[],true⟩,[],.leaf⟩ (sl y0j 58 [] ⟨[2,4],[],[some [2,3]],[]⟩ ⟨[],[],[]⟩ (trs 3 []) (tt k1 (pp (pp (pp nn (pp nn (pp nn (pp nn nn)))) (pp (xr l0) (xw bV))) (ww aR (ww aF (tt k0 nn)))))) rfl (by kernel_rfl))) (fun k1=>(sl y0j 55 [] ⟨(List.range 11),[],mmdN2,mmdM2⟩ ⟨[],[],[]⟩ [true,false] (pp (fl aA (fl aJ (fl aQ nn))) (tt k1 (pp (pp (pp nn (pp nn (pp nn (pp nn nn)))) (pp (xr l0) (xw bV))) (ww aR (ww aF (tt k0 nn))))))))))))) (fun k0=>mmd_ex l0 q s bM v6 v7 aA aJ aQ k0))
theorem mmd_s2 (q:Ax) (s:Bool) (l0:List R6) (v8:Int) (v37:List R4) (v38:Int) (v39:Int) (bR:Nat) (cF:Int) (cG:Int) (aA:List R7) (aJ:List R7) (aQ:List Int):Ys prog (Zy prog 52) (z9p l0) (z9p l0 (.h2 q s v8 v37 v38 v39 bR cF cG aA aJ aQ)) (Xq l0 (.h2 q s v8 v37 v38 v39 bR cF cG aA aJ aQ)):=by cases q <;> cases s <;> refine (?f: ∀(q:Ax) (s:Bool),Ys prog (Zy prog 52) (z9p l0) (z9p l0 (.h2 q s v8 v37 v38 v39 bR cF cG aA aJ aQ)) (Xq l0 (.h2 q s v8 v37 v38 v39 bR cF cG aA aJ aQ))) _ _ <;> exact fun q s=>(lb (fun k0=>(lo fun o0=>(lo fun o1=>(sl y0j 23 [] ⟨[0,1,2,3,4,5,15,7,8,9,10],[],mmdN2,mmdM2⟩ ⟨[],(kpB 5 [.cells [.len (aJ++[(qd q s v8 (rd v37 (tn v39)))]).length],.rowed 7 (aJ++[(qd q s v8 (rd v37 (tn v39)))]).length (Zz (aJ++[(qd q s v8 (rd v37 (tn v39)))])),.keep,.keep,.keep,.keep]),[]⟩ [true] (pp (xL (aJ.length+1) (aJ++[(qd q s v8 (rd v37 (tn v39)))]).length) (pp (xL (aJ.length+1) (aJ++[(qd q s v8 (rd v37 (tn v39)))]).length) (pp (xS (aJ.length+1) (Ze (Zz aJ) 0 aJ.length 7 (Xz.cells (qd q s v8 (rd v37 (tn v39))))) (Zz (aJ++[(qd q s v8 (rd v37 (tn v39)))]))) (pp (fl aA (pp (xF (Ze (Zz aJ) 0 aJ.length 7 (Xz.cells (qd q s v8 (rd v37 (tn v39)))))) (fl aQ nn))) (ww o1 (ww o0 (tt k0 nn))))))))))) (fun k0=>(sl y0j 19 [] ⟨(List.range 11),[],mmdN1,mmdM1⟩ ⟨[],[],[]⟩ [false,false] (pp (fl aA (fl aJ (fl aQ nn))) (tt k0 nn)))))
theorem w6l (l0:List R6): ∀s,Ys prog (Zy prog 52) (z9p l0) (z9p l0 s) (Xq l0 s)
 | .h0 q s v5 v10 aA aJ=>mmd_s0 q s l0 v5 v10 aA aJ
 | .h1 q s bM v6 v7 aA aJ aQ=>mmd_s1 q s l0 bM v6 v7 aA aJ aQ
 | .h2 q s v8 v37 v38 v39 bR cF cG aA aJ aQ=>mmd_s2 q s l0 v8 v37 v38 v39 bR cF cG aA aJ aQ
theorem x8u (l0:List R6):Ys prog (Zy prog 52) (z9p l0) (Za prog 52 [(.dat l0.length (Zz l0))] true []) (x1b l0):=(sl y0j 93 [(62,7,Zz ([]:List R7)),(62,7,Zz ([]:List R7)),(3,1,Zz ([]:List Int))] ⟨[8,0,1,9,2,3,10,5,6,7,11],[],v2v,v2w⟩ ⟨[(5,.grow 10 1)],[.keep,.keep,.cells [.grow 3 7],.keep,.keep,.cells [.grow 6 7],.keep,.keep,.keep,.keep,.keep],[]⟩ [true,false,true] (pp (fl ([]:List R7) (fl ([]:List R7) (fl ([]:List Int) nn))) nn))
theorem v9m (l0:List R6) (n:Nat) (vs:List AVal) (h:Zs (Xq l0) n (x1b l0)=.ret vs):Jw prog (Zy prog 52) (Za prog 52 [(.dat l0.length (Zz l0))] true []) vs:=by have:=Zc (w6l l0) n _ (x8u l0);rwa [h] at this
theorem u4n {q:Op} {a b:List R4}:(Vv q a b).length ≤400:=by
 unfold Vv x4x;cases g:(rgE q a b != 0) with
 | true=>exact AD _
 | false=>
  rw [Aa];have h:rgE q a b=0:=by simpa using g
  unfold rgE at h;cases g1:(y6o a != 0) with
  | true=>rw [g1,Ab] at h;rw [h] at g1;cases g1
  | false=>
   cases g2:(y6o b != 0) with
   | true=>rw [g1,g2,Aa,Ab] at h;rw [h] at g2;cases g2
   | false=>
    rw [g1,g2,Aa,Aa] at h;unfold eJ at h;revert h;generalize w8r (rgA q a b) _ _ _=e;intro h;cases g3:(e != 0) with
    | true=>rw [g3,Ab] at h;rw [h] at g3;cases g3
    | false=>rw [g3,Aa] at h;exact x1z h
theorem v2y (q:Ax) (L:List R6) (p:Int) (s:Bool):(Jk q L p s).length ≤400:=by
 unfold Jk;cases (w8p q L p != 0) with
 | true=>exact AD _
 | false=>cases s <;> exact u4n
def z2x (q:Ax) (L:List R6):List Int:=L.flatMap fun r=>[q.lo r,q.hi r]
theorem z1b (q:Ax) (L:List R6):(z2x q L).length =2*L.length:=by
 induction L with
 | nil=>rfl
 | cons r l ih=>show (_::_::z2x q l).length =_;simp only [AV,ih];omega
def plQ (q:Ax) (L:List R6):List Int:=Jq (z2x q L)
theorem z4x (q:Ax) (L:List R6):(plQ q L).length ≤2*L.length:=by have h1:=Ug (Xu (z2x q L));have h2:=compact_length_le (Xu (z2x q L));rw [Xf,z1b] at h2;exact h2
def u0z (E:Int→Int):List Int→Int
 | []=>0
 | p::r=>bif E p != 0 then E p else u0z E r
def z9b (q:Ax) (s:Bool) (L:List R6):Int:=u0z (fun p=>Js q L p s) (plQ q L)
def v5y (q:Ax) (s:Bool) (L:List R6) (ps:List Int):List R7:=ps.flatMap fun p=>(Jk q L p s).map (qd q s p)
theorem y5v (q:Ax) (s:Bool) (L:List R6): ∀ps,(v5y q s L ps).length ≤400*ps.length
 | []=>An _
 | p::ps=>by have:=y5v q s L ps;have h:=v2y q L p s;show ((Jk q L p s).map (qd q s p)++v5y q s L ps).length ≤_;rw [Ay,AT,AV];omega
section
variable (L:List R6) (hL:L.length≤400)
include hL
theorem u6c (q:Ax) (s:Bool) (v2 out:List R7): ∀(k i:Nat) (acc:List Int),i+k=L.length→acc=z2x q (L.take i)→
  ∃n,∀N,Zs (Xq L) (N+n) (.to (.h0 q s acc (i:Int) v2 out))=Zs (Xq L) N (.to (.h1 q s (plQ q L).length ((plQ q L).length :Int) 0 v2 out (Wa (Xu (z2x q L)))))
 | 0,i,acc,h,h'=>by
  have e:acc=z2x q L:=by rw [h',AQ (by omega)]
  subst e;have hle:=z1b q L;refine ⟨1,fun N=> ?_⟩;rw [Zv];simp (disch:=omega) only [Xq,Xr,z0c,z9z,Yz,Yk,Yp,Av,Ab,Aa];rfl
 | k+1,i,acc,h,h'=>by
  have hle:acc.length≤2*i:=by rw [h',z1b,Bc];omega
  obtain ⟨n,hn⟩:=u6c q s v2 out k (i+1) (acc++z2x q [rd L i]) (by omega) (by
   rw [h',Ba];have:L[i]? =some (rd L i):=by rw [Yo (show i<L.length by omega)];exact Aq _
   rw [this];simp [z2x])
  refine ⟨n+1,fun N=> ?_⟩;rw [←AC,Zv,←hn N];simp (disch:=omega) only [Xq,Zm,Zq,Zo,Zr,Yc,Yk,Yp,Zf,Zk,Zx,Yg,Zj,Ah,Av,Ai,Al,Ab,Aa];rfl
theorem u6a (q:Ax) (s:Bool) (p:Int) (R:List R4) (hR:R.length≤400) (n5:Nat) (v6 v7:Int) (v2:List R7) (P:List Int): ∀(k j:Nat) (out:List R7),j+k=R.length→out.length≤10000000+j→
  ∃n,∀N,Zs (Xq L) (N+n) (.to (.h2 q s p R (R.length:Int) (j:Int) n5 v6 v7 v2 out P))=Zs (Xq L) N (.to (.h1 q s n5 v6 (wrap .i64 (v7+1)) v2 (out++(R.drop j).map (qd q s p)) P))
 | 0,j,out,h,h'=>by have _u:=hL;refine ⟨1,fun N=> ?_⟩;rw [Ar (by omega),A5,AB,Zv];simp (disch:=omega) only [Xq,Yz,Aa]
 | k+1,j,out,h,h'=>by
  have hj:j<R.length:=by omega
  obtain ⟨n,hn⟩:=u6a q s p R hR n5 v6 v7 v2 P k (j+1) (out++[qd q s p (rd R j)]) (by omega) (by simp only [Ay,Br];omega);refine ⟨n+1,fun N=> ?_⟩;rw [Yx hj,AW,←AC,Zv,show out++qd q s p (rd R j)::(R.drop (j+1)).map (qd q s p)=(out++[qd q s p (rd R j)])++(R.drop (j+1)).map (qd q s p) by simp,←hn N];simp (disch:=omega) only [Xq,Zm,Zq,Zo,Zr,Yc,Yk,Yp,Zf,Zk,Zx,Yg,Zj,Ah,Av,Ai,Al,Ab,Aa]
theorem u6b (q:Ax) (s:Bool) (v2:List R7): ∀(k i:Nat) (out:List R7),i+k=(plQ q L).length →out.length+400*k≤8000000→
  (u0z (fun p=>Js q L p s) ((plQ q L).drop i)=0→ ∃n,∀N,Zs (Xq L) (N+n) (.to (.h1 q s (plQ q L).length ((plQ q L).length :Int) (i:Int) v2 out (Wa (Xu (z2x q L)))))=Zs (Xq L) N (v2x q s v2 (out++v5y q s L ((plQ q L).drop i))))∧
  ((u0z (fun p=>Js q L p s) ((plQ q L).drop i) != 0)=true→ ∃n,∀N,Zs (Xq L) (N+n) (.to (.h1 q s (plQ q L).length ((plQ q L).length :Int) (i:Int) v2 out (Wa (Xu (z2x q L)))))=.ret [.nils,.int .i64 (u0z (fun p=>Js q L p s) ((plQ q L).drop i))])
 | 0,i,out,h,h'=>by have _u:=hL;rw [Ar (show (plQ q L).length ≤i by omega)];refine ⟨fun _=>⟨1,fun N=> ?_⟩,fun e=>by cases e⟩;rw [show v5y q s L []=[] from rfl,AB,Zv];simp (disch:=omega) only [Xq,Yz,Aa]
 | k+1,i,out,h,h'=>by
  have hi:i<(plQ q L).length :=by omega
  have hp:=z4x q L;have hpl:(Wa (Xu (z2x q L))).length =2*L.length:=by rw [Ug,Xf,z1b]
  have r0:rd (Wa (Xu (z2x q L))) i=rd (plQ q L) i:=z4b _ _ hi;have o:z4d q L (rd (plQ q L) i) s=true:=Ag hL;rw [Yx hi];have eE:u0z (fun p=>Js q L p s) (rd (plQ q L) i::(plQ q L).drop (i+1))=bif Js q L (rd (plQ q L) i) s != 0 then Js q L (rd (plQ q L) i) s else u0z (fun p=>Js q L p s) ((plQ q L).drop (i+1)):=rfl;have eM:v5y q s L (rd (plQ q L) i::(plQ q L).drop (i+1))=(Jk q L (rd (plQ q L) i) s).map (qd q s (rd (plQ q L) i))++v5y q s L ((plQ q L).drop (i+1)):=rfl;rw [eE,eM];rcases Ym (Js q L (rd (plQ q L) i) s != 0) with z | z
  ·rw [z,Ab];refine ⟨fun e=>(by rw [e] at z;cases z),fun _=>⟨1,fun N=> ?_⟩⟩;rw [Zv];simp (disch:=omega) only [Xq,r0,o,z,Zm,Zq,Zo,Zr,Yk,Zj,Ah,Av,Ai,Al,Ab,Aa,Zp]
  ·rw [z,Aa];have hm:=v2y q L (rd (plQ q L) i) s;obtain ⟨n2,h2⟩:=u6a L hL q s (rd (plQ q L) i) (Jk q L (rd (plQ q L) i) s) hm (plQ q L).length ((plQ q L).length :Int) (i:Int) v2 (Wa (Xu (z2x q L))) (Jk q L (rd (plQ q L) i) s).length 0 out (Ah _) (by omega);rw [AX] at h2;obtain ⟨a1,a2⟩:=u6b q s v2 k (i+1) (out++(Jk q L (rd (plQ q L) i) s).map (qd q s (rd (plQ q L) i))) (by omega) (by rw [Ay,AT];omega);have ew:wrap .i64 ((i:Int)+1)=((i+1:Nat):Int):=by rw [Zk (by omega)];exact Zx i
   have st: ∀N,Zs (Xq L) (N+n2+1) (.to (.h1 q s (plQ q L).length ((plQ q L).length :Int) (i:Int) v2 out (Wa (Xu (z2x q L)))))=Zs (Xq L) N (.to (.h1 q s (plQ q L).length ((plQ q L).length :Int) ((i+1:Nat):Int) v2 (out++(Jk q L (rd (plQ q L) i) s).map (qd q s (rd (plQ q L) i))) (Wa (Xu (z2x q L))))):=fun N=>by rw [←ew,←h2 N,Zv];simp (disch:=omega) only [Xq,r0,o,z,Zm,Zq,Zo,Zr,Yk,Zj,Ah,Av,Ai,Al,Ab,Aa];rfl
   refine ⟨fun e=> ?_,fun e=> ?_⟩
   ·obtain ⟨n,hn⟩:=a1 e;refine ⟨n+n2+1,fun N=> ?_⟩;rw [←AH,←hn N,←st (N+n),AC N,AC N,AC n]
   ·obtain ⟨n,hn⟩:=a2 e;refine ⟨n+n2+1,fun N=> ?_⟩;rw [←hn N,←st (N+n),AC N,AC N,AC n]
theorem z9o (q:Ax) (s:Bool) (v2 out:List R7) (ho:out.length≤2000000):
  (z9b q s L=0→ ∃n,∀N,Zs (Xq L) (N+n) (.to (.h0 q s [] 0 v2 out))=Zs (Xq L) N (v2x q s v2 (out++v5y q s L (plQ q L))))∧
  ((z9b q s L != 0)=true→ ∃n,∀N,Zs (Xq L) (N+n) (.to (.h0 q s [] 0 v2 out))=.ret [.nils,.int .i64 (z9b q s L)]):=by
 have hp:=z4x q L;obtain ⟨n0,h0⟩:=u6c L hL q s v2 out L.length 0 [] (Ah _) rfl;obtain ⟨a1,a2⟩:=u6b L hL q s v2 (plQ q L).length 0 out (Ah _) (by omega);rw [AX] at a1 a2;refine ⟨fun e=> ?_,fun e=> ?_⟩
 ·obtain ⟨n,hn⟩:=a1 e;exact ⟨n+n0,fun N=>by rw [←AC];exact (h0 (N+n)).trans (hn N)⟩
 ·obtain ⟨n,hn⟩:=a2 e;exact ⟨n+n0,fun N=>by rw [←AC];exact (h0 (N+n)).trans (hn N)⟩
end
def dM (q:Ax) (s:Bool) (L:List R6):List R7:=v5y q s L (plQ q L)
def x8v (L:List R6):List R7:=dM .x true L++dM .x false L++dM .y true L++dM .y false L++dM .z true L++dM .z false L
def v5w (L:List R6):Int:=bif z9b .x true L != 0 then z9b .x true L else bif z9b .x false L != 0 then z9b .x false L else bif z9b .y true L != 0 then z9b .y true L else
 bif z9b .y false L != 0 then z9b .y false L else bif z9b .z true L != 0 then z9b .z true L else bif z9b .z false L != 0 then z9b .z false L else bif decide (((x8v L).length :Int)>3000) then 4 else 0
def Kk (L:List R6):List R7:=x4x (v5w L) (x8v L)
def z5s (L:List R6):Int:=v5w L
def z1s (L:List R6):Bool:=decide (L.length≤400)
theorem z4j (q:Ax) (s:Bool) {L:List R6} (h:L.length≤400):(dM q s L).length ≤320000:=by have h1:=y5v q s L (plQ q L);have h2:=z4x q L;unfold dM;omega
theorem j0q (L:List R6) (h:z1s L=true): ∃n,Zs (Xq L) n (x1b L)=.ret (y4h (z5s L) (x8v L)):=by
 have hL:L.length≤400:=AA h;have l1:=z4j .x true hL;have l2:=z4j .x false hL;have l3:=z4j .y true hL;have l4:=z4j .y false hL;have l5:=z4j .z true hL;have d1:=z9o L hL .x true [] [] (AD _);have d2:=z9o L hL .x false [] (dM .x true L) (by omega);have d3:=z9o L hL .y true [] (dM .x true L++dM .x false L) (by simp only [Ay];omega);have d4:=z9o L hL .y false [] (dM .x true L++dM .x false L++dM .y true L) (by simp only [Ay];omega);have d5:=z9o L hL .z true [] (dM .x true L++dM .x false L++dM .y true L++dM .y false L) (by simp only [Ay];omega);have d6:=z9o L hL .z false [] (dM .x true L++dM .x false L++dM .y true L++dM .y false L++dM .z true L) (by simp only [Ay];omega);have go: ∀(q:Ax) (s:Bool) (out:List R7) (V:List AVal),((z9b q s L=0→ ∃n,∀N,Zs (Xq L) (N+n) (.to (.h0 q s [] 0 [] out))=Zs (Xq L) N (v2x q s [] (out++v5y q s L (plQ q L))))∧
   ((z9b q s L != 0)=true→ ∃n,∀N,Zs (Xq L) (N+n) (.to (.h0 q s [] 0 [] out))=.ret [.nils,.int .i64 (z9b q s L)]))→
   (∃n,Zs (Xq L) n (v2x q s [] (out++dM q s L))=.ret V)→ ∃n,Zs (Xq L) n (.to (.h0 q s [] 0 [] out))=.ret (bif z9b q s L != 0 then [.nils,.int .i64 (z9b q s L)] else V):=fun q s out V d ⟨n,hn⟩=>by
  rcases Ym (z9b q s L != 0) with z | z
  ·obtain ⟨m,hm⟩:=d.2 z;refine ⟨0+m,?_⟩;rw [hm 0,z,Ab]
  ·obtain ⟨m,hm⟩:=d.1 (by simpa using z);refine ⟨n+m,?_⟩;rw [hm n,z,Aa];exact hn
 have e6:=go .z false _ (bif decide (((x8v L).length :Int)>3000) then [.nils,.int .i64 4] else [.dat (x8v L).length (Zz (x8v L)),.int .i64 0]) d6 ⟨0,by
  show Zs (Xq L) 0 (bif decide (((x8v L).length :Int)>3000) then _ else _)=_;cases decide (((x8v L).length :Int)>3000) <;> rfl⟩
 obtain ⟨n,hn⟩:=go .x true _ _ d1 (go .x false _ _ d2 (go .y true _ _ d3 (go .y false _ _ d4 (go .z true _ _ d5 e6))));refine ⟨n,hn.trans ?_⟩;unfold y4h z5s v5w
 congr 1
 cases z1:(z9b .x true L != 0) with
 | true=>simp only [z1,Ab]
 | false=>cases z2:(z9b .x false L != 0) with
  | true=>simp only [z2,Ab,Aa]
  | false=>cases z3:(z9b .y true L != 0) with
   | true=>simp only [z3,Ab,Aa]
   | false=>cases z4:(z9b .y false L != 0) with
    | true=>simp only [z4,Ab,Aa]
    | false=>cases z5:(z9b .z true L != 0) with
     | true=>simp only [z5,Ab,Aa]
     | false=>cases z6:(z9b .z false L != 0) with
      | true=>simp only [z6,Ab,Aa]
      | false=>cases z7:decide (((x8v L).length :Int)>3000) <;> rfl
def fMmd :List AVal→Option (AVal×Bool)
 | [a0]=>match asL R6 a0 with
  | some (L0,g0,n0)=>some (.tup [.dat (Kk L0).length (Zz (Kk L0)),.int .i64 (z5s L0)],isT R6 n0 g0&&(z1s L0))
  | _=>none
 | _=>none
theorem j2s {S:Specs} (hS:Zu prog S):Zu prog (S.with u5l fMmd):=by
 refine w8s hS (by kernel_rfl) fun args v h=> ?_;unfold fMmd at h;split at h
 ·rename_i a0;split at h
  ·rename_i L0 g0 n0 e0;simp only [Ae,Ad,Ac] at h;obtain ⟨rfl,ho0,hw⟩:=h;obtain ⟨N,hN⟩:=j0q L0 hw;exact ⟨_,_,(.cons (asL_le e0 ho0) .nil),z4t _ _,v9m L0 N _ hN,3,z9i _ _⟩
  ·cases h
 ·cases h
def Md :Specs:=Mc.with u5l fMmd
theorem z4l :Zu prog Md:=j2s y0j
section
variable (X Y:List R6) (hX:X.length≤10000) (hY:Y.length≤10000)
include hX hY
end
-- h0: index into an array (choices [true, false, false, false])
def z2f (l:List R6):Bool:=true
def Vc (l:List R6):Bool:=true
inductive mofS where
def mofC (l0:List R6):mofS→Cfg
 :=nofun
def x8q (l0:List R6):mofS→Xv mofS
 :=nofun
def y2u (l0:List R6):Xv mofS:=(bif (z2f (cvT l0)) then (bif ((Wx (cvT l0)) != 0) then (.ret [.nils,(.int .i64 (Wx (cvT l0)))]) else (bif (z1s (cvT l0)) then (.ret [(.dat (Kk (cvT l0)).length (Zz (Kk (cvT l0)))),(.int .i64 (z5s (cvT l0)))]) else .stuck)) else .stuck)
theorem w6j (l0:List R6): ∀s,Ys prog (Zy prog 15) (mofC l0) (mofC l0 s) (x8q l0 s)
 :=nofun
theorem x8r (l0:List R6):Ys prog (Zy prog 15) (mofC l0) (Za prog 15 [(.dat l0.length (Zz l0))] true []) (y2u l0):=(lo fun bW=>(lb (fun k0=>(lr 14 15 [1,0,1,1,0,0] 1 15 [(2,.nils),(3,(ii (Wx (cvT l0))))] (sl z4l 24 [] ⟨[],[],[some [2,3]],[]⟩ ⟨[],[],[]⟩ [true] (tt k0 (pp (pp (xr l0) (xw bW)) nn))))) (fun k0=>(lo fun o0=>(lr 14 3 [1,1,1,1,1,1,1,0] 1 15 [(2,(.dat (Kk (cvT l0)).length (Zz (Kk (cvT l0))))),(3,(ii (z5s (cvT l0))))] (sl z4l 28 [] ⟨[],[],[some [2,3]],[]⟩ ⟨[],[],[]⟩ [false] (pp (pp (xr l0) (xw o0)) (tt k0 (pp (pp (xr l0) (xw bW)) nn)))))))))
theorem v9l (l0:List R6) (n:Nat) (vs:List AVal) (h:Zs (x8q l0) n (y2u l0)=.ret vs):Jw prog (Zy prog 15) (Za prog 15 [(.dat l0.length (Zz l0))] true []) vs:=by have:=Zc (w6j l0) n _ (x8r l0);rwa [h] at this
inductive shsS where
 | h0 (v8:Int)
def shsC (l0:List R6) (bS:Int) (bT:Int) (bU:Int):shsS→Cfg
 | .h0 v8=>⟨⟨19,0,true⟩,none,(Zb prog 133 [1,0,1,0,0] 0),none,(Zy prog 5),⟨Ya [(0,(.dat l0.length (Zz l0))),(1,(.fn 90 [(.ptr 0 0)])),(7,(ii (l0.length:Int))),(8,(ii v8))],Wr [⟨[(ii bS),(ii bT),(ii bU)],55,none⟩] 0,1,[],true⟩,[⟨⟨9,0,true⟩,(Ur prog 89 [1,0] 2),(Zb prog 89 [1,0] 1),none,(Zy prog 5),Ya [(5,(.dat l0.length (Zz l0))),(6,(.fn 90 [(.ptr 0 0)]))]⟩,⟨⟨8,0,true⟩,(Ur prog 43 [1,0] 2),(Zb prog 43 [1,0] 1),none,(Zy prog 5),Ya [(5,(.dat l0.length (Zz l0))),(6,(.fn 90 [(.ptr 0 0)]))]⟩],.leaf⟩
def x6q :List (Option (List Nat)):=[some [0,1,7,8],some [5,6],some [5,6]]
def x6r :List (Option (List Nat)):=[]
def z5z (l0:List R6) (bS:Int) (bT:Int) (bU:Int):shsS→Xv shsS
 | .h0 v8=>(bif (decide (v8<(l0.length:Int))) then (bif ((decide (0≤v8∧v8<(l0.length:Int)))&&true) then (bif (decide ((rd l0 v8.toNat).a ≤bS)) then (bif (decide (bS<(rd l0 v8.toNat).d)) then (bif (decide ((rd l0 v8.toNat).b ≤bT)) then (bif (decide (bT<(rd l0 v8.toNat).e)) then (bif (decide ((rd l0 v8.toNat).c ≤bU)) then (bif (decide (bU<(rd l0 v8.toNat).f)) then (.ret [(.bool (decide (v8≥0)))]) else (.to (.h0 (wrap .i64 (v8+1))))) else (.to (.h0 (wrap .i64 (v8+1))))) else (.to (.h0 (wrap .i64 (v8+1))))) else (.to (.h0 (wrap .i64 (v8+1))))) else (.to (.h0 (wrap .i64 (v8+1))))) else (.to (.h0 (wrap .i64 (v8+1))))) else .stuck) else (.ret [(.bool false)]))
def x0c (l0:List R6) (bS:Int) (bT:Int) (bU:Int):Xv shsS:=(.to (.h0 0))
theorem w4z (l0:List R6) (bS:Int) (bT:Int) (bU:Int): ∀s,Ys prog (Zy prog 43) (shsC l0 bS bT bU) (shsC l0 bS bT bU s) (z5z l0 bS bT bU s)
 | .h0 v8=>(lb (fun k0=>(lo fun aF=>(lb (fun k1=>(lb (fun k2=>(lb (fun k3=>(lb (fun k4=>(lb (fun k5=>(lb (fun k6=>(lr 8 3 [1,1,1,1,1,1,1,0] 1 5 [(4,(.bool (decide (v8≥0))))] (sl z4l 92 [] ⟨[],[],[some [4]],[]⟩ ⟨[],[],[]⟩ (trs 32 []) (tt k6 (tt k5 (tt k4 (tt k3 (tt k2 (tt k1 (ww aF (tt k0 nn))))))))))) (fun k6=>(sl z4l 87 [] ⟨[0],[],x6q,x6r⟩ ⟨[],[],[]⟩ (trs 31 [false]) (tt k6 (tt k5 (tt k4 (tt k3 (tt k2 (tt k1 (ww aF (tt k0 nn)))))))))))) (fun k5=>(sl z4l 87 [] ⟨[0],[],x6q,x6r⟩ ⟨[],[],[]⟩ (trs 25 (bl 7 0)) (tt k5 (tt k4 (tt k3 (tt k2 (tt k1 (ww aF (tt k0 nn))))))))))) (fun k4=>(sl z4l 87 [] ⟨[0],[],x6q,x6r⟩ ⟨[],[],[]⟩ (trs 19 (bl 13 0)) (tt k4 (tt k3 (tt k2 (tt k1 (ww aF (tt k0 nn)))))))))) (fun k3=>(sl z4l 87 [] ⟨[0],[],x6q,x6r⟩ ⟨[],[],[]⟩ (trs 13 (bl 19 0)) (tt k3 (tt k2 (tt k1 (ww aF (tt k0 nn))))))))) (fun k2=>(sl z4l 87 [] ⟨[0],[],x6q,x6r⟩ ⟨[],[],[]⟩ (trs 7 (bl 25 0)) (tt k2 (tt k1 (ww aF (tt k0 nn)))))))) (fun k1=>(sl z4l 87 [] ⟨[0],[],x6q,x6r⟩ ⟨[],[],[]⟩ (bl 32 1) (tt k1 (ww aF (tt k0 nn)))))))) (fun k0=>(lr 8 3 [1,1,1,1,1,1,1,0] 1 5 [(4,(.bool false))] (sl z4l 18 [] ⟨[],[],[some [4]],[]⟩ ⟨[],[],[]⟩ [false] (tt k0 nn)))))
theorem x6p (l0:List R6) (bS:Int) (bT:Int) (bU:Int):Ys prog (Zy prog 43) (shsC l0 bS bT bU) (Za prog 43 [(.dat l0.length (Zz l0)),(.agg [(.int .i64 bS),(.int .i64 bT),(.int .i64 bU)])] true []) (x0c l0 bS bT bU):=(sl z4l 32 [] ⟨[0],[],x6q,x6r⟩ ⟨[],[],[]⟩ [] nn)
theorem v6p (l0:List R6) (bS:Int) (bT:Int) (bU:Int) (n:Nat) (vs:List AVal) (h:Zs (z5z l0 bS bT bU) n (x0c l0 bS bT bU)=.ret vs):Jw prog (Zy prog 43) (Za prog 43 [(.dat l0.length (Zz l0)),(.agg [(.int .i64 bS),(.int .i64 bT),(.int .i64 bU)])] true []) vs:=by have:=Zc (w4z l0 bS bT bU) n _ (x6p l0 bS bT bU);rwa [h] at this
inductive fitS where
def fitC (l0:List R6):fitS→Cfg
 :=nofun
def x9w (l0:List R6):fitS→Xv fitS
 :=nofun
def y3f (l0:List R6):Xv fitS:=(bif (decide ((l0.length:Int)≤20)) then (bif (Vc (cvT l0)) then (.ret [(.bool ((Vn (cvT l0)) == 0))]) else .stuck) else (.ret [(.bool false)]))
theorem w7i (l0:List R6): ∀s,Ys prog (Zy prog 37) (fitC l0) (fitC l0 s) (x9w l0 s)
 :=nofun
theorem x9x (l0:List R6):Ys prog (Zy prog 37) (fitC l0) (Za prog 37 [(.dat l0.length (Zz l0))] true []) (y3f l0):=(lb (fun k0=>(lo fun o0=>(lr 11 3 [1,1,1,1,1,1,1,0] 1 3 [(2,(.bool ((Vn (cvT l0)) == 0)))] (sl z4l 16 [] ⟨[],[],[some [2]],[]⟩ ⟨[],[],[]⟩ (trs 3 []) (pp (pp (xr l0) (xw o0)) (tt k0 nn)))))) (fun k0=>(lr 11 3 [1,1,1,1,1,1,1,0] 1 3 [(2,(.bool false))] (sl z4l 16 [] ⟨[],[],[some [2]],[]⟩ ⟨[],[],[]⟩ [false,false,false] (tt k0 nn)))))
theorem u0s (l0:List R6) (n:Nat) (vs:List AVal) (h:Zs (x9w l0) n (y3f l0)=.ret vs):Jw prog (Zy prog 37) (Za prog 37 [(.dat l0.length (Zz l0))] true []) vs:=by have:=Zc (w7i l0) n _ (x9x l0);rwa [h] at this
inductive crdS where
def crdC (aU:Int) (aV:Int) (aW:Int) (x1:Int):crdS→Cfg
 :=nofun
def w0m (aU:Int) (aV:Int) (aW:Int) (x1:Int):crdS→Xv crdS
 :=nofun
def y3i (aU:Int) (aV:Int) (aW:Int) (x1:Int):Xv crdS:=(bif (x1 == 0) then (.ret [(.int .i64 aU)]) else (bif (x1 == 1) then (.ret [(.int .i64 aV)]) else (.ret [(.int .i64 aW)])))
theorem w7w (aU:Int) (aV:Int) (aW:Int) (x1:Int): ∀s,Ys prog (Zy prog 42) (crdC aU aV aW x1) (crdC aU aV aW x1 s) (w0m aU aV aW x1 s)
 :=nofun
theorem w0n (aU:Int) (aV:Int) (aW:Int) (x1:Int):Ys prog (Zy prog 42) (crdC aU aV aW x1) (Za prog 42 [(.agg [(.int .i64 aU),(.int .i64 aV),(.int .i64 aW)]),(.int .i64 x1)] true []) (y3i aU aV aW x1):=(lb (fun k0=>(lr 15 42 [1,0,1,0,0] 1 5 [(4,(ii aU))] (sl z4l 18 [] ⟨[],[],[some [4]],[]⟩ ⟨[],[],[]⟩ [true] (tt k0 nn)))) (fun k0=>(lb (fun k1=>(lr 15 42 [1,1,0,1,0,0] 1 5 [(4,(ii aV))] (sl z4l 26 [] ⟨[],[],[some [4]],[]⟩ ⟨[],[],[]⟩ [false,true] (tt k1 (tt k0 nn))))) (fun k1=>(lr 15 3 [1,1,1,1,1,1,1,0] 1 5 [(4,(ii aW))] (sl z4l 27 [] ⟨[],[],[some [4]],[]⟩ ⟨[],[],[]⟩ [false,false] (tt k1 (tt k0 nn))))))))
theorem u1k (aU:Int) (aV:Int) (aW:Int) (x1:Int) (n:Nat) (vs:List AVal) (h:Zs (w0m aU aV aW x1) n (y3i aU aV aW x1)=.ret vs):Jw prog (Zy prog 42) (Za prog 42 [(.agg [(.int .i64 aU),(.int .i64 aV),(.int .i64 aW)]),(.int .i64 x1)] true []) vs:=by have:=Zc (w7w aU aV aW x1) n _ (w0n aU aV aW x1);rwa [h] at this
abbrev nEq7 :Nat:=69
def Vq (L:List R6):List R7:=bif Wx L != 0 then [] else Kk L
def y4p (L:List R6):Int:=bif Wx L != 0 then Wx L else z5s L
def y4o (L:List R6):Bool:=true
theorem j0p (L:List R6): ∃n vs,Zs (x8q L) n (y2u L)=.ret vs∧(∀(ρ:Rho) (u:Value),Yy ρ (Jz vs) u→Yy ρ (.tup [.dat (Vq L).length (Zz (Vq L)),.int .i64 (y4p L)]) u)∧ ∃d,pf d (Jz vs)=true:=by
 unfold y2u;simp only [Zm,show∀l,z2f l=true from fun _=>rfl,Ab];rcases Ym (Wx L != 0) with q1 | q1
 ·refine ⟨0,_,by rw [q1,Ab];rfl,?_,3,rfl⟩;unfold Vq y4p;rw [q1,Ab,Ab];exact fun ρ u hu=>z3q (.cons (.nild _) (.cons (.refl _) .nil)) ρ u hu
 ·have o:z1s L=true:=Ag (Ky (by simpa using q1)).1;refine ⟨0,_,by rw [q1,o,Aa,Ab];rfl,?_,3,rfl⟩;unfold Vq y4p;rw [q1,Aa,Aa];exact fun ρ u hu=>hu
def fMof :List AVal→Option (AVal×Bool)
 | [a0]=>match asL R6 a0 with
  | some (L0,g0,n0)=>some (.tup [.dat (Vq L0).length (Zz (Vq L0)),.int .i64 (y4p L0)],isT R6 n0 g0&&(y4o L0))
  | _=>none
 | _=>none
theorem j2r {S:Specs} (hS:Zu prog S):Zu prog (S.with nMOf fMof):=by
 refine w8s hS (by kernel_rfl) fun args v h=> ?_;unfold fMof at h;split at h
 ·rename_i a0;split at h
  ·rename_i L0 g0 n0 e0;simp only [Ae,Ad,Ac] at h;obtain ⟨rfl,ho0,hw⟩:=h;obtain ⟨N,vs,hN,hv,hp⟩:=j0p L0;exact ⟨_,vs,(.cons (asL_le e0 ho0) .nil),hv,v9l L0 N _ hN,hp⟩
  ·cases h
 ·cases h
def shR (x y z:Int) (r:R6):Bool:=decide (r.a≤x)&&(decide (x<r.d)&&(decide (r.b≤y)&&(decide (y<r.e)&&(decide (r.c≤z)&&decide (z<r.f)))))
def u2t (L:List R6) (x y z:Int):Bool:=L.any (shR x y z)
def z1n (L:List R6) (x y z:Int):Bool:=decide (L.length≤100000)
theorem u2s {L:List R6} {x y z:Int} (hl:L.length≤100000): ∀(k i:Nat),i+k=L.length→ ∃N,Zs (z5z L x y z) N (.to (.h0 (i:Int)))=.ret [.bool ((L.drop i).any (shR x y z))]
 | 0,i,h=>by refine ⟨1,?_⟩;rw [Zv,Ar (by omega)];simp (disch:=omega) only [z5z,Yz,Aa];rfl
 | k+1,i,h=>by
  have hi:i<L.length:=by omega
  obtain ⟨N,hN⟩:=u2s (x:=x) (y:=y) (z:=z) hl k (i+1) (by omega);have hw:wrap .i64 ((i:Int)+1)=((i+1:Nat):Int):=Zk (by omega);have e:z5z L x y z (.h0 (i:Int))=bif shR x y z (rd L i) then .ret [.bool true] else .to (.h0 ((i+1:Nat):Int)):=by simp (disch:=omega) only [z5z,Zo,Zr,x5b,hw,Zj,Ai,Ab];unfold shR;cases decide ((rd L i).a ≤x) <;> cases decide (x<(rd L i).d) <;> cases decide ((rd L i).b ≤y) <;> cases decide (y<(rd L i).e) <;> cases decide ((rd L i).c ≤z) <;> cases decide (z<(rd L i).f) <;> rfl
  refine ⟨N+1,?_⟩;rw [Zv,Yx hi,e,List.any_cons];rcases Ym (shR x y z (rd L i)) with q | q
  ·rw [q,Ab,Ce];exact Zp _ _ _
  ·rw [q,Aa,Cb];exact hN
theorem u8f (L:List R6) (x y z:Int) (h:z1n L x y z=true): ∃N,Zs (z5z L x y z) N (x0c L x y z)=.ret [.bool (u2t L x y z)]:=
 u2s (AA h) L.length 0 (Ah _)
def y1i (x y z i:Int):Int:=bif i == 0 then x else bif i == 1 then y else z
theorem j3v (x y z i:Int): ∃N,Zs (w0m x y z i) N (y3i x y z i)=.ret [.int .i64 (y1i x y z i)]:=⟨0,by
 unfold y3i y1i;cases (i == 0) <;> cases (i == 1) <;> rfl⟩
def fitV (L:List R6):Bool:=decide ((L.length:Int)≤20)&&(Vn L == 0)
def x4w (L:List R6):Bool:=true
theorem j1p (L:List R6) (h:x4w L=true): ∃N,Zs (x9w L) N (y3f L)=.ret [.bool (fitV L)]:=⟨0,by
 unfold y3f fitV;simp only [Zm,show∀l,Vc l=true from fun _=>rfl,Ab];cases decide ((L.length:Int)≤20) <;> rfl⟩
def fShs :List AVal→Option (AVal×Bool)
 | [a0,.agg [.int .i64 bS,.int .i64 bT,.int .i64 bU]]=>match asL R6 a0 with
  | some (L0,g0,n0)=>some (.bool (u2t L0 bS bT bU),isT R6 n0 g0&&(z1n L0 bS bT bU))
  | _=>none
 | _=>none
theorem j1z {S:Specs} (hS:Zu prog S):Zu prog (S.with nSHas fShs):=by
 refine z0o hS (by kernel_rfl) fun args v h=> ?_;unfold fShs at h;split at h
 ·rename_i a0 bS bT bU;split at h
  ·rename_i L0 g0 n0 e0;simp only [Ae,Ad,Ac] at h;obtain ⟨rfl,ho0,hw⟩:=h;obtain ⟨N,hN⟩:=u8f L0 bS bT bU hw;exact ⟨_,_,(.cons (asL_le e0 ho0) (.cons (.refl _) .nil)),rfl,v6p L0 bS bT bU N _ hN,3,rfl⟩
  ·cases h
 ·cases h
def fCrd :List AVal→Option (AVal×Bool)
 | [.agg [.int .i64 aU,.int .i64 aV,.int .i64 aW],.int .i64 x1]=>some (.int .i64 (y1i aU aV aW x1),true)
 | _=>none
theorem j3f {S:Specs} (hS:Zu prog S):Zu prog (S.with u5r fCrd):=by
 refine z0o hS (by kernel_rfl) fun args v h=> ?_;unfold fCrd at h;split at h
 ·rename_i aU aV aW x1;simp only [Ae,Ad,Cp] at h;subst h;obtain ⟨N,hN⟩:=j3v aU aV aW x1;exact ⟨_,_,(.cons (.refl _) (.cons (.refl _) .nil)),rfl,u1k aU aV aW x1 N _ hN,3,rfl⟩
 ·cases h
def fFit :List AVal→Option (AVal×Bool)
 | [a0]=>match asL R6 a0 with
  | some (L0,g0,n0)=>some (.bool (fitV L0),isT R6 n0 g0&&(x4w L0))
  | _=>none
 | _=>none
theorem j3a {S:Specs} (hS:Zu prog S):Zu prog (S.with u5q fFit):=by
 refine z0o hS (by kernel_rfl) fun args v h=> ?_;unfold fFit at h;split at h
 ·rename_i a0;split at h
  ·rename_i L0 g0 n0 e0;simp only [Ae,Ad,Ac] at h;obtain ⟨rfl,ho0,hw⟩:=h;obtain ⟨N,hN⟩:=j1p L0 hw;exact ⟨_,_,(.cons (asL_le e0 ho0) .nil),rfl,u0s L0 N _ hN,3,rfl⟩
  ·cases h
 ·cases h
def Me :Specs:=((((Md.with nMOf fMof).with nSHas fShs).with u5r fCrd).with u5q fFit)
theorem Jp :Zu prog Me:=(j3a (j3f (j1z (j2r z4l))))
inductive finS where
def finC (aU:Int) (aV:Int) (aW:Int):finS→Cfg
 :=nofun
def x9y (aU:Int) (aV:Int) (aW:Int):finS→Xv finS
 :=nofun
def y3g (aU:Int) (aV:Int) (aW:Int):Xv finS:=(bif (decide ((z1i (z1i aU aV) aW)≥(-1000000))) then (.ret [(.bool (decide ((z1j (z1j aU aV) aW)≤1000000)))]) else (.ret [(.bool false)]))
theorem w7j (aU:Int) (aV:Int) (aW:Int): ∀s,Ys prog (Zy prog 73) (finC aU aV aW) (finC aU aV aW s) (x9y aU aV aW s)
 :=nofun
theorem x9z (aU:Int) (aV:Int) (aW:Int):Ys prog (Zy prog 73) (finC aU aV aW) (Za prog 73 [(.agg [(.int .i64 aU),(.int .i64 aV),(.int .i64 aW)])] true []) (y3g aU aV aW):=(lb (fun k0=>(lr 21 3 [1,1,1,1,1,1,1,0] 1 3 [(2,(.bool (decide ((z1j (z1j aU aV) aW)≤1000000))))] (sl Jp 27 [] ⟨[],[],[some [2]],[]⟩ ⟨[],[],[]⟩ (trs 8 []) (tt k0 nn)))) (fun k0=>(lr 21 3 [1,1,1,1,1,1,1,0] 1 3 [(2,(.bool false))] (sl Jp 27 [] ⟨[],[],[some [2]],[]⟩ ⟨[],[],[]⟩ [false,false,false,false,false,false,false,false] (tt k0 nn)))))
theorem u0t (aU:Int) (aV:Int) (aW:Int) (n:Nat) (vs:List AVal) (h:Zs (x9y aU aV aW) n (y3g aU aV aW)=.ret vs):Jw prog (Zy prog 73) (Za prog 73 [(.agg [(.int .i64 aU),(.int .i64 aV),(.int .i64 aW)])] true []) vs:=by have:=Zc (w7j aU aV aW) n _ (x9z aU aV aW);rwa [h] at this
inductive eqqS where
 | h0 (v13:Int)
def eqqC (l0:List R7) (l1:List R7):eqqS→Cfg
 | .h0 v13=>⟨⟨26,0,true⟩,none,(Zb prog 69 [1,1,0,1,0,0] 0),none,(Zy prog 5),⟨Ya [(0,(.dat l0.length (Zz l0))),(1,(.dat l1.length (Zz l1))),(12,(ii (l0.length:Int))),(13,(ii v13))],Wr [] 0,0,[],true⟩,[],.leaf⟩
def eqqN0 :List (Option (List Nat)):=[some [0,1,12,13]]
def eqqM0 :List (Option (List Nat)):=[]
def z6o (l0:List R7) (l1:List R7):eqqS→Xv eqqS
 | .h0 v13=>(bif (decide (v13<(l0.length:Int))) then (bif ((decide (0≤v13∧v13<(l0.length:Int)))&&true) then (bif ((decide (0≤v13∧v13<(l1.length:Int)))&&true) then (bif (!(((rd l0 v13.toNat).a == (rd l1 v13.toNat).a)&&((((rd l0 v13.toNat).b == (rd l1 v13.toNat).b)&&(((rd l0 v13.toNat).c == (rd l1 v13.toNat).c)&&(((rd l0 v13.toNat).d == (rd l1 v13.toNat).d)&&true)))&&((((rd l0 v13.toNat).e == (rd l1 v13.toNat).e)&&(((rd l0 v13.toNat).f == (rd l1 v13.toNat).f)&&(((rd l0 v13.toNat).g == (rd l1 v13.toNat).g)&&true)))&&true)))) then (.ret [(.bool false)]) else (.to (.h0 (wrap .i64 (v13+1))))) else .stuck) else .stuck) else (.ret [(.bool true)]))
def y3h (l0:List R7) (l1:List R7):Xv eqqS:=(bif ((l0.length:Int) != (l1.length:Int)) then (.ret [(.bool false)]) else (.to (.h0 0)))
theorem w7n (l0:List R7) (l1:List R7): ∀s,Ys prog (Zy prog 69) (eqqC l0 l1) (eqqC l0 l1 s) (z6o l0 l1 s)
 | .h0 v13=>(lb (fun k0=>(lo fun aF=>(lo fun aR=>(lb (fun k1=>(lr 26 69 [1,1,0,1,0,0,1,1,0,0,1,1,0,0] 1 5 [(4,(.bool false))] (sl Jp 21 [] ⟨[],[],[some [4]],[]⟩ ⟨[],[],[]⟩ (bl 2 3) (tt k1 (ww aR (ww aF (tt k0 nn))))))) (fun k1=>(sl Jp 24 [] ⟨[],[],eqqN0,eqqM0⟩ ⟨[],[],[]⟩ (bl 2 1) (tt k1 (ww aR (ww aF (tt k0 nn)))))))))) (fun k0=>(lr 26 3 [1,1,1,1,1,1,1,0] 1 5 [(4,(.bool true))] (sl Jp 11 [] ⟨[],[],[some [4]],[]⟩ ⟨[],[],[]⟩ [false] (tt k0 nn)))))
theorem w0a (l0:List R7) (l1:List R7):Ys prog (Zy prog 69) (eqqC l0 l1) (Za prog 69 [(.dat l0.length (Zz l0)),(.dat l1.length (Zz l1))] true []) (y3h l0 l1):=(lb (fun k0=>(lr 26 69 [1,0,1,0,0] 1 5 [(4,(.bool false))] (sl Jp 18 [] ⟨[],[],[some [4]],[]⟩ ⟨[],[],[]⟩ [true] (tt k0 nn)))) (fun k0=>(sl Jp 24 [] ⟨[],[],eqqN0,eqqM0⟩ ⟨[],[],[]⟩ [false] (tt k0 nn))))
theorem u1a (l0:List R7) (l1:List R7) (n:Nat) (vs:List AVal) (h:Zs (z6o l0 l1) n (y3h l0 l1)=.ret vs):Jw prog (Zy prog 69) (Za prog 69 [(.dat l0.length (Zz l0)),(.dat l1.length (Zz l1))] true []) vs:=by have:=Zc (w7n l0 l1) n _ (w0a l0 l1);rwa [h] at this
inductive slmS where
 | h0 (v8:Int)
 | h1 (v16:Int) (aA:List Int)
 | h2 (v4:Int) (aG:List R6) (aP:List R4) (aZ:Int) (bA:Int) (aE:Nat) (aH:List Int)
 | h3 (v4:Int) (v38:Int) (aG:List R6) (aP:List R4) (aZ:Int) (bA:Int) (aE:Nat) (aH:List Int) (aO:Int) (bB:Int) (aB:List R4)
 | h4 (v1:Int) (v2:Int) (v72:List R4) (v73:Int) (v74:Int) (bJ:List R4) (aS:Int) (aD:List R6) (bC:List R4) (bD:Int) (aE:Nat) (aH:List Int) (aO:List R4)
 | h5 (v2:Int) (v8:Int) (bZ:Int) (bJ:List R4) (aS:Int) (aD:List R6) (bC:List R4) (bD:Int) (bX:Int) (bH:Nat) (bO:List Int) (aB:List R4)
abbrev y7p (aD:List R6) (v8:Int) (v2:Int):=(aD.set (0+(tn v8)) (R6.mk (rd aD (0+(tn v8))).a (rd aD (0+(tn v8))).b (rd aD (0+(tn v8))).c (rd aD (0+(tn v8))).d (rd aD (0+(tn v8))).e v2))
abbrev y7o (aA:List Int):=(Wa (Yw aA.length (cOf (Zz (Xu (Yw aA.length (cOf (Zz aA))))))))
def w9x :AFr:=⟨⟨15,0,true⟩,(Ur prog 47 [1,1,1,0] 3),(Zb prog 47 [1,1,1,0] 1),none,(Zy prog 15),Ya [(9,(.agg [.nilf])),(11,(.sl 8 0 1 (.un 1)))]⟩
abbrev y7n (aB:List R4) (l0:List R6) (v38:Int):=(aB++[(R4.mk (rd l0 (tn v38)).a (rd l0 (tn v38)).b (rd l0 (tn v38)).d (rd l0 (tn v38)).e)])
abbrev y7m (aD:List R6) (v72:List R4) (v74:Int) (v1:Int) (v2:Int):=(aD++[(R6.mk (rd v72 (tn v74)).a (rd v72 (tn v74)).b v1 (rd v72 (tn v74)).c (rd v72 (tn v74)).d v2)])
def u2q :=(y6v [(0,⟨.ready,none,65,Ya [(2,(.ptr 1 0)),(4,(.ptr 2 0)),(5,(.ptr 3 0)),(6,(.ptr 4 0))],[15],(Vd prog 95 [1,1,0,1,0,0]),(Vd prog 95 [1,1,0,1,0,1])⟩)])
def u2p :AFr:=⟨⟨65,0,true⟩,none,(.inRangeFunc 0::(Zb prog 95 [1,1,0,1,0] 1)),none,(Zy prog 95),Ya [(4,(.ptr 2 0)),(5,(.ptr 3 0)),(6,(.ptr 4 0))]⟩
def z3t (l0:List R6):AVal:=(.dat l0.length (Zz l0))
abbrev y7l (aA:List Int) (l0:List R6) (v16:Int):=(aA++[(rd l0 (tn v16)).c,(rd l0 (tn v16)).f])
def slmC (l0:List R6):slmS→Cfg
 | .h0 v8=>⟨⟨19,0,true⟩,none,(Zb prog 134 [1,0,1,0,0] 0),none,(Zy prog 5),⟨Ya [(0,(z3t l0)),(1,(.fn 93 [])),(7,(ii (l0.length:Int))),(8,(ii v8))],Wr [] 0,0,[],true⟩,[⟨⟨9,0,true⟩,(Ur prog 92 [1,0] 2),(Zb prog 92 [1,0] 1),none,(Zy prog 5),Ya [(5,(z3t l0)),(6,(.fn 93 []))]⟩,⟨⟨15,0,true⟩,(Ur prog 47 [1,1,0,0] 1),(Zb prog 47 [1,1,0,0] 1),none,(Zy prog 15),Ya [(0,(z3t l0)),(7,(z3t l0))]⟩],.leaf⟩
 | .h1 v16 aA=>⟨⟨36,0,true⟩,none,(Zb prog 136 [1,1,0,1,0,0,1,1,0,0,1,1,0,0] 0),none,(Zy prog 3),⟨Ya [(1,(.ptr 0 0)),(3,(.ptr 2 0)),(8,(.sl 1 0 1 (.un 1))),(9,(ii 1)),(10,(ii 0)),(14,(z3t l0)),(15,(ii (l0.length:Int))),(16,(ii v16))],Wr [⟨[(.sl 1 0 1 (.un 1))],166,none⟩,⟨[(z3t l0)],22,none⟩,⟨[(.sla 7 1 0 aA.length (.un 1))],93,none⟩,⟨[.nilf],117,none⟩,⟨[.nils],38,none⟩,⟨[(ii 0)],26,none⟩,⟨[.nils,.nils,(ii 0),(ii 0)],168,none⟩,⟨rows aA.length (Zz aA),3,some ⟨1,aA.length,(Zz aA)⟩⟩] 0,8,[],true⟩,[⟨⟨65,0,true⟩,(Ur prog 95 [1,1,0,0] 1),(Zb prog 95 [1,1,0,0] 1),none,(Zy prog 95),Ya [(2,(.ptr 3 0)),(4,(.ptr 4 0)),(5,(.ptr 5 0)),(6,(.ptr 6 0)),(13,(.sl 1 0 1 (.un 1)))]⟩,⟨⟨15,0,true⟩,(Ur prog 47 [1,1,1,0] 3),(Zb prog 47 [1,1,1,0] 1),none,(Zy prog 15),Ya [(9,(.agg [.nilf])),(11,(.sl 1 0 1 (.un 1)))]⟩],.leaf⟩
 | .h2 v4 aG aP aZ bA aE aH=>⟨⟨86,0,true⟩,none,(Zb prog 171 [1,0,0] 0),none,[],⟨Ya [(0,(.yld 0)),(1,(.ptr 5 0)),(2,(.ptr 7 0)),(4,(ii v4))],y0t [(1,⟨[.nilf],117,none⟩),(2,⟨[.nils],38,none⟩),(3,⟨[(ii 0)],26,none⟩),(4,⟨[(.sla 9 6 0 aG.length (.un 6)),(.dat aP.length (Zz aP)),(ii aZ),(ii bA)],168,none⟩),(5,⟨[(.sla 6 1 0 aE (.un 1))],93,none⟩),(6,⟨rows aH.length (Zz aH),3,some ⟨1,aH.length,(Zz aH)⟩⟩),(7,⟨[(.sl 8 0 1 (.un 1))],166,none⟩),(8,⟨[(z3t l0)],22,none⟩),(9,⟨rows aG.length (Zz aG),67,some ⟨6,aG.length,(Zz aG)⟩⟩)],10,[],true⟩,[u2p,w9x],u2q⟩
 | .h3 v4 v38 aG aP aZ bA aE aH aO bB aB=>⟨⟨86,0,true⟩,none,(Zb prog 171 [1,0,0,1,0,0,1,0,1,0,0,1,1,0,0,1,1,0,0] 0),none,[],⟨Ya [(0,(.yld 0)),(1,(.ptr 5 0)),(2,(.ptr 7 0)),(4,(ii v4)),(5,(.ptr 9 0)),(6,(ii 0)),(29,(.sl 8 0 1 (.un 1))),(30,(ii 1)),(31,(ii 0)),(36,(z3t l0)),(37,(ii (l0.length:Int))),(38,(ii v38))],y0t [(1,⟨[.nilf],117,none⟩),(2,⟨[.nils],38,none⟩),(3,⟨[(ii 0)],26,none⟩),(4,⟨[(.sla 12 6 0 aG.length (.un 6)),(.dat aP.length (Zz aP)),(ii aZ),(ii bA)],168,none⟩),(5,⟨[(.sla 6 1 0 aE (.un 1))],93,none⟩),(6,⟨rows aH.length (Zz aH),3,some ⟨1,aH.length,(Zz aH)⟩⟩),(7,⟨[(.sl 8 0 1 (.un 1))],166,none⟩),(8,⟨[(z3t l0)],22,none⟩),(9,⟨[(ii aO),(ii bB),(.sl 10 0 1 (.ex 1))],173,none⟩),(10,⟨[(.sla 11 4 0 aB.length (.un 4))],99,none⟩),(11,⟨rows aB.length (Zz aB),88,some ⟨4,aB.length,(Zz aB)⟩⟩),(12,⟨rows aG.length (Zz aG),67,some ⟨6,aG.length,(Zz aG)⟩⟩)],13,[],true⟩,[u2p,w9x],u2q⟩
 | .h4 v1 v2 v72 v73 v74 bJ aS aD bC bD aE aH aO=>⟨⟨101,0,true⟩,none,(Zb prog 137 [1,1,1,0,0] 0),none,[],⟨Ya [(0,(.ptr 0 0)),(1,(ii v1)),(2,(ii v2)),(72,(.dat v72.length (Zz v72))),(73,(ii v73)),(74,(ii v74))],y0t [(0,⟨[(.sla 10 6 0 aD.length (.un 6)),(.dat bC.length (Zz bC)),(ii bD),(ii v2)],168,none⟩),(2,⟨[.nilf],117,none⟩),(3,⟨[.nils],38,none⟩),(4,⟨[(ii 0)],26,none⟩),(5,⟨[(.sla 6 1 0 aE (.un 1))],93,none⟩),(6,⟨rows aH.length (Zz aH),3,some ⟨1,aH.length,(Zz aH)⟩⟩),(7,⟨[(.sl 8 0 1 (.un 1))],166,none⟩),(8,⟨[(z3t l0)],22,none⟩),(9,⟨[(.dat aO.length (Zz aO))],99,none⟩),(10,⟨rows aD.length (Zz aD),67,some ⟨6,aD.length,(Zz aD)⟩⟩)],11,[],true⟩,[⟨⟨65,0,true⟩,(Ur prog 95 [1,1,0,1,0,1,0,1,1,1] 5),(Zb prog 95 [1,1,0,1,0,1,0,1,1,1] 1),(some 1),[],Ya [(6,(.ptr 0 0)),(54,(ii v1)),(56,(ii v2)),(57,(.dat bJ.length (Zz bJ)))]⟩,⟨⟨86,0,true⟩,(Ur prog 171 [1,0,0,1,0,0,1,1,0] 2),(Zb prog 171 [1,0,0,1,0,0,1,1,0] 1),none,[],Ya [(0,(.yld 1)),(1,(.ptr 5 0)),(2,(.ptr 7 0)),(4,(ii aS)),(82,(.yld 1)),(83,(.agg [(ii v1),(ii v2),(.sl 9 0 1 (.ex 1))]))]⟩,⟨⟨65,0,true⟩,none,(.inRangeFunc 1::(Zb prog 95 [1,1,0,1,0] 1)),none,(Zy prog 95),Ya [(4,(.ptr 3 0)),(5,(.ptr 4 0)),(6,(.ptr 0 0))]⟩,w9x],(y6v [(1,⟨.busy,none,65,Ya [(2,(.ptr 2 0)),(4,(.ptr 3 0)),(5,(.ptr 4 0)),(6,(.ptr 0 0))],[15],(Vd prog 95 [1,1,0,1,0,0]),(Vd prog 95 [1,1,0,1,0,1])⟩)])⟩
 | .h5 v2 v8 bZ bJ aS aD bC bD bX bH bO aB=>⟨⟨101,0,true⟩,none,(Zb prog 137 [0,1,0,0,1,0,0] 0),none,[],⟨Ya [(0,(.ptr 0 0)),(2,(ii v2)),(8,(ii v8))],y0t [(0,⟨[(.sla 1 6 0 aD.length (.un 6)),(.dat bC.length (Zz bC)),(ii bD),(ii bX)],168,none⟩),(1,⟨rows aD.length (Zz aD),67,some ⟨6,aD.length,(Zz aD)⟩⟩),(3,⟨[.nilf],117,none⟩),(4,⟨[.nils],38,none⟩),(5,⟨[(ii 0)],26,none⟩),(6,⟨[(.sla 7 1 0 bH (.un 1))],93,none⟩),(7,⟨rows bO.length (Zz bO),3,some ⟨1,bO.length,(Zz bO)⟩⟩),(8,⟨[(.sl 9 0 1 (.un 1))],166,none⟩),(9,⟨[(z3t l0)],22,none⟩),(10,⟨[(.dat aB.length (Zz aB))],99,none⟩)],11,[],true⟩,[⟨⟨65,0,true⟩,(Ur prog 95 [1,1,0,1,0,1,0,1,1,1] 5),(Zb prog 95 [1,1,0,1,0,1,0,1,1,1] 1),(some 2),[],Ya [(6,(.ptr 0 0)),(54,(ii bZ)),(56,(ii v2)),(57,(.dat bJ.length (Zz bJ)))]⟩,⟨⟨86,0,true⟩,(Ur prog 171 [1,0,0,1,0,0,1,1,0] 2),(Zb prog 171 [1,0,0,1,0,0,1,1,0] 1),none,[],Ya [(0,(.yld 2)),(1,(.ptr 6 0)),(2,(.ptr 8 0)),(4,(ii aS)),(82,(.yld 2)),(83,(.agg [(ii bZ),(ii v2),(.sl 10 0 1 (.ex 1))]))]⟩,⟨⟨65,0,true⟩,none,(.inRangeFunc 2::(Zb prog 95 [1,1,0,1,0] 1)),none,(Zy prog 95),Ya [(4,(.ptr 4 0)),(5,(.ptr 5 0)),(6,(.ptr 0 0))]⟩,⟨⟨15,0,true⟩,(Ur prog 47 [1,1,1,0] 3),(Zb prog 47 [1,1,1,0] 1),none,(Zy prog 15),Ya [(9,(.agg [.nilf])),(11,(.sl 9 0 1 (.un 1)))]⟩],(y6v [(2,⟨.busy,none,65,Ya [(2,(.ptr 3 0)),(4,(.ptr 4 0)),(5,(.ptr 5 0)),(6,(.ptr 0 0))],[15],(Vd prog 95 [1,1,0,1,0,0]),(Vd prog 95 [1,1,0,1,0,1])⟩)])⟩
def slmN0 :List (Option (List Nat)):=[some [0,1,7,8],some [5,6],some [0,7]]
def slmM0 :List (Option (List Nat)):=[]
def u8c :List (Option (List Nat)):=[some [1,3,8,9,10,14,15,16],some [2,4,5,6,13],some [9,11]]
def u8e :List (Option (List Nat)):=[]
def u8b :List (Option (List Nat)):=[some [0,1,2,4],some [4,5,6],some [9,11]]
def u8d :List (Option (List Nat)):=[some [2,4,5,6],none,none,none,none,none,none,none,none,none]
def v6m :List (Option (List Nat)):=[some [0,1,2,4,5,6,29,30,31,36,37,38],some [4,5,6],some [9,11]]
def v6o :List (Option (List Nat)):=[some [2,4,5,6],none,none,none,none,none,none,none,none,none,none,none,none]
def v6l :List (Option (List Nat)):=[some [0,1,2,72,73,74],some [6,54,56,57],some [0,1,2,4,82,83],some [4,5,6],some [9,11]]
def v6n :List (Option (List Nat)):=[none,some [2,4,5,6],none,none,none,none,none,none,none,none,none]
def slmN5 :List (Option (List Nat)):=[some [0,2,8],some [6,54,56,57],some [0,1,2,4,82,83],some [4,5,6],some [9,11]]
def slmM5 :List (Option (List Nat)):=[none,none,some [2,4,5,6],none,none,none,none,none,none,none,none]
def Xj (l0:List R6):slmS→Xv slmS
 | .h0 v8=>(bif (decide (v8<(l0.length:Int))) then (bif ((decide (0≤v8∧v8<(l0.length:Int)))&&true) then (bif (!(u7j (rd l0 v8.toNat).a (rd l0 v8.toNat).b (rd l0 v8.toNat).c (rd l0 v8.toNat).d (rd l0 v8.toNat).e (rd l0 v8.toNat).f)) then (bif (decide (v8≥0)) then (.ret [.nils,(.int .i64 8)]) else (.to (.h1 0 ([]:List Int)))) else (.to (.h0 (wrap .i64 (v8+1))))) else .stuck) else (.to (.h1 0 ([]:List Int))))
 | .h1 v16 aA=>(bif (decide (v16<(l0.length:Int))) then (bif ((decide (0≤v16∧v16<(l0.length:Int)))&&true) then (bif (Nat.beq 1 1&&((decide (0+aA.length=aA.length))&&decide ((aA.length+2+1)*(8+1)≤Uj))) then (.to (.h1 (wrap .i64 (v16+1)) (aA++[(rd l0 v16.toNat).c,(rd l0 v16.toNat).f]))) else .stuck) else .stuck) else (bif (decide (aA.length<4611686018427387904)) then (bif (decide (aA.length=aA.length)) then (.to (.h2 1 ([]:List R6) ([]:List R4) 0 0 (w8t (Yw aA.length (cOf (Zz (Xu (Yw aA.length (cOf (Zz aA)))))))) (Wa (Yw aA.length (cOf (Zz (Xu (Yw aA.length (cOf (Zz aA)))))))))) else .stuck) else .stuck))
 | .h2 v4 aG aP aZ bA aE aH=>(bif (decide (v4<((aE:Nat):Int))) then (bif ((decide (0≤(wrap .i64 (v4 - 1))∧(wrap .i64 (v4 - 1))<((aE:Nat):Int)))&&true) then (bif (decide ((0+(Int.toNat (wrap .i64 (v4 - 1))))<aH.length)) then (bif ((decide (0≤v4∧v4<((aE:Nat):Int)))&&true) then (bif (decide ((0+v4.toNat)<aH.length)) then (.to (.h3 v4 0 aG aP aZ bA aE aH (rd aH (0+(Int.toNat (wrap .i64 (v4 - 1))))) (rd aH (0+v4.toNat)) ([]:List R4))) else .stuck) else .stuck) else .stuck) else .stuck) else (bif (decide ((aG.length:Int)>400)) then (.ret [.nils,(.int .i64 4)]) else (.ret [(.dat aG.length (Zz aG)),(.int .i64 0)])))
 | .h3 v4 v38 aG aP aZ bA aE aH aO bB aB=>(bif (decide (v38<(l0.length:Int))) then (bif ((decide (0≤v38∧v38<(l0.length:Int)))&&true) then (bif (decide ((rd l0 v38.toNat).c ≤aO)) then (bif (decide (aO<(rd l0 v38.toNat).f)) then (bif (Nat.beq 4 4&&((decide (0+aB.length=aB.length))&&decide ((aB.length+1+1)*(32+1)≤Uj))) then (.to (.h3 v4 (wrap .i64 (v38+1)) aG aP aZ bA aE aH aO bB (aB++[(R4.mk (rd l0 v38.toNat).a (rd l0 v38.toNat).b (rd l0 v38.toNat).d (rd l0 v38.toNat).e)]))) else .stuck) else (.to (.h3 v4 (wrap .i64 (v38+1)) aG aP aZ bA aE aH aO bB aB))) else (.to (.h3 v4 (wrap .i64 (v38+1)) aG aP aZ bA aE aH aO bB aB))) else .stuck) else (bif (Uq (cvT aB)) then (bif ((Wo (cvT aB)) != 0) then (.ret [.nils,(.int .i64 (Wo (cvT aB)))]) else (bif (decide ((((Zd (cvT aB)).length :Nat):Int)>0)) then (bif (bA == aO) then (bif (Wp (cvT aP) (cvT (Zd (cvT aB)))) then (bif (Us (cvT aP) (cvT (Zd (cvT aB)))) then (.to (.h5 bB aZ aO (Zd (cvT aB)) v4 aG aP aZ bA aE aH aB)) else (.to (.h4 aO bB (Zd (cvT aB)) (((Zd (cvT aB)).length :Nat):Int) 0 (Zd (cvT aB)) v4 aG (Zd (cvT aB)) (aG.length:Int) aE aH aB))) else .stuck) else (.to (.h4 aO bB (Zd (cvT aB)) (((Zd (cvT aB)).length :Nat):Int) 0 (Zd (cvT aB)) v4 aG (Zd (cvT aB)) (aG.length:Int) aE aH aB))) else (.to (.h4 aO bB (Zd (cvT aB)) (((Zd (cvT aB)).length :Nat):Int) 0 (Zd (cvT aB)) v4 aG (Zd (cvT aB)) (aG.length:Int) aE aH aB)))) else .stuck))
 | .h4 v1 v2 v72 v73 v74 bJ aS aD bC bD aE aH aO=>(bif (decide (v74<v73)) then (bif ((decide (0≤v74∧v74<(v72.length:Int)))&&true) then (bif (Nat.beq 6 6&&((decide (0+aD.length=aD.length))&&decide ((aD.length+1+1)*(48+1)≤Uj))) then (.to (.h4 v1 v2 v72 v73 (wrap .i64 (v74+1)) bJ aS (aD++[(R6.mk (rd v72 v74.toNat).a (rd v72 v74.toNat).b v1 (rd v72 v74.toNat).c (rd v72 v74.toNat).d v2)]) bC bD aE aH aO)) else .stuck) else .stuck) else (.to (.h2 (wrap .i64 (aS+1)) aD bC bD v2 aE aH)))
 | .h5 v2 v8 bZ bJ aS aD bC bD bX bH bO aB=>(bif (decide (v8<(aD.length:Int))) then (bif ((decide (0≤v8∧v8<(aD.length:Int)))&&true) then (bif (decide ((0+v8.toNat)<aD.length)) then (.to (.h5 v2 (wrap .i64 (v8+1)) bZ bJ aS (aD.set (0+v8.toNat) (R6.mk (rd aD (0+v8.toNat)).a (rd aD (0+v8.toNat)).b (rd aD (0+v8.toNat)).c (rd aD (0+v8.toNat)).d (rd aD (0+v8.toNat)).e v2)) bC bD bX bH bO aB)) else .stuck) else .stuck) else (.to (.h2 (wrap .i64 (aS+1)) aD bC bD v2 bH bO)))
def y1x (l0:List R6):Xv slmS:=(bif (decide ((l0.length:Int)>400)) then (.ret [.nils,(.int .i64 4)]) else (.to (.h0 0)))
theorem w4x (l0:List R6): ∀s,Ys prog (Zy prog 47) (slmC l0) (slmC l0 s) (Xj l0 s)
 | .h0 v8=>(lb (fun k0=>(lo fun aF=>(lb (fun k1=>(lb (fun k2=>(lr 15 47 [1,1,0,1,0,0] 1 15 [(2,.nils),(3,(ii 8))] (sl Jp 54 [] ⟨[],[],[some [2,3]],[]⟩ ⟨[],[],[]⟩ (trs 3 []) (tt k2 (tt k1 (ww aF (tt k0 nn))))))) (fun k2=>(sl Jp 112 [(3,1,Zz ([]:List Int))] ⟨[6,1,7,2,3,4,5,8],[],u8c,u8e⟩ ⟨[],[.keep,.keep,.cells [.grow 7 1],.keep,.keep,.keep,.keep,.keep],[]⟩ (bl 4 11) (pp (fl ([]:List Int) nn) (tt k2 (tt k1 (ww aF (tt k0 nn))))))))) (fun k1=>(sl Jp 44 [] ⟨[],[],slmN0,slmM0⟩ ⟨[],[],[]⟩ (bl 2 1) (tt k1 (ww aF (tt k0 nn)))))))) (fun k0=>(sl Jp 81 [(3,1,Zz ([]:List Int))] ⟨[5,0,6,1,2,3,4,7],[],u8c,u8e⟩ ⟨[],[.keep,.keep,.cells [.grow 7 1],.keep,.keep,.keep,.keep,.keep],[]⟩ (bl 3 4) (pp (fl ([]:List Int) nn) (tt k0 nn)))))
 | .h1 v16 aA=>(lb (fun k0=>(lo fun o0=>(lo fun o1=>(sl Jp 34 [] ⟨[0,1,2,3,4,5,6,10],[],u8c,u8e⟩ ⟨[],[.keep,.keep,.cells [.len (y7l aA l0 v16).length],.keep,.keep,.keep,.keep,.rowed 1 (y7l aA l0 v16).length (Zz (y7l aA l0 v16))],[]⟩ [true] (pp (xL (aA.length+2) (y7l aA l0 v16).length) (pp (xL (aA.length+2) (y7l aA l0 v16).length) (pp (xS (aA.length+2) (Ze (Zz aA) 0 aA.length 1 [(ii (rd l0 (tn v16)).c),(ii (rd l0 (tn v16)).f)]) (Zz (y7l aA l0 v16))) (pp (pp (xF (Ze (Zz aA) 0 aA.length 1 [(ii (rd l0 (tn v16)).c),(ii (rd l0 (tn v16)).f)])) nn) (ww o1 (ww o0 (tt k0 nn))))))))))) (fun k0=>(lo fun o0=>(lo fun o1=>(sl Jp 46 [(67,6,Zz ([]:List R6))] ⟨[8,3,4,5,6,2,7,0,1,9],[],u8b,u8d⟩ ⟨[],(kpB 4 [.cells [.grow 9 6,.list 0 (Zz ([]:List R4)),.keep,.keep],.keep,.rowed 1 (y7o aA).length (Zz (y7o aA)),.keep,.keep,.keep]),[]⟩ (bl 2 0) (pp (xL aA.length (y7o aA).length (by first | exact z1v _ _ | exact Wc rfl)) (pp (xS aA.length (Zz (y7o aA)) (Zz (y7o aA))) (pp (fl (y7o aA) (fl ([]:List R6) nn)) (pp (pp (xG (Nat.beq 1 1)) (pp (xG (Nat.beq 1 1)) (pp (xG (Nat.beq 0 0)) (pp (xG (decide (aA.length=aA.length))) (pp (xG (isI (Zz (Xu (Yw aA.length (cOf (Zz aA))))))) (xG (decide (aA.length<4611686018427387904)))))))) (pp (pp (xG (Nat.beq 1 1)) (pp (xG (Nat.beq 1 1)) (pp (xG (Nat.beq 0 0)) (pp (xG (decide (aA.length=aA.length))) (pp (xG (isI (Zz aA))) (xG (decide (aA.length<4611686018427387904)))))))) (tt k0 nn)))))))))))
 | .h2 v4 aG aP aZ bA aE aH=>(lb (fun k0=>(lo fun o0=>(lo fun o1=>(lo fun o2=>(lo fun o3=>(sl Jp 48 [(88,4,Zz ([]:List R4))] ⟨[0,1,2,3,4,5,6,7,8,10,11,12,9],[],v6m,v6o⟩ ⟨[],(kpB 10 [.cells [.grow 11 4],.keep,.keep]),[]⟩ (trs 3 []) (pp (fl aH (fl ([]:List R4) (fl aG nn))) (ww o3 (ww o2 (ww o1 (ww o0 (tt k0 nn)))))))))))) (fun k0=>(lb (fun k1=>(lr 15 3 [1,1,1,1,1,1,1,0] 1 15 [(2,.nils),(3,(ii 4))] (sl Jp 33 [] ⟨[],[],[some [2,3]],[]⟩ ⟨[],[],[]⟩ (bl 2 2) (tt k1 (tt k0 nn))))) (fun k1=>(lr 15 3 [1,1,1,1,1,1,1,0] 1 15 [(2,(.dat aG.length (Zz aG))),(3,(ii 0))] (sl Jp 36 [] ⟨[],[9],[some [2,3]],[]⟩ ⟨[(2,.frz aG.length aG.length (Zz aG) (Zz aG))],[],[]⟩ (bl 2 0) (pp (xZ (z3k 6 6 0 aG.length aG.length (Zz aG)) aG.length (Zz aG)) (pp (xL aG.length aG.length) (pp (xS aG.length (Zz aG) (Zz aG)) (pp (fl aG nn) (tt k1 (tt k0 nn))))))))))))
 | .h3 v4 v38 aG aP aZ bA aE aH aO bB aB=>(lb (fun k0=>(lo fun aF=>(lb (fun k1=>(lb (fun k2=>(lo fun o0=>(sl Jp 41 [] ⟨[0,1,2,3,4,5,6,7,8,9,10,15,12],[],v6m,v6o⟩ ⟨[],(kpB 10 [.cells [.len (y7n aB l0 v38).length],.rowed 4 (y7n aB l0 v38).length (Zz (y7n aB l0 v38)),.keep]),[]⟩ (trs 8 []) (pp (xL (aB.length+1) (y7n aB l0 v38).length) (pp (xL (aB.length+1) (y7n aB l0 v38).length) (pp (xS (aB.length+1) (Ze (Zz aB) 0 aB.length 4 [(ii (rd l0 (tn v38)).a),(ii (rd l0 (tn v38)).b),(ii (rd l0 (tn v38)).d),(ii (rd l0 (tn v38)).e)]) (Zz (y7n aB l0 v38))) (pp (fl aH (pp (xF (Ze (Zz aB) 0 aB.length 4 [(ii (rd l0 (tn v38)).a),(ii (rd l0 (tn v38)).b),(ii (rd l0 (tn v38)).d),(ii (rd l0 (tn v38)).e)])) (fl aG nn))) (ww o0 (tt k2 (tt k1 (ww aF (tt k0 nn)))))))))))) (fun k2=>(sl Jp 41 [] ⟨(List.range 13),[],v6m,v6o⟩ ⟨[],[],[]⟩ (trs 7 [false]) (pp (fl aH (fl aB (fl aG nn))) (tt k2 (tt k1 (ww aF (tt k0 nn))))))))) (fun k1=>(sl Jp 41 [] ⟨(List.range 13),[],v6m,v6o⟩ ⟨[],[],[]⟩ (bl 8 1) (pp (fl aH (fl aB (fl aG nn))) (tt k1 (ww aF (tt k0 nn))))))))) (fun k0=>(Wu (sl Jp (C':=⟨⟨65,0,true⟩,(Ur prog 95 [1,1,0,1,0,1,0,0] 4),(Zb prog 95 [1,1,0,1,0,1,0,0] 1),(some 0),[],⟨Ya [(2,(.ptr 1 0)),(4,(.ptr 2 0)),(5,(.ptr 3 0)),(6,(.ptr 4 0)),(7,(.ptr 6 0)),(20,(.dat aB.length (Zz aB)))],y0t [(1,⟨[.nilf],117,none⟩),(2,⟨[.nils],38,none⟩),(3,⟨[(ii 0)],26,none⟩),(4,⟨[(.sla 5 6 0 aG.length (.un 6)),(.dat aP.length (Zz aP)),(ii aZ),(ii bA)],168,none⟩),(5,⟨rows aG.length (Zz aG),67,some ⟨6,aG.length,(Zz aG)⟩⟩),(6,⟨[(ii aO),(ii bB),(.sl 7 0 1 (.ex 1))],173,none⟩),(7,⟨[(.dat aB.length (Zz aB))],99,none⟩),(8,⟨[(.sla 9 1 0 aE (.un 1))],93,none⟩),(9,⟨rows aH.length (Zz aH),3,some ⟨1,aH.length,(Zz aH)⟩⟩),(10,⟨[(.sl 11 0 1 (.un 1))],166,none⟩),(11,⟨[(.dat l0.length (Zz l0))],22,none⟩)],12,[],true⟩,[⟨⟨86,0,true⟩,(Ur prog 171 [1,0,0,1,0,0,1,1,0] 2),(Zb prog 171 [1,0,0,1,0,0,1,1,0] 1),none,[],Ya [(0,(.yld 0)),(1,(.ptr 8 0)),(2,(.ptr 10 0)),(4,(ii v4)),(82,(.yld 0)),(83,(.agg [(ii aO),(ii bB),(.sl 7 0 1 (.ex 1))]))]⟩,⟨⟨65,0,true⟩,none,(.inRangeFunc 0::(Zb prog 95 [1,1,0,1,0] 1)),none,(Zy prog 95),Ya [(4,(.ptr 2 0)),(5,(.ptr 3 0)),(6,(.ptr 4 0))]⟩,⟨⟨15,0,true⟩,(Ur prog 47 [1,1,1,0] 3),(Zb prog 47 [1,1,1,0] 1),none,(Zy prog 15),Ya [(9,(.agg [.nilf])),(11,(.sl 11 0 1 (.un 1)))]⟩],(y6v [(0,⟨.busy,none,65,Ya [(2,(.ptr 1 0)),(4,(.ptr 2 0)),(5,(.ptr 3 0)),(6,(.ptr 4 0))],[15],(Vd prog 95 [1,1,0,1,0,0]),(Vd prog 95 [1,1,0,1,0,1])⟩)])⟩) 37 [] ⟨[0,1,2,3,4,12,13,10,5,6,7,8],[11],[some [2,4,5,6,7,20],some [0,1,2,4,82,83],some [4,5,6],some [9,11]],[some [2,4,5,6],none,none,none,none,none,none,none,none,none,none,none]⟩ ⟨[(20,.frz aB.length aB.length (Zz aB) (Zz aB))],[.keep,.keep,.keep,.keep,.keep,.keep,.keep,.cells [.frz aB.length aB.length (Zz aB) (Zz aB)],.keep,.keep,.keep,.keep],[]⟩ (bl 2 0) (pp (xZ (z3k 4 4 0 aB.length aB.length (Zz aB)) aB.length (Zz aB)) (pp (xL aB.length aB.length) (pp (xS aB.length (Zz aB) (Zz aB)) (pp (xZ (z3k 4 4 0 aB.length aB.length (Zz aB)) aB.length (Zz aB)) (pp (xL aB.length aB.length) (pp (xS aB.length (Zz aB) (Zz aB)) (pp (fl aG (fl aH nn)) (pp (fl aB nn) (tt k0 nn)))))))))) (lo fun aF=>(lb (fun k1=>(lr 15 3 [1,1,1,1,1,1,1,0] 1 15 [(2,.nils),(3,(ii (Wo (cvT aB))))] (sl Jp 50 [] ⟨[],[],[some [2,3]],[]⟩ ⟨[],[],[]⟩ (bl 3 6) (tt k1 (pp (pp (xr aB) (xw aF)) nn))))) (fun k1=>(lb (fun k2=>(lb (fun k3=>(lo fun cB=>(lb (fun k4=>(sl Jp 75 [] ⟨[4,5,0,1,2,3,8,9,10,11,7],[],slmN5,slmM5⟩ ⟨[],[],[]⟩ (bl 15 32764) (pp (fl aG (fl aH nn)) (tt k4 (pp (pp (xr aP) (pp (xI R4 (Zd (cvT aB)).length (Zz (Zd (cvT aB)))) (xw cB))) (tt k3 (tt k2 (tt k1 (pp (pp (xr aB) (xw aF)) nn))))))))) (fun k4=>(sl Jp 95 [] ⟨[4,0,1,2,3,8,9,10,11,7,5],[],v6l,v6n⟩ ⟨[],[],[]⟩ (bl 15 16380) (pp (fl aH (fl aG nn)) (tt k4 (pp (pp (xr aP) (pp (xI R4 (Zd (cvT aB)).length (Zz (Zd (cvT aB)))) (xw cB))) (tt k3 (tt k2 (tt k1 (pp (pp (xr aB) (xw aF)) nn)))))))))))) (fun k3=>(sl Jp 95 [] ⟨[4,0,1,2,3,8,9,10,11,7,5],[],v6l,v6n⟩ ⟨[],[],[]⟩ (bl 15 252) (pp (fl aH (fl aG nn)) (tt k3 (tt k2 (tt k1 (pp (pp (xr aB) (xw aF)) nn))))))))) (fun k2=>(sl Jp 95 [] ⟨[4,0,1,2,3,8,9,10,11,7,5],[],v6l,v6n⟩ ⟨[],[],[]⟩ (bl 15 0) (pp (fl aH (fl aG nn)) (tt k2 (tt k1 (pp (pp (xr aB) (xw aF)) nn)))))))))))))
 | .h4 v1 v2 v72 v73 v74 bJ aS aD bC bD aE aH aO=>(lb (fun k0=>(lo fun o0=>(lo fun o1=>(sl Jp 23 [] ⟨[0,1,2,3,4,5,6,7,8,9,13],[],v6l,v6n⟩ ⟨[],[.cells [.len (y7m aD v72 v74 v1 v2).length,.keep,.keep,.keep],.keep,.keep,.keep,.keep,.keep,.keep,.keep,.keep,.keep,.rowed 6 (y7m aD v72 v74 v1 v2).length (Zz (y7m aD v72 v74 v1 v2))],[]⟩ [true] (pp (xL (aD.length+1) (y7m aD v72 v74 v1 v2).length) (pp (xL (aD.length+1) (y7m aD v72 v74 v1 v2).length) (pp (xS (aD.length+1) (Ze (Zz aD) 0 aD.length 6 [(ii (rd v72 (tn v74)).a),(ii (rd v72 (tn v74)).b),(ii v1),(ii (rd v72 (tn v74)).c),(ii (rd v72 (tn v74)).d),(ii v2)]) (Zz (y7m aD v72 v74 v1 v2))) (pp (fl aH (pp (xF (Ze (Zz aD) 0 aD.length 6 [(ii (rd v72 (tn v74)).a),(ii (rd v72 (tn v74)).b),(ii v1),(ii (rd v72 (tn v74)).c),(ii (rd v72 (tn v74)).d),(ii v2)])) nn)) (ww o1 (ww o0 (tt k0 nn))))))))))) (fun k0=>(sl Jp 22 [] ⟨[1,2,3,4,0,5,6,7,8,10],[],u8b,u8d⟩ ⟨[],[],[]⟩ (bl 2 0) (pp (fl aH (fl aD nn)) (tt k0 nn)))))
 | .h5 v2 v8 bZ bJ aS aD bC bD bX bH bO aB=>(lb (fun k0=>(lo fun o0=>(lo fun o1=>(sl Jp 34 [] ⟨(List.range 11),[],slmN5,slmM5⟩ ⟨[],[.cells [.len (y7p aD v8 v2).length,.keep,.keep,.keep],.rowed 6 (y7p aD v8 v2).length (Zz (y7p aD v8 v2)),.keep,.keep,.keep,.keep,.keep,.keep,.keep,.keep,.keep],[]⟩ [true] (pp (xL aD.length (y7p aD v8 v2).length) (pp (xL aD.length (y7p aD v8 v2).length) (pp (xS aD.length (Xe (Zz aD) (0+(tn v8)) 5 [(ii v2)]) (Zz (y7p aD v8 v2))) (pp (pp (xF (Xe (Zz aD) (0+(tn v8)) 5 [(ii v2)])) (fl bO nn)) (ww o1 (ww o0 (tt k0 nn))))))))))) (fun k0=>(sl Jp 36 [] ⟨[2,3,4,5,0,6,7,8,9,1],[],u8b,u8d⟩ ⟨[],[],[]⟩ (bl 2 0) (pp (fl bO (fl aD nn)) (tt k0 nn)))))
theorem x6o (l0:List R6):Ys prog (Zy prog 47) (slmC l0) (Za prog 47 [(.dat l0.length (Zz l0))] true []) (y1x l0):=(lb (fun k0=>(lr 15 47 [1,0,1,0,0] 1 15 [(2,.nils),(3,(ii 4))] (sl Jp 18 [] ⟨[],[],[some [2,3]],[]⟩ ⟨[],[],[]⟩ [true] (tt k0 nn)))) (fun k0=>(sl Jp 41 [] ⟨[],[],slmN0,slmM0⟩ ⟨[],[],[]⟩ [false] (tt k0 nn))))
theorem v6k (l0:List R6) (n:Nat) (vs:List AVal) (h:Zs (Xj l0) n (y1x l0)=.ret vs):Jw prog (Zy prog 47) (Za prog 47 [(.dat l0.length (Zz l0))] true []) vs:=by have:=Zc (w4x l0) n _ (x6o l0);rwa [h] at this
def u0u (x y z:Int):Bool:=decide (z1i (z1i x y) z≥(-1000000))&&decide (z1j (z1j x y) z≤1000000)
theorem j1q (x y z:Int): ∃N,Zs (x9y x y z) N (y3g x y z)=.ret [.bool (u0u x y z)]:=⟨0,by
 unfold y3g u0u;cases decide (z1i (z1i x y) z≥(-1000000)) <;> rfl⟩
instance : DecidableEq R7:=Classical.typeDecidableEq _
def y7w (l m:List R7):Bool:=decide (l=m)
def z2g (l m:List R7):Bool:=decide (l.length≤1000000)
def eq7 (r s:R7):Bool:=(r.a == s.a)&&(((r.b == s.b)&&((r.c == s.c)&&((r.d == s.d)&&true)))&&(((r.e == s.e)&&((r.f == s.f)&&((r.g == s.g)&&true)))&&true))
theorem x1r (r s:R7):eq7 r s=true↔r=s:=by obtain ⟨a,b,c,d,e,f,g⟩:=r;obtain ⟨a',b',c',d',e',f',g'⟩:=s;simp [eq7,and_assoc]
theorem u6t (l m:List R7) (hl:l.length≤1000000) (hm:l.length=m.length): ∀(k i:Nat),i+k=l.length→ ∃N,Zs (z6o l m) N (.to (.h0 (i:Int)))=.ret [.bool (decide (l.drop i=m.drop i))]
 | 0,i,h=>by refine ⟨1,?_⟩;rw [Zv,Ar (by omega),Ar (by omega)];simp (disch:=omega) only [z6o,Yz,Aa,Zp,Av]
 | k+1,i,h=>by
  have hi:i<l.length:=by omega
  obtain ⟨N,hN⟩:=u6t l m hl hm k (i+1) (by omega);refine ⟨N+1,?_⟩;rw [Zv,Yx hi,Yx (show i<m.length by omega)];have e:z6o l m (.h0 (i:Int))=bif !(eq7 (rd l i) (rd m i)) then .ret [.bool false] else .to (.h0 ((i+1:Nat):Int)):=by simp (disch:=omega) only [z6o,eq7,Zo,Zr,Zk,Zx,Zj,Ai,Ab,Aa]
  rw [e];by_cases q:rd l i=rd m i
  ·rw [(x1r _ _).2 q,AE,Aa,hN]
   congr 3
   exact BJ.2 ⟨fun h=>by rw [q,h],fun h=>(List.cons.inj h).2⟩
  ·rw [show eq7 (rd l i) (rd m i)=false from A9.2 fun h=>q ((x1r _ _).1 h),AI,Ab,Zp]
   congr 3
   exact (Au fun h=>q (List.cons.inj h).1).symm
theorem j3h (l m:List R7) (h:z2g l m=true): ∃N,Zs (z6o l m) N (y3h l m)=.ret [.bool (y7w l m)]:=by
 have hl:l.length≤1000000:=AA h;unfold y3h;by_cases hm:l.length=m.length
 ·obtain ⟨N,hN⟩:=u6t l m hl hm l.length 0 (Ah _);refine ⟨N,?_⟩;rw [show ((l.length:Int) != (m.length:Int))=false by rw [hm];simp,Aa];exact hN
 ·refine ⟨0,?_⟩;rw [show ((l.length:Int) != (m.length:Int))=true by simp;omega,Ab,Zp]
  congr 3
  exact (Au fun e=>hm (by rw [e])).symm
def slmX :List AVal:=[.nils,.int .i64 8]
def eF (l:List R6):Nat→Nat→Int
 | 0,_=>0
 | k+1,i=>bif u1q l (rd (D6.cuts l) i) then Wo (D6.inn l (rd (D6.cuts l) i)) else eF l k (i+1)
def slmE (l:List R6) (k i:Nat):List AVal:=[.nils,.int .i64 (eF l k i)]
section
variable (l:List R6) (hl:l.length≤400)
include hl
theorem u2m (i:Nat) (out:List R6) (last:List R4) (first fin x x':Int): ∀(k j:Nat) (acc:List R4),j+k=l.length→acc.length≤j→
  ∃n,∀N,Zs (Xj l) (N+n) (.to (.h3 (i:Int) (j:Int) out last first fin ((D6.cuts l).length) (Wa (Xu (D6.ends l))) x x' acc))=Zs (Xj l) N (.to (.h3 (i:Int) (l.length:Int) out last first fin ((D6.cuts l).length) (Wa (Xu (D6.ends l))) x x' (acc++D6.inn (l.drop j) x)))
 | 0,j,acc,h,ha=>by refine ⟨0,fun N=> ?_⟩;rw [Ar (by omega),show D6.inn ([]:List R6) x=[] from rfl,AB,A4,show j=l.length by omega]
 | k+1,j,acc,h,ha=>by
  have hj:j<l.length:=by omega
  obtain ⟨n,hn⟩:=u2m i out last first fin x x' k (j+1) (acc++D6.inn [rd l j] x) (by omega) (by have:=D6.inn_length [rd l j] x;simp only [Ay,Br] at*;omega)
  refine ⟨n+1,fun N=> ?_⟩;have e:D6.inn (l.drop j) x=D6.inn [rd l j] x++D6.inn (l.drop (j+1)) x:=by rw [Yx hj,←D6.inn_append];rfl
  rw [e,←AC,Zv,←AH,←hn N];by_cases h1:D6.lo (rd l j)≤x
  ·by_cases h2:x<D6.hi (rd l j)
   ·rw [D6.inn_t _ _ h1 h2];simp only [D6] at h1 h2 ⊢;simp (disch:=omega) only [Xj,Xn,Zm,Zq,Zo,Zr,Yc,Yk,Yp,Zf,Zk,Zx,Yg,Zj,Ah,Av,Ai,Al,Ab,Aa]
   ·rw [D6.inn_f2 _ _ h2,AB];simp only [D6] at h1 h2;simp (disch:=omega) only [Xj,Xn,Yz,Zm,Zq,Zo,Zr,Yc,Yk,Yp,Zf,Zk,Zx,Yg,Zj,Ah,Av,Ai,Al,Ab,Aa]
  ·rw [D6.inn_f1 _ _ h1,AB];simp only [D6] at h1;simp (disch:=omega) only [Xj,w0f,Zm,Zq,Zo,Zr,Yc,Yk,Yp,Zf,Zk,Zx,Yg,Zj,Ah,Av,Ai,Al,Ab,Aa]
theorem u2l (i:Nat) (hi:i≤1000) (x x':Int) (s last:List R4) (first:Int) (inn:List R4) (hs:s.length≤1000): ∀(k j:Nat) (out:List R6),j+k=s.length→out.length≤10000000+j→
  ∃n,∀N,Zs (Xj l) (N+n) (.to (.h4 x x' s (s.length:Int) (j:Int) s (i:Int) out last first ((D6.cuts l).length) (Wa (Xu (D6.ends l))) inn))=Zs (Xj l) N (.to (.h2 ((i+1:Nat):Int) (out++(s.drop j).map (D6.put x x')) last first x' ((D6.cuts l).length) (Wa (Xu (D6.ends l)))))
 | 0,j,out,h,ho=>by have _u:=hl;refine ⟨1,fun N=> ?_⟩;rw [Ar (by omega),Zv];simp (disch:=omega) only [Xj,Yz,Zk,Zx,Aa,A5,AB]
 | k+1,j,out,h,ho=>by
  obtain ⟨n,hn⟩:=u2l i hi x x' s last first inn hs k (j+1) (out++[D6.put x x' (rd s j)]) (by omega) (by simp;omega)
  refine ⟨n+1,fun N=> ?_⟩;have:=hn N;rw [Yx (show j<s.length by omega),AW,←AC,Zv];simp (disch:=omega) only [Xj,Zm,Zq,Zo,Zr,Yc,Yk,Yp,Zf,Zk,Zx,Yg,Zj,Ah,Av,Ai,Al,Ab,Aa];rw [AH] at this;exact this
theorem u2k (i:Nat) (hi:i≤1000) (x x' fin:Int) (s last:List R4) (first:Int) (inn:List R4): ∀(k j:Nat) (out:List R6),j+k=out.length→out.length≤10000000→
  ∃n,∀N,Zs (Xj l) (N+n) (.to (.h5 x' (j:Int) x s (i:Int) out last first fin ((D6.cuts l).length) (Wa (Xu (D6.ends l))) inn))=Zs (Xj l) N (.to (.h2 ((i+1:Nat):Int) (D6.grow out j x') last first x' ((D6.cuts l).length) (Wa (Xu (D6.ends l)))))
 | 0,j,out,h,ho=>by have _u:=hl;refine ⟨1,fun N=> ?_⟩;rw [D6.grow_nil _ _ _ (by omega),Zv];simp (disch:=omega) only [Xj,Yz,Zk,Zx,Aa]
 | k+1,j,out,h,ho=>by
  obtain ⟨n,hn⟩:=u2k i hi x x' fin s last first inn k (j+1) (out.set j (D6.ext x' (rd out j))) (by simp;omega) (by simpa using ho)
  refine ⟨n+1,fun N=> ?_⟩;have:=hn N;rw [D6.grow_set out j _ (by omega)] at this;rw [←AC,Zv];simp (disch:=omega) only [Xj,Zm,Zq,Zo,Zr,Yc,Yk,Yp,Zf,Zk,Zx,Yg,Zj,Ah,Av,Ai,Al,Ab,Aa];exact this
theorem w9w : ∀(k i:Nat) (s:Sw R6 R4),k=(D6.cuts l).length - 1 - i→i≤(D6.cuts l).length →s.out.length≤i*1000→s.last.length≤1000→s.first≤s.out.length→
  ∃n,Zs (Xj l) n (.to (.h2 ((i+1:Nat):Int) s.out s.last (s.first:Int) s.fin ((D6.cuts l).length) (Wa (Xu (D6.ends l)))))=.ret ((bif okF l k i then Qw (D6.go l k i s).out else slmE l k i))
 | 0,i,s,h,hi,ho,hla,hf=>by
  have hc:=D6.cuts_length l;refine ⟨1,?_⟩;rw [Zv,show D6.go l 0 i s=s from rfl,show okF l 0 i=true from rfl,Ab];unfold Qw;by_cases q:(s.out.length:Int)>400
  ·simp (disch:=omega) only [Xj,Yz,Yn,Ab,Aa,Zp]
  ·simp (disch:=omega) only [Xj,Zm,Yz,Xm,Ab,Aa,Zp]
 | k +1,i,s,h,hi,ho,hla,hf=>by
  have hc:=D6.cuts_length l;have hi1:i+1<(D6.cuts l).length :=by omega
  have hpl:(Wa (Xu (D6.ends l))).length =2*l.length:=by rw [Ug,Xf,D6.ends_length]
  have r0:rd (Wa (Xu (D6.ends l))) i=rd (D6.cuts l) i:=z4b _ _ (by show i<(D6.cuts l).length;omega);have r1:rd (Wa (Xu (D6.ends l))) (i+1)=rd (D6.cuts l) (i+1):=z4b _ _ (by show i+1<(D6.cuts l).length;omega);have hbig:i*1000≤1000*1000:=AK _ (by omega);have hsl:=u7g l (rd (D6.cuts l) i);have hsd:D6.sec l (rd (D6.cuts l) i)=Zd (D6.inn l (rd (D6.cuts l) i)):=rfl;obtain ⟨n3,h3⟩:=u2m l hl (i+1) s.out s.last (s.first:Int) s.fin (rd (D6.cuts l) i) (rd (D6.cuts l) (i+1)) l.length 0 [] (Ah _) (An _);simp only [AX,Bg,Kb] at h3;have w1:Uq (D6.inn l (rd (D6.cuts l) i))=true:=rfl;have w2:Wp s.last (Zd (D6.inn l (rd (D6.cuts l) i)))=true:=Ag (by omega);have ol:=D6.one_length l (rd (D6.cuts l) i) (rd (D6.cuts l) (i+1)) s;have st0: ∀N,Zs (Xj l) (N+n3+1) (.to (.h2 ((i+1:Nat):Int) s.out s.last (s.first:Int) s.fin ((D6.cuts l).length) (Wa (Xu (D6.ends l)))))=Zs (Xj l) N (.to (.h3 ((i+1:Nat):Int) (l.length:Int) s.out s.last (s.first:Int) s.fin ((D6.cuts l).length) (Wa (Xu (D6.ends l))) (rd (D6.cuts l) i) (rd (D6.cuts l) (i+1)) (D6.inn l (rd (D6.cuts l) i)))):=fun N=>by
   rw [←h3 N,Zv];have e1:wrap .i64 (((i+1:Nat):Int) - 1)=(i:Int):=by rw [Zt];exact Zk (by omega)
   simp (disch:=omega) only [Xj,e1,r0,r1,Zm,Zq,Zo,Zr,Yc,Yk,Yp,Zf,Zk,Zx,Yg,Zj,Ah,Av,Ai,Al,Ab,Aa]
  rcases Ym (u1q l (rd (D6.cuts l) i)) with q0 | q0
  ·refine ⟨1+n3+1,?_⟩;rw [st0 1,Zv];simp only [okF,slmE,eF,q0,Ab,Aa];have q0':(Wo (D6.inn l (rd (D6.cuts l) i)) != 0)=true:=q0;simp (disch:=omega) only [Xj,Zm,Zq,Yz,q0',w1,Ab,Aa,Zp]
  have q0':(Wo (D6.inn l (rd (D6.cuts l) i)) != 0)=false:=q0;rcases Ym (decide (0<(D6.sec l (rd (D6.cuts l) i)).length)&&((s.fin == rd (D6.cuts l) i)&&D6.same s.last (D6.sec l (rd (D6.cuts l) i)))) with q | q
  ·obtain ⟨n5,h5⟩:=u2k l hl (i+1) (by omega) (rd (D6.cuts l) i) (rd (D6.cuts l) (i+1)) s.fin (D6.sec l (rd (D6.cuts l) i)) s.last (s.first:Int) (D6.inn l (rd (D6.cuts l) i)) (s.out.length - s.first) s.first s.out (by omega) (by omega)
   have e:D6.one l (rd (D6.cuts l) i) (rd (D6.cuts l) (i+1)) s=⟨D6.grow s.out s.first (rd (D6.cuts l) (i+1)),s.last,s.first,rd (D6.cuts l) (i+1)⟩:=by unfold Dim.one;rw [q];rfl
   obtain ⟨n0,h0⟩:=w9w k (i+1) (D6.one l (rd (D6.cuts l) i) (rd (D6.cuts l) (i+1)) s) (by omega) (by omega) (by omega) (by rw [e];exact hla) (by rw [e];simpa [Dim.grow_length] using hf);refine ⟨n0+n5+1+n3+1,?_⟩;rw [st0 (n0+n5+1),Zv];simp only [Ac,At] at q;obtain ⟨q1,q2,q3⟩:=q;have q3':Us s.last (Zd (D6.inn l (rd (D6.cuts l) i)))=true:=q3;rw [hsd] at q1;simp (disch:=omega) only [Xj,Zm,Zq,Yz,Yn,q0',q2,q3',w1,w2,Ab,Aa];rw [←hsd,h5 n0];simp only [okF,slmE,eF,q0,Aa];simp only [Dim.go];rw [e] at h0 ⊢;exact h0
  ·obtain ⟨n4,h4⟩:=u2l l hl (i+1) (by omega) (rd (D6.cuts l) i) (rd (D6.cuts l) (i+1)) (D6.sec l (rd (D6.cuts l) i)) (D6.sec l (rd (D6.cuts l) i)) (s.out.length:Int) (D6.inn l (rd (D6.cuts l) i)) hsl (D6.sec l (rd (D6.cuts l) i)).length 0 s.out (Ah _) (by omega);simp only [AX,Kb] at h4;have e:D6.one l (rd (D6.cuts l) i) (rd (D6.cuts l) (i+1)) s=⟨s.out++(D6.sec l (rd (D6.cuts l) i)).map (D6.put (rd (D6.cuts l) i) (rd (D6.cuts l) (i+1))),D6.sec l (rd (D6.cuts l) i),s.out.length,rd (D6.cuts l) (i+1)⟩:=by unfold Dim.one;rw [q];rfl
   obtain ⟨n0,h0⟩:=w9w k (i+1) (D6.one l (rd (D6.cuts l) i) (rd (D6.cuts l) (i+1)) s) (by omega) (by omega) (by omega) (by rw [e];exact hsl) (by rw [e];simp);have hg:Zs (Xj l) 1 (.to (.h3 ((i+1:Nat):Int) (l.length:Int) s.out s.last (s.first:Int) s.fin ((D6.cuts l).length) (Wa (Xu (D6.ends l))) (rd (D6.cuts l) i) (rd (D6.cuts l) (i+1)) (D6.inn l (rd (D6.cuts l) i))))=.to (.h4 (rd (D6.cuts l) i) (rd (D6.cuts l) (i+1)) (D6.sec l (rd (D6.cuts l) i)) ((D6.sec l (rd (D6.cuts l) i)).length :Int) 0 (D6.sec l (rd (D6.cuts l) i)) ((i+1:Nat):Int) s.out (D6.sec l (rd (D6.cuts l) i)) (s.out.length:Int) ((D6.cuts l).length) (Wa (Xu (D6.ends l))) (D6.inn l (rd (D6.cuts l) i))):=by
    rw [show (1:Nat)=0+1 from rfl,Zv];rw [hsd] at q ⊢;have e3:D6.same s.last (Zd (D6.inn l (rd (D6.cuts l) i)))=Us s.last (Zd (D6.inn l (rd (D6.cuts l) i))):=rfl;rw [e3] at q;by_cases q1:0<(Zd (D6.inn l (rd (D6.cuts l) i))).length
    ·rw [Ag q1,Al] at q;rcases Ym (s.fin == rd (D6.cuts l) i) with q2 | q2
     ·rw [q2,Al] at q;simp (disch:=omega) only [Xj,Zm,Zq,Yz,Yn,q0',q2,q,w1,w2,Ab,Aa];rfl
     ·simp (disch:=omega) only [Xj,Zm,Zq,Yz,Yn,q0',q2,w1,w2,Ab,Aa];rfl
    ·simp (disch:=omega) only [Xj,Zm,Zq,Yz,Xm,q0',w1,w2,Ab,Aa];rfl
   refine ⟨n0+n4+1+n3+1,?_⟩;rw [st0 (n0+n4+1),z8g _ (n0+n4) 1,hg,h4 n0];simp only [okF,slmE,eF,q0,Aa];simp only [Dim.go];rw [e] at h0 ⊢;exact h0
theorem u2n : ∀(k i:Nat) (acc:List Int),i+k=l.length→acc=D6.ends (l.take i)→ ∃n,Zs (Xj l) n (.to (.h1 (i:Int) acc))=.ret ((bif okF l ((D6.cuts l).length - 1) 0 then Qw (D6.go l ((D6.cuts l).length - 1) 0 ⟨[],[],0,0⟩).out else slmE l ((D6.cuts l).length - 1) 0))
 | 0,i,acc,h,ha=>by
  have e:acc=D6.ends l:=by rw [ha,AQ (by omega)]
  subst e;have hle:=D6.ends_length l;obtain ⟨n,hn⟩:=w9w l hl ((D6.cuts l).length - 1) 0 ⟨[],[],0,0⟩ (by omega) (AD _) (AD _) (AD _) (AD _);refine ⟨n+1,?_⟩;rw [Zv];simp (disch:=omega) only [Xj,Xr,z0c,z9z,Yz,Yk,Yp,Av,Ab,Aa];exact hn
 | k+1,i,acc,h,ha=>by
  have hle:=D6.ends_length (l.take i);have eX:acc.length≤2*i:=by rw [ha,hle];simp;omega
  obtain ⟨n,hn⟩:=u2n k (i+1) (acc++D6.ends [rd l i]) (by omega) (by
   rw [ha,Ba];have:l[i]? =some (rd l i):=by rw [Yo (show i<l.length by omega)];exact Aq _
   rw [this,D6.ends_append];rfl)
  refine ⟨n+1,?_⟩;rw [Zv];simp (disch:=omega) only [Xj,Zm,Zq,Zo,Zr,Yc,Yk,Yp,Zf,Zk,Zx,Yg,Zj,Ah,Av,Ai,Al,Ab,Aa];exact hn
theorem u2o : ∀(k i:Nat),i+k=l.length→(∀s∈l.take i,z0a s=true)→ ∃n,Zs (Xj l) n (.to (.h0 (i:Int)))=.ret (bif l.all z0a then (bif okF l ((D6.cuts l).length - 1) 0 then Qw (D6.go l ((D6.cuts l).length - 1) 0 ⟨[],[],0,0⟩).out else slmE l ((D6.cuts l).length - 1) 0) else slmX)
 | 0,i,h,ht=>by have hv:l.all z0a=true:=Aw.2 fun s hs=>ht s (by rw [AQ (by omega)];exact hs);obtain ⟨n,hn⟩:=u2n l hl l.length 0 [] (Ah _) rfl;refine ⟨n+1,?_⟩;rw [Zv,hv,Ab];simp (disch:=omega) only [Xj,Yz,Aa];exact hn
 | k+1,i,h,ht=>by
  have hi:i<l.length:=by omega
  have hs:Xj l (.h0 (i:Int))=bif z0a (rd l i) then .to (.h0 ((i+1:Nat):Int)) else .ret slmX:=by have e:u7j (rd l i).a (rd l i).b (rd l i).c (rd l i).d (rd l i).e (rd l i).f =z0a (rd l i):=rfl;simp (disch:=omega) only [Xj,e,z6u,x5a,x5b,Zr,Zk,Zx,Zj,Ai,Ab,Aa];rfl
  rcases Ym (z0a (rd l i)) with q | q
  ·obtain ⟨n,hn⟩:=u2o k (i+1) (by omega) (fun s hs=>by
    rw [Ba] at hs;have e:l[i]? =some (rd l i):=by rw [Yo hi];exact Aq _
    rw [e] at hs;simp only [Cf,AF,AS] at hs;rcases hs with hs | rfl
    ·exact ht s hs
    ·exact q)
   refine ⟨n+1,?_⟩;rw [Zv,hs,q,Ab];exact hn
  ·have hv:l.all z0a=false:=A9.2 fun e=>by have:=Aw.1 e (rd l i) (by rw [Yo hi];exact AN hi);rw [this] at q;cases q
   refine ⟨1,?_⟩;rw [Zv,hv,Aa,hs,q,Aa,Zp]
end
theorem j3p {l:List R6}: ∀(k i:Nat),okF l k i=false→(eF l k i != 0)=true
 | 0,i,h=>by cases h
 | k+1,i,h=>by
  unfold okF at h;unfold eF;rcases Ym (u1q l (rd (D6.cuts l) i)) with q | q
  ·rw [q,Ab];exact q
  ·rw [q,Aa] at h ⊢;exact j3p k (i+1) h
def z5o (l:List R6):Int:=bif decide (400<l.length) then 4 else bif l.all z0a then (bif okF l ((D6.cuts l).length - 1) 0 then x5d (D6.out l).length else eF l ((D6.cuts l).length - 1) 0) else 8
def Wd (l:List R6):List R6:=x4x (z5o l) (D6.out l)
def z6z (l:List R6):Bool:=true
theorem u7z (l:List R6) (h:z6z l=true): ∃n,Zs (Xj l) n (y1x l)=.ret (y4h (z5o l) (D6.out l)):=by
 unfold y1x z5o;by_cases h:400<l.length
 ·refine ⟨0,?_⟩;rw [Ag h,Yn (show (l.length:Int)>400 by omega)];rfl
 ·obtain ⟨n,hn⟩:=u2o l (by omega) l.length 0 (Ah _) (fun s hs=>by simp at hs);refine ⟨n,?_⟩;rw [Au h,Xm (show¬(l.length:Int)>400 by omega),Aa,Aa];rw [Kb] at hn;rw [hn];rcases Ym (l.all z0a) with q | q
  ·rw [q,Ab,Ab];rcases Ym (okF l ((D6.cuts l).length - 1) 0) with q2 | q2
   ·rw [q2,Ab,Ab,z8t];rfl
   ·rw [q2,Aa,Aa,z2k _ (j3p _ _ q2)];rfl
  ·rw [q];rfl
def fSlm :List AVal→Option (AVal×Bool)
 | [a0]=>match asL R6 a0 with
  | some (L0,g0,n0)=>some (.tup [.dat (Wd L0).length (Zz (Wd L0)),.int .i64 (z5o L0)],isT R6 n0 g0&&(z6z L0))
  | _=>none
 | _=>none
theorem j1y {S:Specs} (hS:Zu prog S):Zu prog (S.with v2g fSlm):=by
 refine w8s hS (by kernel_rfl) fun args v h=> ?_;unfold fSlm at h;split at h
 ·rename_i a0;split at h
  ·rename_i L0 g0 n0 e0;simp only [Ae,Ad,Ac] at h;obtain ⟨rfl,ho0,hw⟩:=h;obtain ⟨N,hN⟩:=u7z L0 hw;exact ⟨_,_,(.cons (asL_le e0 ho0) .nil),z4t _ _,v6k L0 N _ hN,3,z9i _ _⟩
  ·cases h
 ·cases h
def fFin :List AVal→Option (AVal×Bool)
 | [.agg [.int .i64 aU,.int .i64 aV,.int .i64 aW]]=>some (.bool (u0u aU aV aW),true)
 | _=>none
theorem j3b {S:Specs} (hS:Zu prog S):Zu prog (S.with u5m fFin):=by
 refine z0o hS (by kernel_rfl) fun args v h=> ?_;unfold fFin at h;split at h
 ·rename_i aU aV aW;simp only [Ae,Ad,Cp] at h;subst h;obtain ⟨N,hN⟩:=j1q aU aV aW;exact ⟨_,_,(.cons (.refl _) .nil),rfl,u0t aU aV aW N _ hN,3,rfl⟩
 ·cases h
def fEqq :List AVal→Option (AVal×Bool)
 | [a0,a1]=>match asL R7 a0,asL R7 a1 with
  | some (L0,g0,n0),some (L1,g1,n1)=>some (.bool (y7w L0 L1),isT R7 n0 g0&&(isT R7 n1 g1&&(z2g L0 L1)))
  | _,_=>none
 | _=>none
theorem j3c {S:Specs} (hS:Zu prog S):Zu prog (S.with nEq7 fEqq):=by
 refine z0o hS (by kernel_rfl) fun args v h=> ?_;unfold fEqq at h;split at h
 ·rename_i a0 a1;split at h
  ·rename_i L0 g0 n0 L1 g1 n1 e0 e1;simp only [Ae,Ad,Ac] at h;obtain ⟨rfl,ho0,ho1,hw⟩:=h;obtain ⟨N,hN⟩:=j3h L0 L1 hw;exact ⟨_,_,(.cons (asL_le e0 ho0) (.cons (asL_le e1 ho1) .nil)),rfl,u1a L0 L1 N _ hN,3,rfl⟩
  ·cases h
 ·cases h
def Mg :Specs:=(((Me.with u5m fFin).with nEq7 fEqq).with v2g fSlm)
theorem z3g :Zu prog Mg:=(j1y (j3c (j3b Jp)))
-- h0: index into an array (choices [true, false, false, false, false, false, false])
inductive mckS where
 | h0 (v14:Int)
def mckC (l0:List R7):mckS→Cfg
 | .h0 v14=>⟨⟨70,0,true⟩,none,(Zb prog 24 [1,1,1,0,1,0,0] 0),none,(Zy prog 3),⟨Ya [(3,(.ptr 0 0)),(12,(.dat l0.length (Zz l0))),(13,(ii (l0.length:Int))),(14,(ii v14))],Wr [⟨[(.fn 105 []),(.fn 106 []),(.fn 107 []),(.fn 108 []),(.fn 109 []),(.fn 110 []),(.fn 111 []),(.fn 112 []),(.fn 113 [])],85,none⟩] 0,1,[],true⟩,[],.leaf⟩
def v9t :List (Option (List Nat)):=[some [3,12,13,14]]
def v9u :List (Option (List Nat)):=[]
def z6l (l0:List R7):mckS→Xv mckS
 | .h0 v14=>(bif (decide (v14<(l0.length:Int))) then (bif ((decide (0≤v14∧v14<(l0.length:Int)))&&true) then (bif (decide ((rd l0 v14.toNat).a >5)) then (.ret [(.int .i64 8)]) else (bif (!(u0u (rd l0 v14.toNat).b (rd l0 v14.toNat).c (rd l0 v14.toNat).d)) then (.ret [(.int .i64 8)]) else (bif (!(u0u (rd l0 v14.toNat).e (rd l0 v14.toNat).f (rd l0 v14.toNat).g)) then (.ret [(.int .i64 8)]) else (bif (decide ((wrap IntKind.u8 (Int.tdiv (rd l0 v14.toNat).a 2))=Int.ofNat 0)) then (bif ((rd l0 v14.toNat).b != (rd l0 v14.toNat).e) then (.ret [(.int .i64 8)]) else (bif (decide ((rd l0 v14.toNat).c ≥(rd l0 v14.toNat).f)) then (.ret [(.int .i64 8)]) else (bif (decide ((rd l0 v14.toNat).d ≥(rd l0 v14.toNat).g)) then (.ret [(.int .i64 8)]) else (.to (.h0 (wrap .i64 (v14+1))))))) else (bif (decide ((wrap IntKind.u8 (Int.tdiv (rd l0 v14.toNat).a 2))=Int.ofNat 1)) then (bif ((rd l0 v14.toNat).c != (rd l0 v14.toNat).f) then (.ret [(.int .i64 8)]) else (bif (decide ((rd l0 v14.toNat).b ≥(rd l0 v14.toNat).e)) then (.ret [(.int .i64 8)]) else (bif (decide ((rd l0 v14.toNat).d ≥(rd l0 v14.toNat).g)) then (.ret [(.int .i64 8)]) else (.to (.h0 (wrap .i64 (v14+1))))))) else (bif (decide ((wrap IntKind.u8 (Int.tdiv (rd l0 v14.toNat).a 2))=Int.ofNat 2)) then (bif ((rd l0 v14.toNat).d != (rd l0 v14.toNat).g) then (.ret [(.int .i64 8)]) else (bif (decide ((rd l0 v14.toNat).b ≥(rd l0 v14.toNat).e)) then (.ret [(.int .i64 8)]) else (bif (decide ((rd l0 v14.toNat).c ≥(rd l0 v14.toNat).f)) then (.ret [(.int .i64 8)]) else (.to (.h0 (wrap .i64 (v14+1))))))) else .stuck)))))) else .stuck) else (.ret [(.int .i64 0)]))
def y2w (l0:List R7):Xv mckS:=(bif (decide ((l0.length:Int)>3000)) then (.ret [(.int .i64 4)]) else (.to (.h0 0)))
theorem w6o (l0:List R7): ∀s,Ys prog (Zy prog 24) (mckC l0) (mckC l0 s) (z6l l0 s)
 | .h0 v14=>(lb (fun k0=>(lo fun aF=>(lb (fun k1=>(lr 70 24 [1,1,1,0,1,0,0,1,1,0,0,1,0,1,0,0] 1 3 [(2,(ii 8))] (sl z3g 40 [] ⟨[],[],[some [2]],[]⟩ ⟨[],[],[]⟩ (trs 10 []) (tt k1 (ww aF (tt k0 nn)))))) (fun k1=>(lb (fun k2=>(lr 70 24 [1,1,1,0,1,0,0,1,1,0,0,1,0,1,0,0] 1 3 [(2,(ii 8))] (sl z3g 40 [] ⟨[],[],[some [2]],[]⟩ ⟨[],[],[]⟩ (bl 10 993) (tt k2 (tt k1 (ww aF (tt k0 nn))))))) (fun k2=>(lb (fun k3=>(lr 70 24 [1,1,1,0,1,0,0,1,1,0,0,1,0,1,0,0] 1 3 [(2,(ii 8))] (sl z3g 40 [] ⟨[],[],[some [2]],[]⟩ ⟨[],[],[]⟩ (bl 10 513) (tt k3 (tt k2 (tt k1 (ww aF (tt k0 nn)))))))) (fun k3=>(lb (fun k4=>(lb (fun k5=>(lr 70 24 [1,1,1,0,1,0,0,1,1,0,0,1,1,1,1,1,0,0] 1 3 [(2,(ii 8))] (sl z3g 124 [] ⟨[],[],[some [2]],[]⟩ ⟨[],[],[]⟩ (bl 22 4192257) (tt k5 (ww k4 (tt k3 (tt k2 (tt k1 (ww aF (tt k0 nn)))))))))) (fun k5=>(lb (fun k6=>(lr 70 24 [1,1,1,0,1,0,0,1,1,0,0,1,1,1,1,1,0,0] 1 3 [(2,(ii 8))] (sl z3g 124 [] ⟨[],[],[some [2]],[]⟩ ⟨[],[],[]⟩ (bl 22 4128769) (tt k6 (tt k5 (ww k4 (tt k3 (tt k2 (tt k1 (ww aF (tt k0 nn))))))))))) (fun k6=>(lb (fun k7=>(lr 70 24 [1,1,1,0,1,0,0,1,1,0,0,1,1,1,1,1,0,0] 1 3 [(2,(ii 8))] (sl z3g 124 [] ⟨[],[],[some [2]],[]⟩ ⟨[],[],[]⟩ (bl 22 2097153) (tt k7 (tt k6 (tt k5 (ww k4 (tt k3 (tt k2 (tt k1 (ww aF (tt k0 nn)))))))))))) (fun k7=>(sl z3g 127 [] ⟨[0],[],v9t,v9u⟩ ⟨[],[],[]⟩ (bl 22 1) (tt k7 (tt k6 (tt k5 (ww k4 (tt k3 (tt k2 (tt k1 (ww aF (tt k0 nn))))))))))))))))) (fun k4=>(lb (fun k5=>(lb (fun k6=>(lr 70 24 [1,1,1,0,1,0,0,1,1,0,0,1,1,1,1,1,0,0] 1 3 [(2,(ii 8))] (sl z3g 124 [] ⟨[],[],[some [2]],[]⟩ ⟨[],[],[]⟩ (bl 23 8385537) (tt k6 (ww k5 (tt k3 (tt k2 (tt k1 (ww aF (tt k0 nn)))))))))) (fun k6=>(lb (fun k7=>(lr 70 24 [1,1,1,0,1,0,0,1,1,0,0,1,1,1,1,1,0,0] 1 3 [(2,(ii 8))] (sl z3g 124 [] ⟨[],[],[some [2]],[]⟩ ⟨[],[],[]⟩ (bl 23 8258561) (tt k7 (tt k6 (ww k5 (tt k3 (tt k2 (tt k1 (ww aF (tt k0 nn))))))))))) (fun k7=>(lb (fun k8=>(lr 70 24 [1,1,1,0,1,0,0,1,1,0,0,1,1,1,1,1,0,0] 1 3 [(2,(ii 8))] (sl z3g 124 [] ⟨[],[],[some [2]],[]⟩ ⟨[],[],[]⟩ (bl 23 4195329) (tt k8 (tt k7 (tt k6 (ww k5 (tt k3 (tt k2 (tt k1 (ww aF (tt k0 nn)))))))))))) (fun k8=>(sl z3g 127 [] ⟨[0],[],v9t,v9u⟩ ⟨[],[],[]⟩ (bl 23 1025) (tt k8 (tt k7 (tt k6 (ww k5 (tt k3 (tt k2 (tt k1 (ww aF (tt k0 nn))))))))))))))))) (fun k5=>(lb (fun k6=>(lb (fun k7=>(lr 70 24 [1,1,1,0,1,0,0,1,1,0,0,1,1,1,1,1,0,0] 1 3 [(2,(ii 8))] (sl z3g 124 [] ⟨[],[],[some [2]],[]⟩ ⟨[],[],[]⟩ (bl 24 16772097) (tt k7 (ww k6 (tt k3 (tt k2 (tt k1 (ww aF (tt k0 nn)))))))))) (fun k7=>(lb (fun k8=>(lr 70 24 [1,1,1,0,1,0,0,1,1,0,0,1,1,1,1,1,0,0] 1 3 [(2,(ii 8))] (sl z3g 124 [] ⟨[],[],[some [2]],[]⟩ ⟨[],[],[]⟩ (bl 24 16518145) (tt k8 (tt k7 (ww k6 (tt k3 (tt k2 (tt k1 (ww aF (tt k0 nn))))))))))) (fun k8=>(lb (fun k9=>(lr 70 24 [1,1,1,0,1,0,0,1,1,0,0,1,1,1,1,1,0,0] 1 3 [(2,(ii 8))] (sl z3g 124 [] ⟨[],[],[some [2]],[]⟩ ⟨[],[],[]⟩ (bl 24 8391681) (tt k9 (tt k8 (tt k7 (ww k6 (tt k3 (tt k2 (tt k1 (ww aF (tt k0 nn)))))))))))) (fun k9=>(sl z3g 127 [] ⟨[0],[],v9t,v9u⟩ ⟨[],[],[]⟩ (bl 24 3073) (tt k9 (tt k8 (tt k7 (ww k6 (tt k3 (tt k2 (tt k1 (ww aF (tt k0 nn))))))))))))))))) (fun k6=>trivial)))))))))))))) (fun k0=>(lr 70 3 [1,1,1,1,1,1,1,0] 1 3 [(2,(ii 0))] (sl z3g 11 [] ⟨[],[],[some [2]],[]⟩ ⟨[],[],[]⟩ [false] (tt k0 nn)))))
theorem x8y (l0:List R7):Ys prog (Zy prog 24) (mckC l0) (Za prog 24 [(.dat l0.length (Zz l0))] true []) (y2w l0):=(lb (fun k0=>(lr 70 24 [1,0,1,0,0] 1 3 [(2,(ii 4))] (sl z3g 16 [] ⟨[],[],[some [2]],[]⟩ ⟨[],[],[]⟩ [true] (tt k0 nn)))) (fun k0=>(sl z3g 41 [] ⟨[1],[],v9t,v9u⟩ ⟨[],[],[]⟩ [false] (tt k0 nn))))
theorem v9s (l0:List R7) (n:Nat) (vs:List AVal) (h:Zs (z6l l0) n (y2w l0)=.ret vs):Jw prog (Zy prog 24) (Za prog 24 [(.dat l0.length (Zz l0))] true []) vs:=by have:=Zc (w6o l0) n _ (x8y l0);rwa [h] at this
def v6d (r:R7):Bool:=decide (r.a≤5)&&(u0u r.b r.c r.d&&(u0u r.e r.f r.g&&
 (bif decide (r.a<2) then (r.b == r.e)&&(decide (r.c<r.f)&&decide (r.d<r.g)) else bif decide (r.a<4) then (r.c == r.f)&&(decide (r.b<r.e)&&decide (r.d<r.g)) else (r.d == r.g)&&(decide (r.b<r.e)&&decide (r.c<r.f)))))
def v3a (L:List R7):Int:=bif decide (3000<L.length) then 4 else bif L.all v6d then 0 else 8
def z1u (L:List R7):Bool:=L.all fun r=>decide (0≤r.a)&&decide (r.a<256)
theorem v3s (a b:Int):decide (a≥b)= !decide (a<b):=by
 by_cases h:a<b
 ·rw [Ag h];exact Au (by omega)
 ·rw [Au h];exact Ag (by omega)
theorem u7p {a:Int} (h0:0≤a) (h5:a≤5):wrap IntKind.u8 (Int.tdiv a 2)=(if a<2 then 0 else if a<4 then 1 else 2):=by
 have:a=0∨a=1∨a=2∨a=3∨a=4∨a=5:=by omega
 rcases this with rfl | rfl | rfl | rfl | rfl | rfl <;> rfl
theorem u6h (L:List R7) (hl:L.length≤3000) (ho:z1u L=true): ∀(k i:Nat),i+k=L.length→ ∃N,Zs (z6l L) N (.to (.h0 (i:Int)))=.ret [.int .i64 (bif (L.drop i).all v6d then 0 else 8)]
 | 0,i,h=>by refine ⟨1,?_⟩;rw [Zv,Ar (by omega)];simp (disch:=omega) only [z6l,Yz,Aa];rfl
 | k +1,i,h=>by
  have hi:i<L.length:=by omega
  obtain ⟨N,hN⟩:=u6h L hl ho k (i+1) (by omega);have hb:0≤(rd L i).a ∧(rd L i).a <256:=by
   have:=Aw.1 ho (rd L i) (by rw [Yo hi];exact AN hi)
   simpa using this
  refine ⟨N+1,?_⟩;rw [Zv,Yx hi,List.all_cons];have e:z6l L (.h0 (i:Int))=bif v6d (rd L i) then .to (.h0 ((i+1:Nat):Int)) else .ret [.int .i64 8]:=by
   have hw:wrap .i64 ((i:Int)+1)=((i+1:Nat):Int):=Zk (by omega);simp (disch:=omega) only [z6l,Zo,Zr,hw,Zj,Ai,Ab];unfold v6d;by_cases h5:(rd L i).a ≤5
   ·rw [Xm (by omega),Xn h5,Aa,u7p hb.1 h5];cases u0u (rd L i).b (rd L i).c (rd L i).d <;> cases u0u (rd L i).e (rd L i).f (rd L i).g <;> try rfl
    by_cases h2:(rd L i).a <2
    ·rw [Az h2,Zo h2];simp only [v3s,bne];cases ((rd L i).b == (rd L i).e) <;> cases decide ((rd L i).c <(rd L i).f) <;> cases decide ((rd L i).d <(rd L i).g) <;> rfl
    ·rw [As h2,Yz h2];by_cases h4:(rd L i).a <4
     ·rw [Az h4,Zo h4];simp only [v3s,bne];cases ((rd L i).c == (rd L i).f) <;> cases decide ((rd L i).b <(rd L i).e) <;> cases decide ((rd L i).d <(rd L i).g) <;> rfl
     ·rw [As h4,Yz h4];simp only [v3s,bne];cases ((rd L i).d == (rd L i).g) <;> cases decide ((rd L i).b <(rd L i).e) <;> cases decide ((rd L i).c <(rd L i).f) <;> rfl
   ·rw [Yn (by omega),w0f h5];rfl
  rw [e];rcases Ym (v6d (rd L i)) with q | q
  ·rw [q,Ab,Al];exact hN
  ·rw [q,Aa,Bq];exact Zp _ _ _
theorem j0y (L:List R7) (h:z1u L=true): ∃N,Zs (z6l L) N (y2w L)=.ret [.int .i64 (v3a L)]:=by
 unfold y2w v3a;by_cases g:3000<L.length
 ·refine ⟨0,?_⟩;rw [Yn (by omega),Ag g];rfl
 ·obtain ⟨N,hN⟩:=u6h L (by omega) h L.length 0 (Ah _);refine ⟨N,?_⟩;rw [Xm (by omega),Au g];exact hN
def fMck :List AVal→Option (AVal×Bool)
 | [a0]=>match asL R7 a0 with
  | some (L0,g0,n0)=>some (.int .i64 (v3a L0),isT R7 n0 g0&&(z1u L0))
  | _=>none
 | _=>none
theorem j2v {S:Specs} (hS:Zu prog S):Zu prog (S.with v2m fMck):=by
 refine z0o hS (by kernel_rfl) fun args v h=> ?_;unfold fMck at h;split at h
 ·rename_i a0;split at h
  ·rename_i L0 g0 n0 e0;simp only [Ae,Ad,Ac] at h;obtain ⟨rfl,ho0,hw⟩:=h;obtain ⟨N,hN⟩:=j0y L0 hw;exact ⟨_,_,(.cons (asL_le e0 ho0) .nil),rfl,v9s L0 N _ hN,3,rfl⟩
  ·cases h
 ·cases h
def Mh :Specs:=(Mg.with v2m fMck)
theorem Qk :Zu prog Mh:=(j2v z3g)
-- h2: index into an array (choices [true, true, true, false, false])
inductive msoS where
 | h0 (v6:List Int) (v39:Int)
 | h1 (bN:Nat) (v9:List R6) (v10:List R4) (bK:Nat) (v59:Int) (v60:Int) (aX:List Int)
 | h2 (bN:Nat) (v9:List R6) (v10:List R4) (v11:Int) (v12:Int) (bK:Nat) (v59:Int) (v60:Int) (v67:Int) (aX:List Int) (aA:List R4) (aI:List R4)
 | h3 (bN:Nat) (v9:List R6) (v10:List R4) (v11:Int) (v12:Int) (bK:Nat) (v59:Int) (v60:Int) (v132:List R4) (v133:Int) (v134:Int) (aX:List Int)
abbrev z3i (l0:List R7) (v67:Int):=(R4.mk (rd l0 (tn v67)).b (rd l0 (tn v67)).c (rd l0 (tn v67)).e (rd l0 (tn v67)).f)
abbrev y8s (v9:List R6) (v132:List R4) (v134:Int) (v12:Int) (aX:List Int) (v11:Int):=(v9++[(R6.mk (rd v132 (tn v134)).a (rd v132 (tn v134)).b v12 (rd v132 (tn v134)).c (rd v132 (tn v134)).d (rd aX (0+(tn (wr (v11+1))))))])
abbrev y8r (v6:List Int):=(Wa (Yw v6.length (cOf (Zz (Xu (Yw v6.length (cOf (Zz v6))))))))
def w2u :ABlk:=⟨[(.fn 111 []),(.fn 112 []),(.fn 113 [])],84,none⟩
abbrev z5r (aA:List R4):=(cvT (Zd (cvT aA)))
def msoC (l0:List R7):msoS→Cfg
 | .h0 v6 v39=>⟨⟨186,0,true⟩,none,(Zb prog 22 [1,1,1,1,0,1,0,0] 0),none,(Zy prog 15),⟨Ya [(0,(.dat l0.length (Zz l0))),(5,(.ptr 0 0)),(6,(.sla 1 1 0 v6.length (.un 1))),(37,(.dat l0.length (Zz l0))),(38,(ii (l0.length:Int))),(39,(ii v39))],Wr [w2u,⟨rows v6.length (Zz v6),3,some ⟨1,v6.length,(Zz v6)⟩⟩] 0,2,[],true⟩,[],.leaf⟩
 | .h1 bN v9 v10 bK v59 v60 aX=>⟨⟨186,0,true⟩,none,(Zb prog 22 [1,1,1,1,1,1,1,1,1,0,1,0,0] 0),none,(Zy prog 15),⟨Ya [(0,(.dat l0.length (Zz l0))),(5,(.ptr 0 0)),(6,(.sla 1 1 0 bN (.un 1))),(9,(.sla 2 6 0 v9.length (.un 6))),(10,(.dat v10.length (Zz v10))),(58,(.sla 1 1 0 bK (.un 1))),(59,(ii v59)),(60,(ii v60))],Wr [w2u,⟨rows aX.length (Zz aX),3,some ⟨1,aX.length,(Zz aX)⟩⟩,⟨rows v9.length (Zz v9),67,some ⟨6,v9.length,(Zz v9)⟩⟩] 0,3,[],true⟩,[],.leaf⟩
 | .h2 bN v9 v10 v11 v12 bK v59 v60 v67 aX aA aI=>⟨⟨186,0,true⟩,none,(Zb prog 22 [1,1,1,1,1,1,1,1,1,0,1,0,0,1,1,0,0,1,1,0,1,0,0] 0),none,(Zy prog 15),⟨Ya [(0,(.dat l0.length (Zz l0))),(5,(.ptr 0 0)),(6,(.sla 1 1 0 bN (.un 1))),(9,(.sla 5 6 0 v9.length (.un 6))),(10,(.dat v10.length (Zz v10))),(11,(ii v11)),(12,(ii v12)),(13,(.ptr 2 0)),(58,(.sla 1 1 0 bK (.un 1))),(59,(ii v59)),(60,(ii v60)),(65,(.dat l0.length (Zz l0))),(66,(ii (l0.length:Int))),(67,(ii v67))],Wr [w2u,⟨rows aX.length (Zz aX),3,some ⟨1,aX.length,(Zz aX)⟩⟩,⟨[(.sla 3 4 0 aA.length (.un 4)),(.sla 4 4 0 aI.length (.un 4))],101,none⟩,⟨rows aA.length (Zz aA),88,some ⟨4,aA.length,(Zz aA)⟩⟩,⟨rows aI.length (Zz aI),88,some ⟨4,aI.length,(Zz aI)⟩⟩,⟨rows v9.length (Zz v9),67,some ⟨6,v9.length,(Zz v9)⟩⟩] 0,6,[],true⟩,[],.leaf⟩
 | .h3 bN v9 v10 v11 v12 bK v59 v60 v132 v133 v134 aX=>⟨⟨186,0,true⟩,none,(Zb prog 22 [1,1,1,1,1,1,1,1,1,0,1,0,0,1,1,0,0,1,1,1,1,1,1,1,1,1,1,0,0] 0),none,(Zy prog 15),⟨Ya [(0,(.dat l0.length (Zz l0))),(5,(.ptr 0 0)),(6,(.sla 1 1 0 bN (.un 1))),(9,(.sla 2 6 0 v9.length (.un 6))),(10,(.dat v10.length (Zz v10))),(11,(ii v11)),(12,(ii v12)),(58,(.sla 1 1 0 bK (.un 1))),(59,(ii v59)),(60,(ii v60)),(132,(.dat v132.length (Zz v132))),(133,(ii v133)),(134,(ii v134))],Wr [w2u,⟨rows aX.length (Zz aX),3,some ⟨1,aX.length,(Zz aX)⟩⟩,⟨rows v9.length (Zz v9),67,some ⟨6,v9.length,(Zz v9)⟩⟩] 0,3,[],true⟩,[],.leaf⟩
def j0g :List (Option (List Nat)):=[some [0,5,6,37,38,39]]
def j0i :List (Option (List Nat)):=[]
def msoN1 :List (Option (List Nat)):=[some [0,5,6,9,10,58,59,60]]
def msoM1 :List (Option (List Nat)):=[]
def v2p :List (Option (List Nat)):=[some [0,5,6,9,10,11,12,13,58,59,60,65,66,67]]
def v2q :List (Option (List Nat)):=[]
def j0f :List (Option (List Nat)):=[some [0,5,6,9,10,11,12,58,59,60,132,133,134]]
def j0h :List (Option (List Nat)):=[]
def Ww (l0:List R7):msoS→Xv msoS
 | .h0 v6 v39=>(bif (decide (v39<(l0.length:Int))) then (bif ((decide (0≤v39∧v39<(l0.length:Int)))&&true) then (bif ((wrap IntKind.u8 (Int.tdiv (rd l0 v39.toNat).a 2)) == 2) then (bif (Nat.beq 1 1&&((decide (0+v6.length=v6.length))&&decide ((v6.length+1+1)*(8+1)≤Uj))) then (.to (.h0 (v6++[(rd l0 v39.toNat).d]) (wrap .i64 (v39+1)))) else .stuck) else (.to (.h0 v6 (wrap .i64 (v39+1))))) else .stuck) else (bif (decide (v6.length<4611686018427387904)) then (bif (decide (v6.length=v6.length)) then (.to (.h1 (w8t (Yw v6.length (cOf (Zz (Xu (Yw v6.length (cOf (Zz v6)))))))) ([]:List R6) ([]:List R4) (w8t (Yw v6.length (cOf (Zz (Xu (Yw v6.length (cOf (Zz v6)))))))) (((w8t (Yw v6.length (cOf (Zz (Xu (Yw v6.length (cOf (Zz v6)))))))):Nat):Int) 0 (Wa (Yw v6.length (cOf (Zz (Xu (Yw v6.length (cOf (Zz v6)))))))))) else .stuck) else .stuck))
 | .h1 bN v9 v10 bK v59 v60 aX=>(bif (decide (v60<v59)) then (bif ((decide (0≤v60∧v60<((bK:Nat):Int)))&&true) then (bif (decide ((0+v60.toNat)<aX.length)) then (.to (.h2 bN v9 v10 v60 (rd aX (0+v60.toNat)) bK v59 v60 0 aX ([]:List R4) ([]:List R4))) else .stuck) else .stuck) else (bif (z6z (cvT v9)) then (bif ((z5o (cvT v9)) != 0) then (.ret [.nils,(.int .i64 28)]) else (bif (z1s (cvT (Wd (cvT v9)))) then (bif ((z5s (cvT (Wd (cvT v9)))) != 0) then (.ret [.nils,(.int .i64 28)]) else (bif (z2g (cvT (Kk (cvT (Wd (cvT v9))))) (cvT l0)) then (bif (!(y7w (cvT (Kk (cvT (Wd (cvT v9))))) (cvT l0))) then (.ret [.nils,(.int .i64 28)]) else (.ret [(.dat (Wd (cvT v9)).length (Zz (Wd (cvT v9)))),(.int .i64 0)])) else .stuck)) else .stuck)) else .stuck))
 | .h2 bN v9 v10 v11 v12 bK v59 v60 v67 aX aA aI=>(bif (decide (v67<(l0.length:Int))) then (bif ((decide (0≤v67∧v67<(l0.length:Int)))&&true) then (bif ((wrap IntKind.u8 (Int.tdiv (rd l0 v67.toNat).a 2)) == 2) then (bif ((rd l0 v67.toNat).d == v12) then (bif (decide ((Int.tmod (rd l0 v67.toNat).a 2)=Int.ofNat 0)) then (bif (Nat.beq 4 4&&((decide (0+aA.length=aA.length))&&decide ((aA.length+1+1)*(32+1)≤Uj))) then (.to (.h2 bN v9 v10 v11 v12 bK v59 v60 (wrap .i64 (v67+1)) aX (aA++[(R4.mk (rd l0 v67.toNat).b (rd l0 v67.toNat).c (rd l0 v67.toNat).e (rd l0 v67.toNat).f)]) aI)) else .stuck) else (bif (decide ((Int.tmod (rd l0 v67.toNat).a 2)=Int.ofNat 1)) then (bif (Nat.beq 4 4&&((decide (0+aI.length=aI.length))&&decide ((aI.length+1+1)*(32+1)≤Uj))) then (.to (.h2 bN v9 v10 v11 v12 bK v59 v60 (wrap .i64 (v67+1)) aX aA (aI++[(R4.mk (rd l0 v67.toNat).b (rd l0 v67.toNat).c (rd l0 v67.toNat).e (rd l0 v67.toNat).f)]))) else .stuck) else .stuck)) else (.to (.h2 bN v9 v10 v11 v12 bK v59 v60 (wrap .i64 (v67+1)) aX aA aI))) else (.to (.h2 bN v9 v10 v11 v12 bK v59 v60 (wrap .i64 (v67+1)) aX aA aI))) else .stuck) else (bif (Uq (cvT aA)) then (bif (Uq (cvT aI)) then (bif (Qf .d (cvT v10) (cvT (Zd (cvT aA)))) then (bif (Qf .u (cvT (Vv .d (cvT v10) (cvT (Zd (cvT aA))))) (cvT (Zd (cvT aI)))) then (bif ((Wo (cvT aA)) != 0) then (.ret [.nils,(.int .i64 28)]) else (bif ((Wo (cvT aI)) != 0) then (.ret [.nils,(.int .i64 28)]) else (bif ((x3i .d (cvT v10) (cvT (Zd (cvT aA)))) != 0) then (.ret [.nils,(.int .i64 28)]) else (bif ((x3i .u (cvT (Vv .d (cvT v10) (cvT (Zd (cvT aA))))) (cvT (Zd (cvT aI)))) != 0) then (.ret [.nils,(.int .i64 28)]) else (.to (.h3 bN v9 (Vv .u (cvT (Vv .d (cvT v10) (cvT (Zd (cvT aA))))) (cvT (Zd (cvT aI)))) v11 v12 bK v59 v60 (Vv .u (cvT (Vv .d (cvT v10) (cvT (Zd (cvT aA))))) (cvT (Zd (cvT aI)))) (((Vv .u (cvT (Vv .d (cvT v10) (cvT (Zd (cvT aA))))) (cvT (Zd (cvT aI)))).length :Nat):Int) 0 aX)))))) else .stuck) else .stuck) else .stuck) else .stuck))
 | .h3 bN v9 v10 v11 v12 bK v59 v60 v132 v133 v134 aX=>(bif (decide (v134<v133)) then (bif ((decide (0≤v134∧v134<(v132.length:Int)))&&true) then (bif (decide ((wrap .i64 (v11+1))<((bN:Nat):Int))) then (bif ((decide (0≤(wrap .i64 (v11+1))∧(wrap .i64 (v11+1))<((bN:Nat):Int)))&&true) then (bif (decide ((0+(Int.toNat (wrap .i64 (v11+1))))<aX.length)) then (bif (Nat.beq 6 6&&((decide (0+v9.length=v9.length))&&decide ((v9.length+1+1)*(48+1)≤Uj))) then (.to (.h3 bN (v9++[(R6.mk (rd v132 v134.toNat).a (rd v132 v134.toNat).b v12 (rd v132 v134.toNat).c (rd v132 v134.toNat).d (rd aX (0+(Int.toNat (wrap .i64 (v11+1))))))]) v10 v11 v12 bK v59 v60 v132 v133 (wrap .i64 (v134+1)) aX)) else .stuck) else .stuck) else .stuck) else (.to (.h3 bN v9 v10 v11 v12 bK v59 v60 v132 v133 (wrap .i64 (v134+1)) aX))) else .stuck) else (.to (.h1 bN v9 v10 bK v59 (wrap .i64 (v60+1)) aX)))
def y2r (l0:List R7):Xv msoS:=(bif (z1u (cvT l0)) then (bif ((v3a (cvT l0)) != 0) then (.ret [.nils,(.int .i64 (v3a (cvT l0)))]) else (.to (.h0 ([]:List Int) 0))) else .stuck)
theorem w6g (l0:List R7): ∀s,Ys prog (Zy prog 22) (msoC l0) (msoC l0 s) (Ww l0 s)
 | .h0 v6 v39=>(lb (fun k0=>(lo fun aF=>(lb (fun k1=>(lo fun o0=>(sl Qk 39 [] ⟨[0,4],[],j0g,j0i⟩ ⟨[(6,.len (v6++[(rd l0 (tn v39)).d]).length)],[.keep,.rowed 1 (v6++[(rd l0 (tn v39)).d]).length (Zz (v6++[(rd l0 (tn v39)).d]))],[]⟩ (bl 2 3) (pp (xL (v6.length+1) (v6++[(rd l0 (tn v39)).d]).length) (pp (xL (v6.length+1) (v6++[(rd l0 (tn v39)).d]).length) (pp (xS (v6.length+1) (Ze (Zz v6) 0 v6.length 1 [(ii (rd l0 (tn v39)).d)]) (Zz (v6++[(rd l0 (tn v39)).d]))) (pp (pp (xF (Ze (Zz v6) 0 v6.length 1 [(ii (rd l0 (tn v39)).d)])) nn) (ww o0 (tt k1 (ww aF (tt k0 nn))))))))))) (fun k1=>(sl Qk 31 [] ⟨[0,1],[],j0g,j0i⟩ ⟨[],[],[]⟩ (bl 2 1) (pp (fl v6 nn) (tt k1 (ww aF (tt k0 nn))))))))) (fun k0=>(lo fun o0=>(lo fun o1=>(sl Qk 35 [(67,6,Zz ([]:List R6))] ⟨[0,1,2],[],msoN1,msoM1⟩ ⟨[(9,.grow 2 6),(10,.list 0 (Zz ([]:List R4)))],[.keep,.rowed 1 (y8r v6).length (Zz (y8r v6)),.keep],[]⟩ [false] (pp (xL v6.length (y8r v6).length (by first | exact z1v _ _ | exact Wc rfl)) (pp (xS v6.length (Zz (y8r v6)) (Zz (y8r v6))) (pp (fl (y8r v6) (fl ([]:List R6) nn)) (pp (pp (xG (Nat.beq 1 1)) (pp (xG (Nat.beq 1 1)) (pp (xG (Nat.beq 0 0)) (pp (xG (decide (v6.length=v6.length))) (pp (xG (isI (Zz (Xu (Yw v6.length (cOf (Zz v6))))))) (xG (decide (v6.length<4611686018427387904)))))))) (pp (pp (xG (Nat.beq 1 1)) (pp (xG (Nat.beq 1 1)) (pp (xG (Nat.beq 0 0)) (pp (xG (decide (v6.length=v6.length))) (pp (xG (isI (Zz v6))) (xG (decide (v6.length<4611686018427387904)))))))) (tt k0 nn)))))))))))
 | .h1 bN v9 v10 bK v59 v60 aX=>(lb (fun k0=>(lo fun o0=>(lo fun o1=>(sl Qk 30 [(88,4,Zz ([]:List R4)),(88,4,Zz ([]:List R4))] ⟨[0,1,3,4,5,2],[],v2p,v2q⟩ ⟨[],[.keep,.keep,.cells [.grow 3 4,.grow 4 4],.keep,.keep,.keep],[]⟩ [true] (pp (fl aX (fl ([]:List R4) (fl ([]:List R4) (fl v9 nn)))) (ww o1 (ww o0 (tt k0 nn)))))))) (fun k0=>(Wu (sl Qk (C':=⟨⟨186,0,true⟩,(Ur prog 22 [1,1,1,1,1,1,1,1,1,1,0] 1),(Zb prog 22 [1,1,1,1,1,1,1,1,1,1,0] 1),none,(Zy prog 15),⟨Ya [(0,(.dat l0.length (Zz l0))),(166,(.dat v9.length (Zz v9)))],Wr [] 0,0,[],true⟩,[],.leaf⟩) 10 [] ⟨[],[2],[some [0,166]],[]⟩ ⟨[(166,.frz v9.length v9.length (Zz v9) (Zz v9))],[],[]⟩ [false] (pp (xZ (z3k 6 6 0 v9.length v9.length (Zz v9)) v9.length (Zz v9)) (pp (xL v9.length v9.length) (pp (xS v9.length (Zz v9) (Zz v9)) (pp (fl v9 nn) (tt k0 nn)))))) (lo fun aF=>(lb (fun k1=>(lr 186 22 [1,1,1,1,1,1,1,1,1,1,1,0,1,0,0] 1 15 [(2,.nils),(3,(ii 28))] (sl Qk 19 [] ⟨[],[],[some [2,3]],[]⟩ ⟨[],[],[]⟩ [true] (tt k1 (pp (pp (xr v9) (xw aF)) nn))))) (fun k1=>(lo fun cA=>(lb (fun k2=>(lr 186 22 [1,1,1,1,1,1,1,1,1,1,1,1,0,1,1,0,0] 1 15 [(2,.nils),(3,(ii 28))] (sl Qk 43 [] ⟨[],[],[some [2,3]],[]⟩ ⟨[],[],[]⟩ (bl 6 62) (tt k2 (pp (pp (xI R6 (Wd (cvT v9)).length (Zz (Wd (cvT v9)))) (xw cA)) (tt k1 (pp (pp (xr v9) (xw aF)) nn))))))) (fun k2=>(lo fun cC=>(lb (fun k3=>(lr 186 22 [1,1,1,1,1,1,1,1,1,1,1,1,0,1,1,0,0] 1 15 [(2,.nils),(3,(ii 28))] (sl Qk 43 [] ⟨[],[],[some [2,3]],[]⟩ ⟨[],[],[]⟩ (bl 6 32) (tt k3 (pp (pp (xI R7 (Kk (cvT (Wd (cvT v9)))).length (Zz (Kk (cvT (Wd (cvT v9)))))) (pp (xr l0) (xw cC))) (tt k2 (pp (pp (xI R6 (Wd (cvT v9)).length (Zz (Wd (cvT v9)))) (xw cA)) (tt k1 (pp (pp (xr v9) (xw aF)) nn))))))))) (fun k3=>(lr 186 3 [1,1,1,1,1,1,1,0] 1 15 [(2,(.dat (Wd (cvT v9)).length (Zz (Wd (cvT v9))))),(3,(ii 0))] (sl Qk 45 [] ⟨[],[],[some [2,3]],[]⟩ ⟨[],[],[]⟩ (bl 6 0) (tt k3 (pp (pp (xI R7 (Kk (cvT (Wd (cvT v9)))).length (Zz (Kk (cvT (Wd (cvT v9)))))) (pp (xr l0) (xw cC))) (tt k2 (pp (pp (xI R6 (Wd (cvT v9)).length (Zz (Wd (cvT v9)))) (xw cA)) (tt k1 (pp (pp (xr v9) (xw aF)) nn))))))))))))))))))))
 | .h2 bN v9 v10 v11 v12 bK v59 v60 v67 aX aA aI=>(lb (fun k0=>(lo fun aF=>(lb (fun k1=>(lb (fun k2=>(lb (fun k3=>(lo fun o0=>(sl Qk 38 [] ⟨[0,1,2,14,4,5],[],v2p,v2q⟩ ⟨[],[.keep,.keep,.cells [.len (aA++[(z3i l0 v67)]).length,.keep],.rowed 4 (aA++[(z3i l0 v67)]).length (Zz (aA++[(z3i l0 v67)])),.keep,.keep],[]⟩ (trs 7 (bl 2 0)) (pp (xL (aA.length+1) (aA++[(z3i l0 v67)]).length) (pp (xL (aA.length+1) (aA++[(z3i l0 v67)]).length) (pp (xS (aA.length+1) (Ze (Zz aA) 0 aA.length 4 [(ii (rd l0 (tn v67)).b),(ii (rd l0 (tn v67)).c),(ii (rd l0 (tn v67)).e),(ii (rd l0 (tn v67)).f)]) (Zz (aA++[(z3i l0 v67)]))) (pp (fl aX (pp (xF (Ze (Zz aA) 0 aA.length 4 [(ii (rd l0 (tn v67)).b),(ii (rd l0 (tn v67)).c),(ii (rd l0 (tn v67)).e),(ii (rd l0 (tn v67)).f)])) (fl aI (fl v9 nn)))) (ww k3 (ww o0 (ww k3 (tt k2 (tt k1 (ww aF (tt k0 nn)))))))))))))) (fun k3=>(lb (fun k4=>(lo fun o0=>(sl Qk 38 [] ⟨[0,1,2,3,14,5],[],v2p,v2q⟩ ⟨[],[.keep,.keep,.cells [.keep,.len (aI++[(z3i l0 v67)]).length],.keep,.rowed 4 (aI++[(z3i l0 v67)]).length (Zz (aI++[(z3i l0 v67)])),.keep],[]⟩ (trs 8 (bl 3 2)) (pp (xL (aI.length+1) (aI++[(z3i l0 v67)]).length) (pp (xL (aI.length+1) (aI++[(z3i l0 v67)]).length) (pp (xS (aI.length+1) (Ze (Zz aI) 0 aI.length 4 [(ii (rd l0 (tn v67)).b),(ii (rd l0 (tn v67)).c),(ii (rd l0 (tn v67)).e),(ii (rd l0 (tn v67)).f)]) (Zz (aI++[(z3i l0 v67)]))) (pp (fl aX (fl aA (pp (xF (Ze (Zz aI) 0 aI.length 4 [(ii (rd l0 (tn v67)).b),(ii (rd l0 (tn v67)).c),(ii (rd l0 (tn v67)).e),(ii (rd l0 (tn v67)).f)])) (fl v9 nn)))) (ww k4 (ww o0 (ww k4 (tt k2 (tt k1 (ww aF (tt k0 nn)))))))))))))) (fun k4=>trivial))))) (fun k2=>(sl Qk 38 [] ⟨(List.range 6),[],v2p,v2q⟩ ⟨[],[],[]⟩ (trs 6 [false]) (pp (fl aX (fl aA (fl aI (fl v9 nn)))) (tt k2 (tt k1 (ww aF (tt k0 nn))))))))) (fun k1=>(sl Qk 38 [] ⟨(List.range 6),[],v2p,v2q⟩ ⟨[],[],[]⟩ (bl 7 1) (pp (fl aX (fl aA (fl aI (fl v9 nn)))) (tt k1 (ww aF (tt k0 nn))))))))) (fun k0=>(Wu (sl Qk (C':=⟨⟨186,0,true⟩,(Ur prog 22 [1,1,1,1,1,1,1,1,1,0,1,0,0,1,1,0,0,1,1,1,0] 2),(Zb prog 22 [1,1,1,1,1,1,1,1,1,0,1,0,0,1,1,0,0,1,1,1,0] 1),none,(Zy prog 15),⟨Ya [(0,(.dat l0.length (Zz l0))),(5,(.ptr 0 0)),(6,(.sla 1 1 0 bN (.un 1))),(9,(.sla 2 6 0 v9.length (.un 6))),(10,(.dat v10.length (Zz v10))),(11,(ii v11)),(12,(ii v12)),(13,(.ptr 3 0)),(58,(.sla 1 1 0 bK (.un 1))),(59,(ii v59)),(60,(ii v60)),(102,(.dat aA.length (Zz aA)))],Wr [⟨[(.fn 111 []),(.fn 112 []),(.fn 113 [])],84,none⟩,⟨rows aX.length (Zz aX),3,some ⟨1,aX.length,(Zz aX)⟩⟩,⟨rows v9.length (Zz v9),67,some ⟨6,v9.length,(Zz v9)⟩⟩,⟨[(.dat aA.length (Zz aA)),(.sla 4 4 0 aI.length (.un 4))],101,none⟩,⟨rows aI.length (Zz aI),88,some ⟨4,aI.length,(Zz aI)⟩⟩] 0,5,[],true⟩,[],.leaf⟩) 11 [] ⟨[0,1,5,2,4],[3],[some [0,5,6,9,10,11,12,13,58,59,60,102]],[]⟩ ⟨[(102,.frz aA.length aA.length (Zz aA) (Zz aA))],[.keep,.keep,.keep,.cells [.frz aA.length aA.length (Zz aA) (Zz aA),.keep],.keep],[]⟩ [false] (pp (xZ (z3k 4 4 0 aA.length aA.length (Zz aA)) aA.length (Zz aA)) (pp (xL aA.length aA.length) (pp (xS aA.length (Zz aA) (Zz aA)) (pp (xZ (z3k 4 4 0 aA.length aA.length (Zz aA)) aA.length (Zz aA)) (pp (xL aA.length aA.length) (pp (xS aA.length (Zz aA) (Zz aA)) (pp (fl aX (fl v9 (fl aI nn))) (pp (fl aA nn) (tt k0 nn)))))))))) (lo fun q1_0=>(Wu (sl Qk (C':=⟨⟨186,0,true⟩,(Ur prog 22 [1,1,1,1,1,1,1,1,1,0,1,0,0,1,1,0,0,1,1,1,1,0] 2),(Zb prog 22 [1,1,1,1,1,1,1,1,1,0,1,0,0,1,1,0,0,1,1,1,1,0] 1),none,(Zy prog 15),⟨Ya [(0,(.dat l0.length (Zz l0))),(5,(.ptr 0 0)),(6,(.sla 1 1 0 bN (.un 1))),(9,(.sla 2 6 0 v9.length (.un 6))),(10,(.dat v10.length (Zz v10))),(11,(ii v11)),(12,(ii v12)),(16,(.dat (Zd (cvT aA)).length (Zz (Zd (cvT aA))))),(17,(ii (Wo (cvT aA)))),(58,(.sla 1 1 0 bK (.un 1))),(59,(ii v59)),(60,(ii v60)),(108,(.dat aI.length (Zz aI)))],Wr [⟨[(.fn 111 []),(.fn 112 []),(.fn 113 [])],84,none⟩,⟨rows aX.length (Zz aX),3,some ⟨1,aX.length,(Zz aX)⟩⟩,⟨rows v9.length (Zz v9),67,some ⟨6,v9.length,(Zz v9)⟩⟩] 0,3,[],true⟩,[],.leaf⟩) 11 [] ⟨[0,1,2],[4],[some [0,5,6,9,10,11,12,16,17,58,59,60,108]],[]⟩ ⟨[(108,.frz aI.length aI.length (Zz aI) (Zz aI))],[],[]⟩ [] (pp (xZ (z3k 4 4 0 aI.length aI.length (Zz aI)) aI.length (Zz aI)) (pp (xL aI.length aI.length) (pp (xS aI.length (Zz aI) (Zz aI)) (pp (fl aX (fl v9 nn)) (pp (fl aI nn) (pp (pp (xr aA) (xw q1_0)) nn))))))) (lo fun aF=>(lo fun aR=>(lo fun bV=>(lb (fun k1=>(lr 186 22 [1,1,1,1,1,1,1,1,1,0,1,0,0,1,1,0,0,1,1,1,1,1,1,1,0,1,0,0] 1 15 [(2,.nils),(3,(ii 28))] (sl Qk 91 [] ⟨[],[],[some [2,3]],[]⟩ ⟨[],[],[]⟩ (trs 3 []) (tt k1 (tt k1 (pp (pp (xI R4 (Vv .d (cvT v10) (z5r aA)).length (Zz (Vv .d (cvT v10) (z5r aA)))) (pp (xI R4 (Zd (cvT aI)).length (Zz (Zd (cvT aI)))) (xw bV))) (pp (pp (xr v10) (pp (xI R4 (Zd (cvT aA)).length (Zz (Zd (cvT aA)))) (xw aR))) (pp (pp (xr aI) (xw aF)) nn)))))))) (fun k1=>(lb (fun k2=>(lr 186 22 [1,1,1,1,1,1,1,1,1,0,1,0,0,1,1,0,0,1,1,1,1,1,1,1,0,1,0,0] 1 15 [(2,.nils),(3,(ii 28))] (sl Qk 120 [] ⟨[],[],[some [2,3]],[]⟩ ⟨[],[],[]⟩ (bl 5 29) (tt k2 (tt k2 (tt k1 (pp (pp (xI R4 (Vv .d (cvT v10) (z5r aA)).length (Zz (Vv .d (cvT v10) (z5r aA)))) (pp (xI R4 (Zd (cvT aI)).length (Zz (Zd (cvT aI)))) (xw bV))) (pp (pp (xr v10) (pp (xI R4 (Zd (cvT aA)).length (Zz (Zd (cvT aA)))) (xw aR))) (pp (pp (xr aI) (xw aF)) nn))))))))) (fun k2=>(lb (fun k3=>(lr 186 22 [1,1,1,1,1,1,1,1,1,0,1,0,0,1,1,0,0,1,1,1,1,1,1,1,0,1,0,0] 1 15 [(2,.nils),(3,(ii 28))] (sl Qk 149 [] ⟨[],[],[some [2,3]],[]⟩ ⟨[],[],[]⟩ (bl 7 117) (tt k3 (tt k3 (tt k2 (tt k1 (pp (pp (xI R4 (Vv .d (cvT v10) (z5r aA)).length (Zz (Vv .d (cvT v10) (z5r aA)))) (pp (xI R4 (Zd (cvT aI)).length (Zz (Zd (cvT aI)))) (xw bV))) (pp (pp (xr v10) (pp (xI R4 (Zd (cvT aA)).length (Zz (Zd (cvT aA)))) (xw aR))) (pp (pp (xr aI) (xw aF)) nn)))))))))) (fun k3=>(lb (fun k4=>(lr 186 22 [1,1,1,1,1,1,1,1,1,0,1,0,0,1,1,0,0,1,1,1,1,1,1,1,0,1,0,0] 1 15 [(2,.nils),(3,(ii 28))] (sl Qk 178 [] ⟨[],[],[some [2,3]],[]⟩ ⟨[],[],[]⟩ (bl 9 469) (tt k4 (tt k4 (tt k3 (tt k2 (tt k1 (pp (pp (xI R4 (Vv .d (cvT v10) (z5r aA)).length (Zz (Vv .d (cvT v10) (z5r aA)))) (pp (xI R4 (Zd (cvT aI)).length (Zz (Zd (cvT aI)))) (xw bV))) (pp (pp (xr v10) (pp (xI R4 (Zd (cvT aA)).length (Zz (Zd (cvT aA)))) (xw aR))) (pp (pp (xr aI) (xw aF)) nn))))))))))) (fun k4=>(sl Qk 201 [] ⟨[0,1,2],[],j0f,j0h⟩ ⟨[],[],[]⟩ (bl 10 85) (pp (fl aX (fl v9 nn)) (tt k4 (tt k3 (tt k2 (tt k1 (pp (pp (xI R4 (Vv .d (cvT v10) (z5r aA)).length (Zz (Vv .d (cvT v10) (z5r aA)))) (pp (xI R4 (Zd (cvT aI)).length (Zz (Zd (cvT aI)))) (xw bV))) (pp (pp (xr v10) (pp (xI R4 (Zd (cvT aA)).length (Zz (Zd (cvT aA)))) (xw aR))) (pp (pp (xr aI) (xw aF)) nn)))))))))))))))))))))))))
 | .h3 bN v9 v10 v11 v12 bK v59 v60 v132 v133 v134 aX=>(lb (fun k0=>(lo fun aF=>(lb (fun k1=>(lo fun o0=>(lo fun o1=>(lo fun o2=>(sl Qk 32 [] ⟨[0,1,5],[],j0f,j0h⟩ ⟨[(9,.len (y8s v9 v132 v134 v12 aX v11).length)],[.keep,.keep,.rowed 6 (y8s v9 v132 v134 v12 aX v11).length (Zz (y8s v9 v132 v134 v12 aX v11))],[]⟩ (bl 2 3) (pp (xL (v9.length+1) (y8s v9 v132 v134 v12 aX v11).length) (pp (xL (v9.length+1) (y8s v9 v132 v134 v12 aX v11).length) (pp (xS (v9.length+1) (Ze (Zz v9) 0 v9.length 6 [(ii (rd v132 (tn v134)).a),(ii (rd v132 (tn v134)).b),(ii v12),(ii (rd v132 (tn v134)).c),(ii (rd v132 (tn v134)).d),(ii (rd aX (0+(tn (wr (v11+1))))))]) (Zz (y8s v9 v132 v134 v12 aX v11))) (pp (fl aX (pp (xF (Ze (Zz v9) 0 v9.length 6 [(ii (rd v132 (tn v134)).a),(ii (rd v132 (tn v134)).b),(ii v12),(ii (rd v132 (tn v134)).c),(ii (rd v132 (tn v134)).d),(ii (rd aX (0+(tn (wr (v11+1))))))])) nn)) (ww o2 (ww o1 (ww o0 (tt k1 (ww aF (tt k0 nn))))))))))))))) (fun k1=>(sl Qk 32 [] ⟨[0,1,2],[],j0f,j0h⟩ ⟨[],[],[]⟩ (bl 2 1) (pp (fl aX (fl v9 nn)) (tt k1 (ww aF (tt k0 nn))))))))) (fun k0=>(sl Qk 13 [] ⟨[0,1,2],[],msoN1,msoM1⟩ ⟨[],[],[]⟩ [false] (pp (fl aX (fl v9 nn)) (tt k0 nn)))))
theorem x8n (l0:List R7):Ys prog (Zy prog 22) (msoC l0) (Za prog 22 [(.dat l0.length (Zz l0))] true []) (y2r l0):=(lo fun bW=>(lb (fun k0=>(lr 186 22 [1,0,1,1,0,0] 1 15 [(2,.nils),(3,(ii (v3a (cvT l0))))] (sl Qk 24 [] ⟨[],[],[some [2,3]],[]⟩ ⟨[],[],[]⟩ [true] (tt k0 (pp (pp (xr l0) (xw bW)) nn))))) (fun k0=>(sl Qk 52 [(3,1,Zz ([]:List Int))] ⟨[1,2],[],j0g,j0i⟩ ⟨[(6,.grow 1 1)],[],[]⟩ [false] (pp (fl ([]:List Int) nn) (tt k0 (pp (pp (xr l0) (xw bW)) nn)))))))
theorem v9f (l0:List R7) (n:Nat) (vs:List AVal) (h:Zs (Ww l0) n (y2r l0)=.ret vs):Jw prog (Zy prog 22) (Za prog 22 [(.dat l0.length (Zz l0))] true []) vs:=by have:=Zc (w6g l0) n _ (x8n l0);rwa [h] at this
def zQ (d:Int) (l:List R7) (z:Int):List R4:=(l.filter fun r=>decide (r.a=d)&&decide (r.d=z)).map fun r=>⟨r.b,r.c,r.e,r.f⟩
def zsQ (l:List R7):List Int:=(l.filter fun r=>decide (4≤r.a)).map (·.d)
def plZ (l:List R7):List Int:=Jq (zsQ l)
def pz6 (z z':Int) (t:R4):R6:=⟨t.a,t.b,z,t.c,t.d,z'⟩
def badN (now e b:List R4):Bool:=(Wo e != 0)||((Wo b != 0)||((rgE .d now (Zd e) != 0)||(rgE .u (Vv .d now (Zd e)) (Zd b) != 0)))
def x3y (now e b:List R4):List R4:=Vv .u (Vv .d now (Zd e)) (Zd b)
def goP (l:List R7):List Int→List R4→List R6→Option (List R6)
 | [],_,bx=>some bx
 | z::r,now,bx=>bif badN now (zQ 4 l z) (zQ 5 l z) then none else
  goP l r (x3y now (zQ 4 l z) (zQ 5 l z)) (bx++match r with
   | []=>[]
   | z'::_=>(x3y now (zQ 4 l z) (zQ 5 l z)).map (pz6 z z'))
def finE (l:List R7) (bx:List R6):Int:=bif z5o bx != 0 then 28 else bif z5s (Wd bx) != 0 then 28 else bif !(y7w (Kk (Wd bx)) l) then 28 else 0
def msoE (l:List R7):Int:=bif v3a l != 0 then v3a l else match goP l (plZ l) [] [] with
 | none=>28
 | some bx=>finE l bx
def msoL (l:List R7):List R6:=match goP l (plZ l) [] [] with
 | none=>[]
 | some bx=>Wd bx
def v2o (l:List R7):Int:=msoE l
def u5w (l:List R7):List R6:=x4x (msoE l) (msoL l)
def x4e (l:List R7):Bool:=z1u l
theorem y6z (l:List R7):(zsQ l).length ≤l.length:=by unfold zsQ;rw [AT];exact BO _ _
theorem x2u (d:Int) (l:List R7) (z:Int):(zQ d l z).length ≤l.length:=by unfold zQ;rw [AT];exact BO _ _
theorem x2v (d:Int) (l m:List R7) (z:Int):zQ d (l++m) z=zQ d l z++zQ d m z:=by unfold zQ;rw [List.filter_append,Be]
theorem w4c (l m:List R7):zsQ (l++m)=zsQ l++zsQ m:=by unfold zsQ;rw [List.filter_append,Be]
theorem v9r {l:List R7} (h:v3a l=0):l.length≤3000∧ ∀r∈l,v6d r=true:=by
 unfold v3a at h;by_cases g:3000<l.length
 ·rw [Ag g] at h;cases h
 ·rw [Au g,Aa] at h;cases q:l.all v6d with
  | false=>rw [q] at h;cases h
  | true=>exact ⟨by omega,Aw.1 q⟩
theorem val7_a {r:R7} (h:v6d r=true):r.a≤5:=by unfold v6d at h;simp only [Ac,At] at h;exact h.1
theorem u8a (l:List R6):(Wd l).length ≤400:=by
 unfold Wd x4x;cases g:(z5o l != 0) with
 | true=>exact AD _
 | false=>
  rw [Aa];have h:z5o l=0:=by simpa using g
  unfold z5o at h;cases g1:decide (400<l.length) with
  | true=>rw [g1] at h;cases h
  | false=>
   cases g2:l.all z0a with
   | false=>rw [g1,g2] at h;cases h
   | true=>
    rw [g1,g2,Aa,Ab] at h;cases g3:okF l ((D6.cuts l).length - 1) 0 with
    | false=>rw [g3,Aa] at h;have:=j3p _ _ g3;rw [h] at this;cases this
    | true=>rw [g3,Ab] at h;exact x1z h
theorem v2u {L:List R6}:(Kk L).length ≤3000:=by
 unfold Kk x4x;cases g:(v5w L != 0) with
 | true=>exact AD _
 | false=>
  rw [Aa];have h:v5w L=0:=by simpa using g
  unfold v5w at h;refine A0 fun hn=> ?_;rw [show decide (((x8v L).length :Int)>3000)=true from Ag (by omega)] at h;revert h;have z: ∀(e x:Int),x≠0→(bif e != 0 then e else x)≠0:=fun e x hx=>by
   cases q:(e != 0) with
   | true=>rw [Ab];simpa using q
   | false=>rw [Aa];exact hx
  exact z _ _ (z _ _ (z _ _ (z _ _ (z _ _ (z _ _ (by decide))))))
theorem six {a:Int} (h0:0≤a) (h5:a≤5):((wrap IntKind.u8 (Int.tdiv a 2)) == 2)=decide (4≤a)∧decide (Int.tmod a 2=Int.ofNat 0)=decide (a=0∨a=2∨a=4)∧decide (Int.tmod a 2=Int.ofNat 1)=decide (a=1∨a=3∨a=5):=by
 have:a=0∨a=1∨a=2∨a=3∨a=4∨a=5:=by omega
 rcases this with rfl | rfl | rfl | rfl | rfl | rfl <;> exact ⟨rfl,rfl,rfl⟩
section
variable (l:List R7) (hl:l.length≤3000) (ha: ∀i,i<l.length→0≤(rd l i).a ∧(rd l i).a ≤5)
include hl ha
theorem u5v : ∀(k i:Nat) (acc:List Int),i+k=l.length→acc.length≤i→zsQ l=acc++zsQ (l.drop i)→
  ∃n,∀N,Zs (Ww l) (N+n) (.to (.h0 acc (i:Int)))=Zs (Ww l) N (.to (.h1 (plZ l).length [] [] (plZ l).length ((plZ l).length :Int) 0 (Wa (Xu (zsQ l)))))
 | 0,i,acc,h,h',e=>by have _u:=ha;rw [Ar (by omega),show zsQ []=[] from rfl,AB] at e;subst e;refine ⟨1,fun N=> ?_⟩;rw [Zv];simp (disch:=omega) only [Ww,Xr,z0c,z9z,Yz,Yk,Yp,Av,Ab,Aa];rfl
 | k+1,i,acc,h,h',e=>by
  have hi:i<l.length:=by omega
  obtain ⟨b0,b5⟩:=ha i hi;obtain ⟨s1,_,_⟩:=six b0 b5;have e2:zsQ l=(acc++zsQ [rd l i])++zsQ (l.drop (i+1)):=by rw [AH,←w4c,e,Yx hi];rfl
  obtain ⟨n,hn⟩:=u5v k (i+1) (acc++zsQ [rd l i]) (by omega) (by have:=y6z [rd l i];simp only [Ay,Br] at*;omega) e2;refine ⟨n+1,fun N=> ?_⟩;rw [←AC,Zv,←hn N];by_cases h4:4≤(rd l i).a
  ·rw [show zsQ [rd l i]=[(rd l i).d] by unfold zsQ;rw [Bs,Az (Ag h4)];rfl];rw [Ag h4] at s1;simp (disch:=omega) only [Ww,s1,Zm,Zq,Zo,Zr,Yc,Yk,Yp,Zf,Zk,Zx,Yg,Zj,Ah,Av,Ai,Al,Ab,Aa]
  ·rw [show zsQ [rd l i]=[] by unfold zsQ;rw [Bs,As (by simp [h4])];rfl,AB];rw [Au h4] at s1;simp (disch:=omega) only [Ww,s1,Zm,Zq,Zo,Zr,Yc,Yk,Yp,Zf,Zk,Zx,Yg,Zj,Ah,Av,Ai,Al,Ab,Aa]
theorem u5t (n6:Nat) (bx:List R6) (now:List R4) (v11 z:Int) (n58:Nat) (v59 v60:Int) (P:List Int): ∀(k j:Nat) (e b:List R4),j+k=l.length→e.length≤j→b.length≤j→zQ 4 l z=e++zQ 4 (l.drop j) z→zQ 5 l z=b++zQ 5 (l.drop j) z→
  ∃n,∀N,Zs (Ww l) (N+n) (.to (.h2 n6 bx now v11 z n58 v59 v60 (j:Int) P e b))=Zs (Ww l) N (bif badN now (zQ 4 l z) (zQ 5 l z) then .ret [.nils,.int .i64 28] else
   .to (.h3 n6 bx (x3y now (zQ 4 l z) (zQ 5 l z)) v11 z n58 v59 v60 (x3y now (zQ 4 l z) (zQ 5 l z)) ((x3y now (zQ 4 l z) (zQ 5 l z)).length :Int) 0 P))
 | 0,j,e,b,h,h1,h2,e4,e5=>by
  have _u:=ha;rw [Ar (by omega),show∀d,zQ d [] z=[] from fun _=>rfl,AB] at e4 e5;refine ⟨1,fun N=> ?_⟩;rw [Zv,e4,e5];have o1: ∀x,Uq x=true:=fun _=>rfl;have o2: ∀q x y,Qf q x y=true:=fun _ _ _=>rfl;simp (disch:=omega) only [Ww,Yz,Zm,o1,o2,Ab,Aa,badN,x3y,x3i]
  congr 1
  cases (Wo e != 0) <;> cases (Wo b != 0) <;> cases (rgE .d now (Zd e) != 0) <;> cases (rgE .u (Vv .d now (Zd e)) (Zd b) != 0) <;> rfl
 | k +1,j,e,b,h,h1,h2,e4,e5=>by
  have hj:j<l.length:=by omega
  obtain ⟨b0,b5⟩:=ha j hj;obtain ⟨s1,s2,s3⟩:=six b0 b5;have f4:zQ 4 l z=(e++zQ 4 [rd l j] z)++zQ 4 (l.drop (j+1)) z:=by rw [AH,←x2v,e4,Yx hj];rfl
  have f5:zQ 5 l z=(b++zQ 5 [rd l j] z)++zQ 5 (l.drop (j+1)) z:=by rw [AH,←x2v,e5,Yx hj];rfl
  obtain ⟨n,hn⟩:=u5t n6 bx now v11 z n58 v59 v60 P k (j+1) (e++zQ 4 [rd l j] z) (b++zQ 5 [rd l j] z) (by omega)
   (by have:=x2u 4 [rd l j] z;simp only [Ay,Br] at*;omega) (by have:=x2u 5 [rd l j] z;simp only [Ay,Br] at*;omega) f4 f5
  refine ⟨n+1,fun N=> ?_⟩;rw [←AC,Zv,←hn N];have no: ∀d,¬((rd l j).a =d∧(rd l j).d =z)→zQ d [rd l j] z=[]:=fun d hn=>by unfold zQ;rw [Bs,As (by simpa using hn)];rfl
  have ye: ∀d,((rd l j).a =d∧(rd l j).d =z)→zQ d [rd l j] z=[⟨(rd l j).b,(rd l j).c,(rd l j).e,(rd l j).f⟩]:=fun d hy=>by unfold zQ;rw [Bs,Az (by simpa using hy)];rfl
  by_cases h4:4≤(rd l j).a
  ·rw [Ag h4] at s1;by_cases hz:(rd l j).d =z
   ·have hzb:((rd l j).d == z)=true:=(by simpa using hz);by_cases h44:(rd l j).a =4
    ·replace s2:=s2.trans (Ag (p:=(rd l j).a =0∨(rd l j).a =2∨(rd l j).a =4) (by omega))
     rw [ye 4 ⟨h44,hz⟩,no 5 (by omega),AB];simp (disch:=omega) only [Ww,s1,s2,hzb,Zm,Zq,Zo,Zr,Yc,Yk,Yp,Zf,Zk,Zx,Yg,Zj,Ah,Av,Ai,Al,Ab,Aa]
    ·replace s2:=s2.trans (Au (p:=(rd l j).a =0∨(rd l j).a =2∨(rd l j).a =4) (by omega))
     replace s3:=s3.trans (Ag (p:=(rd l j).a =1∨(rd l j).a =3∨(rd l j).a =5) (by omega))
     rw [ye 5 ⟨by omega,hz⟩,no 4 (by omega),AB];simp (disch:=omega) only [Ww,s1,s2,s3,hzb,Zm,Zq,Zo,Zr,Yc,Yk,Yp,Zf,Zk,Zx,Yg,Zj,Ah,Av,Ai,Al,Ab,Aa]
   ·have hzb:((rd l j).d == z)=false:=(by simpa using hz);rw [no 5 (fun g=>hz g.2),no 4 (fun g=>hz g.2),AB,AB];simp (disch:=omega) only [Ww,s1,hzb,Zm,Zq,Zo,Zr,Yc,Yk,Yp,Zf,Zk,Zx,Yg,Zj,Ah,Av,Ai,Al,Ab,Aa]
  ·rw [Au h4] at s1;rw [no 5 (by omega),no 4 (by omega),AB,AB];simp (disch:=omega) only [Ww,s1,Zm,Zq,Zo,Zr,Yc,Yk,Yp,Zf,Zk,Zx,Yg,Zj,Ah,Av,Ai,Al,Ab,Aa]
theorem v2n (n6:Nat) (hn6:n6≤3000) (now:List R4) (i:Nat) (hi:i<n6) (z:Int) (v59:Int) (R:List R4) (hR:R.length≤400) (P:List Int) (hP:n6≤P.length): ∀(k j:Nat) (bx:List R6),j+k=R.length→bx.length≤2000000+j→
  ∃n,∀N,Zs (Ww l) (N+n) (.to (.h3 n6 bx now (i:Int) z n6 v59 (i:Int) R (R.length:Int) (j:Int) P))=Zs (Ww l) N (.to (.h1 n6 (bx++bif decide (i+1<n6) then (R.drop j).map (pz6 z (rd P (i+1))) else []) now n6 v59 ((i+1:Nat):Int) P))
 | 0,j,bx,h,h'=>by have _u:=ha;have _v:=hl;refine ⟨1,fun N=> ?_⟩;rw [Ar (by omega),A5,show (bif decide (i+1<n6) then ([]:List R6) else [])=[] by cases decide (i+1<n6) <;> rfl,AB,Zv];simp (disch:=omega) only [Ww,Yz,Zk,Zx,Aa]
 | k+1,j,bx,h,h'=>by
  have hj:j<R.length:=by omega
  have ew:wrap .i64 ((i:Int)+1)=((i+1:Nat):Int):=by rw [Zk (by omega)];exact Zx i
  by_cases g:i+1<n6
  ·obtain ⟨n,hn⟩:=v2n n6 hn6 now i hi z v59 R hR P hP k (j+1) (bx++[pz6 z (rd P (i+1)) (rd R j)]) (by omega) (by simp only [Ay,Br];omega);refine ⟨n+1,fun N=> ?_⟩;rw [Ag g,Ab] at hn;rw [Ag g,Ab,Yx hj,AW,←AC,Zv,show bx++pz6 z (rd P (i+1)) (rd R j)::(R.drop (j+1)).map (pz6 z (rd P (i+1)))=(bx++[pz6 z (rd P (i+1)) (rd R j)])++(R.drop (j+1)).map (pz6 z (rd P (i+1))) by simp,←hn N];simp (disch:=omega) only [Ww,ew,Zm,Zq,Zo,Zr,Yc,Yk,Yp,Zf,Zk,Zx,Yg,Zj,Ah,Av,Ai,Al,Ab,Aa];rfl
  ·obtain ⟨n,hn⟩:=v2n n6 hn6 now i hi z v59 R hR P hP k (j+1) bx (by omega) (by omega);refine ⟨n+1,fun N=> ?_⟩;rw [Au g,Aa] at hn;rw [Au g,Aa,←AC,Zv,←hn N];simp (disch:=omega) only [Ww,ew,Yz,Zm,Zq,Zo,Zr,Zk,Zx,Zj,Ai,Ab,Aa]
def resR (l:List R7):Option (List R6)→List AVal
 | none=>[.nils,.int .i64 28]
 | some bx=>y4h (finE l bx) (Wd bx)
theorem u5u : ∀(k i:Nat) (now:List R4) (bx:List R6),i+k=(plZ l).length →bx.length≤400*i→
  ∃n,Zs (Ww l) n (.to (.h1 (plZ l).length bx now (plZ l).length ((plZ l).length :Int) (i:Int) (Wa (Xu (zsQ l)))))=.ret (resR l (goP l ((plZ l).drop i) now bx))
 | 0,i,now,bx,h,hb=>by have _u:=ha;have _v:=hl;rw [Ar (show (plZ l).length ≤i by omega)];have o2:z1s (Wd bx)=true:=Ag (u8a bx);have o3:z2g (Kk (Wd bx)) l=true:=Ag (by have:=v2u (L:=Wd bx);omega);refine ⟨1,?_⟩;rw [Zv];simp (disch:=omega) only [Ww,Yz,Zm,show∀x,z6z x=true from fun _=>rfl,o2,o3,Ab,Aa];show Zs (Ww l) 0 _=.ret (y4h (finE l bx) (Wd bx));unfold finE y4h;cases (z5o bx != 0) <;> cases (z5s (Wd bx) != 0) <;> cases (y7w (Kk (Wd bx)) l) <;> rfl
 | k +1,i,now,bx,h,hb=>by
  have hi:i<(plZ l).length :=by omega
  have hp:(plZ l).length ≤3000:=AL (z2y _) (AL (y6z l) hl);have hpl:(Wa (Xu (zsQ l))).length =(zsQ l).length :=by rw [Ug,Xf]
  have hcl:(plZ l).length ≤(zsQ l).length :=z2y _;have r0:rd (Wa (Xu (zsQ l))) i=rd (plZ l) i:=z4b _ _ hi;obtain ⟨n2,h2⟩:=u5t l hl ha (plZ l).length bx now (i:Int) (rd (plZ l) i) (plZ l).length ((plZ l).length :Int) (i:Int) (Wa (Xu (zsQ l))) l.length 0 [] [] (Ah _) (An _) (An _) rfl rfl;have st: ∀N,Zs (Ww l) (N+n2+1) (.to (.h1 (plZ l).length bx now (plZ l).length ((plZ l).length :Int) (i:Int) (Wa (Xu (zsQ l)))))=Zs (Ww l) N (bif badN now (zQ 4 l (rd (plZ l) i)) (zQ 5 l (rd (plZ l) i)) then .ret [.nils,.int .i64 28] else
    .to (.h3 (plZ l).length bx (x3y now (zQ 4 l (rd (plZ l) i)) (zQ 5 l (rd (plZ l) i))) (i:Int) (rd (plZ l) i) (plZ l).length ((plZ l).length :Int) (i:Int) (x3y now (zQ 4 l (rd (plZ l) i)) (zQ 5 l (rd (plZ l) i))) ((x3y now (zQ 4 l (rd (plZ l) i)) (zQ 5 l (rd (plZ l) i))).length :Int) 0 (Wa (Xu (zsQ l))))):=fun N=>by
   rw [←h2 N,Zv];simp (disch:=omega) only [Ww,r0,Zm,Zo,Zr,Yk,Zj,Ah,Av,Ai,Ab,Aa];rfl
  rw [Yx hi];rcases Ym (badN now (zQ 4 l (rd (plZ l) i)) (zQ 5 l (rd (plZ l) i))) with g | g
  ·refine ⟨0+n2+1,?_⟩;rw [st 0,g,Ab,Zp];unfold goP;rw [g];rfl
  ·have hn4:(x3y now (zQ 4 l (rd (plZ l) i)) (zQ 5 l (rd (plZ l) i))).length ≤400:=u4n;obtain ⟨n3,h3⟩:=v2n l hl ha (plZ l).length hp (x3y now (zQ 4 l (rd (plZ l) i)) (zQ 5 l (rd (plZ l) i))) i hi (rd (plZ l) i) ((plZ l).length :Int) (x3y now (zQ 4 l (rd (plZ l) i)) (zQ 5 l (rd (plZ l) i))) hn4 (Wa (Xu (zsQ l))) (by omega) (x3y now (zQ 4 l (rd (plZ l) i)) (zQ 5 l (rd (plZ l) i))).length 0 bx (Ah _) (by omega);rw [AX] at h3;obtain ⟨n,hn⟩:=u5u k (i+1) (x3y now (zQ 4 l (rd (plZ l) i)) (zQ 5 l (rd (plZ l) i))) (bx++bif decide (i+1<(plZ l).length) then (x3y now (zQ 4 l (rd (plZ l) i)) (zQ 5 l (rd (plZ l) i))).map (pz6 (rd (plZ l) i) (rd (Wa (Xu (zsQ l))) (i+1))) else []) (by omega) (by
    rw [Ay];cases decide (i+1<(plZ l).length) with
    | true=>rw [Ab,AT];omega
    | false=>rw [Aa,Bp];omega)
   refine ⟨n+n3+n2+1,?_⟩;rw [st (n+n3),g,Aa];refine (h3 n).trans (hn.trans ?_);have em:(bif decide (i+1<(plZ l).length) then (x3y now (zQ 4 l (rd (plZ l) i)) (zQ 5 l (rd (plZ l) i))).map (pz6 (rd (plZ l) i) (rd (Wa (Xu (zsQ l))) (i+1))) else [])=(match (plZ l).drop (i+1) with
     | []=>[]
     | z'::_=>(x3y now (zQ 4 l (rd (plZ l) i)) (zQ 5 l (rd (plZ l) i))).map (pz6 (rd (plZ l) i) z')):=by
    by_cases q:i+1<(plZ l).length
    ·rw [Ag q,Ab,Yx q,z4b _ _ q];rfl
    ·rw [Au q,Aa,Ar (by omega)]
   rw [em]
   conv=>rhs;unfold goP
   rw [g,Aa]
end
theorem j0e (l:List R7) (h:x4e l=true): ∃n,Zs (Ww l) n (y2r l)=.ret (y4h (v2o l) (msoL l)):=by
 unfold y2r v2o msoE;simp only [Zm,show z1u l=true from h,Ab];rcases Ym (v3a l != 0) with q | q
 ·refine ⟨0,?_⟩;rw [q,Ab,Ab,z2k _ q];rfl
 ·rw [q,Aa,Aa];obtain ⟨hl,hv⟩:=v9r (l:=l) (by simpa using q);have ha: ∀i,i<l.length→0≤(rd l i).a ∧(rd l i).a ≤5:=fun i hi=>by
   have hm:rd l i∈l:=by rw [Yo hi];exact AN hi
   have:=Aw.1 h _ hm;simp only [Ac,At] at this;exact ⟨this.1,val7_a (hv _ hm)⟩
  obtain ⟨n0,h0⟩:=u5v l hl ha l.length 0 [] (Ah _) (An _) rfl;obtain ⟨n1,h1⟩:=u5u l hl ha (plZ l).length 0 [] [] (Ah _) (An _);refine ⟨n1+n0,?_⟩;refine (h0 n1).trans (h1.trans ?_);rw [AX];unfold msoL;cases goP l (plZ l) [] [] with
  | none=>rfl
  | some bx=>rfl
def fMso :List AVal→Option (AVal×Bool)
 | [a0]=>match asL R7 a0 with
  | some (L0,g0,n0)=>some (.tup [.dat (u5w L0).length (Zz (u5w L0)),.int .i64 (v2o L0)],isT R7 n0 g0&&(x4e L0))
  | _=>none
 | _=>none
theorem j2o {S:Specs} (hS:Zu prog S):Zu prog (S.with v2j fMso):=by
 refine w8s hS (by kernel_rfl) fun args v h=> ?_;unfold fMso at h;split at h
 ·rename_i a0;split at h
  ·rename_i L0 g0 n0 e0;simp only [Ae,Ad,Ac] at h;obtain ⟨rfl,ho0,hw⟩:=h;obtain ⟨N,hN⟩:=j0e L0 hw;exact ⟨_,_,(.cons (asL_le e0 ho0) .nil),z4t _ _,v9f L0 N _ hN,3,z9i _ _⟩
  ·cases h
 ·cases h
def Mi :Specs:=(Mh.with v2j fMso)
theorem z3o :Zu prog Mi:=(j2o Qk)
def shQ (q:Ax) (L:List R6) (t u w:Int):Bool:=match q with
 | .x =>u2t L t u w
 | .y =>u2t L u t w
 | .z =>u2t L u w t
def x0d (q:Ax) (L:List R6) (t u w:Int):Bool:=match q with
 | .x =>z1n L t u w
 | .y =>z1n L u t w
 | .z =>z1n L u w t
def Ax.l (q:Ax) (a b c:Int):Int:=match q with
 | .x =>a
 | .y =>b
 | .z =>c
def Ax.u (q:Ax) (a b:Int):Int:=match q with
 | .x =>b
 | .y =>a
 | .z =>a
def Ax.w (q:Ax) (a b:Int):Int:=match q with
 | .x =>b
 | .y =>b
 | .z =>a
inductive mpuS where
 | h0 (v15:List Int) (v32:Int)
 | h1 (v15:List Int) (v20:Int) (v21:Int) (v22:Int) (v23:Int)
abbrev Qb (v15:List Int):=(Xu (Yw v15.length (cOf (Zz v15))))
abbrev z3j (v15:List Int) (q:Ax) (l1:List R6) (v32:Int):=(v15++[(Ax.hi q (rd l1 (tn v32)))])
abbrev w2w (v15:List Int) (q:Ax) (l1:List R6) (v32:Int):=(Ze (Zz v15) 0 v15.length 1 [(ii (Ax.hi q (rd l1 (tn v32))))])
def mpuC (q:Ax) (l1:List R6) (x2:Int) (x3:Int) (x4:Int) (x5:Int) (x6:Bool):mpuS→Cfg
 | .h0 v15 v32=>⟨⟨122,0,true⟩,none,(Zb prog 58 [1,1,1,0,1,0,0] 0),none,(Zy prog 58),⟨Ya [(1,(.dat l1.length (Zz l1))),(2,(ii x2)),(3,(ii x3)),(4,(ii x4)),(5,(ii x5)),(6,(.bool x6)),(7,(.ptr 0 0)),(15,(.sla 1 1 0 v15.length (.un 1))),(30,(.dat l1.length (Zz l1))),(31,(ii (l1.length:Int))),(32,(ii v32))],Wr [⟨[(.fn (nV1 q) []),(.fn (nV2 q) []),(.fn (nV3 q) [])],84,none⟩,⟨rows v15.length (Zz v15),3,some ⟨1,v15.length,(Zz v15)⟩⟩] 0,2,[],true⟩,[],.leaf⟩
 | .h1 v15 v20 v21 v22 v23=>⟨⟨122,0,true⟩,none,(Zb prog 58 [1,1,1,1,1,1,1,1,0,1,0,0] 0),none,(Zy prog 58),⟨Ya [(1,(.dat l1.length (Zz l1))),(2,(ii x2)),(7,(.ptr 0 0)),(15,(.sla 1 1 0 v15.length (.un 1))),(20,(ii v20)),(21,(ii v21)),(22,(ii v22)),(23,(ii v23))],Wr [⟨[(.fn (nV1 q) []),(.fn (nV2 q) []),(.fn (nV3 q) [])],84,none⟩,⟨rows v15.length (Zz v15),3,some ⟨1,v15.length,(Zz v15)⟩⟩] 0,2,[],true⟩,[],.leaf⟩
def y6t :List (Option (List Nat)):=[some [1,2,3,4,5,6,7,15,30,31,32]]
def y6u :List (Option (List Nat)):=[]
def v2s :List (Option (List Nat)):=[some [1,2,7,15,20,21,22,23]]
def v2t :List (Option (List Nat)):=[]
def Kj (q:Ax) (l1:List R6) (x2:Int) (x3:Int) (x4:Int) (x5:Int) (x6:Bool):mpuS→Xv mpuS
 | .h0 v15 v32=>(bif (decide (v32<(l1.length:Int))) then (bif ((decide (0≤v32∧v32<(l1.length:Int)))&&true) then (bif (decide (x4<(Ax.lo q (rd l1 v32.toNat)))) then (bif (decide ((Ax.lo q (rd l1 v32.toNat))<x5)) then (bif (Nat.beq 1 1&&((decide (0+v15.length=v15.length))&&decide ((v15.length+1+1)*(8+1)≤Uj))) then (bif (decide (x4<(Ax.hi q (rd l1 v32.toNat)))) then (bif (decide ((Ax.hi q (rd l1 v32.toNat))<x5)) then (bif (Nat.beq 1 1&&((decide (0+(v15.length+1)=(v15.length+1)))&&decide (((v15.length+1)+1+1)*(8+1)≤Uj))) then (.to (.h0 ((v15++[(Ax.lo q (rd l1 v32.toNat))])++[(Ax.hi q (rd l1 v32.toNat))]) (wrap .i64 (v32+1)))) else .stuck) else (.to (.h0 (v15++[(Ax.lo q (rd l1 v32.toNat))]) (wrap .i64 (v32+1))))) else (.to (.h0 (v15++[(Ax.lo q (rd l1 v32.toNat))]) (wrap .i64 (v32+1))))) else .stuck) else (bif (decide (x4<(Ax.hi q (rd l1 v32.toNat)))) then (bif (decide ((Ax.hi q (rd l1 v32.toNat))<x5)) then (bif (Nat.beq 1 1&&((decide (0+v15.length=v15.length))&&decide ((v15.length+1+1)*(8+1)≤Uj))) then (.to (.h0 (v15++[(Ax.hi q (rd l1 v32.toNat))]) (wrap .i64 (v32+1)))) else .stuck) else (.to (.h0 v15 (wrap .i64 (v32+1))))) else (.to (.h0 v15 (wrap .i64 (v32+1)))))) else (bif (decide (x4<(Ax.hi q (rd l1 v32.toNat)))) then (bif (decide ((Ax.hi q (rd l1 v32.toNat))<x5)) then (bif (Nat.beq 1 1&&((decide (0+v15.length=v15.length))&&decide ((v15.length+1+1)*(8+1)≤Uj))) then (.to (.h0 (v15++[(Ax.hi q (rd l1 v32.toNat))]) (wrap .i64 (v32+1)))) else .stuck) else (.to (.h0 v15 (wrap .i64 (v32+1))))) else (.to (.h0 v15 (wrap .i64 (v32+1)))))) else .stuck) else (bif (decide (v15.length<4611686018427387904)) then (bif (decide (v15.length=v15.length)) then (bif (!x6) then (.to (.h1 (Xu (Yw v15.length (cOf (Zz v15)))) (wrap .i64 (x3 - 1)) x3 0 1)) else (.to (.h1 (Xu (Yw v15.length (cOf (Zz v15)))) x3 (wrap .i64 (x3 - 1)) 0 1))) else .stuck) else .stuck))
 | .h1 v15 v20 v21 v22 v23=>(bif (decide (v23<(v15.length:Int))) then (bif ((decide (0≤(wrap .i64 (v23 - 1))∧(wrap .i64 (v23 - 1))<(v15.length:Int)))&&true) then (bif (decide ((0+(Int.toNat (wrap .i64 (v23 - 1))))<v15.length)) then (bif (x0d q (cvT l1) (rd v15 (0+(Int.toNat (wrap .i64 (v23 - 1))))) (wrap .i64 (x2 - 1)) v20) then (bif (!(shQ q (cvT l1) (rd v15 (0+(Int.toNat (wrap .i64 (v23 - 1))))) (wrap .i64 (x2 - 1)) v20)) then (bif (x0d q (cvT l1) (rd v15 (0+(Int.toNat (wrap .i64 (v23 - 1))))) x2 v21) then (bif (!(shQ q (cvT l1) (rd v15 (0+(Int.toNat (wrap .i64 (v23 - 1))))) x2 v21)) then (bif ((decide (0≤v23∧v23<(v15.length:Int)))&&true) then (bif (decide ((0+v23.toNat)<v15.length)) then (.to (.h1 v15 v20 v21 (wrap .i64 (v22+(wrap .i64 ((rd v15 (0+v23.toNat)) - (rd v15 (0+(Int.toNat (wrap .i64 (v23 - 1))))))))) (wrap .i64 (v23+1)))) else .stuck) else .stuck) else (.to (.h1 v15 v20 v21 v22 (wrap .i64 (v23+1))))) else .stuck) else (.to (.h1 v15 v20 v21 v22 (wrap .i64 (v23+1))))) else .stuck) else .stuck) else .stuck) else (.ret [(.int .i64 v22)]))
def y2s (q:Ax) (l1:List R6) (x2:Int) (x3:Int) (x4:Int) (x5:Int) (x6:Bool):Xv mpuS:=(bif (decide (x4≥x5)) then (.ret [(.int .i64 0)]) else (.to (.h0 ([x4,x5]:List Int) 0)))
theorem w6h (q:Ax) (l1:List R6) (x2:Int) (x3:Int) (x4:Int) (x5:Int) (x6:Bool): ∀s,Ys prog (Zy prog 58) (mpuC q l1 x2 x3 x4 x5 x6) (mpuC q l1 x2 x3 x4 x5 x6 s) (Kj q l1 x2 x3 x4 x5 x6 s):=by cases q <;> refine (?f: ∀q:Ax,∀s,Ys prog (Zy prog 58) (mpuC q l1 x2 x3 x4 x5 x6) (mpuC q l1 x2 x3 x4 x5 x6 s) (Kj q l1 x2 x3 x4 x5 x6 s)) _ <;> exact fun q=>fun
 | .h0 v15 v32=>(lb (fun k0=>(lo fun aF=>(lb (fun k1=>(lb (fun k2=>(lo fun cC=>(lb (fun k3=>(lb (fun k4=>(lo fun o0=>(sl z3o 111 [] ⟨[0,8],[],y6t,y6u⟩ ⟨[(15,.len ((v15++[(Ax.lo q (rd l1 (tn v32)))])++[(Ax.hi q (rd l1 (tn v32)))]).length)],[.keep,.rowed 1 ((v15++[(Ax.lo q (rd l1 (tn v32)))])++[(Ax.hi q (rd l1 (tn v32)))]).length (Zz ((v15++[(Ax.lo q (rd l1 (tn v32)))])++[(Ax.hi q (rd l1 (tn v32)))]))],[]⟩ (bl 15 15867) (pp (xL ((v15.length+1)+1) ((v15++[(Ax.lo q (rd l1 (tn v32)))])++[(Ax.hi q (rd l1 (tn v32)))]).length) (pp (xL ((v15.length+1)+1) ((v15++[(Ax.lo q (rd l1 (tn v32)))])++[(Ax.hi q (rd l1 (tn v32)))]).length) (pp (xS ((v15.length+1)+1) (Ze (Ze (Zz v15) 0 v15.length 1 [(ii (Ax.lo q (rd l1 (tn v32))))]) 0 (v15.length+1) 1 [(ii (Ax.hi q (rd l1 (tn v32))))]) (Zz ((v15++[(Ax.lo q (rd l1 (tn v32)))])++[(Ax.hi q (rd l1 (tn v32)))]))) (pp (pp (xF (Ze (Ze (Zz v15) 0 v15.length 1 [(ii (Ax.lo q (rd l1 (tn v32))))]) 0 (v15.length+1) 1 [(ii (Ax.hi q (rd l1 (tn v32))))])) nn) (ww o0 (tt k4 (tt k3 (ww cC (tt k2 (tt k1 (ww aF (tt k0 nn))))))))))))))) (fun k4=>(sl z3o 105 [] ⟨[0,6],[],y6t,y6u⟩ ⟨[(15,.len (v15++[(Ax.lo q (rd l1 (tn v32)))]).length)],[.keep,.rowed 1 (v15++[(Ax.lo q (rd l1 (tn v32)))]).length (Zz (v15++[(Ax.lo q (rd l1 (tn v32)))]))],[]⟩ (bl 15 7675) (pp (xL (v15.length+1) (v15++[(Ax.lo q (rd l1 (tn v32)))]).length) (pp (xL (v15.length+1) (v15++[(Ax.lo q (rd l1 (tn v32)))]).length) (pp (xS (v15.length+1) (Ze (Zz v15) 0 v15.length 1 [(ii (Ax.lo q (rd l1 (tn v32))))]) (Zz (v15++[(Ax.lo q (rd l1 (tn v32)))]))) (pp (pp (xF (Ze (Zz v15) 0 v15.length 1 [(ii (Ax.lo q (rd l1 (tn v32))))])) nn) (tt k4 (tt k3 (ww cC (tt k2 (tt k1 (ww aF (tt k0 nn))))))))))))))) (fun k3=>(sl z3o 105 [] ⟨[0,6],[],y6t,y6u⟩ ⟨[(15,.len (v15++[(Ax.lo q (rd l1 (tn v32)))]).length)],[.keep,.rowed 1 (v15++[(Ax.lo q (rd l1 (tn v32)))]).length (Zz (v15++[(Ax.lo q (rd l1 (tn v32)))]))],[]⟩ (bl 15 507) (pp (xL (v15.length+1) (v15++[(Ax.lo q (rd l1 (tn v32)))]).length) (pp (xL (v15.length+1) (v15++[(Ax.lo q (rd l1 (tn v32)))]).length) (pp (xS (v15.length+1) (Ze (Zz v15) 0 v15.length 1 [(ii (Ax.lo q (rd l1 (tn v32))))]) (Zz (v15++[(Ax.lo q (rd l1 (tn v32)))]))) (pp (pp (xF (Ze (Zz v15) 0 v15.length 1 [(ii (Ax.lo q (rd l1 (tn v32))))])) nn) (tt k3 (ww cC (tt k2 (tt k1 (ww aF (tt k0 nn))))))))))))))) (fun k2=>(lb (fun k3=>(lb (fun k4=>(lo fun o0=>(sl z3o 105 [] ⟨[0,6],[],y6t,y6u⟩ ⟨[(15,.len (z3j v15 q l1 v32).length)],[.keep,.rowed 1 (z3j v15 q l1 v32).length (Zz (z3j v15 q l1 v32))],[]⟩ (bl 15 15803) (pp (xL (v15.length+1) (z3j v15 q l1 v32).length) (pp (xL (v15.length+1) (z3j v15 q l1 v32).length) (pp (xS (v15.length+1) (w2w v15 q l1 v32) (Zz (z3j v15 q l1 v32))) (pp (pp (xF (w2w v15 q l1 v32)) nn) (ww o0 (tt k4 (tt k3 (tt k2 (tt k1 (ww aF (tt k0 nn)))))))))))))) (fun k4=>(sl z3o 99 [] ⟨[0,1],[],y6t,y6u⟩ ⟨[],[],[]⟩ (bl 15 7611) (pp (fl v15 nn) (tt k4 (tt k3 (tt k2 (tt k1 (ww aF (tt k0 nn))))))))))) (fun k3=>(sl z3o 99 [] ⟨[0,1],[],y6t,y6u⟩ ⟨[],[],[]⟩ (bl 15 443) (pp (fl v15 nn) (tt k3 (tt k2 (tt k1 (ww aF (tt k0 nn)))))))))))) (fun k1=>(lb (fun k2=>(lb (fun k3=>(lo fun o0=>(sl z3o 105 [] ⟨[0,6],[],y6t,y6u⟩ ⟨[(15,.len (z3j v15 q l1 v32).length)],[.keep,.rowed 1 (z3j v15 q l1 v32).length (Zz (z3j v15 q l1 v32))],[]⟩ (bl 15 15747) (pp (xL (v15.length+1) (z3j v15 q l1 v32).length) (pp (xL (v15.length+1) (z3j v15 q l1 v32).length) (pp (xS (v15.length+1) (w2w v15 q l1 v32) (Zz (z3j v15 q l1 v32))) (pp (pp (xF (w2w v15 q l1 v32)) nn) (ww o0 (tt k3 (tt k2 (tt k1 (ww aF (tt k0 nn))))))))))))) (fun k3=>(sl z3o 99 [] ⟨[0,1],[],y6t,y6u⟩ ⟨[],[],[]⟩ (bl 15 7555) (pp (fl v15 nn) (tt k3 (tt k2 (tt k1 (ww aF (tt k0 nn)))))))))) (fun k2=>(sl z3o 99 [] ⟨[0,1],[],y6t,y6u⟩ ⟨[],[],[]⟩ (bl 15 387) (pp (fl v15 nn) (tt k2 (tt k1 (ww aF (tt k0 nn)))))))))))) (fun k0=>(lo fun aF=>(lo fun aR=>(lb (fun k1=>(sl z3o 45 [] ⟨[0,1],[],v2s,v2t⟩ ⟨[(15,.len (Qb v15).length)],[.keep,.rowed 1 (Qb v15).length (Zz (Qb v15))],[]⟩ (bl 2 2) (pp (xL v15.length (Qb v15).length (Wc (by rw [Xf,Xr]))) (pp (xL v15.length (Qb v15).length (Wc (by rw [Xf,Xr]))) (pp (xS v15.length (Zz (Qb v15)) (Zz (Qb v15))) (pp (fl (Qb v15) nn) (tt k1 (pp (pp (xG (Nat.beq 1 1)) (pp (xG (Nat.beq 1 1)) (pp (xG (Nat.beq 0 0)) (pp (xG (decide (v15.length=v15.length))) (pp (xG (isI (Zz v15))) (xG (decide (v15.length<4611686018427387904)))))))) (tt k0 nn))))))))) (fun k1=>(sl z3o 39 [] ⟨[0,1],[],v2s,v2t⟩ ⟨[(15,.len (Qb v15).length)],[.keep,.rowed 1 (Qb v15).length (Zz (Qb v15))],[]⟩ (bl 2 0) (pp (xL v15.length (Qb v15).length (Wc (by rw [Xf,Xr]))) (pp (xL v15.length (Qb v15).length (Wc (by rw [Xf,Xr]))) (pp (xS v15.length (Zz (Qb v15)) (Zz (Qb v15))) (pp (fl (Qb v15) nn) (tt k1 (pp (pp (xG (Nat.beq 1 1)) (pp (xG (Nat.beq 1 1)) (pp (xG (Nat.beq 0 0)) (pp (xG (decide (v15.length=v15.length))) (pp (xG (isI (Zz v15))) (xG (decide (v15.length<4611686018427387904)))))))) (tt k0 nn))))))))))))))
 | .h1 v15 v20 v21 v22 v23=>(lb (fun k0=>(lo fun aF=>(lo fun aR=>(lo fun bV=>(lb (fun k1=>(lo fun cA=>(lb (fun k2=>(lo fun o0=>(lo fun o1=>(sl z3o 23 [] ⟨[0,1],[],v2s,v2t⟩ ⟨[],[],[]⟩ (trs 15 []) (pp (fl v15 nn) (ww aR (ww aF (ww o1 (ww o0 (tt k2 (pp (pp (xr l1) (xw cA)) (ww aR (ww aF (tt k1 (pp (pp (xr l1) (xw bV)) (ww aR (ww aF (tt k0 nn)))))))))))))))))) (fun k2=>(sl z3o 23 [] ⟨[0,1],[],v2s,v2t⟩ ⟨[],[],[]⟩ (trs 14 [false]) (pp (fl v15 nn) (tt k2 (pp (pp (xr l1) (xw cA)) (ww aR (ww aF (tt k1 (pp (pp (xr l1) (xw bV)) (ww aR (ww aF (tt k0 nn))))))))))))))) (fun k1=>(sl z3o 23 [] ⟨[0,1],[],v2s,v2t⟩ ⟨[],[],[]⟩ (bl 15 1) (pp (fl v15 nn) (tt k1 (pp (pp (xr l1) (xw bV)) (ww aR (ww aF (tt k0 nn))))))))))))) (fun k0=>(lr 122 3 [1,1,1,1,1,1,1,0] 1 58 [(14,(ii v22))] (sl z3o 15 [] ⟨[],[],[some [14]],[]⟩ ⟨[],[],[]⟩ [false] (tt k0 nn)))))
theorem x8o (q:Ax) (l1:List R6) (x2:Int) (x3:Int) (x4:Int) (x5:Int) (x6:Bool):Ys prog (Zy prog 58) (mpuC q l1 x2 x3 x4 x5 x6) (Za prog 58 [(.agg [(.fn (nV1 q) []),(.fn (nV2 q) []),(.fn (nV3 q) [])]),(.dat l1.length (Zz l1)),(.int .i64 x2),(.int .i64 x3),(.int .i64 x4),(.int .i64 x5),(.bool x6)] true []) (y2s q l1 x2 x3 x4 x5 x6):=by cases q <;> exact (lb (fun k0=>(lr 122 58 [1,0,1,0,0] 1 58 [(14,(ii 0))] (sl z3o 17 [] ⟨[],[],[some [14]],[]⟩ ⟨[],[],[]⟩ [true] (tt k0 nn)))) (fun k0=>(sl z3o 30 [] ⟨[0,1],[],y6t,y6u⟩ ⟨[(15,.grow 1 1)],[.keep,.rowed 1 ([x4,x5]:List Int).length (Zz ([x4,x5]:List Int))],[]⟩ [false] (pp (xG (x7i [(ii x4),(ii x5)] 1 ([x4,x5]:List Int).length (Zz ([x4,x5]:List Int)))) (tt k0 nn)))))
theorem v9g (q:Ax) (l1:List R6) (x2:Int) (x3:Int) (x4:Int) (x5:Int) (x6:Bool) (n:Nat) (vs:List AVal) (h:Zs (Kj q l1 x2 x3 x4 x5 x6) n (y2s q l1 x2 x3 x4 x5 x6)=.ret vs):Jw prog (Zy prog 58) (Za prog 58 [(.agg [(.fn (nV1 q) []),(.fn (nV2 q) []),(.fn (nV3 q) [])]),(.dat l1.length (Zz l1)),(.int .i64 x2),(.int .i64 x3),(.int .i64 x4),(.int .i64 x5),(.bool x6)] true []) vs:=by have:=Zc (w6h q l1 x2 x3 x4 x5 x6) n _ (x8o q l1 x2 x3 x4 x5 x6);rwa [h] at this
def gO (q:Ax) (L:List R6) (x f s t:Int):Int:=bif shQ q L t (x - 1) f then 0 else bif shQ q L t x s then 0 else 1
def sgS (g:Int→Int):Int→List Int→Int
 | _,[]=>0
 | a,b::l=>g a*(b - a)+sgS g b l
def sgL (g:Int→Int):List Int→Int
 | []=>0
 | a::l=>sgS g a l
def v3n (lo hi c:Int):List Int:=bif decide (lo<c) then (bif decide (c<hi) then [c] else []) else []
def v5z (q:Ax) (lo hi:Int):List R6→List Int
 | []=>[]
 | r::L=>v3n lo hi (q.lo r)++(v3n lo hi (q.hi r)++v5z q lo hi L)
def v2r (q:Ax) (L:List R6) (x y lo hi:Int) (b:Bool):Int:=bif decide (lo≥hi) then 0 else wrap .i64 (sgL (gO q L x (bif b then y else y - 1) (bif b then y - 1 else y)) (Xu ([lo,hi]++v5z q lo hi L)))
def Qz (q:Ax) (L:List R6) (x y lo hi:Int) (b:Bool):Bool:=decide (L.length≤400∧ -1000000≤x∧x≤1000000∧ -1000000≤y∧y≤1000000)
theorem v3m (lo hi c:Int):(v3n lo hi c).length ≤1:=by unfold v3n;cases decide (lo<c) <;> cases decide (c<hi) <;> simp
theorem shQ_ow {q:Ax} {L:List R6} (h:L.length≤400) (t u w:Int):x0d q L t u w=true:=by have:z1n L t u w=true:=Ag (by omega);cases q <;> exact Ag (by omega)
theorem w2v (q:Ax) (L:List R6) (hl:L.length≤400) (x y lo hi:Int) (b:Bool) (hx: -1000000≤x∧x≤1000000) (C:List Int) (hC:C.length≤100000) (f s:Int): ∀(k j:Nat) (S:Int),j+1+k=C.length→
  ∃N,Zs (Kj q L x y lo hi b) N (.to (.h1 C f s (wrap .i64 S) ((j+1:Nat):Int)))=.ret [.int .i64 (wrap .i64 (S+sgS (gO q L x f s) (rd C j) (C.drop (j+1))))]
 | 0,j,S,h=>by refine ⟨1,?_⟩;rw [Zv,Ar (by omega)];have g:decide (((j+1:Nat):Int)<(C.length:Int))=false:=Au (by omega);simp only [Kj,g,Aa,Zp];show _=Xv.ret [.int .i64 (wrap .i64 (S+0))];rw [A6]
 | k+1,j,S,h=>by
  have hj:j+1<C.length:=by omega
  have g1:decide (((j+1:Nat):Int)<(C.length:Int))=true:=Ag (by omega);have w1:wrap .i64 (((j+1:Nat):Int) - 1)=(j:Int):=by rw [Zk (by omega)];omega
  have g2:decide (0≤(j:Int)∧(j:Int)<(C.length:Int))=true:=Ag (by omega);have g3:decide (0+j<C.length)=true:=Ag (by omega);have g4:decide (0≤((j+1:Nat):Int)∧((j+1:Nat):Int)<(C.length:Int))=true:=Ag (by omega);have g5:decide (0+(j+1)<C.length)=true:=Ag (by omega);have wx:wrap .i64 (x - 1)=x - 1:=Zk (by omega);have w3:wrap .i64 (((j+1:Nat):Int)+1)=((j+1+1:Nat):Int):=by rw [Zk (by omega)];omega
  have o:=fun t u w=>shQ_ow (q:=q) hl t u w;have e:sgS (gO q L x f s) (rd C j) (C.drop (j+1))=gO q L x f s (rd C j)*(rd C (j+1) - rd C j)+sgS (gO q L x f s) (rd C (j+1)) (C.drop (j+1+1)):=by rw [Yx hj];rfl
  rw [e];have a0: ∀z,S+(0*z+sgS (gO q L x f s) (rd C (j+1)) (C.drop (j+1+1)))=S+sgS (gO q L x f s) (rd C (j+1)) (C.drop (j+1+1)):=fun z=>by omega
  rcases Ym (shQ q L (rd C j) (x - 1) f) with q1 | q1
  ·obtain ⟨N,hN⟩:=w2v q L hl x y lo hi b hx C hC f s k (j+1) S (by omega);refine ⟨N+1,?_⟩;rw [show gO q L x f s (rd C j)=0 by unfold gO;rw [q1];rfl,a0,←hN,Zv]
   congr 1
   simp only [Kj,Zm,g1,w1,g2,g3,Zj,Ah,wx,w3,o,q1,Ai,AE,Ab,Aa,Ag (show j<C.length by omega)]
  rcases Ym (shQ q L (rd C j) x s) with q2 | q2
  ·obtain ⟨N,hN⟩:=w2v q L hl x y lo hi b hx C hC f s k (j+1) S (by omega);refine ⟨N+1,?_⟩;rw [show gO q L x f s (rd C j)=0 by unfold gO;rw [q1,q2];rfl,a0,←hN,Zv]
   congr 1
   simp only [Kj,Zm,g1,w1,g2,g3,Zj,Ah,wx,w3,o,q1,q2,Ai,AE,AI,Ab,Aa,Ag (show j<C.length by omega)]
  ·obtain ⟨N,hN⟩:=w2v q L hl x y lo hi b hx C hC f s k (j+1) (S+(rd C (j+1) - rd C j)) (by omega);refine ⟨N+1,?_⟩;have wp:wrap .i64 (wrap .i64 S+wrap .i64 (rd C (j+1) - rd C j))=wrap .i64 (S+(rd C (j+1) - rd C j)):=Cg.eq ((Cg.wrap S).add (Cg.wrap _));rw [show gO q L x f s (rd C j)=1 by unfold gO;rw [q1,q2];rfl,Int.one_mul,←Cv,←hN,Zv]
   congr 1
   simp only [Kj,Zm,g1,w1,g2,g4,Zj,Ah,wx,w3,wp,o,q1,q2,Ai,AI,Ab,Aa,Ag (show j<C.length by omega),Ag hj]
theorem u5y (q:Ax) (L:List R6) (hl:L.length≤400) (x y lo hi:Int) (b:Bool) (hx: -1000000≤x∧x≤1000000) (hy: -1000000≤y∧y≤1000000): ∀(k i:Nat) (acc:List Int),i+k=L.length→acc.length≤2+2*i→2≤acc.length→
  ∃N,Zs (Kj q L x y lo hi b) N (.to (.h0 acc (i:Int)))=.ret [.int .i64 (wrap .i64 (sgL (gO q L x (bif b then y else y - 1) (bif b then y - 1 else y)) (Xu (acc++v5z q lo hi (L.drop i)))))]
 | 0,i,acc,h,ha,h2=>by
  have:i=L.length:=by omega
  subst this;rw [Ar (An _)];show∃N,_=Xv.ret [.int .i64 (wrap .i64 (sgL _ (Xu (acc++[]))))];rw [AB];have hs:(Xu acc).length =acc.length:=Xf acc;have key: ∀f s,∃N,Zs (Kj q L x y lo hi b) N (.to (.h1 (Xu acc) f s 0 1))=.ret [.int .i64 (wrap .i64 (sgL (gO q L x f s) (Xu acc)))]:=fun f s=>by
   obtain ⟨N,hN⟩:=w2v q L hl x y lo hi b hx (Xu acc) (by omega) f s ((Xu acc).length - 1) 0 0 (by omega);refine ⟨N,?_⟩;rw [show wrap .i64 0=0 from rfl,show ((0+1:Nat):Int)=1 from rfl,B6] at hN;rw [hN]
   congr 4
   cases e:Xu acc with
   | nil=>rw [e] at hs;simp at hs;omega
   | cons a l=>rfl
  have g1:decide ((L.length:Int)<(L.length:Int))=false:=Au (by omega);have g2:decide (acc.length<4611686018427387904)=true:=Ag (by omega);have g3:decide (acc.length=acc.length)=true:=Ag rfl;have wy:wrap .i64 (y - 1)=y - 1:=Zk (by omega);cases b with
  | true=>obtain ⟨N,hN⟩:=key y (y - 1);refine ⟨N+1,?_⟩;rw [Zv];simp only [Kj,g1,g2,g3,Xr,wy,AE,Ab,Aa];exact hN
  | false=>obtain ⟨N,hN⟩:=key (y - 1) y;refine ⟨N+1,?_⟩;rw [Zv];simp only [Kj,g1,g2,g3,Xr,wy,AI,Ab,Aa];exact hN
 | k+1,i,acc,h,ha,h2=>by
  have hi':i<L.length:=by omega
  have l1:=v3m lo hi (q.lo (rd L i));have l2:=v3m lo hi (q.hi (rd L i));obtain ⟨N,hN⟩:=u5y q L hl x y lo hi b hx hy k (i+1) (acc++v3n lo hi (q.lo (rd L i))++v3n lo hi (q.hi (rd L i))) (by omega) (by simp only [Ay];omega) (by simp only [Ay];omega);refine ⟨N+1,?_⟩;rw [Yx hi'];show _=Xv.ret [.int .i64 (wrap .i64 (sgL _ (Xu (acc++(v3n lo hi (q.lo (rd L i))++(v3n lo hi (q.hi (rd L i))++v5z q lo hi (L.drop (i+1))))))))];rw [←AH,←AH,←hN,Zv]
  congr 1
  have g1:decide ((i:Int)<(L.length:Int))=true:=Ag (by omega);have g2:decide (0≤(i:Int)∧(i:Int)<(L.length:Int))=true:=Ag (by omega);have w3:wrap .i64 ((i:Int)+1)=((i+1:Nat):Int):=by rw [Zk (by omega)];rfl
  have r1:decide ((acc.length+1+1)*(8+1)≤Uj)=true:=Zf (by omega);have r2:decide ((acc.length+1+1+1)*(8+1)≤Uj)=true:=Zf (by omega);have m1:decide (0+acc.length=acc.length)=true:=Ag (by omega);have m2:decide (0+(acc.length+1)=acc.length+1)=true:=Ag (by omega);have b1:Nat.beq 1 1=true:=rfl;unfold v3n;rcases Ym (decide (lo<q.lo (rd L i))) with q1 | q1 <;> rcases Ym (decide (q.lo (rd L i)<hi)) with q2 | q2 <;> rcases Ym (decide (lo<q.hi (rd L i))) with q3 | q3 <;> rcases Ym (decide (q.hi (rd L i)<hi)) with q4 | q4 <;>
   simp only [Kj,g1,g2,w3,Zj,q1,q2,q3,q4,r1,r2,m1,m2,b1,Ai,Al,Ab,Aa,AB]
theorem j0j (q:Ax) (L:List R6) (x y lo hi:Int) (b:Bool) (h:Qz q L x y lo hi b=true): ∃N,Zs (Kj q L x y lo hi b) N (y2s q L x y lo hi b)=.ret [.int .i64 (v2r q L x y lo hi b)]:=by
 have h:=AA h;unfold y2s v2r;rcases Ym (decide (lo≥hi)) with q1 | q1 <;> rw [q1]
 ·exact ⟨0,rfl⟩
 ·obtain ⟨N,hN⟩:=u5y q L h.1 x y lo hi b ⟨h.2.1,h.2.2.1⟩ ⟨h.2.2.2.1,h.2.2.2.2⟩ L.length 0 [lo,hi] (Ah _) (by simp) (by simp);exact ⟨N,hN⟩
def fMpu :List AVal→Option (AVal×Bool)
 | [.agg [.fn a [],.fn b [],.fn c []],a1,.int .i64 x2,.int .i64 x3,.int .i64 x4,.int .i64 x5,.bool x6]=>match axOf a b c,asL R6 a1 with
  | some q,some (L1,g1,n1)=>some (.int .i64 (v2r q L1 x2 x3 x4 x5 x6),isT R6 n1 g1&&(Qz q L1 x2 x3 x4 x5 x6))
  | _,_=>none
 | _=>none
theorem j2p {S:Specs} (hS:Zu prog S):Zu prog (S.with u5k fMpu):=by
 refine z0o hS (by kernel_rfl) fun args v h=> ?_;unfold fMpu at h;split at h
 ·rename_i a b c a1 x2 x3 x4 x5 x6;split at h
  ·rename_i q L1 g1 n1 eq e1;simp only [Ae,Ad,Ac] at h;obtain ⟨rfl,ho1,hw⟩:=h;obtain ⟨rfl,rfl,rfl⟩:=w0t eq;obtain ⟨N,hN⟩:=j0j q L1 x2 x3 x4 x5 x6 hw;exact ⟨_,_,(.cons (.refl _) (.cons (asL_le e1 ho1) (.cons (.refl _) (.cons (.refl _) (.cons (.refl _) (.cons (.refl _) (.cons (.refl _) .nil))))))),rfl,v9g q L1 x2 x3 x4 x5 x6 N _ hN,3,rfl⟩
  ·cases h
 ·cases h
def Ni :Specs:=Mi.with u5k fMpu
theorem z5m :Zu prog Ni:=j2p z3o
inductive mpgS where
 | h0 (q:Ax) (v5:Int) (v26:Int)
 | h1 (q:Ax) (v5:Int) (v26:Int) (v33:List R6) (v34:Int) (v35:Int) (aN:Int) (aY:Int) (bF:Int) (bG:Int) (bL:Int) (bP:Int)
def x1a (l0:List R6):mpgS→Cfg
 | .h0 q v5 v26=>⟨⟨125,0,true⟩,none,(Zb prog 17 [1,1,1,0,1,0,0,1,1,0,0,1,1,0,0] 0),none,(Zy prog 15),⟨Ya [(0,(.dat l0.length (Zz l0))),(5,(ii v5)),(7,(.ptr 0 0)),(20,(.agg [(.fn 105 []),(.fn 106 []),(.fn 107 []),(.fn 108 []),(.fn 109 []),(.fn 110 []),(.fn 111 []),(.fn 112 []),(.fn 113 [])])),(21,(ii q.ix)),(24,(.dat l0.length (Zz l0))),(25,(ii (l0.length:Int))),(26,(ii v26))],Wr [⟨[(.fn (nV1 q) []),(.fn (nV2 q) []),(.fn (nV3 q) [])],84,none⟩] 0,1,[],true⟩,[],.leaf⟩
 | .h1 q v5 v26 v33 v34 v35 aN aY bF bG bL bP=>⟨⟨125,0,true⟩,none,(Zb prog 17 [1,1,1,0,1,0,0,1,1,0,0,1,1,0,0,1,1,0,0,1,1,0,0] 0),none,(Zy prog 15),⟨Ya [(0,(.dat l0.length (Zz l0))),(5,(ii v5)),(7,(.ptr 0 0)),(9,(.ptr 1 0)),(20,(.agg [(.fn 105 []),(.fn 106 []),(.fn 107 []),(.fn 108 []),(.fn 109 []),(.fn 110 []),(.fn 111 []),(.fn 112 []),(.fn 113 [])])),(21,(ii q.ix)),(24,(.dat l0.length (Zz l0))),(25,(ii (l0.length:Int))),(26,(ii v26)),(33,(.dat v33.length (Zz v33))),(34,(ii v34)),(35,(ii v35))],Wr [⟨[(.fn (nV1 q) []),(.fn (nV2 q) []),(.fn (nV3 q) [])],84,none⟩,⟨[(ii aN),(ii aY),(ii bF),(ii bG),(ii bL),(ii bP)],67,none⟩] 0,2,[],true⟩,[],.leaf⟩
def v9i :List (Option (List Nat)):=[some [0,5,7,20,21,24,25,26]]
def v9j :List (Option (List Nat)):=[]
def x0y :List (Option (List Nat)):=[some [0,5,7,9,20,21,24,25,26,33,34,35]]
def x0z :List (Option (List Nat)):=[]
def mpgE (q:Ax) (v5:Int):Xv mpgS:=match q with
 | .x =>(.to (.h0 .y v5 0))
 | .y =>(.to (.h0 .z v5 0))
 | .z =>(.ret [(.int .i64 v5),(.int .i64 0)])
def Wm (l0:List R6):mpgS→Xv mpgS
 | .h0 q v5 v26=>(bif (decide (v26<(l0.length:Int))) then (bif ((decide (0≤v26∧v26<(l0.length:Int)))&&true) then (bif (decide (0≤v26.toNat)) then (bif (decide (v26.toNat≤l0.length)) then (bif (decide (0≤v26)) then (.to (.h1 q v5 v26 (Jx l0 0 v26.toNat) ((v26.toNat:Nat):Int) 0 (rd l0 v26.toNat).a (rd l0 v26.toNat).b (rd l0 v26.toNat).c (rd l0 v26.toNat).d (rd l0 v26.toNat).e (rd l0 v26.toNat).f)) else .stuck) else .stuck) else .stuck) else .stuck) else (mpgE q v5))
 | .h1 q v5 v26 v33 v34 v35 aN aY bF bG bL bP=>(bif (decide (v35<v34)) then (bif ((decide (0≤v35∧v35<(v33.length:Int)))&&true) then (bif (decide ((q.rc (rd v33 v35.toNat)).a <(q.u aN aY))) then (bif ((q.rc (rd v33 v35.toNat)).c != (q.u aN aY)) then (.to (.h1 q v5 v26 v33 v34 (wrap .i64 (v35+1)) aN aY bF bG bL bP)) else (bif ((q.rc (rd v33 v35.toNat)).d != (q.w aY bF)) then (bif ((q.w bL bP) != (q.rc (rd v33 v35.toNat)).b) then (.to (.h1 q v5 v26 v33 v34 (wrap .i64 (v35+1)) aN aY bF bG bL bP)) else (bif (Qz q (cvT l0) (q.rc (rd v33 v35.toNat)).c (q.rc (rd v33 v35.toNat)).b (z1j (q.l aN aY bF) (q.lo (rd v33 v35.toNat))) (z1i (q.l bG bL bP) (q.hi (rd v33 v35.toNat))) ((q.rc (rd v33 v35.toNat)).d == (q.w aY bF))) then (.to (.h1 q (wrap .i64 (v5+(v2r q (cvT l0) (q.rc (rd v33 v35.toNat)).c (q.rc (rd v33 v35.toNat)).b (z1j (q.l aN aY bF) (q.lo (rd v33 v35.toNat))) (z1i (q.l bG bL bP) (q.hi (rd v33 v35.toNat))) ((q.rc (rd v33 v35.toNat)).d == (q.w aY bF))))) v26 v33 v34 (wrap .i64 (v35+1)) aN aY bF bG bL bP)) else .stuck)) else (bif (Qz q (cvT l0) (q.rc (rd v33 v35.toNat)).c (q.rc (rd v33 v35.toNat)).d (z1j (q.l aN aY bF) (q.lo (rd v33 v35.toNat))) (z1i (q.l bG bL bP) (q.hi (rd v33 v35.toNat))) ((q.rc (rd v33 v35.toNat)).d == (q.w aY bF))) then (.to (.h1 q (wrap .i64 (v5+(v2r q (cvT l0) (q.rc (rd v33 v35.toNat)).c (q.rc (rd v33 v35.toNat)).d (z1j (q.l aN aY bF) (q.lo (rd v33 v35.toNat))) (z1i (q.l bG bL bP) (q.hi (rd v33 v35.toNat))) ((q.rc (rd v33 v35.toNat)).d == (q.w aY bF))))) v26 v33 v34 (wrap .i64 (v35+1)) aN aY bF bG bL bP)) else .stuck))) else (bif ((q.u bG bL) != (q.rc (rd v33 v35.toNat)).a) then (.to (.h1 q v5 v26 v33 v34 (wrap .i64 (v35+1)) aN aY bF bG bL bP)) else (bif ((q.w bL bP) != (q.rc (rd v33 v35.toNat)).b) then (bif ((q.rc (rd v33 v35.toNat)).d != (q.w aY bF)) then (.to (.h1 q v5 v26 v33 v34 (wrap .i64 (v35+1)) aN aY bF bG bL bP)) else (bif (Qz q (cvT l0) (q.u bG bL) (q.w aY bF) (z1j (q.l aN aY bF) (q.lo (rd v33 v35.toNat))) (z1i (q.l bG bL bP) (q.hi (rd v33 v35.toNat))) ((q.w bL bP) == (q.rc (rd v33 v35.toNat)).b)) then (.to (.h1 q (wrap .i64 (v5+(v2r q (cvT l0) (q.u bG bL) (q.w aY bF) (z1j (q.l aN aY bF) (q.lo (rd v33 v35.toNat))) (z1i (q.l bG bL bP) (q.hi (rd v33 v35.toNat))) ((q.w bL bP) == (q.rc (rd v33 v35.toNat)).b)))) v26 v33 v34 (wrap .i64 (v35+1)) aN aY bF bG bL bP)) else .stuck)) else (bif (Qz q (cvT l0) (q.u bG bL) (q.w bL bP) (z1j (q.l aN aY bF) (q.lo (rd v33 v35.toNat))) (z1i (q.l bG bL bP) (q.hi (rd v33 v35.toNat))) ((q.w bL bP) == (q.rc (rd v33 v35.toNat)).b)) then (.to (.h1 q (wrap .i64 (v5+(v2r q (cvT l0) (q.u bG bL) (q.w bL bP) (z1j (q.l aN aY bF) (q.lo (rd v33 v35.toNat))) (z1i (q.l bG bL bP) (q.hi (rd v33 v35.toNat))) ((q.w bL bP) == (q.rc (rd v33 v35.toNat)).b)))) v26 v33 v34 (wrap .i64 (v35+1)) aN aY bF bG bL bP)) else .stuck)))) else .stuck) else (.to (.h0 q v5 (wrap .i64 (v26+1)))))
def y2t (l0:List R6):Xv mpgS:=(bif (z2f (cvT l0)) then (bif ((Wx (cvT l0)) != 0) then (.ret [(.int .i64 0),(.int .i64 (Wx (cvT l0)))]) else (.to (.h0 .x 0 0))) else .stuck)
theorem j0o (l0:List R6) (v5:Int) (v26:Int) (k0:(decide (v26<(l0.length:Int)))=false):Ys prog (Zy prog 17) (x1a l0) (x1a l0 (.h0 .x v5 v26)) (mpgE .x v5):=(sl z5m 36 [] ⟨[1],[],v9i,v9j⟩ ⟨[],[],[]⟩ [false,true,true,false] (tt k0 nn))
theorem j0n (l0:List R6) (v5:Int) (v26:Int) (k0:(decide (v26<(l0.length:Int)))=false):Ys prog (Zy prog 17) (x1a l0) (x1a l0 (.h0 .y v5 v26)) (mpgE .y v5):=(sl z5m 36 [] ⟨[1],[],v9i,v9j⟩ ⟨[],[],[]⟩ [false,true,true,true,false] (tt k0 nn))
theorem j0m (l0:List R6) (v5:Int) (v26:Int) (k0:(decide (v26<(l0.length:Int)))=false):Ys prog (Zy prog 17) (x1a l0) (x1a l0 (.h0 .z v5 v26)) (mpgE .z v5):=(lr 125 3 [1,1,1,1,1,1,1,0] 1 15 [(2,(ii v5)),(3,(ii 0))] (sl z5m 26 [] ⟨[],[],[some [2,3]],[]⟩ ⟨[],[],[]⟩ [false,false] (tt k0 nn)))
theorem mpg_ex (q:Ax) (l0:List R6) (v5:Int) (v26:Int) (k0:(decide (v26<(l0.length:Int)))=false):Ys prog (Zy prog 17) (x1a l0) (x1a l0 (.h0 q v5 v26)) (mpgE q v5):=match q with
 | .x =>j0o l0 v5 v26 k0
 | .y =>j0n l0 v5 v26 k0
 | .z =>j0m l0 v5 v26 k0
theorem mpg_s0 (q:Ax) (l0:List R6) (v5:Int) (v26:Int):Ys prog (Zy prog 17) (x1a l0) (x1a l0 (.h0 q v5 v26)) (Wm l0 (.h0 q v5 v26)):=by cases q <;> refine (?f: ∀q:Ax,Ys prog (Zy prog 17) (x1a l0) (x1a l0 (.h0 q v5 v26)) (Wm l0 (.h0 q v5 v26))) _ <;> exact fun q=>(lb (fun k0=>(lo fun o0=>(lo fun o1=>(lo fun o2=>(lo fun o3=>(sl z5m 28 [] ⟨[0,1],[],x0y,x0z⟩ ⟨[(33,.list (Jx l0 0 (tn v26)).length (Zz (Jx l0 0 (tn v26))))],[],[]⟩ [true] (pp (xL (tn v26) (Jx l0 0 (tn v26)).length) (pp (xS (tn v26) (fun k=>(Zz l0) (0+k)) (Zz (Jx l0 0 (tn v26)))) (pp (pp (xw o3) (pp nn (pp (xG (decide ((tn v26)≤l0.length))) (pp (xG (decide (0≤(tn v26)))) (xG (lenR l0.length (Zz l0) 6)))))) (ww o0 (tt k0 nn))))))))))) (fun k0=>mpg_ex q l0 v5 v26 k0))
theorem mpg_s1 (q:Ax) (l0:List R6) (v5:Int) (v26:Int) (v33:List R6) (v34:Int) (v35:Int) (aN:Int) (aY:Int) (bF:Int) (bG:Int) (bL:Int) (bP:Int):Ys prog (Zy prog 17) (x1a l0) (x1a l0 (.h1 q v5 v26 v33 v34 v35 aN aY bF bG bL bP)) (Wm l0 (.h1 q v5 v26 v33 v34 v35 aN aY bF bG bL bP)):=by cases q <;> refine (?f: ∀q:Ax,Ys prog (Zy prog 17) (x1a l0) (x1a l0 (.h1 q v5 v26 v33 v34 v35 aN aY bF bG bL bP)) (Wm l0 (.h1 q v5 v26 v33 v34 v35 aN aY bF bG bL bP))) _ <;> exact fun q=>(lb (fun k0=>(lo fun aF=>(lb (fun k1=>(lb (fun k2=>(sl z5m 64 [] ⟨[0,1],[],x0y,x0z⟩ ⟨[],[],[]⟩ (trs 10 []) (tt k2 (tt k1 (ww aF (tt k0 nn)))))) (fun k2=>(lb (fun k3=>(lb (fun k4=>(sl z5m 64 [] ⟨[0,1],[],x0y,x0z⟩ ⟨[],[],[]⟩ [true,true,false,false,false,false,false,false,true,true,true,true,true,false,true] (tt k4 (tt k3 (tt k2 (tt k1 (ww aF (tt k0 nn)))))))) (fun k4=>(lo fun o0=>(sl z5m 87 [] ⟨[0,1],[],x0y,x0z⟩ ⟨[],[],[]⟩ [true,true,false,false,false,false,false,false,true,true,true,true,true,false,false,true] (pp (pp (pp nn (pp nn (pp nn (pp nn (pp nn (pp nn (pp nn nn))))))) (pp (xr l0) (xw o0))) (tt k3 (tt k4 (tt k3 (tt k2 (tt k1 (ww aF (tt k0 nn))))))))))))) (fun k3=>(lo fun o0=>(sl z5m 83 [] ⟨[0,1],[],x0y,x0z⟩ ⟨[],[],[]⟩ [true,true,false,false,false,false,false,false,false,false,false,false,false,false,false,false] (pp (pp (pp nn (pp nn (pp nn (pp nn (pp nn (pp nn (pp nn nn))))))) (pp (xr l0) (xw o0))) (tt k3 (tt k3 (tt k2 (tt k1 (ww aF (tt k0 nn)))))))))))))) (fun k1=>(lb (fun k2=>(sl z5m 59 [] ⟨[0,1],[],x0y,x0z⟩ ⟨[],[],[]⟩ [true,false,true,true,true,true,true,true,true,true] (tt k2 (tt k1 (ww aF (tt k0 nn)))))) (fun k2=>(lb (fun k3=>(lb (fun k4=>(sl z5m 59 [] ⟨[0,1],[],x0y,x0z⟩ ⟨[],[],[]⟩ [true,false,false,false,false,false,false,false,true,true,true,true,true,false,true] (tt k4 (tt k3 (tt k2 (tt k1 (ww aF (tt k0 nn)))))))) (fun k4=>(lo fun o0=>(sl z5m 82 [] ⟨[0,1],[],x0y,x0z⟩ ⟨[],[],[]⟩ [true,false,false,false,false,false,false,false,true,true,true,true,true,false,false,true] (pp (pp (pp nn (pp nn (pp nn (pp nn (pp nn (pp nn (pp nn nn))))))) (pp (xr l0) (xw o0))) (tt k3 (tt k4 (tt k3 (tt k2 (tt k1 (ww aF (tt k0 nn))))))))))))) (fun k3=>(lo fun o0=>(sl z5m 78 [] ⟨[0,1],[],x0y,x0z⟩ ⟨[],[],[]⟩ [true,false,false,false,false,false,false,false,false,false,false,false,false,false,false,false] (pp (pp (pp nn (pp nn (pp nn (pp nn (pp nn (pp nn (pp nn nn))))))) (pp (xr l0) (xw o0))) (tt k3 (tt k3 (tt k2 (tt k1 (ww aF (tt k0 nn))))))))))))))))) (fun k0=>(sl z5m 13 [] ⟨[0],[],v9i,v9j⟩ ⟨[],[],[]⟩ [false] (tt k0 nn))))
theorem w6i (l0:List R6): ∀s,Ys prog (Zy prog 17) (x1a l0) (x1a l0 s) (Wm l0 s)
 | .h0 q v5 v26=>mpg_s0 q l0 v5 v26
 | .h1 q v5 v26 v33 v34 v35 aN aY bF bG bL bP=>mpg_s1 q l0 v5 v26 v33 v34 v35 aN aY bF bG bL bP
theorem x8p (l0:List R6):Ys prog (Zy prog 17) (x1a l0) (Za prog 17 [(.dat l0.length (Zz l0))] true []) (y2t l0):=(lo fun bW=>(lb (fun k0=>(lr 125 17 [1,0,1,1,0,0] 1 15 [(2,(ii 0)),(3,(ii (Wx (cvT l0))))] (sl z5m 24 [] ⟨[],[],[some [2,3]],[]⟩ ⟨[],[],[]⟩ [true] (tt k0 (pp (pp (xr l0) (xw bW)) nn))))) (fun k0=>(sl z5m 67 [] ⟨[1],[],v9i,v9j⟩ ⟨[],[],[]⟩ [false,true,false] (tt k0 (pp (pp (xr l0) (xw bW)) nn))))))
theorem v9h (l0:List R6) (n:Nat) (vs:List AVal) (h:Zs (Wm l0) n (y2t l0)=.ret vs):Jw prog (Zy prog 17) (Za prog 17 [(.dat l0.length (Zz l0))] true []) vs:=by have:=Zc (w6i l0) n _ (x8p l0);rwa [h] at this
theorem w5b {l:List R6} (h:(Wx l != 0)=false):l.length≤400:=by
 refine A0 fun g=> ?_;have h:Wx l=0:=by simpa using h
 unfold Wx at h;rw [Ag (by omega)] at h;cases h
end Go.Am
end
