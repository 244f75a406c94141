/- A part of a proof: several texts in one. -/
import Derived.Test.YtmanggcjimaehaaGreatLh4
set_option maxRecDepth 1000000
set_option maxHeartbeats 8000000
set_option linter.unusedVariables false
set_option linter.unusedSimpArgs false
noncomputable section
namespace Go.Am
open IntKind (wrap)
open Go.Proofs.Tryz
open Go.Proofs
inductive rgjS where
 | h0 (v16:Int) (aA:List Int)
 | h1 (v16:Int) (aA:List Int)
 | h2 (v4:Int) (aF:List R4) (aR:List R2) (aY:Int) (aZ:Int) (aE:Nat) (aH:List Int)
 | h3 (v4:Int) (v38:Int) (aF:List R4) (aR:List R2) (aY:Int) (aZ:Int) (aE:Nat) (aH:List Int) (aQ:Int) (bA:Int) (aB:List R2)
 | h4 (v4:Int) (v38:Int) (aF:List R4) (aR:List R2) (aY:Int) (aZ:Int) (aE:Nat) (aH:List Int) (aQ:Int) (bA:Int) (aB:List R2) (aK:List R2)
 | h5 (v1:Int) (v2:Int) (v71:List R2) (v72:Int) (v73:Int) (aT:Int) (aD:List R4) (bC:Int) (aE:Nat) (aH:List Int) (aQ:List R2) (bA:List R2)
 | h6 (v2:Int) (v8:Int) (cJ:Int) (cK:List R2) (aT:Int) (aD:List R4) (bB:List R2) (bC:Int) (bS:Int) (bF:Nat) (bM:List Int) (aB:List R2) (aK:List R2)
def y4l (q:Op) (l0:List R4) (l1:List R4):AFr:=⟨⟨11,0,true⟩,(Uv prog (nRg q) [1,0] 2),(Zb prog (nRg q) [1,0] 1),none,(Zy prog 28),Yg [(6,(.dat l0.length (Zz l0))),(7,(.dat l1.length (Zz l1)))]⟩
abbrev y8k (aD:List R4) (v8:Int) (v2:Int):=(aD.set (0+(tn v8)) (R4.mk (rd aD (0+(tn v8))).a (rd aD (0+(tn v8))).b v2 (rd aD (0+(tn v8))).d))
def v1g :=(y7b [(0,⟨.ready,none,49,Yg [(5,(.ptr 1 0)),(6,(.ptr 2 0)),(7,(.ptr 3 0)),(9,(.ptr 4 0))],[23],(Vb prog 122 [1,1,1,0,1,0,0]),(Vb prog 122 [1,1,1,0,1,0,1])⟩)])
abbrev y8j (aA:List Int):=(Wc (Yu aA.length (cOf (Zz (Xc (Yu aA.length (cOf (Zz aA))))))))
def v1f :AFr:=⟨⟨49,0,true⟩,none,(.inRangeFunc 0::(Zb prog 122 [1,1,1,0,1,0] 1)),none,(Zy prog 122),Yg [(6,(.ptr 2 0)),(7,(.ptr 3 0)),(9,(.ptr 4 0))]⟩
def y4k (l0:List R4) (l1:List R4):ABlk:=⟨[(.dat l0.length (Zz l0)),(.dat l1.length (Zz l1))],100,none⟩
def u4t :AFr:=⟨⟨49,0,true⟩,(Uv prog 122 [1,1,1,0,0] 3),(Zb prog 122 [1,1,1,0,0] 1),none,(Zy prog 122),Yg [(5,(.ptr 3 0)),(6,(.ptr 4 0)),(7,(.ptr 5 0)),(9,(.ptr 6 0)),(21,(.sl 1 0 2 (.un 1)))]⟩
abbrev y8i (aB:List R2) (l0:List R4) (v38:Int):=(aB++[(R2.mk (rd l0 (tn v38)).b (rd l0 (tn v38)).d)])
abbrev y8h (aK:List R2) (l1:List R4) (v38:Int):=(aK++[(R2.mk (rd l1 (tn v38)).b (rd l1 (tn v38)).d)])
def y4j (q:Op):ABlk:=⟨[(.fn (nSp q) [])],151,none⟩
abbrev z9l (aD:List R4) (v1:Int) (v71:List R2) (v73:Int) (v2:Int):=(aD++[(R4.mk v1 (rd v71 (tn v73)).a v2 (rd v71 (tn v73)).b)])
abbrev z9k (aA:List Int) (l0:List R4) (v16:Int):=(aA++[(rd l0 (tn v16)).a,(rd l0 (tn v16)).c])
abbrev z9j (aA:List Int) (l1:List R4) (v16:Int):=(aA++[(rd l1 (tn v16)).a,(rd l1 (tn v16)).c])
def x0p :ABlk:=⟨[(.sl 8 0 2 (.un 1))],236,none⟩
def v1h :=(Zb prog 190 [1,0,0,1,0,0,1,0,1,0,0,1,1,0,0,1,1,0,0] 0)
def rgjC (q:Op) (l0:List R4) (l1:List R4):rgjS→Cfg
 | .h0 v16 aA=>⟨⟨34,0,true⟩,none,(Zb prog 161 [1,1,0,1,0,0,1,1,0,0,1,1,0,0] 0),none,(Zy prog 3),⟨Yg [(1,(.ptr 0 0)),(3,(.ptr 2 0)),(8,(.sl 1 0 2 (.un 1))),(9,(ii 2)),(10,(ii 0)),(14,(.dat l0.length (Zz l0))),(15,(ii (l0.length:Int))),(16,(ii v16))],Wh [⟨[(.sl 1 0 2 (.un 1))],236,none⟩,(y4k l0 l1),⟨[(.sla 7 1 0 aA.length (.un 1))],93,none⟩,(y4j q),⟨[.nils],100,none⟩,⟨[(ii 0)],26,none⟩,⟨[.nils,.nils,(ii 0),(ii 0)],200,none⟩,⟨Yx aA.length (Zz aA),3,some ⟨1,aA.length,(Zz aA)⟩⟩] 0,8,[],true⟩,[u4t,(y4l q l0 l1)],.leaf⟩
 | .h1 v16 aA=>⟨⟨34,0,true⟩,none,(Zb prog 161 [1,1,0,1,0,0,1,1,0,0,1,1,0,0] 0),none,(Zy prog 3),⟨Yg [(1,(.ptr 0 0)),(3,(.ptr 2 0)),(8,(.sl 1 0 2 (.un 1))),(9,(ii 2)),(10,(ii 1)),(14,(.dat l1.length (Zz l1))),(15,(ii (l1.length:Int))),(16,(ii v16))],Wh [⟨[(.sl 1 0 2 (.un 1))],236,none⟩,(y4k l0 l1),⟨[(.sla 7 1 0 aA.length (.un 1))],93,none⟩,(y4j q),⟨[.nils],100,none⟩,⟨[(ii 0)],26,none⟩,⟨[.nils,.nils,(ii 0),(ii 0)],200,none⟩,⟨Yx aA.length (Zz aA),3,some ⟨1,aA.length,(Zz aA)⟩⟩] 0,8,[],true⟩,[u4t,(y4l q l0 l1)],.leaf⟩
 | .h2 v4 aF aR aY aZ aE aH=>⟨⟨76,0,true⟩,none,(Zb prog 190 [1,0,0] 0),none,[],⟨Yg [(0,(.yld 0)),(1,(.ptr 5 0)),(2,(.ptr 7 0)),(4,(ii v4))],y1c [(1,(y4j q)),(2,⟨[.nils],100,none⟩),(3,⟨[(ii 0)],26,none⟩),(4,⟨[(.sla 9 4 0 aF.length (.un 4)),(.dat aR.length (Zz aR)),(ii aY),(ii aZ)],200,none⟩),(5,⟨[(.sla 6 1 0 aE (.un 1))],93,none⟩),(6,⟨Yx aH.length (Zz aH),3,some ⟨1,aH.length,(Zz aH)⟩⟩),(7,x0p),(8,(y4k l0 l1)),(9,⟨Yx aF.length (Zz aF),88,some ⟨4,aF.length,(Zz aF)⟩⟩)],10,[],true⟩,[v1f,(y4l q l0 l1)],v1g⟩
 | .h3 v4 v38 aF aR aY aZ aE aH aQ bA aB=>⟨⟨76,0,true⟩,none,v1h,none,[],⟨Yg [(0,(.yld 0)),(1,(.ptr 5 0)),(2,(.ptr 7 0)),(4,(ii v4)),(5,(.ptr 9 0)),(6,(ii 0)),(29,(.sl 8 0 2 (.un 1))),(30,(ii 2)),(31,(ii 0)),(36,(.dat l0.length (Zz l0))),(37,(ii (l0.length:Int))),(38,(ii v38))],y1c [(1,(y4j q)),(2,⟨[.nils],100,none⟩),(3,⟨[(ii 0)],26,none⟩),(4,⟨[(.sla 12 4 0 aF.length (.un 4)),(.dat aR.length (Zz aR)),(ii aY),(ii aZ)],200,none⟩),(5,⟨[(.sla 6 1 0 aE (.un 1))],93,none⟩),(6,⟨Yx aH.length (Zz aH),3,some ⟨1,aH.length,(Zz aH)⟩⟩),(7,x0p),(8,(y4k l0 l1)),(9,⟨[(ii aQ),(ii bA),(.sl 10 0 2 (.ex 2))],205,none⟩),(10,⟨[(.sla 11 2 0 aB.length (.un 2)),.nils],180,none⟩),(11,⟨Yx aB.length (Zz aB),183,some ⟨2,aB.length,(Zz aB)⟩⟩),(12,⟨Yx aF.length (Zz aF),88,some ⟨4,aF.length,(Zz aF)⟩⟩)],13,[],true⟩,[v1f,(y4l q l0 l1)],v1g⟩
 | .h4 v4 v38 aF aR aY aZ aE aH aQ bA aB aK=>⟨⟨76,0,true⟩,none,v1h,none,[],⟨Yg [(0,(.yld 0)),(1,(.ptr 5 0)),(2,(.ptr 7 0)),(4,(ii v4)),(5,(.ptr 9 0)),(6,(ii 1)),(29,(.sl 8 0 2 (.un 1))),(30,(ii 2)),(31,(ii 1)),(36,(.dat l1.length (Zz l1))),(37,(ii (l1.length:Int))),(38,(ii v38))],y1c [(1,(y4j q)),(2,⟨[.nils],100,none⟩),(3,⟨[(ii 0)],26,none⟩),(4,⟨[(.sla 13 4 0 aF.length (.un 4)),(.dat aR.length (Zz aR)),(ii aY),(ii aZ)],200,none⟩),(5,⟨[(.sla 6 1 0 aE (.un 1))],93,none⟩),(6,⟨Yx aH.length (Zz aH),3,some ⟨1,aH.length,(Zz aH)⟩⟩),(7,x0p),(8,(y4k l0 l1)),(9,⟨[(ii aQ),(ii bA),(.sl 10 0 2 (.ex 2))],205,none⟩),(10,⟨[(.sla 11 2 0 aB.length (.un 2)),(.sla 12 2 0 aK.length (.un 2))],180,none⟩),(11,⟨Yx aB.length (Zz aB),183,some ⟨2,aB.length,(Zz aB)⟩⟩),(12,⟨Yx aK.length (Zz aK),183,some ⟨2,aK.length,(Zz aK)⟩⟩),(13,⟨Yx aF.length (Zz aF),88,some ⟨4,aF.length,(Zz aF)⟩⟩)],14,[],true⟩,[v1f,(y4l q l0 l1)],v1g⟩
 | .h5 v1 v2 v71 v72 v73 aT aD bC aE aH aQ bA=>⟨⟨94,0,true⟩,none,(Zb prog 158 [1,1,1,0,0] 0),none,[],⟨Yg [(0,(.ptr 0 0)),(1,(ii v1)),(2,(ii v2)),(71,(.dat v71.length (Zz v71))),(72,(ii v72)),(73,(ii v73))],y1c [(0,⟨[(.sla 10 4 0 aD.length (.un 4)),(.dat v71.length (Zz v71)),(ii bC),(ii v2)],200,none⟩),(2,(y4j q)),(3,⟨[.nils],100,none⟩),(4,⟨[(ii 0)],26,none⟩),(5,⟨[(.sla 6 1 0 aE (.un 1))],93,none⟩),(6,⟨Yx aH.length (Zz aH),3,some ⟨1,aH.length,(Zz aH)⟩⟩),(7,x0p),(8,(y4k l0 l1)),(9,⟨[(.dat aQ.length (Zz aQ)),(.dat bA.length (Zz bA))],180,none⟩),(10,⟨Yx aD.length (Zz aD),88,some ⟨4,aD.length,(Zz aD)⟩⟩)],11,[],true⟩,[⟨⟨49,0,true⟩,(Uv prog 122 [1,1,1,0,1,0,1,0,1,1] 5),(Zb prog 122 [1,1,1,0,1,0,1,0,1,1] 1),(some 1),[],Yg [(9,(.ptr 0 0)),(41,(ii v1)),(43,(ii v2)),(44,(.dat v71.length (Zz v71)))]⟩,⟨⟨76,0,true⟩,(Uv prog 190 [1,0,0,1,0,0,1,1,0] 2),(Zb prog 190 [1,0,0,1,0,0,1,1,0] 1),none,[],Yg [(0,(.yld 1)),(1,(.ptr 5 0)),(2,(.ptr 7 0)),(4,(ii aT)),(72,(.yld 1)),(73,(.agg [(ii v1),(ii v2),(.sl 9 0 2 (.ex 2))]))]⟩,⟨⟨49,0,true⟩,none,(.inRangeFunc 1::(Zb prog 122 [1,1,1,0,1,0] 1)),none,(Zy prog 122),Yg [(6,(.ptr 3 0)),(7,(.ptr 4 0)),(9,(.ptr 0 0))]⟩,(y4l q l0 l1)],(y7b [(1,⟨.busy,none,49,Yg [(5,(.ptr 2 0)),(6,(.ptr 3 0)),(7,(.ptr 4 0)),(9,(.ptr 0 0))],[23],(Vb prog 122 [1,1,1,0,1,0,0]),(Vb prog 122 [1,1,1,0,1,0,1])⟩)])⟩
 | .h6 v2 v8 cJ cK aT aD bB bC bS bF bM aB aK=>⟨⟨94,0,true⟩,none,(Zb prog 158 [0,1,0,0,1,0,0] 0),none,[],⟨Yg [(0,(.ptr 0 0)),(2,(ii v2)),(8,(ii v8))],y1c [(0,⟨[(.sla 1 4 0 aD.length (.un 4)),(.dat bB.length (Zz bB)),(ii bC),(ii bS)],200,none⟩),(1,⟨Yx aD.length (Zz aD),88,some ⟨4,aD.length,(Zz aD)⟩⟩),(3,(y4j q)),(4,⟨[.nils],100,none⟩),(5,⟨[(ii 0)],26,none⟩),(6,⟨[(.sla 7 1 0 bF (.un 1))],93,none⟩),(7,⟨Yx bM.length (Zz bM),3,some ⟨1,bM.length,(Zz bM)⟩⟩),(8,⟨[(.sl 9 0 2 (.un 1))],236,none⟩),(9,(y4k l0 l1)),(10,⟨[(.dat aB.length (Zz aB)),(.dat aK.length (Zz aK))],180,none⟩)],11,[],true⟩,[⟨⟨49,0,true⟩,(Uv prog 122 [1,1,1,0,1,0,1,0,1,1] 5),(Zb prog 122 [1,1,1,0,1,0,1,0,1,1] 1),(some 2),[],Yg [(9,(.ptr 0 0)),(41,(ii cJ)),(43,(ii v2)),(44,(.dat cK.length (Zz cK)))]⟩,⟨⟨76,0,true⟩,(Uv prog 190 [1,0,0,1,0,0,1,1,0] 2),(Zb prog 190 [1,0,0,1,0,0,1,1,0] 1),none,[],Yg [(0,(.yld 2)),(1,(.ptr 6 0)),(2,(.ptr 8 0)),(4,(ii aT)),(72,(.yld 2)),(73,(.agg [(ii cJ),(ii v2),(.sl 10 0 2 (.ex 2))]))]⟩,⟨⟨49,0,true⟩,none,(.inRangeFunc 2::(Zb prog 122 [1,1,1,0,1,0] 1)),none,(Zy prog 122),Yg [(6,(.ptr 4 0)),(7,(.ptr 5 0)),(9,(.ptr 0 0))]⟩,(y4l q l0 l1)],(y7b [(2,⟨.busy,none,49,Yg [(5,(.ptr 3 0)),(6,(.ptr 4 0)),(7,(.ptr 5 0)),(9,(.ptr 0 0))],[23],(Vb prog 122 [1,1,1,0,1,0,0]),(Vb prog 122 [1,1,1,0,1,0,1])⟩)])⟩
def rgjN0 :List (Option (List Nat)):=[some [1,3,8,9,10,14,15,16],some [5,6,7,9,21],some [6,7]]
def rgjM0 :List (Option (List Nat)):=[]
def rgjN1 :List (Option (List Nat)):=[some [1,3,8,9,10,14,15,16],some [5,6,7,9,21],some [6,7]]
def rgjM1 :List (Option (List Nat)):=[]
def j0c :List (Option (List Nat)):=[some [0,1,2,4],some [6,7,9],some [6,7]]
def j0d :List (Option (List Nat)):=[some [5,6,7,9],none,none,none,none,none,none,none,none,none]
def v8l :List (Option (List Nat)):=[some [0,1,2,4,5,6,29,30,31,36,37,38],some [6,7,9],some [6,7]]
def v8o :List (Option (List Nat)):=[some [5,6,7,9],none,none,none,none,none,none,none,none,none,none,none,none]
def v8k :List (Option (List Nat)):=[some [0,1,2,4,5,6,29,30,31,36,37,38],some [6,7,9],some [6,7]]
def v8n :List (Option (List Nat)):=[some [5,6,7,9],none,none,none,none,none,none,none,none,none,none,none,none,none]
def v8j :List (Option (List Nat)):=[some [0,1,2,71,72,73],some [9,41,43,44],some [0,1,2,4,72,73],some [6,7,9],some [6,7]]
def v8m :List (Option (List Nat)):=[none,some [5,6,7,9],none,none,none,none,none,none,none,none,none]
def rgjN6 :List (Option (List Nat)):=[some [0,2,8],some [9,41,43,44],some [0,1,2,4,72,73],some [6,7,9],some [6,7]]
def rgjM6 :List (Option (List Nat)):=[none,none,some [5,6,7,9],none,none,none,none,none,none,none,none]
def Yh (q:Op) (l0:List R4) (l1:List R4):rgjS→Xv rgjS
 | .h0 v16 aA=>(bif (decide (v16<(l0.length:Int))) then (bif ((decide (0≤v16∧v16<(l0.length:Int)))&&true) then (bif (Nat.beq 1 1&&((decide (0+aA.length=aA.length))&&decide ((aA.length+2+1)*(8+1)≤Uw))) then (.to (.h0 (wrap .i64 (v16+1)) (aA++[(rd l0 v16.toNat).a,(rd l0 v16.toNat).c]))) else .stuck) else .stuck) else (.to (.h1 0 aA)))
 | .h1 v16 aA=>(bif (decide (v16<(l1.length:Int))) then (bif ((decide (0≤v16∧v16<(l1.length:Int)))&&true) then (bif (Nat.beq 1 1&&((decide (0+aA.length=aA.length))&&decide ((aA.length+2+1)*(8+1)≤Uw))) then (.to (.h1 (wrap .i64 (v16+1)) (aA++[(rd l1 v16.toNat).a,(rd l1 v16.toNat).c]))) else .stuck) else .stuck) else (bif (decide (aA.length<4611686018427387904)) then (bif (decide (aA.length=aA.length)) then (.to (.h2 1 ([]:List R4) ([]:List R2) 0 0 (w8v (Yu aA.length (cOf (Zz (Xc (Yu aA.length (cOf (Zz aA)))))))) (Wc (Yu aA.length (cOf (Zz (Xc (Yu aA.length (cOf (Zz aA)))))))))) else .stuck) else .stuck))
 | .h2 v4 aF aR aY aZ aE aH=>(bif (decide (v4<((aE:Nat):Int))) then (bif ((decide (0≤(wrap .i64 (v4 - 1))∧(wrap .i64 (v4 - 1))<((aE:Nat):Int)))&&true) then (bif (decide ((0+(Int.toNat (wrap .i64 (v4 - 1))))<aH.length)) then (bif ((decide (0≤v4∧v4<((aE:Nat):Int)))&&true) then (bif (decide ((0+v4.toNat)<aH.length)) then (.to (.h3 v4 0 aF aR aY aZ aE aH (rd aH (0+(Int.toNat (wrap .i64 (v4 - 1))))) (rd aH (0+v4.toNat)) ([]:List R2))) else .stuck) else .stuck) else .stuck) else .stuck) else (bif (decide ((aF.length:Int)>400)) then (.ret [.nils,(.int .i64 4)]) else (.ret [(.dat aF.length (Zz aF)),(.int .i64 0)])))
 | .h3 v4 v38 aF aR aY aZ aE aH aQ bA aB=>(bif (decide (v38<(l0.length:Int))) then (bif ((decide (0≤v38∧v38<(l0.length:Int)))&&true) then (bif (decide ((rd l0 v38.toNat).a ≤aQ)) then (bif (decide (aQ<(rd l0 v38.toNat).c)) then (bif (Nat.beq 2 2&&((decide (0+aB.length=aB.length))&&decide ((aB.length+1+1)*(16+1)≤Uw))) then (.to (.h3 v4 (wrap .i64 (v38+1)) aF aR aY aZ aE aH aQ bA (aB++[(R2.mk (rd l0 v38.toNat).b (rd l0 v38.toNat).d)]))) else .stuck) else (.to (.h3 v4 (wrap .i64 (v38+1)) aF aR aY aZ aE aH aQ bA aB))) else (.to (.h3 v4 (wrap .i64 (v38+1)) aF aR aY aZ aE aH aQ bA aB))) else .stuck) else (.to (.h4 v4 0 aF aR aY aZ aE aH aQ bA aB ([]:List R2))))
 | .h4 v4 v38 aF aR aY aZ aE aH aQ bA aB aK=>(bif (decide (v38<(l1.length:Int))) then (bif ((decide (0≤v38∧v38<(l1.length:Int)))&&true) then (bif (decide ((rd l1 v38.toNat).a ≤aQ)) then (bif (decide (aQ<(rd l1 v38.toNat).c)) then (bif (Nat.beq 2 2&&((decide (0+aK.length=aK.length))&&decide ((aK.length+1+1)*(16+1)≤Uw))) then (.to (.h4 v4 (wrap .i64 (v38+1)) aF aR aY aZ aE aH aQ bA aB (aK++[(R2.mk (rd l1 v38.toNat).b (rd l1 v38.toNat).d)]))) else .stuck) else (.to (.h4 v4 (wrap .i64 (v38+1)) aF aR aY aZ aE aH aQ bA aB aK))) else (.to (.h4 v4 (wrap .i64 (v38+1)) aF aR aY aZ aE aH aQ bA aB aK))) else .stuck) else (bif ((x0d q) (cvT aB) (cvT aK)) then (bif (((w4u q) (cvT aB) (cvT aK)) != 0) then (.ret [.nils,(.int .i64 ((w4u q) (cvT aB) (cvT aK)))]) else (bif (decide (((((z3y q) (cvT aB) (cvT aK)).length :Nat):Int)>0)) then (bif (aZ == aQ) then (bif (Vm (cvT aR) (cvT ((z3y q) (cvT aB) (cvT aK)))) then (bif (Kc (cvT aR) (cvT ((z3y q) (cvT aB) (cvT aK)))) then (.to (.h6 bA aY aQ ((z3y q) (cvT aB) (cvT aK)) v4 aF aR aY aZ aE aH aB aK)) else (.to (.h5 aQ bA ((z3y q) (cvT aB) (cvT aK)) ((((z3y q) (cvT aB) (cvT aK)).length :Nat):Int) 0 v4 aF (aF.length:Int) aE aH aB aK))) else .stuck) else (.to (.h5 aQ bA ((z3y q) (cvT aB) (cvT aK)) ((((z3y q) (cvT aB) (cvT aK)).length :Nat):Int) 0 v4 aF (aF.length:Int) aE aH aB aK))) else (.to (.h5 aQ bA ((z3y q) (cvT aB) (cvT aK)) ((((z3y q) (cvT aB) (cvT aK)).length :Nat):Int) 0 v4 aF (aF.length:Int) aE aH aB aK)))) else .stuck))
 | .h5 v1 v2 v71 v72 v73 aT aD bC aE aH aQ bA=>(bif (decide (v73<v72)) then (bif ((decide (0≤v73∧v73<(v71.length:Int)))&&true) then (bif (Nat.beq 4 4&&((decide (0+aD.length=aD.length))&&decide ((aD.length+1+1)*(32+1)≤Uw))) then (.to (.h5 v1 v2 v71 v72 (wrap .i64 (v73+1)) aT (aD++[(R4.mk v1 (rd v71 v73.toNat).a v2 (rd v71 v73.toNat).b)]) bC aE aH aQ bA)) else .stuck) else .stuck) else (.to (.h2 (wrap .i64 (aT+1)) aD v71 bC v2 aE aH)))
 | .h6 v2 v8 cJ cK aT aD bB bC bS bF bM aB aK=>(bif (decide (v8<(aD.length:Int))) then (bif ((decide (0≤v8∧v8<(aD.length:Int)))&&true) then (bif (decide ((0+v8.toNat)<aD.length)) then (.to (.h6 v2 (wrap .i64 (v8+1)) cJ cK aT (aD.set (0+v8.toNat) (R4.mk (rd aD (0+v8.toNat)).a (rd aD (0+v8.toNat)).b v2 (rd aD (0+v8.toNat)).d)) bB bC bS bF bM aB aK)) else .stuck) else .stuck) else (.to (.h2 (wrap .i64 (aT+1)) aD bB bC v2 bF bM)))
def y2x (q:Op) (l0:List R4) (l1:List R4):Xv rgjS:=(bif (z4i (cvT l0)) then (bif ((y6s (cvT l0)) != 0) then (.ret [.nils,(.int .i64 (y6s (cvT l0)))]) else (bif (z4i (cvT l1)) then (bif ((y6s (cvT l1)) != 0) then (.ret [.nils,(.int .i64 (y6s (cvT l1)))]) else (.to (.h0 0 ([]:List Int)))) else .stuck)) else .stuck)
theorem w5z (q:Op) (l0:List R4) (l1:List R4): ∀s,Yt prog (Zy prog (nRg q)) (rgjC q l0 l1) (rgjC q l0 l1 s) (Yh q l0 l1 s):=by cases q <;> refine (?f: ∀q:Op,∀s,Yt prog (Zy prog (nRg q)) (rgjC q l0 l1) (rgjC q l0 l1 s) (Yh q l0 l1 s)) _ <;> exact fun q=>fun
 | .h0 v16 aA=>(lb (fun k0=>(lo fun o0=>(lo fun o1=>(sl Kg 32 [] ⟨[0,1,2,3,4,5,6,10],[],rgjN0,rgjM0⟩ ⟨[],[.keep,.keep,.cells [.len (z9k aA l0 v16).length],.keep,.keep,.keep,.keep,.rowed 1 (z9k aA l0 v16).length (Zz (z9k aA l0 v16))],[]⟩ [true] (pp (xL (aA.length+2) (z9k aA l0 v16).length) (pp (xL (aA.length+2) (z9k aA l0 v16).length) (pp (xS (aA.length+2) (Ze (Zz aA) 0 aA.length 1 [(ii (rd l0 (tn v16)).a),(ii (rd l0 (tn v16)).c)]) (Zz (z9k aA l0 v16))) (pp (pp (xF (Ze (Zz aA) 0 aA.length 1 [(ii (rd l0 (tn v16)).a),(ii (rd l0 (tn v16)).c)])) nn) (ww o1 (ww o0 (tt k0 nn))))))))))) (fun k0=>(sl Kg 36 [] ⟨(List.range 8),[],rgjN1,rgjM1⟩ ⟨[],[],[]⟩ (bl 2 2) (pp (fl aA nn) (tt k0 nn)))))
 | .h1 v16 aA=>(lb (fun k0=>(lo fun o0=>(lo fun o1=>(sl Kg 32 [] ⟨[0,1,2,3,4,5,6,10],[],rgjN1,rgjM1⟩ ⟨[],[.keep,.keep,.cells [.len (z9j aA l1 v16).length],.keep,.keep,.keep,.keep,.rowed 1 (z9j aA l1 v16).length (Zz (z9j aA l1 v16))],[]⟩ [true] (pp (xL (aA.length+2) (z9j aA l1 v16).length) (pp (xL (aA.length+2) (z9j aA l1 v16).length) (pp (xS (aA.length+2) (Ze (Zz aA) 0 aA.length 1 [(ii (rd l1 (tn v16)).a),(ii (rd l1 (tn v16)).c)]) (Zz (z9j aA l1 v16))) (pp (pp (xF (Ze (Zz aA) 0 aA.length 1 [(ii (rd l1 (tn v16)).a),(ii (rd l1 (tn v16)).c)])) nn) (ww o1 (ww o0 (tt k0 nn))))))))))) (fun k0=>(lo fun o0=>(lo fun o1=>(sl Kg 46 [(88,4,Zz ([]:List R4))] ⟨[8,3,4,5,6,2,7,0,1,9],[],j0c,j0d⟩ ⟨[],(kpB 4 [.cells [.grow 9 4,.list 0 (Zz ([]:List R2)),.keep,.keep],.keep,.rowed 1 (y8j aA).length (Zz (y8j aA)),.keep,.keep,.keep]),[]⟩ (bl 2 0) (pp (xL aA.length (y8j aA).length (by first | exact z2e _ _ | exact Va rfl)) (pp (xS aA.length (Zz (y8j aA)) (Zz (y8j aA))) (pp (fl (y8j aA) (fl ([]:List R4) nn)) (pp (pp (xG (Nat.beq 1 1)) (pp (xG (Nat.beq 1 1)) (pp (xG (Nat.beq 0 0)) (pp (xG (decide (aA.length=aA.length))) (pp (xG (isI (Zz (Xc (Yu aA.length (cOf (Zz aA))))))) (xG (decide (aA.length<4611686018427387904)))))))) (pp (pp (xG (Nat.beq 1 1)) (pp (xG (Nat.beq 1 1)) (pp (xG (Nat.beq 0 0)) (pp (xG (decide (aA.length=aA.length))) (pp (xG (isI (Zz aA))) (xG (decide (aA.length<4611686018427387904)))))))) (tt k0 nn)))))))))))
 | .h2 v4 aF aR aY aZ aE aH=>(lb (fun k0=>(lo fun o0=>(lo fun o1=>(lo fun o2=>(lo fun o3=>(sl Kg 48 [(183,2,Zz ([]:List R2))] ⟨[0,1,2,3,4,5,6,7,8,10,11,12,9],[],v8l,v8o⟩ ⟨[],(kpB 10 [.cells [.grow 11 2,.keep],.keep,.keep]),[]⟩ (trs 3 []) (pp (fl aH (fl ([]:List R2) (fl aF nn))) (ww o3 (ww o2 (ww o1 (ww o0 (tt k0 nn)))))))))))) (fun k0=>(lb (fun k1=>(lr 11 3 [1,1,1,1,1,1,1,0] 1 28 [(4,.nils),(5,(ii 4))] (sl Kg 49 [] ⟨[],[],[some [4,5]],[]⟩ ⟨[],[],[]⟩ (bl 2 2) (tt k1 (tt k0 nn))))) (fun k1=>(lr 11 3 [1,1,1,1,1,1,1,0] 1 28 [(4,(.dat aF.length (Zz aF))),(5,(ii 0))] (sl Kg 54 [] ⟨[],[9],[some [4,5]],[]⟩ ⟨[(4,.frz aF.length aF.length (Zz aF) (Zz aF))],[],[]⟩ (bl 2 0) (pp (xZ (z1p 4 4 0 aF.length aF.length (Zz aF)) aF.length (Zz aF)) (pp (xL aF.length aF.length) (pp (xS aF.length (Zz aF) (Zz aF)) (pp (fl aF nn) (tt k1 (tt k0 nn))))))))))))
 | .h3 v4 v38 aF aR aY aZ aE aH aQ bA aB=>(lb (fun k0=>(lo fun aG=>(lb (fun k1=>(lb (fun k2=>(lo fun o0=>(sl Kg 39 [] ⟨[0,1,2,3,4,5,6,7,8,9,10,15,12],[],v8l,v8o⟩ ⟨[],(kpB 10 [.cells [.len (y8i aB l0 v38).length,.keep],.rowed 2 (y8i aB l0 v38).length (Zz (y8i aB l0 v38)),.keep]),[]⟩ (trs 7 []) (pp (xL (aB.length+1) (y8i aB l0 v38).length) (pp (xL (aB.length+1) (y8i aB l0 v38).length) (pp (xS (aB.length+1) (Ze (Zz aB) 0 aB.length 2 [(ii (rd l0 (tn v38)).b),(ii (rd l0 (tn v38)).d)]) (Zz (y8i aB l0 v38))) (pp (fl aH (pp (xF (Ze (Zz aB) 0 aB.length 2 [(ii (rd l0 (tn v38)).b),(ii (rd l0 (tn v38)).d)])) (fl aF nn))) (ww o0 (tt k2 (tt k1 (ww aG (tt k0 nn)))))))))))) (fun k2=>(sl Kg 39 [] ⟨(List.range 13),[],v8l,v8o⟩ ⟨[],[],[]⟩ (trs 6 [false]) (pp (fl aH (fl aB (fl aF nn))) (tt k2 (tt k1 (ww aG (tt k0 nn))))))))) (fun k1=>(sl Kg 39 [] ⟨(List.range 13),[],v8l,v8o⟩ ⟨[],[],[]⟩ (bl 7 1) (pp (fl aH (fl aB (fl aF nn))) (tt k1 (ww aG (tt k0 nn))))))))) (fun k0=>(sl Kg 38 [(183,2,Zz ([]:List R2))] ⟨[0,1,2,3,4,5,6,7,8,9,10,11,13,12],[],v8k,v8n⟩ ⟨[],(kpB 10 [.cells [.keep,.grow 12 2],.keep,.keep,.keep]),[]⟩ (bl 2 2) (pp (fl aH (fl aB (fl ([]:List R2) (fl aF nn)))) (tt k0 nn)))))
 | .h4 v4 v38 aF aR aY aZ aE aH aQ bA aB aK=>(lb (fun k0=>(lo fun aG=>(lb (fun k1=>(lb (fun k2=>(lo fun o0=>(sl Kg 39 [] ⟨[0,1,2,3,4,5,6,7,8,9,10,11,16,13],[],v8k,v8n⟩ ⟨[],(kpB 10 [.cells [.keep,.len (y8h aK l1 v38).length],.keep,.rowed 2 (y8h aK l1 v38).length (Zz (y8h aK l1 v38)),.keep]),[]⟩ (trs 7 []) (pp (xL (aK.length+1) (y8h aK l1 v38).length) (pp (xL (aK.length+1) (y8h aK l1 v38).length) (pp (xS (aK.length+1) (Ze (Zz aK) 0 aK.length 2 [(ii (rd l1 (tn v38)).b),(ii (rd l1 (tn v38)).d)]) (Zz (y8h aK l1 v38))) (pp (fl aH (fl aB (pp (xF (Ze (Zz aK) 0 aK.length 2 [(ii (rd l1 (tn v38)).b),(ii (rd l1 (tn v38)).d)])) (fl aF nn)))) (ww o0 (tt k2 (tt k1 (ww aG (tt k0 nn)))))))))))) (fun k2=>(sl Kg 39 [] ⟨(List.range 14),[],v8k,v8n⟩ ⟨[],[],[]⟩ (trs 6 [false]) (pp (fl aH (fl aB (fl aK (fl aF nn)))) (tt k2 (tt k1 (ww aG (tt k0 nn))))))))) (fun k1=>(sl Kg 39 [] ⟨(List.range 14),[],v8k,v8n⟩ ⟨[],[],[]⟩ (bl 7 1) (pp (fl aH (fl aB (fl aK (fl aF nn)))) (tt k1 (ww aG (tt k0 nn))))))))) (fun k0=>(Xb (sl Kg (C':=⟨⟨49,0,true⟩,none,(Zb prog 122 [1,1,1,0,1,0,1,0,0] 0),(some 0),[],⟨Yg [(5,(.ptr 1 0)),(6,(.ptr 2 0)),(7,(.ptr 3 0)),(9,(.ptr 4 0)),(10,(.ptr 6 0))],y1c [(1,⟨[(.fn (nSp q) [])],151,none⟩),(2,⟨[.nils],100,none⟩),(3,⟨[(ii 0)],26,none⟩),(4,⟨[(.sla 5 4 0 aF.length (.un 4)),(.dat aR.length (Zz aR)),(ii aY),(ii aZ)],200,none⟩),(5,⟨Yx aF.length (Zz aF),88,some ⟨4,aF.length,(Zz aF)⟩⟩),(6,⟨[(ii aQ),(ii bA),(.sl 7 0 2 (.ex 2))],205,none⟩),(7,⟨[(.dat aB.length (Zz aB)),(.dat aK.length (Zz aK))],180,none⟩),(8,⟨[(.sla 9 1 0 aE (.un 1))],93,none⟩),(9,⟨Yx aH.length (Zz aH),3,some ⟨1,aH.length,(Zz aH)⟩⟩),(10,⟨[(.sl 11 0 2 (.un 1))],236,none⟩),(11,⟨[(.dat l0.length (Zz l0)),(.dat l1.length (Zz l1))],100,none⟩)],12,[],true⟩,[⟨⟨76,0,true⟩,(Uv prog 190 [1,0,0,1,0,0,1,1,0] 2),(Zb prog 190 [1,0,0,1,0,0,1,1,0] 1),none,[],Yg [(0,(.yld 0)),(1,(.ptr 8 0)),(2,(.ptr 10 0)),(4,(ii v4)),(72,(.yld 0)),(73,(.agg [(ii aQ),(ii bA),(.sl 7 0 2 (.ex 2))]))]⟩,⟨⟨49,0,true⟩,none,(.inRangeFunc 0::(Zb prog 122 [1,1,1,0,1,0] 1)),none,(Zy prog 122),Yg [(6,(.ptr 2 0)),(7,(.ptr 3 0)),(9,(.ptr 4 0))]⟩,⟨⟨11,0,true⟩,(Uv prog (nRg q) [1,0] 2),(Zb prog (nRg q) [1,0] 1),none,(Zy prog 28),Yg [(6,(.dat l0.length (Zz l0))),(7,(.dat l1.length (Zz l1)))]⟩],(y7b [(0,⟨.busy,none,49,Yg [(5,(.ptr 1 0)),(6,(.ptr 2 0)),(7,(.ptr 3 0)),(9,(.ptr 4 0))],[23],(Vb prog 122 [1,1,1,0,1,0,0]),(Vb prog 122 [1,1,1,0,1,0,1])⟩)])⟩) 32 [] ⟨[0,1,2,3,4,13,14,10,5,6,7,8],[11,12],[some [5,6,7,9,10],some [0,1,2,4,72,73],some [6,7,9],some [6,7]],[some [5,6,7,9],none,none,none,none,none,none,none,none,none,none,none]⟩ ⟨[],[.keep,.keep,.keep,.keep,.keep,.keep,.keep,.cells [.frz aB.length aB.length (Zz aB) (Zz aB),.frz aK.length aK.length (Zz aK) (Zz aK)],.keep,.keep,.keep,.keep],[]⟩ (bl 2 0) (pp (xZ (z1p 2 2 0 aB.length aB.length (Zz aB)) aB.length (Zz aB)) (pp (xL aB.length aB.length) (pp (xS aB.length (Zz aB) (Zz aB)) (pp (xZ (z1p 2 2 0 aK.length aK.length (Zz aK)) aK.length (Zz aK)) (pp (xL aK.length aK.length) (pp (xS aK.length (Zz aK) (Zz aK)) (pp (fl aF (fl aH nn)) (pp (fl aB (fl aK nn)) (tt k0 nn)))))))))) (lo fun aG=>(lb (fun k1=>(lr 11 3 [1,1,1,1,1,1,1,0] 1 28 [(4,.nils),(5,(ii ((w4u q) (cvT aB) (cvT aK))))] (sl Kg 26 [] ⟨[],[],[some [4,5]],[]⟩ ⟨[],[],[]⟩ (bl 2 3) (tt k1 (pp (pp (xr aB) (pp (xr aK) (xw aG))) nn))))) (fun k1=>(lb (fun k2=>(lb (fun k3=>(lo fun bX=>(lb (fun k4=>(sl Kg 51 [] ⟨[4,5,0,1,2,3,8,9,10,11,7],[],rgjN6,rgjM6⟩ ⟨[],[],[]⟩ (bl 14 16382) (pp (fl aF (fl aH nn)) (tt k4 (pp (pp (xr aR) (pp (xI R2 ((z3y q) (cvT aB) (cvT aK)).length (Zz ((z3y q) (cvT aB) (cvT aK)))) (xw bX))) (tt k3 (tt k2 (tt k1 (pp (pp (xr aB) (pp (xr aK) (xw aG))) nn))))))))) (fun k4=>(sl Kg 71 [] ⟨[4,0,1,2,3,8,9,10,11,7,5],[],v8j,v8m⟩ ⟨[],[],[]⟩ (bl 14 8190) (pp (fl aH (fl aF nn)) (tt k4 (pp (pp (xr aR) (pp (xI R2 ((z3y q) (cvT aB) (cvT aK)).length (Zz ((z3y q) (cvT aB) (cvT aK)))) (xw bX))) (tt k3 (tt k2 (tt k1 (pp (pp (xr aB) (pp (xr aK) (xw aG))) nn)))))))))))) (fun k3=>(sl Kg 71 [] ⟨[4,0,1,2,3,8,9,10,11,7,5],[],v8j,v8m⟩ ⟨[],[],[]⟩ (bl 14 126) (pp (fl aH (fl aF nn)) (tt k3 (tt k2 (tt k1 (pp (pp (xr aB) (pp (xr aK) (xw aG))) nn))))))))) (fun k2=>(sl Kg 71 [] ⟨[4,0,1,2,3,8,9,10,11,7,5],[],v8j,v8m⟩ ⟨[],[],[]⟩ (bl 14 0) (pp (fl aH (fl aF nn)) (tt k2 (tt k1 (pp (pp (xr aB) (pp (xr aK) (xw aG))) nn)))))))))))))
 | .h5 v1 v2 v71 v72 v73 aT aD bC aE aH aQ bA=>(lb (fun k0=>(lo fun o0=>(lo fun o1=>(sl Kg 23 [] ⟨[0,1,2,3,4,5,6,7,8,9,13],[],v8j,v8m⟩ ⟨[],[.cells [.len (z9l aD v1 v71 v73 v2).length,.keep,.keep,.keep],.keep,.keep,.keep,.keep,.keep,.keep,.keep,.keep,.keep,.rowed 4 (z9l aD v1 v71 v73 v2).length (Zz (z9l aD v1 v71 v73 v2))],[]⟩ [true] (pp (xL (aD.length+1) (z9l aD v1 v71 v73 v2).length) (pp (xL (aD.length+1) (z9l aD v1 v71 v73 v2).length) (pp (xS (aD.length+1) (Ze (Zz aD) 0 aD.length 4 [(ii v1),(ii (rd v71 (tn v73)).a),(ii v2),(ii (rd v71 (tn v73)).b)]) (Zz (z9l aD v1 v71 v73 v2))) (pp (fl aH (pp (xF (Ze (Zz aD) 0 aD.length 4 [(ii v1),(ii (rd v71 (tn v73)).a),(ii v2),(ii (rd v71 (tn v73)).b)])) nn)) (ww o1 (ww o0 (tt k0 nn))))))))))) (fun k0=>(sl Kg 22 [] ⟨[1,2,3,4,0,5,6,7,8,10],[],j0c,j0d⟩ ⟨[],[],[]⟩ (bl 2 0) (pp (fl aH (fl aD nn)) (tt k0 nn)))))
 | .h6 v2 v8 cJ cK aT aD bB bC bS bF bM aB aK=>(lb (fun k0=>(lo fun o0=>(lo fun o1=>(sl Kg 33 [] ⟨(List.range 11),[],rgjN6,rgjM6⟩ ⟨[],[.cells [.len (y8k aD v8 v2).length,.keep,.keep,.keep],.rowed 4 (y8k aD v8 v2).length (Zz (y8k aD v8 v2)),.keep,.keep,.keep,.keep,.keep,.keep,.keep,.keep,.keep],[]⟩ [true] (pp (xL aD.length (y8k aD v8 v2).length) (pp (xL aD.length (y8k aD v8 v2).length) (pp (xS aD.length (Xo (Zz aD) (0+(tn v8)) 2 [(ii v2)]) (Zz (y8k aD v8 v2))) (pp (pp (xF (Xo (Zz aD) (0+(tn v8)) 2 [(ii v2)])) (fl bM nn)) (ww o1 (ww o0 (tt k0 nn))))))))))) (fun k0=>(sl Kg 36 [] ⟨[2,3,4,5,0,6,7,8,9,1],[],j0c,j0d⟩ ⟨[],[],[]⟩ (bl 2 0) (pp (fl bM (fl aD nn)) (tt k0 nn)))))
theorem x7t (q:Op) (l0:List R4) (l1:List R4):Yt prog (Zy prog (nRg q)) (rgjC q l0 l1) (Za prog (nRg q) [(.dat l0.length (Zz l0)),(.dat l1.length (Zz l1))] true []) (y2x q l0 l1):=by cases q <;> exact (lo fun bZ=>(lb (fun k0=>(lr 11 3 [1,1,1,1,1,1,1,0] 1 28 [(4,.nils),(5,(ii (y6s (cvT l0))))] (sl Kg 65 [] ⟨[],[],[some [4,5]],[]⟩ ⟨[],[],[]⟩ [true,true] (tt k0 (tt k0 (pp (pp (xr l0) (xw bZ)) nn)))))) (fun k0=>(lo fun aG=>(lb (fun k1=>(lr 11 3 [1,1,1,1,1,1,1,0] 1 28 [(4,.nils),(5,(ii (y6s (cvT l1))))] (sl Kg 67 [] ⟨[],[],[some [4,5]],[]⟩ ⟨[],[],[]⟩ [false,true] (tt k1 (pp (pp (xr l1) (xw aG)) (tt k0 (pp (pp (xr l0) (xw bZ)) nn))))))) (fun k1=>(sl Kg 108 [(3,1,Zz ([]:List Int))] ⟨[5,4,6,0,1,2,3,7],[],rgjN0,rgjM0⟩ ⟨[],[.keep,.keep,.cells [.grow 7 1],.keep,.keep,.keep,.keep,.keep],[]⟩ [false,false,true] (pp (fl ([]:List Int) nn) (tt k1 (pp (pp (xr l1) (xw aG)) (tt k0 (pp (pp (xr l0) (xw bZ)) nn))))))))))))
theorem v8i (q:Op) (l0:List R4) (l1:List R4) (n:Nat) (vs:List AVal) (h:Zs (Yh q l0 l1) n (y2x q l0 l1)=.ret vs):Jy prog (Zy prog (nRg q)) (Za prog (nRg q) [(.dat l0.length (Zz l0)),(.dat l1.length (Zz l1))] true []) vs:=by have:=Zd (w5z q l0 l1) n _ (x7t q l0 l1);rwa [h] at this
open Go.Sort Go.Shelf Go.RowKit Go.Lib
def w8t (E:Int→Int) (cs:List Int):Nat→Nat→Int
 | 0,_=>0
 | k+1,i=>bif E (rd cs i) != 0 then E (rd cs i) else w8t E cs k (i+1)
def eJ (e:Int) (n:Nat):Int:=bif e != 0 then e else y9s n
theorem v8u {α:Type} [Ys α] (L:List α):y1a (eJ 0 L.length) L=Qx L:=(z8y L).symm
theorem x1v {n:Nat} (h:y9s n=0):n≤400:=by
 unfold y9s at h;by_cases g:(n:Int)>400
 ·rw [Ah g] at h;cases h
 ·omega
theorem v4m {α:Type} {e:Int} (L:List α) (h:(e != 0)=false):y6t e L=L:=by unfold y6t;rw [h];rfl
def rgS (q:Op) (a b:List R4) (x:Int):List R2:=spJ q.k (D4.inn a x) (D4.inn b x)
def rgA (q:Op) (a b:List R4) (x:Int):Int:=spE q.k (D4.inn a x) (D4.inn b x)
theorem j0f (q:Op) (a b:List R4) (x:Int) (h:(rgA q a b x != 0)=false):(rgS q a b x).length ≤1000:=by
 have h:rgA q a b x=0:=by simpa using h
 unfold rgA spE at h;cases g1:(y8b (D4.inn a x) != 0) with
 | true=>rw [g1,Ab] at h;rw [h] at g1;cases g1
 | false=>
  cases g2:(y8b (D4.inn b x) != 0) with
  | true=>rw [g1,g2,Aa,Ab] at h;rw [h] at g2;cases g2
  | false=>rw [g1,g2,Aa,Aa] at h;exact AL (x1v h) (by omega)
section
variable (q:Op) (a b:List R4) (ha:a.length≤400) (hb:b.length≤400)
include ha hb
theorem u4q (i:Nat) (out:List R4) (last:List R2) (first fin x x':Int): ∀(k j:Nat) (acc:List R2),j+k=a.length→acc.length≤j→
  ∃n,∀N,Zs (Yh q a b) (N+n) (.to (.h3 (i:Int) (j:Int) out last first fin ((D4.cuts (a++b)).length) (Wc (Xc (D4.ends (a++b)))) x x' acc))=Zs (Yh q a b) N (.to (.h4 (i:Int) 0 out last first fin ((D4.cuts (a++b)).length) (Wc (Xc (D4.ends (a++b)))) x x' (acc++D4.inn (a.drop j) x) []))
 | 0,j,acc,h,h'=>by have _u:=ha;have _v:=hb;refine ⟨1,fun N=> ?_⟩;rw [At (by omega),show D4.inn ([]:List R4) x=[] from rfl,Az,Zv];simp (disch:=omega) only [Yh,Yz,Aa]
 | k+1,j,acc,h,h'=>by
  have hj:j<a.length:=by omega
  obtain ⟨n,hn⟩:=u4q i out last first fin x x' k (j+1) (acc++D4.inn [rd a j] x) (by omega) (by have:=D4.inn_length [rd a j] x;simp only [Ar,Bl] at*;omega)
  refine ⟨n+1,fun N=> ?_⟩;have e:D4.inn (a.drop j) x=D4.inn [rd a j] x++D4.inn (a.drop (j+1)) x:=by rw [Yj hj,←D4.inn_append];rfl
  rw [e,←AD,Zv,←AH,←hn N];by_cases h1:D4.lo (rd a j)≤x
  ·by_cases h2:x<D4.hi (rd a j)
   ·rw [D4.inn_t _ _ h1 h2];simp only [D4] at h1 h2 ⊢;simp (disch:=omega) only [Yh,Wz,Zg,Zq,Zn,Zo,Yc,Yk,Yp,Zf,Zk,Zx,Ym,Zj,Ag,Av,Ai,Al,Ab,Aa]
   ·rw [D4.inn_f2 _ _ h2,Az];simp only [D4] at h1 h2;simp (disch:=omega) only [Yh,Wz,Yz,Zg,Zq,Zn,Zo,Yc,Yk,Yp,Zf,Zk,Zx,Ym,Zj,Ag,Av,Ai,Al,Ab,Aa]
  ·rw [D4.inn_f1 _ _ h1,Az];simp only [D4] at h1;simp (disch:=omega) only [Yh,w0e,Zg,Zq,Zn,Zo,Yc,Yk,Yp,Zf,Zk,Zx,Ym,Zj,Ag,Av,Ai,Al,Ab,Aa]
theorem u4p (i:Nat) (out:List R4) (last:List R2) (first fin x x':Int) (o1:List R2): ∀(k j:Nat) (acc:List R2),j+k=b.length→acc.length≤j→
  ∃n,∀N,Zs (Yh q a b) (N+n) (.to (.h4 (i:Int) (j:Int) out last first fin ((D4.cuts (a++b)).length) (Wc (Xc (D4.ends (a++b)))) x x' o1 acc))=Zs (Yh q a b) N (.to (.h4 (i:Int) (b.length:Int) out last first fin ((D4.cuts (a++b)).length) (Wc (Xc (D4.ends (a++b)))) x x' o1 (acc++D4.inn (b.drop j) x)))
 | 0,j,acc,h,h'=>by have _u:=ha;have _v:=hb;refine ⟨0,fun N=> ?_⟩;rw [At (by omega),show D4.inn ([]:List R4) x=[] from rfl,Az,A5,show j=b.length by omega]
 | k+1,j,acc,h,h'=>by
  have hj:j<b.length:=by omega
  obtain ⟨n,hn⟩:=u4p i out last first fin x x' o1 k (j+1) (acc++D4.inn [rd b j] x) (by omega) (by have:=D4.inn_length [rd b j] x;simp only [Ar,Bl] at*;omega)
  refine ⟨n+1,fun N=> ?_⟩;have e:D4.inn (b.drop j) x=D4.inn [rd b j] x++D4.inn (b.drop (j+1)) x:=by rw [Yj hj,←D4.inn_append];rfl
  rw [e,←AD,Zv,←AH,←hn N];by_cases h1:D4.lo (rd b j)≤x
  ·by_cases h2:x<D4.hi (rd b j)
   ·rw [D4.inn_t _ _ h1 h2];simp only [D4] at h1 h2 ⊢;simp (disch:=omega) only [Yh,Wz,Zg,Zq,Zn,Zo,Yc,Yk,Yp,Zf,Zk,Zx,Ym,Zj,Ag,Av,Ai,Al,Ab,Aa]
   ·rw [D4.inn_f2 _ _ h2,Az];simp only [D4] at h1 h2;simp (disch:=omega) only [Yh,Wz,Yz,Zg,Zq,Zn,Zo,Yc,Yk,Yp,Zf,Zk,Zx,Ym,Zj,Ag,Av,Ai,Al,Ab,Aa]
  ·rw [D4.inn_f1 _ _ h1,Az];simp only [D4] at h1;simp (disch:=omega) only [Yh,w0e,Zg,Zq,Zn,Zo,Yc,Yk,Yp,Zf,Zk,Zx,Ym,Zj,Ag,Av,Ai,Al,Ab,Aa]
theorem u4o (i:Nat) (hi:i≤2000) (x x':Int) (s:List R2) (first:Int) (o1 o2:List R2) (hs:s.length≤1000): ∀(k j:Nat) (out:List R4),j+k=s.length→out.length≤10000000+j→
  ∃n,∀N,Zs (Yh q a b) (N+n) (.to (.h5 x x' s (s.length:Int) (j:Int) (i:Int) out first ((D4.cuts (a++b)).length) (Wc (Xc (D4.ends (a++b)))) o1 o2))=Zs (Yh q a b) N (.to (.h2 ((i+1:Nat):Int) (out++(s.drop j).map (D4.put x x')) s first x' ((D4.cuts (a++b)).length) (Wc (Xc (D4.ends (a++b))))))
 | 0,j,out,h,ho=>by have _u:=ha;have _v:=hb;refine ⟨1,fun N=> ?_⟩;rw [At (by omega),Zv];simp (disch:=omega) only [Yh,Yz,Zk,Zx,Aa,Bb,Az]
 | k+1,j,out,h,ho=>by
  obtain ⟨n,hn⟩:=u4o i hi x x' s first o1 o2 hs k (j+1) (out++[D4.put x x' (rd s j)]) (by omega) (by simp;omega)
  refine ⟨n+1,fun N=> ?_⟩;have:=hn N;rw [Yj (show j<s.length by omega),A4,←AD,Zv];simp (disch:=omega) only [Yh,Zg,Zq,Zn,Zo,Yc,Yk,Yp,Zf,Zk,Zx,Ym,Zj,Ag,Av,Ai,Al,Ab,Aa];rw [AH] at this;exact this
theorem u4n (i:Nat) (hi:i≤2000) (x x' fin:Int) (s last:List R2) (first:Int) (o1 o2:List R2): ∀(k j:Nat) (out:List R4),j+k=out.length→out.length≤10000000→
  ∃n,∀N,Zs (Yh q a b) (N+n) (.to (.h6 x' (j:Int) x s (i:Int) out last first fin ((D4.cuts (a++b)).length) (Wc (Xc (D4.ends (a++b)))) o1 o2))=Zs (Yh q a b) N (.to (.h2 ((i+1:Nat):Int) (D4.grow out j x') last first x' ((D4.cuts (a++b)).length) (Wc (Xc (D4.ends (a++b))))))
 | 0,j,out,h,ho=>by have _u:=ha;have _v:=hb;refine ⟨1,fun N=> ?_⟩;rw [D4.grow_nil _ _ _ (by omega),Zv];simp (disch:=omega) only [Yh,Yz,Zk,Zx,Aa]
 | k+1,j,out,h,ho=>by
  obtain ⟨n,hn⟩:=u4n i hi x x' fin s last first o1 o2 k (j+1) (out.set j (D4.ext x' (rd out j))) (by simp;omega) (by simpa using ho)
  refine ⟨n+1,fun N=> ?_⟩;have:=hn N;rw [D4.grow_set out j _ (by omega)] at this;rw [←AD,Zv];simp (disch:=omega) only [Yh,Zg,Zq,Zn,Zo,Yc,Yk,Yp,Zf,Zk,Zx,Ym,Zj,Ag,Av,Ai,Al,Ab,Aa];exact this
theorem v1e : ∀(k i:Nat) (s:Sw R4 R2),k=(D4.cuts (a++b)).length - 1 - i→i≤(D4.cuts (a++b)).length →s.out.length≤i*1000→s.last.length≤1000→s.first≤s.out.length→
  ∃n,Zs (Yh q a b) n (.to (.h2 ((i+1:Nat):Int) s.out s.last (s.first:Int) s.fin ((D4.cuts (a++b)).length) (Wc (Xc (D4.ends (a++b))))))=.ret (y1a (eJ (w8t (rgA q a b) (D4.cuts (a++b)) k i) (D4.goS (rgS q a b) (D4.cuts (a++b)) k i s).out.length) (D4.goS (rgS q a b) (D4.cuts (a++b)) k i s).out)
 | 0,i,s,h,hi,ho,hla,hf=>by
  have _u:=ha;have _v:=hb;have hc:=D4.cuts_length (a++b);refine ⟨1,?_⟩;rw [Zv,show D4.goS (rgS q a b) (D4.cuts (a++b)) 0 i s=s from rfl,show w8t (rgA q a b) (D4.cuts (a++b)) 0 i=0 from rfl,v8u];unfold Qx;by_cases g:(s.out.length:Int)>400
  ·simp (disch:=omega) only [Yh,Yz,Yn,Ab,Aa,Zp]
  ·simp (disch:=omega) only [Yh,Yz,Xm,Ab,Aa,Zp]
 | k +1,i,s,h,hi,ho,hla,hf=>by
  have hc:=D4.cuts_length (a++b);rw [Ar] at hc;have hi1:i+1<(D4.cuts (a++b)).length :=by omega
  have hpl:(Wc (Xc (D4.ends (a++b)))).length =2*(a.length+b.length):=by rw [Uq,Vq,D4.ends_length,Ar]
  have r0:rd (Wc (Xc (D4.ends (a++b)))) i=rd (D4.cuts (a++b)) i:=z4k _ _ (by show i<(D4.cuts (a++b)).length;omega);have r1:rd (Wc (Xc (D4.ends (a++b)))) (i+1)=rd (D4.cuts (a++b)) (i+1):=z4k _ _ (by show i+1<(D4.cuts (a++b)).length;omega);have hbig:i*1000≤2000*1000:=AJ _ (by omega);have hgo:D4.goS (rgS q a b) (D4.cuts (a++b)) (k+1) i s=D4.goS (rgS q a b) (D4.cuts (a++b)) k (i+1) (D4.oneS (rgS q a b (rd (D4.cuts (a++b)) i)) (rd (D4.cuts (a++b)) i) (rd (D4.cuts (a++b)) (i+1)) s):=rfl;have hfe: ∀x,x=rd (D4.cuts (a++b)) i→(rgA q a b x != 0)=false→w8t (rgA q a b) (D4.cuts (a++b)) (k+1) i=w8t (rgA q a b) (D4.cuts (a++b)) k (i+1):=fun x hx z=>by show (bif rgA q a b (rd (D4.cuts (a++b)) i) != 0 then _ else _)=_;rw [←hx,z];rfl
  revert hgo hfe r0;generalize hx:rd (D4.cuts (a++b)) i=x;generalize hx':rd (D4.cuts (a++b)) (i+1)=x' at r1;intro r0 hgo hfe;obtain ⟨n3,h3⟩:=u4q q a b ha hb (i+1) s.out s.last (s.first:Int) s.fin x x' a.length 0 [] (Ag _) (Ao _);simp only [A3,Bf,Qo] at h3;obtain ⟨n4,h4⟩:=u4p q a b ha hb (i+1) s.out s.last (s.first:Int) s.fin x x' (D4.inn a x) b.length 0 [] (Ag _) (Ao _);simp only [A3,Bf,Qo] at h4;have st0: ∀N,Zs (Yh q a b) (N+n4+n3+1) (.to (.h2 ((i+1:Nat):Int) s.out s.last (s.first:Int) s.fin ((D4.cuts (a++b)).length) (Wc (Xc (D4.ends (a++b))))))=Zs (Yh q a b) N (.to (.h4 ((i+1:Nat):Int) (b.length:Int) s.out s.last (s.first:Int) s.fin ((D4.cuts (a++b)).length) (Wc (Xc (D4.ends (a++b)))) x x' (D4.inn a x) (D4.inn b x))):=fun N=>by
   rw [←h4 N,←h3 (N+n4),Zv];have e1:wrap .i64 (((i+1:Nat):Int) - 1)=(i:Int):=by rw [Zt];exact Zk (by omega)
   simp (disch:=omega) only [Yh,e1,r0,r1,Zg,Zq,Zn,Zo,Yc,Yk,Yp,Zf,Zk,Zx,Ym,Zj,Ag,Av,Ai,Al,Ab,Aa]
  have w1:x0d q (D4.inn a x) (D4.inn b x)=true:=rfl;have f1:z0k (Zz (D4.inn a x))=true:=Xp _;have f2:z0k (Zz (D4.inn b x))=true:=Xp _;rcases Yd (rgA q a b x != 0) with z | z
  ·have z':(w4u q (D4.inn a x) (D4.inn b x) != 0)=true:=z;refine ⟨1+n4+n3+1,?_⟩;rw [st0 1,Zv];have e:w8t (rgA q a b) (D4.cuts (a++b)) (k+1) i=rgA q a b x:=by show (bif rgA q a b (rd (D4.cuts (a++b)) i) != 0 then rgA q a b (rd (D4.cuts (a++b)) i) else _)=_;rw [hx,z];rfl
   simp (disch:=omega) only [Yh,Yz,z',w1,f1,f2,Zg,Zq,Zn,Zo,Yc,Yk,Yp,Zf,Zk,Zx,Ym,Zj,Ag,Av,Ai,Al,Ab,Aa,Zp];rw [e,show eJ (rgA q a b x) _=rgA q a b x by unfold eJ;rw [z];rfl,z0x _ z];rfl
  have z':(w4u q (D4.inn a x) (D4.inn b x) != 0)=false:=z;have v:z3y q (D4.inn a x) (D4.inn b x)=rgS q a b x:=v4m _ z;have hsl:=j0f q a b x z;have w2:Vm s.last (rgS q a b x)=true:=Ah (by omega);rw [hgo,hfe x rfl z];have ol:(D4.oneS (rgS q a b x) x x' s).out.length ≤s.out.length+(rgS q a b x).length :=by
   unfold Dim.oneS;cases decide (0<(rgS q a b x).length)&&((s.fin == x)&&D4.same s.last (rgS q a b x))
   ·simp
   ·simp [Dim.grow_length]
  rcases Yd (decide (0<(rgS q a b x).length)&&((s.fin == x)&&D4.same s.last (rgS q a b x))) with g | g
  ·obtain ⟨n6,h6⟩:=u4n q a b ha hb (i+1) (by omega) x x' s.fin (rgS q a b x) s.last (s.first:Int) (D4.inn a x) (D4.inn b x) (s.out.length - s.first) s.first s.out (by omega) (by omega)
   have e:D4.oneS (rgS q a b x) x x' s=⟨D4.grow s.out s.first x',s.last,s.first,x'⟩:=by unfold Dim.oneS;rw [g];rfl
   obtain ⟨n0,h0⟩:=v1e k (i+1) (D4.oneS (rgS q a b x) x x' s) (by omega) (by omega) (by omega) (by rw [e];exact hla) (by rw [e];simpa [Dim.grow_length] using hf);refine ⟨n0+n6+1+n4+n3+1,?_⟩;rw [st0 (n0+n6+1),Zv];simp only [Ac,As] at g;obtain ⟨g1,g2,g3⟩:=g;have g3':Kc s.last (rgS q a b x)=true:=g3;simp (disch:=omega) only [Yh,Yz,Yn,z',v,g2,g3',w1,f1,f2,w2,Zg,Zq,Zn,Zo,Yc,Yk,Yp,Zf,Zk,Zx,Ym,Zj,Ag,Av,Ai,Al,Ab,Aa];rw [h6 n0];rw [e] at h0 ⊢;exact h0
  ·obtain ⟨n5,h5⟩:=u4o q a b ha hb (i+1) (by omega) x x' (rgS q a b x) (s.out.length:Int) (D4.inn a x) (D4.inn b x) hsl (rgS q a b x).length 0 s.out (Ag _) (by omega);simp only [A3,Qo] at h5;have e:D4.oneS (rgS q a b x) x x' s=⟨s.out++(rgS q a b x).map (D4.put x x'),rgS q a b x,s.out.length,x'⟩:=by unfold Dim.oneS;rw [g];rfl
   obtain ⟨n0,h0⟩:=v1e k (i+1) (D4.oneS (rgS q a b x) x x' s) (by omega) (by omega) (by omega) (by rw [e];exact hsl) (by rw [e];simp);have hg:Zs (Yh q a b) 1 (.to (.h4 ((i+1:Nat):Int) (b.length:Int) s.out s.last (s.first:Int) s.fin ((D4.cuts (a++b)).length) (Wc (Xc (D4.ends (a++b)))) x x' (D4.inn a x) (D4.inn b x)))=.to (.h5 x x' (rgS q a b x) ((rgS q a b x).length :Int) 0 ((i+1:Nat):Int) s.out (s.out.length:Int) ((D4.cuts (a++b)).length) (Wc (Xc (D4.ends (a++b)))) (D4.inn a x) (D4.inn b x)):=by
    rw [show (1:Nat)=0+1 from rfl,Zv];have e3:D4.same s.last (rgS q a b x)=Kc s.last (rgS q a b x):=rfl;rw [e3] at g;by_cases g1:0<(rgS q a b x).length
    ·rw [Ah g1,Al] at g;rcases Yd (s.fin == x) with g2 | g2
     ·rw [g2,Al] at g;simp (disch:=omega) only [Yh,Yz,Yn,z',v,g2,g,w1,f1,f2,w2,Zg,Zq,Zn,Zo,Yc,Yk,Yp,Zf,Zk,Zx,Ym,Zj,Ag,Av,Ai,Al,Ab,Aa];rfl
     ·simp (disch:=omega) only [Yh,Yz,Yn,z',v,g2,w1,f1,f2,w2,Zg,Zq,Zn,Zo,Yc,Yk,Yp,Zf,Zk,Zx,Ym,Zj,Ag,Av,Ai,Al,Ab,Aa];rfl
    ·simp (disch:=omega) only [Yh,Yz,Xm,z',v,w1,f1,f2,w2,Zg,Zq,Zn,Zo,Yc,Yk,Yp,Zf,Zk,Zx,Ym,Zj,Ag,Av,Ai,Al,Ab,Aa];rfl
   refine ⟨n0+n5+1+n4+n3+1,?_⟩;rw [st0 (n0+n5+1),z8k _ (n0+n5) 1,hg,h5 n0];rw [e] at h0 ⊢;exact h0
theorem u4r : ∀(k i:Nat) (acc:List Int),i+k=b.length→acc=D4.ends (a++b.take i)→ ∃n,Zs (Yh q a b) n (.to (.h1 (i:Int) acc))=.ret (y1a (eJ (w8t (rgA q a b) (D4.cuts (a++b)) ((D4.cuts (a++b)).length - 1) 0) (D4.goS (rgS q a b) (D4.cuts (a++b)) ((D4.cuts (a++b)).length - 1) 0 ⟨[],[],0,0⟩).out.length) (D4.goS (rgS q a b) (D4.cuts (a++b)) ((D4.cuts (a++b)).length - 1) 0 ⟨[],[],0,0⟩).out)
 | 0,i,acc,h,h'=>by
  have _u:=ha;have _v:=hb;have e:acc=D4.ends (a++b):=by rw [h',AP (by omega)]
  subst e;have hle:=D4.ends_length (a++b);rw [Ar] at hle;obtain ⟨n,hn⟩:=v1e q a b ha hb ((D4.cuts (a++b)).length - 1) 0 ⟨[],[],0,0⟩ (by omega) (AA _) (AA _) (AA _) (AA _);refine ⟨n+1,?_⟩;rw [Zv];simp (disch:=omega) only [Yh,Jd,z0f,y0f,Yz,Yk,Yp,Av,Ab,Aa];exact hn
 | k+1,i,acc,h,h'=>by
  have hle:acc.length≤2*(400+i):=by rw [h',D4.ends_length];simp only [Ar,A0];omega
  obtain ⟨n,hn⟩:=u4r k (i+1) (acc++D4.ends [rd b i]) (by omega) (by
   rw [h',A9];have:b[i]? =some (rd b i):=by rw [Yo (show i<b.length by omega)];exact Aq _
   rw [this];simp [Dim.ends])
  refine ⟨n+1,?_⟩;rw [Zv];simp (disch:=omega) only [Yh,Zg,Zq,Zn,Zo,Yc,Yk,Yp,Zf,Zk,Zx,Ym,Zj,Ag,Av,Ai,Al,Ab,Aa];exact hn
theorem u4s : ∀(k i:Nat) (acc:List Int),i+k=a.length→acc=D4.ends (a.take i)→ ∃n,Zs (Yh q a b) n (.to (.h0 (i:Int) acc))=.ret (y1a (eJ (w8t (rgA q a b) (D4.cuts (a++b)) ((D4.cuts (a++b)).length - 1) 0) (D4.goS (rgS q a b) (D4.cuts (a++b)) ((D4.cuts (a++b)).length - 1) 0 ⟨[],[],0,0⟩).out.length) (D4.goS (rgS q a b) (D4.cuts (a++b)) ((D4.cuts (a++b)).length - 1) 0 ⟨[],[],0,0⟩).out)
 | 0,i,acc,h,h'=>by have _u:=ha;have _v:=hb;obtain ⟨n,hn⟩:=u4r q a b ha hb b.length 0 acc (Ag _) (by rw [h',AP (by omega),List.take_zero,Az]);refine ⟨n+1,?_⟩;rw [Zv];simp (disch:=omega) only [Yh,Yz,Aa];exact hn
 | k+1,i,acc,h,h'=>by
  have hle:acc.length≤2*(400+i):=by rw [h',D4.ends_length];simp only [Ar,A0];omega
  obtain ⟨n,hn⟩:=u4s k (i+1) (acc++D4.ends [rd a i]) (by omega) (by
   rw [h',A9];have:a[i]? =some (rd a i):=by rw [Yo (show i<a.length by omega)];exact Aq _
   rw [this];simp [Dim.ends])
  refine ⟨n+1,?_⟩;rw [Zv];simp (disch:=omega) only [Yh,Zg,Zq,Zn,Zo,Yc,Yk,Yp,Zf,Zk,Zx,Ym,Zj,Ag,Av,Ai,Al,Ab,Aa];exact hn
end
def rgE (q:Op) (a b:List R4):Int:=bif y6s a != 0 then y6s a else bif y6s b != 0 then y6s b else eJ (w8t (rgA q a b) (D4.cuts (a++b)) ((D4.cuts (a++b)).length - 1) 0) (rgJ q.k a b).length
def Vy (q:Op) (a b:List R4):List R4:=y6t (rgE q a b) (rgJ q.k a b)
def x3d (q:Op) (a b:List R4):Int:=rgE q a b
def Qe (q:Op) (a b:List R4):Bool:=true
theorem w2g {l:List R4} (h:(y6s l != 0)=false):l.length≤400:=by
 refine AI fun g=> ?_;have h:y6s l=0:=by simpa using h
 unfold y6s at h;rw [Ah (by omega)] at h;cases h
theorem rg_run (q:Op) (a b:List R4) (h:Qe q a b=true): ∃n,Zs (Yh q a b) n (y2x q a b)=.ret (y1a (rgE q a b) (rgJ q.k a b)):=by
 unfold y2x;have o: ∀l,z4i l=true:=fun _=>rfl;simp only [Zg,o,Ab];rcases Yd (y6s a != 0) with q1 | q1
 ·exact ⟨0,by simp only [rgE,q1,Ab,z0x _ q1];rfl⟩
 rcases Yd (y6s b != 0) with q2 | q2
 ·exact ⟨0,by simp only [rgE,q1,q2,Ab,Aa,z0x _ q2];rfl⟩
 obtain ⟨n,hn⟩:=u4s q a b (w2g q1) (w2g q2) a.length 0 [] (Ag _) rfl;refine ⟨n,?_⟩;simp only [rgE,q1,q2,Aa];exact hn
def fRg (q:Op):List AVal→Option (AVal×Bool)
 | [a0,a1]=>match asL R4 a0,asL R4 a1 with
  | some (L0,g0,n0),some (L1,g1,n1)=>some (.tup [.dat (Vy q L0 L1).length (Zz (Vy q L0 L1)),.int .i64 (x3d q L0 L1)],isT R4 n0 g0&&(isT R4 n1 g1&&(Qe q L0 L1)))
  | _,_=>none
 | _=>none
theorem v4i (q:Op) {S:Specs} (hS:Zu prog S):Zu prog (S.with (nRg q) (fRg q)):=by
 refine w8u hS (by cases q <;> kernel_rfl) fun args v h=> ?_;unfold fRg at h;split at h
 ·rename_i a0 a1;split at h
  ·rename_i L0 g0 n0 L1 g1 n1 e0 e1;simp only [Ae,Ad,Ac] at h;obtain ⟨rfl,ho0,ho1,hw⟩:=h;obtain ⟨N,hN⟩:=rg_run q L0 L1 hw;exact ⟨_,_,(.cons (asL_le e0 ho0) (.cons (asL_le e1 ho1) .nil)),z2v _ _,v8i q L0 L1 N _ hN,3,z6k _ _⟩
  ·cases h
 ·cases h
def Ud :Specs:=((Uc.with (nRg .u) (fRg .u)).with (nRg .e) (fRg .e)).with (nRg .d) (fRg .d)
theorem Ud_ok :Zu prog Ud:=v4i .d (v4i .e (v4i .u Kg))
structure R7 where
 (a b c d e f g:Int)
instance : Ys R7 where
 w:=7
 d:=⟨0,0,0,0,0,0,0⟩
 cells x:=[.int .u8 x.a,.int .i64 x.b,.int .i64 x.c,.int .i64 x.d,.int .i64 x.e,.int .i64 x.f,.int .i64 x.g]
 of l:=⟨iOf (l.getD 0 .undef),iOf (l.getD 1 .undef),iOf (l.getD 2 .undef),iOf (l.getD 3 .undef),iOf (l.getD 4 .undef),iOf (l.getD 5 .undef),iOf (l.getD 6 .undef)⟩
 len _:=rfl
 pos:=by decide
 flat _:=rfl
 sc _:=rfl
 back _:=rfl
inductive Ax where
 | x | y | z
def Ax.lo (q:Ax) (r:R6):Int:=match q with
 | .x =>r.a
 | .y =>r.b
 | .z =>r.c
def Ax.hi (q:Ax) (r:R6):Int:=match q with
 | .x =>r.d
 | .y =>r.e
 | .z =>r.f
def Ax.rc (q:Ax) (r:R6):R4:=match q with
 | .x =>⟨r.b,r.c,r.e,r.f⟩
 | .y =>⟨r.a,r.c,r.d,r.f⟩
 | .z =>⟨r.a,r.b,r.d,r.e⟩
def Ax.ix (q:Ax):Int:=match q with
 | .x =>0
 | .y =>1
 | .z =>2
def sdI (s:Bool):Int:=match s with
 | true=>0
 | false=>1
def qd (q:Ax) (s:Bool) (p:Int) (t:R4):R7:=match q,s with
 | .x,true=>⟨0,p,t.a,t.b,p,t.c,t.d⟩
 | .x,false=>⟨1,p,t.a,t.b,p,t.c,t.d⟩
 | .y,true=>⟨2,t.a,p,t.b,t.c,p,t.d⟩
 | .y,false=>⟨3,t.a,p,t.b,t.c,p,t.d⟩
 | .z,true=>⟨4,t.a,t.b,p,t.c,t.d,p⟩
 | .z,false=>⟨5,t.a,t.b,p,t.c,t.d,p⟩
def z3j (q:Ax) (L:List R6) (p:Int):List R4:=(L.filter fun r=>decide (q.lo r≤p)&&decide (p<q.hi r)).map q.rc
abbrev nV1 :Ax→Nat
 | .x =>nMv1
 | .y =>nMv4
 | .z =>nMv7
abbrev nV2 :Ax→Nat
 | .x =>nMv2
 | .y =>nMv5
 | .z =>nMv8
abbrev nV3 :Ax→Nat
 | .x =>nMv3
 | .y =>nMv6
 | .z =>nMv9
def isV (q:Ax) (a b c:Nat):Bool:=Nat.beq a (nV1 q)&&(Nat.beq b (nV2 q)&&Nat.beq c (nV3 q))
theorem v3h {q:Ax} {a b c:Nat} (h:isV q a b c=true):a=nV1 q∧b=nV2 q∧c=nV3 q:=by simp only [isV,Ac] at h;exact ⟨Aj h.1,Aj h.2.1,Aj h.2.2⟩
def axOf (a b c:Nat):Option Ax:=bif isV .x a b c then some .x else bif isV .y a b c then some .y else bif isV .z a b c then some .z else none
theorem v5r {a b c:Nat} {q:Ax} (h:axOf a b c=some q):a=nV1 q∧b=nV2 q∧c=nV3 q:=by
 unfold axOf at h;cases hx:isV .x a b c with
 | true=>rw [hx,Ab] at h;obtain rfl:=Af h;exact v3h hx
 | false=>
  rw [hx,Aa] at h;cases hy:isV .y a b c with
  | true=>rw [hy,Ab] at h;obtain rfl:=Af h;exact v3h hy
  | false=>
   rw [hy,Aa] at h;cases hz:isV .z a b c with
   | true=>rw [hz,Ab] at h;obtain rfl:=Af h;exact v3h hz
   | false=>rw [hz,Aa] at h;cases h
abbrev Ma :Specs:=Ud
theorem w1i :Zu prog Ma:=Ud_ok
inductive mctS where
 | h0 (v8:List R4) (v13:Int)
def mctC (q:Ax) (l1:List R6) (x2:Int):mctS→Cfg
 | .h0 v8 v13=>⟨⟨47,0,true⟩,none,(Zb prog 141 [1,1,0,1,0,0] 0),none,(Zy prog 32),⟨Yg [(2,(ii x2)),(3,(.ptr 0 0)),(8,(.sla 1 4 0 v8.length (.un 4))),(11,(.dat l1.length (Zz l1))),(12,(ii (l1.length:Int))),(13,(ii v13))],Wh [⟨[(.fn (nV1 q) []),(.fn (nV2 q) []),(.fn (nV3 q) [])],84,none⟩,⟨Yx v8.length (Zz v8),88,some ⟨4,v8.length,(Zz v8)⟩⟩] 0,2,[],true⟩,[],.leaf⟩
def v9t :List (Option (List Nat)):=[some [2,3,8,11,12,13]]
def v9u :List (Option (List Nat)):=[]
def z3c (q:Ax) (l1:List R6) (x2:Int):mctS→Xv mctS
 | .h0 v8 v13=>(bif (decide (v13<(l1.length:Int))) then (bif ((decide (0≤v13∧v13<(l1.length:Int)))&&true) then (bif (decide ((q.lo (rd l1 v13.toNat))≤x2)) then (bif (decide (x2<(q.hi (rd l1 v13.toNat)))) then (bif (Nat.beq 4 4&&((decide (0+v8.length=v8.length))&&decide ((v8.length+1+1)*(32+1)≤Uw))) then (.to (.h0 (v8++[(q.rc (rd l1 v13.toNat))]) (wrap .i64 (v13+1)))) else .stuck) else (.to (.h0 v8 (wrap .i64 (v13+1))))) else (.to (.h0 v8 (wrap .i64 (v13+1))))) else .stuck) else (bif (Uj (cvT v8)) then (.ret [(.dat (Zc (cvT v8)).length (Zz (Zc (cvT v8)))),(.int .i64 (Xn (cvT v8)))]) else .stuck))
def x0y (q:Ax) (l1:List R6) (x2:Int):Xv mctS:=(.to (.h0 ([]:List R4) 0))
theorem w6r (q:Ax) (l1:List R6) (x2:Int): ∀s,Yt prog (Zy prog 141) (mctC q l1 x2) (mctC q l1 x2 s) (z3c q l1 x2 s):=by cases q <;> refine (?f: ∀q:Ax,∀s,Yt prog (Zy prog 141) (mctC q l1 x2) (mctC q l1 x2 s) (z3c q l1 x2 s)) _ <;> exact fun q=>fun
 | .h0 v8 v13=>(lb (fun k0=>(lo fun aG=>(lb (fun k1=>(lb (fun k2=>(lo fun o0=>(sl w1i 137 [] ⟨[0,12],[],v9t,v9u⟩ ⟨[(8,.len (v8++[(q.rc (rd l1 (tn v13)))]).length)],[.keep,.rowed 4 (v8++[(q.rc (rd l1 (tn v13)))]).length (Zz (v8++[(q.rc (rd l1 (tn v13)))]))],[]⟩ (trs 9 []) (pp (xL (v8.length+1) (v8++[(q.rc (rd l1 (tn v13)))]).length) (pp (xL (v8.length+1) (v8++[(q.rc (rd l1 (tn v13)))]).length) (pp (xS (v8.length+1) (Ze (Zz v8) 0 v8.length 4 (Ys.cells (q.rc (rd l1 (tn v13))))) (Zz (v8++[(q.rc (rd l1 (tn v13)))]))) (pp (pp (xF (Ze (Zz v8) 0 v8.length 4 (Ys.cells (q.rc (rd l1 (tn v13)))))) nn) (ww o0 (tt k2 (tt k1 (ww aG (tt k0 nn)))))))))))) (fun k2=>(sl w1i 67 [] ⟨[0,1],[],v9t,v9u⟩ ⟨[],[],[]⟩ (trs 8 [false]) (pp (fl v8 nn) (tt k2 (tt k1 (ww aG (tt k0 nn))))))))) (fun k1=>(sl w1i 55 [] ⟨[0,1],[],v9t,v9u⟩ ⟨[],[],[]⟩ (bl 9 1) (pp (fl v8 nn) (tt k1 (ww aG (tt k0 nn))))))))) (fun k0=>(Xb (sl w1i (C':=⟨⟨47,0,true⟩,(Uv prog 141 [1,1,1,0] 1),(Zb prog 141 [1,1,1,0] 1),none,(Zy prog 32),⟨Yg [(43,(.dat v8.length (Zz v8)))],Wh [] 0,0,[],true⟩,[],.leaf⟩) 10 [] ⟨[],[1],[some [43]],[]⟩ ⟨[(43,.frz v8.length v8.length (Zz v8) (Zz v8))],[],[]⟩ [false] (pp (xZ (z1p 4 4 0 v8.length v8.length (Zz v8)) v8.length (Zz v8)) (pp (xL v8.length v8.length) (pp (xS v8.length (Zz v8) (Zz v8)) (pp (fl v8 nn) (tt k0 nn)))))) (lo fun o0=>(lr 47 3 [1,1,1,1,1,1,1,0] 1 32 [(6,(.dat (Zc (cvT v8)).length (Zz (Zc (cvT v8))))),(7,(ii (Xn (cvT v8))))] (sl w1i 6 [] ⟨[],[],[some [6,7]],[]⟩ ⟨[],[],[]⟩ [] (pp (pp (xr v8) (xw o0)) nn)))))))
theorem x8s (q:Ax) (l1:List R6) (x2:Int):Yt prog (Zy prog 141) (mctC q l1 x2) (Za prog 141 [(.agg [(.fn (nV1 q) []),(.fn (nV2 q) []),(.fn (nV3 q) [])]),(.dat l1.length (Zz l1)),(.int .i64 x2)] true []) (x0y q l1 x2):=by cases q <;> exact (sl w1i 19 [(88,4,Zz ([]:List R4))] ⟨[0,1],[],v9t,v9u⟩ ⟨[(8,.grow 1 4)],[],[]⟩ [] (pp (fl ([]:List R4) nn) nn))
theorem v9s (q:Ax) (l1:List R6) (x2:Int) (n:Nat) (vs:List AVal) (h:Zs (z3c q l1 x2) n (x0y q l1 x2)=.ret vs):Jy prog (Zy prog 141) (Za prog 141 [(.agg [(.fn (nV1 q) []),(.fn (nV2 q) []),(.fn (nV3 q) [])]),(.dat l1.length (Zz l1)),(.int .i64 x2)] true []) vs:=by have:=Zd (w6r q l1 x2) n _ (x8s q l1 x2);rwa [h] at this
theorem w0j (q:Ax) (L M:List R6) (p:Int):z3j q (L++M) p=z3j q L p++z3j q M p:=by unfold z3j;rw [B7,By]
theorem cutL_t (q:Ax) {r:R6} {p:Int} (h1:q.lo r≤p) (h2:p<q.hi r):z3j q [r] p=[q.rc r]:=by unfold z3j;rw [Br,AB (by simp [h1,h2])];rfl
theorem j4f (q:Ax) {r:R6} {p:Int} (h1: ¬q.lo r≤p):z3j q [r] p=[]:=by unfold z3j;rw [Br,Aw (by simp [h1])];rfl
theorem j4e (q:Ax) {r:R6} {p:Int} (h2: ¬p<q.hi r):z3j q [r] p=[]:=by unfold z3j;rw [Br,Aw (by simp [h2])];rfl
def Ya (q:Ax) (L:List R6) (p:Int):List R4:=Zc (z3j q L p)
def Jk (q:Ax) (L:List R6) (p:Int):Int:=Xn (z3j q L p)
def z2d (q:Ax) (L:List R6) (p:Int):Bool:=decide (L.length≤400)
theorem u6i (q:Ax) (L:List R6) (p:Int) (hl:L.length≤400): ∀(k i:Nat) (acc:List R4),i+k=L.length→acc.length≤i→z3j q L p=acc++z3j q (L.drop i) p→
  ∃n,Zs (z3c q L p) n (.to (.h0 acc (i:Int)))=.ret [.dat (Ya q L p).length (Zz (Ya q L p)),.int .i64 (Jk q L p)]
 | 0,i,acc,h,h',e=>by rw [At (by omega),show z3j q [] p=[] from rfl,Az] at e;refine ⟨1,?_⟩;unfold Ya Jk;rw [Zv,e];simp (disch:=omega) only [z3c,Zg,show∀l,Uj l=true from fun _=>rfl,Yz,Ab,Aa,Zp]
 | k+1,i,acc,h,h',e=>by
  have hi:i<L.length:=by omega
  have e2:z3j q L p=(acc++z3j q [rd L i] p)++z3j q (L.drop (i+1)) p:=by rw [AH,←w0j,e,Yj hi];rfl
  obtain ⟨n,hn⟩:=u6i q L p hl k (i+1) (acc++z3j q [rd L i] p) (by omega) (by
   have:(z3j q [rd L i] p).length ≤1:=by unfold z3j;rw [AS];exact BS _ _
   rw [Ar];omega) e2
  refine ⟨n+1,?_⟩;rw [Zv];by_cases h1:q.lo (rd L i)≤p
  ·by_cases h2:p<q.hi (rd L i)
   ·rw [cutL_t q h1 h2] at hn;simp (disch:=omega) only [z3c,Wz,Zg,Zq,Zn,Zo,Yc,Yk,Yp,Zf,Zk,Zx,Ym,Zj,Ag,Av,Ai,Al,Ab,Aa];exact hn
   ·rw [j4e q h2,Az] at hn;simp (disch:=omega) only [z3c,Wz,Yz,Zg,Zq,Zn,Zo,Zk,Zx,Zj,Ai,Ab,Aa];exact hn
  ·rw [j4f q h1,Az] at hn;simp (disch:=omega) only [z3c,w0e,Zg,Zq,Zn,Zo,Zk,Zx,Zj,Ai,Ab,Aa];exact hn
theorem j1k (q:Ax) (L:List R6) (p:Int) (h:z2d q L p=true): ∃n,Zs (z3c q L p) n (x0y q L p)=.ret [.dat (Ya q L p).length (Zz (Ya q L p)),.int .i64 (Jk q L p)]:=
 u6i q L p (AC h) L.length 0 [] (Ag _) (Ao _) rfl
def fMct :List AVal→Option (AVal×Bool)
 | [.agg [.fn a [],.fn b [],.fn c []],a1,.int .i64 x2]=>match axOf a b c,asL R6 a1 with
  | some q,some (L1,g1,n1)=>some (.tup [.dat (Ya q L1 x2).length (Zz (Ya q L1 x2)),.int .i64 (Jk q L1 x2)],isT R6 n1 g1&&(z2d q L1 x2))
  | _,_=>none
 | _=>none
theorem j3g {S:Specs} (hS:Zu prog S):Zu prog (S.with nMCut fMct):=by
 refine z0l hS (by kernel_rfl) fun args v h=> ?_;unfold fMct at h;split at h
 ·rename_i a b c a1 x2;split at h
  ·rename_i q L1 g1 n1 eq e1;simp only [Ae,Ad,Ac] at h;obtain ⟨rfl,ho1,hw⟩:=h;obtain ⟨rfl,rfl,rfl⟩:=v5r eq;obtain ⟨N,hN⟩:=j1k q L1 x2 hw;exact ⟨_,_,(.cons (.refl _) (.cons (asL_le e1 ho1) (.cons (.refl _) .nil))),rfl,v9s q L1 x2 N _ hN,3,rfl⟩
  ·cases h
 ·cases h
def Mb :Specs:=Ma.with nMCut fMct
theorem v6e :Zu prog Mb:=j3g w1i
inductive mfcS where
def mfcC (q:Ax) (l1:List R6) (x2:Int) (x3:Bool):mfcS→Cfg
 :=nofun
def x0x (q:Ax) (l1:List R6) (x2:Int) (x3:Bool):mfcS→Xv mfcS
 :=nofun
def z3b (q:Ax) (l1:List R6) (x2:Int) (x3:Bool):Xv mfcS:=(bif (z2d q (cvT l1) (wrap .i64 (x2 - 1))) then (bif (z2d q (cvT l1) x2) then (bif ((Jk q (cvT l1) (wrap .i64 (x2 - 1))) != 0) then (.ret [.nils,(.int .i64 (Jk q (cvT l1) (wrap .i64 (x2 - 1))))]) else (bif ((Jk q (cvT l1) x2) != 0) then (.ret [.nils,(.int .i64 (Jk q (cvT l1) x2))]) else (bif x3 then (bif (Qe .d (cvT (Ya q (cvT l1) (wrap .i64 (x2 - 1)))) (cvT (Ya q (cvT l1) x2))) then (.ret [(.dat (Vy .d (cvT (Ya q (cvT l1) (wrap .i64 (x2 - 1)))) (cvT (Ya q (cvT l1) x2))).length (Zz (Vy .d (cvT (Ya q (cvT l1) (wrap .i64 (x2 - 1)))) (cvT (Ya q (cvT l1) x2))))),(.int .i64 (x3d .d (cvT (Ya q (cvT l1) (wrap .i64 (x2 - 1)))) (cvT (Ya q (cvT l1) x2))))]) else .stuck) else (bif (Qe .d (cvT (Ya q (cvT l1) x2)) (cvT (Ya q (cvT l1) (wrap .i64 (x2 - 1))))) then (.ret [(.dat (Vy .d (cvT (Ya q (cvT l1) x2)) (cvT (Ya q (cvT l1) (wrap .i64 (x2 - 1))))).length (Zz (Vy .d (cvT (Ya q (cvT l1) x2)) (cvT (Ya q (cvT l1) (wrap .i64 (x2 - 1))))))),(.int .i64 (x3d .d (cvT (Ya q (cvT l1) x2)) (cvT (Ya q (cvT l1) (wrap .i64 (x2 - 1))))))]) else .stuck)))) else .stuck) else .stuck)
theorem w6p (q:Ax) (l1:List R6) (x2:Int) (x3:Bool): ∀s,Yt prog (Zy prog 101) (mfcC q l1 x2 x3) (mfcC q l1 x2 x3 s) (x0x q l1 x2 x3 s)
 :=nofun
theorem x8r (q:Ax) (l1:List R6) (x2:Int) (x3:Bool):Yt prog (Zy prog 101) (mfcC q l1 x2 x3) (Za prog 101 [(.agg [(.fn (nV1 q) []),(.fn (nV2 q) []),(.fn (nV3 q) [])]),(.dat l1.length (Zz l1)),(.int .i64 x2),(.bool x3)] true []) (z3b q l1 x2 x3):=by cases q <;> refine (?f: ∀q:Ax,Yt prog (Zy prog 101) (mfcC q l1 x2 x3) (Za prog 101 [(.agg [(.fn (nV1 q) []),(.fn (nV2 q) []),(.fn (nV3 q) [])]),(.dat l1.length (Zz l1)),(.int .i64 x2),(.bool x3)] true []) (z3b q l1 x2 x3)) _ <;> exact fun q=>(lo fun bZ=>(lo fun cP=>(lb (fun k0=>(lr 50 101 [1,1,1,0,1,0,0] 1 101 [(8,.nils),(9,(ii (Jk q (cvT l1) (wr (x2 - 1)))))] (sl v6e 96 [] ⟨[],[],[some [8,9]],[]⟩ ⟨[],[],[]⟩ (trs 5 []) (tt k0 (tt k0 (pp (pp (pp nn (pp nn (pp nn nn))) (pp (xr l1) (xw cP))) (pp (pp (pp nn (pp nn (pp nn nn))) (pp (xr l1) (xw bZ))) nn))))))) (fun k0=>(lb (fun k1=>(lr 50 101 [1,1,1,0,1,0,0] 1 101 [(8,.nils),(9,(ii (Jk q (cvT l1) x2)))] (sl v6e 125 [] ⟨[],[],[some [8,9]],[]⟩ ⟨[],[],[]⟩ [false,false,true,true,false,true,true] (tt k1 (tt k0 (tt k1 (tt k0 (pp (pp (pp nn (pp nn (pp nn nn))) (pp (xr l1) (xw cP))) (pp (pp (pp nn (pp nn (pp nn nn))) (pp (xr l1) (xw bZ))) nn))))))))) (fun k1=>(lb (fun k2=>(lo fun o0=>(lr 50 101 [1,1,1,1,0,1,0,0] 1 101 [(8,(.dat (Vy .d (cvT (Ya q (cvT l1) (wr (x2 - 1)))) (cvT (Ya q (cvT l1) x2))).length (Zz (Vy .d (cvT (Ya q (cvT l1) (wr (x2 - 1)))) (cvT (Ya q (cvT l1) x2)))))),(9,(ii (x3d .d (cvT (Ya q (cvT l1) (wr (x2 - 1)))) (cvT (Ya q (cvT l1) x2)))))] (sl v6e 59 [] ⟨[],[],[some [8,9]],[]⟩ ⟨[],[],[]⟩ [false,false,false,true] (pp (pp (xI R4 (Ya q (cvT l1) (wr (x2 - 1))).length (Zz (Ya q (cvT l1) (wr (x2 - 1))))) (pp (xI R4 (Ya q (cvT l1) x2).length (Zz (Ya q (cvT l1) x2))) (xw o0))) (tt k2 (tt k1 (tt k0 (pp (pp (pp nn (pp nn (pp nn nn))) (pp (xr l1) (xw cP))) (pp (pp (pp nn (pp nn (pp nn nn))) (pp (xr l1) (xw bZ))) nn)))))))))) (fun k2=>(lo fun o0=>(lr 50 3 [1,1,1,1,1,1,1,0] 1 101 [(8,(.dat (Vy .d (cvT (Ya q (cvT l1) x2)) (cvT (Ya q (cvT l1) (wr (x2 - 1))))).length (Zz (Vy .d (cvT (Ya q (cvT l1) x2)) (cvT (Ya q (cvT l1) (wr (x2 - 1)))))))),(9,(ii (x3d .d (cvT (Ya q (cvT l1) x2)) (cvT (Ya q (cvT l1) (wr (x2 - 1)))))))] (sl v6e 60 [] ⟨[],[],[some [8,9]],[]⟩ ⟨[],[],[]⟩ [false,false,false,false] (pp (pp (xI R4 (Ya q (cvT l1) x2).length (Zz (Ya q (cvT l1) x2))) (pp (xI R4 (Ya q (cvT l1) (wr (x2 - 1))).length (Zz (Ya q (cvT l1) (wr (x2 - 1))))) (xw o0))) (tt k2 (tt k1 (tt k0 (pp (pp (pp nn (pp nn (pp nn nn))) (pp (xr l1) (xw cP))) (pp (pp (pp nn (pp nn (pp nn nn))) (pp (xr l1) (xw bZ))) nn)))))))))))))))))
theorem v9r (q:Ax) (l1:List R6) (x2:Int) (x3:Bool) (n:Nat) (vs:List AVal) (h:Zs (x0x q l1 x2 x3) n (z3b q l1 x2 x3)=.ret vs):Jy prog (Zy prog 101) (Za prog 101 [(.agg [(.fn (nV1 q) []),(.fn (nV2 q) []),(.fn (nV3 q) [])]),(.dat l1.length (Zz l1)),(.int .i64 x2),(.bool x3)] true []) vs:=by have:=Zd (w6p q l1 x2 x3) n _ (x8r q l1 x2 x3);rwa [h] at this
def w6q (q:Ax) (L:List R6) (p:Int):Int:=bif Jk q L (wrap .i64 (p - 1)) != 0 then Jk q L (wrap .i64 (p - 1)) else Jk q L p
def Ut (q:Ax) (L:List R6) (p:Int) (s:Bool):Int:=bif w6q q L p != 0 then w6q q L p else
 bif s then rgE .d (Ya q L (wrap .i64 (p - 1))) (Ya q L p) else rgE .d (Ya q L p) (Ya q L (wrap .i64 (p - 1)))
def Jz (q:Ax) (L:List R6) (p:Int) (s:Bool):List R4:=bif w6q q L p != 0 then [] else
 bif s then Vy .d (Ya q L (wrap .i64 (p - 1))) (Ya q L p) else Vy .d (Ya q L p) (Ya q L (wrap .i64 (p - 1)))
def z4p (q:Ax) (L:List R6) (p:Int) (s:Bool):Bool:=decide (L.length≤400)
theorem j1i (q:Ax) (L:List R6) (p:Int) (s:Bool) (h:z4p q L p s=true): ∃n vs,Zs (x0x q L p s) n (z3b q L p s)=.ret vs∧
  ∀(ρ:Rho) (u:Value),Yy ρ (Ku vs) u→Yy ρ (.tup [.dat (Jz q L p s).length (Zz (Jz q L p s)),.int .i64 (Ut q L p s)]) u:=by
 have o: ∀x,z2d q L x=true:=fun _=>h;unfold z3b;simp only [Zg,o,show∀a b,Qe .d a b=true from fun _ _=>rfl,Ab];rcases Yd (Jk q L (wrap .i64 (p - 1)) != 0) with q1 | q1
 ·refine ⟨0,_,by rw [q1,Ab];rfl,?_⟩;have e:w6q q L p=Jk q L (wrap .i64 (p - 1)):=by unfold w6q;rw [q1];rfl
  unfold Jz Ut;rw [e,q1,Ab,Ab];exact fun ρ u hu=>z5s (.cons (.nild _) (.cons (.refl _) .nil)) ρ u hu
 rcases Yd (Jk q L p != 0) with q2 | q2
 ·refine ⟨0,_,by rw [q1,q2,Aa,Ab];rfl,?_⟩;have e:w6q q L p=Jk q L p:=by unfold w6q;rw [q1];rfl
  unfold Jz Ut;rw [e,q2,Ab,Ab];exact fun ρ u hu=>z5s (.cons (.nild _) (.cons (.refl _) .nil)) ρ u hu
 have e:(w6q q L p != 0)=false:=by unfold w6q;rw [q1,Aa];exact q2
 cases s with
 | true=>refine ⟨0,_,by rw [q1,q2,Aa,Aa,Ab];rfl,?_⟩;unfold Jz Ut;rw [e];exact fun ρ u hu=>hu
 | false=>refine ⟨0,_,by rw [q1,q2,Aa,Aa,Aa];rfl,?_⟩;unfold Jz Ut;rw [e];exact fun ρ u hu=>hu
def fMfc :List AVal→Option (AVal×Bool)
 | [.agg [.fn a [],.fn b [],.fn c []],a1,.int .i64 x2,.bool s]=>match axOf a b c,asL R6 a1 with
  | some q,some (L1,g1,n1)=>some (.tup [.dat (Jz q L1 x2 s).length (Zz (Jz q L1 x2 s)),.int .i64 (Ut q L1 x2 s)],isT R6 n1 g1&&(z4p q L1 x2 s))
  | _,_=>none
 | _=>none
theorem mfc_pf (q:Ax) (L:List R6) (p:Int) (s:Bool) (n:Nat) (vs:List AVal) (h:Zs (x0x q L p s) n (z3b q L p s)=.ret vs) (ho:z4p q L p s=true): ∃d,pf d (Ku vs)=true:=by
 have o: ∀x,z2d q L x=true:=fun _=>ho;unfold z3b at h;simp only [Zg,o,show∀a b,Qe .d a b=true from fun _ _=>rfl,Ab] at h;cases h1:(Jk q L (wrap .i64 (p - 1)) != 0) <;> rw [h1] at h <;> simp only [Ab,Aa] at h
 ·cases h2:(Jk q L p != 0) <;> rw [h2] at h <;> simp only [Ab,Aa] at h
  ·cases s <;> simp only [Ab,Aa,Zp] at h <;> obtain rfl:=Xv.ret.inj h <;> exact ⟨3,rfl⟩
  ·rw [Zp] at h;obtain rfl:=Xv.ret.inj h;exact ⟨3,rfl⟩
 ·rw [Zp] at h;obtain rfl:=Xv.ret.inj h;exact ⟨3,rfl⟩
theorem j3f {S:Specs} (hS:Zu prog S):Zu prog (S.with v2l fMfc):=by
 refine w8u hS (by kernel_rfl) fun args v h=> ?_;unfold fMfc at h;split at h
 ·rename_i a b c a1 x2 s;split at h
  ·rename_i q L1 g1 n1 eq e1;simp only [Ae,Ad,Ac] at h;obtain ⟨rfl,ho1,hw⟩:=h;obtain ⟨rfl,rfl,rfl⟩:=v5r eq;obtain ⟨N,vs,hN,hv⟩:=j1i q L1 x2 s hw;exact ⟨_,vs,(.cons (.refl _) (.cons (asL_le e1 ho1) (.cons (.refl _) (.cons (.refl _) .nil)))),hv,v9r q L1 x2 s N _ hN,mfc_pf q L1 x2 s N vs hN hw⟩
  ·cases h
 ·cases h
def Mc :Specs:=Mb.with v2l fMfc
theorem y0q :Zu prog Mc:=j3f v6e
inductive mmdS where
 | h0 (q:Ax) (s:Bool) (v5:List Int) (v10:Int) (aA:List R7) (aJ:List R7)
 | h1 (q:Ax) (s:Bool) (bI:Nat) (v6:Int) (v7:Int) (aA:List R7) (aJ:List R7) (aS:List Int)
 | h2 (q:Ax) (s:Bool) (v8:Int) (v37:List R4) (v38:Int) (v39:Int) (bN:Nat) (cA:Int) (cB:Int) (aA:List R7) (aJ:List R7) (aS:List Int)
def u6f (q:Ax) (s:Bool):AFr:=⟨⟨75,0,true⟩,none,(.inRangeFunc 0::(Zb prog 52 [1,1,0,1,0,0,1,1,0,0,1,1,0,0,1,1,0,0,1,1,0] 1)),none,(Zy prog 52),Yg [(1,(.ptr 1 0)),(2,(.ptr 2 0)),(3,(.ptr 4 0)),(4,(.ptr 5 0)),(5,(.ptr 7 0)),(6,(.ptr 8 0)),(13,(.agg [(.fn 105 []),(.fn 106 []),(.fn 107 []),(.fn 108 []),(.fn 109 []),(.fn 110 []),(.fn 111 []),(.fn 112 []),(.fn 113 [])])),(14,(ii q.ix)),(18,(ii (sdI s)))]⟩
def w2z (q:Ax):ABlk:=⟨[(.fn (nV1 q) []),(.fn (nV2 q) []),(.fn (nV3 q) [])],84,none⟩
def u6e :=(Vb prog 52 [1,1,0,1,0,0,1,1,0,0,1,1,0,0,1,1,0,0,1,1,0,0])
def u6d :=(Vb prog 52 [1,1,0,1,0,0,1,1,0,0,1,1,0,0,1,1,0,0,1,1,0,1])
def z9s (l0:List R6):mmdS→Cfg
 | .h0 q s v5 v10 aA aJ=>⟨⟨33,0,true⟩,none,(Zb prog 100 [1,1,0,1,0,0] 0),none,(Zy prog 5),⟨Yg [(2,(.ptr 0 0)),(5,(.sla 10 1 0 v5.length (.un 1))),(8,(.dat l0.length (Zz l0))),(9,(ii (l0.length:Int))),(10,(ii v10))],Wh [(w2z q),⟨[(.dat l0.length (Zz l0))],38,none⟩,⟨[(.sla 3 7 0 aA.length (.un 7))],25,none⟩,⟨Yx aA.length (Zz aA),62,some ⟨7,aA.length,(Zz aA)⟩⟩,⟨[(ii 0)],26,none⟩,⟨[(.sla 6 7 0 aJ.length (.un 7))],25,none⟩,⟨Yx aJ.length (Zz aJ),62,some ⟨7,aJ.length,(Zz aJ)⟩⟩,⟨[(ii q.ix)],3,none⟩,(w2z q),⟨[(ii (sdI s))],3,none⟩,⟨Yx v5.length (Zz v5),3,some ⟨1,v5.length,(Zz v5)⟩⟩] 0,11,[],true⟩,[⟨⟨75,0,true⟩,(Uv prog 52 [1,1,0,1,0,0,1,1,0,0,1,1,0,0,1,1,0,0,1,0] 2),(Zb prog 52 [1,1,0,1,0,0,1,1,0,0,1,1,0,0,1,1,0,0,1,0] 1),none,(Zy prog 52),Yg [(1,(.ptr 1 0)),(2,(.ptr 2 0)),(3,(.ptr 4 0)),(4,(.ptr 5 0)),(5,(.ptr 7 0)),(6,(.ptr 8 0)),(7,(.ptr 9 0)),(13,(.agg [(.fn 105 []),(.fn 106 []),(.fn 107 []),(.fn 108 []),(.fn 109 []),(.fn 110 []),(.fn 111 []),(.fn 112 []),(.fn 113 [])])),(14,(ii q.ix)),(18,(ii (sdI s))),(21,(.agg [(.fn (nV1 q) []),(.fn (nV2 q) []),(.fn (nV3 q) [])])),(22,(.dat l0.length (Zz l0)))]⟩],.leaf⟩
 | .h1 q s bI v6 v7 aA aJ aS=>⟨⟨16,0,true⟩,none,(Zb prog 175 [1,0,0] 0),none,[],⟨Yg [(0,(.yld 0)),(5,(.sla 10 1 0 bI (.un 1))),(6,(ii v6)),(7,(ii v7))],y1c [(1,⟨[(.dat l0.length (Zz l0))],38,none⟩),(2,⟨[(.sla 3 7 0 aA.length (.un 7))],25,none⟩),(3,⟨Yx aA.length (Zz aA),62,some ⟨7,aA.length,(Zz aA)⟩⟩),(4,⟨[(ii 0)],26,none⟩),(5,⟨[(.sla 6 7 0 aJ.length (.un 7))],25,none⟩),(6,⟨Yx aJ.length (Zz aJ),62,some ⟨7,aJ.length,(Zz aJ)⟩⟩),(7,⟨[(ii q.ix)],3,none⟩),(8,(w2z q)),(9,⟨[(ii (sdI s))],3,none⟩),(10,⟨Yx aS.length (Zz aS),3,some ⟨1,aS.length,(Zz aS)⟩⟩)],11,[],true⟩,[(u6f q s)],(y7b [(0,⟨.ready,none,75,Yg [(1,(.ptr 1 0)),(2,(.ptr 2 0)),(3,(.ptr 4 0)),(4,(.ptr 5 0)),(5,(.ptr 7 0)),(6,(.ptr 8 0)),(7,(.ptr 9 0))],[24],u6e,u6d⟩)])⟩
 | .h2 q s v8 v37 v38 v39 bN cA cB aA aJ aS=>⟨⟨75,0,true⟩,none,(Zb prog 52 [1,1,0,1,0,0,1,1,0,0,1,1,0,0,1,1,0,0,1,1,0,1,0,1,1,1,0,0] 0),(some 0),[],⟨Yg [(4,(.ptr 5 0)),(5,(.ptr 7 0)),(6,(.ptr 8 0)),(7,(.ptr 9 0)),(8,(ii v8)),(37,(.dat v37.length (Zz v37))),(38,(ii v38)),(39,(ii v39))],y1c [(1,⟨[(.dat l0.length (Zz l0))],38,none⟩),(2,⟨[(.sla 3 7 0 aA.length (.un 7))],25,none⟩),(3,⟨Yx aA.length (Zz aA),62,some ⟨7,aA.length,(Zz aA)⟩⟩),(4,⟨[(ii 0)],26,none⟩),(5,⟨[(.sla 6 7 0 aJ.length (.un 7))],25,none⟩),(6,⟨Yx aJ.length (Zz aJ),62,some ⟨7,aJ.length,(Zz aJ)⟩⟩),(7,⟨[(ii q.ix)],3,none⟩),(8,(w2z q)),(9,⟨[(ii (sdI s))],3,none⟩),(10,⟨Yx aS.length (Zz aS),3,some ⟨1,aS.length,(Zz aS)⟩⟩)],11,[],true⟩,[⟨⟨16,0,true⟩,(Uv prog 175 [1,0,0,1,1,0,0,1,0] 2),(Zb prog 175 [1,0,0,1,1,0,0,1,0] 1),none,[],Yg [(0,(.yld 0)),(5,(.sla 10 1 0 bN (.un 1))),(6,(ii cA)),(7,(ii cB)),(11,(.yld 0)),(12,(ii v8))]⟩,(u6f q s)],(y7b [(0,⟨.busy,none,75,Yg [(1,(.ptr 1 0)),(2,(.ptr 2 0)),(3,(.ptr 4 0)),(4,(.ptr 5 0)),(5,(.ptr 7 0)),(6,(.ptr 8 0)),(7,(.ptr 9 0))],[24],u6e,u6d⟩)])⟩
def v2r :List (Option (List Nat)):=[some [2,5,8,9,10],some [1,2,3,4,5,6,7,13,14,18,21,22]]
def v2s :List (Option (List Nat)):=[]
def mmdN1 :List (Option (List Nat)):=[some [0,5,6,7],some [1,2,3,4,5,6,13,14,18]]
def mmdM1 :List (Option (List Nat)):=[some [1,2,3,4,5,6,7],none,none,none,none,none,none,none,none,none,none]
def mmdN2 :List (Option (List Nat)):=[some [4,5,6,7,8,37,38,39],some [0,5,6,7,11,12],some [1,2,3,4,5,6,13,14,18]]
def mmdM2 :List (Option (List Nat)):=[some [1,2,3,4,5,6,7],none,none,none,none,none,none,none,none,none,none]
def v2t (q:Ax) (s:Bool) (aA:List R7) (aJ:List R7):Xv mmdS:=match q,s with
 | q,true=>(.to (.h0 q false ([]:List Int) 0 aA aJ))
 | .x,false=>(.to (.h0 .y true ([]:List Int) 0 aA aJ))
 | .y,false=>(.to (.h0 .z true ([]:List Int) 0 aA aJ))
 | .z,false=>(bif (decide ((aJ.length:Int)>3000)) then (.ret [.nils,(.int .i64 4)]) else (.ret [(.dat aJ.length (Zz aJ)),(.int .i64 0)]))
def Xq (l0:List R6):mmdS→Xv mmdS
 | .h0 q s v5 v10 aA aJ=>(bif (decide (v10<(l0.length:Int))) then (bif ((decide (0≤v10∧v10<(l0.length:Int)))&&true) then (bif (Nat.beq 1 1&&((decide (0+v5.length=v5.length))&&decide ((v5.length+2+1)*(8+1)≤Uw))) then (.to (.h0 q s (v5++[(q.lo (rd l0 v10.toNat)),(q.hi (rd l0 v10.toNat))]) (wrap .i64 (v10+1)) aA aJ)) else .stuck) else .stuck) else (bif (decide (v5.length<4611686018427387904)) then (bif (decide (v5.length=v5.length)) then (.to (.h1 q s (w8v (Yu v5.length (cOf (Zz (Xc (Yu v5.length (cOf (Zz v5)))))))) (((w8v (Yu v5.length (cOf (Zz (Xc (Yu v5.length (cOf (Zz v5)))))))):Nat):Int) 0 aA aJ (Wc (Yu v5.length (cOf (Zz (Xc (Yu v5.length (cOf (Zz v5)))))))))) else .stuck) else .stuck))
 | .h2 q s v8 v37 v38 v39 bN cA cB aA aJ aS=>(bif (decide (v39<v38)) then (bif ((decide (0≤v39∧v39<(v37.length:Int)))&&true) then (bif (Nat.beq 7 7&&((decide (0+aJ.length=aJ.length))&&decide ((aJ.length+1+1)*(56+1)≤Uw))) then (.to (.h2 q s v8 v37 v38 (wrap .i64 (v39+1)) bN cA cB aA (aJ++[(qd q s v8 (rd v37 v39.toNat))]) aS)) else .stuck) else .stuck) else (.to (.h1 q s bN cA (wrap .i64 (cB+1)) aA aJ aS)))
 | .h1 q s bI v6 v7 aA aJ aS=>(bif (decide (v7<v6)) then (bif ((decide (0≤v7∧v7<((bI:Nat):Int)))&&true) then (bif (decide ((0+v7.toNat)<aS.length)) then (bif (z4p q (cvT l0) (rd aS (0+v7.toNat)) s) then (bif ((Ut q (cvT l0) (rd aS (0+v7.toNat)) s) != 0) then (.ret [.nils,(.int .i64 (Ut q (cvT l0) (rd aS (0+v7.toNat)) s))]) else (.to (.h2 q s (rd aS (0+v7.toNat)) (Jz q (cvT l0) (rd aS (0+v7.toNat)) s) (((Jz q (cvT l0) (rd aS (0+v7.toNat)) s).length :Nat):Int) 0 bI v6 v7 aA aJ aS))) else .stuck) else .stuck) else .stuck) else (v2t q s aA aJ))
def x0w (l0:List R6):Xv mmdS:=(.to (.h0 .x true ([]:List Int) 0 ([]:List R7) ([]:List R7)))
theorem j1g (l0:List R6) (q:Ax) (bI:Nat) (v6:Int) (v7:Int) (aA:List R7) (aJ:List R7) (aS:List Int) (k0:(decide (v7<v6))=false):Yt prog (Zy prog 52) (z9s l0) (z9s l0 (.h1 q true bI v6 v7 aA aJ aS)) (v2t q true aA aJ):=by cases q <;> refine (?f: ∀q:Ax,Yt prog (Zy prog 52) (z9s l0) (z9s l0 (.h1 q true bI v6 v7 aA aJ aS)) (v2t q true aA aJ)) _ <;> exact fun q=>(sl y0q 54 [(3,1,Zz ([]:List Int))] ⟨[12,1,2,3,4,5,6,7,8,11,13],[],v2r,v2s⟩ ⟨[(5,.grow 10 1)],[],[]⟩ [false,true] (pp (fl aA (fl aJ (fl ([]:List Int) nn))) (tt k0 nn)))
theorem j1f (l0:List R6) (bI:Nat) (v6:Int) (v7:Int) (aA:List R7) (aJ:List R7) (aS:List Int) (k0:(decide (v7<v6))=false):Yt prog (Zy prog 52) (z9s l0) (z9s l0 (.h1 .x false bI v6 v7 aA aJ aS)) (v2t .x false aA aJ):=(sl y0q 91 [(3,1,Zz ([]:List Int))] ⟨[14,1,2,3,4,5,6,11,12,13,15],[],v2r,v2s⟩ ⟨[(5,.grow 10 1)],[],[]⟩ [false,false,true,true,false,true] (pp (fl aA (fl aJ (fl ([]:List Int) nn))) (tt k0 nn)))
theorem j1e (l0:List R6) (bI:Nat) (v6:Int) (v7:Int) (aA:List R7) (aJ:List R7) (aS:List Int) (k0:(decide (v7<v6))=false):Yt prog (Zy prog 52) (z9s l0) (z9s l0 (.h1 .y false bI v6 v7 aA aJ aS)) (v2t .y false aA aJ):=(sl y0q 91 [(3,1,Zz ([]:List Int))] ⟨[14,1,2,3,4,5,6,11,12,13,15],[],v2r,v2s⟩ ⟨[(5,.grow 10 1)],[],[]⟩ [false,false,true,true,true,false,true] (pp (fl aA (fl aJ (fl ([]:List Int) nn))) (tt k0 nn)))
theorem j1d (l0:List R6) (bI:Nat) (v6:Int) (v7:Int) (aA:List R7) (aJ:List R7) (aS:List Int) (k0:(decide (v7<v6))=false):Yt prog (Zy prog 52) (z9s l0) (z9s l0 (.h1 .z false bI v6 v7 aA aJ aS)) (v2t .z false aA aJ):=(lb (fun k1=>(z3d ⟨⟨75,0,true⟩,none,(Zb prog 52 [1,1,1,0,1,0,0] 1),none,(Zy prog 52),⟨Yg [(2,(.ptr 0 0)),(3,(.ptr 1 0))],Wh [⟨[.nils],25,none⟩,⟨[(ii 4)],26,none⟩] 0,2,[],true⟩,[],.leaf⟩ (sl y0q 49 [] ⟨[2,4],[],[some [2,3]],[]⟩ ⟨[],[],[]⟩ [false,false,false,true] (tt k1 (tt k0 nn))) rfl (by kernel_rfl))) (fun k1=>(z3d ⟨⟨75,0,true⟩,none,(Zb prog 3 [1,1,1,1,1,1,1,0] 1),none,(Zy prog 52),⟨Yg [(2,(.ptr 0 0)),(3,(.ptr 1 0))],Wh [⟨[(.dat aJ.length (Zz aJ))],25,none⟩,⟨[(ii 0)],26,none⟩] 0,2,[],true⟩,[],.leaf⟩ (sl y0q 51 [] ⟨[2,4],[6],[some [2,3]],[]⟩ ⟨[],[.cells [.frz aJ.length aJ.length (Zz aJ) (Zz aJ)],.keep],[]⟩ [false,false,false,false] (pp (xZ (z1p 7 7 0 aJ.length aJ.length (Zz aJ)) aJ.length (Zz aJ)) (pp (xL aJ.length aJ.length) (pp (xS aJ.length (Zz aJ) (Zz aJ)) (pp (fl aJ nn) (tt k1 (tt k0 nn))))))) rfl (by kernel_rfl))))
theorem mmd_ex (l0:List R6) (q:Ax) (s:Bool) (bI:Nat) (v6:Int) (v7:Int) (aA:List R7) (aJ:List R7) (aS:List Int) (k0:(decide (v7<v6))=false):Yt prog (Zy prog 52) (z9s l0) (z9s l0 (.h1 q s bI v6 v7 aA aJ aS)) (v2t q s aA aJ):=match q,s with
 | q,true=>j1g l0 q bI v6 v7 aA aJ aS k0
 | .x,false=>j1f l0 bI v6 v7 aA aJ aS k0
 | .y,false=>j1e l0 bI v6 v7 aA aJ aS k0
 | .z,false=>j1d l0 bI v6 v7 aA aJ aS k0
theorem mmd_s0 (q:Ax) (s:Bool) (l0:List R6) (v5:List Int) (v10:Int) (aA:List R7) (aJ:List R7):Yt prog (Zy prog 52) (z9s l0) (z9s l0 (.h0 q s v5 v10 aA aJ)) (Xq l0 (.h0 q s v5 v10 aA aJ)):=by cases q <;> cases s <;> refine (?f: ∀(q:Ax) (s:Bool),Yt prog (Zy prog 52) (z9s l0) (z9s l0 (.h0 q s v5 v10 aA aJ)) (Xq l0 (.h0 q s v5 v10 aA aJ))) _ _ <;> exact fun q s=>(lb (fun k0=>(lo fun o0=>(lo fun o1=>(sl y0q 23 [] ⟨[0,1,2,3,4,5,6,7,8,9,15],[],v2r,v2s⟩ ⟨[(5,.len (v5++[(q.lo (rd l0 (tn v10))),(q.hi (rd l0 (tn v10)))]).length)],(kpB 10 [.rowed 1 (v5++[(q.lo (rd l0 (tn v10))),(q.hi (rd l0 (tn v10)))]).length (Zz (v5++[(q.lo (rd l0 (tn v10))),(q.hi (rd l0 (tn v10)))]))]),[]⟩ [true] (pp (xL (v5.length+2) (v5++[(q.lo (rd l0 (tn v10))),(q.hi (rd l0 (tn v10)))]).length) (pp (xL (v5.length+2) (v5++[(q.lo (rd l0 (tn v10))),(q.hi (rd l0 (tn v10)))]).length) (pp (xS (v5.length+2) (Ze (Zz v5) 0 v5.length 1 [(ii (q.lo (rd l0 (tn v10)))),(ii (q.hi (rd l0 (tn v10))))]) (Zz (v5++[(q.lo (rd l0 (tn v10))),(q.hi (rd l0 (tn v10)))]))) (pp (fl aA (fl aJ (pp (xF (Ze (Zz v5) 0 v5.length 1 [(ii (q.lo (rd l0 (tn v10)))),(ii (q.hi (rd l0 (tn v10))))])) nn))) (ww o1 (ww o0 (tt k0 nn))))))))))) (fun k0=>(lo fun o0=>(lo fun o1=>(sl y0q 42 [] ⟨[12,1,2,3,4,5,6,7,8,9,10],[],mmdN1,mmdM1⟩ ⟨[],(kpB 10 [.rowed 1 (Wc (Yu v5.length (cOf (Zz (Xc (Yu v5.length (cOf (Zz v5)))))))).length (Zz (Wc (Yu v5.length (cOf (Zz (Xc (Yu v5.length (cOf (Zz v5)))))))))]),[]⟩ [false] (pp (xL v5.length (Wc (Yu v5.length (cOf (Zz (Xc (Yu v5.length (cOf (Zz v5)))))))).length (by first | exact z2e _ _ | exact Va rfl)) (pp (xS v5.length (Zz (Wc (Yu v5.length (cOf (Zz (Xc (Yu v5.length (cOf (Zz v5))))))))) (Zz (Wc (Yu v5.length (cOf (Zz (Xc (Yu v5.length (cOf (Zz v5)))))))))) (pp (fl aA (fl aJ (fl (Wc (Yu v5.length (cOf (Zz (Xc (Yu v5.length (cOf (Zz v5)))))))) nn))) (pp (pp (xG (Nat.beq 1 1)) (pp (xG (Nat.beq 1 1)) (pp (xG (Nat.beq 0 0)) (pp (xG (decide (v5.length=v5.length))) (pp (xG (isI (Zz (Xc (Yu v5.length (cOf (Zz v5))))))) (xG (decide (v5.length<4611686018427387904)))))))) (pp (pp (xG (Nat.beq 1 1)) (pp (xG (Nat.beq 1 1)) (pp (xG (Nat.beq 0 0)) (pp (xG (decide (v5.length=v5.length))) (pp (xG (isI (Zz v5))) (xG (decide (v5.length<4611686018427387904)))))))) (tt k0 nn)))))))))))
theorem mmd_s1 (q:Ax) (s:Bool) (l0:List R6) (bI:Nat) (v6:Int) (v7:Int) (aA:List R7) (aJ:List R7) (aS:List Int):Yt prog (Zy prog 52) (z9s l0) (z9s l0 (.h1 q s bI v6 v7 aA aJ aS)) (Xq l0 (.h1 q s bI v6 v7 aA aJ aS)):=by cases q <;> cases s <;> refine (?f: ∀(q:Ax) (s:Bool),Yt prog (Zy prog 52) (z9s l0) (z9s l0 (.h1 q s bI v6 v7 aA aJ aS)) (Xq l0 (.h1 q s bI v6 v7 aA aJ aS))) _ _ <;> exact fun q s=>(lb (fun k0=>(lo fun aG=>(lo fun aU=>(lo fun bR=>(lb (fun k1=>(z3d ⟨⟨75,0,true⟩,none,(.code .ret ::(Zb prog 52 [1,1,0,1,0,0,1,1,0,0,1,1,0,0,1,1,0,0,1,1,0] 1)),none,(Zy prog 52),⟨Yg [(2,(.ptr 0 0)),(3,(.ptr 1 0))],Wh [⟨[.nils],25,none⟩,⟨[(ii (Ut q (cvT l0) (rd aS (0+(tn v7))) s))],26,none⟩] 0,2,[],true⟩,[],.leaf⟩ (sl y0q 58 [] ⟨[2,4],[],[some [2,3]],[]⟩ ⟨[],[],[]⟩ (trs 3 []) (tt k1 (pp (pp (pp nn (pp nn (pp nn (pp nn nn)))) (pp (xr l0) (xw bR))) (ww aU (ww aG (tt k0 nn)))))) rfl (by kernel_rfl))) (fun k1=>(sl y0q 55 [] ⟨(List.range 11),[],mmdN2,mmdM2⟩ ⟨[],[],[]⟩ [true,false] (pp (fl aA (fl aJ (fl aS nn))) (tt k1 (pp (pp (pp nn (pp nn (pp nn (pp nn nn)))) (pp (xr l0) (xw bR))) (ww aU (ww aG (tt k0 nn))))))))))))) (fun k0=>mmd_ex l0 q s bI v6 v7 aA aJ aS k0))
theorem mmd_s2 (q:Ax) (s:Bool) (l0:List R6) (v8:Int) (v37:List R4) (v38:Int) (v39:Int) (bN:Nat) (cA:Int) (cB:Int) (aA:List R7) (aJ:List R7) (aS:List Int):Yt prog (Zy prog 52) (z9s l0) (z9s l0 (.h2 q s v8 v37 v38 v39 bN cA cB aA aJ aS)) (Xq l0 (.h2 q s v8 v37 v38 v39 bN cA cB aA aJ aS)):=by cases q <;> cases s <;> refine (?f: ∀(q:Ax) (s:Bool),Yt prog (Zy prog 52) (z9s l0) (z9s l0 (.h2 q s v8 v37 v38 v39 bN cA cB aA aJ aS)) (Xq l0 (.h2 q s v8 v37 v38 v39 bN cA cB aA aJ aS))) _ _ <;> exact fun q s=>(lb (fun k0=>(lo fun o0=>(lo fun o1=>(sl y0q 23 [] ⟨[0,1,2,3,4,5,15,7,8,9,10],[],mmdN2,mmdM2⟩ ⟨[],(kpB 5 [.cells [.len (aJ++[(qd q s v8 (rd v37 (tn v39)))]).length],.rowed 7 (aJ++[(qd q s v8 (rd v37 (tn v39)))]).length (Zz (aJ++[(qd q s v8 (rd v37 (tn v39)))])),.keep,.keep,.keep,.keep]),[]⟩ [true] (pp (xL (aJ.length+1) (aJ++[(qd q s v8 (rd v37 (tn v39)))]).length) (pp (xL (aJ.length+1) (aJ++[(qd q s v8 (rd v37 (tn v39)))]).length) (pp (xS (aJ.length+1) (Ze (Zz aJ) 0 aJ.length 7 (Ys.cells (qd q s v8 (rd v37 (tn v39))))) (Zz (aJ++[(qd q s v8 (rd v37 (tn v39)))]))) (pp (fl aA (pp (xF (Ze (Zz aJ) 0 aJ.length 7 (Ys.cells (qd q s v8 (rd v37 (tn v39)))))) (fl aS nn))) (ww o1 (ww o0 (tt k0 nn))))))))))) (fun k0=>(sl y0q 19 [] ⟨(List.range 11),[],mmdN1,mmdM1⟩ ⟨[],[],[]⟩ [false,false] (pp (fl aA (fl aJ (fl aS nn))) (tt k0 nn)))))
theorem w6n (l0:List R6): ∀s,Yt prog (Zy prog 52) (z9s l0) (z9s l0 s) (Xq l0 s)
 | .h0 q s v5 v10 aA aJ=>mmd_s0 q s l0 v5 v10 aA aJ
 | .h1 q s bI v6 v7 aA aJ aS=>mmd_s1 q s l0 bI v6 v7 aA aJ aS
 | .h2 q s v8 v37 v38 v39 bN cA cB aA aJ aS=>mmd_s2 q s l0 v8 v37 v38 v39 bN cA cB aA aJ aS
theorem x8q (l0:List R6):Yt prog (Zy prog 52) (z9s l0) (Za prog 52 [(.dat l0.length (Zz l0))] true []) (x0w l0):=(sl y0q 93 [(62,7,Zz ([]:List R7)),(62,7,Zz ([]:List R7)),(3,1,Zz ([]:List Int))] ⟨[8,0,1,9,2,3,10,5,6,7,11],[],v2r,v2s⟩ ⟨[(5,.grow 10 1)],[.keep,.keep,.cells [.grow 3 7],.keep,.keep,.cells [.grow 6 7],.keep,.keep,.keep,.keep,.keep],[]⟩ [true,false,true] (pp (fl ([]:List R7) (fl ([]:List R7) (fl ([]:List Int) nn))) nn))
theorem v9q (l0:List R6) (n:Nat) (vs:List AVal) (h:Zs (Xq l0) n (x0w l0)=.ret vs):Jy prog (Zy prog 52) (Za prog 52 [(.dat l0.length (Zz l0))] true []) vs:=by have:=Zd (w6n l0) n _ (x8q l0);rwa [h] at this
theorem u4v {q:Op} {a b:List R4}:(Vy q a b).length ≤400:=by
 unfold Vy y6t;cases g:(rgE q a b != 0) with
 | true=>exact AA _
 | false=>
  rw [Aa];have h:rgE q a b=0:=by simpa using g
  unfold rgE at h;cases g1:(y6s a != 0) with
  | true=>rw [g1,Ab] at h;rw [h] at g1;cases g1
  | false=>
   cases g2:(y6s b != 0) with
   | true=>rw [g1,g2,Aa,Ab] at h;rw [h] at g2;cases g2
   | false=>
    rw [g1,g2,Aa,Aa] at h;unfold eJ at h;revert h;generalize w8t (rgA q a b) _ _ _=e;intro h;cases g3:(e != 0) with
    | true=>rw [g3,Ab] at h;rw [h] at g3;cases g3
    | false=>rw [g3,Aa] at h;exact x1v h
theorem v2v (q:Ax) (L:List R6) (p:Int) (s:Bool):(Jz q L p s).length ≤400:=by
 unfold Jz;cases (w6q q L p != 0) with
 | true=>exact AA _
 | false=>cases s <;> exact u4v
def z3h (q:Ax) (L:List R6):List Int:=L.flatMap fun r=>[q.lo r,q.hi r]
theorem z1d (q:Ax) (L:List R6):(z3h q L).length =2*L.length:=by
 induction L with
 | nil=>rfl
 | cons r l ih=>show (_::_::z3h q l).length =_;simp only [AW,ih];omega
def plQ (q:Ax) (L:List R6):List Int:=Kz (z3h q L)
theorem z9o (q:Ax) (L:List R6):(plQ q L).length ≤2*L.length:=by have h1:=Uq (Xc (z3h q L));have h2:=compact_length_le (Xc (z3h q L));rw [Vq,z1d] at h2;exact h2
def v4n (E:Int→Int):List Int→Int
 | []=>0
 | p::r=>bif E p != 0 then E p else v4n E r
def z8u (q:Ax) (s:Bool) (L:List R6):Int:=v4n (fun p=>Ut q L p s) (plQ q L)
def v4q (q:Ax) (s:Bool) (L:List R6) (ps:List Int):List R7:=ps.flatMap fun p=>(Jz q L p s).map (qd q s p)
theorem y5x (q:Ax) (s:Bool) (L:List R6): ∀ps,(v4q q s L ps).length ≤400*ps.length
 | []=>Ao _
 | p::ps=>by have:=y5x q s L ps;have h:=v2v q L p s;show ((Jz q L p s).map (qd q s p)++v4q q s L ps).length ≤_;rw [Ar,AS,AW];omega
section
variable (L:List R6) (hL:L.length≤400)
include hL
theorem u6c (q:Ax) (s:Bool) (v2 out:List R7): ∀(k i:Nat) (acc:List Int),i+k=L.length→acc=z3h q (L.take i)→
  ∃n,∀N,Zs (Xq L) (N+n) (.to (.h0 q s acc (i:Int) v2 out))=Zs (Xq L) N (.to (.h1 q s (plQ q L).length ((plQ q L).length :Int) 0 v2 out (Wc (Xc (z3h q L)))))
 | 0,i,acc,h,h'=>by
  have e:acc=z3h q L:=by rw [h',AP (by omega)]
  subst e;have hle:=z1d q L;refine ⟨1,fun N=> ?_⟩;rw [Zv];simp (disch:=omega) only [Xq,Jd,z0f,y0f,Yz,Yk,Yp,Av,Ab,Aa];rfl
 | k+1,i,acc,h,h'=>by
  have hle:acc.length≤2*i:=by rw [h',z1d,A0];omega
  obtain ⟨n,hn⟩:=u6c q s v2 out k (i+1) (acc++z3h q [rd L i]) (by omega) (by
   rw [h',A9];have:L[i]? =some (rd L i):=by rw [Yo (show i<L.length by omega)];exact Aq _
   rw [this];simp [z3h])
  refine ⟨n+1,fun N=> ?_⟩;rw [←AD,Zv,←hn N];simp (disch:=omega) only [Xq,Zg,Zq,Zn,Zo,Yc,Yk,Yp,Zf,Zk,Zx,Ym,Zj,Ag,Av,Ai,Al,Ab,Aa];rfl
theorem u6a (q:Ax) (s:Bool) (p:Int) (R:List R4) (hR:R.length≤400) (n5:Nat) (v6 v7:Int) (v2:List R7) (P:List Int): ∀(k j:Nat) (out:List R7),j+k=R.length→out.length≤10000000+j→
  ∃n,∀N,Zs (Xq L) (N+n) (.to (.h2 q s p R (R.length:Int) (j:Int) n5 v6 v7 v2 out P))=Zs (Xq L) N (.to (.h1 q s n5 v6 (wrap .i64 (v7+1)) v2 (out++(R.drop j).map (qd q s p)) P))
 | 0,j,out,h,h'=>by have _u:=hL;refine ⟨1,fun N=> ?_⟩;rw [At (by omega),Bb,Az,Zv];simp (disch:=omega) only [Xq,Yz,Aa]
 | k+1,j,out,h,h'=>by
  have hj:j<R.length:=by omega
  obtain ⟨n,hn⟩:=u6a q s p R hR n5 v6 v7 v2 P k (j+1) (out++[qd q s p (rd R j)]) (by omega) (by simp only [Ar,Bl];omega);refine ⟨n+1,fun N=> ?_⟩;rw [Yj hj,A4,←AD,Zv,show out++qd q s p (rd R j)::(R.drop (j+1)).map (qd q s p)=(out++[qd q s p (rd R j)])++(R.drop (j+1)).map (qd q s p) by simp,←hn N];simp (disch:=omega) only [Xq,Zg,Zq,Zn,Zo,Yc,Yk,Yp,Zf,Zk,Zx,Ym,Zj,Ag,Av,Ai,Al,Ab,Aa]
theorem u6b (q:Ax) (s:Bool) (v2:List R7): ∀(k i:Nat) (out:List R7),i+k=(plQ q L).length →out.length+400*k≤8000000→
  (v4n (fun p=>Ut q L p s) ((plQ q L).drop i)=0→ ∃n,∀N,Zs (Xq L) (N+n) (.to (.h1 q s (plQ q L).length ((plQ q L).length :Int) (i:Int) v2 out (Wc (Xc (z3h q L)))))=Zs (Xq L) N (v2t q s v2 (out++v4q q s L ((plQ q L).drop i))))∧
  ((v4n (fun p=>Ut q L p s) ((plQ q L).drop i) != 0)=true→ ∃n,∀N,Zs (Xq L) (N+n) (.to (.h1 q s (plQ q L).length ((plQ q L).length :Int) (i:Int) v2 out (Wc (Xc (z3h q L)))))=.ret [.nils,.int .i64 (v4n (fun p=>Ut q L p s) ((plQ q L).drop i))])
 | 0,i,out,h,h'=>by have _u:=hL;rw [At (show (plQ q L).length ≤i by omega)];refine ⟨fun _=>⟨1,fun N=> ?_⟩,fun e=>by cases e⟩;rw [show v4q q s L []=[] from rfl,Az,Zv];simp (disch:=omega) only [Xq,Yz,Aa]
 | k+1,i,out,h,h'=>by
  have hi:i<(plQ q L).length :=by omega
  have hp:=z9o q L;have hpl:(Wc (Xc (z3h q L))).length =2*L.length:=by rw [Uq,Vq,z1d]
  have r0:rd (Wc (Xc (z3h q L))) i=rd (plQ q L) i:=z4k _ _ hi;have o:z4p q L (rd (plQ q L) i) s=true:=Ah hL;rw [Yj hi];have eE:v4n (fun p=>Ut q L p s) (rd (plQ q L) i::(plQ q L).drop (i+1))=bif Ut q L (rd (plQ q L) i) s != 0 then Ut q L (rd (plQ q L) i) s else v4n (fun p=>Ut q L p s) ((plQ q L).drop (i+1)):=rfl;have eM:v4q q s L (rd (plQ q L) i::(plQ q L).drop (i+1))=(Jz q L (rd (plQ q L) i) s).map (qd q s (rd (plQ q L) i))++v4q q s L ((plQ q L).drop (i+1)):=rfl;rw [eE,eM];rcases Yd (Ut q L (rd (plQ q L) i) s != 0) with z | z
  ·rw [z,Ab];refine ⟨fun e=>(by rw [e] at z;cases z),fun _=>⟨1,fun N=> ?_⟩⟩;rw [Zv];simp (disch:=omega) only [Xq,r0,o,z,Zg,Zq,Zn,Zo,Yk,Zj,Ag,Av,Ai,Al,Ab,Aa,Zp]
  ·rw [z,Aa];have hm:=v2v q L (rd (plQ q L) i) s;obtain ⟨n2,h2⟩:=u6a L hL q s (rd (plQ q L) i) (Jz q L (rd (plQ q L) i) s) hm (plQ q L).length ((plQ q L).length :Int) (i:Int) v2 (Wc (Xc (z3h q L))) (Jz q L (rd (plQ q L) i) s).length 0 out (Ag _) (by omega);rw [A3] at h2;obtain ⟨a1,a2⟩:=u6b q s v2 k (i+1) (out++(Jz q L (rd (plQ q L) i) s).map (qd q s (rd (plQ q L) i))) (by omega) (by rw [Ar,AS];omega);have ew:wrap .i64 ((i:Int)+1)=((i+1:Nat):Int):=by rw [Zk (by omega)];exact Zx i
   have st: ∀N,Zs (Xq L) (N+n2+1) (.to (.h1 q s (plQ q L).length ((plQ q L).length :Int) (i:Int) v2 out (Wc (Xc (z3h q L)))))=Zs (Xq L) N (.to (.h1 q s (plQ q L).length ((plQ q L).length :Int) ((i+1:Nat):Int) v2 (out++(Jz q L (rd (plQ q L) i) s).map (qd q s (rd (plQ q L) i))) (Wc (Xc (z3h q L))))):=fun N=>by rw [←ew,←h2 N,Zv];simp (disch:=omega) only [Xq,r0,o,z,Zg,Zq,Zn,Zo,Yk,Zj,Ag,Av,Ai,Al,Ab,Aa];rfl
   refine ⟨fun e=> ?_,fun e=> ?_⟩
   ·obtain ⟨n,hn⟩:=a1 e;refine ⟨n+n2+1,fun N=> ?_⟩;rw [←AH,←hn N,←st (N+n),AD N,AD N,AD n]
   ·obtain ⟨n,hn⟩:=a2 e;refine ⟨n+n2+1,fun N=> ?_⟩;rw [←hn N,←st (N+n),AD N,AD N,AD n]
theorem z9r (q:Ax) (s:Bool) (v2 out:List R7) (ho:out.length≤2000000):
  (z8u q s L=0→ ∃n,∀N,Zs (Xq L) (N+n) (.to (.h0 q s [] 0 v2 out))=Zs (Xq L) N (v2t q s v2 (out++v4q q s L (plQ q L))))∧
  ((z8u q s L != 0)=true→ ∃n,∀N,Zs (Xq L) (N+n) (.to (.h0 q s [] 0 v2 out))=.ret [.nils,.int .i64 (z8u q s L)]):=by
 have hp:=z9o q L;obtain ⟨n0,h0⟩:=u6c L hL q s v2 out L.length 0 [] (Ag _) rfl;obtain ⟨a1,a2⟩:=u6b L hL q s v2 (plQ q L).length 0 out (Ag _) (by omega);rw [A3] at a1 a2;refine ⟨fun e=> ?_,fun e=> ?_⟩
 ·obtain ⟨n,hn⟩:=a1 e;exact ⟨n+n0,fun N=>by rw [←AD];exact (h0 (N+n)).trans (hn N)⟩
 ·obtain ⟨n,hn⟩:=a2 e;exact ⟨n+n0,fun N=>by rw [←AD];exact (h0 (N+n)).trans (hn N)⟩
end
def dM (q:Ax) (s:Bool) (L:List R6):List R7:=v4q q s L (plQ q L)
def w3a (L:List R6):List R7:=dM .x true L++dM .x false L++dM .y true L++dM .y false L++dM .z true L++dM .z false L
def w6o (L:List R6):Int:=bif z8u .x true L != 0 then z8u .x true L else bif z8u .x false L != 0 then z8u .x false L else bif z8u .y true L != 0 then z8u .y true L else
 bif z8u .y false L != 0 then z8u .y false L else bif z8u .z true L != 0 then z8u .z true L else bif z8u .z false L != 0 then z8u .z false L else bif decide (((w3a L).length :Int)>3000) then 4 else 0
def Us (L:List R6):List R7:=y6t (w6o L) (w3a L)
def z4o (L:List R6):Int:=w6o L
def z2c (L:List R6):Bool:=decide (L.length≤400)
theorem z4u (q:Ax) (s:Bool) {L:List R6} (h:L.length≤400):(dM q s L).length ≤320000:=by have h1:=y5x q s L (plQ q L);have h2:=z9o q L;unfold dM;omega
theorem j1b (L:List R6) (h:z2c L=true): ∃n,Zs (Xq L) n (x0w L)=.ret (y1a (z4o L) (w3a L)):=by
 have hL:L.length≤400:=AC h;have l1:=z4u .x true hL;have l2:=z4u .x false hL;have l3:=z4u .y true hL;have l4:=z4u .y false hL;have l5:=z4u .z true hL;have d1:=z9r L hL .x true [] [] (AA _);have d2:=z9r L hL .x false [] (dM .x true L) (by omega);have d3:=z9r L hL .y true [] (dM .x true L++dM .x false L) (by simp only [Ar];omega);have d4:=z9r L hL .y false [] (dM .x true L++dM .x false L++dM .y true L) (by simp only [Ar];omega);have d5:=z9r L hL .z true [] (dM .x true L++dM .x false L++dM .y true L++dM .y false L) (by simp only [Ar];omega);have d6:=z9r L hL .z false [] (dM .x true L++dM .x false L++dM .y true L++dM .y false L++dM .z true L) (by simp only [Ar];omega);have go: ∀(q:Ax) (s:Bool) (out:List R7) (V:List AVal),((z8u q s L=0→ ∃n,∀N,Zs (Xq L) (N+n) (.to (.h0 q s [] 0 [] out))=Zs (Xq L) N (v2t q s [] (out++v4q q s L (plQ q L))))∧
   ((z8u q s L != 0)=true→ ∃n,∀N,Zs (Xq L) (N+n) (.to (.h0 q s [] 0 [] out))=.ret [.nils,.int .i64 (z8u q s L)]))→
   (∃n,Zs (Xq L) n (v2t q s [] (out++dM q s L))=.ret V)→ ∃n,Zs (Xq L) n (.to (.h0 q s [] 0 [] out))=.ret (bif z8u q s L != 0 then [.nils,.int .i64 (z8u q s L)] else V):=fun q s out V d ⟨n,hn⟩=>by
  rcases Yd (z8u q s L != 0) with z | z
  ·obtain ⟨m,hm⟩:=d.2 z;refine ⟨0+m,?_⟩;rw [hm 0,z,Ab]
  ·obtain ⟨m,hm⟩:=d.1 (by simpa using z);refine ⟨n+m,?_⟩;rw [hm n,z,Aa];exact hn
 have e6:=go .z false _ (bif decide (((w3a L).length :Int)>3000) then [.nils,.int .i64 4] else [.dat (w3a L).length (Zz (w3a L)),.int .i64 0]) d6 ⟨0,by
  show Zs (Xq L) 0 (bif decide (((w3a L).length :Int)>3000) then _ else _)=_;cases decide (((w3a L).length :Int)>3000) <;> rfl⟩
 obtain ⟨n,hn⟩:=go .x true _ _ d1 (go .x false _ _ d2 (go .y true _ _ d3 (go .y false _ _ d4 (go .z true _ _ d5 e6))));refine ⟨n,hn.trans ?_⟩;unfold y1a z4o w6o
 congr 1
 cases z1:(z8u .x true L != 0) with
 | true=>simp only [z1,Ab]
 | false=>cases z2:(z8u .x false L != 0) with
  | true=>simp only [z2,Ab,Aa]
  | false=>cases z3:(z8u .y true L != 0) with
   | true=>simp only [z3,Ab,Aa]
   | false=>cases z4:(z8u .y false L != 0) with
    | true=>simp only [z4,Ab,Aa]
    | false=>cases z5:(z8u .z true L != 0) with
     | true=>simp only [z5,Ab,Aa]
     | false=>cases z6:(z8u .z false L != 0) with
      | true=>simp only [z6,Ab,Aa]
      | false=>cases z7:decide (((w3a L).length :Int)>3000) <;> rfl
def fMmd :List AVal→Option (AVal×Bool)
 | [a0]=>match asL R6 a0 with
  | some (L0,g0,n0)=>some (.tup [.dat (Us L0).length (Zz (Us L0)),.int .i64 (z4o L0)],isT R6 n0 g0&&(z2c L0))
  | _=>none
 | _=>none
theorem j3e {S:Specs} (hS:Zu prog S):Zu prog (S.with u5p fMmd):=by
 refine w8u hS (by kernel_rfl) fun args v h=> ?_;unfold fMmd at h;split at h
 ·rename_i a0;split at h
  ·rename_i L0 g0 n0 e0;simp only [Ae,Ad,Ac] at h;obtain ⟨rfl,ho0,hw⟩:=h;obtain ⟨N,hN⟩:=j1b L0 hw;exact ⟨_,_,(.cons (asL_le e0 ho0) .nil),z2v _ _,v9q L0 N _ hN,3,z6k _ _⟩
  ·cases h
 ·cases h
def Md :Specs:=Mc.with u5p fMmd
theorem z4w :Zu prog Md:=j3e y0q
-- h0: index into an array (choices [true, false, false, false])
def y4h (l:List R6):Bool:=true
def y4o (l:List R6):Bool:=true
inductive mofS where
def mofC (l0:List R6):mofS→Cfg
 :=nofun
def x8o (l0:List R6):mofS→Xv mofS
 :=nofun
def y3e (l0:List R6):Xv mofS:=(bif (y4h (cvT l0)) then (bif ((Vw (cvT l0)) != 0) then (.ret [.nils,(.int .i64 (Vw (cvT l0)))]) else (bif (z2c (cvT l0)) then (.ret [(.dat (Us (cvT l0)).length (Zz (Us (cvT l0)))),(.int .i64 (z4o (cvT l0)))]) else .stuck)) else .stuck)
theorem w6m (l0:List R6): ∀s,Yt prog (Zy prog 15) (mofC l0) (mofC l0 s) (x8o l0 s)
 :=nofun
theorem x8p (l0:List R6):Yt prog (Zy prog 15) (mofC l0) (Za prog 15 [(.dat l0.length (Zz l0))] true []) (y3e l0):=(lo fun bZ=>(lb (fun k0=>(lr 14 15 [1,0,1,1,0,0] 1 15 [(2,.nils),(3,(ii (Vw (cvT l0))))] (sl z4w 24 [] ⟨[],[],[some [2,3]],[]⟩ ⟨[],[],[]⟩ [true] (tt k0 (pp (pp (xr l0) (xw bZ)) nn))))) (fun k0=>(lo fun o0=>(lr 14 3 [1,1,1,1,1,1,1,0] 1 15 [(2,(.dat (Us (cvT l0)).length (Zz (Us (cvT l0))))),(3,(ii (z4o (cvT l0))))] (sl z4w 28 [] ⟨[],[],[some [2,3]],[]⟩ ⟨[],[],[]⟩ [false] (pp (pp (xr l0) (xw o0)) (tt k0 (pp (pp (xr l0) (xw bZ)) nn)))))))))
theorem v9p (l0:List R6) (n:Nat) (vs:List AVal) (h:Zs (x8o l0) n (y3e l0)=.ret vs):Jy prog (Zy prog 15) (Za prog 15 [(.dat l0.length (Zz l0))] true []) vs:=by have:=Zd (w6m l0) n _ (x8p l0);rwa [h] at this
inductive shsS where
 | h0 (v8:Int)
def shsC (l0:List R6) (bO:Int) (bP:Int) (bQ:Int):shsS→Cfg
 | .h0 v8=>⟨⟨19,0,true⟩,none,(Zb prog 133 [1,0,1,0,0] 0),none,(Zy prog 5),⟨Yg [(0,(.dat l0.length (Zz l0))),(1,(.fn 90 [(.ptr 0 0)])),(7,(ii (l0.length:Int))),(8,(ii v8))],Wh [⟨[(ii bO),(ii bP),(ii bQ)],55,none⟩] 0,1,[],true⟩,[⟨⟨9,0,true⟩,(Uv prog 89 [1,0] 2),(Zb prog 89 [1,0] 1),none,(Zy prog 5),Yg [(5,(.dat l0.length (Zz l0))),(6,(.fn 90 [(.ptr 0 0)]))]⟩,⟨⟨8,0,true⟩,(Uv prog 43 [1,0] 2),(Zb prog 43 [1,0] 1),none,(Zy prog 5),Yg [(5,(.dat l0.length (Zz l0))),(6,(.fn 90 [(.ptr 0 0)]))]⟩],.leaf⟩
def x6m :List (Option (List Nat)):=[some [0,1,7,8],some [5,6],some [5,6]]
def x6n :List (Option (List Nat)):=[]
def z6d (l0:List R6) (bO:Int) (bP:Int) (bQ:Int):shsS→Xv shsS
 | .h0 v8=>(bif (decide (v8<(l0.length:Int))) then (bif ((decide (0≤v8∧v8<(l0.length:Int)))&&true) then (bif (decide ((rd l0 v8.toNat).a ≤bO)) then (bif (decide (bO<(rd l0 v8.toNat).d)) then (bif (decide ((rd l0 v8.toNat).b ≤bP)) then (bif (decide (bP<(rd l0 v8.toNat).e)) then (bif (decide ((rd l0 v8.toNat).c ≤bQ)) then (bif (decide (bQ<(rd l0 v8.toNat).f)) then (.ret [(.bool (decide (v8≥0)))]) else (.to (.h0 (wrap .i64 (v8+1))))) else (.to (.h0 (wrap .i64 (v8+1))))) else (.to (.h0 (wrap .i64 (v8+1))))) else (.to (.h0 (wrap .i64 (v8+1))))) else (.to (.h0 (wrap .i64 (v8+1))))) else (.to (.h0 (wrap .i64 (v8+1))))) else .stuck) else (.ret [(.bool false)]))
def x0e (l0:List R6) (bO:Int) (bP:Int) (bQ:Int):Xv shsS:=(.to (.h0 0))
theorem w4z (l0:List R6) (bO:Int) (bP:Int) (bQ:Int): ∀s,Yt prog (Zy prog 43) (shsC l0 bO bP bQ) (shsC l0 bO bP bQ s) (z6d l0 bO bP bQ s)
 | .h0 v8=>(lb (fun k0=>(lo fun aG=>(lb (fun k1=>(lb (fun k2=>(lb (fun k3=>(lb (fun k4=>(lb (fun k5=>(lb (fun k6=>(lr 8 3 [1,1,1,1,1,1,1,0] 1 5 [(4,(.bool (decide (v8≥0))))] (sl z4w 92 [] ⟨[],[],[some [4]],[]⟩ ⟨[],[],[]⟩ (trs 32 []) (tt k6 (tt k5 (tt k4 (tt k3 (tt k2 (tt k1 (ww aG (tt k0 nn))))))))))) (fun k6=>(sl z4w 87 [] ⟨[0],[],x6m,x6n⟩ ⟨[],[],[]⟩ (trs 31 [false]) (tt k6 (tt k5 (tt k4 (tt k3 (tt k2 (tt k1 (ww aG (tt k0 nn)))))))))))) (fun k5=>(sl z4w 87 [] ⟨[0],[],x6m,x6n⟩ ⟨[],[],[]⟩ (trs 25 (bl 7 0)) (tt k5 (tt k4 (tt k3 (tt k2 (tt k1 (ww aG (tt k0 nn))))))))))) (fun k4=>(sl z4w 87 [] ⟨[0],[],x6m,x6n⟩ ⟨[],[],[]⟩ (trs 19 (bl 13 0)) (tt k4 (tt k3 (tt k2 (tt k1 (ww aG (tt k0 nn)))))))))) (fun k3=>(sl z4w 87 [] ⟨[0],[],x6m,x6n⟩ ⟨[],[],[]⟩ (trs 13 (bl 19 0)) (tt k3 (tt k2 (tt k1 (ww aG (tt k0 nn))))))))) (fun k2=>(sl z4w 87 [] ⟨[0],[],x6m,x6n⟩ ⟨[],[],[]⟩ (trs 7 (bl 25 0)) (tt k2 (tt k1 (ww aG (tt k0 nn)))))))) (fun k1=>(sl z4w 87 [] ⟨[0],[],x6m,x6n⟩ ⟨[],[],[]⟩ (bl 32 1) (tt k1 (ww aG (tt k0 nn)))))))) (fun k0=>(lr 8 3 [1,1,1,1,1,1,1,0] 1 5 [(4,(.bool false))] (sl z4w 18 [] ⟨[],[],[some [4]],[]⟩ ⟨[],[],[]⟩ [false] (tt k0 nn)))))
theorem x6l (l0:List R6) (bO:Int) (bP:Int) (bQ:Int):Yt prog (Zy prog 43) (shsC l0 bO bP bQ) (Za prog 43 [(.dat l0.length (Zz l0)),(.agg [(.int .i64 bO),(.int .i64 bP),(.int .i64 bQ)])] true []) (x0e l0 bO bP bQ):=(sl z4w 32 [] ⟨[0],[],x6m,x6n⟩ ⟨[],[],[]⟩ [] nn)
theorem v7a (l0:List R6) (bO:Int) (bP:Int) (bQ:Int) (n:Nat) (vs:List AVal) (h:Zs (z6d l0 bO bP bQ) n (x0e l0 bO bP bQ)=.ret vs):Jy prog (Zy prog 43) (Za prog 43 [(.dat l0.length (Zz l0)),(.agg [(.int .i64 bO),(.int .i64 bP),(.int .i64 bQ)])] true []) vs:=by have:=Zd (w4z l0 bO bP bQ) n _ (x6l l0 bO bP bQ);rwa [h] at this
inductive fitS where
def fitC (l0:List R6):fitS→Cfg
 :=nofun
def x9u (l0:List R6):fitS→Xv fitS
 :=nofun
def y3o (l0:List R6):Xv fitS:=(bif (decide ((l0.length:Int)≤20)) then (bif (y4o (cvT l0)) then (.ret [(.bool ((y8m (cvT l0)) == 0))]) else .stuck) else (.ret [(.bool false)]))
theorem w7n (l0:List R6): ∀s,Yt prog (Zy prog 37) (fitC l0) (fitC l0 s) (x9u l0 s)
 :=nofun
theorem x9v (l0:List R6):Yt prog (Zy prog 37) (fitC l0) (Za prog 37 [(.dat l0.length (Zz l0))] true []) (y3o l0):=(lb (fun k0=>(lo fun o0=>(lr 11 3 [1,1,1,1,1,1,1,0] 1 3 [(2,(.bool ((y8m (cvT l0)) == 0)))] (sl z4w 16 [] ⟨[],[],[some [2]],[]⟩ ⟨[],[],[]⟩ (trs 3 []) (pp (pp (xr l0) (xw o0)) (tt k0 nn)))))) (fun k0=>(lr 11 3 [1,1,1,1,1,1,1,0] 1 3 [(2,(.bool false))] (sl z4w 16 [] ⟨[],[],[some [2]],[]⟩ ⟨[],[],[]⟩ [false,false,false] (tt k0 nn)))))
theorem u0v (l0:List R6) (n:Nat) (vs:List AVal) (h:Zs (x9u l0) n (y3o l0)=.ret vs):Jy prog (Zy prog 37) (Za prog 37 [(.dat l0.length (Zz l0))] true []) vs:=by have:=Zd (w7n l0) n _ (x9v l0);rwa [h] at this
inductive crdS where
def crdC (aO:Int) (aN:Int) (aM:Int) (x1:Int):crdS→Cfg
 :=nofun
def w0n (aO:Int) (aN:Int) (aM:Int) (x1:Int):crdS→Xv crdS
 :=nofun
def y3r (aO:Int) (aN:Int) (aM:Int) (x1:Int):Xv crdS:=(bif (x1 == 0) then (.ret [(.int .i64 aO)]) else (bif (x1 == 1) then (.ret [(.int .i64 aN)]) else (.ret [(.int .i64 aM)])))
theorem w8a (aO:Int) (aN:Int) (aM:Int) (x1:Int): ∀s,Yt prog (Zy prog 42) (crdC aO aN aM x1) (crdC aO aN aM x1 s) (w0n aO aN aM x1 s)
 :=nofun
theorem w0o (aO:Int) (aN:Int) (aM:Int) (x1:Int):Yt prog (Zy prog 42) (crdC aO aN aM x1) (Za prog 42 [(.agg [(.int .i64 aO),(.int .i64 aN),(.int .i64 aM)]),(.int .i64 x1)] true []) (y3r aO aN aM x1):=(lb (fun k0=>(lr 15 42 [1,0,1,0,0] 1 5 [(4,(ii aO))] (sl z4w 18 [] ⟨[],[],[some [4]],[]⟩ ⟨[],[],[]⟩ [true] (tt k0 nn)))) (fun k0=>(lb (fun k1=>(lr 15 42 [1,1,0,1,0,0] 1 5 [(4,(ii aN))] (sl z4w 26 [] ⟨[],[],[some [4]],[]⟩ ⟨[],[],[]⟩ [false,true] (tt k1 (tt k0 nn))))) (fun k1=>(lr 15 3 [1,1,1,1,1,1,1,0] 1 5 [(4,(ii aM))] (sl z4w 27 [] ⟨[],[],[some [4]],[]⟩ ⟨[],[],[]⟩ [false,false] (tt k1 (tt k0 nn))))))))
theorem u1p (aO:Int) (aN:Int) (aM:Int) (x1:Int) (n:Nat) (vs:List AVal) (h:Zs (w0n aO aN aM x1) n (y3r aO aN aM x1)=.ret vs):Jy prog (Zy prog 42) (Za prog 42 [(.agg [(.int .i64 aO),(.int .i64 aN),(.int .i64 aM)]),(.int .i64 x1)] true []) vs:=by have:=Zd (w8a aO aN aM x1) n _ (w0o aO aN aM x1);rwa [h] at this
abbrev nEq7 :Nat:=69
def y8x (L:List R6):List R7:=bif Vw L != 0 then [] else Us L
def w2y (L:List R6):Int:=bif Vw L != 0 then Vw L else z4o L
def v2q (L:List R6):Bool:=true
theorem j1a (L:List R6): ∃n vs,Zs (x8o L) n (y3e L)=.ret vs∧(∀(ρ:Rho) (u:Value),Yy ρ (Ku vs) u→Yy ρ (.tup [.dat (y8x L).length (Zz (y8x L)),.int .i64 (w2y L)]) u)∧ ∃d,pf d (Ku vs)=true:=by
 unfold y3e;simp only [Zg,show∀l,y4h l=true from fun _=>rfl,Ab];rcases Yd (Vw L != 0) with q1 | q1
 ·refine ⟨0,_,by rw [q1,Ab];rfl,?_,3,rfl⟩;unfold y8x w2y;rw [q1,Ab,Ab];exact fun ρ u hu=>z5s (.cons (.nild _) (.cons (.refl _) .nil)) ρ u hu
 ·have o:z2c L=true:=Ah (Vx (by simpa using q1)).1;refine ⟨0,_,by rw [q1,o,Aa,Ab];rfl,?_,3,rfl⟩;unfold y8x w2y;rw [q1,Aa,Aa];exact fun ρ u hu=>hu
def fMof :List AVal→Option (AVal×Bool)
 | [a0]=>match asL R6 a0 with
  | some (L0,g0,n0)=>some (.tup [.dat (y8x L0).length (Zz (y8x L0)),.int .i64 (w2y L0)],isT R6 n0 g0&&(v2q L0))
  | _=>none
 | _=>none
theorem j3d {S:Specs} (hS:Zu prog S):Zu prog (S.with nMOf fMof):=by
 refine w8u hS (by kernel_rfl) fun args v h=> ?_;unfold fMof at h;split at h
 ·rename_i a0;split at h
  ·rename_i L0 g0 n0 e0;simp only [Ae,Ad,Ac] at h;obtain ⟨rfl,ho0,hw⟩:=h;obtain ⟨N,vs,hN,hv,hp⟩:=j1a L0;exact ⟨_,vs,(.cons (asL_le e0 ho0) .nil),hv,v9p L0 N _ hN,hp⟩
  ·cases h
 ·cases h
def shR (x y z:Int) (r:R6):Bool:=decide (r.a≤x)&&(decide (x<r.d)&&(decide (r.b≤y)&&(decide (y<r.e)&&(decide (r.c≤z)&&decide (z<r.f)))))
def shsV (L:List R6) (x y z:Int):Bool:=L.any (shR x y z)
def x2v (L:List R6) (x y z:Int):Bool:=decide (L.length≤100000)
theorem u2y {L:List R6} {x y z:Int} (hl:L.length≤100000): ∀(k i:Nat),i+k=L.length→ ∃N,Zs (z6d L x y z) N (.to (.h0 (i:Int)))=.ret [.bool ((L.drop i).any (shR x y z))]
 | 0,i,h=>by refine ⟨1,?_⟩;rw [Zv,At (by omega)];simp (disch:=omega) only [z6d,Yz,Aa];rfl
 | k+1,i,h=>by
  have hi:i<L.length:=by omega
  obtain ⟨N,hN⟩:=u2y (x:=x) (y:=y) (z:=z) hl k (i+1) (by omega);have hw:wrap .i64 ((i:Int)+1)=((i+1:Nat):Int):=Zk (by omega);have e:z6d L x y z (.h0 (i:Int))=bif shR x y z (rd L i) then .ret [.bool true] else .to (.h0 ((i+1:Nat):Int)):=by simp (disch:=omega) only [z6d,Zn,Zo,x4t,hw,Zj,Ai,Ab];unfold shR;cases decide ((rd L i).a ≤x) <;> cases decide (x<(rd L i).d) <;> cases decide ((rd L i).b ≤y) <;> cases decide (y<(rd L i).e) <;> cases decide ((rd L i).c ≤z) <;> cases decide (z<(rd L i).f) <;> rfl
  refine ⟨N+1,?_⟩;rw [Zv,Yj hi,e,Ct];rcases Yd (shR x y z (rd L i)) with q | q
  ·rw [q,Ab,BW];exact Zp _ _ _
  ·rw [q,Aa,BF];exact hN
theorem u8h (L:List R6) (x y z:Int) (h:x2v L x y z=true): ∃N,Zs (z6d L x y z) N (x0e L x y z)=.ret [.bool (shsV L x y z)]:=
 u2y (AC h) L.length 0 (Ag _)
def Jq (x y z i:Int):Int:=bif i == 0 then x else bif i == 1 then y else z
theorem j4i (x y z i:Int): ∃N,Zs (w0n x y z i) N (y3r x y z i)=.ret [.int .i64 (Jq x y z i)]:=⟨0,by
 unfold y3r Jq;cases (i == 0) <;> cases (i == 1) <;> rfl⟩
def fitV (L:List R6):Bool:=decide ((L.length:Int)≤20)&&(y8m L == 0)
def x4o (L:List R6):Bool:=true
theorem j2b (L:List R6) (h:x4o L=true): ∃N,Zs (x9u L) N (y3o L)=.ret [.bool (fitV L)]:=⟨0,by
 unfold y3o fitV;simp only [Zg,show∀l,y4o l=true from fun _=>rfl,Ab];cases decide ((L.length:Int)≤20) <;> rfl⟩
def fShs :List AVal→Option (AVal×Bool)
 | [a0,.agg [.int .i64 bO,.int .i64 bP,.int .i64 bQ]]=>match asL R6 a0 with
  | some (L0,g0,n0)=>some (.bool (shsV L0 bO bP bQ),isT R6 n0 g0&&(x2v L0 bO bP bQ))
  | _=>none
 | _=>none
theorem j2l {S:Specs} (hS:Zu prog S):Zu prog (S.with nSHas fShs):=by
 refine z0l hS (by kernel_rfl) fun args v h=> ?_;unfold fShs at h;split at h
 ·rename_i a0 bO bP bQ;split at h
  ·rename_i L0 g0 n0 e0;simp only [Ae,Ad,Ac] at h;obtain ⟨rfl,ho0,hw⟩:=h;obtain ⟨N,hN⟩:=u8h L0 bO bP bQ hw;exact ⟨_,_,(.cons (asL_le e0 ho0) (.cons (.refl _) .nil)),rfl,v7a L0 bO bP bQ N _ hN,3,rfl⟩
  ·cases h
 ·cases h
def fCrd :List AVal→Option (AVal×Bool)
 | [.agg [.int .i64 aO,.int .i64 aN,.int .i64 aM],.int .i64 x1]=>some (.int .i64 (Jq aO aN aM x1),true)
 | _=>none
theorem j3s {S:Specs} (hS:Zu prog S):Zu prog (S.with u5v fCrd):=by
 refine z0l hS (by kernel_rfl) fun args v h=> ?_;unfold fCrd at h;split at h
 ·rename_i aO aN aM x1;simp only [Ae,Ad,Cg] at h;subst h;obtain ⟨N,hN⟩:=j4i aO aN aM x1;exact ⟨_,_,(.cons (.refl _) (.cons (.refl _) .nil)),rfl,u1p aO aN aM x1 N _ hN,3,rfl⟩
 ·cases h
def fFit :List AVal→Option (AVal×Bool)
 | [a0]=>match asL R6 a0 with
  | some (L0,g0,n0)=>some (.bool (fitV L0),isT R6 n0 g0&&(x4o L0))
  | _=>none
 | _=>none
theorem j3n {S:Specs} (hS:Zu prog S):Zu prog (S.with u5u fFit):=by
 refine z0l hS (by kernel_rfl) fun args v h=> ?_;unfold fFit at h;split at h
 ·rename_i a0;split at h
  ·rename_i L0 g0 n0 e0;simp only [Ae,Ad,Ac] at h;obtain ⟨rfl,ho0,hw⟩:=h;obtain ⟨N,hN⟩:=j2b L0 hw;exact ⟨_,_,(.cons (asL_le e0 ho0) .nil),rfl,u0v L0 N _ hN,3,rfl⟩
  ·cases h
 ·cases h
def Me :Specs:=((((Md.with nMOf fMof).with nSHas fShs).with u5v fCrd).with u5u fFit)
theorem Jm :Zu prog Me:=(j3n (j3s (j2l (j3d z4w))))
inductive finS where
def finC (aO:Int) (aN:Int) (aM:Int):finS→Cfg
 :=nofun
def x9w (aO:Int) (aN:Int) (aM:Int):finS→Xv finS
 :=nofun
def y3p (aO:Int) (aN:Int) (aM:Int):Xv finS:=(bif (decide ((y1f (y1f aO aN) aM)≥(-1000000))) then (.ret [(.bool (decide ((y1p (y1p aO aN) aM)≤1000000)))]) else (.ret [(.bool false)]))
theorem w7o (aO:Int) (aN:Int) (aM:Int): ∀s,Yt prog (Zy prog 73) (finC aO aN aM) (finC aO aN aM s) (x9w aO aN aM s)
 :=nofun
theorem x9x (aO:Int) (aN:Int) (aM:Int):Yt prog (Zy prog 73) (finC aO aN aM) (Za prog 73 [(.agg [(.int .i64 aO),(.int .i64 aN),(.int .i64 aM)])] true []) (y3p aO aN aM):=(lb (fun k0=>(lr 21 3 [1,1,1,1,1,1,1,0] 1 3 [(2,(.bool (decide ((y1p (y1p aO aN) aM)≤1000000))))] (sl Jm 27 [] ⟨[],[],[some [2]],[]⟩ ⟨[],[],[]⟩ (trs 8 []) (tt k0 nn)))) (fun k0=>(lr 21 3 [1,1,1,1,1,1,1,0] 1 3 [(2,(.bool false))] (sl Jm 27 [] ⟨[],[],[some [2]],[]⟩ ⟨[],[],[]⟩ [false,false,false,false,false,false,false,false] (tt k0 nn)))))
theorem u0w (aO:Int) (aN:Int) (aM:Int) (n:Nat) (vs:List AVal) (h:Zs (x9w aO aN aM) n (y3p aO aN aM)=.ret vs):Jy prog (Zy prog 73) (Za prog 73 [(.agg [(.int .i64 aO),(.int .i64 aN),(.int .i64 aM)])] true []) vs:=by have:=Zd (w7o aO aN aM) n _ (x9x aO aN aM);rwa [h] at this
inductive eqqS where
 | h0 (v13:Int)
def eqqC (l0:List R7) (l1:List R7):eqqS→Cfg
 | .h0 v13=>⟨⟨26,0,true⟩,none,(Zb prog 69 [1,1,0,1,0,0] 0),none,(Zy prog 5),⟨Yg [(0,(.dat l0.length (Zz l0))),(1,(.dat l1.length (Zz l1))),(12,(ii (l0.length:Int))),(13,(ii v13))],Wh [] 0,0,[],true⟩,[],.leaf⟩
def eqqN0 :List (Option (List Nat)):=[some [0,1,12,13]]
def eqqM0 :List (Option (List Nat)):=[]
def z6t (l0:List R7) (l1:List R7):eqqS→Xv eqqS
 | .h0 v13=>(bif (decide (v13<(l0.length:Int))) then (bif ((decide (0≤v13∧v13<(l0.length:Int)))&&true) then (bif ((decide (0≤v13∧v13<(l1.length:Int)))&&true) then (bif (!(((rd l0 v13.toNat).a == (rd l1 v13.toNat).a)&&((((rd l0 v13.toNat).b == (rd l1 v13.toNat).b)&&(((rd l0 v13.toNat).c == (rd l1 v13.toNat).c)&&(((rd l0 v13.toNat).d == (rd l1 v13.toNat).d)&&true)))&&((((rd l0 v13.toNat).e == (rd l1 v13.toNat).e)&&(((rd l0 v13.toNat).f == (rd l1 v13.toNat).f)&&(((rd l0 v13.toNat).g == (rd l1 v13.toNat).g)&&true)))&&true)))) then (.ret [(.bool false)]) else (.to (.h0 (wrap .i64 (v13+1))))) else .stuck) else .stuck) else (.ret [(.bool true)]))
def y3q (l0:List R7) (l1:List R7):Xv eqqS:=(bif ((l0.length:Int) != (l1.length:Int)) then (.ret [(.bool false)]) else (.to (.h0 0)))
theorem w7s (l0:List R7) (l1:List R7): ∀s,Yt prog (Zy prog 69) (eqqC l0 l1) (eqqC l0 l1 s) (z6t l0 l1 s)
 | .h0 v13=>(lb (fun k0=>(lo fun aG=>(lo fun aU=>(lb (fun k1=>(lr 26 69 [1,1,0,1,0,0,1,1,0,0,1,1,0,0] 1 5 [(4,(.bool false))] (sl Jm 21 [] ⟨[],[],[some [4]],[]⟩ ⟨[],[],[]⟩ (bl 2 3) (tt k1 (ww aU (ww aG (tt k0 nn))))))) (fun k1=>(sl Jm 24 [] ⟨[],[],eqqN0,eqqM0⟩ ⟨[],[],[]⟩ (bl 2 1) (tt k1 (ww aU (ww aG (tt k0 nn)))))))))) (fun k0=>(lr 26 3 [1,1,1,1,1,1,1,0] 1 5 [(4,(.bool true))] (sl Jm 11 [] ⟨[],[],[some [4]],[]⟩ ⟨[],[],[]⟩ [false] (tt k0 nn)))))
theorem x9z (l0:List R7) (l1:List R7):Yt prog (Zy prog 69) (eqqC l0 l1) (Za prog 69 [(.dat l0.length (Zz l0)),(.dat l1.length (Zz l1))] true []) (y3q l0 l1):=(lb (fun k0=>(lr 26 69 [1,0,1,0,0] 1 5 [(4,(.bool false))] (sl Jm 18 [] ⟨[],[],[some [4]],[]⟩ ⟨[],[],[]⟩ [true] (tt k0 nn)))) (fun k0=>(sl Jm 24 [] ⟨[],[],eqqN0,eqqM0⟩ ⟨[],[],[]⟩ [false] (tt k0 nn))))
theorem u1d (l0:List R7) (l1:List R7) (n:Nat) (vs:List AVal) (h:Zs (z6t l0 l1) n (y3q l0 l1)=.ret vs):Jy prog (Zy prog 69) (Za prog 69 [(.dat l0.length (Zz l0)),(.dat l1.length (Zz l1))] true []) vs:=by have:=Zd (w7s l0 l1) n _ (x9z l0 l1);rwa [h] at this
inductive slmS where
 | h0 (v8:Int)
 | h1 (v16:Int) (aA:List Int)
 | h2 (v4:Int) (aF:List R6) (aR:List R4) (aY:Int) (aZ:Int) (aE:Nat) (aH:List Int)
 | h3 (v4:Int) (v38:Int) (aF:List R6) (aR:List R4) (aY:Int) (aZ:Int) (aE:Nat) (aH:List Int) (aQ:Int) (bA:Int) (aB:List R4)
 | h4 (v1:Int) (v2:Int) (v72:List R4) (v73:Int) (v74:Int) (bG:List R4) (aT:Int) (aD:List R6) (bB:List R4) (bC:Int) (aE:Nat) (aH:List Int) (aQ:List R4)
 | h5 (v2:Int) (v8:Int) (bU:Int) (bG:List R4) (aT:Int) (aD:List R6) (bB:List R4) (bC:Int) (bS:Int) (bF:Nat) (bM:List Int) (aB:List R4)
abbrev y7v (aD:List R6) (v8:Int) (v2:Int):=(aD.set (0+(tn v8)) (R6.mk (rd aD (0+(tn v8))).a (rd aD (0+(tn v8))).b (rd aD (0+(tn v8))).c (rd aD (0+(tn v8))).d (rd aD (0+(tn v8))).e v2))
abbrev y7u (aA:List Int):=(Wc (Yu aA.length (cOf (Zz (Xc (Yu aA.length (cOf (Zz aA))))))))
def v0d :AFr:=⟨⟨15,0,true⟩,(Uv prog 47 [1,1,1,0] 3),(Zb prog 47 [1,1,1,0] 1),none,(Zy prog 15),Yg [(9,(.agg [.nilf])),(11,(.sl 8 0 1 (.un 1)))]⟩
abbrev y7t (aB:List R4) (l0:List R6) (v38:Int):=(aB++[(R4.mk (rd l0 (tn v38)).a (rd l0 (tn v38)).b (rd l0 (tn v38)).d (rd l0 (tn v38)).e)])
abbrev y7s (aD:List R6) (v72:List R4) (v74:Int) (v1:Int) (v2:Int):=(aD++[(R6.mk (rd v72 (tn v74)).a (rd v72 (tn v74)).b v1 (rd v72 (tn v74)).c (rd v72 (tn v74)).d v2)])
def u2w :=(y7b [(0,⟨.ready,none,65,Yg [(2,(.ptr 1 0)),(4,(.ptr 2 0)),(5,(.ptr 3 0)),(6,(.ptr 4 0))],[15],(Vb prog 95 [1,1,0,1,0,0]),(Vb prog 95 [1,1,0,1,0,1])⟩)])
def u2v :AFr:=⟨⟨65,0,true⟩,none,(.inRangeFunc 0::(Zb prog 95 [1,1,0,1,0] 1)),none,(Zy prog 95),Yg [(4,(.ptr 2 0)),(5,(.ptr 3 0)),(6,(.ptr 4 0))]⟩
def z3z (l0:List R6):AVal:=(.dat l0.length (Zz l0))
abbrev y7r (aA:List Int) (l0:List R6) (v16:Int):=(aA++[(rd l0 (tn v16)).c,(rd l0 (tn v16)).f])
def slmC (l0:List R6):slmS→Cfg
 | .h0 v8=>⟨⟨19,0,true⟩,none,(Zb prog 134 [1,0,1,0,0] 0),none,(Zy prog 5),⟨Yg [(0,(z3z l0)),(1,(.fn 93 [])),(7,(ii (l0.length:Int))),(8,(ii v8))],Wh [] 0,0,[],true⟩,[⟨⟨9,0,true⟩,(Uv prog 92 [1,0] 2),(Zb prog 92 [1,0] 1),none,(Zy prog 5),Yg [(5,(z3z l0)),(6,(.fn 93 []))]⟩,⟨⟨15,0,true⟩,(Uv prog 47 [1,1,0,0] 1),(Zb prog 47 [1,1,0,0] 1),none,(Zy prog 15),Yg [(0,(z3z l0)),(7,(z3z l0))]⟩],.leaf⟩
 | .h1 v16 aA=>⟨⟨36,0,true⟩,none,(Zb prog 136 [1,1,0,1,0,0,1,1,0,0,1,1,0,0] 0),none,(Zy prog 3),⟨Yg [(1,(.ptr 0 0)),(3,(.ptr 2 0)),(8,(.sl 1 0 1 (.un 1))),(9,(ii 1)),(10,(ii 0)),(14,(z3z l0)),(15,(ii (l0.length:Int))),(16,(ii v16))],Wh [⟨[(.sl 1 0 1 (.un 1))],166,none⟩,⟨[(z3z l0)],22,none⟩,⟨[(.sla 7 1 0 aA.length (.un 1))],93,none⟩,⟨[.nilf],117,none⟩,⟨[.nils],38,none⟩,⟨[(ii 0)],26,none⟩,⟨[.nils,.nils,(ii 0),(ii 0)],168,none⟩,⟨Yx aA.length (Zz aA),3,some ⟨1,aA.length,(Zz aA)⟩⟩] 0,8,[],true⟩,[⟨⟨65,0,true⟩,(Uv prog 95 [1,1,0,0] 1),(Zb prog 95 [1,1,0,0] 1),none,(Zy prog 95),Yg [(2,(.ptr 3 0)),(4,(.ptr 4 0)),(5,(.ptr 5 0)),(6,(.ptr 6 0)),(13,(.sl 1 0 1 (.un 1)))]⟩,⟨⟨15,0,true⟩,(Uv prog 47 [1,1,1,0] 3),(Zb prog 47 [1,1,1,0] 1),none,(Zy prog 15),Yg [(9,(.agg [.nilf])),(11,(.sl 1 0 1 (.un 1)))]⟩],.leaf⟩
 | .h2 v4 aF aR aY aZ aE aH=>⟨⟨86,0,true⟩,none,(Zb prog 171 [1,0,0] 0),none,[],⟨Yg [(0,(.yld 0)),(1,(.ptr 5 0)),(2,(.ptr 7 0)),(4,(ii v4))],y1c [(1,⟨[.nilf],117,none⟩),(2,⟨[.nils],38,none⟩),(3,⟨[(ii 0)],26,none⟩),(4,⟨[(.sla 9 6 0 aF.length (.un 6)),(.dat aR.length (Zz aR)),(ii aY),(ii aZ)],168,none⟩),(5,⟨[(.sla 6 1 0 aE (.un 1))],93,none⟩),(6,⟨Yx aH.length (Zz aH),3,some ⟨1,aH.length,(Zz aH)⟩⟩),(7,⟨[(.sl 8 0 1 (.un 1))],166,none⟩),(8,⟨[(z3z l0)],22,none⟩),(9,⟨Yx aF.length (Zz aF),67,some ⟨6,aF.length,(Zz aF)⟩⟩)],10,[],true⟩,[u2v,v0d],u2w⟩
 | .h3 v4 v38 aF aR aY aZ aE aH aQ bA aB=>⟨⟨86,0,true⟩,none,(Zb prog 171 [1,0,0,1,0,0,1,0,1,0,0,1,1,0,0,1,1,0,0] 0),none,[],⟨Yg [(0,(.yld 0)),(1,(.ptr 5 0)),(2,(.ptr 7 0)),(4,(ii v4)),(5,(.ptr 9 0)),(6,(ii 0)),(29,(.sl 8 0 1 (.un 1))),(30,(ii 1)),(31,(ii 0)),(36,(z3z l0)),(37,(ii (l0.length:Int))),(38,(ii v38))],y1c [(1,⟨[.nilf],117,none⟩),(2,⟨[.nils],38,none⟩),(3,⟨[(ii 0)],26,none⟩),(4,⟨[(.sla 12 6 0 aF.length (.un 6)),(.dat aR.length (Zz aR)),(ii aY),(ii aZ)],168,none⟩),(5,⟨[(.sla 6 1 0 aE (.un 1))],93,none⟩),(6,⟨Yx aH.length (Zz aH),3,some ⟨1,aH.length,(Zz aH)⟩⟩),(7,⟨[(.sl 8 0 1 (.un 1))],166,none⟩),(8,⟨[(z3z l0)],22,none⟩),(9,⟨[(ii aQ),(ii bA),(.sl 10 0 1 (.ex 1))],173,none⟩),(10,⟨[(.sla 11 4 0 aB.length (.un 4))],99,none⟩),(11,⟨Yx aB.length (Zz aB),88,some ⟨4,aB.length,(Zz aB)⟩⟩),(12,⟨Yx aF.length (Zz aF),67,some ⟨6,aF.length,(Zz aF)⟩⟩)],13,[],true⟩,[u2v,v0d],u2w⟩
 | .h4 v1 v2 v72 v73 v74 bG aT aD bB bC aE aH aQ=>⟨⟨101,0,true⟩,none,(Zb prog 137 [1,1,1,0,0] 0),none,[],⟨Yg [(0,(.ptr 0 0)),(1,(ii v1)),(2,(ii v2)),(72,(.dat v72.length (Zz v72))),(73,(ii v73)),(74,(ii v74))],y1c [(0,⟨[(.sla 10 6 0 aD.length (.un 6)),(.dat bB.length (Zz bB)),(ii bC),(ii v2)],168,none⟩),(2,⟨[.nilf],117,none⟩),(3,⟨[.nils],38,none⟩),(4,⟨[(ii 0)],26,none⟩),(5,⟨[(.sla 6 1 0 aE (.un 1))],93,none⟩),(6,⟨Yx aH.length (Zz aH),3,some ⟨1,aH.length,(Zz aH)⟩⟩),(7,⟨[(.sl 8 0 1 (.un 1))],166,none⟩),(8,⟨[(z3z l0)],22,none⟩),(9,⟨[(.dat aQ.length (Zz aQ))],99,none⟩),(10,⟨Yx aD.length (Zz aD),67,some ⟨6,aD.length,(Zz aD)⟩⟩)],11,[],true⟩,[⟨⟨65,0,true⟩,(Uv prog 95 [1,1,0,1,0,1,0,1,1,1] 5),(Zb prog 95 [1,1,0,1,0,1,0,1,1,1] 1),(some 1),[],Yg [(6,(.ptr 0 0)),(54,(ii v1)),(56,(ii v2)),(57,(.dat bG.length (Zz bG)))]⟩,⟨⟨86,0,true⟩,(Uv prog 171 [1,0,0,1,0,0,1,1,0] 2),(Zb prog 171 [1,0,0,1,0,0,1,1,0] 1),none,[],Yg [(0,(.yld 1)),(1,(.ptr 5 0)),(2,(.ptr 7 0)),(4,(ii aT)),(82,(.yld 1)),(83,(.agg [(ii v1),(ii v2),(.sl 9 0 1 (.ex 1))]))]⟩,⟨⟨65,0,true⟩,none,(.inRangeFunc 1::(Zb prog 95 [1,1,0,1,0] 1)),none,(Zy prog 95),Yg [(4,(.ptr 3 0)),(5,(.ptr 4 0)),(6,(.ptr 0 0))]⟩,v0d],(y7b [(1,⟨.busy,none,65,Yg [(2,(.ptr 2 0)),(4,(.ptr 3 0)),(5,(.ptr 4 0)),(6,(.ptr 0 0))],[15],(Vb prog 95 [1,1,0,1,0,0]),(Vb prog 95 [1,1,0,1,0,1])⟩)])⟩
 | .h5 v2 v8 bU bG aT aD bB bC bS bF bM aB=>⟨⟨101,0,true⟩,none,(Zb prog 137 [0,1,0,0,1,0,0] 0),none,[],⟨Yg [(0,(.ptr 0 0)),(2,(ii v2)),(8,(ii v8))],y1c [(0,⟨[(.sla 1 6 0 aD.length (.un 6)),(.dat bB.length (Zz bB)),(ii bC),(ii bS)],168,none⟩),(1,⟨Yx aD.length (Zz aD),67,some ⟨6,aD.length,(Zz aD)⟩⟩),(3,⟨[.nilf],117,none⟩),(4,⟨[.nils],38,none⟩),(5,⟨[(ii 0)],26,none⟩),(6,⟨[(.sla 7 1 0 bF (.un 1))],93,none⟩),(7,⟨Yx bM.length (Zz bM),3,some ⟨1,bM.length,(Zz bM)⟩⟩),(8,⟨[(.sl 9 0 1 (.un 1))],166,none⟩),(9,⟨[(z3z l0)],22,none⟩),(10,⟨[(.dat aB.length (Zz aB))],99,none⟩)],11,[],true⟩,[⟨⟨65,0,true⟩,(Uv prog 95 [1,1,0,1,0,1,0,1,1,1] 5),(Zb prog 95 [1,1,0,1,0,1,0,1,1,1] 1),(some 2),[],Yg [(6,(.ptr 0 0)),(54,(ii bU)),(56,(ii v2)),(57,(.dat bG.length (Zz bG)))]⟩,⟨⟨86,0,true⟩,(Uv prog 171 [1,0,0,1,0,0,1,1,0] 2),(Zb prog 171 [1,0,0,1,0,0,1,1,0] 1),none,[],Yg [(0,(.yld 2)),(1,(.ptr 6 0)),(2,(.ptr 8 0)),(4,(ii aT)),(82,(.yld 2)),(83,(.agg [(ii bU),(ii v2),(.sl 10 0 1 (.ex 1))]))]⟩,⟨⟨65,0,true⟩,none,(.inRangeFunc 2::(Zb prog 95 [1,1,0,1,0] 1)),none,(Zy prog 95),Yg [(4,(.ptr 4 0)),(5,(.ptr 5 0)),(6,(.ptr 0 0))]⟩,⟨⟨15,0,true⟩,(Uv prog 47 [1,1,1,0] 3),(Zb prog 47 [1,1,1,0] 1),none,(Zy prog 15),Yg [(9,(.agg [.nilf])),(11,(.sl 9 0 1 (.un 1)))]⟩],(y7b [(2,⟨.busy,none,65,Yg [(2,(.ptr 3 0)),(4,(.ptr 4 0)),(5,(.ptr 5 0)),(6,(.ptr 0 0))],[15],(Vb prog 95 [1,1,0,1,0,0]),(Vb prog 95 [1,1,0,1,0,1])⟩)])⟩
def slmN0 :List (Option (List Nat)):=[some [0,1,7,8],some [5,6],some [0,7]]
def slmM0 :List (Option (List Nat)):=[]
def u8e :List (Option (List Nat)):=[some [1,3,8,9,10,14,15,16],some [2,4,5,6,13],some [9,11]]
def u8g :List (Option (List Nat)):=[]
def u8d :List (Option (List Nat)):=[some [0,1,2,4],some [4,5,6],some [9,11]]
def u8f :List (Option (List Nat)):=[some [2,4,5,6],none,none,none,none,none,none,none,none,none]
def v6w :List (Option (List Nat)):=[some [0,1,2,4,5,6,29,30,31,36,37,38],some [4,5,6],some [9,11]]
def v6y :List (Option (List Nat)):=[some [2,4,5,6],none,none,none,none,none,none,none,none,none,none,none,none]
def v6v :List (Option (List Nat)):=[some [0,1,2,72,73,74],some [6,54,56,57],some [0,1,2,4,82,83],some [4,5,6],some [9,11]]
def v6x :List (Option (List Nat)):=[none,some [2,4,5,6],none,none,none,none,none,none,none,none,none]
def slmN5 :List (Option (List Nat)):=[some [0,2,8],some [6,54,56,57],some [0,1,2,4,82,83],some [4,5,6],some [9,11]]
def slmM5 :List (Option (List Nat)):=[none,none,some [2,4,5,6],none,none,none,none,none,none,none,none]
def Xu (l0:List R6):slmS→Xv slmS
 | .h0 v8=>(bif (decide (v8<(l0.length:Int))) then (bif ((decide (0≤v8∧v8<(l0.length:Int)))&&true) then (bif (!(u7m (rd l0 v8.toNat).a (rd l0 v8.toNat).b (rd l0 v8.toNat).c (rd l0 v8.toNat).d (rd l0 v8.toNat).e (rd l0 v8.toNat).f)) then (bif (decide (v8≥0)) then (.ret [.nils,(.int .i64 8)]) else (.to (.h1 0 ([]:List Int)))) else (.to (.h0 (wrap .i64 (v8+1))))) else .stuck) else (.to (.h1 0 ([]:List Int))))
 | .h1 v16 aA=>(bif (decide (v16<(l0.length:Int))) then (bif ((decide (0≤v16∧v16<(l0.length:Int)))&&true) then (bif (Nat.beq 1 1&&((decide (0+aA.length=aA.length))&&decide ((aA.length+2+1)*(8+1)≤Uw))) then (.to (.h1 (wrap .i64 (v16+1)) (aA++[(rd l0 v16.toNat).c,(rd l0 v16.toNat).f]))) else .stuck) else .stuck) else (bif (decide (aA.length<4611686018427387904)) then (bif (decide (aA.length=aA.length)) then (.to (.h2 1 ([]:List R6) ([]:List R4) 0 0 (w8v (Yu aA.length (cOf (Zz (Xc (Yu aA.length (cOf (Zz aA)))))))) (Wc (Yu aA.length (cOf (Zz (Xc (Yu aA.length (cOf (Zz aA)))))))))) else .stuck) else .stuck))
 | .h2 v4 aF aR aY aZ aE aH=>(bif (decide (v4<((aE:Nat):Int))) then (bif ((decide (0≤(wrap .i64 (v4 - 1))∧(wrap .i64 (v4 - 1))<((aE:Nat):Int)))&&true) then (bif (decide ((0+(Int.toNat (wrap .i64 (v4 - 1))))<aH.length)) then (bif ((decide (0≤v4∧v4<((aE:Nat):Int)))&&true) then (bif (decide ((0+v4.toNat)<aH.length)) then (.to (.h3 v4 0 aF aR aY aZ aE aH (rd aH (0+(Int.toNat (wrap .i64 (v4 - 1))))) (rd aH (0+v4.toNat)) ([]:List R4))) else .stuck) else .stuck) else .stuck) else .stuck) else (bif (decide ((aF.length:Int)>400)) then (.ret [.nils,(.int .i64 4)]) else (.ret [(.dat aF.length (Zz aF)),(.int .i64 0)])))
 | .h3 v4 v38 aF aR aY aZ aE aH aQ bA aB=>(bif (decide (v38<(l0.length:Int))) then (bif ((decide (0≤v38∧v38<(l0.length:Int)))&&true) then (bif (decide ((rd l0 v38.toNat).c ≤aQ)) then (bif (decide (aQ<(rd l0 v38.toNat).f)) then (bif (Nat.beq 4 4&&((decide (0+aB.length=aB.length))&&decide ((aB.length+1+1)*(32+1)≤Uw))) then (.to (.h3 v4 (wrap .i64 (v38+1)) aF aR aY aZ aE aH aQ bA (aB++[(R4.mk (rd l0 v38.toNat).a (rd l0 v38.toNat).b (rd l0 v38.toNat).d (rd l0 v38.toNat).e)]))) else .stuck) else (.to (.h3 v4 (wrap .i64 (v38+1)) aF aR aY aZ aE aH aQ bA aB))) else (.to (.h3 v4 (wrap .i64 (v38+1)) aF aR aY aZ aE aH aQ bA aB))) else .stuck) else (bif (Uj (cvT aB)) then (bif ((Xn (cvT aB)) != 0) then (.ret [.nils,(.int .i64 (Xn (cvT aB)))]) else (bif (decide ((((Zc (cvT aB)).length :Nat):Int)>0)) then (bif (aZ == aQ) then (bif (Wg (cvT aR) (cvT (Zc (cvT aB)))) then (bif (Ur (cvT aR) (cvT (Zc (cvT aB)))) then (.to (.h5 bA aY aQ (Zc (cvT aB)) v4 aF aR aY aZ aE aH aB)) else (.to (.h4 aQ bA (Zc (cvT aB)) (((Zc (cvT aB)).length :Nat):Int) 0 (Zc (cvT aB)) v4 aF (Zc (cvT aB)) (aF.length:Int) aE aH aB))) else .stuck) else (.to (.h4 aQ bA (Zc (cvT aB)) (((Zc (cvT aB)).length :Nat):Int) 0 (Zc (cvT aB)) v4 aF (Zc (cvT aB)) (aF.length:Int) aE aH aB))) else (.to (.h4 aQ bA (Zc (cvT aB)) (((Zc (cvT aB)).length :Nat):Int) 0 (Zc (cvT aB)) v4 aF (Zc (cvT aB)) (aF.length:Int) aE aH aB)))) else .stuck))
 | .h4 v1 v2 v72 v73 v74 bG aT aD bB bC aE aH aQ=>(bif (decide (v74<v73)) then (bif ((decide (0≤v74∧v74<(v72.length:Int)))&&true) then (bif (Nat.beq 6 6&&((decide (0+aD.length=aD.length))&&decide ((aD.length+1+1)*(48+1)≤Uw))) then (.to (.h4 v1 v2 v72 v73 (wrap .i64 (v74+1)) bG aT (aD++[(R6.mk (rd v72 v74.toNat).a (rd v72 v74.toNat).b v1 (rd v72 v74.toNat).c (rd v72 v74.toNat).d v2)]) bB bC aE aH aQ)) else .stuck) else .stuck) else (.to (.h2 (wrap .i64 (aT+1)) aD bB bC v2 aE aH)))
 | .h5 v2 v8 bU bG aT aD bB bC bS bF bM aB=>(bif (decide (v8<(aD.length:Int))) then (bif ((decide (0≤v8∧v8<(aD.length:Int)))&&true) then (bif (decide ((0+v8.toNat)<aD.length)) then (.to (.h5 v2 (wrap .i64 (v8+1)) bU bG aT (aD.set (0+v8.toNat) (R6.mk (rd aD (0+v8.toNat)).a (rd aD (0+v8.toNat)).b (rd aD (0+v8.toNat)).c (rd aD (0+v8.toNat)).d (rd aD (0+v8.toNat)).e v2)) bB bC bS bF bM aB)) else .stuck) else .stuck) else (.to (.h2 (wrap .i64 (aT+1)) aD bB bC v2 bF bM)))
def y2f (l0:List R6):Xv slmS:=(bif (decide ((l0.length:Int)>400)) then (.ret [.nils,(.int .i64 4)]) else (.to (.h0 0)))
theorem w4x (l0:List R6): ∀s,Yt prog (Zy prog 47) (slmC l0) (slmC l0 s) (Xu l0 s)
 | .h0 v8=>(lb (fun k0=>(lo fun aG=>(lb (fun k1=>(lb (fun k2=>(lr 15 47 [1,1,0,1,0,0] 1 15 [(2,.nils),(3,(ii 8))] (sl Jm 54 [] ⟨[],[],[some [2,3]],[]⟩ ⟨[],[],[]⟩ (trs 3 []) (tt k2 (tt k1 (ww aG (tt k0 nn))))))) (fun k2=>(sl Jm 112 [(3,1,Zz ([]:List Int))] ⟨[6,1,7,2,3,4,5,8],[],u8e,u8g⟩ ⟨[],[.keep,.keep,.cells [.grow 7 1],.keep,.keep,.keep,.keep,.keep],[]⟩ (bl 4 11) (pp (fl ([]:List Int) nn) (tt k2 (tt k1 (ww aG (tt k0 nn))))))))) (fun k1=>(sl Jm 44 [] ⟨[],[],slmN0,slmM0⟩ ⟨[],[],[]⟩ (bl 2 1) (tt k1 (ww aG (tt k0 nn)))))))) (fun k0=>(sl Jm 81 [(3,1,Zz ([]:List Int))] ⟨[5,0,6,1,2,3,4,7],[],u8e,u8g⟩ ⟨[],[.keep,.keep,.cells [.grow 7 1],.keep,.keep,.keep,.keep,.keep],[]⟩ (bl 3 4) (pp (fl ([]:List Int) nn) (tt k0 nn)))))
 | .h1 v16 aA=>(lb (fun k0=>(lo fun o0=>(lo fun o1=>(sl Jm 34 [] ⟨[0,1,2,3,4,5,6,10],[],u8e,u8g⟩ ⟨[],[.keep,.keep,.cells [.len (y7r aA l0 v16).length],.keep,.keep,.keep,.keep,.rowed 1 (y7r aA l0 v16).length (Zz (y7r aA l0 v16))],[]⟩ [true] (pp (xL (aA.length+2) (y7r aA l0 v16).length) (pp (xL (aA.length+2) (y7r aA l0 v16).length) (pp (xS (aA.length+2) (Ze (Zz aA) 0 aA.length 1 [(ii (rd l0 (tn v16)).c),(ii (rd l0 (tn v16)).f)]) (Zz (y7r aA l0 v16))) (pp (pp (xF (Ze (Zz aA) 0 aA.length 1 [(ii (rd l0 (tn v16)).c),(ii (rd l0 (tn v16)).f)])) nn) (ww o1 (ww o0 (tt k0 nn))))))))))) (fun k0=>(lo fun o0=>(lo fun o1=>(sl Jm 46 [(67,6,Zz ([]:List R6))] ⟨[8,3,4,5,6,2,7,0,1,9],[],u8d,u8f⟩ ⟨[],(kpB 4 [.cells [.grow 9 6,.list 0 (Zz ([]:List R4)),.keep,.keep],.keep,.rowed 1 (y7u aA).length (Zz (y7u aA)),.keep,.keep,.keep]),[]⟩ (bl 2 0) (pp (xL aA.length (y7u aA).length (by first | exact z2e _ _ | exact Va rfl)) (pp (xS aA.length (Zz (y7u aA)) (Zz (y7u aA))) (pp (fl (y7u aA) (fl ([]:List R6) nn)) (pp (pp (xG (Nat.beq 1 1)) (pp (xG (Nat.beq 1 1)) (pp (xG (Nat.beq 0 0)) (pp (xG (decide (aA.length=aA.length))) (pp (xG (isI (Zz (Xc (Yu aA.length (cOf (Zz aA))))))) (xG (decide (aA.length<4611686018427387904)))))))) (pp (pp (xG (Nat.beq 1 1)) (pp (xG (Nat.beq 1 1)) (pp (xG (Nat.beq 0 0)) (pp (xG (decide (aA.length=aA.length))) (pp (xG (isI (Zz aA))) (xG (decide (aA.length<4611686018427387904)))))))) (tt k0 nn)))))))))))
 | .h2 v4 aF aR aY aZ aE aH=>(lb (fun k0=>(lo fun o0=>(lo fun o1=>(lo fun o2=>(lo fun o3=>(sl Jm 48 [(88,4,Zz ([]:List R4))] ⟨[0,1,2,3,4,5,6,7,8,10,11,12,9],[],v6w,v6y⟩ ⟨[],(kpB 10 [.cells [.grow 11 4],.keep,.keep]),[]⟩ (trs 3 []) (pp (fl aH (fl ([]:List R4) (fl aF nn))) (ww o3 (ww o2 (ww o1 (ww o0 (tt k0 nn)))))))))))) (fun k0=>(lb (fun k1=>(lr 15 3 [1,1,1,1,1,1,1,0] 1 15 [(2,.nils),(3,(ii 4))] (sl Jm 33 [] ⟨[],[],[some [2,3]],[]⟩ ⟨[],[],[]⟩ (bl 2 2) (tt k1 (tt k0 nn))))) (fun k1=>(lr 15 3 [1,1,1,1,1,1,1,0] 1 15 [(2,(.dat aF.length (Zz aF))),(3,(ii 0))] (sl Jm 36 [] ⟨[],[9],[some [2,3]],[]⟩ ⟨[(2,.frz aF.length aF.length (Zz aF) (Zz aF))],[],[]⟩ (bl 2 0) (pp (xZ (z1p 6 6 0 aF.length aF.length (Zz aF)) aF.length (Zz aF)) (pp (xL aF.length aF.length) (pp (xS aF.length (Zz aF) (Zz aF)) (pp (fl aF nn) (tt k1 (tt k0 nn))))))))))))
 | .h3 v4 v38 aF aR aY aZ aE aH aQ bA aB=>(lb (fun k0=>(lo fun aG=>(lb (fun k1=>(lb (fun k2=>(lo fun o0=>(sl Jm 41 [] ⟨[0,1,2,3,4,5,6,7,8,9,10,15,12],[],v6w,v6y⟩ ⟨[],(kpB 10 [.cells [.len (y7t aB l0 v38).length],.rowed 4 (y7t aB l0 v38).length (Zz (y7t aB l0 v38)),.keep]),[]⟩ (trs 8 []) (pp (xL (aB.length+1) (y7t aB l0 v38).length) (pp (xL (aB.length+1) (y7t aB l0 v38).length) (pp (xS (aB.length+1) (Ze (Zz aB) 0 aB.length 4 [(ii (rd l0 (tn v38)).a),(ii (rd l0 (tn v38)).b),(ii (rd l0 (tn v38)).d),(ii (rd l0 (tn v38)).e)]) (Zz (y7t aB l0 v38))) (pp (fl aH (pp (xF (Ze (Zz aB) 0 aB.length 4 [(ii (rd l0 (tn v38)).a),(ii (rd l0 (tn v38)).b),(ii (rd l0 (tn v38)).d),(ii (rd l0 (tn v38)).e)])) (fl aF nn))) (ww o0 (tt k2 (tt k1 (ww aG (tt k0 nn)))))))))))) (fun k2=>(sl Jm 41 [] ⟨(List.range 13),[],v6w,v6y⟩ ⟨[],[],[]⟩ (trs 7 [false]) (pp (fl aH (fl aB (fl aF nn))) (tt k2 (tt k1 (ww aG (tt k0 nn))))))))) (fun k1=>(sl Jm 41 [] ⟨(List.range 13),[],v6w,v6y⟩ ⟨[],[],[]⟩ (bl 8 1) (pp (fl aH (fl aB (fl aF nn))) (tt k1 (ww aG (tt k0 nn))))))))) (fun k0=>(Xb (sl Jm (C':=⟨⟨65,0,true⟩,(Uv prog 95 [1,1,0,1,0,1,0,0] 4),(Zb prog 95 [1,1,0,1,0,1,0,0] 1),(some 0),[],⟨Yg [(2,(.ptr 1 0)),(4,(.ptr 2 0)),(5,(.ptr 3 0)),(6,(.ptr 4 0)),(7,(.ptr 6 0)),(20,(.dat aB.length (Zz aB)))],y1c [(1,⟨[.nilf],117,none⟩),(2,⟨[.nils],38,none⟩),(3,⟨[(ii 0)],26,none⟩),(4,⟨[(.sla 5 6 0 aF.length (.un 6)),(.dat aR.length (Zz aR)),(ii aY),(ii aZ)],168,none⟩),(5,⟨Yx aF.length (Zz aF),67,some ⟨6,aF.length,(Zz aF)⟩⟩),(6,⟨[(ii aQ),(ii bA),(.sl 7 0 1 (.ex 1))],173,none⟩),(7,⟨[(.dat aB.length (Zz aB))],99,none⟩),(8,⟨[(.sla 9 1 0 aE (.un 1))],93,none⟩),(9,⟨Yx aH.length (Zz aH),3,some ⟨1,aH.length,(Zz aH)⟩⟩),(10,⟨[(.sl 11 0 1 (.un 1))],166,none⟩),(11,⟨[(.dat l0.length (Zz l0))],22,none⟩)],12,[],true⟩,[⟨⟨86,0,true⟩,(Uv prog 171 [1,0,0,1,0,0,1,1,0] 2),(Zb prog 171 [1,0,0,1,0,0,1,1,0] 1),none,[],Yg [(0,(.yld 0)),(1,(.ptr 8 0)),(2,(.ptr 10 0)),(4,(ii v4)),(82,(.yld 0)),(83,(.agg [(ii aQ),(ii bA),(.sl 7 0 1 (.ex 1))]))]⟩,⟨⟨65,0,true⟩,none,(.inRangeFunc 0::(Zb prog 95 [1,1,0,1,0] 1)),none,(Zy prog 95),Yg [(4,(.ptr 2 0)),(5,(.ptr 3 0)),(6,(.ptr 4 0))]⟩,⟨⟨15,0,true⟩,(Uv prog 47 [1,1,1,0] 3),(Zb prog 47 [1,1,1,0] 1),none,(Zy prog 15),Yg [(9,(.agg [.nilf])),(11,(.sl 11 0 1 (.un 1)))]⟩],(y7b [(0,⟨.busy,none,65,Yg [(2,(.ptr 1 0)),(4,(.ptr 2 0)),(5,(.ptr 3 0)),(6,(.ptr 4 0))],[15],(Vb prog 95 [1,1,0,1,0,0]),(Vb prog 95 [1,1,0,1,0,1])⟩)])⟩) 37 [] ⟨[0,1,2,3,4,12,13,10,5,6,7,8],[11],[some [2,4,5,6,7,20],some [0,1,2,4,82,83],some [4,5,6],some [9,11]],[some [2,4,5,6],none,none,none,none,none,none,none,none,none,none,none]⟩ ⟨[(20,.frz aB.length aB.length (Zz aB) (Zz aB))],[.keep,.keep,.keep,.keep,.keep,.keep,.keep,.cells [.frz aB.length aB.length (Zz aB) (Zz aB)],.keep,.keep,.keep,.keep],[]⟩ (bl 2 0) (pp (xZ (z1p 4 4 0 aB.length aB.length (Zz aB)) aB.length (Zz aB)) (pp (xL aB.length aB.length) (pp (xS aB.length (Zz aB) (Zz aB)) (pp (xZ (z1p 4 4 0 aB.length aB.length (Zz aB)) aB.length (Zz aB)) (pp (xL aB.length aB.length) (pp (xS aB.length (Zz aB) (Zz aB)) (pp (fl aF (fl aH nn)) (pp (fl aB nn) (tt k0 nn)))))))))) (lo fun aG=>(lb (fun k1=>(lr 15 3 [1,1,1,1,1,1,1,0] 1 15 [(2,.nils),(3,(ii (Xn (cvT aB))))] (sl Jm 50 [] ⟨[],[],[some [2,3]],[]⟩ ⟨[],[],[]⟩ (bl 3 6) (tt k1 (pp (pp (xr aB) (xw aG)) nn))))) (fun k1=>(lb (fun k2=>(lb (fun k3=>(lo fun bX=>(lb (fun k4=>(sl Jm 75 [] ⟨[4,5,0,1,2,3,8,9,10,11,7],[],slmN5,slmM5⟩ ⟨[],[],[]⟩ (bl 15 32764) (pp (fl aF (fl aH nn)) (tt k4 (pp (pp (xr aR) (pp (xI R4 (Zc (cvT aB)).length (Zz (Zc (cvT aB)))) (xw bX))) (tt k3 (tt k2 (tt k1 (pp (pp (xr aB) (xw aG)) nn))))))))) (fun k4=>(sl Jm 95 [] ⟨[4,0,1,2,3,8,9,10,11,7,5],[],v6v,v6x⟩ ⟨[],[],[]⟩ (bl 15 16380) (pp (fl aH (fl aF nn)) (tt k4 (pp (pp (xr aR) (pp (xI R4 (Zc (cvT aB)).length (Zz (Zc (cvT aB)))) (xw bX))) (tt k3 (tt k2 (tt k1 (pp (pp (xr aB) (xw aG)) nn)))))))))))) (fun k3=>(sl Jm 95 [] ⟨[4,0,1,2,3,8,9,10,11,7,5],[],v6v,v6x⟩ ⟨[],[],[]⟩ (bl 15 252) (pp (fl aH (fl aF nn)) (tt k3 (tt k2 (tt k1 (pp (pp (xr aB) (xw aG)) nn))))))))) (fun k2=>(sl Jm 95 [] ⟨[4,0,1,2,3,8,9,10,11,7,5],[],v6v,v6x⟩ ⟨[],[],[]⟩ (bl 15 0) (pp (fl aH (fl aF nn)) (tt k2 (tt k1 (pp (pp (xr aB) (xw aG)) nn)))))))))))))
 | .h4 v1 v2 v72 v73 v74 bG aT aD bB bC aE aH aQ=>(lb (fun k0=>(lo fun o0=>(lo fun o1=>(sl Jm 23 [] ⟨[0,1,2,3,4,5,6,7,8,9,13],[],v6v,v6x⟩ ⟨[],[.cells [.len (y7s aD v72 v74 v1 v2).length,.keep,.keep,.keep],.keep,.keep,.keep,.keep,.keep,.keep,.keep,.keep,.keep,.rowed 6 (y7s aD v72 v74 v1 v2).length (Zz (y7s aD v72 v74 v1 v2))],[]⟩ [true] (pp (xL (aD.length+1) (y7s aD v72 v74 v1 v2).length) (pp (xL (aD.length+1) (y7s aD v72 v74 v1 v2).length) (pp (xS (aD.length+1) (Ze (Zz aD) 0 aD.length 6 [(ii (rd v72 (tn v74)).a),(ii (rd v72 (tn v74)).b),(ii v1),(ii (rd v72 (tn v74)).c),(ii (rd v72 (tn v74)).d),(ii v2)]) (Zz (y7s aD v72 v74 v1 v2))) (pp (fl aH (pp (xF (Ze (Zz aD) 0 aD.length 6 [(ii (rd v72 (tn v74)).a),(ii (rd v72 (tn v74)).b),(ii v1),(ii (rd v72 (tn v74)).c),(ii (rd v72 (tn v74)).d),(ii v2)])) nn)) (ww o1 (ww o0 (tt k0 nn))))))))))) (fun k0=>(sl Jm 22 [] ⟨[1,2,3,4,0,5,6,7,8,10],[],u8d,u8f⟩ ⟨[],[],[]⟩ (bl 2 0) (pp (fl aH (fl aD nn)) (tt k0 nn)))))
 | .h5 v2 v8 bU bG aT aD bB bC bS bF bM aB=>(lb (fun k0=>(lo fun o0=>(lo fun o1=>(sl Jm 34 [] ⟨(List.range 11),[],slmN5,slmM5⟩ ⟨[],[.cells [.len (y7v aD v8 v2).length,.keep,.keep,.keep],.rowed 6 (y7v aD v8 v2).length (Zz (y7v aD v8 v2)),.keep,.keep,.keep,.keep,.keep,.keep,.keep,.keep,.keep],[]⟩ [true] (pp (xL aD.length (y7v aD v8 v2).length) (pp (xL aD.length (y7v aD v8 v2).length) (pp (xS aD.length (Xo (Zz aD) (0+(tn v8)) 5 [(ii v2)]) (Zz (y7v aD v8 v2))) (pp (pp (xF (Xo (Zz aD) (0+(tn v8)) 5 [(ii v2)])) (fl bM nn)) (ww o1 (ww o0 (tt k0 nn))))))))))) (fun k0=>(sl Jm 36 [] ⟨[2,3,4,5,0,6,7,8,9,1],[],u8d,u8f⟩ ⟨[],[],[]⟩ (bl 2 0) (pp (fl bM (fl aD nn)) (tt k0 nn)))))
theorem x6k (l0:List R6):Yt prog (Zy prog 47) (slmC l0) (Za prog 47 [(.dat l0.length (Zz l0))] true []) (y2f l0):=(lb (fun k0=>(lr 15 47 [1,0,1,0,0] 1 15 [(2,.nils),(3,(ii 4))] (sl Jm 18 [] ⟨[],[],[some [2,3]],[]⟩ ⟨[],[],[]⟩ [true] (tt k0 nn)))) (fun k0=>(sl Jm 41 [] ⟨[],[],slmN0,slmM0⟩ ⟨[],[],[]⟩ [false] (tt k0 nn))))
theorem v6u (l0:List R6) (n:Nat) (vs:List AVal) (h:Zs (Xu l0) n (y2f l0)=.ret vs):Jy prog (Zy prog 47) (Za prog 47 [(.dat l0.length (Zz l0))] true []) vs:=by have:=Zd (w4x l0) n _ (x6k l0);rwa [h] at this
def w3q (x y z:Int):Bool:=decide (y1f (y1f x y) z≥(-1000000))&&decide (y1p (y1p x y) z≤1000000)
theorem j2c (x y z:Int): ∃N,Zs (x9w x y z) N (y3p x y z)=.ret [.bool (w3q x y z)]:=⟨0,by
 unfold y3p w3q;cases decide (y1f (y1f x y) z≥(-1000000)) <;> rfl⟩
instance : DecidableEq R7:=Classical.typeDecidableEq _
def y0w (l m:List R7):Bool:=decide (l=m)
def z2r (l m:List R7):Bool:=decide (l.length≤1000000)
def eq7 (r s:R7):Bool:=(r.a == s.a)&&(((r.b == s.b)&&((r.c == s.c)&&((r.d == s.d)&&true)))&&(((r.e == s.e)&&((r.f == s.f)&&((r.g == s.g)&&true)))&&true))
theorem x1n (r s:R7):eq7 r s=true↔r=s:=by obtain ⟨a,b,c,d,e,f,g⟩:=r;obtain ⟨a',b',c',d',e',f',g'⟩:=s;simp [eq7,and_assoc]
theorem u6t (l m:List R7) (hl:l.length≤1000000) (hm:l.length=m.length): ∀(k i:Nat),i+k=l.length→ ∃N,Zs (z6t l m) N (.to (.h0 (i:Int)))=.ret [.bool (decide (l.drop i=m.drop i))]
 | 0,i,h=>by refine ⟨1,?_⟩;rw [Zv,At (by omega),At (by omega)];simp (disch:=omega) only [z6t,Yz,Aa,Zp,Av]
 | k+1,i,h=>by
  have hi:i<l.length:=by omega
  obtain ⟨N,hN⟩:=u6t l m hl hm k (i+1) (by omega);refine ⟨N+1,?_⟩;rw [Zv,Yj hi,Yj (show i<m.length by omega)];have e:z6t l m (.h0 (i:Int))=bif !(eq7 (rd l i) (rd m i)) then .ret [.bool false] else .to (.h0 ((i+1:Nat):Int)):=by simp (disch:=omega) only [z6t,eq7,Zn,Zo,Zk,Zx,Zj,Ai,Ab,Aa]
  rw [e];by_cases q:rd l i=rd m i
  ·rw [(x1n _ _).2 q,AG,Aa,hN]
   congr 3
   exact Bu.2 ⟨fun h=>by rw [q,h],fun h=>(List.cons.inj h).2⟩
  ·rw [show eq7 (rd l i) (rd m i)=false from A8.2 fun h=>q ((x1n _ _).1 h),AK,Ab,Zp]
   congr 3
   exact (Ay fun h=>q (List.cons.inj h).1).symm
theorem j3w (l m:List R7) (h:z2r l m=true): ∃N,Zs (z6t l m) N (y3q l m)=.ret [.bool (y0w l m)]:=by
 have hl:l.length≤1000000:=AC h;unfold y3q;by_cases hm:l.length=m.length
 ·obtain ⟨N,hN⟩:=u6t l m hl hm l.length 0 (Ag _);refine ⟨N,?_⟩;rw [show ((l.length:Int) != (m.length:Int))=false by rw [hm];simp,Aa];exact hN
 ·refine ⟨0,?_⟩;rw [show ((l.length:Int) != (m.length:Int))=true by simp;omega,Ab,Zp]
  congr 3
  exact (Ay fun e=>hm (by rw [e])).symm
def slmX :List AVal:=[.nils,.int .i64 8]
def eF (l:List R6):Nat→Nat→Int
 | 0,_=>0
 | k+1,i=>bif j4t l (rd (D6.cuts l) i) then Xn (D6.inn l (rd (D6.cuts l) i)) else eF l k (i+1)
def slmE (l:List R6) (k i:Nat):List AVal:=[.nils,.int .i64 (eF l k i)]
section
variable (l:List R6) (hl:l.length≤400)
include hl
theorem u2s (i:Nat) (out:List R6) (last:List R4) (first fin x x':Int): ∀(k j:Nat) (acc:List R4),j+k=l.length→acc.length≤j→
  ∃n,∀N,Zs (Xu l) (N+n) (.to (.h3 (i:Int) (j:Int) out last first fin ((D6.cuts l).length) (Wc (Xc (D6.ends l))) x x' acc))=Zs (Xu l) N (.to (.h3 (i:Int) (l.length:Int) out last first fin ((D6.cuts l).length) (Wc (Xc (D6.ends l))) x x' (acc++D6.inn (l.drop j) x)))
 | 0,j,acc,h,ha=>by refine ⟨0,fun N=> ?_⟩;rw [At (by omega),show D6.inn ([]:List R6) x=[] from rfl,Az,A5,show j=l.length by omega]
 | k+1,j,acc,h,ha=>by
  have hj:j<l.length:=by omega
  obtain ⟨n,hn⟩:=u2s i out last first fin x x' k (j+1) (acc++D6.inn [rd l j] x) (by omega) (by have:=D6.inn_length [rd l j] x;simp only [Ar,Bl] at*;omega)
  refine ⟨n+1,fun N=> ?_⟩;have e:D6.inn (l.drop j) x=D6.inn [rd l j] x++D6.inn (l.drop (j+1)) x:=by rw [Yj hj,←D6.inn_append];rfl
  rw [e,←AD,Zv,←AH,←hn N];by_cases h1:D6.lo (rd l j)≤x
  ·by_cases h2:x<D6.hi (rd l j)
   ·rw [D6.inn_t _ _ h1 h2];simp only [D6] at h1 h2 ⊢;simp (disch:=omega) only [Xu,Wz,Zg,Zq,Zn,Zo,Yc,Yk,Yp,Zf,Zk,Zx,Ym,Zj,Ag,Av,Ai,Al,Ab,Aa]
   ·rw [D6.inn_f2 _ _ h2,Az];simp only [D6] at h1 h2;simp (disch:=omega) only [Xu,Wz,Yz,Zg,Zq,Zn,Zo,Yc,Yk,Yp,Zf,Zk,Zx,Ym,Zj,Ag,Av,Ai,Al,Ab,Aa]
  ·rw [D6.inn_f1 _ _ h1,Az];simp only [D6] at h1;simp (disch:=omega) only [Xu,w0e,Zg,Zq,Zn,Zo,Yc,Yk,Yp,Zf,Zk,Zx,Ym,Zj,Ag,Av,Ai,Al,Ab,Aa]
theorem u2r (i:Nat) (hi:i≤1000) (x x':Int) (s last:List R4) (first:Int) (inn:List R4) (hs:s.length≤1000): ∀(k j:Nat) (out:List R6),j+k=s.length→out.length≤10000000+j→
  ∃n,∀N,Zs (Xu l) (N+n) (.to (.h4 x x' s (s.length:Int) (j:Int) s (i:Int) out last first ((D6.cuts l).length) (Wc (Xc (D6.ends l))) inn))=Zs (Xu l) N (.to (.h2 ((i+1:Nat):Int) (out++(s.drop j).map (D6.put x x')) last first x' ((D6.cuts l).length) (Wc (Xc (D6.ends l)))))
 | 0,j,out,h,ho=>by have _u:=hl;refine ⟨1,fun N=> ?_⟩;rw [At (by omega),Zv];simp (disch:=omega) only [Xu,Yz,Zk,Zx,Aa,Bb,Az]
 | k+1,j,out,h,ho=>by
  obtain ⟨n,hn⟩:=u2r i hi x x' s last first inn hs k (j+1) (out++[D6.put x x' (rd s j)]) (by omega) (by simp;omega)
  refine ⟨n+1,fun N=> ?_⟩;have:=hn N;rw [Yj (show j<s.length by omega),A4,←AD,Zv];simp (disch:=omega) only [Xu,Zg,Zq,Zn,Zo,Yc,Yk,Yp,Zf,Zk,Zx,Ym,Zj,Ag,Av,Ai,Al,Ab,Aa];rw [AH] at this;exact this
theorem u2q (i:Nat) (hi:i≤1000) (x x' fin:Int) (s last:List R4) (first:Int) (inn:List R4): ∀(k j:Nat) (out:List R6),j+k=out.length→out.length≤10000000→
  ∃n,∀N,Zs (Xu l) (N+n) (.to (.h5 x' (j:Int) x s (i:Int) out last first fin ((D6.cuts l).length) (Wc (Xc (D6.ends l))) inn))=Zs (Xu l) N (.to (.h2 ((i+1:Nat):Int) (D6.grow out j x') last first x' ((D6.cuts l).length) (Wc (Xc (D6.ends l)))))
 | 0,j,out,h,ho=>by have _u:=hl;refine ⟨1,fun N=> ?_⟩;rw [D6.grow_nil _ _ _ (by omega),Zv];simp (disch:=omega) only [Xu,Yz,Zk,Zx,Aa]
 | k+1,j,out,h,ho=>by
  obtain ⟨n,hn⟩:=u2q i hi x x' fin s last first inn k (j+1) (out.set j (D6.ext x' (rd out j))) (by simp;omega) (by simpa using ho)
  refine ⟨n+1,fun N=> ?_⟩;have:=hn N;rw [D6.grow_set out j _ (by omega)] at this;rw [←AD,Zv];simp (disch:=omega) only [Xu,Zg,Zq,Zn,Zo,Yc,Yk,Yp,Zf,Zk,Zx,Ym,Zj,Ag,Av,Ai,Al,Ab,Aa];exact this
theorem v0c : ∀(k i:Nat) (s:Sw R6 R4),k=(D6.cuts l).length - 1 - i→i≤(D6.cuts l).length →s.out.length≤i*1000→s.last.length≤1000→s.first≤s.out.length→
  ∃n,Zs (Xu l) n (.to (.h2 ((i+1:Nat):Int) s.out s.last (s.first:Int) s.fin ((D6.cuts l).length) (Wc (Xc (D6.ends l)))))=.ret ((bif okF l k i then Qx (D6.go l k i s).out else slmE l k i))
 | 0,i,s,h,hi,ho,hla,hf=>by
  have hc:=D6.cuts_length l;refine ⟨1,?_⟩;rw [Zv,show D6.go l 0 i s=s from rfl,show okF l 0 i=true from rfl,Ab];unfold Qx;by_cases q:(s.out.length:Int)>400
  ·simp (disch:=omega) only [Xu,Yz,Yn,Ab,Aa,Zp]
  ·simp (disch:=omega) only [Xu,Zg,Yz,Xm,Ab,Aa,Zp]
 | k +1,i,s,h,hi,ho,hla,hf=>by
  have hc:=D6.cuts_length l;have hi1:i+1<(D6.cuts l).length :=by omega
  have hpl:(Wc (Xc (D6.ends l))).length =2*l.length:=by rw [Uq,Vq,D6.ends_length]
  have r0:rd (Wc (Xc (D6.ends l))) i=rd (D6.cuts l) i:=z4k _ _ (by show i<(D6.cuts l).length;omega);have r1:rd (Wc (Xc (D6.ends l))) (i+1)=rd (D6.cuts l) (i+1):=z4k _ _ (by show i+1<(D6.cuts l).length;omega);have hbig:i*1000≤1000*1000:=AJ _ (by omega);have hsl:=u7j l (rd (D6.cuts l) i);have hsd:D6.sec l (rd (D6.cuts l) i)=Zc (D6.inn l (rd (D6.cuts l) i)):=rfl;obtain ⟨n3,h3⟩:=u2s l hl (i+1) s.out s.last (s.first:Int) s.fin (rd (D6.cuts l) i) (rd (D6.cuts l) (i+1)) l.length 0 [] (Ag _) (Ao _);simp only [A3,Bf,Qo] at h3;have w1:Uj (D6.inn l (rd (D6.cuts l) i))=true:=rfl;have w2:Wg s.last (Zc (D6.inn l (rd (D6.cuts l) i)))=true:=Ah (by omega);have ol:=D6.one_length l (rd (D6.cuts l) i) (rd (D6.cuts l) (i+1)) s;have st0: ∀N,Zs (Xu l) (N+n3+1) (.to (.h2 ((i+1:Nat):Int) s.out s.last (s.first:Int) s.fin ((D6.cuts l).length) (Wc (Xc (D6.ends l)))))=Zs (Xu l) N (.to (.h3 ((i+1:Nat):Int) (l.length:Int) s.out s.last (s.first:Int) s.fin ((D6.cuts l).length) (Wc (Xc (D6.ends l))) (rd (D6.cuts l) i) (rd (D6.cuts l) (i+1)) (D6.inn l (rd (D6.cuts l) i)))):=fun N=>by
   rw [←h3 N,Zv];have e1:wrap .i64 (((i+1:Nat):Int) - 1)=(i:Int):=by rw [Zt];exact Zk (by omega)
   simp (disch:=omega) only [Xu,e1,r0,r1,Zg,Zq,Zn,Zo,Yc,Yk,Yp,Zf,Zk,Zx,Ym,Zj,Ag,Av,Ai,Al,Ab,Aa]
  rcases Yd (j4t l (rd (D6.cuts l) i)) with q0 | q0
  ·refine ⟨1+n3+1,?_⟩;rw [st0 1,Zv];simp only [okF,slmE,eF,q0,Ab,Aa];have q0':(Xn (D6.inn l (rd (D6.cuts l) i)) != 0)=true:=q0;simp (disch:=omega) only [Xu,Zg,Zq,Yz,q0',w1,Ab,Aa,Zp]
  have q0':(Xn (D6.inn l (rd (D6.cuts l) i)) != 0)=false:=q0;rcases Yd (decide (0<(D6.sec l (rd (D6.cuts l) i)).length)&&((s.fin == rd (D6.cuts l) i)&&D6.same s.last (D6.sec l (rd (D6.cuts l) i)))) with q | q
  ·obtain ⟨n5,h5⟩:=u2q l hl (i+1) (by omega) (rd (D6.cuts l) i) (rd (D6.cuts l) (i+1)) s.fin (D6.sec l (rd (D6.cuts l) i)) s.last (s.first:Int) (D6.inn l (rd (D6.cuts l) i)) (s.out.length - s.first) s.first s.out (by omega) (by omega)
   have e:D6.one l (rd (D6.cuts l) i) (rd (D6.cuts l) (i+1)) s=⟨D6.grow s.out s.first (rd (D6.cuts l) (i+1)),s.last,s.first,rd (D6.cuts l) (i+1)⟩:=by unfold Dim.one;rw [q];rfl
   obtain ⟨n0,h0⟩:=v0c k (i+1) (D6.one l (rd (D6.cuts l) i) (rd (D6.cuts l) (i+1)) s) (by omega) (by omega) (by omega) (by rw [e];exact hla) (by rw [e];simpa [Dim.grow_length] using hf);refine ⟨n0+n5+1+n3+1,?_⟩;rw [st0 (n0+n5+1),Zv];simp only [Ac,As] at q;obtain ⟨q1,q2,q3⟩:=q;have q3':Ur s.last (Zc (D6.inn l (rd (D6.cuts l) i)))=true:=q3;rw [hsd] at q1;simp (disch:=omega) only [Xu,Zg,Zq,Yz,Yn,q0',q2,q3',w1,w2,Ab,Aa];rw [←hsd,h5 n0];simp only [okF,slmE,eF,q0,Aa];simp only [Dim.go];rw [e] at h0 ⊢;exact h0
  ·obtain ⟨n4,h4⟩:=u2r l hl (i+1) (by omega) (rd (D6.cuts l) i) (rd (D6.cuts l) (i+1)) (D6.sec l (rd (D6.cuts l) i)) (D6.sec l (rd (D6.cuts l) i)) (s.out.length:Int) (D6.inn l (rd (D6.cuts l) i)) hsl (D6.sec l (rd (D6.cuts l) i)).length 0 s.out (Ag _) (by omega);simp only [A3,Qo] at h4;have e:D6.one l (rd (D6.cuts l) i) (rd (D6.cuts l) (i+1)) s=⟨s.out++(D6.sec l (rd (D6.cuts l) i)).map (D6.put (rd (D6.cuts l) i) (rd (D6.cuts l) (i+1))),D6.sec l (rd (D6.cuts l) i),s.out.length,rd (D6.cuts l) (i+1)⟩:=by unfold Dim.one;rw [q];rfl
   obtain ⟨n0,h0⟩:=v0c k (i+1) (D6.one l (rd (D6.cuts l) i) (rd (D6.cuts l) (i+1)) s) (by omega) (by omega) (by omega) (by rw [e];exact hsl) (by rw [e];simp);have hg:Zs (Xu l) 1 (.to (.h3 ((i+1:Nat):Int) (l.length:Int) s.out s.last (s.first:Int) s.fin ((D6.cuts l).length) (Wc (Xc (D6.ends l))) (rd (D6.cuts l) i) (rd (D6.cuts l) (i+1)) (D6.inn l (rd (D6.cuts l) i))))=.to (.h4 (rd (D6.cuts l) i) (rd (D6.cuts l) (i+1)) (D6.sec l (rd (D6.cuts l) i)) ((D6.sec l (rd (D6.cuts l) i)).length :Int) 0 (D6.sec l (rd (D6.cuts l) i)) ((i+1:Nat):Int) s.out (D6.sec l (rd (D6.cuts l) i)) (s.out.length:Int) ((D6.cuts l).length) (Wc (Xc (D6.ends l))) (D6.inn l (rd (D6.cuts l) i))):=by
    rw [show (1:Nat)=0+1 from rfl,Zv];rw [hsd] at q ⊢;have e3:D6.same s.last (Zc (D6.inn l (rd (D6.cuts l) i)))=Ur s.last (Zc (D6.inn l (rd (D6.cuts l) i))):=rfl;rw [e3] at q;by_cases q1:0<(Zc (D6.inn l (rd (D6.cuts l) i))).length
    ·rw [Ah q1,Al] at q;rcases Yd (s.fin == rd (D6.cuts l) i) with q2 | q2
     ·rw [q2,Al] at q;simp (disch:=omega) only [Xu,Zg,Zq,Yz,Yn,q0',q2,q,w1,w2,Ab,Aa];rfl
     ·simp (disch:=omega) only [Xu,Zg,Zq,Yz,Yn,q0',q2,w1,w2,Ab,Aa];rfl
    ·simp (disch:=omega) only [Xu,Zg,Zq,Yz,Xm,q0',w1,w2,Ab,Aa];rfl
   refine ⟨n0+n4+1+n3+1,?_⟩;rw [st0 (n0+n4+1),z8k _ (n0+n4) 1,hg,h4 n0];simp only [okF,slmE,eF,q0,Aa];simp only [Dim.go];rw [e] at h0 ⊢;exact h0
theorem u2t : ∀(k i:Nat) (acc:List Int),i+k=l.length→acc=D6.ends (l.take i)→ ∃n,Zs (Xu l) n (.to (.h1 (i:Int) acc))=.ret ((bif okF l ((D6.cuts l).length - 1) 0 then Qx (D6.go l ((D6.cuts l).length - 1) 0 ⟨[],[],0,0⟩).out else slmE l ((D6.cuts l).length - 1) 0))
 | 0,i,acc,h,ha=>by
  have e:acc=D6.ends l:=by rw [ha,AP (by omega)]
  subst e;have hle:=D6.ends_length l;obtain ⟨n,hn⟩:=v0c l hl ((D6.cuts l).length - 1) 0 ⟨[],[],0,0⟩ (by omega) (AA _) (AA _) (AA _) (AA _);refine ⟨n+1,?_⟩;rw [Zv];simp (disch:=omega) only [Xu,Jd,z0f,y0f,Yz,Yk,Yp,Av,Ab,Aa];exact hn
 | k+1,i,acc,h,ha=>by
  have hle:=D6.ends_length (l.take i);have eW:acc.length≤2*i:=by rw [ha,hle];simp;omega
  obtain ⟨n,hn⟩:=u2t k (i+1) (acc++D6.ends [rd l i]) (by omega) (by
   rw [ha,A9];have:l[i]? =some (rd l i):=by rw [Yo (show i<l.length by omega)];exact Aq _
   rw [this,D6.ends_append];rfl)
  refine ⟨n+1,?_⟩;rw [Zv];simp (disch:=omega) only [Xu,Zg,Zq,Zn,Zo,Yc,Yk,Yp,Zf,Zk,Zx,Ym,Zj,Ag,Av,Ai,Al,Ab,Aa];exact hn
theorem u2u : ∀(k i:Nat),i+k=l.length→(∀s∈l.take i,z1i s=true)→ ∃n,Zs (Xu l) n (.to (.h0 (i:Int)))=.ret (bif l.all z1i then (bif okF l ((D6.cuts l).length - 1) 0 then Qx (D6.go l ((D6.cuts l).length - 1) 0 ⟨[],[],0,0⟩).out else slmE l ((D6.cuts l).length - 1) 0) else slmX)
 | 0,i,h,ht=>by have hv:l.all z1i=true:=Au.2 fun s hs=>ht s (by rw [AP (by omega)];exact hs);obtain ⟨n,hn⟩:=u2t l hl l.length 0 [] (Ag _) rfl;refine ⟨n+1,?_⟩;rw [Zv,hv,Ab];simp (disch:=omega) only [Xu,Yz,Aa];exact hn
 | k+1,i,h,ht=>by
  have hi:i<l.length:=by omega
  have hs:Xu l (.h0 (i:Int))=bif z1i (rd l i) then .to (.h0 ((i+1:Nat):Int)) else .ret slmX:=by have e:u7m (rd l i).a (rd l i).b (rd l i).c (rd l i).d (rd l i).e (rd l i).f =z1i (rd l i):=rfl;simp (disch:=omega) only [Xu,e,z6z,x4s,x4t,Zo,Zk,Zx,Zj,Ai,Ab,Aa];rfl
  rcases Yd (z1i (rd l i)) with q | q
  ·obtain ⟨n,hn⟩:=u2u k (i+1) (by omega) (fun s hs=>by
    rw [A9] at hs;have e:l[i]? =some (rd l i):=by rw [Yo hi];exact Aq _
    rw [e] at hs;simp only [Cb,AF,AT] at hs;rcases hs with hs | rfl
    ·exact ht s hs
    ·exact q)
   refine ⟨n+1,?_⟩;rw [Zv,hs,q,Ab];exact hn
  ·have hv:l.all z1i=false:=A8.2 fun e=>by have:=Au.1 e (rd l i) (by rw [Yo hi];exact AR hi);rw [this] at q;cases q
   refine ⟨1,?_⟩;rw [Zv,hv,Aa,hs,q,Aa,Zp]
end
theorem u1j {l:List R6}: ∀(k i:Nat),okF l k i=false→(eF l k i != 0)=true
 | 0,i,h=>by cases h
 | k+1,i,h=>by
  unfold okF at h;unfold eF;rcases Yd (j4t l (rd (D6.cuts l) i)) with q | q
  ·rw [q,Ab];exact q
  ·rw [q,Aa] at h ⊢;exact u1j k (i+1) h
def Ka (l:List R6):Int:=bif decide (400<l.length) then 4 else bif l.all z1i then (bif okF l ((D6.cuts l).length - 1) 0 then y9s (D6.out l).length else eF l ((D6.cuts l).length - 1) 0) else 8
def Xx (l:List R6):List R6:=y6t (Ka l) (D6.out l)
def z7f (l:List R6):Bool:=true
theorem u8c (l:List R6) (h:z7f l=true): ∃n,Zs (Xu l) n (y2f l)=.ret (y1a (Ka l) (D6.out l)):=by
 unfold y2f Ka;by_cases h:400<l.length
 ·refine ⟨0,?_⟩;rw [Ah h,Yn (show (l.length:Int)>400 by omega)];rfl
 ·obtain ⟨n,hn⟩:=u2u l (by omega) l.length 0 (Ag _) (fun s hs=>by simp at hs);refine ⟨n,?_⟩;rw [Ay h,Xm (show¬(l.length:Int)>400 by omega),Aa,Aa];rw [Qo] at hn;rw [hn];rcases Yd (l.all z1i) with q | q
  ·rw [q,Ab,Ab];rcases Yd (okF l ((D6.cuts l).length - 1) 0) with q2 | q2
   ·rw [q2,Ab,Ab,z8y];rfl
   ·rw [q2,Aa,Aa,z0x _ (u1j _ _ q2)];rfl
  ·rw [q];rfl
def fSlm :List AVal→Option (AVal×Bool)
 | [a0]=>match asL R6 a0 with
  | some (L0,g0,n0)=>some (.tup [.dat (Xx L0).length (Zz (Xx L0)),.int .i64 (Ka L0)],isT R6 n0 g0&&(z7f L0))
  | _=>none
 | _=>none
theorem j2k {S:Specs} (hS:Zu prog S):Zu prog (S.with v2h fSlm):=by
 refine w8u hS (by kernel_rfl) fun args v h=> ?_;unfold fSlm at h;split at h
 ·rename_i a0;split at h
  ·rename_i L0 g0 n0 e0;simp only [Ae,Ad,Ac] at h;obtain ⟨rfl,ho0,hw⟩:=h;obtain ⟨N,hN⟩:=u8c L0 hw;exact ⟨_,_,(.cons (asL_le e0 ho0) .nil),z2v _ _,v6u L0 N _ hN,3,z6k _ _⟩
  ·cases h
 ·cases h
def fFin :List AVal→Option (AVal×Bool)
 | [.agg [.int .i64 aO,.int .i64 aN,.int .i64 aM]]=>some (.bool (w3q aO aN aM),true)
 | _=>none
theorem j3o {S:Specs} (hS:Zu prog S):Zu prog (S.with u5q fFin):=by
 refine z0l hS (by kernel_rfl) fun args v h=> ?_;unfold fFin at h;split at h
 ·rename_i aO aN aM;simp only [Ae,Ad,Cg] at h;subst h;obtain ⟨N,hN⟩:=j2c aO aN aM;exact ⟨_,_,(.cons (.refl _) .nil),rfl,u0w aO aN aM N _ hN,3,rfl⟩
 ·cases h
def fEqq :List AVal→Option (AVal×Bool)
 | [a0,a1]=>match asL R7 a0,asL R7 a1 with
  | some (L0,g0,n0),some (L1,g1,n1)=>some (.bool (y0w L0 L1),isT R7 n0 g0&&(isT R7 n1 g1&&(z2r L0 L1)))
  | _,_=>none
 | _=>none
theorem j3p {S:Specs} (hS:Zu prog S):Zu prog (S.with nEq7 fEqq):=by
 refine z0l hS (by kernel_rfl) fun args v h=> ?_;unfold fEqq at h;split at h
 ·rename_i a0 a1;split at h
  ·rename_i L0 g0 n0 L1 g1 n1 e0 e1;simp only [Ae,Ad,Ac] at h;obtain ⟨rfl,ho0,ho1,hw⟩:=h;obtain ⟨N,hN⟩:=j3w L0 L1 hw;exact ⟨_,_,(.cons (asL_le e0 ho0) (.cons (asL_le e1 ho1) .nil)),rfl,u1d L0 L1 N _ hN,3,rfl⟩
  ·cases h
 ·cases h
def Mg :Specs:=(((Me.with u5q fFin).with nEq7 fEqq).with v2h fSlm)
theorem z3r :Zu prog Mg:=(j2k (j3p (j3o Jm)))
-- h0: index into an array (choices [true, false, false, false, false, false, false])
inductive mckS where
 | h0 (v14:Int)
def mckC (l0:List R7):mckS→Cfg
 | .h0 v14=>⟨⟨70,0,true⟩,none,(Zb prog 24 [1,1,1,0,1,0,0] 0),none,(Zy prog 3),⟨Yg [(3,(.ptr 0 0)),(12,(.dat l0.length (Zz l0))),(13,(ii (l0.length:Int))),(14,(ii v14))],Wh [⟨[(.fn 105 []),(.fn 106 []),(.fn 107 []),(.fn 108 []),(.fn 109 []),(.fn 110 []),(.fn 111 []),(.fn 112 []),(.fn 113 [])],85,none⟩] 0,1,[],true⟩,[],.leaf⟩
def v9w :List (Option (List Nat)):=[some [3,12,13,14]]
def v9x :List (Option (List Nat)):=[]
def z6r (l0:List R7):mckS→Xv mckS
 | .h0 v14=>(bif (decide (v14<(l0.length:Int))) then (bif ((decide (0≤v14∧v14<(l0.length:Int)))&&true) then (bif (decide ((rd l0 v14.toNat).a >5)) then (.ret [(.int .i64 8)]) else (bif (!(w3q (rd l0 v14.toNat).b (rd l0 v14.toNat).c (rd l0 v14.toNat).d)) then (.ret [(.int .i64 8)]) else (bif (!(w3q (rd l0 v14.toNat).e (rd l0 v14.toNat).f (rd l0 v14.toNat).g)) then (.ret [(.int .i64 8)]) else (bif (decide ((wrap IntKind.u8 (Int.tdiv (rd l0 v14.toNat).a 2))=Int.ofNat 0)) then (bif ((rd l0 v14.toNat).b != (rd l0 v14.toNat).e) then (.ret [(.int .i64 8)]) else (bif (decide ((rd l0 v14.toNat).c ≥(rd l0 v14.toNat).f)) then (.ret [(.int .i64 8)]) else (bif (decide ((rd l0 v14.toNat).d ≥(rd l0 v14.toNat).g)) then (.ret [(.int .i64 8)]) else (.to (.h0 (wrap .i64 (v14+1))))))) else (bif (decide ((wrap IntKind.u8 (Int.tdiv (rd l0 v14.toNat).a 2))=Int.ofNat 1)) then (bif ((rd l0 v14.toNat).c != (rd l0 v14.toNat).f) then (.ret [(.int .i64 8)]) else (bif (decide ((rd l0 v14.toNat).b ≥(rd l0 v14.toNat).e)) then (.ret [(.int .i64 8)]) else (bif (decide ((rd l0 v14.toNat).d ≥(rd l0 v14.toNat).g)) then (.ret [(.int .i64 8)]) else (.to (.h0 (wrap .i64 (v14+1))))))) else (bif (decide ((wrap IntKind.u8 (Int.tdiv (rd l0 v14.toNat).a 2))=Int.ofNat 2)) then (bif ((rd l0 v14.toNat).d != (rd l0 v14.toNat).g) then (.ret [(.int .i64 8)]) else (bif (decide ((rd l0 v14.toNat).b ≥(rd l0 v14.toNat).e)) then (.ret [(.int .i64 8)]) else (bif (decide ((rd l0 v14.toNat).c ≥(rd l0 v14.toNat).f)) then (.ret [(.int .i64 8)]) else (.to (.h0 (wrap .i64 (v14+1))))))) else .stuck)))))) else .stuck) else (.ret [(.int .i64 0)]))
def y3f (l0:List R7):Xv mckS:=(bif (decide ((l0.length:Int)>3000)) then (.ret [(.int .i64 4)]) else (.to (.h0 0)))
theorem w6s (l0:List R7): ∀s,Yt prog (Zy prog 24) (mckC l0) (mckC l0 s) (z6r l0 s)
 | .h0 v14=>(lb (fun k0=>(lo fun aG=>(lb (fun k1=>(lr 70 24 [1,1,1,0,1,0,0,1,1,0,0,1,0,1,0,0] 1 3 [(2,(ii 8))] (sl z3r 40 [] ⟨[],[],[some [2]],[]⟩ ⟨[],[],[]⟩ (trs 10 []) (tt k1 (ww aG (tt k0 nn)))))) (fun k1=>(lb (fun k2=>(lr 70 24 [1,1,1,0,1,0,0,1,1,0,0,1,0,1,0,0] 1 3 [(2,(ii 8))] (sl z3r 40 [] ⟨[],[],[some [2]],[]⟩ ⟨[],[],[]⟩ (bl 10 993) (tt k2 (tt k1 (ww aG (tt k0 nn))))))) (fun k2=>(lb (fun k3=>(lr 70 24 [1,1,1,0,1,0,0,1,1,0,0,1,0,1,0,0] 1 3 [(2,(ii 8))] (sl z3r 40 [] ⟨[],[],[some [2]],[]⟩ ⟨[],[],[]⟩ (bl 10 513) (tt k3 (tt k2 (tt k1 (ww aG (tt k0 nn)))))))) (fun k3=>(lb (fun k4=>(lb (fun k5=>(lr 70 24 [1,1,1,0,1,0,0,1,1,0,0,1,1,1,1,1,0,0] 1 3 [(2,(ii 8))] (sl z3r 124 [] ⟨[],[],[some [2]],[]⟩ ⟨[],[],[]⟩ (bl 22 4192257) (tt k5 (ww k4 (tt k3 (tt k2 (tt k1 (ww aG (tt k0 nn)))))))))) (fun k5=>(lb (fun k6=>(lr 70 24 [1,1,1,0,1,0,0,1,1,0,0,1,1,1,1,1,0,0] 1 3 [(2,(ii 8))] (sl z3r 124 [] ⟨[],[],[some [2]],[]⟩ ⟨[],[],[]⟩ (bl 22 4128769) (tt k6 (tt k5 (ww k4 (tt k3 (tt k2 (tt k1 (ww aG (tt k0 nn))))))))))) (fun k6=>(lb (fun k7=>(lr 70 24 [1,1,1,0,1,0,0,1,1,0,0,1,1,1,1,1,0,0] 1 3 [(2,(ii 8))] (sl z3r 124 [] ⟨[],[],[some [2]],[]⟩ ⟨[],[],[]⟩ (bl 22 2097153) (tt k7 (tt k6 (tt k5 (ww k4 (tt k3 (tt k2 (tt k1 (ww aG (tt k0 nn)))))))))))) (fun k7=>(sl z3r 127 [] ⟨[0],[],v9w,v9x⟩ ⟨[],[],[]⟩ (bl 22 1) (tt k7 (tt k6 (tt k5 (ww k4 (tt k3 (tt k2 (tt k1 (ww aG (tt k0 nn))))))))))))))))) (fun k4=>(lb (fun k5=>(lb (fun k6=>(lr 70 24 [1,1,1,0,1,0,0,1,1,0,0,1,1,1,1,1,0,0] 1 3 [(2,(ii 8))] (sl z3r 124 [] ⟨[],[],[some [2]],[]⟩ ⟨[],[],[]⟩ (bl 23 8385537) (tt k6 (ww k5 (tt k3 (tt k2 (tt k1 (ww aG (tt k0 nn)))))))))) (fun k6=>(lb (fun k7=>(lr 70 24 [1,1,1,0,1,0,0,1,1,0,0,1,1,1,1,1,0,0] 1 3 [(2,(ii 8))] (sl z3r 124 [] ⟨[],[],[some [2]],[]⟩ ⟨[],[],[]⟩ (bl 23 8258561) (tt k7 (tt k6 (ww k5 (tt k3 (tt k2 (tt k1 (ww aG (tt k0 nn))))))))))) (fun k7=>(lb (fun k8=>(lr 70 24 [1,1,1,0,1,0,0,1,1,0,0,1,1,1,1,1,0,0] 1 3 [(2,(ii 8))] (sl z3r 124 [] ⟨[],[],[some [2]],[]⟩ ⟨[],[],[]⟩ (bl 23 4195329) (tt k8 (tt k7 (tt k6 (ww k5 (tt k3 (tt k2 (tt k1 (ww aG (tt k0 nn)))))))))))) (fun k8=>(sl z3r 127 [] ⟨[0],[],v9w,v9x⟩ ⟨[],[],[]⟩ (bl 23 1025) (tt k8 (tt k7 (tt k6 (ww k5 (tt k3 (tt k2 (tt k1 (ww aG (tt k0 nn))))))))))))))))) (fun k5=>(lb (fun k6=>(lb (fun k7=>(lr 70 24 [1,1,1,0,1,0,0,1,1,0,0,1,1,1,1,1,0,0] 1 3 [(2,(ii 8))] (sl z3r 124 [] ⟨[],[],[some [2]],[]⟩ ⟨[],[],[]⟩ (bl 24 16772097) (tt k7 (ww k6 (tt k3 (tt k2 (tt k1 (ww aG (tt k0 nn)))))))))) (fun k7=>(lb (fun k8=>(lr 70 24 [1,1,1,0,1,0,0,1,1,0,0,1,1,1,1,1,0,0] 1 3 [(2,(ii 8))] (sl z3r 124 [] ⟨[],[],[some [2]],[]⟩ ⟨[],[],[]⟩ (bl 24 16518145) (tt k8 (tt k7 (ww k6 (tt k3 (tt k2 (tt k1 (ww aG (tt k0 nn))))))))))) (fun k8=>(lb (fun k9=>(lr 70 24 [1,1,1,0,1,0,0,1,1,0,0,1,1,1,1,1,0,0] 1 3 [(2,(ii 8))] (sl z3r 124 [] ⟨[],[],[some [2]],[]⟩ ⟨[],[],[]⟩ (bl 24 8391681) (tt k9 (tt k8 (tt k7 (ww k6 (tt k3 (tt k2 (tt k1 (ww aG (tt k0 nn)))))))))))) (fun k9=>(sl z3r 127 [] ⟨[0],[],v9w,v9x⟩ ⟨[],[],[]⟩ (bl 24 3073) (tt k9 (tt k8 (tt k7 (ww k6 (tt k3 (tt k2 (tt k1 (ww aG (tt k0 nn))))))))))))))))) (fun k6=>trivial)))))))))))))) (fun k0=>(lr 70 3 [1,1,1,1,1,1,1,0] 1 3 [(2,(ii 0))] (sl z3r 11 [] ⟨[],[],[some [2]],[]⟩ ⟨[],[],[]⟩ [false] (tt k0 nn)))))
theorem x8t (l0:List R7):Yt prog (Zy prog 24) (mckC l0) (Za prog 24 [(.dat l0.length (Zz l0))] true []) (y3f l0):=(lb (fun k0=>(lr 70 24 [1,0,1,0,0] 1 3 [(2,(ii 4))] (sl z3r 16 [] ⟨[],[],[some [2]],[]⟩ ⟨[],[],[]⟩ [true] (tt k0 nn)))) (fun k0=>(sl z3r 41 [] ⟨[1],[],v9w,v9x⟩ ⟨[],[],[]⟩ [false] (tt k0 nn))))
theorem v9v (l0:List R7) (n:Nat) (vs:List AVal) (h:Zs (z6r l0) n (y3f l0)=.ret vs):Jy prog (Zy prog 24) (Za prog 24 [(.dat l0.length (Zz l0))] true []) vs:=by have:=Zd (w6s l0) n _ (x8t l0);rwa [h] at this
def x5y (r:R7):Bool:=decide (r.a≤5)&&(w3q r.b r.c r.d&&(w3q r.e r.f r.g&&
 (bif decide (r.a<2) then (r.b == r.e)&&(decide (r.c<r.f)&&decide (r.d<r.g)) else bif decide (r.a<4) then (r.c == r.f)&&(decide (r.b<r.e)&&decide (r.d<r.g)) else (r.d == r.g)&&(decide (r.b<r.e)&&decide (r.c<r.f)))))
def z9e (L:List R7):Int:=bif decide (3000<L.length) then 4 else bif L.all x5y then 0 else 8
def Vv (L:List R7):Bool:=L.all fun r=>decide (0≤r.a)&&decide (r.a<256)
theorem v3q (a b:Int):decide (a≥b)= !decide (a<b):=by
 by_cases h:a<b
 ·rw [Ah h];exact Ay (by omega)
 ·rw [Ay h];exact Ah (by omega)
theorem u7q {a:Int} (h0:0≤a) (h5:a≤5):wrap IntKind.u8 (Int.tdiv a 2)=(if a<2 then 0 else if a<4 then 1 else 2):=by
 have:a=0∨a=1∨a=2∨a=3∨a=4∨a=5:=by omega
 rcases this with rfl | rfl | rfl | rfl | rfl | rfl <;> rfl
theorem u6j (L:List R7) (hl:L.length≤3000) (ho:Vv L=true): ∀(k i:Nat),i+k=L.length→ ∃N,Zs (z6r L) N (.to (.h0 (i:Int)))=.ret [.int .i64 (bif (L.drop i).all x5y then 0 else 8)]
 | 0,i,h=>by refine ⟨1,?_⟩;rw [Zv,At (by omega)];simp (disch:=omega) only [z6r,Yz,Aa];rfl
 | k +1,i,h=>by
  have hi:i<L.length:=by omega
  obtain ⟨N,hN⟩:=u6j L hl ho k (i+1) (by omega);have hb:0≤(rd L i).a ∧(rd L i).a <256:=by
   have:=Au.1 ho (rd L i) (by rw [Yo hi];exact AR hi)
   simpa using this
  refine ⟨N+1,?_⟩;rw [Zv,Yj hi,List.all_cons];have e:z6r L (.h0 (i:Int))=bif x5y (rd L i) then .to (.h0 ((i+1:Nat):Int)) else .ret [.int .i64 8]:=by
   have hw:wrap .i64 ((i:Int)+1)=((i+1:Nat):Int):=Zk (by omega);simp (disch:=omega) only [z6r,Zn,Zo,hw,Zj,Ai,Ab];unfold x5y;by_cases h5:(rd L i).a ≤5
   ·rw [Xm (by omega),Wz h5,Aa,u7q hb.1 h5];cases w3q (rd L i).b (rd L i).c (rd L i).d <;> cases w3q (rd L i).e (rd L i).f (rd L i).g <;> try rfl
    by_cases h2:(rd L i).a <2
    ·rw [AB h2,Zn h2];simp only [v3q,bne];cases ((rd L i).b == (rd L i).e) <;> cases decide ((rd L i).c <(rd L i).f) <;> cases decide ((rd L i).d <(rd L i).g) <;> rfl
    ·rw [Aw h2,Yz h2];by_cases h4:(rd L i).a <4
     ·rw [AB h4,Zn h4];simp only [v3q,bne];cases ((rd L i).c == (rd L i).f) <;> cases decide ((rd L i).b <(rd L i).e) <;> cases decide ((rd L i).d <(rd L i).g) <;> rfl
     ·rw [Aw h4,Yz h4];simp only [v3q,bne];cases ((rd L i).d == (rd L i).g) <;> cases decide ((rd L i).b <(rd L i).e) <;> cases decide ((rd L i).c <(rd L i).f) <;> rfl
   ·rw [Yn (by omega),w0e h5];rfl
  rw [e];rcases Yd (x5y (rd L i)) with q | q
  ·rw [q,Ab,Al];exact hN
  ·rw [q,Aa,Bx];exact Zp _ _ _
theorem j1l (L:List R7) (h:Vv L=true): ∃N,Zs (z6r L) N (y3f L)=.ret [.int .i64 (z9e L)]:=by
 unfold y3f z9e;by_cases g:3000<L.length
 ·refine ⟨0,?_⟩;rw [Yn (by omega),Ah g];rfl
 ·obtain ⟨N,hN⟩:=u6j L (by omega) h L.length 0 (Ag _);refine ⟨N,?_⟩;rw [Xm (by omega),Ay g];exact hN
def fMck :List AVal→Option (AVal×Bool)
 | [a0]=>match asL R7 a0 with
  | some (L0,g0,n0)=>some (.int .i64 (z9e L0),isT R7 n0 g0&&(Vv L0))
  | _=>none
 | _=>none
theorem j3h {S:Specs} (hS:Zu prog S):Zu prog (S.with v2m fMck):=by
 refine z0l hS (by kernel_rfl) fun args v h=> ?_;unfold fMck at h;split at h
 ·rename_i a0;split at h
  ·rename_i L0 g0 n0 e0;simp only [Ae,Ad,Ac] at h;obtain ⟨rfl,ho0,hw⟩:=h;obtain ⟨N,hN⟩:=j1l L0 hw;exact ⟨_,_,(.cons (asL_le e0 ho0) .nil),rfl,v9v L0 N _ hN,3,rfl⟩
  ·cases h
 ·cases h
def Mh :Specs:=(Mg.with v2m fMck)
theorem Qu :Zu prog Mh:=(j3h z3r)
-- h2: index into an array (choices [true, true, true, false, false])
inductive msoS where
 | h0 (v6:List Int) (v39:Int)
 | h1 (bL:Nat) (v9:List R6) (v10:List R4) (bH:Nat) (v59:Int) (v60:Int) (aW:List Int)
 | h2 (bL:Nat) (v9:List R6) (v10:List R4) (v11:Int) (v12:Int) (bH:Nat) (v59:Int) (v60:Int) (v67:Int) (aW:List Int) (aA:List R4) (aI:List R4)
 | h3 (bL:Nat) (v9:List R6) (v10:List R4) (v11:Int) (v12:Int) (bH:Nat) (v59:Int) (v60:Int) (v132:List R4) (v133:Int) (v134:Int) (aW:List Int)
abbrev z3t (l0:List R7) (v67:Int):=(R4.mk (rd l0 (tn v67)).b (rd l0 (tn v67)).c (rd l0 (tn v67)).e (rd l0 (tn v67)).f)
abbrev y8w (v9:List R6) (v132:List R4) (v134:Int) (v12:Int) (aW:List Int) (v11:Int):=(v9++[(R6.mk (rd v132 (tn v134)).a (rd v132 (tn v134)).b v12 (rd v132 (tn v134)).c (rd v132 (tn v134)).d (rd aW (0+(tn (wr (v11+1))))))])
abbrev y8v (v6:List Int):=(Wc (Yu v6.length (cOf (Zz (Xc (Yu v6.length (cOf (Zz v6))))))))
def w2x :ABlk:=⟨[(.fn 111 []),(.fn 112 []),(.fn 113 [])],84,none⟩
abbrev z5w (aA:List R4):=(cvT (Zc (cvT aA)))
def msoC (l0:List R7):msoS→Cfg
 | .h0 v6 v39=>⟨⟨186,0,true⟩,none,(Zb prog 22 [1,1,1,1,0,1,0,0] 0),none,(Zy prog 15),⟨Yg [(0,(.dat l0.length (Zz l0))),(5,(.ptr 0 0)),(6,(.sla 1 1 0 v6.length (.un 1))),(37,(.dat l0.length (Zz l0))),(38,(ii (l0.length:Int))),(39,(ii v39))],Wh [w2x,⟨Yx v6.length (Zz v6),3,some ⟨1,v6.length,(Zz v6)⟩⟩] 0,2,[],true⟩,[],.leaf⟩
 | .h1 bL v9 v10 bH v59 v60 aW=>⟨⟨186,0,true⟩,none,(Zb prog 22 [1,1,1,1,1,1,1,1,1,0,1,0,0] 0),none,(Zy prog 15),⟨Yg [(0,(.dat l0.length (Zz l0))),(5,(.ptr 0 0)),(6,(.sla 1 1 0 bL (.un 1))),(9,(.sla 2 6 0 v9.length (.un 6))),(10,(.dat v10.length (Zz v10))),(58,(.sla 1 1 0 bH (.un 1))),(59,(ii v59)),(60,(ii v60))],Wh [w2x,⟨Yx aW.length (Zz aW),3,some ⟨1,aW.length,(Zz aW)⟩⟩,⟨Yx v9.length (Zz v9),67,some ⟨6,v9.length,(Zz v9)⟩⟩] 0,3,[],true⟩,[],.leaf⟩
 | .h2 bL v9 v10 v11 v12 bH v59 v60 v67 aW aA aI=>⟨⟨186,0,true⟩,none,(Zb prog 22 [1,1,1,1,1,1,1,1,1,0,1,0,0,1,1,0,0,1,1,0,1,0,0] 0),none,(Zy prog 15),⟨Yg [(0,(.dat l0.length (Zz l0))),(5,(.ptr 0 0)),(6,(.sla 1 1 0 bL (.un 1))),(9,(.sla 5 6 0 v9.length (.un 6))),(10,(.dat v10.length (Zz v10))),(11,(ii v11)),(12,(ii v12)),(13,(.ptr 2 0)),(58,(.sla 1 1 0 bH (.un 1))),(59,(ii v59)),(60,(ii v60)),(65,(.dat l0.length (Zz l0))),(66,(ii (l0.length:Int))),(67,(ii v67))],Wh [w2x,⟨Yx aW.length (Zz aW),3,some ⟨1,aW.length,(Zz aW)⟩⟩,⟨[(.sla 3 4 0 aA.length (.un 4)),(.sla 4 4 0 aI.length (.un 4))],101,none⟩,⟨Yx aA.length (Zz aA),88,some ⟨4,aA.length,(Zz aA)⟩⟩,⟨Yx aI.length (Zz aI),88,some ⟨4,aI.length,(Zz aI)⟩⟩,⟨Yx v9.length (Zz v9),67,some ⟨6,v9.length,(Zz v9)⟩⟩] 0,6,[],true⟩,[],.leaf⟩
 | .h3 bL v9 v10 v11 v12 bH v59 v60 v132 v133 v134 aW=>⟨⟨186,0,true⟩,none,(Zb prog 22 [1,1,1,1,1,1,1,1,1,0,1,0,0,1,1,0,0,1,1,1,1,1,1,1,1,1,1,0,0] 0),none,(Zy prog 15),⟨Yg [(0,(.dat l0.length (Zz l0))),(5,(.ptr 0 0)),(6,(.sla 1 1 0 bL (.un 1))),(9,(.sla 2 6 0 v9.length (.un 6))),(10,(.dat v10.length (Zz v10))),(11,(ii v11)),(12,(ii v12)),(58,(.sla 1 1 0 bH (.un 1))),(59,(ii v59)),(60,(ii v60)),(132,(.dat v132.length (Zz v132))),(133,(ii v133)),(134,(ii v134))],Wh [w2x,⟨Yx aW.length (Zz aW),3,some ⟨1,aW.length,(Zz aW)⟩⟩,⟨Yx v9.length (Zz v9),67,some ⟨6,v9.length,(Zz v9)⟩⟩] 0,3,[],true⟩,[],.leaf⟩
def j0w :List (Option (List Nat)):=[some [0,5,6,37,38,39]]
def j0y :List (Option (List Nat)):=[]
def msoN1 :List (Option (List Nat)):=[some [0,5,6,9,10,58,59,60]]
def msoM1 :List (Option (List Nat)):=[]
def v2o :List (Option (List Nat)):=[some [0,5,6,9,10,11,12,13,58,59,60,65,66,67]]
def v2p :List (Option (List Nat)):=[]
def j0v :List (Option (List Nat)):=[some [0,5,6,9,10,11,12,58,59,60,132,133,134]]
def j0x :List (Option (List Nat)):=[]
def Wj (l0:List R7):msoS→Xv msoS
 | .h0 v6 v39=>(bif (decide (v39<(l0.length:Int))) then (bif ((decide (0≤v39∧v39<(l0.length:Int)))&&true) then (bif ((wrap IntKind.u8 (Int.tdiv (rd l0 v39.toNat).a 2)) == 2) then (bif (Nat.beq 1 1&&((decide (0+v6.length=v6.length))&&decide ((v6.length+1+1)*(8+1)≤Uw))) then (.to (.h0 (v6++[(rd l0 v39.toNat).d]) (wrap .i64 (v39+1)))) else .stuck) else (.to (.h0 v6 (wrap .i64 (v39+1))))) else .stuck) else (bif (decide (v6.length<4611686018427387904)) then (bif (decide (v6.length=v6.length)) then (.to (.h1 (w8v (Yu v6.length (cOf (Zz (Xc (Yu v6.length (cOf (Zz v6)))))))) ([]:List R6) ([]:List R4) (w8v (Yu v6.length (cOf (Zz (Xc (Yu v6.length (cOf (Zz v6)))))))) (((w8v (Yu v6.length (cOf (Zz (Xc (Yu v6.length (cOf (Zz v6)))))))):Nat):Int) 0 (Wc (Yu v6.length (cOf (Zz (Xc (Yu v6.length (cOf (Zz v6)))))))))) else .stuck) else .stuck))
 | .h1 bL v9 v10 bH v59 v60 aW=>(bif (decide (v60<v59)) then (bif ((decide (0≤v60∧v60<((bH:Nat):Int)))&&true) then (bif (decide ((0+v60.toNat)<aW.length)) then (.to (.h2 bL v9 v10 v60 (rd aW (0+v60.toNat)) bH v59 v60 0 aW ([]:List R4) ([]:List R4))) else .stuck) else .stuck) else (bif (z7f (cvT v9)) then (bif ((Ka (cvT v9)) != 0) then (.ret [.nils,(.int .i64 28)]) else (bif (z2c (cvT (Xx (cvT v9)))) then (bif ((z4o (cvT (Xx (cvT v9)))) != 0) then (.ret [.nils,(.int .i64 28)]) else (bif (z2r (cvT (Us (cvT (Xx (cvT v9))))) (cvT l0)) then (bif (!(y0w (cvT (Us (cvT (Xx (cvT v9))))) (cvT l0))) then (.ret [.nils,(.int .i64 28)]) else (.ret [(.dat (Xx (cvT v9)).length (Zz (Xx (cvT v9)))),(.int .i64 0)])) else .stuck)) else .stuck)) else .stuck))
 | .h2 bL v9 v10 v11 v12 bH v59 v60 v67 aW aA aI=>(bif (decide (v67<(l0.length:Int))) then (bif ((decide (0≤v67∧v67<(l0.length:Int)))&&true) then (bif ((wrap IntKind.u8 (Int.tdiv (rd l0 v67.toNat).a 2)) == 2) then (bif ((rd l0 v67.toNat).d == v12) then (bif (decide ((Int.tmod (rd l0 v67.toNat).a 2)=Int.ofNat 0)) then (bif (Nat.beq 4 4&&((decide (0+aA.length=aA.length))&&decide ((aA.length+1+1)*(32+1)≤Uw))) then (.to (.h2 bL v9 v10 v11 v12 bH v59 v60 (wrap .i64 (v67+1)) aW (aA++[(R4.mk (rd l0 v67.toNat).b (rd l0 v67.toNat).c (rd l0 v67.toNat).e (rd l0 v67.toNat).f)]) aI)) else .stuck) else (bif (decide ((Int.tmod (rd l0 v67.toNat).a 2)=Int.ofNat 1)) then (bif (Nat.beq 4 4&&((decide (0+aI.length=aI.length))&&decide ((aI.length+1+1)*(32+1)≤Uw))) then (.to (.h2 bL v9 v10 v11 v12 bH v59 v60 (wrap .i64 (v67+1)) aW aA (aI++[(R4.mk (rd l0 v67.toNat).b (rd l0 v67.toNat).c (rd l0 v67.toNat).e (rd l0 v67.toNat).f)]))) else .stuck) else .stuck)) else (.to (.h2 bL v9 v10 v11 v12 bH v59 v60 (wrap .i64 (v67+1)) aW aA aI))) else (.to (.h2 bL v9 v10 v11 v12 bH v59 v60 (wrap .i64 (v67+1)) aW aA aI))) else .stuck) else (bif (Uj (cvT aA)) then (bif (Uj (cvT aI)) then (bif (Qe .d (cvT v10) (cvT (Zc (cvT aA)))) then (bif (Qe .u (cvT (Vy .d (cvT v10) (cvT (Zc (cvT aA))))) (cvT (Zc (cvT aI)))) then (bif ((Xn (cvT aA)) != 0) then (.ret [.nils,(.int .i64 28)]) else (bif ((Xn (cvT aI)) != 0) then (.ret [.nils,(.int .i64 28)]) else (bif ((x3d .d (cvT v10) (cvT (Zc (cvT aA)))) != 0) then (.ret [.nils,(.int .i64 28)]) else (bif ((x3d .u (cvT (Vy .d (cvT v10) (cvT (Zc (cvT aA))))) (cvT (Zc (cvT aI)))) != 0) then (.ret [.nils,(.int .i64 28)]) else (.to (.h3 bL v9 (Vy .u (cvT (Vy .d (cvT v10) (cvT (Zc (cvT aA))))) (cvT (Zc (cvT aI)))) v11 v12 bH v59 v60 (Vy .u (cvT (Vy .d (cvT v10) (cvT (Zc (cvT aA))))) (cvT (Zc (cvT aI)))) (((Vy .u (cvT (Vy .d (cvT v10) (cvT (Zc (cvT aA))))) (cvT (Zc (cvT aI)))).length :Nat):Int) 0 aW)))))) else .stuck) else .stuck) else .stuck) else .stuck))
 | .h3 bL v9 v10 v11 v12 bH v59 v60 v132 v133 v134 aW=>(bif (decide (v134<v133)) then (bif ((decide (0≤v134∧v134<(v132.length:Int)))&&true) then (bif (decide ((wrap .i64 (v11+1))<((bL:Nat):Int))) then (bif ((decide (0≤(wrap .i64 (v11+1))∧(wrap .i64 (v11+1))<((bL:Nat):Int)))&&true) then (bif (decide ((0+(Int.toNat (wrap .i64 (v11+1))))<aW.length)) then (bif (Nat.beq 6 6&&((decide (0+v9.length=v9.length))&&decide ((v9.length+1+1)*(48+1)≤Uw))) then (.to (.h3 bL (v9++[(R6.mk (rd v132 v134.toNat).a (rd v132 v134.toNat).b v12 (rd v132 v134.toNat).c (rd v132 v134.toNat).d (rd aW (0+(Int.toNat (wrap .i64 (v11+1))))))]) v10 v11 v12 bH v59 v60 v132 v133 (wrap .i64 (v134+1)) aW)) else .stuck) else .stuck) else .stuck) else (.to (.h3 bL v9 v10 v11 v12 bH v59 v60 v132 v133 (wrap .i64 (v134+1)) aW))) else .stuck) else (.to (.h1 bL v9 v10 bH v59 (wrap .i64 (v60+1)) aW)))
def y3c (l0:List R7):Xv msoS:=(bif (Vv (cvT l0)) then (bif ((z9e (cvT l0)) != 0) then (.ret [.nils,(.int .i64 (z9e (cvT l0)))]) else (.to (.h0 ([]:List Int) 0))) else .stuck)
theorem w6k (l0:List R7): ∀s,Yt prog (Zy prog 22) (msoC l0) (msoC l0 s) (Wj l0 s)
 | .h0 v6 v39=>(lb (fun k0=>(lo fun aG=>(lb (fun k1=>(lo fun o0=>(sl Qu 39 [] ⟨[0,4],[],j0w,j0y⟩ ⟨[(6,.len (v6++[(rd l0 (tn v39)).d]).length)],[.keep,.rowed 1 (v6++[(rd l0 (tn v39)).d]).length (Zz (v6++[(rd l0 (tn v39)).d]))],[]⟩ (bl 2 3) (pp (xL (v6.length+1) (v6++[(rd l0 (tn v39)).d]).length) (pp (xL (v6.length+1) (v6++[(rd l0 (tn v39)).d]).length) (pp (xS (v6.length+1) (Ze (Zz v6) 0 v6.length 1 [(ii (rd l0 (tn v39)).d)]) (Zz (v6++[(rd l0 (tn v39)).d]))) (pp (pp (xF (Ze (Zz v6) 0 v6.length 1 [(ii (rd l0 (tn v39)).d)])) nn) (ww o0 (tt k1 (ww aG (tt k0 nn))))))))))) (fun k1=>(sl Qu 31 [] ⟨[0,1],[],j0w,j0y⟩ ⟨[],[],[]⟩ (bl 2 1) (pp (fl v6 nn) (tt k1 (ww aG (tt k0 nn))))))))) (fun k0=>(lo fun o0=>(lo fun o1=>(sl Qu 35 [(67,6,Zz ([]:List R6))] ⟨[0,1,2],[],msoN1,msoM1⟩ ⟨[(9,.grow 2 6),(10,.list 0 (Zz ([]:List R4)))],[.keep,.rowed 1 (y8v v6).length (Zz (y8v v6)),.keep],[]⟩ [false] (pp (xL v6.length (y8v v6).length (by first | exact z2e _ _ | exact Va rfl)) (pp (xS v6.length (Zz (y8v v6)) (Zz (y8v v6))) (pp (fl (y8v v6) (fl ([]:List R6) nn)) (pp (pp (xG (Nat.beq 1 1)) (pp (xG (Nat.beq 1 1)) (pp (xG (Nat.beq 0 0)) (pp (xG (decide (v6.length=v6.length))) (pp (xG (isI (Zz (Xc (Yu v6.length (cOf (Zz v6))))))) (xG (decide (v6.length<4611686018427387904)))))))) (pp (pp (xG (Nat.beq 1 1)) (pp (xG (Nat.beq 1 1)) (pp (xG (Nat.beq 0 0)) (pp (xG (decide (v6.length=v6.length))) (pp (xG (isI (Zz v6))) (xG (decide (v6.length<4611686018427387904)))))))) (tt k0 nn)))))))))))
 | .h1 bL v9 v10 bH v59 v60 aW=>(lb (fun k0=>(lo fun o0=>(lo fun o1=>(sl Qu 30 [(88,4,Zz ([]:List R4)),(88,4,Zz ([]:List R4))] ⟨[0,1,3,4,5,2],[],v2o,v2p⟩ ⟨[],[.keep,.keep,.cells [.grow 3 4,.grow 4 4],.keep,.keep,.keep],[]⟩ [true] (pp (fl aW (fl ([]:List R4) (fl ([]:List R4) (fl v9 nn)))) (ww o1 (ww o0 (tt k0 nn)))))))) (fun k0=>(Xb (sl Qu (C':=⟨⟨186,0,true⟩,(Uv prog 22 [1,1,1,1,1,1,1,1,1,1,0] 1),(Zb prog 22 [1,1,1,1,1,1,1,1,1,1,0] 1),none,(Zy prog 15),⟨Yg [(0,(.dat l0.length (Zz l0))),(166,(.dat v9.length (Zz v9)))],Wh [] 0,0,[],true⟩,[],.leaf⟩) 10 [] ⟨[],[2],[some [0,166]],[]⟩ ⟨[(166,.frz v9.length v9.length (Zz v9) (Zz v9))],[],[]⟩ [false] (pp (xZ (z1p 6 6 0 v9.length v9.length (Zz v9)) v9.length (Zz v9)) (pp (xL v9.length v9.length) (pp (xS v9.length (Zz v9) (Zz v9)) (pp (fl v9 nn) (tt k0 nn)))))) (lo fun aG=>(lb (fun k1=>(lr 186 22 [1,1,1,1,1,1,1,1,1,1,1,0,1,0,0] 1 15 [(2,.nils),(3,(ii 28))] (sl Qu 19 [] ⟨[],[],[some [2,3]],[]⟩ ⟨[],[],[]⟩ [true] (tt k1 (pp (pp (xr v9) (xw aG)) nn))))) (fun k1=>(lo fun bW=>(lb (fun k2=>(lr 186 22 [1,1,1,1,1,1,1,1,1,1,1,1,0,1,1,0,0] 1 15 [(2,.nils),(3,(ii 28))] (sl Qu 43 [] ⟨[],[],[some [2,3]],[]⟩ ⟨[],[],[]⟩ (bl 6 62) (tt k2 (pp (pp (xI R6 (Xx (cvT v9)).length (Zz (Xx (cvT v9)))) (xw bW)) (tt k1 (pp (pp (xr v9) (xw aG)) nn))))))) (fun k2=>(lo fun cF=>(lb (fun k3=>(lr 186 22 [1,1,1,1,1,1,1,1,1,1,1,1,0,1,1,0,0] 1 15 [(2,.nils),(3,(ii 28))] (sl Qu 43 [] ⟨[],[],[some [2,3]],[]⟩ ⟨[],[],[]⟩ (bl 6 32) (tt k3 (pp (pp (xI R7 (Us (cvT (Xx (cvT v9)))).length (Zz (Us (cvT (Xx (cvT v9)))))) (pp (xr l0) (xw cF))) (tt k2 (pp (pp (xI R6 (Xx (cvT v9)).length (Zz (Xx (cvT v9)))) (xw bW)) (tt k1 (pp (pp (xr v9) (xw aG)) nn))))))))) (fun k3=>(lr 186 3 [1,1,1,1,1,1,1,0] 1 15 [(2,(.dat (Xx (cvT v9)).length (Zz (Xx (cvT v9))))),(3,(ii 0))] (sl Qu 45 [] ⟨[],[],[some [2,3]],[]⟩ ⟨[],[],[]⟩ (bl 6 0) (tt k3 (pp (pp (xI R7 (Us (cvT (Xx (cvT v9)))).length (Zz (Us (cvT (Xx (cvT v9)))))) (pp (xr l0) (xw cF))) (tt k2 (pp (pp (xI R6 (Xx (cvT v9)).length (Zz (Xx (cvT v9)))) (xw bW)) (tt k1 (pp (pp (xr v9) (xw aG)) nn))))))))))))))))))))
 | .h2 bL v9 v10 v11 v12 bH v59 v60 v67 aW aA aI=>(lb (fun k0=>(lo fun aG=>(lb (fun k1=>(lb (fun k2=>(lb (fun k3=>(lo fun o0=>(sl Qu 38 [] ⟨[0,1,2,14,4,5],[],v2o,v2p⟩ ⟨[],[.keep,.keep,.cells [.len (aA++[(z3t l0 v67)]).length,.keep],.rowed 4 (aA++[(z3t l0 v67)]).length (Zz (aA++[(z3t l0 v67)])),.keep,.keep],[]⟩ (trs 7 (bl 2 0)) (pp (xL (aA.length+1) (aA++[(z3t l0 v67)]).length) (pp (xL (aA.length+1) (aA++[(z3t l0 v67)]).length) (pp (xS (aA.length+1) (Ze (Zz aA) 0 aA.length 4 [(ii (rd l0 (tn v67)).b),(ii (rd l0 (tn v67)).c),(ii (rd l0 (tn v67)).e),(ii (rd l0 (tn v67)).f)]) (Zz (aA++[(z3t l0 v67)]))) (pp (fl aW (pp (xF (Ze (Zz aA) 0 aA.length 4 [(ii (rd l0 (tn v67)).b),(ii (rd l0 (tn v67)).c),(ii (rd l0 (tn v67)).e),(ii (rd l0 (tn v67)).f)])) (fl aI (fl v9 nn)))) (ww k3 (ww o0 (ww k3 (tt k2 (tt k1 (ww aG (tt k0 nn)))))))))))))) (fun k3=>(lb (fun k4=>(lo fun o0=>(sl Qu 38 [] ⟨[0,1,2,3,14,5],[],v2o,v2p⟩ ⟨[],[.keep,.keep,.cells [.keep,.len (aI++[(z3t l0 v67)]).length],.keep,.rowed 4 (aI++[(z3t l0 v67)]).length (Zz (aI++[(z3t l0 v67)])),.keep],[]⟩ (trs 8 (bl 3 2)) (pp (xL (aI.length+1) (aI++[(z3t l0 v67)]).length) (pp (xL (aI.length+1) (aI++[(z3t l0 v67)]).length) (pp (xS (aI.length+1) (Ze (Zz aI) 0 aI.length 4 [(ii (rd l0 (tn v67)).b),(ii (rd l0 (tn v67)).c),(ii (rd l0 (tn v67)).e),(ii (rd l0 (tn v67)).f)]) (Zz (aI++[(z3t l0 v67)]))) (pp (fl aW (fl aA (pp (xF (Ze (Zz aI) 0 aI.length 4 [(ii (rd l0 (tn v67)).b),(ii (rd l0 (tn v67)).c),(ii (rd l0 (tn v67)).e),(ii (rd l0 (tn v67)).f)])) (fl v9 nn)))) (ww k4 (ww o0 (ww k4 (tt k2 (tt k1 (ww aG (tt k0 nn)))))))))))))) (fun k4=>trivial))))) (fun k2=>(sl Qu 38 [] ⟨(List.range 6),[],v2o,v2p⟩ ⟨[],[],[]⟩ (trs 6 [false]) (pp (fl aW (fl aA (fl aI (fl v9 nn)))) (tt k2 (tt k1 (ww aG (tt k0 nn))))))))) (fun k1=>(sl Qu 38 [] ⟨(List.range 6),[],v2o,v2p⟩ ⟨[],[],[]⟩ (bl 7 1) (pp (fl aW (fl aA (fl aI (fl v9 nn)))) (tt k1 (ww aG (tt k0 nn))))))))) (fun k0=>(Xb (sl Qu (C':=⟨⟨186,0,true⟩,(Uv prog 22 [1,1,1,1,1,1,1,1,1,0,1,0,0,1,1,0,0,1,1,1,0] 2),(Zb prog 22 [1,1,1,1,1,1,1,1,1,0,1,0,0,1,1,0,0,1,1,1,0] 1),none,(Zy prog 15),⟨Yg [(0,(.dat l0.length (Zz l0))),(5,(.ptr 0 0)),(6,(.sla 1 1 0 bL (.un 1))),(9,(.sla 2 6 0 v9.length (.un 6))),(10,(.dat v10.length (Zz v10))),(11,(ii v11)),(12,(ii v12)),(13,(.ptr 3 0)),(58,(.sla 1 1 0 bH (.un 1))),(59,(ii v59)),(60,(ii v60)),(102,(.dat aA.length (Zz aA)))],Wh [⟨[(.fn 111 []),(.fn 112 []),(.fn 113 [])],84,none⟩,⟨Yx aW.length (Zz aW),3,some ⟨1,aW.length,(Zz aW)⟩⟩,⟨Yx v9.length (Zz v9),67,some ⟨6,v9.length,(Zz v9)⟩⟩,⟨[(.dat aA.length (Zz aA)),(.sla 4 4 0 aI.length (.un 4))],101,none⟩,⟨Yx aI.length (Zz aI),88,some ⟨4,aI.length,(Zz aI)⟩⟩] 0,5,[],true⟩,[],.leaf⟩) 11 [] ⟨[0,1,5,2,4],[3],[some [0,5,6,9,10,11,12,13,58,59,60,102]],[]⟩ ⟨[(102,.frz aA.length aA.length (Zz aA) (Zz aA))],[.keep,.keep,.keep,.cells [.frz aA.length aA.length (Zz aA) (Zz aA),.keep],.keep],[]⟩ [false] (pp (xZ (z1p 4 4 0 aA.length aA.length (Zz aA)) aA.length (Zz aA)) (pp (xL aA.length aA.length) (pp (xS aA.length (Zz aA) (Zz aA)) (pp (xZ (z1p 4 4 0 aA.length aA.length (Zz aA)) aA.length (Zz aA)) (pp (xL aA.length aA.length) (pp (xS aA.length (Zz aA) (Zz aA)) (pp (fl aW (fl v9 (fl aI nn))) (pp (fl aA nn) (tt k0 nn)))))))))) (lo fun q1_0=>(Xb (sl Qu (C':=⟨⟨186,0,true⟩,(Uv prog 22 [1,1,1,1,1,1,1,1,1,0,1,0,0,1,1,0,0,1,1,1,1,0] 2),(Zb prog 22 [1,1,1,1,1,1,1,1,1,0,1,0,0,1,1,0,0,1,1,1,1,0] 1),none,(Zy prog 15),⟨Yg [(0,(.dat l0.length (Zz l0))),(5,(.ptr 0 0)),(6,(.sla 1 1 0 bL (.un 1))),(9,(.sla 2 6 0 v9.length (.un 6))),(10,(.dat v10.length (Zz v10))),(11,(ii v11)),(12,(ii v12)),(16,(.dat (Zc (cvT aA)).length (Zz (Zc (cvT aA))))),(17,(ii (Xn (cvT aA)))),(58,(.sla 1 1 0 bH (.un 1))),(59,(ii v59)),(60,(ii v60)),(108,(.dat aI.length (Zz aI)))],Wh [⟨[(.fn 111 []),(.fn 112 []),(.fn 113 [])],84,none⟩,⟨Yx aW.length (Zz aW),3,some ⟨1,aW.length,(Zz aW)⟩⟩,⟨Yx v9.length (Zz v9),67,some ⟨6,v9.length,(Zz v9)⟩⟩] 0,3,[],true⟩,[],.leaf⟩) 11 [] ⟨[0,1,2],[4],[some [0,5,6,9,10,11,12,16,17,58,59,60,108]],[]⟩ ⟨[(108,.frz aI.length aI.length (Zz aI) (Zz aI))],[],[]⟩ [] (pp (xZ (z1p 4 4 0 aI.length aI.length (Zz aI)) aI.length (Zz aI)) (pp (xL aI.length aI.length) (pp (xS aI.length (Zz aI) (Zz aI)) (pp (fl aW (fl v9 nn)) (pp (fl aI nn) (pp (pp (xr aA) (xw q1_0)) nn))))))) (lo fun aG=>(lo fun aU=>(lo fun bR=>(lb (fun k1=>(lr 186 22 [1,1,1,1,1,1,1,1,1,0,1,0,0,1,1,0,0,1,1,1,1,1,1,1,0,1,0,0] 1 15 [(2,.nils),(3,(ii 28))] (sl Qu 91 [] ⟨[],[],[some [2,3]],[]⟩ ⟨[],[],[]⟩ (trs 3 []) (tt k1 (tt k1 (pp (pp (xI R4 (Vy .d (cvT v10) (z5w aA)).length (Zz (Vy .d (cvT v10) (z5w aA)))) (pp (xI R4 (Zc (cvT aI)).length (Zz (Zc (cvT aI)))) (xw bR))) (pp (pp (xr v10) (pp (xI R4 (Zc (cvT aA)).length (Zz (Zc (cvT aA)))) (xw aU))) (pp (pp (xr aI) (xw aG)) nn)))))))) (fun k1=>(lb (fun k2=>(lr 186 22 [1,1,1,1,1,1,1,1,1,0,1,0,0,1,1,0,0,1,1,1,1,1,1,1,0,1,0,0] 1 15 [(2,.nils),(3,(ii 28))] (sl Qu 120 [] ⟨[],[],[some [2,3]],[]⟩ ⟨[],[],[]⟩ (bl 5 29) (tt k2 (tt k2 (tt k1 (pp (pp (xI R4 (Vy .d (cvT v10) (z5w aA)).length (Zz (Vy .d (cvT v10) (z5w aA)))) (pp (xI R4 (Zc (cvT aI)).length (Zz (Zc (cvT aI)))) (xw bR))) (pp (pp (xr v10) (pp (xI R4 (Zc (cvT aA)).length (Zz (Zc (cvT aA)))) (xw aU))) (pp (pp (xr aI) (xw aG)) nn))))))))) (fun k2=>(lb (fun k3=>(lr 186 22 [1,1,1,1,1,1,1,1,1,0,1,0,0,1,1,0,0,1,1,1,1,1,1,1,0,1,0,0] 1 15 [(2,.nils),(3,(ii 28))] (sl Qu 149 [] ⟨[],[],[some [2,3]],[]⟩ ⟨[],[],[]⟩ (bl 7 117) (tt k3 (tt k3 (tt k2 (tt k1 (pp (pp (xI R4 (Vy .d (cvT v10) (z5w aA)).length (Zz (Vy .d (cvT v10) (z5w aA)))) (pp (xI R4 (Zc (cvT aI)).length (Zz (Zc (cvT aI)))) (xw bR))) (pp (pp (xr v10) (pp (xI R4 (Zc (cvT aA)).length (Zz (Zc (cvT aA)))) (xw aU))) (pp (pp (xr aI) (xw aG)) nn)))))))))) (fun k3=>(lb (fun k4=>(lr 186 22 [1,1,1,1,1,1,1,1,1,0,1,0,0,1,1,0,0,1,1,1,1,1,1,1,0,1,0,0] 1 15 [(2,.nils),(3,(ii 28))] (sl Qu 178 [] ⟨[],[],[some [2,3]],[]⟩ ⟨[],[],[]⟩ (bl 9 469) (tt k4 (tt k4 (tt k3 (tt k2 (tt k1 (pp (pp (xI R4 (Vy .d (cvT v10) (z5w aA)).length (Zz (Vy .d (cvT v10) (z5w aA)))) (pp (xI R4 (Zc (cvT aI)).length (Zz (Zc (cvT aI)))) (xw bR))) (pp (pp (xr v10) (pp (xI R4 (Zc (cvT aA)).length (Zz (Zc (cvT aA)))) (xw aU))) (pp (pp (xr aI) (xw aG)) nn))))))))))) (fun k4=>(sl Qu 201 [] ⟨[0,1,2],[],j0v,j0x⟩ ⟨[],[],[]⟩ (bl 10 85) (pp (fl aW (fl v9 nn)) (tt k4 (tt k3 (tt k2 (tt k1 (pp (pp (xI R4 (Vy .d (cvT v10) (z5w aA)).length (Zz (Vy .d (cvT v10) (z5w aA)))) (pp (xI R4 (Zc (cvT aI)).length (Zz (Zc (cvT aI)))) (xw bR))) (pp (pp (xr v10) (pp (xI R4 (Zc (cvT aA)).length (Zz (Zc (cvT aA)))) (xw aU))) (pp (pp (xr aI) (xw aG)) nn)))))))))))))))))))))))))
 | .h3 bL v9 v10 v11 v12 bH v59 v60 v132 v133 v134 aW=>(lb (fun k0=>(lo fun aG=>(lb (fun k1=>(lo fun o0=>(lo fun o1=>(lo fun o2=>(sl Qu 32 [] ⟨[0,1,5],[],j0v,j0x⟩ ⟨[(9,.len (y8w v9 v132 v134 v12 aW v11).length)],[.keep,.keep,.rowed 6 (y8w v9 v132 v134 v12 aW v11).length (Zz (y8w v9 v132 v134 v12 aW v11))],[]⟩ (bl 2 3) (pp (xL (v9.length+1) (y8w v9 v132 v134 v12 aW v11).length) (pp (xL (v9.length+1) (y8w v9 v132 v134 v12 aW v11).length) (pp (xS (v9.length+1) (Ze (Zz v9) 0 v9.length 6 [(ii (rd v132 (tn v134)).a),(ii (rd v132 (tn v134)).b),(ii v12),(ii (rd v132 (tn v134)).c),(ii (rd v132 (tn v134)).d),(ii (rd aW (0+(tn (wr (v11+1))))))]) (Zz (y8w v9 v132 v134 v12 aW v11))) (pp (fl aW (pp (xF (Ze (Zz v9) 0 v9.length 6 [(ii (rd v132 (tn v134)).a),(ii (rd v132 (tn v134)).b),(ii v12),(ii (rd v132 (tn v134)).c),(ii (rd v132 (tn v134)).d),(ii (rd aW (0+(tn (wr (v11+1))))))])) nn)) (ww o2 (ww o1 (ww o0 (tt k1 (ww aG (tt k0 nn))))))))))))))) (fun k1=>(sl Qu 32 [] ⟨[0,1,2],[],j0v,j0x⟩ ⟨[],[],[]⟩ (bl 2 1) (pp (fl aW (fl v9 nn)) (tt k1 (ww aG (tt k0 nn))))))))) (fun k0=>(sl Qu 13 [] ⟨[0,1,2],[],msoN1,msoM1⟩ ⟨[],[],[]⟩ [false] (pp (fl aW (fl v9 nn)) (tt k0 nn)))))
theorem x8l (l0:List R7):Yt prog (Zy prog 22) (msoC l0) (Za prog 22 [(.dat l0.length (Zz l0))] true []) (y3c l0):=(lo fun bZ=>(lb (fun k0=>(lr 186 22 [1,0,1,1,0,0] 1 15 [(2,.nils),(3,(ii (z9e (cvT l0))))] (sl Qu 24 [] ⟨[],[],[some [2,3]],[]⟩ ⟨[],[],[]⟩ [true] (tt k0 (pp (pp (xr l0) (xw bZ)) nn))))) (fun k0=>(sl Qu 52 [(3,1,Zz ([]:List Int))] ⟨[1,2],[],j0w,j0y⟩ ⟨[(6,.grow 1 1)],[],[]⟩ [false] (pp (fl ([]:List Int) nn) (tt k0 (pp (pp (xr l0) (xw bZ)) nn)))))))
theorem v9n (l0:List R7) (n:Nat) (vs:List AVal) (h:Zs (Wj l0) n (y3c l0)=.ret vs):Jy prog (Zy prog 22) (Za prog 22 [(.dat l0.length (Zz l0))] true []) vs:=by have:=Zd (w6k l0) n _ (x8l l0);rwa [h] at this
def zQ (d:Int) (l:List R7) (z:Int):List R4:=(l.filter fun r=>decide (r.a=d)&&decide (r.d=z)).map fun r=>⟨r.b,r.c,r.e,r.f⟩
def zsQ (l:List R7):List Int:=(l.filter fun r=>decide (4≤r.a)).map (·.d)
def plZ (l:List R7):List Int:=Kz (zsQ l)
def pz6 (z z':Int) (t:R4):R6:=⟨t.a,t.b,z,t.c,t.d,z'⟩
def j4u (now e b:List R4):Bool:=(Xn e != 0)||((Xn b != 0)||((rgE .d now (Zc e) != 0)||(rgE .u (Vy .d now (Zc e)) (Zc b) != 0)))
def x0v (now e b:List R4):List R4:=Vy .u (Vy .d now (Zc e)) (Zc b)
def goP (l:List R7):List Int→List R4→List R6→Option (List R6)
 | [],_,bx=>some bx
 | z::r,now,bx=>bif j4u now (zQ 4 l z) (zQ 5 l z) then none else
  goP l r (x0v now (zQ 4 l z) (zQ 5 l z)) (bx++match r with
   | []=>[]
   | z'::_=>(x0v now (zQ 4 l z) (zQ 5 l z)).map (pz6 z z'))
def w8s (l:List R7) (bx:List R6):Int:=bif Ka bx != 0 then 28 else bif z4o (Xx bx) != 0 then 28 else bif !(y0w (Us (Xx bx)) l) then 28 else 0
def x3x (l:List R7):Int:=bif z9e l != 0 then z9e l else match goP l (plZ l) [] [] with
 | none=>28
 | some bx=>w8s l bx
def v9o (l:List R7):List R6:=match goP l (plZ l) [] [] with
 | none=>[]
 | some bx=>Xx bx
def y4t (l:List R7):Int:=x3x l
def Kd (l:List R7):List R6:=y6t (x3x l) (v9o l)
def z8f (l:List R7):Bool:=Vv l
theorem y7f (l:List R7):(zsQ l).length ≤l.length:=by unfold zsQ;rw [AS];exact BS _ _
theorem x2n (d:Int) (l:List R7) (z:Int):(zQ d l z).length ≤l.length:=by unfold zQ;rw [AS];exact BS _ _
theorem We (d:Int) (l m:List R7) (z:Int):zQ d (l++m) z=zQ d l z++zQ d m z:=by unfold zQ;rw [B7,By]
theorem w4c (l m:List R7):zsQ (l++m)=zsQ l++zsQ m:=by unfold zsQ;rw [B7,By]
theorem y3g {l:List R7} (h:z9e l=0):l.length≤3000∧ ∀r∈l,x5y r=true:=by
 unfold z9e at h;by_cases g:3000<l.length
 ·rw [Ah g] at h;cases h
 ·rw [Ay g,Aa] at h;cases q:l.all x5y with
  | false=>rw [q] at h;cases h
  | true=>exact ⟨by omega,Au.1 q⟩
theorem val7_a {r:R7} (h:x5y r=true):r.a≤5:=by unfold x5y at h;simp only [Ac,As] at h;exact h.1
theorem y4g (l:List R6):(Xx l).length ≤400:=by
 unfold Xx y6t;cases g:(Ka l != 0) with
 | true=>exact AA _
 | false=>
  rw [Aa];have h:Ka l=0:=by simpa using g
  unfold Ka at h;cases g1:decide (400<l.length) with
  | true=>rw [g1] at h;cases h
  | false=>
   cases g2:l.all z1i with
   | false=>rw [g1,g2] at h;cases h
   | true=>
    rw [g1,g2,Aa,Ab] at h;cases g3:okF l ((D6.cuts l).length - 1) 0 with
    | false=>rw [g3,Aa] at h;have:=u1j _ _ g3;rw [h] at this;cases this
    | true=>rw [g3,Ab] at h;exact x1v h
theorem j1c {L:List R6}:(Us L).length ≤3000:=by
 unfold Us y6t;cases g:(w6o L != 0) with
 | true=>exact AA _
 | false=>
  rw [Aa];have h:w6o L=0:=by simpa using g
  unfold w6o at h;refine AI fun hn=> ?_;rw [show decide (((w3a L).length :Int)>3000)=true from Ah (by omega)] at h;revert h;have z: ∀(e x:Int),x≠0→(bif e != 0 then e else x)≠0:=fun e x hx=>by
   cases q:(e != 0) with
   | true=>rw [Ab];simpa using q
   | false=>rw [Aa];exact hx
  exact z _ _ (z _ _ (z _ _ (z _ _ (z _ _ (z _ _ (by decide))))))
theorem six {a:Int} (h0:0≤a) (h5:a≤5):((wrap IntKind.u8 (Int.tdiv a 2)) == 2)=decide (4≤a)∧decide (Int.tmod a 2=Int.ofNat 0)=decide (a=0∨a=2∨a=4)∧decide (Int.tmod a 2=Int.ofNat 1)=decide (a=1∨a=3∨a=5):=by
 have:a=0∨a=1∨a=2∨a=3∨a=4∨a=5:=by omega
 rcases this with rfl | rfl | rfl | rfl | rfl | rfl <;> exact ⟨rfl,rfl,rfl⟩
section
variable (l:List R7) (hl:l.length≤3000) (ha: ∀i,i<l.length→0≤(rd l i).a ∧(rd l i).a ≤5)
include hl ha
theorem u5z : ∀(k i:Nat) (acc:List Int),i+k=l.length→acc.length≤i→zsQ l=acc++zsQ (l.drop i)→
  ∃n,∀N,Zs (Wj l) (N+n) (.to (.h0 acc (i:Int)))=Zs (Wj l) N (.to (.h1 (plZ l).length [] [] (plZ l).length ((plZ l).length :Int) 0 (Wc (Xc (zsQ l)))))
 | 0,i,acc,h,h',e=>by have _u:=ha;rw [At (by omega),show zsQ []=[] from rfl,Az] at e;subst e;refine ⟨1,fun N=> ?_⟩;rw [Zv];simp (disch:=omega) only [Wj,Jd,z0f,y0f,Yz,Yk,Yp,Av,Ab,Aa];rfl
 | k+1,i,acc,h,h',e=>by
  have hi:i<l.length:=by omega
  obtain ⟨b0,b5⟩:=ha i hi;obtain ⟨s1,_,_⟩:=six b0 b5;have e2:zsQ l=(acc++zsQ [rd l i])++zsQ (l.drop (i+1)):=by rw [AH,←w4c,e,Yj hi];rfl
  obtain ⟨n,hn⟩:=u5z k (i+1) (acc++zsQ [rd l i]) (by omega) (by have:=y7f [rd l i];simp only [Ar,Bl] at*;omega) e2;refine ⟨n+1,fun N=> ?_⟩;rw [←AD,Zv,←hn N];by_cases h4:4≤(rd l i).a
  ·rw [show zsQ [rd l i]=[(rd l i).d] by unfold zsQ;rw [Br,AB (Ah h4)];rfl];rw [Ah h4] at s1;simp (disch:=omega) only [Wj,s1,Zg,Zq,Zn,Zo,Yc,Yk,Yp,Zf,Zk,Zx,Ym,Zj,Ag,Av,Ai,Al,Ab,Aa]
  ·rw [show zsQ [rd l i]=[] by unfold zsQ;rw [Br,Aw (by simp [h4])];rfl,Az];rw [Ay h4] at s1;simp (disch:=omega) only [Wj,s1,Zg,Zq,Zn,Zo,Yc,Yk,Yp,Zf,Zk,Zx,Ym,Zj,Ag,Av,Ai,Al,Ab,Aa]
theorem u5x (n6:Nat) (bx:List R6) (now:List R4) (v11 z:Int) (n58:Nat) (v59 v60:Int) (P:List Int): ∀(k j:Nat) (e b:List R4),j+k=l.length→e.length≤j→b.length≤j→zQ 4 l z=e++zQ 4 (l.drop j) z→zQ 5 l z=b++zQ 5 (l.drop j) z→
  ∃n,∀N,Zs (Wj l) (N+n) (.to (.h2 n6 bx now v11 z n58 v59 v60 (j:Int) P e b))=Zs (Wj l) N (bif j4u now (zQ 4 l z) (zQ 5 l z) then .ret [.nils,.int .i64 28] else
   .to (.h3 n6 bx (x0v now (zQ 4 l z) (zQ 5 l z)) v11 z n58 v59 v60 (x0v now (zQ 4 l z) (zQ 5 l z)) ((x0v now (zQ 4 l z) (zQ 5 l z)).length :Int) 0 P))
 | 0,j,e,b,h,h1,h2,e4,e5=>by
  have _u:=ha;rw [At (by omega),show∀d,zQ d [] z=[] from fun _=>rfl,Az] at e4 e5;refine ⟨1,fun N=> ?_⟩;rw [Zv,e4,e5];have o1: ∀x,Uj x=true:=fun _=>rfl;have o2: ∀q x y,Qe q x y=true:=fun _ _ _=>rfl;simp (disch:=omega) only [Wj,Yz,Zg,o1,o2,Ab,Aa,j4u,x0v,x3d]
  congr 1
  cases (Xn e != 0) <;> cases (Xn b != 0) <;> cases (rgE .d now (Zc e) != 0) <;> cases (rgE .u (Vy .d now (Zc e)) (Zc b) != 0) <;> rfl
 | k +1,j,e,b,h,h1,h2,e4,e5=>by
  have hj:j<l.length:=by omega
  obtain ⟨b0,b5⟩:=ha j hj;obtain ⟨s1,s2,s3⟩:=six b0 b5;have f4:zQ 4 l z=(e++zQ 4 [rd l j] z)++zQ 4 (l.drop (j+1)) z:=by rw [AH,←We,e4,Yj hj];rfl
  have f5:zQ 5 l z=(b++zQ 5 [rd l j] z)++zQ 5 (l.drop (j+1)) z:=by rw [AH,←We,e5,Yj hj];rfl
  obtain ⟨n,hn⟩:=u5x n6 bx now v11 z n58 v59 v60 P k (j+1) (e++zQ 4 [rd l j] z) (b++zQ 5 [rd l j] z) (by omega)
   (by have:=x2n 4 [rd l j] z;simp only [Ar,Bl] at*;omega) (by have:=x2n 5 [rd l j] z;simp only [Ar,Bl] at*;omega) f4 f5
  refine ⟨n+1,fun N=> ?_⟩;rw [←AD,Zv,←hn N];have no: ∀d,¬((rd l j).a =d∧(rd l j).d =z)→zQ d [rd l j] z=[]:=fun d hn=>by unfold zQ;rw [Br,Aw (by simpa using hn)];rfl
  have ye: ∀d,((rd l j).a =d∧(rd l j).d =z)→zQ d [rd l j] z=[⟨(rd l j).b,(rd l j).c,(rd l j).e,(rd l j).f⟩]:=fun d hy=>by unfold zQ;rw [Br,AB (by simpa using hy)];rfl
  by_cases h4:4≤(rd l j).a
  ·rw [Ah h4] at s1;by_cases hz:(rd l j).d =z
   ·have hzb:((rd l j).d == z)=true:=(by simpa using hz);by_cases h44:(rd l j).a =4
    ·replace s2:=s2.trans (Ah (p:=(rd l j).a =0∨(rd l j).a =2∨(rd l j).a =4) (by omega))
     rw [ye 4 ⟨h44,hz⟩,no 5 (by omega),Az];simp (disch:=omega) only [Wj,s1,s2,hzb,Zg,Zq,Zn,Zo,Yc,Yk,Yp,Zf,Zk,Zx,Ym,Zj,Ag,Av,Ai,Al,Ab,Aa]
    ·replace s2:=s2.trans (Ay (p:=(rd l j).a =0∨(rd l j).a =2∨(rd l j).a =4) (by omega))
     replace s3:=s3.trans (Ah (p:=(rd l j).a =1∨(rd l j).a =3∨(rd l j).a =5) (by omega))
     rw [ye 5 ⟨by omega,hz⟩,no 4 (by omega),Az];simp (disch:=omega) only [Wj,s1,s2,s3,hzb,Zg,Zq,Zn,Zo,Yc,Yk,Yp,Zf,Zk,Zx,Ym,Zj,Ag,Av,Ai,Al,Ab,Aa]
   ·have hzb:((rd l j).d == z)=false:=(by simpa using hz);rw [no 5 (fun g=>hz g.2),no 4 (fun g=>hz g.2),Az,Az];simp (disch:=omega) only [Wj,s1,hzb,Zg,Zq,Zn,Zo,Yc,Yk,Yp,Zf,Zk,Zx,Ym,Zj,Ag,Av,Ai,Al,Ab,Aa]
  ·rw [Ay h4] at s1;rw [no 5 (by omega),no 4 (by omega),Az,Az];simp (disch:=omega) only [Wj,s1,Zg,Zq,Zn,Zo,Yc,Yk,Yp,Zf,Zk,Zx,Ym,Zj,Ag,Av,Ai,Al,Ab,Aa]
theorem v2n (n6:Nat) (hn6:n6≤3000) (now:List R4) (i:Nat) (hi:i<n6) (z:Int) (v59:Int) (R:List R4) (hR:R.length≤400) (P:List Int) (hP:n6≤P.length): ∀(k j:Nat) (bx:List R6),j+k=R.length→bx.length≤2000000+j→
  ∃n,∀N,Zs (Wj l) (N+n) (.to (.h3 n6 bx now (i:Int) z n6 v59 (i:Int) R (R.length:Int) (j:Int) P))=Zs (Wj l) N (.to (.h1 n6 (bx++bif decide (i+1<n6) then (R.drop j).map (pz6 z (rd P (i+1))) else []) now n6 v59 ((i+1:Nat):Int) P))
 | 0,j,bx,h,h'=>by have _u:=ha;have _v:=hl;refine ⟨1,fun N=> ?_⟩;rw [At (by omega),Bb,show (bif decide (i+1<n6) then ([]:List R6) else [])=[] by cases decide (i+1<n6) <;> rfl,Az,Zv];simp (disch:=omega) only [Wj,Yz,Zk,Zx,Aa]
 | k+1,j,bx,h,h'=>by
  have hj:j<R.length:=by omega
  have ew:wrap .i64 ((i:Int)+1)=((i+1:Nat):Int):=by rw [Zk (by omega)];exact Zx i
  by_cases g:i+1<n6
  ·obtain ⟨n,hn⟩:=v2n n6 hn6 now i hi z v59 R hR P hP k (j+1) (bx++[pz6 z (rd P (i+1)) (rd R j)]) (by omega) (by simp only [Ar,Bl];omega);refine ⟨n+1,fun N=> ?_⟩;rw [Ah g,Ab] at hn;rw [Ah g,Ab,Yj hj,A4,←AD,Zv,show bx++pz6 z (rd P (i+1)) (rd R j)::(R.drop (j+1)).map (pz6 z (rd P (i+1)))=(bx++[pz6 z (rd P (i+1)) (rd R j)])++(R.drop (j+1)).map (pz6 z (rd P (i+1))) by simp,←hn N];simp (disch:=omega) only [Wj,ew,Zg,Zq,Zn,Zo,Yc,Yk,Yp,Zf,Zk,Zx,Ym,Zj,Ag,Av,Ai,Al,Ab,Aa];rfl
  ·obtain ⟨n,hn⟩:=v2n n6 hn6 now i hi z v59 R hR P hP k (j+1) bx (by omega) (by omega);refine ⟨n+1,fun N=> ?_⟩;rw [Ay g,Aa] at hn;rw [Ay g,Aa,←AD,Zv,←hn N];simp (disch:=omega) only [Wj,ew,Yz,Zg,Zq,Zn,Zo,Zk,Zx,Zj,Ai,Ab,Aa]
def resR (l:List R7):Option (List R6)→List AVal
 | none=>[.nils,.int .i64 28]
 | some bx=>y1a (w8s l bx) (Xx bx)
theorem u5y : ∀(k i:Nat) (now:List R4) (bx:List R6),i+k=(plZ l).length →bx.length≤400*i→
  ∃n,Zs (Wj l) n (.to (.h1 (plZ l).length bx now (plZ l).length ((plZ l).length :Int) (i:Int) (Wc (Xc (zsQ l)))))=.ret (resR l (goP l ((plZ l).drop i) now bx))
 | 0,i,now,bx,h,hb=>by have _u:=ha;have _v:=hl;rw [At (show (plZ l).length ≤i by omega)];have o2:z2c (Xx bx)=true:=Ah (y4g bx);have o3:z2r (Us (Xx bx)) l=true:=Ah (by have:=j1c (L:=Xx bx);omega);refine ⟨1,?_⟩;rw [Zv];simp (disch:=omega) only [Wj,Yz,Zg,show∀x,z7f x=true from fun _=>rfl,o2,o3,Ab,Aa];show Zs (Wj l) 0 _=.ret (y1a (w8s l bx) (Xx bx));unfold w8s y1a;cases (Ka bx != 0) <;> cases (z4o (Xx bx) != 0) <;> cases (y0w (Us (Xx bx)) l) <;> rfl
 | k +1,i,now,bx,h,hb=>by
  have hi:i<(plZ l).length :=by omega
  have hp:(plZ l).length ≤3000:=AL (z3i _) (AL (y7f l) hl);have hpl:(Wc (Xc (zsQ l))).length =(zsQ l).length :=by rw [Uq,Vq]
  have hcl:(plZ l).length ≤(zsQ l).length :=z3i _;have r0:rd (Wc (Xc (zsQ l))) i=rd (plZ l) i:=z4k _ _ hi;obtain ⟨n2,h2⟩:=u5x l hl ha (plZ l).length bx now (i:Int) (rd (plZ l) i) (plZ l).length ((plZ l).length :Int) (i:Int) (Wc (Xc (zsQ l))) l.length 0 [] [] (Ag _) (Ao _) (Ao _) rfl rfl;have st: ∀N,Zs (Wj l) (N+n2+1) (.to (.h1 (plZ l).length bx now (plZ l).length ((plZ l).length :Int) (i:Int) (Wc (Xc (zsQ l)))))=Zs (Wj l) N (bif j4u now (zQ 4 l (rd (plZ l) i)) (zQ 5 l (rd (plZ l) i)) then .ret [.nils,.int .i64 28] else
    .to (.h3 (plZ l).length bx (x0v now (zQ 4 l (rd (plZ l) i)) (zQ 5 l (rd (plZ l) i))) (i:Int) (rd (plZ l) i) (plZ l).length ((plZ l).length :Int) (i:Int) (x0v now (zQ 4 l (rd (plZ l) i)) (zQ 5 l (rd (plZ l) i))) ((x0v now (zQ 4 l (rd (plZ l) i)) (zQ 5 l (rd (plZ l) i))).length :Int) 0 (Wc (Xc (zsQ l))))):=fun N=>by
   rw [←h2 N,Zv];simp (disch:=omega) only [Wj,r0,Zg,Zn,Zo,Yk,Zj,Ag,Av,Ai,Ab,Aa];rfl
  rw [Yj hi];rcases Yd (j4u now (zQ 4 l (rd (plZ l) i)) (zQ 5 l (rd (plZ l) i))) with g | g
  ·refine ⟨0+n2+1,?_⟩;rw [st 0,g,Ab,Zp];unfold goP;rw [g];rfl
  ·have hn4:(x0v now (zQ 4 l (rd (plZ l) i)) (zQ 5 l (rd (plZ l) i))).length ≤400:=u4v;obtain ⟨n3,h3⟩:=v2n l hl ha (plZ l).length hp (x0v now (zQ 4 l (rd (plZ l) i)) (zQ 5 l (rd (plZ l) i))) i hi (rd (plZ l) i) ((plZ l).length :Int) (x0v now (zQ 4 l (rd (plZ l) i)) (zQ 5 l (rd (plZ l) i))) hn4 (Wc (Xc (zsQ l))) (by omega) (x0v now (zQ 4 l (rd (plZ l) i)) (zQ 5 l (rd (plZ l) i))).length 0 bx (Ag _) (by omega);rw [A3] at h3;obtain ⟨n,hn⟩:=u5y k (i+1) (x0v now (zQ 4 l (rd (plZ l) i)) (zQ 5 l (rd (plZ l) i))) (bx++bif decide (i+1<(plZ l).length) then (x0v now (zQ 4 l (rd (plZ l) i)) (zQ 5 l (rd (plZ l) i))).map (pz6 (rd (plZ l) i) (rd (Wc (Xc (zsQ l))) (i+1))) else []) (by omega) (by
    rw [Ar];cases decide (i+1<(plZ l).length) with
    | true=>rw [Ab,AS];omega
    | false=>rw [Aa,Bq];omega)
   refine ⟨n+n3+n2+1,?_⟩;rw [st (n+n3),g,Aa];refine (h3 n).trans (hn.trans ?_);have em:(bif decide (i+1<(plZ l).length) then (x0v now (zQ 4 l (rd (plZ l) i)) (zQ 5 l (rd (plZ l) i))).map (pz6 (rd (plZ l) i) (rd (Wc (Xc (zsQ l))) (i+1))) else [])=(match (plZ l).drop (i+1) with
     | []=>[]
     | z'::_=>(x0v now (zQ 4 l (rd (plZ l) i)) (zQ 5 l (rd (plZ l) i))).map (pz6 (rd (plZ l) i) z')):=by
    by_cases q:i+1<(plZ l).length
    ·rw [Ah q,Ab,Yj q,z4k _ _ q];rfl
    ·rw [Ay q,Aa,At (by omega)]
   rw [em]
   conv=>rhs;unfold goP
   rw [g,Aa]
end
theorem j0u (l:List R7) (h:z8f l=true): ∃n,Zs (Wj l) n (y3c l)=.ret (y1a (y4t l) (v9o l)):=by
 unfold y3c y4t x3x;simp only [Zg,show Vv l=true from h,Ab];rcases Yd (z9e l != 0) with q | q
 ·refine ⟨0,?_⟩;rw [q,Ab,Ab,z0x _ q];rfl
 ·rw [q,Aa,Aa];obtain ⟨hl,hv⟩:=y3g (l:=l) (by simpa using q);have ha: ∀i,i<l.length→0≤(rd l i).a ∧(rd l i).a ≤5:=fun i hi=>by
   have hm:rd l i∈l:=by rw [Yo hi];exact AR hi
   have:=Au.1 h _ hm;simp only [Ac,As] at this;exact ⟨this.1,val7_a (hv _ hm)⟩
  obtain ⟨n0,h0⟩:=u5z l hl ha l.length 0 [] (Ag _) (Ao _) rfl;obtain ⟨n1,h1⟩:=u5y l hl ha (plZ l).length 0 [] [] (Ag _) (Ao _);refine ⟨n1+n0,?_⟩;refine (h0 n1).trans (h1.trans ?_);rw [A3];unfold v9o;cases goP l (plZ l) [] [] with
  | none=>rfl
  | some bx=>rfl
def fMso :List AVal→Option (AVal×Bool)
 | [a0]=>match asL R7 a0 with
  | some (L0,g0,n0)=>some (.tup [.dat (Kd L0).length (Zz (Kd L0)),.int .i64 (y4t L0)],isT R7 n0 g0&&(z8f L0))
  | _=>none
 | _=>none
theorem j3c {S:Specs} (hS:Zu prog S):Zu prog (S.with v2k fMso):=by
 refine w8u hS (by kernel_rfl) fun args v h=> ?_;unfold fMso at h;split at h
 ·rename_i a0;split at h
  ·rename_i L0 g0 n0 e0;simp only [Ae,Ad,Ac] at h;obtain ⟨rfl,ho0,hw⟩:=h;obtain ⟨N,hN⟩:=j0u L0 hw;exact ⟨_,_,(.cons (asL_le e0 ho0) .nil),z2v _ _,v9n L0 N _ hN,3,z6k _ _⟩
  ·cases h
 ·cases h
def Mi :Specs:=(Mh.with v2k fMso)
theorem Jp :Zu prog Mi:=(j3c Qu)
theorem chg {L:List R2} (h:Can L) {y:Int} (hy:y∈y6d L) (hS:pt L (y - 1)↔pt L y):False:=by
 obtain ⟨s,hs,h1⟩:=AN.1 hy;have hp:=h.pos s hs;have sepL: ∀t∈L,t=s∨t.b<s.a∨s.b<t.a:=fun t ht=>by
  obtain ⟨i,hi,ei⟩:=AZ hs;obtain ⟨j,hj,ej⟩:=AZ ht;have pw:=Bp.1 h.sep;rcases BC i j with q | q | q
  ·have:=pw i j hi hj q;rw [ei,ej] at this;exact .inr (.inr this)
  ·subst q;exact .inl (ej.symm.trans ei)
  ·have:=pw j i hj hi q;rw [ei,ej] at this;exact .inr (.inl this)
 simp only [AE,Bc,BX] at h1;rcases h1 with rfl | rfl
 ·obtain ⟨t,ht,t1,t2⟩:=hS.2 ⟨s,hs,AU _,hp⟩;rcases sepL t ht with rfl | q | q <;> omega
 ·obtain ⟨t,ht,t1,t2⟩:=hS.1 ⟨s,hs,by omega,by omega⟩;rcases sepL t ht with rfl | q | q <;> omega
theorem z4n : ∀(l S:List Int),l.Pairwise (· ≠ ·)→(∀x∈l,x∈S)→l.length≤S.length
 | [],S,_,_=>AA _
 | x::l,S,h,hs=>by obtain ⟨h1,h2⟩:=AV.1 h;have hx:=hs x (by simp);have:=z4n l (S.erase x) h2 fun y hy=>(List.mem_erase_of_ne (fun e=>h1 y hy e.symm)).2 (hs y (by simp [hy]));rw [List.length_erase_of_mem hx] at this;have:=List.length_pos_of_mem hx;simp only [AW];omega
open Go.Proofs.Tryz
open Go.Proofs
inductive putS where
def putC (x0:Int) (x1:Int) (x2:Int) (x3:Int):putS→Cfg
 :=nofun
def x8f (x0:Int) (x1:Int) (x2:Int) (x3:Int):putS→Xv putS
 :=nofun
def y3b (x0:Int) (x1:Int) (x2:Int) (x3:Int):Xv putS:=(bif (x0 == 0) then (.ret [(.agg [(.int .i64 x1),(.int .i64 x2),(.int .i64 x3)])]) else (bif (x0 == 1) then (.ret [(.agg [(.int .i64 x2),(.int .i64 x1),(.int .i64 x3)])]) else (.ret [(.agg [(.int .i64 x2),(.int .i64 x3),(.int .i64 x1)])])))
theorem w6h (x0:Int) (x1:Int) (x2:Int) (x3:Int): ∀s,Yt prog (Zy prog 62) (putC x0 x1 x2 x3) (putC x0 x1 x2 x3 s) (x8f x0 x1 x2 x3 s)
 :=nofun
theorem x8g (x0:Int) (x1:Int) (x2:Int) (x3:Int):Yt prog (Zy prog 62) (putC x0 x1 x2 x3) (Za prog 62 [(.int .i64 x0),(.int .i64 x1),(.int .i64 x2),(.int .i64 x3)] true []) (y3b x0 x1 x2 x3):=(lb (fun k0=>(z3d ⟨⟨26,0,true⟩,none,(Zb prog 3 [1,1,1,1,1,1,1,0] 1),none,(Zy prog 62),⟨Yg [(8,(.ptr 0 0))],Wh [⟨[(ii x1),(ii x2),(ii x3)],55,none⟩] 0,1,[],true⟩,[],.leaf⟩ (sl Jp 132 [] ⟨[0],[],[some [8]],[]⟩ ⟨[],[],[]⟩ [true,true,false,true,false,false] (tt k0 (tt k0 nn))) rfl (by kernel_rfl))) (fun k0=>(lb (fun k1=>(z3d ⟨⟨26,0,true⟩,none,(Zb prog 3 [1,1,1,1,1,1,1,0] 1),none,(Zy prog 62),⟨Yg [(8,(.ptr 0 0))],Wh [⟨[(ii x2),(ii x1),(ii x3)],55,none⟩] 0,1,[],true⟩,[],.leaf⟩ (sl Jp 140 [] ⟨[0],[],[some [8]],[]⟩ ⟨[],[],[]⟩ [false,true,false,true,true,false,false] (tt k1 (tt k0 (tt k1 (tt k0 nn))))) rfl (by kernel_rfl))) (fun k1=>(z3d ⟨⟨26,0,true⟩,none,(Zb prog 3 [1,1,1,1,1,1,1,0] 1),none,(Zy prog 62),⟨Yg [(8,(.ptr 0 0))],Wh [⟨[(ii x2),(ii x3),(ii x1)],55,none⟩] 0,1,[],true⟩,[],.leaf⟩ (sl Jp 141 [] ⟨[0],[],[some [8]],[]⟩ ⟨[],[],[]⟩ [false,false,false,false,true,false,true] (tt k1 (tt k0 (tt k1 (tt k0 nn))))) rfl (by kernel_rfl))))))
theorem v9g (x0:Int) (x1:Int) (x2:Int) (x3:Int) (n:Nat) (vs:List AVal) (h:Zs (x8f x0 x1 x2 x3) n (y3b x0 x1 x2 x3)=.ret vs):Jy prog (Zy prog 62) (Za prog 62 [(.int .i64 x0),(.int .i64 x1),(.int .i64 x2),(.int .i64 x3)] true []) vs:=by have:=Zd (w6h x0 x1 x2 x3) n _ (x8g x0 x1 x2 x3);rwa [h] at this
inductive rh6S where
 | h0 (v5:Int)
def rh6C (l0:List R6) (bO:Int) (bP:Int) (bQ:Int):rh6S→Cfg
 | .h0 v5=>⟨⟨18,0,true⟩,none,(Zb prog 61 [1,0,1,0,0] 0),none,(Zy prog 5),⟨Yg [(0,(.dat l0.length (Zz l0))),(3,(.ptr 0 0)),(5,(ii v5))],Wh [⟨[(ii bO),(ii bP),(ii bQ)],55,none⟩] 0,1,[],true⟩,[],.leaf⟩
def x7o :List (Option (List Nat)):=[some [0,3,5]]
def x7p :List (Option (List Nat)):=[]
def z6j (l0:List R6) (bO:Int) (bP:Int) (bQ:Int):rh6S→Xv rh6S
 | .h0 v5=>(bif (decide (v5<(l0.length:Int))) then (bif ((decide (0≤v5∧v5<(l0.length:Int)))&&true) then (bif (decide ((rd l0 v5.toNat).a ≤bO)) then (bif (decide (bO<(rd l0 v5.toNat).d)) then (bif (decide ((rd l0 v5.toNat).b ≤bP)) then (bif (decide (bP<(rd l0 v5.toNat).e)) then (bif (decide ((rd l0 v5.toNat).c ≤bQ)) then (bif (decide (bQ<(rd l0 v5.toNat).f)) then (.ret [(.bool true)]) else (.to (.h0 (wrap .i64 (v5+1))))) else (.to (.h0 (wrap .i64 (v5+1))))) else (.to (.h0 (wrap .i64 (v5+1))))) else (.to (.h0 (wrap .i64 (v5+1))))) else (.to (.h0 (wrap .i64 (v5+1))))) else (.to (.h0 (wrap .i64 (v5+1))))) else .stuck) else (.ret [(.bool false)]))
def x0o (l0:List R6) (bO:Int) (bP:Int) (bQ:Int):Xv rh6S:=(.to (.h0 0))
theorem w5x (l0:List R6) (bO:Int) (bP:Int) (bQ:Int): ∀s,Yt prog (Zy prog 61) (rh6C l0 bO bP bQ) (rh6C l0 bO bP bQ s) (z6j l0 bO bP bQ s)
 | .h0 v5=>(lb (fun k0=>(lo fun aG=>(lb (fun k1=>(lb (fun k2=>(lb (fun k3=>(lb (fun k4=>(lb (fun k5=>(lb (fun k6=>(lr 18 61 [1,0,1,0,0,1,0,0,1,0,0] 1 5 [(4,(.bool true))] (sl Jp 19 [] ⟨[],[],[some [4]],[]⟩ ⟨[],[],[]⟩ (trs 32 []) (tt k6 (tt k5 (tt k4 (tt k3 (tt k2 (tt k1 (ww aG (tt k0 nn))))))))))) (fun k6=>(sl Jp 23 [] ⟨[0],[],x7o,x7p⟩ ⟨[],[],[]⟩ (trs 31 [false]) (tt k6 (tt k5 (tt k4 (tt k3 (tt k2 (tt k1 (ww aG (tt k0 nn)))))))))))) (fun k5=>(sl Jp 23 [] ⟨[0],[],x7o,x7p⟩ ⟨[],[],[]⟩ (trs 25 (bl 7 0)) (tt k5 (tt k4 (tt k3 (tt k2 (tt k1 (ww aG (tt k0 nn))))))))))) (fun k4=>(sl Jp 23 [] ⟨[0],[],x7o,x7p⟩ ⟨[],[],[]⟩ (trs 19 (bl 13 0)) (tt k4 (tt k3 (tt k2 (tt k1 (ww aG (tt k0 nn)))))))))) (fun k3=>(sl Jp 23 [] ⟨[0],[],x7o,x7p⟩ ⟨[],[],[]⟩ (trs 13 (bl 19 0)) (tt k3 (tt k2 (tt k1 (ww aG (tt k0 nn))))))))) (fun k2=>(sl Jp 23 [] ⟨[0],[],x7o,x7p⟩ ⟨[],[],[]⟩ (trs 7 (bl 25 0)) (tt k2 (tt k1 (ww aG (tt k0 nn)))))))) (fun k1=>(sl Jp 23 [] ⟨[0],[],x7o,x7p⟩ ⟨[],[],[]⟩ (bl 32 1) (tt k1 (ww aG (tt k0 nn)))))))) (fun k0=>(lr 18 3 [1,1,1,1,1,1,1,0] 1 5 [(4,(.bool false))] (sl Jp 14 [] ⟨[],[],[some [4]],[]⟩ ⟨[],[],[]⟩ [false] (tt k0 nn)))))
theorem x7n (l0:List R6) (bO:Int) (bP:Int) (bQ:Int):Yt prog (Zy prog 61) (rh6C l0 bO bP bQ) (Za prog 61 [(.dat l0.length (Zz l0)),(.agg [(.int .i64 bO),(.int .i64 bP),(.int .i64 bQ)])] true []) (x0o l0 bO bP bQ):=(sl Jp 12 [] ⟨[0],[],x7o,x7p⟩ ⟨[],[],[]⟩ [] nn)
theorem v8f (l0:List R6) (bO:Int) (bP:Int) (bQ:Int) (n:Nat) (vs:List AVal) (h:Zs (z6j l0 bO bP bQ) n (x0o l0 bO bP bQ)=.ret vs):Jy prog (Zy prog 61) (Za prog 61 [(.dat l0.length (Zz l0)),(.agg [(.int .i64 bO),(.int .i64 bP),(.int .i64 bQ)])] true []) vs:=by have:=Zd (w5x l0 bO bP bQ) n _ (x7n l0 bO bP bQ);rwa [h] at this
inductive twiS where
def twiC (l0:List R6):twiS→Cfg
 :=nofun
def x5z (l0:List R6):twiS→Xv twiS
 :=nofun
def y2b (l0:List R6):Xv twiS:=(bif (decide ((0+l0.length+1)*(48+1)≤Uw)) then (.ret [(.dat l0.length (Zz l0))]) else .stuck)
theorem w4j (l0:List R6): ∀s,Yt prog (Zy prog 14) (twiC l0) (twiC l0 s) (x5z l0 s)
 :=nofun
theorem x6a (l0:List R6):Yt prog (Zy prog 14) (twiC l0) (Za prog 14 [(.dat l0.length (Zz l0))] true []) (y2b l0):=(lo fun o0=>(lr 6 3 [1,1,1,1,1,1,1,0] 1 3 [(2,(.dat l0.length (Zz l0)))] (sl Jp 11 [] ⟨[],[1],[some [2]],[]⟩ ⟨[(2,.frz (0+l0.length) l0.length (Uf (fun k=>(([]:List AVal).drop (k*6)).take 6) 0 (Zz l0)) (Zz l0))],[],[]⟩ [] (pp (xZ (z1p 6 6 0 (0+l0.length) (0+l0.length) (Uf (fun k=>(([]:List AVal).drop (k*6)).take 6) 0 (Zz l0))) (0+l0.length) (Uf (fun k=>(([]:List AVal).drop (k*6)).take 6) 0 (Zz l0))) (pp (xL (0+l0.length) l0.length (Va (Ag _))) (pp (xS (0+l0.length) (Uf (fun k=>(([]:List AVal).drop (k*6)).take 6) 0 (Zz l0)) (Zz l0)) (pp (pp (xF (Uf (fun k=>(([]:List AVal).drop (k*6)).take 6) 0 (Zz l0))) nn) (pp (pp nn (pp (xG (x1q 6 l0.length (Zz l0))) (xw o0))) nn))))))))
theorem v6o (l0:List R6) (n:Nat) (vs:List AVal) (h:Zs (x5z l0) n (y2b l0)=.ret vs):Jy prog (Zy prog 14) (Za prog 14 [(.dat l0.length (Zz l0))] true []) vs:=by have:=Zd (w4j l0) n _ (x6a l0);rwa [h] at this
inductive rsqS where
 | h0 (v5:Int)
def rsqC (l0:List R7) (l1:List R7):rsqS→Cfg
 | .h0 v5=>⟨⟨26,0,true⟩,none,(Zb prog 19 [1,1,0,1,0,0] 0),none,(Zy prog 5),⟨Yg [(0,(.dat l0.length (Zz l0))),(1,(.dat l1.length (Zz l1))),(5,(ii v5))],Wh [] 0,0,[],true⟩,[],.leaf⟩
def rsqN0 :List (Option (List Nat)):=[some [0,1,5]]
def rsqM0 :List (Option (List Nat)):=[]
def z6g (l0:List R7) (l1:List R7):rsqS→Xv rsqS
 | .h0 v5=>(bif (decide (v5<(l0.length:Int))) then (bif ((decide (0≤v5∧v5<(l0.length:Int)))&&true) then (bif ((decide (0≤v5∧v5<(l1.length:Int)))&&true) then (bif (!(((rd l0 v5.toNat).a == (rd l1 v5.toNat).a)&&((((rd l0 v5.toNat).b == (rd l1 v5.toNat).b)&&(((rd l0 v5.toNat).c == (rd l1 v5.toNat).c)&&(((rd l0 v5.toNat).d == (rd l1 v5.toNat).d)&&true)))&&((((rd l0 v5.toNat).e == (rd l1 v5.toNat).e)&&(((rd l0 v5.toNat).f == (rd l1 v5.toNat).f)&&(((rd l0 v5.toNat).g == (rd l1 v5.toNat).g)&&true)))&&true)))) then (.ret [(.bool false)]) else (.to (.h0 (wrap .i64 (v5+1))))) else .stuck) else .stuck) else (.ret [(.bool true)]))
def y2l (l0:List R7) (l1:List R7):Xv rsqS:=(bif ((l0.length:Int) != (l1.length:Int)) then (.ret [(.bool false)]) else (.to (.h0 0)))
theorem w5j (l0:List R7) (l1:List R7): ∀s,Yt prog (Zy prog 19) (rsqC l0 l1) (rsqC l0 l1 s) (z6g l0 l1 s)
 | .h0 v5=>(lb (fun k0=>(lo fun aG=>(lo fun aU=>(lb (fun k1=>(lr 26 19 [1,1,0,1,0,0,1,0,0,1,0,0] 1 5 [(4,(.bool false))] (sl Jp 19 [] ⟨[],[],[some [4]],[]⟩ ⟨[],[],[]⟩ (bl 2 3) (tt k1 (ww aU (ww aG (tt k0 nn))))))) (fun k1=>(sl Jp 23 [] ⟨[],[],rsqN0,rsqM0⟩ ⟨[],[],[]⟩ (bl 2 1) (tt k1 (ww aU (ww aG (tt k0 nn)))))))))) (fun k0=>(lr 26 3 [1,1,1,1,1,1,1,0] 1 5 [(4,(.bool true))] (sl Jp 14 [] ⟨[],[],[some [4]],[]⟩ ⟨[],[],[]⟩ [false] (tt k0 nn)))))
theorem x6y (l0:List R7) (l1:List R7):Yt prog (Zy prog 19) (rsqC l0 l1) (Za prog 19 [(.dat l0.length (Zz l0)),(.dat l1.length (Zz l1))] true []) (y2l l0 l1):=(lb (fun k0=>(lr 26 19 [1,0,1,0,0] 1 5 [(4,(.bool false))] (sl Jp 18 [] ⟨[],[],[some [4]],[]⟩ ⟨[],[],[]⟩ [true] (tt k0 nn)))) (fun k0=>(sl Jp 22 [] ⟨[],[],rsqN0,rsqM0⟩ ⟨[],[],[]⟩ [false] (tt k0 nn))))
theorem v7p (l0:List R7) (l1:List R7) (n:Nat) (vs:List AVal) (h:Zs (z6g l0 l1) n (y2l l0 l1)=.ret vs):Jy prog (Zy prog 19) (Za prog 19 [(.dat l0.length (Zz l0)),(.dat l1.length (Zz l1))] true []) vs:=by have:=Zd (w5j l0 l1) n _ (x6y l0 l1);rwa [h] at this
inductive greS where
def greC (l0:List R6):greS→Cfg
 :=nofun
def x9n (l0:List R6):greS→Xv greS
 :=nofun
def y3n (l0:List R6):Xv greS:=(bif (decide ((l0.length:Int)>12)) then (bif (decide ((l0.length:Int)≤400)) then (.ret [(.bool true)]) else (.ret [(.bool (decide ((l0.length:Int)>420)))])) else (.ret [(.bool (decide ((l0.length:Int)>420)))]))
theorem w7h (l0:List R6): ∀s,Yt prog (Zy prog 13) (greC l0) (greC l0 s) (x9n l0 s)
 :=nofun
theorem x9o (l0:List R6):Yt prog (Zy prog 13) (greC l0) (Za prog 13 [(.dat l0.length (Zz l0))] true []) (y3n l0):=(lb (fun k0=>(lb (fun k1=>(lr 16 3 [1,1,1,1,1,1,1,0] 1 3 [(2,(.bool true))] (sl Jp 21 [] ⟨[],[],[some [2]],[]⟩ ⟨[],[],[]⟩ (trs 6 []) (tt k1 (tt k0 nn))))) (fun k1=>(lr 16 3 [1,1,1,1,1,1,1,0] 1 3 [(2,(.bool (decide ((l0.length:Int)>420))))] (sl Jp 21 [] ⟨[],[],[some [2]],[]⟩ ⟨[],[],[]⟩ (trs 3 [false,false,false]) (tt k1 (tt k0 nn))))))) (fun k0=>(lr 16 3 [1,1,1,1,1,1,1,0] 1 3 [(2,(.bool (decide ((l0.length:Int)>420))))] (sl Jp 21 [] ⟨[],[],[some [2]],[]⟩ ⟨[],[],[]⟩ [false,false,false,false,false,false] (tt k0 nn)))))
theorem u0p (l0:List R6) (n:Nat) (vs:List AVal) (h:Zs (x9n l0) n (y3n l0)=.ret vs):Jy prog (Zy prog 13) (Za prog 13 [(.dat l0.length (Zz l0))] true []) vs:=by have:=Zd (w7h l0) n _ (x9o l0);rwa [h] at this
inductive cu9S where
 | h0 (v5:List Int) (v6:Int)
def cu9C (l0:List R6) (x1:Int):cu9S→Cfg
 | .h0 v5 v6=>⟨⟨32,0,true⟩,none,(Zb prog 60 [1,1,0,1,0,0] 0),none,(Zy prog 5),⟨Yg [(0,(.dat l0.length (Zz l0))),(1,(ii x1)),(5,(.sla 0 1 0 v5.length (.un 1))),(6,(ii v6))],Wh [⟨Yx v5.length (Zz v5),3,some ⟨1,v5.length,(Zz v5)⟩⟩] 0,1,[],true⟩,[],.leaf⟩
def cu9N0 :List (Option (List Nat)):=[some [0,1,5,6]]
def cu9M0 :List (Option (List Nat)):=[]
def y0e (l0:List R6) (x1:Int):cu9S→Xv cu9S
 | .h0 v5 v6=>(bif (decide (v6<(l0.length:Int))) then (bif ((decide (0≤v6∧v6<(l0.length:Int)))&&true) then (bif (Nat.beq 1 1&&((decide (0+v5.length=v5.length))&&decide ((v5.length+2+1)*(8+1)≤Uw))) then (.to (.h0 (v5++[(Jq (rd l0 v6.toNat).a (rd l0 v6.toNat).b (rd l0 v6.toNat).c x1),(Jq (rd l0 v6.toNat).d (rd l0 v6.toNat).e (rd l0 v6.toNat).f x1)]) (wrap .i64 (v6+1)))) else .stuck) else .stuck) else (bif (Wu (cvT v5)) then (.ret [(.dat (Un (cvT v5)).length (Zz (Un (cvT v5))))]) else .stuck))
def x1r (l0:List R6) (x1:Int):Xv cu9S:=(.to (.h0 ([]:List Int) 0))
theorem w7z (l0:List R6) (x1:Int): ∀s,Yt prog (Zy prog 60) (cu9C l0 x1) (cu9C l0 x1 s) (y0e l0 x1 s)
 | .h0 v5 v6=>(lb (fun k0=>(lo fun o0=>(lo fun o1=>(sl Jp 20 [] ⟨[2],[],cu9N0,cu9M0⟩ ⟨[(5,.len (v5++[(Jq (rd l0 (tn v6)).a (rd l0 (tn v6)).b (rd l0 (tn v6)).c x1),(Jq (rd l0 (tn v6)).d (rd l0 (tn v6)).e (rd l0 (tn v6)).f x1)]).length)],[.rowed 1 (v5++[(Jq (rd l0 (tn v6)).a (rd l0 (tn v6)).b (rd l0 (tn v6)).c x1),(Jq (rd l0 (tn v6)).d (rd l0 (tn v6)).e (rd l0 (tn v6)).f x1)]).length (Zz (v5++[(Jq (rd l0 (tn v6)).a (rd l0 (tn v6)).b (rd l0 (tn v6)).c x1),(Jq (rd l0 (tn v6)).d (rd l0 (tn v6)).e (rd l0 (tn v6)).f x1)]))],[]⟩ [true] (pp (xL (v5.length+2) (v5++[(Jq (rd l0 (tn v6)).a (rd l0 (tn v6)).b (rd l0 (tn v6)).c x1),(Jq (rd l0 (tn v6)).d (rd l0 (tn v6)).e (rd l0 (tn v6)).f x1)]).length) (pp (xL (v5.length+2) (v5++[(Jq (rd l0 (tn v6)).a (rd l0 (tn v6)).b (rd l0 (tn v6)).c x1),(Jq (rd l0 (tn v6)).d (rd l0 (tn v6)).e (rd l0 (tn v6)).f x1)]).length) (pp (xS (v5.length+2) (Ze (Zz v5) 0 v5.length 1 [(ii (Jq (rd l0 (tn v6)).a (rd l0 (tn v6)).b (rd l0 (tn v6)).c x1)),(ii (Jq (rd l0 (tn v6)).d (rd l0 (tn v6)).e (rd l0 (tn v6)).f x1))]) (Zz (v5++[(Jq (rd l0 (tn v6)).a (rd l0 (tn v6)).b (rd l0 (tn v6)).c x1),(Jq (rd l0 (tn v6)).d (rd l0 (tn v6)).e (rd l0 (tn v6)).f x1)]))) (pp (pp (xF (Ze (Zz v5) 0 v5.length 1 [(ii (Jq (rd l0 (tn v6)).a (rd l0 (tn v6)).b (rd l0 (tn v6)).c x1)),(ii (Jq (rd l0 (tn v6)).d (rd l0 (tn v6)).e (rd l0 (tn v6)).f x1))])) nn) (ww o1 (ww o0 (ww o0 (tt k0 nn)))))))))))) (fun k0=>(Xb (sl Jp (C':=⟨⟨32,0,true⟩,(Uv prog 60 [1,1,1,0] 1),(Zb prog 60 [1,1,1,0] 1),none,(Zy prog 5),⟨Yg [(30,(.dat v5.length (Zz v5)))],Wh [] 0,0,[],true⟩,[],.leaf⟩) 13 [] ⟨[],[0],[some [30]],[]⟩ ⟨[(30,.frz v5.length v5.length (Zz v5) (Zz v5))],[],[]⟩ [false] (pp (xZ (z1p 1 1 0 v5.length v5.length (Zz v5)) v5.length (Zz v5)) (pp (xL v5.length v5.length) (pp (xS v5.length (Zz v5) (Zz v5)) (pp (fl v5 nn) (tt k0 nn)))))) (lo fun o0=>(lr 32 3 [1,1,1,1,1,1,1,0] 1 5 [(4,(.dat (Un (cvT v5)).length (Zz (Un (cvT v5)))))] (sl Jp 3 [] ⟨[],[],[some [4]],[]⟩ ⟨[],[],[]⟩ [] (pp (pp (xr v5) (xw o0)) nn)))))))
theorem w0l (l0:List R6) (x1:Int):Yt prog (Zy prog 60) (cu9C l0 x1) (Za prog 60 [(.dat l0.length (Zz l0)),(.int .i64 x1)] true []) (x1r l0 x1):=(sl Jp 15 [(3,1,Zz ([]:List Int))] ⟨[0],[],cu9N0,cu9M0⟩ ⟨[(5,.grow 0 1)],[],[]⟩ [] (pp (fl ([]:List Int) nn) nn))
theorem u1o (l0:List R6) (x1:Int) (n:Nat) (vs:List AVal) (h:Zs (y0e l0 x1) n (x1r l0 x1)=.ret vs):Jy prog (Zy prog 60) (Za prog 60 [(.dat l0.length (Zz l0)),(.int .i64 x1)] true []) vs:=by have:=Zd (w7z l0 x1) n _ (w0l l0 x1);rwa [h] at this
open Go.Sort Go.Shelf Go.RowKit Go.Lib
abbrev nPut :Nat:=62
abbrev nCu9 :Nat:=60
abbrev nRh6 :Nat:=61
abbrev nTwi :Nat:=14
abbrev nRsq :Nat:=19
abbrev nGre :Nat:=13
abbrev nRfa :Nat:=104
abbrev nRse :Nat:=103
abbrev nRqu :Nat:=55
abbrev nRma :Nat:=54
def Xk (i a x y:Int):R3:=bif i == 0 then ⟨a,x,y⟩ else bif i == 1 then ⟨x,a,y⟩ else ⟨x,y,a⟩
theorem j0p (i a x y:Int): ∃N,Zs (x8f i a x y) N (y3b i a x y)=.ret [.agg [.int .i64 (Xk i a x y).a,.int .i64 (Xk i a x y).b,.int .i64 (Xk i a x y).c]]:=⟨0,by
 unfold y3b Xk;cases i == 0 <;> cases i == 1 <;> rfl⟩
def fPut :List AVal→Option (AVal×Bool)
 | [.int .i64 i,.int .i64 a,.int .i64 x,.int .i64 y]=>some (.agg [.int .i64 (Xk i a x y).a,.int .i64 (Xk i a x y).b,.int .i64 (Xk i a x y).c],true)
 | _=>none
theorem j3b {S:Specs} (hS:Zu prog S):Zu prog (S.with nPut fPut):=by
 refine z0l hS (by kernel_rfl) fun args v h=> ?_;unfold fPut at h;split at h
 ·rename_i i a x y;simp only [Ae,Ad,Cg] at h;subst h;obtain ⟨N,hN⟩:=j0p i a x y;exact ⟨_,_,(.cons (.refl _) (.cons (.refl _) (.cons (.refl _) (.cons (.refl _) .nil)))),rfl,v9g i a x y N _ hN,3,rfl⟩
 ·cases h
def y2w (L:List R6) (x y z:Int):Bool:=shsV L x y z
def z0i (L:List R6) (x y z:Int):Bool:=decide (L.length≤100000)
theorem u4l {L:List R6} {x y z:Int} (hl:L.length≤100000): ∀(k i:Nat),i+k=L.length→ ∃N,Zs (z6j L x y z) N (.to (.h0 (i:Int)))=.ret [.bool ((L.drop i).any (shR x y z))]
 | 0,i,h=>by refine ⟨1,?_⟩;rw [Zv,At (by omega)];simp (disch:=omega) only [z6j,Yz,Aa,Zp,List.any_nil]
 | k+1,i,h=>by
  have hi:i<L.length:=by omega
  obtain ⟨N,hN⟩:=u4l (x:=x) (y:=y) (z:=z) hl k (i+1) (by omega);refine ⟨N+1,?_⟩;rw [Zv,Yj hi,Ct];have e:z6j L x y z (.h0 (i:Int))=bif shR x y z (rd L i) then .ret [.bool true] else .to (.h0 ((i+1:Nat):Int)):=by unfold shR;simp (disch:=omega) only [z6j,y0h,Zn,Zo,Zk,Zx,Zj,Ai,Ab]
  rw [e];cases shR x y z (rd L i) with
  | true=>rw [Ab,Zp,BW]
  | false=>rw [Aa,hN,BF]
theorem u9z (L:List R6) (x y z:Int) (h:z0i L x y z=true): ∃N,Zs (z6j L x y z) N (x0o L x y z)=.ret [.bool (y2w L x y z)]:=by obtain ⟨N,hN⟩:=u4l (x:=x) (y:=y) (z:=z) (AC h) L.length 0 (Ag _);exact ⟨N,hN⟩
def fRh6 :List AVal→Option (AVal×Bool)
 | [a0,.agg [.int .i64 bO,.int .i64 bP,.int .i64 bQ]]=>match asL R6 a0 with
  | some (L0,g0,n0)=>some (.bool (y2w L0 bO bP bQ),isT R6 n0 g0&&(z0i L0 bO bP bQ))
  | _=>none
 | _=>none
theorem j2v {S:Specs} (hS:Zu prog S):Zu prog (S.with nRh6 fRh6):=by
 refine z0l hS (by kernel_rfl) fun args v h=> ?_;unfold fRh6 at h;split at h
 ·rename_i a0 bO bP bQ;split at h
  ·rename_i L0 g0 n0 e0;simp only [Ae,Ad,Ac] at h;obtain ⟨rfl,ho0,hw⟩:=h;obtain ⟨N,hN⟩:=u9z L0 bO bP bQ hw;exact ⟨_,_,(.cons (asL_le e0 ho0) (.cons (.refl _) .nil)),rfl,v8f L0 bO bP bQ N _ hN,3,rfl⟩
  ·cases h
 ·cases h
def twiV (L:List R6):List R6:=L
def x2p (L:List R6):Bool:=decide (L.length≤1000)
theorem u7r (L:List R6) (h:x2p L=true): ∃N,Zs (x5z L) N (y2b L)=.ret [.dat (twiV L).length (Zz (twiV L))]:=⟨0,by
 have h:L.length≤1000:=AC h;unfold y2b;rw [Zf (by omega)];rfl⟩
def fTwi :List AVal→Option (AVal×Bool)
 | [a0]=>match asL R6 a0 with
  | some (L0,g0,n0)=>some (.dat (twiV L0).length (Zz (twiV L0)),isT R6 n0 g0&&(x2p L0))
  | _=>none
 | _=>none
theorem j2h {S:Specs} (hS:Zu prog S):Zu prog (S.with nTwi fTwi):=by
 refine z0l hS (by kernel_rfl) fun args v h=> ?_;unfold fTwi at h;split at h
 ·rename_i a0;split at h
  ·rename_i L0 g0 n0 e0;simp only [Ae,Ad,Ac] at h;obtain ⟨rfl,ho0,hw⟩:=h;obtain ⟨N,hN⟩:=u7r L0 hw;exact ⟨_,_,(.cons (asL_le e0 ho0) .nil),rfl,v6o L0 N _ hN,3,rfl⟩
  ·cases h
 ·cases h
def u8z (l m:List R7):Bool:=y0w l m
def z7l (l m:List R7):Bool:=decide (l.length≤1000000)
theorem u3o (l m:List R7) (hl:l.length≤1000000) (hm:l.length=m.length): ∀(k i:Nat),i+k=l.length→ ∃N,Zs (z6g l m) N (.to (.h0 (i:Int)))=.ret [.bool (decide (l.drop i=m.drop i))]
 | 0,i,h=>by refine ⟨1,?_⟩;rw [Zv,At (by omega),At (by omega)];simp (disch:=omega) only [z6g,Yz,Aa,Zp,Av]
 | k+1,i,h=>by
  have hi:i<l.length:=by omega
  obtain ⟨N,hN⟩:=u3o l m hl hm k (i+1) (by omega);refine ⟨N+1,?_⟩;rw [Zv,Yj hi,Yj (show i<m.length by omega)];have e:z6g l m (.h0 (i:Int))=bif !(eq7 (rd l i) (rd m i)) then .ret [.bool false] else .to (.h0 ((i+1:Nat):Int)):=by simp (disch:=omega) only [z6g,eq7,Zn,Zo,Zk,Zx,Zj,Ai,Ab,Aa]
  rw [e];by_cases q:rd l i=rd m i
  ·rw [(x1n _ _).2 q,AG,Aa,hN]
   congr 3
   exact Bu.2 ⟨fun h=>by rw [q,h],fun h=>(List.cons.inj h).2⟩
  ·rw [show eq7 (rd l i) (rd m i)=false from A8.2 fun h=>q ((x1n _ _).1 h),AK,Ab,Zp]
   congr 3
   exact (Ay fun h=>q (List.cons.inj h).1).symm
theorem u8y (l m:List R7) (h:z7l l m=true): ∃N,Zs (z6g l m) N (y2l l m)=.ret [.bool (u8z l m)]:=by
 have hl:l.length≤1000000:=AC h;unfold y2l;by_cases hm:l.length=m.length
 ·obtain ⟨N,hN⟩:=u3o l m hl hm l.length 0 (Ag _);refine ⟨N,?_⟩;rw [show ((l.length:Int) != (m.length:Int))=false by rw [hm];simp,Aa];exact hN
 ·refine ⟨0,?_⟩;rw [show ((l.length:Int) != (m.length:Int))=true by simp;omega,Ab,Zp]
  congr 3
  exact (Ay fun e=>hm (by rw [e])).symm
def fRsq :List AVal→Option (AVal×Bool)
 | [a0,a1]=>match asL R7 a0,asL R7 a1 with
  | some (L0,g0,n0),some (L1,g1,n1)=>some (.bool (u8z L0 L1),isT R7 n0 g0&&(isT R7 n1 g1&&(z7l L0 L1)))
  | _,_=>none
 | _=>none
theorem j2p {S:Specs} (hS:Zu prog S):Zu prog (S.with nRsq fRsq):=by
 refine z0l hS (by kernel_rfl) fun args v h=> ?_;unfold fRsq at h;split at h
 ·rename_i a0 a1;split at h
  ·rename_i L0 g0 n0 L1 g1 n1 e0 e1;simp only [Ae,Ad,Ac] at h;obtain ⟨rfl,ho0,ho1,hw⟩:=h;obtain ⟨N,hN⟩:=u8y L0 L1 hw;exact ⟨_,_,(.cons (asL_le e0 ho0) (.cons (asL_le e1 ho1) .nil)),rfl,v7p L0 L1 N _ hN,3,rfl⟩
  ·cases h
 ·cases h
def greV (L:List R6):Bool:=bif decide ((L.length:Int)>12) then (bif decide ((L.length:Int)≤400) then true else decide ((L.length:Int)>420)) else decide ((L.length:Int)>420)
def x4l (L:List R6):Bool:=true
theorem j1x (L:List R6) (h:x4l L=true): ∃N,Zs (x9n L) N (y3n L)=.ret [.bool (greV L)]:=⟨0,by
 unfold y3n greV;cases decide ((L.length:Int)>12) <;> cases decide ((L.length:Int)≤400) <;> rfl⟩
def fGre :List AVal→Option (AVal×Bool)
 | [a0]=>match asL R6 a0 with
  | some (L0,g0,n0)=>some (.bool (greV L0),isT R6 n0 g0&&(x4l L0))
  | _=>none
 | _=>none
theorem j3l {S:Specs} (hS:Zu prog S):Zu prog (S.with nGre fGre):=by
 refine z0l hS (by kernel_rfl) fun args v h=> ?_;unfold fGre at h;split at h
 ·rename_i a0;split at h
  ·rename_i L0 g0 n0 e0;simp only [Ae,Ad,Ac] at h;obtain ⟨rfl,ho0,hw⟩:=h;obtain ⟨N,hN⟩:=j1x L0 hw;exact ⟨_,_,(.cons (asL_le e0 ho0) .nil),rfl,u0p L0 N _ hN,3,rfl⟩
  ·cases h
 ·cases h
def u1i (L:List R6) (i:Int):List Int:=L.flatMap fun r=>[Jq r.a r.b r.c i,Jq r.d r.e r.f i]
def z1m (L:List R6) (i:Int):List Int:=Un (u1i L i)
def Xf (L:List R6) (i:Int):Bool:=decide (L.length≤1000)
theorem z6x (L:List R6) (i:Int):(u1i L i).length =2*L.length:=by
 unfold u1i
 induction L with
 | nil=>rfl
 | cons r l ih=>rw [Be,Ar,ih];simp only [AW,Bq];omega
theorem u6x (L:List R6) (x:Int) (hl:L.length≤1000): ∀(k i:Nat) (acc:List Int),i+k=L.length→acc=u1i (L.take i) x→ ∃N,Zs (y0e L x) N (.to (.h0 acc (i:Int)))=.ret [.dat (z1m L x).length (Zz (z1m L x))]
 | 0,i,acc,h,ha=>by
  refine ⟨1,?_⟩;have:i=L.length:=by omega
  subst this;rw [List.take_length] at ha;subst ha;have hn:=z6x L x;have o:Wu (u1i L x)=true:=Ah (by omega);rw [Zv];simp (disch:=omega) only [y0e,Zg,Yz,o,Ab,Aa,Zp];rfl
 | k+1,i,acc,h,ha=>by
  have hi:i<L.length:=by omega
  have hn:acc.length=2*i:=by rw [ha,z6x,A0];omega
  obtain ⟨N,hN⟩:=u6x L x hl k (i+1) (acc++[Jq (rd L i).a (rd L i).b (rd L i).c x,Jq (rd L i).d (rd L i).e (rd L i).f x]) (by omega) (by
   rw [ha,A9,Aq hi,Yo hi];unfold u1i;rw [Bt];rfl)
  refine ⟨N+1,?_⟩;rw [Zv,←hN]
  congr 1
  have m1:decide (0+acc.length=acc.length)=true:=Ah (by omega);have b1:Nat.beq 1 1=true:=rfl;simp (disch:=omega) only [y0e,Zn,Zo,Zf,Zk,Zx,Zj,m1,b1,Ai,Al,Ab]
theorem j4h (L:List R6) (x:Int) (h:Xf L x=true): ∃N,Zs (y0e L x) N (x1r L x)=.ret [.dat (z1m L x).length (Zz (z1m L x))]:=by obtain ⟨N,hN⟩:=u6x L x (AC h) L.length 0 [] (Ag _) rfl;exact ⟨N,hN⟩
def fCu9 :List AVal→Option (AVal×Bool)
 | [a0,.int .i64 x1]=>match asL R6 a0 with
  | some (L0,g0,n0)=>some (.dat (z1m L0 x1).length (Zz (z1m L0 x1)),isT R6 n0 g0&&(Xf L0 x1))
  | _=>none
 | _=>none
theorem j3r {S:Specs} (hS:Zu prog S):Zu prog (S.with nCu9 fCu9):=by
 refine z0l hS (by kernel_rfl) fun args v h=> ?_;unfold fCu9 at h;split at h
 ·rename_i a0 x1;split at h
  ·rename_i L0 g0 n0 e0;simp only [Ae,Ad,Ac] at h;obtain ⟨rfl,ho0,hw⟩:=h;obtain ⟨N,hN⟩:=j4h L0 x1 hw;exact ⟨_,_,(.cons (asL_le e0 ho0) (.cons (.refl _) .nil)),rfl,u1o L0 x1 N _ hN,3,rfl⟩
  ·cases h
 ·cases h
def Pb :Specs:=((((((Mi.with nPut fPut).with nRh6 fRh6).with nTwi fTwi).with nRsq fRsq).with nGre fGre).with nCu9 fCu9)
theorem z0d :Zu prog Pb:=j3r (j3l (j2p (j2h (j2v (j3b Jp)))))
end Go.Am
end
