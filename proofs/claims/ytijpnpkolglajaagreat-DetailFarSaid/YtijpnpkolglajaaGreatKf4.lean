/- A part of a proof: several texts in one. -/
import Derived.Test.YtijpnpkolglajaaGreatKf3
set_option maxRecDepth 1000000
set_option maxHeartbeats 8000000
set_option linter.unusedVariables false
set_option linter.unusedSimpArgs false
noncomputable section
namespace Go.Am
open Go.Proofs.Tryz
open Go.Proofs
inductive sckS where
 | h0 (v8 : Int)
 | h1 (v16 : Int) (aA : List Int)
 | h2 (v4 : Int) (aC : List R6) (bV : List R4) (cC : Int) (cD : Int) (aJ : Nat) (aM : List Int)
 | h3 (v4 : Int) (v38 : Int) (aC : List R6) (bV : List R4) (cC : Int) (cD : Int) (aJ : Nat) (aM : List Int) (bS : Int) (cI : Int) (aD : List R4)
 | h4 (v1 : Int) (v2 : Int) (v72 : List R4) (v73 : Int) (v74 : Int) (bT : List R4) (bH : Int) (aG : List R6) (bR : List R4) (bY : Int) (aJ : Nat) (aM : List Int) (bS : List R4)
 | h5 (v2 : Int) (v8 : Int) (cN : Int) (bT : List R4) (bH : Int) (aG : List R6) (bR : List R4) (bY : Int) (cR : Int) (cE : Nat) (cL : List Int) (aD : List R4)
def sckC (l0 : List R6) : sckS → Cfg
 | .h0 v8 => ⟨⟨19, 0, true⟩, none, (Za prog 124 [1, 0, 1, 0, 0] 0), none, (Zy prog 3), ⟨Yk [(0, (.dat l0.length (Zz l0))), (1, (.fn 106 [])), (7, (ii (l0.length : Int))), (8, (ii v8))], Vn [] 0, 0, [], true⟩, [⟨⟨9, 0, true⟩, (Vk prog 86 [1, 0] 2), (Za prog 86 [1, 0] 1), none, (Zy prog 3), Yk [(5, (.dat l0.length (Zz l0))), (6, (.fn 106 []))]⟩, ⟨⟨25, 0, true⟩, (Vk prog 72 [1, 1, 0, 0] 1), (Za prog 72 [1, 1, 0, 0] 1), none, (Zy prog 15), Yk [(0, (.dat l0.length (Zz l0))), (8, (.dat l0.length (Zz l0)))]⟩], .leaf⟩
 | .h1 v16 aA => ⟨⟨36, 0, true⟩, none, (Za prog 129 [1, 1, 0, 1, 0, 0, 1, 1, 0, 0, 1, 1, 0, 0] 0), none, (Zy prog 15), ⟨Yk [(1, (.ptr 0 0)), (3, (.ptr 2 0)), (8, (.sl 1 0 1 (.un 1))), (9, (ii 1)), (10, (ii 0)), (14, (.dat l0.length (Zz l0))), (15, (ii (l0.length : Int))), (16, (ii v16))], Vn [⟨[(.sl 1 0 1 (.un 1))], 168, none⟩, ⟨[(.dat l0.length (Zz l0))], 22, none⟩, ⟨[(.sla 7 1 0 aA.length (.un 1))], 47, none⟩, ⟨[.nilf], 124, none⟩, ⟨[.nils], 30, none⟩, ⟨[(ii 0)], 24, none⟩, ⟨[.nils, .nils, (ii 0), (ii 0)], 170, none⟩, ⟨rows aA.length (Zz aA), 3, some ⟨1, aA.length, (Zz aA)⟩⟩] 0, 8, [], true⟩, [⟨⟨65, 0, true⟩, (Vk prog 108 [1, 1, 0, 0] 1), (Za prog 108 [1, 1, 0, 0] 1), none, (Zy prog 36), Yk [(2, (.ptr 3 0)), (4, (.ptr 4 0)), (5, (.ptr 5 0)), (6, (.ptr 6 0)), (13, (.sl 1 0 1 (.un 1)))]⟩, ⟨⟨25, 0, true⟩, (Vk prog 72 [1, 1, 1, 0, 0] 3), (Za prog 72 [1, 1, 1, 0, 0] 1), none, (Zy prog 15), Yk [(0, (.dat l0.length (Zz l0))), (11, (.agg [.nilf])), (13, (.sl 1 0 1 (.un 1)))]⟩], .leaf⟩
 | .h2 v4 aC bV cC cD aJ aM => ⟨⟨86, 0, true⟩, none, (Za prog 150 [1, 0, 0] 0), none, [], ⟨Yk [(0, (.yld 0)), (1, (.ptr 5 0)), (2, (.ptr 7 0)), (4, (ii v4))], z4j [(1, ⟨[.nilf], 124, none⟩), (2, ⟨[.nils], 30, none⟩), (3, ⟨[(ii 0)], 24, none⟩), (4, ⟨[(.sla 9 6 0 aC.length (.un 6)), (.dat bV.length (Zz bV)), (ii cC), (ii cD)], 170, none⟩), (5, ⟨[(.sla 6 1 0 aJ (.un 1))], 47, none⟩), (6, ⟨rows aM.length (Zz aM), 3, some ⟨1, aM.length, (Zz aM)⟩⟩), (7, ⟨[(.sl 8 0 1 (.un 1))], 168, none⟩), (8, ⟨[(.dat l0.length (Zz l0))], 22, none⟩), (9, ⟨rows aC.length (Zz aC), 68, some ⟨6, aC.length, (Zz aC)⟩⟩)], 10, [], true⟩, [⟨⟨65, 0, true⟩, none, (.inRangeFunc 0 :: (Za prog 108 [1, 1, 0, 1, 0] 1)), none, (Zy prog 36), Yk [(4, (.ptr 2 0)), (5, (.ptr 3 0)), (6, (.ptr 4 0))]⟩, ⟨⟨25, 0, true⟩, (Vk prog 72 [1, 1, 1, 0, 0] 3), (Za prog 72 [1, 1, 1, 0, 0] 1), none, (Zy prog 15), Yk [(0, (.dat l0.length (Zz l0))), (11, (.agg [.nilf])), (13, (.sl 8 0 1 (.un 1)))]⟩], (z4l [(0, ⟨.ready, none, 65, Yk [(2, (.ptr 1 0)), (4, (.ptr 2 0)), (5, (.ptr 3 0)), (6, (.ptr 4 0))], [15], (Xi prog 108 [1, 1, 0, 1, 0, 0]), (Xi prog 108 [1, 1, 0, 1, 0, 1])⟩)])⟩
 | .h3 v4 v38 aC bV cC cD aJ aM bS cI aD => ⟨⟨86, 0, true⟩, none, (Za prog 150 [1, 0, 0, 1, 0, 0, 1, 0, 1, 0, 0, 1, 1, 0, 0, 1, 1, 0, 0] 0), none, [], ⟨Yk [(0, (.yld 0)), (1, (.ptr 5 0)), (2, (.ptr 7 0)), (4, (ii v4)), (5, (.ptr 9 0)), (6, (ii 0)), (29, (.sl 8 0 1 (.un 1))), (30, (ii 1)), (31, (ii 0)), (36, (.dat l0.length (Zz l0))), (37, (ii (l0.length : Int))), (38, (ii v38))], z4j [(1, ⟨[.nilf], 124, none⟩), (2, ⟨[.nils], 30, none⟩), (3, ⟨[(ii 0)], 24, none⟩), (4, ⟨[(.sla 12 6 0 aC.length (.un 6)), (.dat bV.length (Zz bV)), (ii cC), (ii cD)], 170, none⟩), (5, ⟨[(.sla 6 1 0 aJ (.un 1))], 47, none⟩), (6, ⟨rows aM.length (Zz aM), 3, some ⟨1, aM.length, (Zz aM)⟩⟩), (7, ⟨[(.sl 8 0 1 (.un 1))], 168, none⟩), (8, ⟨[(.dat l0.length (Zz l0))], 22, none⟩), (9, ⟨[(ii bS), (ii cI), (.sl 10 0 1 (.ex 1))], 175, none⟩), (10, ⟨[(.sla 11 4 0 aD.length (.un 4))], 105, none⟩), (11, ⟨rows aD.length (Zz aD), 114, some ⟨4, aD.length, (Zz aD)⟩⟩), (12, ⟨rows aC.length (Zz aC), 68, some ⟨6, aC.length, (Zz aC)⟩⟩)], 13, [], true⟩, [⟨⟨65, 0, true⟩, none, (.inRangeFunc 0 :: (Za prog 108 [1, 1, 0, 1, 0] 1)), none, (Zy prog 36), Yk [(4, (.ptr 2 0)), (5, (.ptr 3 0)), (6, (.ptr 4 0))]⟩, ⟨⟨25, 0, true⟩, (Vk prog 72 [1, 1, 1, 0, 0] 3), (Za prog 72 [1, 1, 1, 0, 0] 1), none, (Zy prog 15), Yk [(0, (.dat l0.length (Zz l0))), (11, (.agg [.nilf])), (13, (.sl 8 0 1 (.un 1)))]⟩], (z4l [(0, ⟨.ready, none, 65, Yk [(2, (.ptr 1 0)), (4, (.ptr 2 0)), (5, (.ptr 3 0)), (6, (.ptr 4 0))], [15], (Xi prog 108 [1, 1, 0, 1, 0, 0]), (Xi prog 108 [1, 1, 0, 1, 0, 1])⟩)])⟩
 | .h4 v1 v2 v72 v73 v74 bT bH aG bR bY aJ aM bS => ⟨⟨101, 0, true⟩, none, (Za prog 131 [1, 1, 1, 0, 0] 0), none, [], ⟨Yk [(0, (.ptr 0 0)), (1, (ii v1)), (2, (ii v2)), (72, (.dat v72.length (Zz v72))), (73, (ii v73)), (74, (ii v74))], z4j [(0, ⟨[(.sla 10 6 0 aG.length (.un 6)), (.dat bR.length (Zz bR)), (ii bY), (ii v2)], 170, none⟩), (2, ⟨[.nilf], 124, none⟩), (3, ⟨[.nils], 30, none⟩), (4, ⟨[(ii 0)], 24, none⟩), (5, ⟨[(.sla 6 1 0 aJ (.un 1))], 47, none⟩), (6, ⟨rows aM.length (Zz aM), 3, some ⟨1, aM.length, (Zz aM)⟩⟩), (7, ⟨[(.sl 8 0 1 (.un 1))], 168, none⟩), (8, ⟨[(.dat l0.length (Zz l0))], 22, none⟩), (9, ⟨[(.dat bS.length (Zz bS))], 105, none⟩), (10, ⟨rows aG.length (Zz aG), 68, some ⟨6, aG.length, (Zz aG)⟩⟩)], 11, [], true⟩, [⟨⟨65, 0, true⟩, (Vk prog 108 [1, 1, 0, 1, 0, 1, 0, 1, 1, 1] 5), (Za prog 108 [1, 1, 0, 1, 0, 1, 0, 1, 1, 1] 1), (some 1), [], Yk [(6, (.ptr 0 0)), (54, (ii v1)), (56, (ii v2)), (57, (.dat bT.length (Zz bT)))]⟩, ⟨⟨86, 0, true⟩, (Vk prog 150 [1, 0, 0, 1, 0, 0, 1, 1, 0] 2), (Za prog 150 [1, 0, 0, 1, 0, 0, 1, 1, 0] 1), none, [], Yk [(0, (.yld 1)), (1, (.ptr 5 0)), (2, (.ptr 7 0)), (4, (ii bH)), (82, (.yld 1)), (83, (.agg [(ii v1), (ii v2), (.sl 9 0 1 (.ex 1))]))]⟩, ⟨⟨65, 0, true⟩, none, (.inRangeFunc 1 :: (Za prog 108 [1, 1, 0, 1, 0] 1)), none, (Zy prog 36), Yk [(4, (.ptr 3 0)), (5, (.ptr 4 0)), (6, (.ptr 0 0))]⟩, ⟨⟨25, 0, true⟩, (Vk prog 72 [1, 1, 1, 0, 0] 3), (Za prog 72 [1, 1, 1, 0, 0] 1), none, (Zy prog 15), Yk [(0, (.dat l0.length (Zz l0))), (11, (.agg [.nilf])), (13, (.sl 8 0 1 (.un 1)))]⟩], (z4l [(1, ⟨.busy, none, 65, Yk [(2, (.ptr 2 0)), (4, (.ptr 3 0)), (5, (.ptr 4 0)), (6, (.ptr 0 0))], [15], (Xi prog 108 [1, 1, 0, 1, 0, 0]), (Xi prog 108 [1, 1, 0, 1, 0, 1])⟩)])⟩
 | .h5 v2 v8 cN bT bH aG bR bY cR cE cL aD => ⟨⟨101, 0, true⟩, none, (Za prog 131 [0, 1, 0, 0, 1, 0, 0] 0), none, [], ⟨Yk [(0, (.ptr 0 0)), (2, (ii v2)), (8, (ii v8))], z4j [(0, ⟨[(.sla 1 6 0 aG.length (.un 6)), (.dat bR.length (Zz bR)), (ii bY), (ii cR)], 170, none⟩), (1, ⟨rows aG.length (Zz aG), 68, some ⟨6, aG.length, (Zz aG)⟩⟩), (3, ⟨[.nilf], 124, none⟩), (4, ⟨[.nils], 30, none⟩), (5, ⟨[(ii 0)], 24, none⟩), (6, ⟨[(.sla 7 1 0 cE (.un 1))], 47, none⟩), (7, ⟨rows cL.length (Zz cL), 3, some ⟨1, cL.length, (Zz cL)⟩⟩), (8, ⟨[(.sl 9 0 1 (.un 1))], 168, none⟩), (9, ⟨[(.dat l0.length (Zz l0))], 22, none⟩), (10, ⟨[(.dat aD.length (Zz aD))], 105, none⟩)], 11, [], true⟩, [⟨⟨65, 0, true⟩, (Vk prog 108 [1, 1, 0, 1, 0, 1, 0, 1, 1, 1] 5), (Za prog 108 [1, 1, 0, 1, 0, 1, 0, 1, 1, 1] 1), (some 2), [], Yk [(6, (.ptr 0 0)), (54, (ii cN)), (56, (ii v2)), (57, (.dat bT.length (Zz bT)))]⟩, ⟨⟨86, 0, true⟩, (Vk prog 150 [1, 0, 0, 1, 0, 0, 1, 1, 0] 2), (Za prog 150 [1, 0, 0, 1, 0, 0, 1, 1, 0] 1), none, [], Yk [(0, (.yld 2)), (1, (.ptr 6 0)), (2, (.ptr 8 0)), (4, (ii bH)), (82, (.yld 2)), (83, (.agg [(ii cN), (ii v2), (.sl 10 0 1 (.ex 1))]))]⟩, ⟨⟨65, 0, true⟩, none, (.inRangeFunc 2 :: (Za prog 108 [1, 1, 0, 1, 0] 1)), none, (Zy prog 36), Yk [(4, (.ptr 4 0)), (5, (.ptr 5 0)), (6, (.ptr 0 0))]⟩, ⟨⟨25, 0, true⟩, (Vk prog 72 [1, 1, 1, 0, 0] 3), (Za prog 72 [1, 1, 1, 0, 0] 1), none, (Zy prog 15), Yk [(0, (.dat l0.length (Zz l0))), (11, (.agg [.nilf])), (13, (.sl 9 0 1 (.un 1)))]⟩], (z4l [(2, ⟨.busy, none, 65, Yk [(2, (.ptr 3 0)), (4, (.ptr 4 0)), (5, (.ptr 5 0)), (6, (.ptr 0 0))], [15], (Xi prog 108 [1, 1, 0, 1, 0, 0]), (Xi prog 108 [1, 1, 0, 1, 0, 1])⟩)])⟩
def sckN0 : List (Option (List Nat)) := [some [0, 1, 7, 8], some [5, 6], some [0, 8]]
def sckM0 : List (Option (List Nat)) := []
def v3l : List (Option (List Nat)) := [some [1, 3, 8, 9, 10, 14, 15, 16], some [2, 4, 5, 6, 13], some [0, 11, 13]]
def v3n : List (Option (List Nat)) := []
def v3k : List (Option (List Nat)) := [some [0, 1, 2, 4], some [4, 5, 6], some [0, 11, 13]]
def v3m : List (Option (List Nat)) := [some [2, 4, 5, 6], none, none, none, none, none, none, none, none, none]
def w3u : List (Option (List Nat)) := [some [0, 1, 2, 4, 5, 6, 29, 30, 31, 36, 37, 38], some [4, 5, 6], some [0, 11, 13]]
def w3w : List (Option (List Nat)) := [some [2, 4, 5, 6], none, none, none, none, none, none, none, none, none, none, none, none]
def w3t : List (Option (List Nat)) := [some [0, 1, 2, 72, 73, 74], some [6, 54, 56, 57], some [0, 1, 2, 4, 82, 83], some [4, 5, 6], some [0, 11, 13]]
def w3v : List (Option (List Nat)) := [none, some [2, 4, 5, 6], none, none, none, none, none, none, none, none, none]
def sckN5 : List (Option (List Nat)) := [some [0, 2, 8], some [6, 54, 56, 57], some [0, 1, 2, 4, 82, 83], some [4, 5, 6], some [0, 11, 13]]
def sckM5 : List (Option (List Nat)) := [none, none, some [2, 4, 5, 6], none, none, none, none, none, none, none, none]
def Yt (l0 : List R6) : sckS → Xn sckS
 | .h0 v8 => (bif (decide (v8 < (l0.length : Int))) then (bif ((decide (0 ≤ v8 ∧ v8 < (l0.length : Int))) && true) then (bif (!(v2q (rd l0 v8.toNat).a (rd l0 v8.toNat).b (rd l0 v8.toNat).c (rd l0 v8.toNat).d (rd l0 v8.toNat).e (rd l0 v8.toNat).f)) then (bif (decide (v8 ≥ 0)) then (.ret [(.int .i64 8)]) else (.to (.h1 0 ([] : List Int)))) else (.to (.h0 (IntKind.wrap .i64 (v8 + 1))))) else .stuck) else (.to (.h1 0 ([] : List Int))))
 | .h1 v16 aA => (bif (decide (v16 < (l0.length : Int))) then (bif ((decide (0 ≤ v16 ∧ v16 < (l0.length : Int))) && true) then (bif (Nat.beq 1 1 && ((decide (0 + aA.length = aA.length)) && decide ((aA.length + 2 + 1) * (8 + 1) ≤ Jp))) then (.to (.h1 (IntKind.wrap .i64 (v16 + 1)) (aA ++ [(rd l0 v16.toNat).c, (rd l0 v16.toNat).f]))) else .stuck) else .stuck) else (bif (decide (aA.length < 4611686018427387904)) then (bif (decide (aA.length = aA.length)) then (.to (.h2 1 ([] : List R6) ([] : List R4) 0 0 (w8i (Zg aA.length (cOf (Zz (Ye (Zg aA.length (cOf (Zz aA)))))))) (Xy (Zg aA.length (cOf (Zz (Ye (Zg aA.length (cOf (Zz aA)))))))))) else .stuck) else .stuck))
 | .h2 v4 aC bV cC cD aJ aM => (bif (decide (v4 < ((aJ : Nat) : Int))) then (bif ((decide (0 ≤ (IntKind.wrap .i64 (v4 - 1)) ∧ (IntKind.wrap .i64 (v4 - 1)) < ((aJ : Nat) : Int))) && true) then (bif (decide ((0 + (Int.toNat (IntKind.wrap .i64 (v4 - 1)))) < aM.length)) then (bif ((decide (0 ≤ v4 ∧ v4 < ((aJ : Nat) : Int))) && true) then (bif (decide ((0 + v4.toNat) < aM.length)) then (.to (.h3 v4 0 aC bV cC cD aJ aM (rd aM (0 + (Int.toNat (IntKind.wrap .i64 (v4 - 1))))) (rd aM (0 + v4.toNat)) ([] : List R4))) else .stuck) else .stuck) else .stuck) else .stuck) else (bif (decide ((aC.length : Int) > 400)) then (.ret [(.int .i64 8)]) else (bif (Nat.beq 6 6 && (decide (0 + aC.length ≤ aC.length) && Qu (Zz aC))) then (bif (Vg (lst R6 (aC.length) (fun k => (Zz aC) (0 + k))) (cvT l0)) then (bif (!(Ur (lst R6 (aC.length) (fun k => (Zz aC) (0 + k))) (cvT l0))) then (.ret [(.int .i64 8)]) else (.ret [(.int .i64 0)])) else .stuck) else .stuck)))
 | .h3 v4 v38 aC bV cC cD aJ aM bS cI aD => (bif (decide (v38 < (l0.length : Int))) then (bif ((decide (0 ≤ v38 ∧ v38 < (l0.length : Int))) && true) then (bif (decide ((rd l0 v38.toNat).c ≤ bS)) then (bif (decide (bS < (rd l0 v38.toNat).f)) then (bif (Nat.beq 4 4 && ((decide (0 + aD.length = aD.length)) && decide ((aD.length + 1 + 1) * (32 + 1) ≤ Jp))) then (.to (.h3 v4 (IntKind.wrap .i64 (v38 + 1)) aC bV cC cD aJ aM bS cI (aD ++ [(R4.mk (rd l0 v38.toNat).a (rd l0 v38.toNat).b (rd l0 v38.toNat).d (rd l0 v38.toNat).e)]))) else .stuck) else (.to (.h3 v4 (IntKind.wrap .i64 (v38 + 1)) aC bV cC cD aJ aM bS cI aD))) else (.to (.h3 v4 (IntKind.wrap .i64 (v38 + 1)) aC bV cC cD aJ aM bS cI aD))) else .stuck) else (bif (Qg (cvT aD)) then (bif ((Uc (cvT aD)) != 0) then (.ret [(.int .i64 8)]) else (bif (decide ((((Yj (cvT aD)).length : Nat) : Int) > 0)) then (bif (cD == bS) then (bif (Wj (cvT bV) (cvT (Yj (cvT aD)))) then (bif (Up (cvT bV) (cvT (Yj (cvT aD)))) then (.to (.h5 cI cC bS (Yj (cvT aD)) v4 aC bV cC cD aJ aM aD)) else (.to (.h4 bS cI (Yj (cvT aD)) (((Yj (cvT aD)).length : Nat) : Int) 0 (Yj (cvT aD)) v4 aC (Yj (cvT aD)) (aC.length : Int) aJ aM aD))) else .stuck) else (.to (.h4 bS cI (Yj (cvT aD)) (((Yj (cvT aD)).length : Nat) : Int) 0 (Yj (cvT aD)) v4 aC (Yj (cvT aD)) (aC.length : Int) aJ aM aD))) else (.to (.h4 bS cI (Yj (cvT aD)) (((Yj (cvT aD)).length : Nat) : Int) 0 (Yj (cvT aD)) v4 aC (Yj (cvT aD)) (aC.length : Int) aJ aM aD)))) else .stuck))
 | .h4 v1 v2 v72 v73 v74 bT bH aG bR bY aJ aM bS => (bif (decide (v74 < v73)) then (bif ((decide (0 ≤ v74 ∧ v74 < (v72.length : Int))) && true) then (bif (Nat.beq 6 6 && ((decide (0 + aG.length = aG.length)) && decide ((aG.length + 1 + 1) * (48 + 1) ≤ Jp))) then (.to (.h4 v1 v2 v72 v73 (IntKind.wrap .i64 (v74 + 1)) bT bH (aG ++ [(R6.mk (rd v72 v74.toNat).a (rd v72 v74.toNat).b v1 (rd v72 v74.toNat).c (rd v72 v74.toNat).d v2)]) bR bY aJ aM bS)) else .stuck) else .stuck) else (.to (.h2 (IntKind.wrap .i64 (bH + 1)) aG bR bY v2 aJ aM)))
 | .h5 v2 v8 cN bT bH aG bR bY cR cE cL aD => (bif (decide (v8 < (aG.length : Int))) then (bif ((decide (0 ≤ v8 ∧ v8 < (aG.length : Int))) && true) then (bif (decide ((0 + v8.toNat) < aG.length)) then (.to (.h5 v2 (IntKind.wrap .i64 (v8 + 1)) cN bT bH (aG.set (0 + v8.toNat) (R6.mk (rd aG (0 + v8.toNat)).a (rd aG (0 + v8.toNat)).b (rd aG (0 + v8.toNat)).c (rd aG (0 + v8.toNat)).d (rd aG (0 + v8.toNat)).e v2)) bR bY cR cE cL aD)) else .stuck) else .stuck) else (.to (.h2 (IntKind.wrap .i64 (bH + 1)) aG bR bY v2 cE cL)))
def z7x (l0 : List R6) : Xn sckS := (bif (decide ((l0.length : Int) > 400)) then (.ret [(.int .i64 4)]) else (.to (.h0 0)))
theorem x4s (l0 : List R6) : ∀ s, Ww prog (Zy prog 72) (sckC l0) (sckC l0 s) (Yt l0 s)
 | .h0 v8 => (lb (fun k0 => (lo fun aH => (lb (fun k1 => (lb (fun k2 => (lr 25 72 [1, 1, 0, 1, 0, 0] 1 15 [(2, (ii 8))] (sl Ws 53 [] ⟨[], [], [some [2]], []⟩ ⟨[], [], []⟩ (trs 3 []) (tt k2 (tt k1 (ww aH (tt k0 nn))))))) (fun k2 => (sl Ws 113 [(3, 1, Zz ([] : List Int))] ⟨[6, 1, 7, 2, 3, 4, 5, 8], [], v3l, v3n⟩ ⟨[], [.keep, .keep, .cells [.grow 7 1], .keep, .keep, .keep, .keep, .keep], []⟩ [true, true, false, true] (pp (fl ([] : List Int) nn) (tt k2 (tt k1 (ww aH (tt k0 nn))))))))) (fun k1 => (sl Ws 44 [] ⟨[], [], sckN0, sckM0⟩ ⟨[], [], []⟩ [true, false] (tt k1 (ww aH (tt k0 nn)))))))) (fun k0 => (sl Ws 82 [(3, 1, Zz ([] : List Int))] ⟨[5, 0, 6, 1, 2, 3, 4, 7], [], v3l, v3n⟩ ⟨[], [.keep, .keep, .cells [.grow 7 1], .keep, .keep, .keep, .keep, .keep], []⟩ [false, false, true] (pp (fl ([] : List Int) nn) (tt k0 nn)))))
 | .h1 v16 aA => (lb (fun k0 => (lo fun o0 => (lo fun o1 => (sl Ws 34 [] ⟨[0, 1, 2, 3, 4, 5, 6, 10], [], v3l, v3n⟩ ⟨[], [.keep, .keep, .cells [.len (aA ++ [(rd l0 (tn v16)).c, (rd l0 (tn v16)).f]).length], .keep, .keep, .keep, .keep, .rowed 1 (aA ++ [(rd l0 (tn v16)).c, (rd l0 (tn v16)).f]).length (Zz (aA ++ [(rd l0 (tn v16)).c, (rd l0 (tn v16)).f]))], []⟩ [true] (pp (xL (aA.length + 2) (aA ++ [(rd l0 (tn v16)).c, (rd l0 (tn v16)).f]).length) (pp (xL (aA.length + 2) (aA ++ [(rd l0 (tn v16)).c, (rd l0 (tn v16)).f]).length) (pp (xS (aA.length + 2) (Zd (Zz aA) 0 aA.length 1 [(ii (rd l0 (tn v16)).c), (ii (rd l0 (tn v16)).f)]) (Zz (aA ++ [(rd l0 (tn v16)).c, (rd l0 (tn v16)).f]))) (pp (pp (xF (Zd (Zz aA) 0 aA.length 1 [(ii (rd l0 (tn v16)).c), (ii (rd l0 (tn v16)).f)])) nn) (ww o1 (ww o0 (tt k0 nn))))))))))) (fun k0 => (lo fun o0 => (lo fun o1 => (sl Ws 46 [(68, 6, Zz ([] : List R6))] ⟨[8, 3, 4, 5, 6, 2, 7, 0, 1, 9], [], v3k, v3m⟩ ⟨[], (kpB 4 [.cells [.grow 9 6, .list 0 (Zz ([] : List R4)), .keep, .keep], .keep, .rowed 1 (Xy (Zg aA.length (cOf (Zz (Ye (Zg aA.length (cOf (Zz aA)))))))).length (Zz (Xy (Zg aA.length (cOf (Zz (Ye (Zg aA.length (cOf (Zz aA))))))))), .keep, .keep, .keep]), []⟩ [false, false] (pp (xL aA.length (Xy (Zg aA.length (cOf (Zz (Ye (Zg aA.length (cOf (Zz aA)))))))).length (by first | exact Qc _ _ | exact Uy rfl)) (pp (xS aA.length (Zz (Xy (Zg aA.length (cOf (Zz (Ye (Zg aA.length (cOf (Zz aA))))))))) (Zz (Xy (Zg aA.length (cOf (Zz (Ye (Zg aA.length (cOf (Zz aA)))))))))) (pp (fl (Xy (Zg aA.length (cOf (Zz (Ye (Zg aA.length (cOf (Zz aA)))))))) (fl ([] : List R6) nn)) (pp (pp (xG (Nat.beq 1 1)) (pp (xG (Nat.beq 1 1)) (pp (xG (Nat.beq 0 0)) (pp (xG (decide (aA.length = aA.length))) (pp (xG (isI (Zz (Ye (Zg aA.length (cOf (Zz aA))))))) (xG (decide (aA.length < 4611686018427387904)))))))) (pp (pp (xG (Nat.beq 1 1)) (pp (xG (Nat.beq 1 1)) (pp (xG (Nat.beq 0 0)) (pp (xG (decide (aA.length = aA.length))) (pp (xG (isI (Zz aA))) (xG (decide (aA.length < 4611686018427387904)))))))) (tt k0 nn)))))))))))
 | .h2 v4 aC bV cC cD aJ aM => (lb (fun k0 => (lo fun o0 => (lo fun o1 => (lo fun o2 => (lo fun o3 => (sl Ws 48 [(114, 4, Zz ([] : List R4))] ⟨[0, 1, 2, 3, 4, 5, 6, 7, 8, 10, 11, 12, 9], [], w3u, w3w⟩ ⟨[], (kpB 10 [.cells [.grow 11 4], .keep, .keep]), []⟩ (trs 3 []) (pp (fl aM (fl ([] : List R4) (fl aC nn))) (ww o3 (ww o2 (ww o1 (ww o0 (tt k0 nn)))))))))))) (fun k0 => (lb (fun k1 => (lr 25 72 [1, 1, 1, 0, 1, 1, 0, 0] 1 15 [(2, (ii 8))] (sl Ws 50 [] ⟨[], [], [some [2]], []⟩ ⟨[], [], []⟩ [false, true, true, true, true, true, true] (tt k1 (tt k0 nn))))) (fun k1 => (lo fun cX => (lo fun dO => (lb (fun k2 => (lr 25 72 [1, 1, 1, 0, 1, 1, 0, 0] 1 15 [(2, (ii 8))] (sl Ws 53 [] ⟨[], [], [some [2]], []⟩ ⟨[], [], []⟩ [false, false, false, false, false, false, true] (tt k2 (pp (pp (pp (xw cX) (pp nn nn)) (pp (xI R6 (aC.length) (fun k => (Zz aC) (0 + k))) (pp (xr l0) (xw dO)))) (tt k1 (tt k0 nn))))))) (fun k2 => (lr 25 3 [1, 1, 1, 1, 1, 1, 0] 1 15 [(2, (ii 0))] (sl Ws 54 [] ⟨[], [], [some [2]], []⟩ ⟨[], [], []⟩ [false, false, false, false, false, false, false] (tt k2 (pp (pp (pp (xw cX) (pp nn nn)) (pp (xI R6 (aC.length) (fun k => (Zz aC) (0 + k))) (pp (xr l0) (xw dO)))) (tt k1 (tt k0 nn))))))))))))))
 | .h3 v4 v38 aC bV cC cD aJ aM bS cI aD => (lb (fun k0 => (lo fun aH => (lb (fun k1 => (lb (fun k2 => (lo fun o0 => (sl Ws 41 [] ⟨[0, 1, 2, 3, 4, 5, 6, 7, 8, 9, 10, 15, 12], [], w3u, w3w⟩ ⟨[], (kpB 10 [.cells [.len (aD ++ [(R4.mk (rd l0 (tn v38)).a (rd l0 (tn v38)).b (rd l0 (tn v38)).d (rd l0 (tn v38)).e)]).length], .rowed 4 (aD ++ [(R4.mk (rd l0 (tn v38)).a (rd l0 (tn v38)).b (rd l0 (tn v38)).d (rd l0 (tn v38)).e)]).length (Zz (aD ++ [(R4.mk (rd l0 (tn v38)).a (rd l0 (tn v38)).b (rd l0 (tn v38)).d (rd l0 (tn v38)).e)])), .keep]), []⟩ (trs 8 []) (pp (xL (aD.length + 1) (aD ++ [(R4.mk (rd l0 (tn v38)).a (rd l0 (tn v38)).b (rd l0 (tn v38)).d (rd l0 (tn v38)).e)]).length) (pp (xL (aD.length + 1) (aD ++ [(R4.mk (rd l0 (tn v38)).a (rd l0 (tn v38)).b (rd l0 (tn v38)).d (rd l0 (tn v38)).e)]).length) (pp (xS (aD.length + 1) (Zd (Zz aD) 0 aD.length 4 [(ii (rd l0 (tn v38)).a), (ii (rd l0 (tn v38)).b), (ii (rd l0 (tn v38)).d), (ii (rd l0 (tn v38)).e)]) (Zz (aD ++ [(R4.mk (rd l0 (tn v38)).a (rd l0 (tn v38)).b (rd l0 (tn v38)).d (rd l0 (tn v38)).e)]))) (pp (fl aM (pp (xF (Zd (Zz aD) 0 aD.length 4 [(ii (rd l0 (tn v38)).a), (ii (rd l0 (tn v38)).b), (ii (rd l0 (tn v38)).d), (ii (rd l0 (tn v38)).e)])) (fl aC nn))) (ww o0 (tt k2 (tt k1 (ww aH (tt k0 nn)))))))))))) (fun k2 => (sl Ws 41 [] ⟨(List.range 13), [], w3u, w3w⟩ ⟨[], [], []⟩ (trs 7 [false]) (pp (fl aM (fl aD (fl aC nn))) (tt k2 (tt k1 (ww aH (tt k0 nn))))))))) (fun k1 => (sl Ws 41 [] ⟨(List.range 13), [], w3u, w3w⟩ ⟨[], [], []⟩ [true, false, false, false, false, false, false, false] (pp (fl aM (fl aD (fl aC nn))) (tt k1 (ww aH (tt k0 nn))))))))) (fun k0 => (Wb (sl Ws (C' := ⟨⟨65, 0, true⟩, (Vk prog 108 [1, 1, 0, 1, 0, 1, 0, 0] 4), (Za prog 108 [1, 1, 0, 1, 0, 1, 0, 0] 1), (some 0), [], ⟨Yk [(2, (.ptr 1 0)), (4, (.ptr 2 0)), (5, (.ptr 3 0)), (6, (.ptr 4 0)), (7, (.ptr 6 0)), (20, (.dat aD.length (Zz aD)))], z4j [(1, ⟨[.nilf], 124, none⟩), (2, ⟨[.nils], 30, none⟩), (3, ⟨[(ii 0)], 24, none⟩), (4, ⟨[(.sla 5 6 0 aC.length (.un 6)), (.dat bV.length (Zz bV)), (ii cC), (ii cD)], 170, none⟩), (5, ⟨rows aC.length (Zz aC), 68, some ⟨6, aC.length, (Zz aC)⟩⟩), (6, ⟨[(ii bS), (ii cI), (.sl 7 0 1 (.ex 1))], 175, none⟩), (7, ⟨[(.dat aD.length (Zz aD))], 105, none⟩), (8, ⟨[(.sla 9 1 0 aJ (.un 1))], 47, none⟩), (9, ⟨rows aM.length (Zz aM), 3, some ⟨1, aM.length, (Zz aM)⟩⟩), (10, ⟨[(.sl 11 0 1 (.un 1))], 168, none⟩), (11, ⟨[(.dat l0.length (Zz l0))], 22, none⟩)], 12, [], true⟩, [⟨⟨86, 0, true⟩, (Vk prog 150 [1, 0, 0, 1, 0, 0, 1, 1, 0] 2), (Za prog 150 [1, 0, 0, 1, 0, 0, 1, 1, 0] 1), none, [], Yk [(0, (.yld 0)), (1, (.ptr 8 0)), (2, (.ptr 10 0)), (4, (ii v4)), (82, (.yld 0)), (83, (.agg [(ii bS), (ii cI), (.sl 7 0 1 (.ex 1))]))]⟩, ⟨⟨65, 0, true⟩, none, (.inRangeFunc 0 :: (Za prog 108 [1, 1, 0, 1, 0] 1)), none, (Zy prog 36), Yk [(4, (.ptr 2 0)), (5, (.ptr 3 0)), (6, (.ptr 4 0))]⟩, ⟨⟨25, 0, true⟩, (Vk prog 72 [1, 1, 1, 0, 0] 3), (Za prog 72 [1, 1, 1, 0, 0] 1), none, (Zy prog 15), Yk [(0, (.dat l0.length (Zz l0))), (11, (.agg [.nilf])), (13, (.sl 11 0 1 (.un 1)))]⟩], (z4l [(0, ⟨.busy, none, 65, Yk [(2, (.ptr 1 0)), (4, (.ptr 2 0)), (5, (.ptr 3 0)), (6, (.ptr 4 0))], [15], (Xi prog 108 [1, 1, 0, 1, 0, 0]), (Xi prog 108 [1, 1, 0, 1, 0, 1])⟩)])⟩) 37 [] ⟨[0, 1, 2, 3, 4, 12, 13, 10, 5, 6, 7, 8], [11], [some [2, 4, 5, 6, 7, 20], some [0, 1, 2, 4, 82, 83], some [4, 5, 6], some [0, 11, 13]], [some [2, 4, 5, 6], none, none, none, none, none, none, none, none, none, none, none]⟩ ⟨[(20, .frz aD.length aD.length (Zz aD) (Zz aD))], [.keep, .keep, .keep, .keep, .keep, .keep, .keep, .cells [.frz aD.length aD.length (Zz aD) (Zz aD)], .keep, .keep, .keep, .keep], []⟩ [false, false] (pp (xZ (z4q 4 4 0 aD.length aD.length (Zz aD)) aD.length (Zz aD)) (pp (xL aD.length aD.length) (pp (xS aD.length (Zz aD) (Zz aD)) (pp (xZ (z4q 4 4 0 aD.length aD.length (Zz aD)) aD.length (Zz aD)) (pp (xL aD.length aD.length) (pp (xS aD.length (Zz aD) (Zz aD)) (pp (fl aC (fl aM nn)) (pp (fl aD nn) (tt k0 nn)))))))))) (lo fun aH => (lb (fun k1 => (lr 25 72 [1, 1, 1, 0, 1, 1, 0, 0] 1 15 [(2, (ii 8))] (sl Ws 67 [] ⟨[], [], [some [2]], []⟩ ⟨[], [], []⟩ [false, true, true, true, true, true, true, true] (tt k1 (tt k1 (pp (pp (xr aD) (xw aH)) nn)))))) (fun k1 => (lb (fun k2 => (lb (fun k3 => (lo fun cO => (lb (fun k4 => (sl Ws 75 [] ⟨[4, 5, 0, 1, 2, 3, 8, 9, 10, 11, 7], [], sckN5, sckM5⟩ ⟨[], [], []⟩ [false, false, true, true, true, true, true, true, true, true, true, true, true, true, true] (pp (fl aC (fl aM nn)) (tt k4 (pp (pp (xr bV) (pp (xI R4 (Yj (cvT aD)).length (Zz (Yj (cvT aD)))) (xw cO))) (tt k3 (tt k2 (tt k1 (pp (pp (xr aD) (xw aH)) nn))))))))) (fun k4 => (sl Ws 95 [] ⟨[4, 0, 1, 2, 3, 8, 9, 10, 11, 7, 5], [], w3t, w3v⟩ ⟨[], [], []⟩ [false, false, true, true, true, true, true, true, true, true, true, true, true, true, false] (pp (fl aM (fl aC nn)) (tt k4 (pp (pp (xr bV) (pp (xI R4 (Yj (cvT aD)).length (Zz (Yj (cvT aD)))) (xw cO))) (tt k3 (tt k2 (tt k1 (pp (pp (xr aD) (xw aH)) nn)))))))))))) (fun k3 => (sl Ws 95 [] ⟨[4, 0, 1, 2, 3, 8, 9, 10, 11, 7, 5], [], w3t, w3v⟩ ⟨[], [], []⟩ [false, false, true, true, true, true, true, true, false, false, false, false, false, false, false] (pp (fl aM (fl aC nn)) (tt k3 (tt k2 (tt k1 (pp (pp (xr aD) (xw aH)) nn))))))))) (fun k2 => (sl Ws 95 [] ⟨[4, 0, 1, 2, 3, 8, 9, 10, 11, 7, 5], [], w3t, w3v⟩ ⟨[], [], []⟩ [false, false, false, false, false, false, false, false, false, false, false, false, false, false, false] (pp (fl aM (fl aC nn)) (tt k2 (tt k1 (pp (pp (xr aD) (xw aH)) nn)))))))))))))
 | .h4 v1 v2 v72 v73 v74 bT bH aG bR bY aJ aM bS => (lb (fun k0 => (lo fun o0 => (lo fun o1 => (sl Ws 23 [] ⟨[0, 1, 2, 3, 4, 5, 6, 7, 8, 9, 13], [], w3t, w3v⟩ ⟨[], [.cells [.len (aG ++ [(R6.mk (rd v72 (tn v74)).a (rd v72 (tn v74)).b v1 (rd v72 (tn v74)).c (rd v72 (tn v74)).d v2)]).length, .keep, .keep, .keep], .keep, .keep, .keep, .keep, .keep, .keep, .keep, .keep, .keep, .rowed 6 (aG ++ [(R6.mk (rd v72 (tn v74)).a (rd v72 (tn v74)).b v1 (rd v72 (tn v74)).c (rd v72 (tn v74)).d v2)]).length (Zz (aG ++ [(R6.mk (rd v72 (tn v74)).a (rd v72 (tn v74)).b v1 (rd v72 (tn v74)).c (rd v72 (tn v74)).d v2)]))], []⟩ [true] (pp (xL (aG.length + 1) (aG ++ [(R6.mk (rd v72 (tn v74)).a (rd v72 (tn v74)).b v1 (rd v72 (tn v74)).c (rd v72 (tn v74)).d v2)]).length) (pp (xL (aG.length + 1) (aG ++ [(R6.mk (rd v72 (tn v74)).a (rd v72 (tn v74)).b v1 (rd v72 (tn v74)).c (rd v72 (tn v74)).d v2)]).length) (pp (xS (aG.length + 1) (Zd (Zz aG) 0 aG.length 6 [(ii (rd v72 (tn v74)).a), (ii (rd v72 (tn v74)).b), (ii v1), (ii (rd v72 (tn v74)).c), (ii (rd v72 (tn v74)).d), (ii v2)]) (Zz (aG ++ [(R6.mk (rd v72 (tn v74)).a (rd v72 (tn v74)).b v1 (rd v72 (tn v74)).c (rd v72 (tn v74)).d v2)]))) (pp (fl aM (pp (xF (Zd (Zz aG) 0 aG.length 6 [(ii (rd v72 (tn v74)).a), (ii (rd v72 (tn v74)).b), (ii v1), (ii (rd v72 (tn v74)).c), (ii (rd v72 (tn v74)).d), (ii v2)])) nn)) (ww o1 (ww o0 (tt k0 nn))))))))))) (fun k0 => (sl Ws 22 [] ⟨[1, 2, 3, 4, 0, 5, 6, 7, 8, 10], [], v3k, v3m⟩ ⟨[], [], []⟩ [false, false] (pp (fl aM (fl aG nn)) (tt k0 nn)))))
 | .h5 v2 v8 cN bT bH aG bR bY cR cE cL aD => (lb (fun k0 => (lo fun o0 => (lo fun o1 => (sl Ws 34 [] ⟨(List.range 11), [], sckN5, sckM5⟩ ⟨[], [.cells [.len (aG.set (0 + (tn v8)) (R6.mk (rd aG (0 + (tn v8))).a (rd aG (0 + (tn v8))).b (rd aG (0 + (tn v8))).c (rd aG (0 + (tn v8))).d (rd aG (0 + (tn v8))).e v2)).length, .keep, .keep, .keep], .rowed 6 (aG.set (0 + (tn v8)) (R6.mk (rd aG (0 + (tn v8))).a (rd aG (0 + (tn v8))).b (rd aG (0 + (tn v8))).c (rd aG (0 + (tn v8))).d (rd aG (0 + (tn v8))).e v2)).length (Zz (aG.set (0 + (tn v8)) (R6.mk (rd aG (0 + (tn v8))).a (rd aG (0 + (tn v8))).b (rd aG (0 + (tn v8))).c (rd aG (0 + (tn v8))).d (rd aG (0 + (tn v8))).e v2))), .keep, .keep, .keep, .keep, .keep, .keep, .keep, .keep, .keep], []⟩ [true] (pp (xL aG.length (aG.set (0 + (tn v8)) (R6.mk (rd aG (0 + (tn v8))).a (rd aG (0 + (tn v8))).b (rd aG (0 + (tn v8))).c (rd aG (0 + (tn v8))).d (rd aG (0 + (tn v8))).e v2)).length) (pp (xL aG.length (aG.set (0 + (tn v8)) (R6.mk (rd aG (0 + (tn v8))).a (rd aG (0 + (tn v8))).b (rd aG (0 + (tn v8))).c (rd aG (0 + (tn v8))).d (rd aG (0 + (tn v8))).e v2)).length) (pp (xS aG.length (Xc (Zz aG) (0 + (tn v8)) 5 [(ii v2)]) (Zz (aG.set (0 + (tn v8)) (R6.mk (rd aG (0 + (tn v8))).a (rd aG (0 + (tn v8))).b (rd aG (0 + (tn v8))).c (rd aG (0 + (tn v8))).d (rd aG (0 + (tn v8))).e v2)))) (pp (pp (xF (Xc (Zz aG) (0 + (tn v8)) 5 [(ii v2)])) (fl cL nn)) (ww o1 (ww o0 (tt k0 nn))))))))))) (fun k0 => (sl Ws 36 [] ⟨[2, 3, 4, 5, 0, 6, 7, 8, 9, 1], [], v3k, v3m⟩ ⟨[], [], []⟩ [false, false] (pp (fl cL (fl aG nn)) (tt k0 nn)))))
theorem y8t (l0 : List R6) : Ww prog (Zy prog 72) (sckC l0) (Zn prog 72 [(.dat l0.length (Zz l0))] true []) (z7x l0) := (lb (fun k0 => (lr 25 72 [1, 0, 1, 0, 0] 1 15 [(2, (ii 4))] (sl Ws 16 [] ⟨[], [], [some [2]], []⟩ ⟨[], [], []⟩ [true] (tt k0 nn)))) (fun k0 => (sl Ws 40 [] ⟨[], [], sckN0, sckM0⟩ ⟨[], [], []⟩ [false] (tt k0 nn))))
theorem w3s (l0 : List R6) (n : Nat) (vs : List AVal) (h : Yv (Yt l0) n (z7x l0) = .ret vs) : Kz prog (Zy prog 72) (Zn prog 72 [(.dat l0.length (Zz l0))] true []) vs := by
 have := Zr (x4s l0) n _ (y8t l0)
 rwa [h] at this
end Go.Am
namespace Go.Am
open Go.Proofs.Tryz
open Go.Proofs Go.Sort Go.Shelf Go.RowKit Go.Lib
theorem y9i (l : List R4) : (Yj l).length ≤ 400 := by
 unfold Yj
 by_cases h : 400 < l.length
 ·rw [decide_eq_true h]; exact Nat.zero_le _
 ·rw [decide_eq_false h]
  cases l.all z2o
  ·exact Nat.zero_le _
  ·show (bif decide (((D4.out l).length : Int) > 400) then [] else D4.out l).length ≤ 400
   by_cases h2 : ((D4.out l).length : Int) > 400
   ·rw [decide_eq_true h2]; exact Nat.zero_le _
   ·rw [decide_eq_false h2]; show (D4.out l).length ≤ 400; omega
def D6 : Dim R6 R4 := ⟨R6.c, R6.f, fun r => ⟨r.a, r.b, r.d, r.e⟩, fun x x' s => ⟨s.a, s.b, x, s.c, s.d, x'⟩, fun x r => ⟨r.a, r.b, r.c, r.d, r.e, x⟩, Yj, Up⟩
theorem v2n (l : List R6) (x : Int) : (D6.sec l x).length ≤ 1000 := Nat.le_trans (y9i _) (by omega)
def sckErr : List AVal := [.int .i64 8]
def y5t (l out : List R6) : List AVal := bif decide ((out.length : Int) > 400) then [.int .i64 8] else bif Ur out l then [.int .i64 0] else [.int .i64 8]
def w8n (l : List R6) (x : Int) : Bool := Uc (D6.inn l x) != 0
def okF (l : List R6) : Nat → Nat → Bool
 | 0, _ => true
 | k + 1, i => bif w8n l (rd (D6.cuts l) i) then false else okF l k (i + 1)
section
variable (l : List R6) (hl : l.length ≤ 400)
include hl
theorem w9j (i : Nat) (out : List R6) (last : List R4) (first fin x x' : Int) : ∀ (k j : Nat) (acc : List R4), j + k = l.length → acc.length ≤ j →
  ∃ n, ∀ N, Yv (Yt l) (N + n) (.to (.h3 (i : Int) (j : Int) out last first fin ((D6.cuts l).length) (Xy (Ye (D6.ends l))) x x' acc)) = Yv (Yt l) N (.to (.h3 (i : Int) (l.length : Int) out last first fin ((D6.cuts l).length) (Xy (Ye (D6.ends l))) x x' (acc ++ D6.inn (l.drop j) x)))
 | 0, j, acc, h, ha => by
  refine ⟨0, fun N => ?_⟩
  rw [List.drop_eq_nil_of_le (by omega), show D6.inn ([] : List R6) x = [] from rfl, List.append_nil, Nat.add_zero, show j = l.length by omega]
 | k + 1, j, acc, h, ha => by
  have hj : j < l.length := by omega
  obtain ⟨n, hn⟩ := w9j i out last first fin x x' k (j + 1) (acc ++ D6.inn [rd l j] x) (by omega) (by have := D6.inn_length [rd l j] x; simp only [List.length_append, List.length_singleton] at *; omega)
  refine ⟨n + 1, fun N => ?_⟩
  have e : D6.inn (l.drop j) x = D6.inn [rd l j] x ++ D6.inn (l.drop (j + 1)) x := by
   rw [Yc hj, ← D6.inn_append]; rfl
  rw [e, ← Nat.add_assoc, Zv, ← List.append_assoc, ← hn N]
  by_cases h1 : D6.lo (rd l j) ≤ x
  ·by_cases h2 : x < D6.hi (rd l j)
   ·rw [D6.inn_t _ _ h1 h2]
    simp only [D6] at h1 h2 ⊢
    simp (disch := omega) only [Yt, Xh, Zb, Zk, Zo, Zt, Yz, Yw, Yu, Zf, Zj, Zw, Yp, Zq, Nat.zero_add, decide_true, Bool.and_true, Bool.true_and, cond_true, cond_false]
   ·rw [D6.inn_f2 _ _ h2, List.append_nil]
    simp only [D6] at h1 h2
    simp (disch := omega) only [Yt, Xh, Zs, Zb, Zk, Zo, Zt, Yz, Yw, Yu, Zf, Zj, Zw, Yp, Zq, Nat.zero_add, decide_true, Bool.and_true, Bool.true_and, cond_true, cond_false]
  ·rw [D6.inn_f1 _ _ h1, List.append_nil]
   simp only [D6] at h1
   simp (disch := omega) only [Yt, v7g, Zb, Zk, Zo, Zt, Yz, Yw, Yu, Zf, Zj, Zw, Yp, Zq, Nat.zero_add, decide_true, Bool.and_true, Bool.true_and, cond_true, cond_false]
theorem w9i (i : Nat) (hi : i ≤ 1000) (x x' : Int) (s last : List R4) (first : Int) (inn : List R4) (hs : s.length ≤ 1000) : ∀ (k j : Nat) (out : List R6), j + k = s.length → out.length ≤ 10000000 + j →
  ∃ n, ∀ N, Yv (Yt l) (N + n) (.to (.h4 x x' s (s.length : Int) (j : Int) s (i : Int) out last first ((D6.cuts l).length) (Xy (Ye (D6.ends l))) inn)) = Yv (Yt l) N (.to (.h2 ((i + 1 : Nat) : Int) (out ++ (s.drop j).map (D6.put x x')) last first x' ((D6.cuts l).length) (Xy (Ye (D6.ends l)))))
 | 0, j, out, h, ho => by
  have _u := hl
  refine ⟨1, fun N => ?_⟩
  rw [List.drop_eq_nil_of_le (by omega), Zv]
  simp (disch := omega) only [Yt, Zs, Zj, Zw, cond_false, List.map_nil, List.append_nil]
 | k + 1, j, out, h, ho => by
  obtain ⟨n, hn⟩ := w9i i hi x x' s last first inn hs k (j + 1) (out ++ [D6.put x x' (rd s j)]) (by omega) (by simp; omega)
  refine ⟨n + 1, fun N => ?_⟩
  have := hn N
  rw [Yc (show j < s.length by omega), List.map_cons, ← Nat.add_assoc, Zv]
  simp (disch := omega) only [Yt, Zb, Zk, Zo, Zt, Yz, Yw, Yu, Zf, Zj, Zw, Yp, Zq, Nat.zero_add, decide_true, Bool.and_true, Bool.true_and, cond_true, cond_false]
  rw [List.append_assoc] at this
  exact this
theorem w9h (i : Nat) (hi : i ≤ 1000) (x x' fin : Int) (s last : List R4) (first : Int) (inn : List R4) : ∀ (k j : Nat) (out : List R6), j + k = out.length → out.length ≤ 10000000 →
  ∃ n, ∀ N, Yv (Yt l) (N + n) (.to (.h5 x' (j : Int) x s (i : Int) out last first fin ((D6.cuts l).length) (Xy (Ye (D6.ends l))) inn)) = Yv (Yt l) N (.to (.h2 ((i + 1 : Nat) : Int) (D6.grow out j x') last first x' ((D6.cuts l).length) (Xy (Ye (D6.ends l)))))
 | 0, j, out, h, ho => by
  have _u := hl
  refine ⟨1, fun N => ?_⟩
  rw [D6.grow_nil _ _ _ (by omega), Zv]
  simp (disch := omega) only [Yt, Zs, Zj, Zw, cond_false]
 | k + 1, j, out, h, ho => by
  obtain ⟨n, hn⟩ := w9h i hi x x' fin s last first inn k (j + 1) (out.set j (D6.ext x' (rd out j))) (by simp; omega) (by simpa using ho)
  refine ⟨n + 1, fun N => ?_⟩
  have := hn N
  rw [D6.grow_set out j _ (by omega)] at this
  rw [← Nat.add_assoc, Zv]
  simp (disch := omega) only [Yt, Zb, Zk, Zo, Zt, Yz, Yw, Yu, Zf, Zj, Zw, Yp, Zq, Nat.zero_add, decide_true, Bool.and_true, Bool.true_and, cond_true, cond_false]
  exact this
theorem x8f : ∀ (k i : Nat) (s : Sw R6 R4), k = (D6.cuts l).length - 1 - i → i ≤ (D6.cuts l).length → s.out.length ≤ i * 1000 → s.last.length ≤ 1000 → s.first ≤ s.out.length →
  ∃ n, Yv (Yt l) n (.to (.h2 ((i + 1 : Nat) : Int) s.out s.last (s.first : Int) s.fin ((D6.cuts l).length) (Xy (Ye (D6.ends l))))) = .ret ((bif okF l k i then y5t l (D6.go l k i s).out else sckErr))
 | 0, i, s, h, hi, ho, hla, hf => by
  have hc := D6.cuts_length l
  refine ⟨1, ?_⟩
  rw [Zv, show D6.go l 0 i s = s from rfl, show okF l 0 i = true from rfl, cond_true]
  unfold y5t
  by_cases q : (s.out.length : Int) > 400
  ·simp (disch := omega) only [Yt, Zs, Yi, cond_true, cond_false, Zm]
  ·have e : lst R6 s.out.length (fun k => (Zz s.out) k) = s.out := Zk s.out
   have w : Vg s.out l = true := decide_eq_true (by omega)
   have f : Qu (Zz s.out) = true := Xj _
   rcases Ya (Ur s.out l) with q2 | q2 <;>
   simp (disch := omega) only [Yt, Zb, e, w, f, q2, Zs, Xz, Yz, Yp, Nat.zero_add, Bool.not_true, Bool.not_false, Bool.and_true, cond_true, cond_false, Zm]
 | k + 1, i, s, h, hi, ho, hla, hf => by
  have hc := D6.cuts_length l
  have hi1 : i + 1 < (D6.cuts l).length := by omega
  have hpl : (Xy (Ye (D6.ends l))).length = 2 * l.length := by rw [Wi, Wu, D6.ends_length]
  have r0 : rd (Xy (Ye (D6.ends l))) i = rd (D6.cuts l) i := Us _ _ (by show i < (D6.cuts l).length; omega)
  have r1 : rd (Xy (Ye (D6.ends l))) (i + 1) = rd (D6.cuts l) (i + 1) := Us _ _ (by show i + 1 < (D6.cuts l).length; omega)
  have hbig : i * 1000 ≤ 1000 * 1000 := Nat.mul_le_mul_right _ (by omega)
  have hsl := v2n l (rd (D6.cuts l) i)
  have hsd : D6.sec l (rd (D6.cuts l) i) = Yj (D6.inn l (rd (D6.cuts l) i)) := rfl
  obtain ⟨n3, h3⟩ := w9j l hl (i + 1) s.out s.last (s.first : Int) s.fin (rd (D6.cuts l) i) (rd (D6.cuts l) (i + 1)) l.length 0 [] (Nat.zero_add _) (Nat.le_refl _)
  simp only [List.drop_zero, List.nil_append, Qn] at h3
  have w1 : Qg (D6.inn l (rd (D6.cuts l) i)) = true := rfl
  have w2 : Wj s.last (Yj (D6.inn l (rd (D6.cuts l) i))) = true := decide_eq_true (by omega)
  have ol := D6.one_length l (rd (D6.cuts l) i) (rd (D6.cuts l) (i + 1)) s
  have st0 : ∀ N, Yv (Yt l) (N + n3 + 1) (.to (.h2 ((i + 1 : Nat) : Int) s.out s.last (s.first : Int) s.fin ((D6.cuts l).length) (Xy (Ye (D6.ends l))))) = Yv (Yt l) N (.to (.h3 ((i + 1 : Nat) : Int) (l.length : Int) s.out s.last (s.first : Int) s.fin ((D6.cuts l).length) (Xy (Ye (D6.ends l))) (rd (D6.cuts l) i) (rd (D6.cuts l) (i + 1)) (D6.inn l (rd (D6.cuts l) i)))) := fun N => by
   rw [← h3 N, Zv]
   have e1 : IntKind.wrap .i64 (((i + 1 : Nat) : Int) - 1) = (i : Int) := by rw [Zc]; exact Zj (by omega)
   simp (disch := omega) only [Yt, e1, r0, r1, Zb, Zk, Zo, Zt, Yz, Yw, Yu, Zf, Zj, Zw, Yp, Zq, Nat.zero_add, decide_true, Bool.and_true, Bool.true_and, cond_true, cond_false]
  rcases Ya (w8n l (rd (D6.cuts l) i)) with q0 | q0
  ·refine ⟨1 + n3 + 1, ?_⟩
   rw [st0 1, Zv]
   simp only [okF, q0, cond_true, cond_false]
   have q0' : (Uc (D6.inn l (rd (D6.cuts l) i)) != 0) = true := q0
   simp (disch := omega) only [Yt, Zb, Zk, Zs, q0', w1, cond_true, cond_false, Zm]
   rfl
  have q0' : (Uc (D6.inn l (rd (D6.cuts l) i)) != 0) = false := q0
  rcases Ya (decide (0 < (D6.sec l (rd (D6.cuts l) i)).length) && ((s.fin == rd (D6.cuts l) i) && D6.same s.last (D6.sec l (rd (D6.cuts l) i)))) with q | q
  ·obtain ⟨n5, h5⟩ := w9h l hl (i + 1) (by omega) (rd (D6.cuts l) i) (rd (D6.cuts l) (i + 1)) s.fin (D6.sec l (rd (D6.cuts l) i)) s.last (s.first : Int) (D6.inn l (rd (D6.cuts l) i)) (s.out.length - s.first) s.first s.out (by omega) (by omega)
   have e : D6.one l (rd (D6.cuts l) i) (rd (D6.cuts l) (i + 1)) s = ⟨D6.grow s.out s.first (rd (D6.cuts l) (i + 1)), s.last, s.first, rd (D6.cuts l) (i + 1)⟩ := by unfold Dim.one; rw [q]; rfl
   obtain ⟨n0, h0⟩ := x8f k (i + 1) (D6.one l (rd (D6.cuts l) i) (rd (D6.cuts l) (i + 1)) s) (by omega) (by omega) (by omega) (by rw [e]; exact hla) (by rw [e]; simpa [Dim.grow_length] using hf)
   refine ⟨n0 + n5 + 1 + n3 + 1, ?_⟩
   rw [st0 (n0 + n5 + 1), Zv]
   simp only [Bool.and_eq_true, decide_eq_true_eq] at q
   obtain ⟨q1, q2, q3⟩ := q
   have q3' : Up s.last (Yj (D6.inn l (rd (D6.cuts l) i))) = true := q3
   rw [hsd] at q1
   simp (disch := omega) only [Yt, Zb, Zk, Zs, Yi, q0', q2, q3', w1, w2, cond_true, cond_false]
   rw [← hsd, h5 n0]
   simp only [okF, q0, cond_false]; simp only [Dim.go]
   rw [e] at h0 ⊢
   exact h0
  ·obtain ⟨n4, h4⟩ := w9i l hl (i + 1) (by omega) (rd (D6.cuts l) i) (rd (D6.cuts l) (i + 1)) (D6.sec l (rd (D6.cuts l) i)) (D6.sec l (rd (D6.cuts l) i)) (s.out.length : Int) (D6.inn l (rd (D6.cuts l) i)) hsl (D6.sec l (rd (D6.cuts l) i)).length 0 s.out (Nat.zero_add _) (by omega)
   simp only [List.drop_zero, Qn] at h4
   have e : D6.one l (rd (D6.cuts l) i) (rd (D6.cuts l) (i + 1)) s = ⟨s.out ++ (D6.sec l (rd (D6.cuts l) i)).map (D6.put (rd (D6.cuts l) i) (rd (D6.cuts l) (i + 1))), D6.sec l (rd (D6.cuts l) i), s.out.length, rd (D6.cuts l) (i + 1)⟩ := by unfold Dim.one; rw [q]; rfl
   obtain ⟨n0, h0⟩ := x8f k (i + 1) (D6.one l (rd (D6.cuts l) i) (rd (D6.cuts l) (i + 1)) s) (by omega) (by omega) (by omega) (by rw [e]; exact hsl) (by rw [e]; simp)
   have hg : Yv (Yt l) 1 (.to (.h3 ((i + 1 : Nat) : Int) (l.length : Int) s.out s.last (s.first : Int) s.fin ((D6.cuts l).length) (Xy (Ye (D6.ends l))) (rd (D6.cuts l) i) (rd (D6.cuts l) (i + 1)) (D6.inn l (rd (D6.cuts l) i)))) = .to (.h4 (rd (D6.cuts l) i) (rd (D6.cuts l) (i + 1)) (D6.sec l (rd (D6.cuts l) i)) ((D6.sec l (rd (D6.cuts l) i)).length : Int) 0 (D6.sec l (rd (D6.cuts l) i)) ((i + 1 : Nat) : Int) s.out (D6.sec l (rd (D6.cuts l) i)) (s.out.length : Int) ((D6.cuts l).length) (Xy (Ye (D6.ends l))) (D6.inn l (rd (D6.cuts l) i))) := by
    rw [show (1 : Nat) = 0 + 1 from rfl, Zv]
    rw [hsd] at q ⊢
    have e3 : D6.same s.last (Yj (D6.inn l (rd (D6.cuts l) i))) = Up s.last (Yj (D6.inn l (rd (D6.cuts l) i))) := rfl
    rw [e3] at q
    by_cases q1 : 0 < (Yj (D6.inn l (rd (D6.cuts l) i))).length
    ·rw [decide_eq_true q1, Bool.true_and] at q
     rcases Ya (s.fin == rd (D6.cuts l) i) with q2 | q2
     ·rw [q2, Bool.true_and] at q
      simp (disch := omega) only [Yt, Zb, Zk, Zs, Yi, q0', q2, q, w1, w2, cond_true, cond_false]
      rfl
     ·simp (disch := omega) only [Yt, Zb, Zk, Zs, Yi, q0', q2, w1, w2, cond_true, cond_false]
      rfl
    ·simp (disch := omega) only [Yt, Zb, Zk, Zs, Xz, q0', w1, w2, cond_true, cond_false]
     rfl
   refine ⟨n0 + n4 + 1 + n3 + 1, ?_⟩
   rw [st0 (n0 + n4 + 1), y0g _ (n0 + n4) 1, hg, h4 n0]
   simp only [okF, q0, cond_false]; simp only [Dim.go]
   rw [e] at h0 ⊢
   exact h0
theorem w9k : ∀ (k i : Nat) (acc : List Int), i + k = l.length → acc = D6.ends (l.take i) → ∃ n, Yv (Yt l) n (.to (.h1 (i : Int) acc)) = .ret ((bif okF l ((D6.cuts l).length - 1) 0 then y5t l (D6.go l ((D6.cuts l).length - 1) 0 ⟨[], [], 0, 0⟩).out else sckErr))
 | 0, i, acc, h, ha => by
  have e : acc = D6.ends l := by rw [ha, List.take_of_length_le (by omega)]
  subst e
  have hle := D6.ends_length l
  obtain ⟨n, hn⟩ := x8f l hl ((D6.cuts l).length - 1) 0 ⟨[], [], 0, 0⟩ (by omega) (Nat.zero_le _) (Nat.zero_le _) (Nat.zero_le _) (Nat.zero_le _)
  refine ⟨n + 1, ?_⟩
  rw [Zv]
  simp (disch := omega) only [Yt, Ux, Kx, z6j, Zs, Yw, Yu, decide_true, cond_true, cond_false]
  exact hn
 | k + 1, i, acc, h, ha => by
  have hle := D6.ends_length (l.take i)
  have fP : acc.length ≤ 2 * i := by rw [ha, hle]; simp; omega
  obtain ⟨n, hn⟩ := w9k k (i + 1) (acc ++ D6.ends [rd l i]) (by omega) (by
   rw [ha, List.take_add_one]
   have : l[i]? = some (rd l i) := by rw [Xe (show i < l.length by omega)]; exact List.getElem?_eq_getElem _
   rw [this, D6.ends_append]; rfl)
  refine ⟨n + 1, ?_⟩
  rw [Zv]
  simp (disch := omega) only [Yt, Zb, Zk, Zo, Zt, Yz, Yw, Yu, Zf, Zj, Zw, Yp, Zq, Nat.zero_add, decide_true, Bool.and_true, Bool.true_and, cond_true, cond_false]
  exact hn
theorem w9l : ∀ (k i : Nat), i + k = l.length → (∀ s ∈ l.take i, Ja s = true) → ∃ n, Yv (Yt l) n (.to (.h0 (i : Int))) = .ret (bif l.all Ja then (bif okF l ((D6.cuts l).length - 1) 0 then y5t l (D6.go l ((D6.cuts l).length - 1) 0 ⟨[], [], 0, 0⟩).out else sckErr) else sckErr)
 | 0, i, h, ht => by
  have hv : l.all Ja = true := List.all_eq_true.2 fun s hs => ht s (by rw [List.take_of_length_le (by omega)]; exact hs)
  obtain ⟨n, hn⟩ := w9k l hl l.length 0 [] (Nat.zero_add _) rfl
  refine ⟨n + 1, ?_⟩
  rw [Zv, hv, cond_true]
  simp (disch := omega) only [Yt, Zs, cond_false]
  exact hn
 | k + 1, i, h, ht => by
  have hi : i < l.length := by omega
  have hs : Yt l (.h0 (i : Int)) = bif Ja (rd l i) then .to (.h0 ((i + 1 : Nat) : Int)) else .ret sckErr := by
   have e : v2q (rd l i).a (rd l i).b (rd l i).c (rd l i).d (rd l i).e (rd l i).f = Ja (rd l i) := rfl
   simp (disch := omega) only [Yt, e, y4q, x3y, x3z, Zt, Zj, Zw, Zq, Bool.and_true, cond_true, cond_false]
   rfl
  rcases Ya (Ja (rd l i)) with q | q
  ·obtain ⟨n, hn⟩ := w9l k (i + 1) (by omega) (fun s hs => by
    rw [List.take_add_one] at hs
    have e : l[i]? = some (rd l i) := by rw [Xe hi]; exact List.getElem?_eq_getElem _
    rw [e] at hs
    simp only [Option.toList_some, List.mem_append, List.mem_singleton] at hs
    rcases hs with hs | rfl
    ·exact ht s hs
    ·exact q)
   refine ⟨n + 1, ?_⟩
   rw [Zv, hs, q, cond_true]
   exact hn
  ·have hv : l.all Ja = false := Bool.eq_false_iff.2 fun e => by
    have := List.all_eq_true.1 e (rd l i) (by rw [Xe hi]; exact List.getElem_mem hi)
    rw [this] at q; cases q
   refine ⟨1, ?_⟩
   rw [Zv, hv, cond_false, hs, q, cond_false, Zm]
end
def Yg (l : List R6) : Int := bif decide (400 < l.length) then 4 else bif l.all Ja then (bif okF l ((D6.cuts l).length - 1) 0 then (bif decide (((D6.out l).length : Int) > 400) then 8 else bif Ur (D6.out l) l then 0 else 8) else 8) else 8
def x8g (l : List R6) : Bool := true
theorem v3j (l : List R6) : ∃ n, Yv (Yt l) n (z7x l) = .ret [.int .i64 (Yg l)] := by
 unfold z7x Yg
 by_cases h : 400 < l.length
 ·refine ⟨0, ?_⟩
  rw [decide_eq_true h, Yi (show (l.length : Int) > 400 by omega)]; rfl
 ·obtain ⟨n, hn⟩ := w9l l (by omega) l.length 0 (Nat.zero_add _) (fun s hs => by simp at hs)
  refine ⟨n, ?_⟩
  rw [decide_eq_false h, Xz (show ¬ (l.length : Int) > 400 by omega), cond_false, cond_false]
  rw [Qn] at hn
  rw [hn]
  unfold sckErr y5t
  cases l.all Ja <;> simp only [cond_true, cond_false]
  cases okF l ((D6.cuts l).length - 1) 0 <;> simp only [cond_true, cond_false]
  show Xn.ret (bif decide (((D6.out l).length : Int) > 400) then _ else bif Ur (D6.out l) l then _ else _) = _
  cases decide (((D6.out l).length : Int) > 400) <;> simp only [cond_true, cond_false]
  cases Ur (D6.out l) l <;> rfl
def fSck : List AVal → Option (AVal × Bool)
 | [a1] => match asL R6 a1 with
  | some (L1, g1, n1) => some (.int .i64 (Yg L1), isT R6 n1 g1 && x8g L1)
  | _ => none
 | _ => none
theorem v6a {S : Specs} (hS : Zu prog S) : Zu prog (S.with y6o fSck) := by
 refine z2g hS (by kernel_rfl) fun args v h => ?_
 unfold fSck at h
 split at h
 ·rename_i a1
  split at h
  ·rename_i L1 g1 n1 e1
   simp only [Option.some.injEq, Prod.mk.injEq, Bool.and_eq_true] at h
   obtain ⟨rfl, ho1, hw⟩ := h
   obtain ⟨N, hN⟩ := v3j L1
   exact ⟨_, _, (.cons (asL_le e1 ho1) .nil), rfl, w3s L1 N _ hN, 3, rfl⟩
  ·cases h
 ·cases h
def T8 : Specs := T7v.with y6o fSck
theorem Kb : Zu prog T8 := v6a Ws
end Go.Am
namespace Go.Am
open Go.Proofs.Tryz
open Go.Proofs
inductive rchkS where
 | h0 (v3 : Int)
def v4i (l0 : List R6) : rchkS → Cfg
 | .h0 v3 => ⟨⟨34, 0, true⟩, none, (Za prog 64 [1, 1, 0, 1, 0, 0] 0), none, (Zy prog 15), ⟨Yk [(0, (.dat l0.length (Zz l0))), (3, (ii v3))], Vn [] 0, 0, [], true⟩, [], .leaf⟩
def v0h : List (Option (List Nat)) := [some [0, 3]]
def v0i : List (Option (List Nat)) := []
def Ki (l0 : List R6) : rchkS → Xn rchkS
 | .h0 v3 => (bif (decide (v3 < (l0.length : Int))) then (bif ((decide (0 ≤ v3 ∧ v3 < (l0.length : Int))) && true) then (bif (decide ((rd l0 v3.toNat).a ≥ (-1000000))) then (bif (decide ((rd l0 v3.toNat).b ≥ (-1000000))) then (bif (decide ((rd l0 v3.toNat).c ≥ (-1000000))) then (bif (decide ((rd l0 v3.toNat).a ≤ 1000000)) then (bif (decide ((rd l0 v3.toNat).b ≤ 1000000)) then (bif (decide ((rd l0 v3.toNat).c ≤ 1000000)) then (bif (decide ((rd l0 v3.toNat).d ≥ (-1000000))) then (bif (decide ((rd l0 v3.toNat).e ≥ (-1000000))) then (bif (decide ((rd l0 v3.toNat).f ≥ (-1000000))) then (bif (decide ((rd l0 v3.toNat).d ≤ 1000000)) then (bif (decide ((rd l0 v3.toNat).e ≤ 1000000)) then (bif (decide ((rd l0 v3.toNat).f ≤ 1000000)) then (bif (decide ((rd l0 v3.toNat).a < (rd l0 v3.toNat).d)) then (bif (decide ((rd l0 v3.toNat).b < (rd l0 v3.toNat).e)) then (bif (!(decide ((rd l0 v3.toNat).c < (rd l0 v3.toNat).f))) then (.ret [(.int .i64 8)]) else (.to (.h0 (IntKind.wrap .i64 (v3 + 1))))) else (.ret [(.int .i64 8)])) else (.ret [(.int .i64 8)])) else (.ret [(.int .i64 8)])) else (.ret [(.int .i64 8)])) else (.ret [(.int .i64 8)])) else (.ret [(.int .i64 8)])) else (.ret [(.int .i64 8)])) else (.ret [(.int .i64 8)])) else (.ret [(.int .i64 8)])) else (.ret [(.int .i64 8)])) else (.ret [(.int .i64 8)])) else (.ret [(.int .i64 8)])) else (.ret [(.int .i64 8)])) else (.ret [(.int .i64 8)])) else .stuck) else (bif (z8i 2 (cvT l0) ([] : List R6)) then (bif (!(y6x 2 (cvT l0) ([] : List R6))) then (.ret [(.int .i64 8)]) else (bif (Vg (cvT (z3f 2 (cvT l0) ([] : List R6))) (cvT l0)) then (bif (!(Ur (cvT (z3f 2 (cvT l0) ([] : List R6))) (cvT l0))) then (.ret [(.int .i64 8)]) else (.ret [(.int .i64 0)])) else .stuck)) else .stuck))
def z4b (l0 : List R6) : Xn rchkS := (bif (decide ((l0.length : Int) > 400)) then (.ret [(.int .i64 4)]) else (.to (.h0 0)))
theorem y9n (l0 : List R6) : ∀ s, Ww prog (Zy prog 64) (v4i l0) (v4i l0 s) (Ki l0 s)
 | .h0 v3 => (lb (fun k0 => (lo fun aH => (lb (fun k1 => (lb (fun k2 => (lb (fun k3 => (lb (fun k4 => (lb (fun k5 => (lb (fun k6 => (lb (fun k7 => (lb (fun k8 => (lb (fun k9 => (lb (fun k10 => (lb (fun k11 => (lb (fun k12 => (lb (fun k13 => (lb (fun k14 => (lb (fun k15 => (lr 34 64 [1, 1, 0, 1, 0, 0, 1, 0, 0, 1, 0, 0] 1 15 [(2, (ii 8))] (sl Kb 158 [] ⟨[], [], [some [2]], []⟩ ⟨[], [], []⟩ (trs 60 []) (tt k15 (tt k14 (tt k13 (tt k12 (tt k11 (tt k10 (tt k9 (tt k8 (tt k7 (tt k6 (tt k5 (tt k4 (tt k3 (tt k2 (tt k1 (ww aH (tt k0 nn)))))))))))))))))))) (fun k15 => (sl Kb 162 [] ⟨[], [], v0h, v0i⟩ ⟨[], [], []⟩ (trs 59 [false]) (tt k15 (tt k14 (tt k13 (tt k12 (tt k11 (tt k10 (tt k9 (tt k8 (tt k7 (tt k6 (tt k5 (tt k4 (tt k3 (tt k2 (tt k1 (ww aH (tt k0 nn))))))))))))))))))))) (fun k14 => (lr 34 64 [1, 1, 0, 1, 0, 0, 1, 0, 0, 1, 0, 0] 1 15 [(2, (ii 8))] (sl Kb 158 [] ⟨[], [], [some [2]], []⟩ ⟨[], [], []⟩ (trs 52 [false, false, false, false, false, false, false, true]) (tt k14 (tt k13 (tt k12 (tt k11 (tt k10 (tt k9 (tt k8 (tt k7 (tt k6 (tt k5 (tt k4 (tt k3 (tt k2 (tt k1 (ww aH (tt k0 nn))))))))))))))))))))) (fun k13 => (lr 34 64 [1, 1, 0, 1, 0, 0, 1, 0, 0, 1, 0, 0] 1 15 [(2, (ii 8))] (sl Kb 158 [] ⟨[], [], [some [2]], []⟩ ⟨[], [], []⟩ (trs 45 [false, false, false, false, false, false, false, false, false, false, false, false, false, false, true]) (tt k13 (tt k12 (tt k11 (tt k10 (tt k9 (tt k8 (tt k7 (tt k6 (tt k5 (tt k4 (tt k3 (tt k2 (tt k1 (ww aH (tt k0 nn)))))))))))))))))))) (fun k12 => (lr 34 64 [1, 1, 0, 1, 0, 0, 1, 0, 0, 1, 0, 0] 1 15 [(2, (ii 8))] (sl Kb 158 [] ⟨[], [], [some [2]], []⟩ ⟨[], [], []⟩ (trs 38 [false, false, false, false, false, false, false, false, false, false, false, false, false, false, false, false, false, false, false, false, false, true]) (tt k12 (tt k11 (tt k10 (tt k9 (tt k8 (tt k7 (tt k6 (tt k5 (tt k4 (tt k3 (tt k2 (tt k1 (ww aH (tt k0 nn))))))))))))))))))) (fun k11 => (lr 34 64 [1, 1, 0, 1, 0, 0, 1, 0, 0, 1, 0, 0] 1 15 [(2, (ii 8))] (sl Kb 158 [] ⟨[], [], [some [2]], []⟩ ⟨[], [], []⟩ (trs 35 [false, false, false, false, false, false, false, false, false, false, false, false, false, false, false, false, false, false, false, false, false, false, false, false, true]) (tt k11 (tt k10 (tt k9 (tt k8 (tt k7 (tt k6 (tt k5 (tt k4 (tt k3 (tt k2 (tt k1 (ww aH (tt k0 nn)))))))))))))))))) (fun k10 => (lr 34 64 [1, 1, 0, 1, 0, 0, 1, 0, 0, 1, 0, 0] 1 15 [(2, (ii 8))] (sl Kb 158 [] ⟨[], [], [some [2]], []⟩ ⟨[], [], []⟩ (trs 32 [false, false, false, false, false, false, false, false, false, false, false, false, false, false, false, false, false, false, false, false, false, false, false, false, false, false, false, true]) (tt k10 (tt k9 (tt k8 (tt k7 (tt k6 (tt k5 (tt k4 (tt k3 (tt k2 (tt k1 (ww aH (tt k0 nn))))))))))))))))) (fun k9 => (lr 34 64 [1, 1, 0, 1, 0, 0, 1, 0, 0, 1, 0, 0] 1 15 [(2, (ii 8))] (sl Kb 158 [] ⟨[], [], [some [2]], []⟩ ⟨[], [], []⟩ (trs 29 [false, false, false, false, false, false, false, false, false, false, false, false, false, false, false, false, false, false, false, false, false, false, false, false, false, false, false, false, false, false, true]) (tt k9 (tt k8 (tt k7 (tt k6 (tt k5 (tt k4 (tt k3 (tt k2 (tt k1 (ww aH (tt k0 nn)))))))))))))))) (fun k8 => (lr 34 64 [1, 1, 0, 1, 0, 0, 1, 0, 0, 1, 0, 0] 1 15 [(2, (ii 8))] (sl Kb 158 [] ⟨[], [], [some [2]], []⟩ ⟨[], [], []⟩ (trs 25 [false, false, false, false, false, false, false, false, false, false, false, false, false, false, false, false, false, false, false, false, false, false, false, false, false, false, false, false, false, false, false, false, false, false, true]) (tt k8 (tt k7 (tt k6 (tt k5 (tt k4 (tt k3 (tt k2 (tt k1 (ww aH (tt k0 nn))))))))))))))) (fun k7 => (lr 34 64 [1, 1, 0, 1, 0, 0, 1, 0, 0, 1, 0, 0] 1 15 [(2, (ii 8))] (sl Kb 158 [] ⟨[], [], [some [2]], []⟩ ⟨[], [], []⟩ (trs 21 [false, false, false, false, false, false, false, false, false, false, false, false, false, false, false, false, false, false, false, false, false, false, false, false, false, false, false, false, false, false, false, false, false, false, false, false, false, false, true]) (tt k7 (tt k6 (tt k5 (tt k4 (tt k3 (tt k2 (tt k1 (ww aH (tt k0 nn)))))))))))))) (fun k6 => (lr 34 64 [1, 1, 0, 1, 0, 0, 1, 0, 0, 1, 0, 0] 1 15 [(2, (ii 8))] (sl Kb 117 [] ⟨[], [], [some [2]], []⟩ ⟨[], [], []⟩ (trs 18 [false, false, false, false, false, false, false, false, false, false, false, false, false, false, false, false, false, false, false, false, false, false, false, false, true]) (tt k6 (tt k5 (tt k4 (tt k3 (tt k2 (tt k1 (ww aH (tt k0 nn))))))))))))) (fun k5 => (lr 34 64 [1, 1, 0, 1, 0, 0, 1, 0, 0, 1, 0, 0] 1 15 [(2, (ii 8))] (sl Kb 117 [] ⟨[], [], [some [2]], []⟩ ⟨[], [], []⟩ (trs 15 [false, false, false, false, false, false, false, false, false, false, false, false, false, false, false, false, false, false, false, false, false, false, false, false, false, false, false, true]) (tt k5 (tt k4 (tt k3 (tt k2 (tt k1 (ww aH (tt k0 nn)))))))))))) (fun k4 => (lr 34 64 [1, 1, 0, 1, 0, 0, 1, 0, 0, 1, 0, 0] 1 15 [(2, (ii 8))] (sl Kb 117 [] ⟨[], [], [some [2]], []⟩ ⟨[], [], []⟩ (trs 12 [false, false, false, false, false, false, false, false, false, false, false, false, false, false, false, false, false, false, false, false, false, false, false, false, false, false, false, false, false, false, true]) (tt k4 (tt k3 (tt k2 (tt k1 (ww aH (tt k0 nn))))))))))) (fun k3 => (lr 34 64 [1, 1, 0, 1, 0, 0, 1, 0, 0, 1, 0, 0] 1 15 [(2, (ii 8))] (sl Kb 117 [] ⟨[], [], [some [2]], []⟩ ⟨[], [], []⟩ (trs 9 [false, false, false, false, false, false, false, false, false, false, false, false, false, false, false, false, false, false, false, false, false, false, false, false, false, false, false, false, false, false, false, false, false, true]) (tt k3 (tt k2 (tt k1 (ww aH (tt k0 nn)))))))))) (fun k2 => (lr 34 64 [1, 1, 0, 1, 0, 0, 1, 0, 0, 1, 0, 0] 1 15 [(2, (ii 8))] (sl Kb 117 [] ⟨[], [], [some [2]], []⟩ ⟨[], [], []⟩ (trs 5 [false, false, false, false, false, false, false, false, false, false, false, false, false, false, false, false, false, false, false, false, false, false, false, false, false, false, false, false, false, false, false, false, false, false, false, false, false, true]) (tt k2 (tt k1 (ww aH (tt k0 nn))))))))) (fun k1 => (lr 34 64 [1, 1, 0, 1, 0, 0, 1, 0, 0, 1, 0, 0] 1 15 [(2, (ii 8))] (sl Kb 117 [] ⟨[], [], [some [2]], []⟩ ⟨[], [], []⟩ [true, false, false, false, false, false, false, false, false, false, false, false, false, false, false, false, false, false, false, false, false, false, false, false, false, false, false, false, false, false, false, false, false, false, false, false, false, false, false, false, false, false, true] (tt k1 (ww aH (tt k0 nn))))))))) (fun k0 => (lo fun aH => (lb (fun k1 => (lr 34 64 [1, 1, 1, 1, 0, 1, 0, 0] 1 15 [(2, (ii 8))] (sl Kb 37 [] ⟨[], [], [some [2]], []⟩ ⟨[], [], []⟩ [false, true, true, true, true, true] (tt k1 (pp (pp (xr l0) (pp (xI R6 0 (fun _ => [])) (xw aH))) (tt k0 nn)))))) (fun k1 => (lo fun cX => (lb (fun k2 => (lr 34 64 [1, 1, 1, 1, 0, 1, 0, 0] 1 15 [(2, (ii 8))] (sl Kb 37 [] ⟨[], [], [some [2]], []⟩ ⟨[], [], []⟩ [false, false, false, false, false, true] (tt k2 (pp (pp (xI R6 (z3f 2 (cvT l0) ([] : List R6)).length (Zz (z3f 2 (cvT l0) ([] : List R6)))) (pp (xr l0) (xw cX))) (tt k1 (pp (pp (xr l0) (pp (xI R6 0 (fun _ => [])) (xw aH))) (tt k0 nn)))))))) (fun k2 => (lr 34 3 [1, 1, 1, 1, 1, 1, 0] 1 15 [(2, (ii 0))] (sl Kb 38 [] ⟨[], [], [some [2]], []⟩ ⟨[], [], []⟩ [false, false, false, false, false, false] (tt k2 (pp (pp (xI R6 (z3f 2 (cvT l0) ([] : List R6)).length (Zz (z3f 2 (cvT l0) ([] : List R6)))) (pp (xr l0) (xw cX))) (tt k1 (pp (pp (xr l0) (pp (xI R6 0 (fun _ => [])) (xw aH))) (tt k0 nn)))))))))))))))
theorem y6e (l0 : List R6) : Ww prog (Zy prog 64) (v4i l0) (Zn prog 64 [(.dat l0.length (Zz l0))] true []) (z4b l0) := (lb (fun k0 => (lr 34 64 [1, 0, 1, 0, 0] 1 15 [(2, (ii 4))] (sl Kb 16 [] ⟨[], [], [some [2]], []⟩ ⟨[], [], []⟩ [true] (tt k0 nn)))) (fun k0 => (sl Kb 20 [] ⟨[], [], v0h, v0i⟩ ⟨[], [], []⟩ [false] (tt k0 nn))))
theorem x9q (l0 : List R6) (n : Nat) (vs : List AVal) (h : Yv (Ki l0) n (z4b l0) = .ret vs) : Kz prog (Zy prog 64) (Zn prog 64 [(.dat l0.length (Zz l0))] true []) vs := by
 have := Zr (y9n l0) n _ (y6e l0)
 rwa [h] at this
end Go.Am
namespace Go.Am
open Go.Proofs.Tryz
open Go.Proofs
def y8j (r : R6) : Bool := decide (r.a ≥ -1000000) && (decide (r.b ≥ -1000000) && (decide (r.c ≥ -1000000) && (decide (r.a ≤ 1000000) && (decide (r.b ≤ 1000000) && (decide (r.c ≤ 1000000) && (decide (r.d ≥ -1000000) && (decide (r.e ≥ -1000000) && (decide (r.f ≥ -1000000) && (decide (r.d ≤ 1000000) && (decide (r.e ≤ 1000000) && (decide (r.f ≤ 1000000) && (decide (r.a < r.d) && (decide (r.b < r.e) && decide (r.c < r.f))))))))))))))
def rckF (l : List R6) : Int := bif y6x 2 l [] then (bif Ur (z3f 2 l []) l then 0 else 8) else 8
def z4a (l : List R6) : Int := bif decide (400 < l.length) then 4 else bif l.all y8j then rckF l else 8
def x9o (l : List R6) : Bool := true
theorem x5x (k : Int) (l m : List R6) : (z3f k l m).length ≤ 400 ∨ y6x k l m = false := by
 unfold z3f y6x
 cases jsO k l m with
 | none => exact .inl (Nat.zero_le _)
 | some out =>
  by_cases h : (out.length : Int) ≤ 400
  ·left; show out.length ≤ 400; omega
  ·right; exact decide_eq_false h
section
variable (l : List R6) (hl : l.length ≤ 400)
include hl
theorem x9p : ∀ (k i : Nat), i + k = l.length → (∀ s ∈ l.take i, y8j s = true) → ∃ n, Yv (Ki l) n (.to (.h0 (i : Int))) = .ret [.int .i64 (bif l.all y8j then rckF l else 8)]
 | 0, i, h, ht => by
  have hv : l.all y8j = true := List.all_eq_true.2 fun s hs => ht s (by rw [List.take_of_length_le (by omega)]; exact hs)
  have w1 : z8i 2 l [] = true := decide_eq_true ⟨by omega, by simp⟩
  refine ⟨1, ?_⟩
  rw [Zv, hv, cond_true]
  unfold rckF
  rcases Ya (y6x 2 l []) with q | q
  ·have w2 : Vg (z3f 2 l []) l = true := decide_eq_true (by
    rcases x5x 2 l [] with h | h
    ·omega
    ·rw [h] at q; cases q)
   rcases Ya (Ur (z3f 2 l []) l) with q2 | q2 <;>
   simp (disch := omega) only [Ki, Zb, Zs, q, q2, w1, w2, Bool.not_true, Bool.not_false, cond_true, cond_false, Zm]
  ·simp (disch := omega) only [Ki, Zb, Zs, q, w1, Bool.not_true, Bool.not_false, cond_true, cond_false, Zm]
 | k + 1, i, h, ht => by
  have hi : i < l.length := by omega
  have hs : Ki l (.h0 (i : Int)) = bif y8j (rd l i) then .to (.h0 ((i + 1 : Nat) : Int)) else .ret [.int .i64 8] := by
   simp (disch := omega) only [Ki, y8j, x1r, y4q, x3y, Zt, Zj, Zw, Zq, Bool.and_true, cond_true, cond_false]
  rcases Ya (y8j (rd l i)) with q | q
  ·obtain ⟨n, hn⟩ := x9p k (i + 1) (by omega) (fun s hs => by
    rw [List.take_add_one] at hs
    have e : l[i]? = some (rd l i) := by rw [Xe hi]; exact List.getElem?_eq_getElem _
    rw [e] at hs
    simp only [Option.toList_some, List.mem_append, List.mem_singleton] at hs
    rcases hs with hs | rfl
    ·exact ht s hs
    ·exact q)
   refine ⟨n + 1, ?_⟩
   rw [Zv, hs, q, cond_true]
   exact hn
  ·have hv : l.all y8j = false := Bool.eq_false_iff.2 fun e => by
    have := List.all_eq_true.1 e (rd l i) (by rw [Xe hi]; exact List.getElem_mem hi)
    rw [this] at q; cases q
   refine ⟨1, ?_⟩
   rw [Zv, hv, cond_false, hs, q, cond_false, Zm]
end
theorem w4o (l : List R6) : ∃ n, Yv (Ki l) n (z4b l) = .ret [.int .i64 (z4a l)] := by
 unfold z4b z4a
 by_cases h : 400 < l.length
 ·refine ⟨0, ?_⟩
  rw [decide_eq_true h, Yi (show (l.length : Int) > 400 by omega)]; rfl
 ·obtain ⟨n, hn⟩ := x9p l (by omega) l.length 0 (Nat.zero_add _) (fun s hs => by simp at hs)
  refine ⟨n, ?_⟩
  rw [decide_eq_false h, Xz (show ¬ (l.length : Int) > 400 by omega), cond_false, cond_false]
  exact hn
def fRck : List AVal → Option (AVal × Bool)
 | [a1] => match asL R6 a1 with
  | some (L1, g1, n1) => some (.int .i64 (z4a L1), isT R6 n1 g1 && x9o L1)
  | _ => none
 | _ => none
theorem v6c {S : Specs} (hS : Zu prog S) : Zu prog (S.with w0k fRck) := by
 refine z2g hS (by kernel_rfl) fun args v h => ?_
 unfold fRck at h
 split at h
 ·rename_i a1
  split at h
  ·rename_i L1 g1 n1 e1
   simp only [Option.some.injEq, Prod.mk.injEq, Bool.and_eq_true] at h
   obtain ⟨rfl, ho1, hw⟩ := h
   obtain ⟨N, hN⟩ := w4o L1
   exact ⟨_, _, (.cons (asL_le e1 ho1) .nil), rfl, x9q L1 N _ hN, 3, rfl⟩
  ·cases h
 ·cases h
def T9 : Specs := T8.with w0k fRck
theorem v7v : Zu prog T9 := v6c Kb
end Go.Am
namespace Go.Am
open Go.Proofs
def gA (x : Int) (c B : R6) : R6 := ⟨Wg (IntKind.wrap .i64 (c.a - x)) B.a, Wg (IntKind.wrap .i64 (c.b - x)) B.b, Wg (IntKind.wrap .i64 (c.c - x)) B.c, Uw (IntKind.wrap .i64 (c.d + x)) B.d, Uw (IntKind.wrap .i64 (c.e + x)) B.e, Uw (IntKind.wrap .i64 (c.f + x)) B.f⟩
def z4w (r : R6) : Bool := decide (r.a ≥ r.d) || (decide (r.b ≥ r.e) || decide (r.c ≥ r.f))
def v1z (G B : R6) : R6 := ⟨B.a, B.b, B.c, G.a, B.e, B.f⟩
def v1y (G B : R6) : R6 := ⟨G.d, B.b, B.c, B.d, B.e, B.f⟩
def w3f (G B : R6) : R6 := ⟨G.a, B.b, B.c, G.d, G.b, B.f⟩
def w3e (G B : R6) : R6 := ⟨G.a, G.e, B.c, G.d, B.e, B.f⟩
def x7l (G B : R6) : R6 := ⟨G.a, G.b, B.c, G.d, G.e, G.c⟩
def x7k (G B : R6) : R6 := ⟨G.a, G.b, G.f, G.d, G.e, B.f⟩
def covB (x : Int) : List R6 → R6 → Bool
 | [], _ => false
 | c :: l, B => bif z4w (gA x c B) then covB x l B else
  (z4w (v1z (gA x c B) B) || covB x l (v1z (gA x c B) B)) && ((z4w (v1y (gA x c B) B) || covB x l (v1y (gA x c B) B)) && ((z4w (w3f (gA x c B) B) || covB x l (w3f (gA x c B) B)) &&
   ((z4w (w3e (gA x c B) B) || covB x l (w3e (gA x c B) B)) && ((z4w (x7l (gA x c B) B) || covB x l (x7l (gA x c B) B)) && (z4w (x7k (gA x c B) B) || covB x l (x7k (gA x c B) B))))))
def x7m (a b c d e f : Int) (L : List R6) (x : Int) : Bool := covB x L ⟨a, b, c, d, e, f⟩
def Vv (q : Nat) (a b c d e f : Int) (L : List R6) (x : Int) : Bool := decide (L.length < q) && decide (L.length ≤ 100000)
def fCov (q : Nat) : List AVal → Option (AVal × Bool)
 | [.agg [.int .i64 aZ, .int .i64 aU, .int .i64 aR, .int .i64 bF, .int .i64 bQ, .int .i64 bG], a1, .int .i64 x2] => match asL R6 a1 with
  | some (L1, g1, n1) => some (.bool (x7m aZ aU aR bF bQ bG L1 x2), isT R6 n1 g1 && (Vv q aZ aU aR bF bQ bG L1 x2))
  | _ => none
 | _ => none
def Tcv (q : Nat) : Specs := T9.with z8g (fCov q)
theorem z2i (L : List R6) {k : Nat} (h : k ≤ L.length) : lst R6 (L.length - k) (fun j => (Zz L) (k + j)) = L.drop k := by
 rw [w5o L (by omega), List.take_of_length_le (by simp)]
end Go.Am
namespace Go.Am
open Go.Proofs.Tryz
open Go.Proofs
inductive cvdS where
 | h0 (v14 : Int)
 | h1 (bE : Int) (dB : Int) (aE : Int) (aB : Int) (bX : Int) (bN : Int) (cV : Int) (bW : Int) (bD : Int)
 | h2 (bB : Int) (aE : Int) (aB : Int) (bX : Int) (bN : Int) (bW : Int) (bD : Int)
 | h3 (bB : Int) (bE : Int) (bZ : Int) (aE : Int) (bN : Int) (bW : Int) (bD : Int)
 | h4 (bB : Int) (cA : Int) (bE : Int) (aE : Int) (bX : Int) (bN : Int) (bD : Int)
 | h5 (bB : Int) (cA : Int) (bE : Int) (bZ : Int) (dK : Int) (aE : Int) (bD : Int)
 | h6 (bB : Int) (cA : Int) (dL : Int) (bE : Int) (bZ : Int) (aE : Int)
def cvdC (aZ : Int) (aU : Int) (aR : Int) (bF : Int) (bQ : Int) (bG : Int) (l1 : List R6) (x2 : Int) : cvdS → Cfg
 | .h0 v14 => ⟨⟨200, 0, true⟩, none, (Za prog 95 [1, 0, 1, 0, 0] 0), none, (Zy prog 4), ⟨Yk [(3, (.ptr 0 0)), (4, (.ptr 1 0)), (5, (.ptr 2 0)), (12, (.dat l1.length (Zz l1))), (13, (ii (l1.length : Int))), (14, (ii v14))], Vn [⟨[(ii aZ), (ii aU), (ii aR), (ii bF), (ii bQ), (ii bG)], 68, none⟩, ⟨[(.dat l1.length (Zz l1))], 22, none⟩, ⟨[(ii x2)], 3, none⟩] 0, 3, [], true⟩, [], .leaf⟩
 | .h1 bE dB aE aB bX bN cV bW bD => ⟨⟨38, 0, true⟩, none, (Za prog 127 [] 0), none, (Zy prog 127), ⟨Yk [(0, (.agg [(ii aZ), (ii aU), (ii aR)])), (1, (.agg [(ii bE), (ii bQ), (ii bG)])), (2, (.ptr 0 0)), (3, (.ptr 1 0)), (4, (.ptr 2 0))], Vn [⟨[(.dat l1.length (Zz l1))], 22, none⟩, ⟨[(ii aE)], 3, none⟩, ⟨[(ii x2)], 3, none⟩, ⟨[(ii aB), (ii bX), (ii bN), (ii cV), (ii bW), (ii bD)], 68, none⟩, ⟨[(ii aZ), (ii aU), (ii aR)], 65, none⟩, ⟨[(ii bF), (ii bQ), (ii bG)], 65, none⟩] 0, 6, [], true⟩, [⟨⟨200, 0, true⟩, (Vk prog 95 [1, 0, 1, 0, 0, 1, 1, 0, 0, 1, 1, 1, 1, 1, 1, 0, 0] 10), (Za prog 95 [1, 0, 1, 0, 0, 1, 1, 0, 0, 1, 1, 1, 1, 1, 1, 0, 0] 1), none, (Zy prog 4), Yk [(8, (.ptr 3 0)), (9, (.fn 127 [(.ptr 0 0), (.ptr 1 0), (.ptr 2 0)])), (10, (.ptr 4 0)), (11, (.ptr 5 0)), (107, (.fn 127 [(.ptr 0 0), (.ptr 1 0), (.ptr 2 0)])), (108, (.agg [(ii aZ), (ii aU), (ii aR)])), (116, (.agg [(ii dB), (ii bQ), (ii bG)]))]⟩], .leaf⟩
 | .h2 bB aE aB bX bN bW bD => ⟨⟨38, 0, true⟩, none, (Za prog 127 [] 0), none, (Zy prog 127), ⟨Yk [(0, (.agg [(ii bB), (ii aU), (ii aR)])), (1, (.agg [(ii bF), (ii bQ), (ii bG)])), (2, (.ptr 0 0)), (3, (.ptr 1 0)), (4, (.ptr 2 0))], Vn [⟨[(.dat l1.length (Zz l1))], 22, none⟩, ⟨[(ii aE)], 3, none⟩, ⟨[(ii x2)], 3, none⟩, ⟨[(ii aB), (ii bX), (ii bN), (ii bB), (ii bW), (ii bD)], 68, none⟩, ⟨[(ii aZ), (ii aU), (ii aR)], 65, none⟩, ⟨[(ii bF), (ii bQ), (ii bG)], 65, none⟩] 0, 6, [], true⟩, [⟨⟨200, 0, true⟩, (Vk prog 95 [1, 0, 1, 0, 0, 1, 1, 0, 0, 1, 1, 1, 1, 1, 1, 0, 0] 23), (Za prog 95 [1, 0, 1, 0, 0, 1, 1, 0, 0, 1, 1, 1, 1, 1, 1, 0, 0] 1), none, (Zy prog 4), Yk [(8, (.ptr 3 0)), (9, (.fn 127 [(.ptr 0 0), (.ptr 1 0), (.ptr 2 0)])), (10, (.ptr 4 0)), (11, (.ptr 5 0)), (119, (.bool false)), (120, (.fn 127 [(.ptr 0 0), (.ptr 1 0), (.ptr 2 0)])), (128, (.agg [(ii bB), (ii aU), (ii aR)])), (129, (.agg [(ii bF), (ii bQ), (ii bG)]))]⟩], .leaf⟩
 | .h3 bB bE bZ aE bN bW bD => ⟨⟨38, 0, true⟩, none, (Za prog 127 [] 0), none, (Zy prog 127), ⟨Yk [(0, (.agg [(ii bB), (ii aU), (ii aR)])), (1, (.agg [(ii bE), (ii bZ), (ii bG)])), (2, (.ptr 0 0)), (3, (.ptr 1 0)), (4, (.ptr 2 0))], Vn [⟨[(.dat l1.length (Zz l1))], 22, none⟩, ⟨[(ii aE)], 3, none⟩, ⟨[(ii x2)], 3, none⟩, ⟨[(ii bB), (ii bZ), (ii bN), (ii bE), (ii bW), (ii bD)], 68, none⟩, ⟨[(ii bB), (ii aU), (ii aR)], 65, none⟩, ⟨[(ii bE), (ii bQ), (ii bG)], 65, none⟩] 0, 6, [], true⟩, [⟨⟨200, 0, true⟩, (Vk prog 95 [1, 0, 1, 0, 0, 1, 1, 0, 0, 1, 1, 1, 1, 1, 1, 1, 1, 0, 0] 10), (Za prog 95 [1, 0, 1, 0, 0, 1, 1, 0, 0, 1, 1, 1, 1, 1, 1, 1, 1, 0, 0] 1), none, (Zy prog 4), Yk [(8, (.ptr 3 0)), (9, (.fn 127 [(.ptr 0 0), (.ptr 1 0), (.ptr 2 0)])), (10, (.ptr 4 0)), (11, (.ptr 5 0)), (141, (.fn 127 [(.ptr 0 0), (.ptr 1 0), (.ptr 2 0)])), (142, (.agg [(ii bB), (ii aU), (ii aR)])), (150, (.agg [(ii bE), (ii bZ), (ii bG)]))]⟩], .leaf⟩
 | .h4 bB cA bE aE bX bN bD => ⟨⟨38, 0, true⟩, none, (Za prog 127 [] 0), none, (Zy prog 127), ⟨Yk [(0, (.agg [(ii bB), (ii cA), (ii aR)])), (1, (.agg [(ii bE), (ii bQ), (ii bG)])), (2, (.ptr 0 0)), (3, (.ptr 1 0)), (4, (.ptr 2 0))], Vn [⟨[(.dat l1.length (Zz l1))], 22, none⟩, ⟨[(ii aE)], 3, none⟩, ⟨[(ii x2)], 3, none⟩, ⟨[(ii bB), (ii bX), (ii bN), (ii bE), (ii cA), (ii bD)], 68, none⟩, ⟨[(ii bB), (ii aU), (ii aR)], 65, none⟩, ⟨[(ii bE), (ii bQ), (ii bG)], 65, none⟩] 0, 6, [], true⟩, [⟨⟨200, 0, true⟩, (Vk prog 95 [1, 0, 1, 0, 0, 1, 1, 0, 0, 1, 1, 1, 1, 1, 1, 1, 1, 0, 0] 23), (Za prog 95 [1, 0, 1, 0, 0, 1, 1, 0, 0, 1, 1, 1, 1, 1, 1, 1, 1, 0, 0] 1), none, (Zy prog 4), Yk [(8, (.ptr 3 0)), (9, (.fn 127 [(.ptr 0 0), (.ptr 1 0), (.ptr 2 0)])), (10, (.ptr 4 0)), (11, (.ptr 5 0)), (153, (.bool false)), (154, (.fn 127 [(.ptr 0 0), (.ptr 1 0), (.ptr 2 0)])), (162, (.agg [(ii bB), (ii cA), (ii aR)])), (163, (.agg [(ii bE), (ii bQ), (ii bG)]))]⟩], .leaf⟩
 | .h5 bB cA bE bZ dK aE bD => ⟨⟨38, 0, true⟩, none, (Za prog 127 [] 0), none, (Zy prog 127), ⟨Yk [(0, (.agg [(ii bB), (ii cA), (ii aR)])), (1, (.agg [(ii bE), (ii bZ), (ii dK)])), (2, (.ptr 0 0)), (3, (.ptr 1 0)), (4, (.ptr 2 0))], Vn [⟨[(.dat l1.length (Zz l1))], 22, none⟩, ⟨[(ii aE)], 3, none⟩, ⟨[(ii x2)], 3, none⟩, ⟨[(ii bB), (ii cA), (ii dK), (ii bE), (ii bZ), (ii bD)], 68, none⟩, ⟨[(ii bB), (ii cA), (ii aR)], 65, none⟩, ⟨[(ii bE), (ii bZ), (ii bG)], 65, none⟩] 0, 6, [], true⟩, [⟨⟨200, 0, true⟩, (Vk prog 95 [1, 0, 1, 0, 0, 1, 1, 0, 0, 1, 1, 1, 1, 1, 1, 1, 1, 1, 1, 0] 10), (Za prog 95 [1, 0, 1, 0, 0, 1, 1, 0, 0, 1, 1, 1, 1, 1, 1, 1, 1, 1, 1, 0] 1), none, (Zy prog 4), Yk [(8, (.ptr 3 0)), (9, (.fn 127 [(.ptr 0 0), (.ptr 1 0), (.ptr 2 0)])), (10, (.ptr 4 0)), (11, (.ptr 5 0)), (175, (.fn 127 [(.ptr 0 0), (.ptr 1 0), (.ptr 2 0)])), (176, (.agg [(ii bB), (ii cA), (ii aR)])), (184, (.agg [(ii bE), (ii bZ), (ii dK)]))]⟩], .leaf⟩
 | .h6 bB cA dL bE bZ aE => ⟨⟨38, 0, true⟩, none, (Za prog 127 [] 0), none, (Zy prog 127), ⟨Yk [(0, (.agg [(ii bB), (ii cA), (ii dL)])), (1, (.agg [(ii bE), (ii bZ), (ii bG)])), (2, (.ptr 0 0)), (3, (.ptr 1 0)), (4, (.ptr 2 0))], Vn [⟨[(.dat l1.length (Zz l1))], 22, none⟩, ⟨[(ii aE)], 3, none⟩, ⟨[(ii x2)], 3, none⟩] 0, 3, [], true⟩, [⟨⟨200, 0, true⟩, (Vk prog 95 [1, 0, 1, 0, 0, 1, 1, 0, 0, 1, 1, 1, 1, 1, 1, 1, 1, 1, 1, 0] 22), (Za prog 95 [1, 0, 1, 0, 0, 1, 1, 0, 0, 1, 1, 1, 1, 1, 1, 1, 1, 1, 1, 0] 1), none, (Zy prog 4), Yk [(186, (.bool true)), (187, (.fn 127 [(.ptr 0 0), (.ptr 1 0), (.ptr 2 0)])), (195, (.agg [(ii bB), (ii cA), (ii dL)])), (196, (.agg [(ii bE), (ii bZ), (ii bG)]))]⟩], .leaf⟩
def w7x : List (Option (List Nat)) := [some [3, 4, 5, 12, 13, 14]]
def w8d : List (Option (List Nat)) := []
def cvdN1 : List (Option (List Nat)) := [some [0, 1, 2, 3, 4], some [8, 9, 10, 11, 107, 108, 116]]
def cvdM1 : List (Option (List Nat)) := []
def w7w : List (Option (List Nat)) := [some [0, 1, 2, 3, 4], some [8, 9, 10, 11, 119, 120, 128, 129]]
def w8c : List (Option (List Nat)) := []
def w7v : List (Option (List Nat)) := [some [0, 1, 2, 3, 4], some [8, 9, 10, 11, 141, 142, 150]]
def w8b : List (Option (List Nat)) := []
def w7u : List (Option (List Nat)) := [some [0, 1, 2, 3, 4], some [8, 9, 10, 11, 153, 154, 162, 163]]
def w8a : List (Option (List Nat)) := []
def w7t : List (Option (List Nat)) := [some [0, 1, 2, 3, 4], some [8, 9, 10, 11, 175, 176, 184]]
def w7z : List (Option (List Nat)) := []
def w7s : List (Option (List Nat)) := [some [0, 1, 2, 3, 4], some [186, 187, 195, 196]]
def w7y : List (Option (List Nat)) := []
def Wn (q : Nat) (aZ : Int) (aU : Int) (aR : Int) (bF : Int) (bQ : Int) (bG : Int) (l1 : List R6) (x2 : Int) : cvdS → Xn cvdS
 | .h0 v14 => (bif (decide (v14 < (l1.length : Int))) then (bif ((decide (0 ≤ v14 ∧ v14 < (l1.length : Int))) && true) then (bif (decide ((Wg (IntKind.wrap .i64 ((rd l1 v14.toNat).a - x2)) aZ) ≥ (Uw (IntKind.wrap .i64 ((rd l1 v14.toNat).d + x2)) bF))) then (.to (.h0 (IntKind.wrap .i64 (v14 + 1)))) else (bif (decide ((Wg (IntKind.wrap .i64 ((rd l1 v14.toNat).b - x2)) aU) ≥ (Uw (IntKind.wrap .i64 ((rd l1 v14.toNat).e + x2)) bQ))) then (.to (.h0 (IntKind.wrap .i64 (v14 + 1)))) else (bif (decide ((Wg (IntKind.wrap .i64 ((rd l1 v14.toNat).c - x2)) aR) ≥ (Uw (IntKind.wrap .i64 ((rd l1 v14.toNat).f + x2)) bG))) then (.to (.h0 (IntKind.wrap .i64 (v14 + 1)))) else (.to (.h1 (Wg (IntKind.wrap .i64 ((rd l1 v14.toNat).a - x2)) aZ) (Wg (IntKind.wrap .i64 ((rd l1 v14.toNat).a - x2)) aZ) v14 (Wg (IntKind.wrap .i64 ((rd l1 v14.toNat).a - x2)) aZ) (Wg (IntKind.wrap .i64 ((rd l1 v14.toNat).b - x2)) aU) (Wg (IntKind.wrap .i64 ((rd l1 v14.toNat).c - x2)) aR) (Uw (IntKind.wrap .i64 ((rd l1 v14.toNat).d + x2)) bF) (Uw (IntKind.wrap .i64 ((rd l1 v14.toNat).e + x2)) bQ) (Uw (IntKind.wrap .i64 ((rd l1 v14.toNat).f + x2)) bG)))))) else .stuck) else (.ret [(.bool false)]))
 | .h1 bE dB aE aB bX bN cV bW bD => (bif (decide (aZ ≥ bE)) then (.to (.h2 cV aE aB bX bN bW bD)) else (bif (decide (aU ≥ bQ)) then (.to (.h2 cV aE aB bX bN bW bD)) else (bif (decide (aR ≥ bG)) then (.to (.h2 cV aE aB bX bN bW bD)) else (bif (decide ((Int.toNat (IntKind.wrap .i64 (aE + 1))) ≤ l1.length)) then (bif (decide (l1.length ≤ l1.length)) then (bif (decide (0 ≤ (IntKind.wrap .i64 (aE + 1)))) then (bif (Vv q aZ aU aR bE bQ bG (lst R6 (l1.length - (Int.toNat (IntKind.wrap .i64 (aE + 1)))) (fun k => (Zz l1) ((Int.toNat (IntKind.wrap .i64 (aE + 1))) + k))) x2) then (bif (!(x7m aZ aU aR bE bQ bG (lst R6 (l1.length - (Int.toNat (IntKind.wrap .i64 (aE + 1)))) (fun k => (Zz l1) ((Int.toNat (IntKind.wrap .i64 (aE + 1))) + k))) x2)) then (.ret [(.bool false)]) else (.to (.h2 cV aE aB bX bN bW bD))) else .stuck) else .stuck) else .stuck) else .stuck))))
 | .h2 bB aE aB bX bN bW bD => (bif (decide (bB ≥ bF)) then (.to (.h3 aB bB bX aE bN bW bD)) else (bif (decide (aU ≥ bQ)) then (.to (.h3 aB bB bX aE bN bW bD)) else (bif (decide (aR ≥ bG)) then (.to (.h3 aB bB bX aE bN bW bD)) else (bif (decide ((Int.toNat (IntKind.wrap .i64 (aE + 1))) ≤ l1.length)) then (bif (decide (l1.length ≤ l1.length)) then (bif (decide (0 ≤ (IntKind.wrap .i64 (aE + 1)))) then (bif (Vv q bB aU aR bF bQ bG (lst R6 (l1.length - (Int.toNat (IntKind.wrap .i64 (aE + 1)))) (fun k => (Zz l1) ((Int.toNat (IntKind.wrap .i64 (aE + 1))) + k))) x2) then (bif (!(x7m bB aU aR bF bQ bG (lst R6 (l1.length - (Int.toNat (IntKind.wrap .i64 (aE + 1)))) (fun k => (Zz l1) ((Int.toNat (IntKind.wrap .i64 (aE + 1))) + k))) x2)) then (.ret [(.bool false)]) else (.to (.h3 aB bB bX aE bN bW bD))) else .stuck) else .stuck) else .stuck) else .stuck))))
 | .h3 bB bE bZ aE bN bW bD => (bif (decide (bB ≥ bE)) then (.to (.h4 bB bW bE aE bZ bN bD)) else (bif (decide (aU ≥ bZ)) then (.to (.h4 bB bW bE aE bZ bN bD)) else (bif (decide (aR ≥ bG)) then (.to (.h4 bB bW bE aE bZ bN bD)) else (bif (decide ((Int.toNat (IntKind.wrap .i64 (aE + 1))) ≤ l1.length)) then (bif (decide (l1.length ≤ l1.length)) then (bif (decide (0 ≤ (IntKind.wrap .i64 (aE + 1)))) then (bif (Vv q bB aU aR bE bZ bG (lst R6 (l1.length - (Int.toNat (IntKind.wrap .i64 (aE + 1)))) (fun k => (Zz l1) ((Int.toNat (IntKind.wrap .i64 (aE + 1))) + k))) x2) then (bif (!(x7m bB aU aR bE bZ bG (lst R6 (l1.length - (Int.toNat (IntKind.wrap .i64 (aE + 1)))) (fun k => (Zz l1) ((Int.toNat (IntKind.wrap .i64 (aE + 1))) + k))) x2)) then (.ret [(.bool false)]) else (.to (.h4 bB bW bE aE bZ bN bD))) else .stuck) else .stuck) else .stuck) else .stuck))))
 | .h4 bB cA bE aE bX bN bD => (bif (decide (bB ≥ bE)) then (.to (.h5 bB bX bE cA bN aE bD)) else (bif (decide (cA ≥ bQ)) then (.to (.h5 bB bX bE cA bN aE bD)) else (bif (decide (aR ≥ bG)) then (.to (.h5 bB bX bE cA bN aE bD)) else (bif (decide ((Int.toNat (IntKind.wrap .i64 (aE + 1))) ≤ l1.length)) then (bif (decide (l1.length ≤ l1.length)) then (bif (decide (0 ≤ (IntKind.wrap .i64 (aE + 1)))) then (bif (Vv q bB cA aR bE bQ bG (lst R6 (l1.length - (Int.toNat (IntKind.wrap .i64 (aE + 1)))) (fun k => (Zz l1) ((Int.toNat (IntKind.wrap .i64 (aE + 1))) + k))) x2) then (bif (!(x7m bB cA aR bE bQ bG (lst R6 (l1.length - (Int.toNat (IntKind.wrap .i64 (aE + 1)))) (fun k => (Zz l1) ((Int.toNat (IntKind.wrap .i64 (aE + 1))) + k))) x2)) then (.ret [(.bool false)]) else (.to (.h5 bB bX bE cA bN aE bD))) else .stuck) else .stuck) else .stuck) else .stuck))))
 | .h5 bB cA bE bZ dK aE bD => (bif (decide (bB ≥ bE)) then (.to (.h6 bB cA bD bE bZ aE)) else (bif (decide (cA ≥ bZ)) then (.to (.h6 bB cA bD bE bZ aE)) else (bif (decide (aR ≥ dK)) then (.to (.h6 bB cA bD bE bZ aE)) else (bif (decide ((Int.toNat (IntKind.wrap .i64 (aE + 1))) ≤ l1.length)) then (bif (decide (l1.length ≤ l1.length)) then (bif (decide (0 ≤ (IntKind.wrap .i64 (aE + 1)))) then (bif (Vv q bB cA aR bE bZ dK (lst R6 (l1.length - (Int.toNat (IntKind.wrap .i64 (aE + 1)))) (fun k => (Zz l1) ((Int.toNat (IntKind.wrap .i64 (aE + 1))) + k))) x2) then (bif (x7m bB cA aR bE bZ dK (lst R6 (l1.length - (Int.toNat (IntKind.wrap .i64 (aE + 1)))) (fun k => (Zz l1) ((Int.toNat (IntKind.wrap .i64 (aE + 1))) + k))) x2) then (.to (.h6 bB cA bD bE bZ aE)) else (.ret [(.bool false)])) else .stuck) else .stuck) else .stuck) else .stuck))))
 | .h6 bB cA dL bE bZ aE => (bif (decide (bB ≥ bE)) then (.ret [(.bool true)]) else (bif (decide (cA ≥ bZ)) then (.ret [(.bool true)]) else (bif (decide (dL ≥ bG)) then (.ret [(.bool true)]) else (bif (decide ((Int.toNat (IntKind.wrap .i64 (aE + 1))) ≤ l1.length)) then (bif (decide (l1.length ≤ l1.length)) then (bif (decide (0 ≤ (IntKind.wrap .i64 (aE + 1)))) then (bif (Vv q bB cA dL bE bZ bG (lst R6 (l1.length - (Int.toNat (IntKind.wrap .i64 (aE + 1)))) (fun k => (Zz l1) ((Int.toNat (IntKind.wrap .i64 (aE + 1))) + k))) x2) then (.ret [(.bool (x7m bB cA dL bE bZ bG (lst R6 (l1.length - (Int.toNat (IntKind.wrap .i64 (aE + 1)))) (fun k => (Zz l1) ((Int.toNat (IntKind.wrap .i64 (aE + 1))) + k))) x2))]) else .stuck) else .stuck) else .stuck) else .stuck))))
def y4k (aZ : Int) (aU : Int) (aR : Int) (bF : Int) (bQ : Int) (bG : Int) (l1 : List R6) (x2 : Int) : Xn cvdS := (.to (.h0 0))
theorem x6u {q : Nat} (hq : Zu prog (Tcv q)) (aZ : Int) (aU : Int) (aR : Int) (bF : Int) (bQ : Int) (bG : Int) (l1 : List R6) (x2 : Int) : ∀ s, Ww prog (Zy prog 95) (cvdC aZ aU aR bF bQ bG l1 x2) (cvdC aZ aU aR bF bQ bG l1 x2 s) (Wn q aZ aU aR bF bQ bG l1 x2 s)
 | .h0 v14 => (lb (fun k0 => (lo fun aH => (lb (fun k1 => (sl hq 121 [] ⟨[0, 1, 2], [], w7x, w8d⟩ ⟨[], [], []⟩ (trs 16 []) (tt k1 (ww aH (tt k0 nn))))) (fun k1 => (lb (fun k2 => (sl hq 121 [] ⟨[0, 1, 2], [], w7x, w8d⟩ ⟨[], [], []⟩ [true, false, false, false, false, false, false, false, true, true, true, true, true, true, true, true] (tt k2 (tt k1 (ww aH (tt k0 nn)))))) (fun k2 => (lb (fun k3 => (sl hq 121 [] ⟨[0, 1, 2], [], w7x, w8d⟩ ⟨[], [], []⟩ [true, false, false, false, false, false, false, false, false, false, false, false, false, false, false, true] (tt k3 (tt k2 (tt k1 (ww aH (tt k0 nn))))))) (fun k3 => (sl hq 137 [] ⟨[1, 3, 2, 4, 5, 6], [], cvdN1, cvdM1⟩ ⟨[], [], []⟩ [true, false, false, false, false, false, false, false, false, false, false, false, false, false, false, false] (tt k3 (tt k2 (tt k1 (ww aH (tt k0 nn)))))))))))))) (fun k0 => (lr 200 3 [1, 1, 1, 1, 1, 1, 0] 1 4 [(6, (.bool false))] (sl hq 11 [] ⟨[], [], [some [6]], []⟩ ⟨[], [], []⟩ [false] (tt k0 nn)))))
 | .h1 bE dB aE aB bX bN cV bW bD => (lb (fun k0 => (sl hq 22 [] ⟨(List.range 6), [], w7w, w8c⟩ ⟨[], [], []⟩ (trs 19 [false, false, false, false, false, false, false, false, false, false, false]) (tt k0 nn))) (fun k0 => (lb (fun k1 => (sl hq 22 [] ⟨(List.range 6), [], w7w, w8c⟩ ⟨[], [], []⟩ [false, false, false, false, false, true, true, true, true, true, true, true, true, true, true, true, true, true, true, false, false, false, false, false, false, false, false, false, false, false] (tt k1 (tt k0 nn)))) (fun k1 => (lb (fun k2 => (sl hq 22 [] ⟨(List.range 6), [], w7w, w8c⟩ ⟨[], [], []⟩ [false, false, false, false, false, false, false, false, false, false, true, true, true, true, true, true, true, true, true, false, false, false, false, false, false, false, false, false, false, false] (tt k2 (tt k1 (tt k0 nn))))) (fun k2 => (lo fun cP => (lo fun dN => (lo fun dC => (lo fun dI => (lb (fun k3 => (lr 200 95 [1, 0, 1, 0, 0, 1, 1, 0, 0, 1, 1, 1, 1, 1, 1, 0, 1, 0, 0] 1 4 [(6, (.bool false))] (sl hq 30 [] ⟨[], [], [some [6]], []⟩ ⟨[], [], []⟩ [false, false, false, false, false, false, false, false, false, false, false, false, false, false, false, false, false, false, false, true, true, true, true, true, true, true, true, true, true, true, true, true] (tt k3 (pp (pp (xI R6 (l1.length - (tn (wr (aE + 1)))) (fun k => (Zz l1) ((tn (wr (aE + 1))) + k))) (xw dI)) (pp (pp nn (pp (xw dC) (pp (xG (decide (l1.length ≤ l1.length))) (pp (xG (decide ((tn (wr (aE + 1))) ≤ l1.length))) (xG (x5v l1.length (Zz l1) 6)))))) (tt k2 (tt k1 (tt k0 nn))))))))) (fun k3 => (sl hq 22 [] ⟨(List.range 6), [], w7w, w8c⟩ ⟨[], [], []⟩ [false, false, false, false, false, false, false, false, false, false, false, false, false, false, false, false, false, false, false, false, false, false, false, false, false, false, false, false, false, false] (tt k3 (pp (pp (xI R6 (l1.length - (tn (wr (aE + 1)))) (fun k => (Zz l1) ((tn (wr (aE + 1))) + k))) (xw dI)) (pp (pp nn (pp (xw dC) (pp (xG (decide (l1.length ≤ l1.length))) (pp (xG (decide ((tn (wr (aE + 1))) ≤ l1.length))) (xG (x5v l1.length (Zz l1) 6)))))) (tt k2 (tt k1 (tt k0 nn)))))))))))))))))))
 | .h2 bB aE aB bX bN bW bD => (lb (fun k0 => (sl hq 30 [] ⟨(List.range 6), [], w7v, w8b⟩ ⟨[], [], []⟩ (trs 19 [false, false]) (tt k0 nn))) (fun k0 => (lb (fun k1 => (sl hq 30 [] ⟨(List.range 6), [], w7v, w8b⟩ ⟨[], [], []⟩ [false, false, false, false, false, true, true, true, true, true, true, true, true, true, true, true, true, true, true, false, false] (tt k1 (tt k0 nn)))) (fun k1 => (lb (fun k2 => (sl hq 30 [] ⟨(List.range 6), [], w7v, w8b⟩ ⟨[], [], []⟩ [false, false, false, false, false, false, false, false, false, false, true, true, true, true, true, true, true, true, true, false, false] (tt k2 (tt k1 (tt k0 nn))))) (fun k2 => (lo fun cP => (lo fun dN => (lo fun dC => (lo fun dI => (lb (fun k3 => (lr 200 95 [1, 0, 1, 0, 0, 1, 1, 0, 0, 1, 1, 1, 1, 1, 1, 0, 1, 0, 0] 1 4 [(6, (.bool false))] (sl hq 17 [] ⟨[], [], [some [6]], []⟩ ⟨[], [], []⟩ [false, false, false, false, false, false, false, false, false, false, false, false, false, false, false, false, false, false, false, false, true] (tt k3 (pp (pp (xI R6 (l1.length - (tn (wr (aE + 1)))) (fun k => (Zz l1) ((tn (wr (aE + 1))) + k))) (xw dI)) (pp (pp nn (pp (xw dC) (pp (xG (decide (l1.length ≤ l1.length))) (pp (xG (decide ((tn (wr (aE + 1))) ≤ l1.length))) (xG (x5v l1.length (Zz l1) 6)))))) (tt k2 (tt k1 (tt k0 nn))))))))) (fun k3 => (sl hq 30 [] ⟨(List.range 6), [], w7v, w8b⟩ ⟨[], [], []⟩ [false, false, false, false, false, false, false, false, false, false, false, false, false, false, false, false, false, false, false, false, false] (tt k3 (pp (pp (xI R6 (l1.length - (tn (wr (aE + 1)))) (fun k => (Zz l1) ((tn (wr (aE + 1))) + k))) (xw dI)) (pp (pp nn (pp (xw dC) (pp (xG (decide (l1.length ≤ l1.length))) (pp (xG (decide ((tn (wr (aE + 1))) ≤ l1.length))) (xG (x5v l1.length (Zz l1) 6)))))) (tt k2 (tt k1 (tt k0 nn)))))))))))))))))))
 | .h3 bB bE bZ aE bN bW bD => (lb (fun k0 => (sl hq 22 [] ⟨(List.range 6), [], w7u, w8a⟩ ⟨[], [], []⟩ (trs 19 [false, false, false, false, false, false, false, false, false, false, false]) (tt k0 nn))) (fun k0 => (lb (fun k1 => (sl hq 22 [] ⟨(List.range 6), [], w7u, w8a⟩ ⟨[], [], []⟩ [false, false, false, false, false, true, true, true, true, true, true, true, true, true, true, true, true, true, true, false, false, false, false, false, false, false, false, false, false, false] (tt k1 (tt k0 nn)))) (fun k1 => (lb (fun k2 => (sl hq 22 [] ⟨(List.range 6), [], w7u, w8a⟩ ⟨[], [], []⟩ [false, false, false, false, false, false, false, false, false, false, true, true, true, true, true, true, true, true, true, false, false, false, false, false, false, false, false, false, false, false] (tt k2 (tt k1 (tt k0 nn))))) (fun k2 => (lo fun cP => (lo fun dN => (lo fun dC => (lo fun dI => (lb (fun k3 => (lr 200 95 [1, 0, 1, 0, 0, 1, 1, 0, 0, 1, 1, 1, 1, 1, 1, 1, 1, 0, 1, 0, 0] 1 4 [(6, (.bool false))] (sl hq 30 [] ⟨[], [], [some [6]], []⟩ ⟨[], [], []⟩ [false, false, false, false, false, false, false, false, false, false, false, false, false, false, false, false, false, false, false, true, true, true, true, true, true, true, true, true, true, true, true, true] (tt k3 (pp (pp (xI R6 (l1.length - (tn (wr (aE + 1)))) (fun k => (Zz l1) ((tn (wr (aE + 1))) + k))) (xw dI)) (pp (pp nn (pp (xw dC) (pp (xG (decide (l1.length ≤ l1.length))) (pp (xG (decide ((tn (wr (aE + 1))) ≤ l1.length))) (xG (x5v l1.length (Zz l1) 6)))))) (tt k2 (tt k1 (tt k0 nn))))))))) (fun k3 => (sl hq 22 [] ⟨(List.range 6), [], w7u, w8a⟩ ⟨[], [], []⟩ [false, false, false, false, false, false, false, false, false, false, false, false, false, false, false, false, false, false, false, false, false, false, false, false, false, false, false, false, false, false] (tt k3 (pp (pp (xI R6 (l1.length - (tn (wr (aE + 1)))) (fun k => (Zz l1) ((tn (wr (aE + 1))) + k))) (xw dI)) (pp (pp nn (pp (xw dC) (pp (xG (decide (l1.length ≤ l1.length))) (pp (xG (decide ((tn (wr (aE + 1))) ≤ l1.length))) (xG (x5v l1.length (Zz l1) 6)))))) (tt k2 (tt k1 (tt k0 nn)))))))))))))))))))
 | .h4 bB cA bE aE bX bN bD => (lb (fun k0 => (sl hq 29 [] ⟨(List.range 6), [], w7t, w7z⟩ ⟨[], [], []⟩ (trs 19 [false, false]) (tt k0 nn))) (fun k0 => (lb (fun k1 => (sl hq 29 [] ⟨(List.range 6), [], w7t, w7z⟩ ⟨[], [], []⟩ [false, false, false, false, false, true, true, true, true, true, true, true, true, true, true, true, true, true, true, false, false] (tt k1 (tt k0 nn)))) (fun k1 => (lb (fun k2 => (sl hq 29 [] ⟨(List.range 6), [], w7t, w7z⟩ ⟨[], [], []⟩ [false, false, false, false, false, false, false, false, false, false, true, true, true, true, true, true, true, true, true, false, false] (tt k2 (tt k1 (tt k0 nn))))) (fun k2 => (lo fun cP => (lo fun dN => (lo fun dC => (lo fun dI => (lb (fun k3 => (lr 200 95 [1, 0, 1, 0, 0, 1, 1, 0, 0, 1, 1, 1, 1, 1, 1, 1, 1, 0, 1, 0, 0] 1 4 [(6, (.bool false))] (sl hq 17 [] ⟨[], [], [some [6]], []⟩ ⟨[], [], []⟩ [false, false, false, false, false, false, false, false, false, false, false, false, false, false, false, false, false, false, false, false, true] (tt k3 (pp (pp (xI R6 (l1.length - (tn (wr (aE + 1)))) (fun k => (Zz l1) ((tn (wr (aE + 1))) + k))) (xw dI)) (pp (pp nn (pp (xw dC) (pp (xG (decide (l1.length ≤ l1.length))) (pp (xG (decide ((tn (wr (aE + 1))) ≤ l1.length))) (xG (x5v l1.length (Zz l1) 6)))))) (tt k2 (tt k1 (tt k0 nn))))))))) (fun k3 => (sl hq 29 [] ⟨(List.range 6), [], w7t, w7z⟩ ⟨[], [], []⟩ [false, false, false, false, false, false, false, false, false, false, false, false, false, false, false, false, false, false, false, false, false] (tt k3 (pp (pp (xI R6 (l1.length - (tn (wr (aE + 1)))) (fun k => (Zz l1) ((tn (wr (aE + 1))) + k))) (xw dI)) (pp (pp nn (pp (xw dC) (pp (xG (decide (l1.length ≤ l1.length))) (pp (xG (decide ((tn (wr (aE + 1))) ≤ l1.length))) (xG (x5v l1.length (Zz l1) 6)))))) (tt k2 (tt k1 (tt k0 nn)))))))))))))))))))
 | .h5 bB cA bE bZ dK aE bD => (lb (fun k0 => (sl hq 21 [] ⟨[0, 1, 2], [], w7s, w7y⟩ ⟨[], [], []⟩ (trs 30 []) (tt k0 nn))) (fun k0 => (lb (fun k1 => (sl hq 21 [] ⟨[0, 1, 2], [], w7s, w7y⟩ ⟨[], [], []⟩ [false, false, false, false, false, true, true, true, true, true, true, true, true, true, true, true, true, true, true, true, true, true, true, true, true, true, true, true, true, true] (tt k1 (tt k0 nn)))) (fun k1 => (lb (fun k2 => (sl hq 21 [] ⟨[0, 1, 2], [], w7s, w7y⟩ ⟨[], [], []⟩ [false, false, false, false, false, false, false, false, false, false, true, true, true, true, true, true, true, true, true, true, true, true, true, true, true, true, true, true, true, true] (tt k2 (tt k1 (tt k0 nn))))) (fun k2 => (lo fun cP => (lo fun dN => (lo fun dC => (lo fun dI => (lb (fun k3 => (sl hq 21 [] ⟨[0, 1, 2], [], w7s, w7y⟩ ⟨[], [], []⟩ [false, false, false, false, false, false, false, false, false, false, false, false, false, false, false, false, false, false, false, true, true, true, true, true, true, true, true, true, true, true] (tt k3 (pp (pp (xI R6 (l1.length - (tn (wr (aE + 1)))) (fun k => (Zz l1) ((tn (wr (aE + 1))) + k))) (xw dI)) (pp (pp nn (pp (xw dC) (pp (xG (decide (l1.length ≤ l1.length))) (pp (xG (decide ((tn (wr (aE + 1))) ≤ l1.length))) (xG (x5v l1.length (Zz l1) 6)))))) (tt k2 (tt k1 (tt k0 nn)))))))) (fun k3 => (lr 200 95 [1, 0, 1, 0, 0, 1, 1, 0, 0, 1, 1, 1, 1, 1, 1, 1, 1, 1, 1, 0] 1 4 [(6, (.bool false))] (sl hq 24 [] ⟨[], [], [some [6]], []⟩ ⟨[], [], []⟩ [false, false, false, false, false, false, false, false, false, false, false, false, false, false, false, false, false, false, false, false, false, false, false, false, false, false, false, false, false, false] (tt k3 (pp (pp (xI R6 (l1.length - (tn (wr (aE + 1)))) (fun k => (Zz l1) ((tn (wr (aE + 1))) + k))) (xw dI)) (pp (pp nn (pp (xw dC) (pp (xG (decide (l1.length ≤ l1.length))) (pp (xG (decide ((tn (wr (aE + 1))) ≤ l1.length))) (xG (x5v l1.length (Zz l1) 6)))))) (tt k2 (tt k1 (tt k0 nn))))))))))))))))))))
 | .h6 bB cA dL bE bZ aE => (lb (fun k0 => (lr 200 95 [1, 0, 1, 0, 0, 1, 1, 0, 0, 1, 1, 1, 1, 1, 1, 1, 1, 1, 1, 0] 1 4 [(6, (.bool true))] (sl hq 12 [] ⟨[], [], [some [6]], []⟩ ⟨[], [], []⟩ (trs 19 []) (tt k0 nn)))) (fun k0 => (lb (fun k1 => (lr 200 95 [1, 0, 1, 0, 0, 1, 1, 0, 0, 1, 1, 1, 1, 1, 1, 1, 1, 1, 1, 0] 1 4 [(6, (.bool true))] (sl hq 12 [] ⟨[], [], [some [6]], []⟩ ⟨[], [], []⟩ [false, false, false, false, false, true, true, true, true, true, true, true, true, true, true, true, true, true, true] (tt k1 (tt k0 nn))))) (fun k1 => (lb (fun k2 => (lr 200 95 [1, 0, 1, 0, 0, 1, 1, 0, 0, 1, 1, 1, 1, 1, 1, 1, 1, 1, 1, 0] 1 4 [(6, (.bool true))] (sl hq 12 [] ⟨[], [], [some [6]], []⟩ ⟨[], [], []⟩ [false, false, false, false, false, false, false, false, false, false, true, true, true, true, true, true, true, true, true] (tt k2 (tt k1 (tt k0 nn)))))) (fun k2 => (lo fun o0 => (lo fun o1 => (lo fun o2 => (lo fun o3 => (lr 200 95 [1, 0, 1, 0, 0, 1, 1, 0, 0, 1, 1, 1, 1, 1, 1, 1, 1, 1, 1, 0] 1 4 [(6, (.bool (x7m bB cA dL bE bZ bG (lst R6 (l1.length - (tn (wr (aE + 1)))) (fun k => (Zz l1) ((tn (wr (aE + 1))) + k))) x2)))] (sl hq 12 [] ⟨[], [], [some [6]], []⟩ ⟨[], [], []⟩ [false, false, false, false, false, false, false, false, false, false, false, false, false, false, false, false, false, false, false] (pp (pp (xI R6 (l1.length - (tn (wr (aE + 1)))) (fun k => (Zz l1) ((tn (wr (aE + 1))) + k))) (xw o3)) (pp (pp nn (pp (xw o2) (pp (xG (decide (l1.length ≤ l1.length))) (pp (xG (decide ((tn (wr (aE + 1))) ≤ l1.length))) (xG (x5v l1.length (Zz l1) 6)))))) (tt k2 (tt k1 (tt k0 nn)))))))))))))))))
theorem x1i {q : Nat} (hq : Zu prog (Tcv q)) (aZ : Int) (aU : Int) (aR : Int) (bF : Int) (bQ : Int) (bG : Int) (l1 : List R6) (x2 : Int) : Ww prog (Zy prog 95) (cvdC aZ aU aR bF bQ bG l1 x2) (Zn prog 95 [(.agg [(.int .i64 aZ), (.int .i64 aU), (.int .i64 aR), (.int .i64 bF), (.int .i64 bQ), (.int .i64 bG)]), (.dat l1.length (Zz l1)), (.int .i64 x2)] true []) (y4k aZ aU aR bF bQ bG l1 x2) := (sl hq 16 [] ⟨[0, 1, 2], [], w7x, w8d⟩ ⟨[], [], []⟩ [] nn)
theorem w7r {q : Nat} (hq : Zu prog (Tcv q)) (aZ : Int) (aU : Int) (aR : Int) (bF : Int) (bQ : Int) (bG : Int) (l1 : List R6) (x2 : Int) (n : Nat) (vs : List AVal) (h : Yv (Wn q aZ aU aR bF bQ bG l1 x2) n (y4k aZ aU aR bF bQ bG l1 x2) = .ret vs) : Kz prog (Zy prog 95) (Zn prog 95 [(.agg [(.int .i64 aZ), (.int .i64 aU), (.int .i64 aR), (.int .i64 bF), (.int .i64 bQ), (.int .i64 bG)]), (.dat l1.length (Zz l1)), (.int .i64 x2)] true []) vs := by
 have := Zr (x6u hq aZ aU aR bF bQ bG l1 x2) n _ (x1i hq aZ aU aR bF bQ bG l1 x2)
 rwa [h] at this
end Go.Am
namespace Go.Am
open Go.Proofs.Tryz
open Go.Proofs
def cvq (x : Int) (L : List R6) (i : Nat) (p : R6) : Bool := z4w p || covB x (L.drop (i + 1)) p
theorem y2w {x : Int} {L : List R6} {i : Nat} {a b c d e f : Int} : cvq x L i ⟨a, b, c, d, e, f⟩ = bif decide (a ≥ d) then true else bif decide (b ≥ e) then true else bif decide (c ≥ f) then true else x7m a b c d e f (L.drop (i + 1)) x := by
 unfold cvq z4w x7m
 cases decide (a ≥ d) <;> cases decide (b ≥ e) <;> cases decide (c ≥ f) <;> rfl
theorem cvo {q : Nat} {L : List R6} (hL : L.length ≤ q) (hl : L.length ≤ 100000) {i : Nat} (hi : i < L.length) (a b c d e f x : Int) : Vv q a b c d e f (L.drop (i + 1)) x = true := by
 unfold Vv
 rw [List.length_drop, Yw (by omega), Yz (by omega)]; rfl
theorem cv_fin {σ : Type} {step : σ → Xn σ} {N : Nat} {s : σ} {W t1 t2 t3 V : Bool} (h : Yv step N (.to s) = .ret [.bool W]) :
  Yv step N (bif t1 then .to s else bif t2 then .to s else bif t3 then .to s else bif V then .to s else .ret [.bool false]) = .ret [.bool ((bif t1 then true else bif t2 then true else bif t3 then true else V) && W)] := by
 cases t1 <;> cases t2 <;> cases t3 <;> cases V <;> first | exact Zm _ _ _ | (simp only [cond_true, cond_false, Bool.true_and]; exact h)
theorem y4l {σ : Type} {step : σ → Xn σ} {N : Nat} {s : σ} {W t1 t2 t3 V : Bool} (h : Yv step N (.to s) = .ret [.bool W]) :
  Yv step N (bif t1 then .to s else bif t2 then .to s else bif t3 then .to s else bif !V then .ret [.bool false] else .to s) = .ret [.bool ((bif t1 then true else bif t2 then true else bif t3 then true else V) && W)] := by
 cases t1 <;> cases t2 <;> cases t3 <;> cases V <;> first | exact Zm _ _ _ | (simp only [Bool.not_true, Bool.not_false, cond_true, cond_false, Bool.true_and]; exact h)
theorem cv_or {α : Type} {t1 t2 t3 : Bool} {a b : α} : (bif t1 then a else bif t2 then a else bif t3 then a else b) = bif (t1 || (t2 || t3)) then a else b := by
 cases t1 <;> cases t2 <;> cases t3 <;> rfl
theorem w6n {σ : Type} {step : σ → Xn σ} {N : Nat} {c : Bool} {a b : Xn σ} : Yv step N (bif c then a else b) = bif c then Yv step N a else Yv step N b := by cases c <;> rfl
theorem cvd_h6 {q : Nat} {B : R6} {L : List R6} {x : Int} (hL : L.length ≤ q) (hl : L.length ≤ 100000) {i : Nat} (hi : i < L.length) (bB cA dL bE bZ : Int) : ∃ N, Yv (Wn q B.a B.b B.c B.d B.e B.f L x) N (.to (.h6 bB cA dL bE bZ (i : Int))) = .ret [.bool (cvq x L i ⟨bB, cA, dL, bE, bZ, B.f⟩)] := by
 have hw : IntKind.wrap .i64 ((i : Int) + 1) = ((i + 1 : Nat) : Int) := Zj (by omega)
 have e1 : decide (i + 1 ≤ L.length) = true := Yz hi
 have e2 : ∀ {X Y : Xn cvdS}, (bif decide (L.length ≤ L.length) then X else Y) = X := fun {X Y} => by rw [Yz (Nat.le_refl _)]; rfl
 have e3 : ∀ {X Y : Xn cvdS}, (bif decide (0 ≤ ((i + 1 : Nat) : Int)) then X else Y) = X := fun {X Y} => by rw [Xh (by omega)]; rfl
 refine ⟨1, ?_⟩
 rw [Zv, y2w]
 simp only [Wn, hw, e2, e3, Zq, e1, z2i L (show i + 1 ≤ L.length from hi), cvo hL hl hi, cond_true]
 cases decide (bB ≥ bE) <;> cases decide (cA ≥ bZ) <;> cases decide (dL ≥ B.f) <;> rfl
theorem cvd_h5 {q : Nat} {B : R6} {L : List R6} {x : Int} (hL : L.length ≤ q) (hl : L.length ≤ 100000) {i : Nat} (hi : i < L.length) (bB cA bE bZ dK bD : Int) : ∃ N, Yv (Wn q B.a B.b B.c B.d B.e B.f L x) N (.to (.h5 bB cA bE bZ dK (i : Int) bD)) = .ret [.bool (cvq x L i ⟨bB, cA, B.c, bE, bZ, dK⟩ && (cvq x L i ⟨bB, cA, bD, bE, bZ, B.f⟩))] := by
 have hw : IntKind.wrap .i64 ((i : Int) + 1) = ((i + 1 : Nat) : Int) := Zj (by omega)
 have e1 : decide (i + 1 ≤ L.length) = true := Yz hi
 have e2 : ∀ {X Y : Xn cvdS}, (bif decide (L.length ≤ L.length) then X else Y) = X := fun {X Y} => by rw [Yz (Nat.le_refl _)]; rfl
 have e3 : ∀ {X Y : Xn cvdS}, (bif decide (0 ≤ ((i + 1 : Nat) : Int)) then X else Y) = X := fun {X Y} => by rw [Xh (by omega)]; rfl
 obtain ⟨N, hN⟩ := cvd_h6 (B := B) (x := x) hL hl hi bB cA bD bE bZ
 refine ⟨N + 1, ?_⟩
 rw [Zv, show cvq x L i ⟨bB, cA, B.c, bE, bZ, dK⟩ = _ from y2w]
 simp only [Wn, hw, e2, e3, Zq, e1, z2i L (show i + 1 ≤ L.length from hi), cvo hL hl hi, cond_true]
 exact cv_fin hN
theorem cvd_h4 {q : Nat} {B : R6} {L : List R6} {x : Int} (hL : L.length ≤ q) (hl : L.length ≤ 100000) {i : Nat} (hi : i < L.length) (bB cA bE bX bN bD : Int) : ∃ N, Yv (Wn q B.a B.b B.c B.d B.e B.f L x) N (.to (.h4 bB cA bE (i : Int) bX bN bD)) = .ret [.bool (cvq x L i ⟨bB, cA, B.c, bE, B.e, B.f⟩ && (cvq x L i ⟨bB, bX, B.c, bE, cA, bN⟩ && cvq x L i ⟨bB, bX, bD, bE, cA, B.f⟩))] := by
 have hw : IntKind.wrap .i64 ((i : Int) + 1) = ((i + 1 : Nat) : Int) := Zj (by omega)
 have e1 : decide (i + 1 ≤ L.length) = true := Yz hi
 have e2 : ∀ {X Y : Xn cvdS}, (bif decide (L.length ≤ L.length) then X else Y) = X := fun {X Y} => by rw [Yz (Nat.le_refl _)]; rfl
 have e3 : ∀ {X Y : Xn cvdS}, (bif decide (0 ≤ ((i + 1 : Nat) : Int)) then X else Y) = X := fun {X Y} => by rw [Xh (by omega)]; rfl
 obtain ⟨N, hN⟩ := cvd_h5 (B := B) (x := x) hL hl hi bB bX bE cA bN bD
 refine ⟨N + 1, ?_⟩
 rw [Zv, show cvq x L i ⟨bB, cA, B.c, bE, B.e, B.f⟩ = _ from y2w]
 simp only [Wn, hw, e2, e3, Zq, e1, z2i L (show i + 1 ≤ L.length from hi), cvo hL hl hi, cond_true]
 exact y4l hN
theorem cvd_h3 {q : Nat} {B : R6} {L : List R6} {x : Int} (hL : L.length ≤ q) (hl : L.length ≤ 100000) {i : Nat} (hi : i < L.length) (bB bE bZ bN bW bD : Int) : ∃ N, Yv (Wn q B.a B.b B.c B.d B.e B.f L x) N (.to (.h3 bB bE bZ (i : Int) bN bW bD)) = .ret [.bool (cvq x L i ⟨bB, B.b, B.c, bE, bZ, B.f⟩ && (cvq x L i ⟨bB, bW, B.c, bE, B.e, B.f⟩ && (cvq x L i ⟨bB, bZ, B.c, bE, bW, bN⟩ && cvq x L i ⟨bB, bZ, bD, bE, bW, B.f⟩)))] := by
 have hw : IntKind.wrap .i64 ((i : Int) + 1) = ((i + 1 : Nat) : Int) := Zj (by omega)
 have e1 : decide (i + 1 ≤ L.length) = true := Yz hi
 have e2 : ∀ {X Y : Xn cvdS}, (bif decide (L.length ≤ L.length) then X else Y) = X := fun {X Y} => by rw [Yz (Nat.le_refl _)]; rfl
 have e3 : ∀ {X Y : Xn cvdS}, (bif decide (0 ≤ ((i + 1 : Nat) : Int)) then X else Y) = X := fun {X Y} => by rw [Xh (by omega)]; rfl
 obtain ⟨N, hN⟩ := cvd_h4 (B := B) (x := x) hL hl hi bB bW bE bZ bN bD
 refine ⟨N + 1, ?_⟩
 rw [Zv, show cvq x L i ⟨bB, B.b, B.c, bE, bZ, B.f⟩ = _ from y2w]
 simp only [Wn, hw, e2, e3, Zq, e1, z2i L (show i + 1 ≤ L.length from hi), cvo hL hl hi, cond_true]
 exact y4l hN
theorem cvd_h2 {q : Nat} {B : R6} {L : List R6} {x : Int} (hL : L.length ≤ q) (hl : L.length ≤ 100000) {i : Nat} (hi : i < L.length) (bB aB bX bN bW bD : Int) : ∃ N, Yv (Wn q B.a B.b B.c B.d B.e B.f L x) N (.to (.h2 bB (i : Int) aB bX bN bW bD)) = .ret [.bool (cvq x L i ⟨bB, B.b, B.c, B.d, B.e, B.f⟩ && (cvq x L i ⟨aB, B.b, B.c, bB, bX, B.f⟩ && (cvq x L i ⟨aB, bW, B.c, bB, B.e, B.f⟩ && (cvq x L i ⟨aB, bX, B.c, bB, bW, bN⟩ && cvq x L i ⟨aB, bX, bD, bB, bW, B.f⟩))))] := by
 have hw : IntKind.wrap .i64 ((i : Int) + 1) = ((i + 1 : Nat) : Int) := Zj (by omega)
 have e1 : decide (i + 1 ≤ L.length) = true := Yz hi
 have e2 : ∀ {X Y : Xn cvdS}, (bif decide (L.length ≤ L.length) then X else Y) = X := fun {X Y} => by rw [Yz (Nat.le_refl _)]; rfl
 have e3 : ∀ {X Y : Xn cvdS}, (bif decide (0 ≤ ((i + 1 : Nat) : Int)) then X else Y) = X := fun {X Y} => by rw [Xh (by omega)]; rfl
 obtain ⟨N, hN⟩ := cvd_h3 (B := B) (x := x) hL hl hi aB bB bX bN bW bD
 refine ⟨N + 1, ?_⟩
 rw [Zv, show cvq x L i ⟨bB, B.b, B.c, B.d, B.e, B.f⟩ = _ from y2w]
 simp only [Wn, hw, e2, e3, Zq, e1, z2i L (show i + 1 ≤ L.length from hi), cvo hL hl hi, cond_true]
 exact y4l hN
theorem cvd_h1 {q : Nat} {B : R6} {L : List R6} {x : Int} (hL : L.length ≤ q) (hl : L.length ≤ 100000) {i : Nat} (hi : i < L.length) (bE w aB bX bN cV bW bD : Int) : ∃ N, Yv (Wn q B.a B.b B.c B.d B.e B.f L x) N (.to (.h1 bE w (i : Int) aB bX bN cV bW bD)) = .ret [.bool (cvq x L i ⟨B.a, B.b, B.c, bE, B.e, B.f⟩ && (cvq x L i ⟨cV, B.b, B.c, B.d, B.e, B.f⟩ && (cvq x L i ⟨aB, B.b, B.c, cV, bX, B.f⟩ && (cvq x L i ⟨aB, bW, B.c, cV, B.e, B.f⟩ && (cvq x L i ⟨aB, bX, B.c, cV, bW, bN⟩ && cvq x L i ⟨aB, bX, bD, cV, bW, B.f⟩)))))] := by
 have hw : IntKind.wrap .i64 ((i : Int) + 1) = ((i + 1 : Nat) : Int) := Zj (by omega)
 have e1 : decide (i + 1 ≤ L.length) = true := Yz hi
 have e2 : ∀ {X Y : Xn cvdS}, (bif decide (L.length ≤ L.length) then X else Y) = X := fun {X Y} => by rw [Yz (Nat.le_refl _)]; rfl
 have e3 : ∀ {X Y : Xn cvdS}, (bif decide (0 ≤ ((i + 1 : Nat) : Int)) then X else Y) = X := fun {X Y} => by rw [Xh (by omega)]; rfl
 obtain ⟨N, hN⟩ := cvd_h2 (B := B) (x := x) hL hl hi cV aB bX bN bW bD
 refine ⟨N + 1, ?_⟩
 rw [Zv, show cvq x L i ⟨B.a, B.b, B.c, bE, B.e, B.f⟩ = _ from y2w]
 simp only [Wn, hw, e2, e3, Zq, e1, z2i L (show i + 1 ≤ L.length from hi), cvo hL hl hi, cond_true]
 exact y4l hN
theorem v2a {q : Nat} {B : R6} {L : List R6} {x : Int} (hL : L.length ≤ q) (hl : L.length ≤ 100000) : ∀ (k i : Nat), i + k = L.length → ∃ N, Yv (Wn q B.a B.b B.c B.d B.e B.f L x) N (.to (.h0 (i : Int))) = .ret [.bool (covB x (L.drop i) B)]
 | 0, i, h => by
  refine ⟨1, ?_⟩
  rw [Zv, List.drop_eq_nil_of_le (by omega)]
  simp (disch := omega) only [Wn, Zs, cond_false]; rfl
 | k + 1, i, h => by
  have hi : i < L.length := by omega
  have hw : IntKind.wrap .i64 ((i : Int) + 1) = ((i + 1 : Nat) : Int) := Zj (by omega)
  obtain ⟨N, hN⟩ := v2a (B := B) (x := x) hL hl k (i + 1) (by omega)
  obtain ⟨M, hM⟩ := cvd_h1 (B := B) (x := x) hL hl hi (gA x (rd L i) B).a (gA x (rd L i) B).a (gA x (rd L i) B).a (gA x (rd L i) B).b (gA x (rd L i) B).c (gA x (rd L i) B).d (gA x (rd L i) B).e (gA x (rd L i) B).f
  rw [Yc hi]
  have key : ∀ K, Yv (Wn q B.a B.b B.c B.d B.e B.f L x) (K + 1) (.to (.h0 (i : Int))) = bif z4w (gA x (rd L i) B) then Yv (Wn q B.a B.b B.c B.d B.e B.f L x) K (.to (.h0 ((i + 1 : Nat) : Int))) else Yv (Wn q B.a B.b B.c B.d B.e B.f L x) K (.to (.h1 (gA x (rd L i) B).a (gA x (rd L i) B).a (i : Int) (gA x (rd L i) B).a (gA x (rd L i) B).b (gA x (rd L i) B).c (gA x (rd L i) B).d (gA x (rd L i) B).e (gA x (rd L i) B).f)) := fun K => by
   rw [Zv]
   simp (disch := omega) only [Wn, Zo, Zt, hw, Zq, Bool.and_true, cond_true]
   exact (congrArg (Yv _ K) cv_or).trans w6n
  show ∃ N, Yv _ N _ = Xn.ret [.bool (bif z4w (gA x (rd L i) B) then covB x (L.drop (i + 1)) B else (cvq x L i (v1z (gA x (rd L i) B) B)) && ((cvq x L i (v1y (gA x (rd L i) B) B)) && ((cvq x L i (w3f (gA x (rd L i) B) B)) && ((cvq x L i (w3e (gA x (rd L i) B) B)) && ((cvq x L i (x7l (gA x (rd L i) B) B)) && (cvq x L i (x7k (gA x (rd L i) B) B)))))))]
  rcases Ya (z4w (gA x (rd L i) B)) with he | he
  ·refine ⟨N + 1, ?_⟩
   rw [key, he, cond_true, cond_true]; exact hN
  ·refine ⟨M + 1, ?_⟩
   rw [key, he, cond_false, cond_false]; exact hM
theorem v7l {q : Nat} (a b c d e f : Int) (L : List R6) (x : Int) (hL : L.length ≤ q) (hl : L.length ≤ 100000) : ∃ N, Yv (Wn q a b c d e f L x) N (y4k a b c d e f L x) = .ret [.bool (x7m a b c d e f L x)] :=
 v2a (B := ⟨a, b, c, d, e, f⟩) hL hl L.length 0 (Nat.zero_add _)
theorem y7g {S : Specs} (hS : Zu prog S) {q : Nat} (hq : Zu prog (Tcv q)) (F : List AVal → Option (AVal × Bool)) (hF : ∀ args v, F args = some (v, true) → fCov (q + 1) args = some (v, true)) : Zu prog (S.with z8g F) := by
 refine z2g hS (by kernel_rfl) fun args v h => ?_
 replace h := hF args v h
 unfold fCov at h
 split at h
 ·rename_i aZ aU aR bF bQ bG a1 x2
  split at h
  ·rename_i L1 g1 n1 e1
   simp only [Option.some.injEq, Prod.mk.injEq, Bool.and_eq_true, Vv, decide_eq_true_eq] at h
   obtain ⟨rfl, ho1, hw1, hw2⟩ := h
   obtain ⟨N, hN⟩ := v7l (q := q) aZ aU aR bF bQ bG L1 x2 (by omega) hw2
   exact ⟨_, _, (.cons (.refl _) (.cons (asL_le e1 ho1) (.cons (.refl _) .nil))), rfl, w7r hq aZ aU aR bF bQ bG L1 x2 N _ hN, 3, rfl⟩
  ·cases h
 ·cases h
theorem v2l : ∀ q, Zu prog (Tcv q)
 | 0 => by
  refine z2g v7v (by kernel_rfl) fun args v h => ?_
  unfold fCov at h
  split at h
  ·split at h
   ·simp only [Option.some.injEq, Prod.mk.injEq, Bool.and_eq_true, Vv, decide_eq_true_eq] at h
    exact absurd h.2.2.1 (Nat.not_lt_zero _)
   ·cases h
  ·cases h
 | q + 1 => y7g v7v (v2l q) _ fun _ _ h => h
def cvdV (a b c d e f : Int) (L : List R6) (x : Int) : Bool := x7m a b c d e f L x
def z5c (a b c d e f : Int) (L : List R6) (x : Int) : Bool := decide (L.length ≤ 100000)
def fCvd : List AVal → Option (AVal × Bool)
 | [.agg [.int .i64 aZ, .int .i64 aU, .int .i64 aR, .int .i64 bF, .int .i64 bQ, .int .i64 bG], a1, .int .i64 x2] => match asL R6 a1 with
  | some (L1, g1, n1) => some (.bool (cvdV aZ aU aR bF bQ bG L1 x2), isT R6 n1 g1 && (z5c aZ aU aR bF bQ bG L1 x2))
  | _ => none
 | _ => none
theorem v6s {S : Specs} (hS : Zu prog S) : Zu prog (S.with z8g fCvd) := y7g hS (v2l 100000) _ fun args v h => by
 unfold fCvd at h
 split at h
 ·split at h
  ·rename_i e1
   simp only [Option.some.injEq, Prod.mk.injEq, Bool.and_eq_true, z5c, decide_eq_true_eq] at h
   obtain ⟨rfl, ho1, hw⟩ := h
   unfold fCov
   simp only [e1, ho1, Bool.true_and, Vv]
   rw [Yw (by omega), Yz hw]; rfl
  ·cases h
 ·cases h
def Da : Specs := T9.with z8g fCvd
theorem y1l : Zu prog Da := v6s v7v
end Go.Am
namespace Go.Am
open Go.Proofs.Tryz
open Go.Proofs
inductive rchS where
 | h0 (v5 : Int) (v6 : Int)
 | h1 (v8 : Int) (dH : Int) (dM : Int) (dE : Int) (dJ : Int) (aE : Int)
def rchC (l0 : List R6) (l1 : List R6) : rchS → Cfg
 | .h0 v5 v6 => ⟨⟨26, 0, true⟩, none, (Za prog 92 [1, 1, 0, 0, 0] 0), none, (Zy prog 3), ⟨Yk [(1, (.fn 93 [(.ptr 0 0), (.ptr 1 0)])), (5, (ii v5)), (6, (ii v6))], Vn [⟨[(.dat l0.length (Zz l0))], 30, none⟩, ⟨[(.dat l1.length (Zz l1))], 30, none⟩] 0, 2, [], true⟩, [⟨⟨7, 0, true⟩, (Vk prog 57 [1, 0] 1), (Za prog 57 [1, 0] 1), none, (Zy prog 3), Yk [(5, (.fn 93 [(.ptr 0 0), (.ptr 1 0)]))]⟩], .leaf⟩
 | .h1 v8 dH dM dE dJ aE => ⟨⟨19, 0, true⟩, none, (Za prog 124 [1, 0, 1, 0, 0] 0), none, (Zy prog 3), ⟨Yk [(0, (.dat l0.length (Zz l0))), (1, (.fn 94 [(.ptr 0 0), (.ptr 1 0)])), (7, (ii (l0.length : Int))), (8, (ii v8))], Vn [⟨[(.dat l1.length (Zz l1))], 30, none⟩, ⟨[(ii aE)], 3, none⟩, ⟨[(.dat l0.length (Zz l0))], 30, none⟩] 0, 3, [], true⟩, [⟨⟨9, 0, true⟩, (Vk prog 86 [1, 0] 2), (Za prog 86 [1, 0] 1), none, (Zy prog 3), Yk [(5, (.dat l0.length (Zz l0))), (6, (.fn 94 [(.ptr 0 0), (.ptr 1 0)]))]⟩, ⟨⟨9, 0, true⟩, (Vk prog 93 [1, 0] 2), (Za prog 93 [1, 0] 1), none, (Zy prog 3), Yk [(5, (.dat l0.length (Zz l0))), (6, (.fn 94 [(.ptr 0 0), (.ptr 1 0)]))]⟩, ⟨⟨26, 0, true⟩, (Vk prog 92 [1, 1, 0, 0, 0, 1, 0, 1, 0] 2), (Za prog 92 [1, 1, 0, 0, 0, 1, 0, 1, 0] 1), none, (Zy prog 3), Yk [(1, (.fn 93 [(.ptr 2 0), (.ptr 0 0)])), (5, (ii dH)), (6, (ii dM)), (7, (ii dE)), (18, (.fn 93 [(.ptr 2 0), (.ptr 0 0)])), (19, (ii dJ))]⟩, ⟨⟨7, 0, true⟩, (Vk prog 57 [1, 0] 1), (Za prog 57 [1, 0] 1), none, (Zy prog 3), Yk [(5, (.fn 93 [(.ptr 2 0), (.ptr 0 0)]))]⟩], .leaf⟩
def w4q : List (Option (List Nat)) := [some [1, 5, 6], some [5]]
def w4r : List (Option (List Nat)) := []
def rchN1 : List (Option (List Nat)) := [some [0, 1, 7, 8], some [5, 6], some [5, 6], some [1, 5, 6, 7, 18, 19], some [5]]
def rchM1 : List (Option (List Nat)) := []
def Jx (l0 : List R6) (l1 : List R6) : rchS → Xn rchS
 | .h0 v5 v6 => (bif (decide (v5 < v6)) then (.to (.h1 0 v5 v6 (IntKind.wrap .i64 (Int.fdiv (IntKind.wrap IntKind.u64 (IntKind.wrap .i64 (v5 + v6))) 2)) (IntKind.wrap .i64 (Int.fdiv (IntKind.wrap IntKind.u64 (IntKind.wrap .i64 (v5 + v6))) 2)) (IntKind.wrap .i64 (Int.fdiv (IntKind.wrap IntKind.u64 (IntKind.wrap .i64 (v5 + v6))) 2)))) else (.ret [(.int .i64 v5)]))
 | .h1 v8 dH dM dE dJ aE => (bif (decide (v8 < (l0.length : Int))) then (bif ((decide (0 ≤ v8 ∧ v8 < (l0.length : Int))) && true) then (bif (z5c (rd l0 v8.toNat).a (rd l0 v8.toNat).b (rd l0 v8.toNat).c (rd l0 v8.toNat).d (rd l0 v8.toNat).e (rd l0 v8.toNat).f (cvT l1) aE) then (bif (!(cvdV (rd l0 v8.toNat).a (rd l0 v8.toNat).b (rd l0 v8.toNat).c (rd l0 v8.toNat).d (rd l0 v8.toNat).e (rd l0 v8.toNat).f (cvT l1) aE)) then (bif (!(!(decide (v8 ≥ 0)))) then (.to (.h0 (IntKind.wrap .i64 (dE + 1)) dM)) else (.to (.h0 dH dE))) else (.to (.h1 (IntKind.wrap .i64 (v8 + 1)) dH dM dE dJ aE))) else .stuck) else .stuck) else (.to (.h0 dH dE)))
def y3o (l0 : List R6) (l1 : List R6) : Xn rchS := (.to (.h0 0 2000000))
theorem x5i (l0 : List R6) (l1 : List R6) : ∀ s, Ww prog (Zy prog 57) (rchC l0 l1) (rchC l0 l1 s) (Jx l0 l1 s)
 | .h0 v5 v6 => (lb (fun k0 => (sl y1l 57 [] ⟨[1, 2, 0], [], rchN1, rchM1⟩ ⟨[], [], []⟩ [true] (tt k0 nn))) (fun k0 => (lr 7 3 [1, 1, 1, 1, 1, 1, 0] 1 3 [(4, (ii v5))] (sl y1l 17 [] ⟨[], [], [some [4]], []⟩ ⟨[], [], []⟩ [false] (tt k0 nn)))))
 | .h1 v8 dH dM dE dJ aE => (lb (fun k0 => (lo fun aH => (lo fun bK => (lb (fun k1 => (lb (fun k2 => (sl y1l 63 [] ⟨[2, 0], [], w4q, w4r⟩ ⟨[], [], []⟩ (trs 3 []) (tt k2 (tt k1 (pp (pp (xr l1) (xw bK)) (ww aH (tt k0 nn))))))) (fun k2 => (sl y1l 62 [] ⟨[2, 0], [], w4q, w4r⟩ ⟨[], [], []⟩ [true, true, false] (tt k2 (tt k1 (pp (pp (xr l1) (xw bK)) (ww aH (tt k0 nn))))))))) (fun k1 => (sl y1l 46 [] ⟨[0, 1, 2], [], rchN1, rchM1⟩ ⟨[], [], []⟩ [true, false] (tt k1 (pp (pp (xr l1) (xw bK)) (ww aH (tt k0 nn)))))))))) (fun k0 => (sl y1l 29 [] ⟨[2, 0], [], w4q, w4r⟩ ⟨[], [], []⟩ [false, false] (tt k0 nn))))
theorem y9m (l0 : List R6) (l1 : List R6) : Ww prog (Zy prog 57) (rchC l0 l1) (Zn prog 57 [(.dat l0.length (Zz l0)), (.dat l1.length (Zz l1))] true []) (y3o l0 l1) := (sl y1l 23 [] ⟨[0, 1], [], w4q, w4r⟩ ⟨[], [], []⟩ [] nn)
theorem w4p (l0 : List R6) (l1 : List R6) (n : Nat) (vs : List AVal) (h : Yv (Jx l0 l1) n (y3o l0 l1) = .ret vs) : Kz prog (Zy prog 57) (Zn prog 57 [(.dat l0.length (Zz l0)), (.dat l1.length (Zz l1))] true []) vs := by
 have := Zr (x5i l0 l1) n _ (y9m l0 l1)
 rwa [h] at this
inductive frmS where
 | h0 (v5 : Int) (v6 : Int)
def frmC (aZ : Int) (aU : Int) (aR : Int) (l1 : List R6) : frmS → Cfg
 | .h0 v5 v6 => ⟨⟨27, 0, true⟩, none, (Za prog 49 [1, 1, 0, 1, 0, 0] 0), none, (Zy prog 3), ⟨Yk [(1, (.dat l1.length (Zz l1))), (2, (.ptr 0 0)), (5, (ii v5)), (6, (ii v6))], Vn [⟨[(ii aZ), (ii aU), (ii aR)], 65, none⟩] 0, 1, [], true⟩, [], .leaf⟩
def frmN0 : List (Option (List Nat)) := [some [1, 2, 5, 6]]
def frmM0 : List (Option (List Nat)) := []
def z6g (aZ : Int) (aU : Int) (aR : Int) (l1 : List R6) : frmS → Xn frmS
 | .h0 v5 v6 => (bif (decide (v6 < (l1.length : Int))) then (bif ((decide (0 ≤ v6 ∧ v6 < (l1.length : Int))) && true) then (.to (.h0 (Uw v5 (Wg (Wg (Wg (Wg (Wg (Wg 0 (IntKind.wrap .i64 ((rd l1 v6.toNat).a - aZ))) (IntKind.wrap .i64 ((IntKind.wrap .i64 (aZ - (rd l1 v6.toNat).d)) + 1))) (IntKind.wrap .i64 ((rd l1 v6.toNat).b - aU))) (IntKind.wrap .i64 ((IntKind.wrap .i64 (aU - (rd l1 v6.toNat).e)) + 1))) (IntKind.wrap .i64 ((rd l1 v6.toNat).c - aR))) (IntKind.wrap .i64 ((IntKind.wrap .i64 (aR - (rd l1 v6.toNat).f)) + 1)))) (IntKind.wrap .i64 (v6 + 1)))) else .stuck) else (.ret [(.int .i64 v5)]))
def z8o (aZ : Int) (aU : Int) (aR : Int) (l1 : List R6) : Xn frmS := (bif ((decide ((0 : Int) ≤ 0 ∧ 0 < (l1.length : Int))) && true) then (.to (.h0 (Wg (Wg (Wg (Wg (Wg (Wg 0 (IntKind.wrap .i64 ((rd l1 0).a - aZ))) (IntKind.wrap .i64 ((IntKind.wrap .i64 (aZ - (rd l1 0).d)) + 1))) (IntKind.wrap .i64 ((rd l1 0).b - aU))) (IntKind.wrap .i64 ((IntKind.wrap .i64 (aU - (rd l1 0).e)) + 1))) (IntKind.wrap .i64 ((rd l1 0).c - aR))) (IntKind.wrap .i64 ((IntKind.wrap .i64 (aR - (rd l1 0).f)) + 1))) 1)) else .stuck)
theorem x6f (aZ : Int) (aU : Int) (aR : Int) (l1 : List R6) : ∀ s, Ww prog (Zy prog 49) (frmC aZ aU aR l1) (frmC aZ aU aR l1 s) (z6g aZ aU aR l1 s)
 | .h0 v5 v6 => (lb (fun k0 => (lo fun o0 => (sl y1l 20 [] ⟨[0], [], frmN0, frmM0⟩ ⟨[], [], []⟩ [true] (ww o0 (tt k0 nn))))) (fun k0 => (lr 27 3 [1, 1, 1, 1, 1, 1, 0] 1 3 [(4, (ii v5))] (sl y1l 15 [] ⟨[], [], [some [4]], []⟩ ⟨[], [], []⟩ [false] (tt k0 nn)))))
theorem x0r (aZ : Int) (aU : Int) (aR : Int) (l1 : List R6) : Ww prog (Zy prog 49) (frmC aZ aU aR l1) (Zn prog 49 [(.agg [(.int .i64 aZ), (.int .i64 aU), (.int .i64 aR)]), (.dat l1.length (Zz l1))] true []) (z8o aZ aU aR l1) := (lo fun o0 => (sl y1l 14 [] ⟨[0], [], frmN0, frmM0⟩ ⟨[], [], []⟩ [] (ww o0 nn)))
theorem w6r (aZ : Int) (aU : Int) (aR : Int) (l1 : List R6) (n : Nat) (vs : List AVal) (h : Yv (z6g aZ aU aR l1) n (z8o aZ aU aR l1) = .ret vs) : Kz prog (Zy prog 49) (Zn prog 49 [(.agg [(.int .i64 aZ), (.int .i64 aU), (.int .i64 aR)]), (.dat l1.length (Zz l1))] true []) vs := by
 have := Zr (x6f aZ aU aR l1) n _ (x0r aZ aU aR l1)
 rwa [h] at this
end Go.Am
namespace Go.Am
open Go.Proofs.Tryz
open Go.Proofs
def v2k (L1 : List R6) (d : Int) (L0 : List R6) : Bool := L0.all fun r => cvdV r.a r.b r.c r.d r.e r.f L1 d
def w2y (F : Int → Bool) : Nat → Int → Int → Int
 | 0, i, _ => i
 | n + 1, i, j => bif decide (i < j) then (bif F ((i + j) / 2) then w2y F n i ((i + j) / 2) else w2y F n ((i + j) / 2 + 1) j) else i
def x2x (L0 L1 : List R6) : Int := w2y (fun d => v2k L1 d L0) 22 0 2000000
def Ud (L0 L1 : List R6) : Bool := decide (L0.length ≤ 100000) && decide (L1.length ≤ 100000)
theorem cvd_o {a b c d e f : Int} {L : List R6} {x : Int} (h : L.length ≤ 100000) : z5c a b c d e f L x = true := decide_eq_true h
theorem v0j {L0 L1 : List R6} (h0 : L0.length ≤ 100000) (h1 : L1.length ≤ 100000) (v5 v6 v7 v19 d : Int) : ∀ (k i : Nat), i + k = L0.length → ∃ N, ∀ M, Yv (Jx L0 L1) (M + N) (.to (.h1 (i : Int) v5 v6 v7 v19 d)) = Yv (Jx L0 L1) M (bif v2k L1 d (L0.drop i) then .to (.h0 v5 v7) else .to (.h0 (IntKind.wrap .i64 (v7 + 1)) v6))
 | 0, i, h => by
  refine ⟨1, fun M => ?_⟩
  rw [Zv, List.drop_eq_nil_of_le (by omega)]
  simp (disch := omega) only [Jx, Zs, cond_false]; rfl
 | k + 1, i, h => by
  have hi : i < L0.length := by omega
  obtain ⟨N, hN⟩ := v0j h0 h1 v5 v6 v7 v19 d k (i + 1) (by omega)
  have hw : IntKind.wrap .i64 ((i : Int) + 1) = ((i + 1 : Nat) : Int) := Zj (by omega)
  rcases Ya (cvdV (rd L0 i).a (rd L0 i).b (rd L0 i).c (rd L0 i).d (rd L0 i).e (rd L0 i).f L1 d) with q | q
  ·refine ⟨N + 1, fun M => ?_⟩
   rw [← Nat.add_assoc, Zv, Yc hi]
   simp (disch := omega) only [Jx, Zo, Zt, w7o, hw, Zq, Zb, cvd_o h1, q, Bool.and_true, Bool.true_and, Bool.not_true, Bool.not_false, cond_true, cond_false, v2k, List.all_cons]
   exact hN M
  ·refine ⟨1, fun M => ?_⟩
   rw [Zv, Yc hi]
   simp (disch := omega) only [Jx, Zo, Zt, w7o, hw, Zq, Zb, cvd_o h1, q, Bool.and_true, Bool.false_and, Bool.not_true, Bool.not_false, cond_true, cond_false, v2k, List.all_cons]
theorem x2g {i j : Int} (hi : 0 ≤ i) (hj : j ≤ 2000000) (hij : i ≤ j) : IntKind.wrap .i64 (Int.fdiv (IntKind.wrap IntKind.u64 (IntKind.wrap .i64 (i + j))) 2) = (i + j) / 2 := by
 rw [Zj (n := i + j) (by omega)]
 have e : IntKind.wrap IntKind.u64 (i + j) = i + j := by
  show (i + j) % 18446744073709551616 = i + j
  omega
 rw [e, Int.fdiv_eq_ediv_of_nonneg _ (by omega), Zj (by omega)]
theorem x9r {L0 L1 : List R6} (h0 : L0.length ≤ 100000) (h1 : L1.length ≤ 100000) : ∀ (n : Nat) (i j : Int), 0 ≤ i → i ≤ j → j ≤ 2000000 → j - i < 2 ^ n → ∃ N, Yv (Jx L0 L1) N (.to (.h0 i j)) = .ret [.int .i64 (w2y (fun d => v2k L1 d L0) n i j)]
 | 0, i, j, hi, hij, hj, hn => by
  refine ⟨1, ?_⟩
  have : i = j := by simp at hn; omega
  rw [Zv]
  simp (disch := omega) only [Jx, Zs, cond_false, Zm, w2y]
 | n + 1, i, j, hi, hij, hj, hn => by
  by_cases hlt : i < j
  ·have hp : (2 : Int) ^ (n + 1) = 2 * 2 ^ n := by rw [Int.pow_succ, Int.mul_comm]
   rw [hp] at hn
   generalize hP : (2 : Int) ^ n = p at hn
   obtain ⟨N, hN⟩ := v0j h0 h1 i j ((i + j) / 2) ((i + j) / 2) ((i + j) / 2) L0.length 0 (Nat.zero_add _)
   unfold w2y
   rw [Zo hlt, cond_true]
   have hw : IntKind.wrap .i64 ((i + j) / 2 + 1) = (i + j) / 2 + 1 := Zj (by omega)
   rcases Ya (v2k L1 ((i + j) / 2) L0) with q | q
   ·obtain ⟨M, hM⟩ := x9r h0 h1 n i ((i + j) / 2) hi (by omega) (by omega) (by rw [hP]; omega)
    refine ⟨M + N + 1, ?_⟩
    rw [Zv]
    simp only [Jx, Zo hlt, cond_true, x2g hi hj hij]
    rw [show (0 : Int) = ((0 : Nat) : Int) from rfl, hN, List.drop_zero, q, cond_true, hM]; rfl
   ·obtain ⟨M, hM⟩ := x9r h0 h1 n ((i + j) / 2 + 1) j (by omega) (by omega) hj (by rw [hP]; omega)
    refine ⟨M + N + 1, ?_⟩
    rw [Zv]
    simp only [Jx, Zo hlt, cond_true, x2g hi hj hij]
    rw [show (0 : Int) = ((0 : Nat) : Int) from rfl, hN, List.drop_zero, q, cond_false, hw, hM]; rfl
  ·refine ⟨1, ?_⟩
   rw [Zv]
   simp (disch := omega) only [Jx, Zs, cond_false, Zm, w2y]
theorem v4j (L0 L1 : List R6) (h : Ud L0 L1 = true) : ∃ N, Yv (Jx L0 L1) N (y3o L0 L1) = .ret [.int .i64 (x2x L0 L1)] := by
 simp only [Ud, Bool.and_eq_true, decide_eq_true_eq] at h
 exact x9r h.1 h.2 22 0 2000000 (by omega) (by omega) (by omega) (by decide)
def w6w (x y z : Int) (r : R6) : Int := Wg (Wg (Wg (Wg (Wg (Wg 0 (IntKind.wrap .i64 (r.a - x))) (IntKind.wrap .i64 (IntKind.wrap .i64 (x - r.d) + 1))) (IntKind.wrap .i64 (r.b - y))) (IntKind.wrap .i64 (IntKind.wrap .i64 (y - r.e) + 1))) (IntKind.wrap .i64 (r.c - z))) (IntKind.wrap .i64 (IntKind.wrap .i64 (z - r.f) + 1))
def v1r (x y z : Int) : List R6 → Int → Int
 | [], d => d
 | r :: l, d => v1r x y z l (Uw d (w6w x y z r))
def y8c (x y z : Int) (L : List R6) : Int := v1r x y z (L.drop 1) (w6w x y z (rd L 0))
def Qe (x y z : Int) (L : List R6) : Bool := decide (0 < L.length) && decide (L.length ≤ 100000)
theorem v1q {x y z : Int} {L : List R6} (hl : L.length ≤ 100000) : ∀ (k i : Nat) (d : Int), i + k = L.length → ∃ N, Yv (z6g x y z L) N (.to (.h0 d (i : Int))) = .ret [.int .i64 (v1r x y z (L.drop i) d)]
 | 0, i, d, h => by
  refine ⟨1, ?_⟩
  rw [Zv, List.drop_eq_nil_of_le (by omega)]
  simp (disch := omega) only [z6g, Zs, cond_false]; rfl
 | k + 1, i, d, h => by
  have hi : i < L.length := by omega
  obtain ⟨N, hN⟩ := v1q hl k (i + 1) (Uw d (w6w x y z (rd L i))) (by omega)
  have hw : IntKind.wrap .i64 ((i : Int) + 1) = ((i + 1 : Nat) : Int) := Zj (by omega)
  refine ⟨N + 1, ?_⟩
  rw [Zv, Yc hi]
  simp (disch := omega) only [z6g, v1r, Zo, Zt, hw, Zq, Bool.and_true, cond_true]
  exact hN
theorem v5r (x y z : Int) (L : List R6) (h : Qe x y z L = true) : ∃ N, Yv (z6g x y z L) N (z8o x y z L) = .ret [.int .i64 (y8c x y z L)] := by
 simp only [Qe, Bool.and_eq_true, decide_eq_true_eq] at h
 obtain ⟨N, hN⟩ := v1q (x := x) (y := y) (z := z) h.2 (L.length - 1) 1 (w6w x y z (rd L 0)) (by omega)
 refine ⟨N, ?_⟩
 simp (disch := omega) only [z8o, Zt, Bool.and_true, cond_true]
 exact hN
def fRch : List AVal → Option (AVal × Bool)
 | [a0, a1] => match asL R6 a0, asL R6 a1 with
  | some (L0, g0, n0), some (L1, g1, n1) => some (.int .i64 (x2x L0 L1), isT R6 n0 g0 && (isT R6 n1 g1 && (Ud L0 L1)))
  | _, _ => none
 | _ => none
theorem v6d {S : Specs} (hS : Zu prog S) : Zu prog (S.with x3e fRch) := by
 refine z2g hS (by kernel_rfl) fun args v h => ?_
 unfold fRch at h
 split at h
 ·rename_i a0 a1
  split at h
  ·rename_i L0 g0 n0 L1 g1 n1 e0 e1
   simp only [Option.some.injEq, Prod.mk.injEq, Bool.and_eq_true] at h
   obtain ⟨rfl, ho0, ho1, hw⟩ := h
   obtain ⟨N, hN⟩ := v4j L0 L1 hw
   exact ⟨_, _, (.cons (asL_le e0 ho0) (.cons (asL_le e1 ho1) .nil)), rfl, w4p L0 L1 N _ hN, 3, rfl⟩
  ·cases h
 ·cases h
def fFrm : List AVal → Option (AVal × Bool)
 | [.agg [.int .i64 aZ, .int .i64 aU, .int .i64 aR], a1] => match asL R6 a1 with
  | some (L1, g1, n1) => some (.int .i64 (y8c aZ aU aR L1), isT R6 n1 g1 && (Qe aZ aU aR L1))
  | _ => none
 | _ => none
theorem v6n {S : Specs} (hS : Zu prog S) : Zu prog (S.with w0m fFrm) := by
 refine z2g hS (by kernel_rfl) fun args v h => ?_
 unfold fFrm at h
 split at h
 ·rename_i aZ aU aR a1
  split at h
  ·rename_i L1 g1 n1 e1
   simp only [Option.some.injEq, Prod.mk.injEq, Bool.and_eq_true] at h
   obtain ⟨rfl, ho1, hw⟩ := h
   obtain ⟨N, hN⟩ := v5r aZ aU aR L1 hw
   exact ⟨_, _, (.cons (.refl _) (.cons (asL_le e1 ho1) .nil)), rfl, w6r aZ aU aR L1 N _ hN, 3, rfl⟩
  ·cases h
 ·cases h
def Db : Specs := ((Da.with x3e fRch).with w0m fFrm)
theorem y5f : Zu prog Db := (v6n (v6d y1l))
end Go.Am
namespace Go.Am
open Go.Proofs.Tryz
open Go.Proofs
inductive nr39S where
 | h0 (v3 : Int)
def v4q (l0 : List R6) : nr39S → Cfg
 | .h0 v3 => ⟨⟨103, 0, true⟩, none, (Za prog 15 [1, 1, 0, 1, 0, 0] 0), none, (Zy prog 15), ⟨Yk [(0, (.dat l0.length (Zz l0))), (3, (ii v3))], Vn [] 0, 0, [], true⟩, [], .leaf⟩
def v0n : List (Option (List Nat)) := [some [0, 3]]
def v0o : List (Option (List Nat)) := []
def z2b (l0 : List R6) : nr39S → Xn nr39S
 | .h0 v3 => (bif (decide (v3 < (l0.length : Int))) then (bif ((decide (0 ≤ v3 ∧ v3 < (l0.length : Int))) && true) then (bif (decide ((Uw (Uw (rd l0 v3.toNat).a (rd l0 v3.toNat).b) (rd l0 v3.toNat).c) < (-12))) then (.ret [(.bool false)]) else (bif (decide ((Wg (Wg (rd l0 v3.toNat).d (rd l0 v3.toNat).e) (rd l0 v3.toNat).f) > 12)) then (.ret [(.bool false)]) else (bif (decide ((Uw (Uw (rd l0 v3.toNat).d (rd l0 v3.toNat).e) (rd l0 v3.toNat).f) < (-12))) then (.ret [(.bool false)]) else (bif (decide ((Wg (Wg (rd l0 v3.toNat).a (rd l0 v3.toNat).b) (rd l0 v3.toNat).c) > 12)) then (.ret [(.bool false)]) else (.to (.h0 (IntKind.wrap .i64 (v3 + 1)))))))) else .stuck) else (.ret [(.bool (decide ((l0.length : Int) ≤ 6)))]))
def z4i (l0 : List R6) : Xn nr39S := (bif (decide ((l0.length : Int) > 400)) then (.ret [(.bool (decide ((l0.length : Int) ≤ 420)))]) else (.to (.h0 0)))
theorem y9v (l0 : List R6) : ∀ s, Ww prog (Zy prog 15) (v4q l0) (v4q l0 s) (z2b l0 s)
 | .h0 v3 => (lb (fun k0 => (lo fun aH => (lb (fun k1 => (lr 103 15 [1, 1, 0, 1, 0, 0, 1, 0, 0, 0, 1, 0, 0] 1 15 [(2, (.bool false))] (sl y5f 20 [] ⟨[], [], [some [2]], []⟩ ⟨[], [], []⟩ (trs 22 []) (tt k1 (ww aH (ww aH (ww aH (tt k0 nn)))))))) (fun k1 => (lb (fun k2 => (lr 103 15 [1, 1, 0, 1, 0, 0, 1, 0, 0, 0, 1, 0, 0] 1 15 [(2, (.bool false))] (sl y5f 20 [] ⟨[], [], [some [2]], []⟩ ⟨[], [], []⟩ [true, false, false, false, false, false, false, false, false, false, false, false, false, false, false, false, false, false, false, false, false, true] (tt k2 (ww aH (ww aH (ww aH (tt k1 (ww aH (ww aH (ww aH (tt k0 nn)))))))))))) (fun k2 => (lb (fun k3 => (lr 103 15 [1, 1, 0, 1, 0, 0, 1, 0, 0, 1, 1, 0, 0] 1 15 [(2, (.bool false))] (sl y5f 24 [] ⟨[], [], [some [2]], []⟩ ⟨[], [], []⟩ [true, false, false, false, false, false, false, false, false, false, false, false, false, false, false, false, false, false, false, false, false, false, true, true, true, true, true, true, true, true, true, true, true, true, true, true, true, true, true, true, true, true, true] (tt k3 (ww aH (ww aH (ww aH (tt k2 (ww aH (ww aH (ww aH (tt k1 (ww aH (ww aH (ww aH (tt k0 nn)))))))))))))))) (fun k3 => (lb (fun k4 => (lr 103 15 [1, 1, 0, 1, 0, 0, 1, 0, 0, 1, 1, 0, 0] 1 15 [(2, (.bool false))] (sl y5f 24 [] ⟨[], [], [some [2]], []⟩ ⟨[], [], []⟩ [true, false, false, false, false, false, false, false, false, false, false, false, false, false, false, false, false, false, false, false, false, false, false, false, false, false, false, false, false, false, false, false, false, false, false, false, false, false, false, false, false, false, true] (tt k4 (ww aH (ww aH (ww aH (tt k3 (ww aH (ww aH (ww aH (tt k2 (ww aH (ww aH (ww aH (tt k1 (ww aH (ww aH (ww aH (tt k0 nn)))))))))))))))))))) (fun k4 => (sl y5f 28 [] ⟨[], [], v0n, v0o⟩ ⟨[], [], []⟩ [true, false, false, false, false, false, false, false, false, false, false, false, false, false, false, false, false, false, false, false, false, false, false, false, false, false, false, false, false, false, false, false, false, false, false, false, false, false, false, false, false, false, false] (tt k4 (ww aH (ww aH (ww aH (tt k3 (ww aH (ww aH (ww aH (tt k2 (ww aH (ww aH (ww aH (tt k1 (ww aH (ww aH (ww aH (tt k0 nn)))))))))))))))))))))))))))) (fun k0 => (lr 103 3 [1, 1, 1, 1, 1, 1, 0] 1 15 [(2, (.bool (decide ((l0.length : Int) ≤ 6))))] (sl y5f 17 [] ⟨[], [], [some [2]], []⟩ ⟨[], [], []⟩ [false] (tt k0 nn)))))
theorem y6l (l0 : List R6) : Ww prog (Zy prog 15) (v4q l0) (Zn prog 15 [(.dat l0.length (Zz l0))] true []) (z4i l0) := (lb (fun k0 => (lr 103 15 [1, 0, 1, 0, 0] 1 15 [(2, (.bool (decide ((l0.length : Int) ≤ 420))))] (sl y5f 19 [] ⟨[], [], [some [2]], []⟩ ⟨[], [], []⟩ [true] (tt k0 nn)))) (fun k0 => (sl y5f 20 [] ⟨[], [], v0n, v0o⟩ ⟨[], [], []⟩ [false] (tt k0 nn))))
theorem w0e (l0 : List R6) (n : Nat) (vs : List AVal) (h : Yv (z2b l0) n (z4i l0) = .ret vs) : Kz prog (Zy prog 15) (Zn prog 15 [(.dat l0.length (Zz l0))] true []) vs := by
 have := Zr (y9v l0) n _ (y6l l0)
 rwa [h] at this
end Go.Am
namespace Go.Am
open Go.Proofs.Tryz
open Go.Proofs
def lpI (g : Int → Int → Int) : Nat → Int → Int → Int
 | 0, _, d => d
 | n + 1, z, d => lpI g n (z + 1) (g z d)
def rgZ (L1 : List R6) (r : R6) (x y d : Int) : Int := lpI (fun z d => Wg d (y8c x y z L1)) (r.f - r.c).toNat r.c d
def rgY (L1 : List R6) (r : R6) (x d : Int) : Int := lpI (fun y d => rgZ L1 r x y d) (r.e - r.b).toNat r.b d
def rgX (L1 : List R6) (r : R6) (d : Int) : Int := lpI (fun x d => rgY L1 r x d) (r.d - r.a).toNat r.a d
def rrcF (L1 : List R6) : List R6 → Int → Int
 | [], d => d
 | r :: l, d => rrcF L1 l (rgX L1 r d)
def x7g (L0 L1 : List R6) : Int := rrcF L1 L0 0
def w5g (r : R6) : Bool := !decide (Uw (Uw r.a r.b) r.c < (-12)) && (!decide (Wg (Wg r.d r.e) r.f > 12) && (!decide (Uw (Uw r.d r.e) r.f < (-12)) && !decide (Wg (Wg r.a r.b) r.c > 12)))
def y3s (L : List R6) : Bool := bif decide ((L.length : Int) > 400) then decide ((L.length : Int) ≤ 420) else L.all w5g && decide ((L.length : Int) ≤ 6)
def z2c (L : List R6) : Bool := true
theorem w0d {L : List R6} (hl : L.length ≤ 400) : ∀ (k i : Nat), i + k = L.length → ∃ N, Yv (z2b L) N (.to (.h0 (i : Int))) = .ret [.bool ((L.drop i).all w5g && decide ((L.length : Int) ≤ 6))]
 | 0, i, h => by
  refine ⟨1, ?_⟩
  rw [Zv, List.drop_eq_nil_of_le (by omega)]
  simp (disch := omega) only [z2b, Zs, cond_false]; rfl
 | k + 1, i, h => by
  have hi : i < L.length := by omega
  obtain ⟨N, hN⟩ := w0d hl k (i + 1) (by omega)
  have hw : IntKind.wrap .i64 ((i : Int) + 1) = ((i + 1 : Nat) : Int) := Zj (by omega)
  refine ⟨N + 1, ?_⟩
  rw [Zv, Yc hi]
  simp (disch := omega) only [z2b, Zo, Zt, hw, Zq, Bool.and_true, cond_true, List.all_cons]
  unfold w5g
  cases decide (Uw (Uw (rd L i).a (rd L i).b) (rd L i).c < (-12)) <;> cases decide (Wg (Wg (rd L i).d (rd L i).e) (rd L i).f > 12) <;> cases decide (Uw (Uw (rd L i).d (rd L i).e) (rd L i).f < (-12)) <;> cases decide (Wg (Wg (rd L i).a (rd L i).b) (rd L i).c > 12) <;> first | exact Zm _ _ _ | exact hN
theorem w5b (L : List R6) (h : z2c L = true) : ∃ N, Yv (z2b L) N (z4i L) = .ret [.bool (y3s L)] := by
 unfold z4i y3s
 by_cases hl : L.length ≤ 400
 ·obtain ⟨N, hN⟩ := w0d hl L.length 0 (Nat.zero_add _)
  refine ⟨N, ?_⟩
  rw [Xz (by omega), cond_false, cond_false]; exact hN
 ·refine ⟨0, ?_⟩
  rw [Yi (by omega)]; rfl
def v6f : List AVal → Option (AVal × Bool)
 | [a0] => match asL R6 a0 with
  | some (L0, g0, n0) => some (.bool (y3s L0), isT R6 n0 g0 && (z2c L0))
  | _ => none
 | _ => none
theorem w6x {S : Specs} (hS : Zu prog S) : Zu prog (S.with w0l v6f) := by
 refine z2g hS (by kernel_rfl) fun args v h => ?_
 unfold v6f at h
 split at h
 ·rename_i a0
  split at h
  ·rename_i L0 g0 n0 e0
   simp only [Option.some.injEq, Prod.mk.injEq, Bool.and_eq_true] at h
   obtain ⟨rfl, ho0, hw⟩ := h
   obtain ⟨N, hN⟩ := w5b L0 hw
   exact ⟨_, _, (.cons (asL_le e0 ho0) .nil), rfl, w0e L0 N _ hN, 3, rfl⟩
  ·cases h
 ·cases h
def Dc : Specs := (Db.with w0l v6f)
theorem z5n : Zu prog Dc := (w6x y5f)
end Go.Am
namespace Go.Am
open Go.Proofs Go.Sort Go.Shelf Go.RowKit Go.Lib
def pt (L : List R2) (y : Int) : Prop := ∃ s ∈ L, s.a ≤ y ∧ y < s.b
structure Can (L : List R2) : Prop where
 pos : ∀ s ∈ L, s.a < s.b
 sep : L.Pairwise fun s t => s.b < t.a
theorem Can.nil : Can [] := ⟨by simp, .nil⟩
theorem Can.tail {s : R2} {L : List R2} (h : Can (s :: L)) : Can L := ⟨fun t ht => h.pos t (List.mem_cons_of_mem _ ht), (List.pairwise_cons.1 h.sep).2⟩
theorem Can.head {s : R2} {L : List R2} (h : Can (s :: L)) : ∀ t ∈ L, s.b < t.a := (List.pairwise_cons.1 h.sep).1
theorem v2g {s : R2} {L : List R2} (h : Can (s :: L)) {y : Int} (hy : pt (s :: L) y) : s.a ≤ y := by
 obtain ⟨t, ht, h1, h2⟩ := hy
 rcases List.mem_cons.1 ht with rfl | ht
 ·exact h1
 ·have := h.head t ht; have := h.pos s (by simp); omega
theorem w2g : ∀ (L M : List R2), Can L → Can M → (∀ y, pt L y ↔ pt M y) → L = M
 | [], [], _, _, _ => rfl
 | [], t :: M, _, hM, h => by
  have := (h t.a).2 ⟨t, by simp, Int.le_refl _, hM.pos t (by simp)⟩
  obtain ⟨s, hs, _⟩ := this; cases hs
 | s :: L, [], hL, _, h => by
  have := (h s.a).1 ⟨s, by simp, Int.le_refl _, hL.pos s (by simp)⟩
  obtain ⟨s, hs, _⟩ := this; cases hs
 | s :: L, t :: M, hL, hM, h => by
  have p1 := hL.pos s (by simp)
  have p2 := hM.pos t (by simp)
  have a1 : t.a ≤ s.a := v2g hM ((h s.a).1 ⟨s, by simp, Int.le_refl _, p1⟩)
  have a2 : s.a ≤ t.a := v2g hL ((h t.a).2 ⟨t, by simp, Int.le_refl _, p2⟩)
  have b1 : ¬ s.b < t.b := fun hb => by
   obtain ⟨u, hu, h1, h2⟩ := (h s.b).2 ⟨t, by simp, by omega, hb⟩
   rcases List.mem_cons.1 hu with rfl | hu
   ·omega
   ·have := hL.head u hu; omega
  have b2 : ¬ t.b < s.b := fun hb => by
   obtain ⟨u, hu, h1, h2⟩ := (h t.b).1 ⟨s, by simp, by omega, hb⟩
   rcases List.mem_cons.1 hu with rfl | hu
   ·omega
   ·have := hM.head u hu; omega
  have e : s = t := by
   obtain ⟨sa, sb⟩ := s; obtain ⟨ta, tb⟩ := t
   simp only at a1 a2 b1 b2
   have : sa = ta := by omega
   have : sb = tb := by omega
   subst_vars; rfl
  subst e
  congr 1
  refine w2g L M hL.tail hM.tail fun y => ⟨fun hy => ?_, fun hy => ?_⟩
  ·obtain ⟨u, hu, h1, h2⟩ := hy
   have g := hL.head u hu
   obtain ⟨v, hv, h3, h4⟩ := (h y).1 ⟨u, by simp [hu], h1, h2⟩
   rcases List.mem_cons.1 hv with rfl | hv
   ·omega
   ·exact ⟨v, hv, h3, h4⟩
  ·obtain ⟨u, hu, h1, h2⟩ := hy
   have g := hM.head u hu
   obtain ⟨v, hv, h3, h4⟩ := (h y).2 ⟨u, by simp [hu], h1, h2⟩
   rcases List.mem_cons.1 hv with rfl | hv
   ·omega
   ·exact ⟨v, hv, h3, h4⟩
def push (out : List R2) (x x' : Int) : List R2 :=
 bif decide (0 < out.length) && ((rd out (out.length - 1)).b == x) then out.set (out.length - 1) ⟨(rd out (out.length - 1)).a, x'⟩ else out ++ [⟨x, x'⟩]
theorem x9v (out : List R2) (s : R2) (x x' : Int) : push (out ++ [s]) x x' = bif s.b == x then out ++ [⟨s.a, x'⟩] else out ++ [s] ++ [⟨x, x'⟩] := by
 have e : rd (out ++ [s]) ((out ++ [s]).length - 1) = s := by
  rw [Va (by simp)]; simp [rd]
 unfold push
 rw [e, decide_eq_true (by simp), Bool.true_and]
 cases (s.b == x)
 ·rfl
 ·simp
theorem x2y {out : List R2} {x x' : Int} (hc : Can out) (hb : ∀ s ∈ out, s.b ≤ x) (hx : x < x') :
  Can (push out x x') ∧ (∀ s ∈ push out x x', s.b ≤ x') ∧ ∀ y, pt (push out x x') y ↔ pt out y ∨ (x ≤ y ∧ y < x') := by
 rcases List.eq_nil_or_concat out with rfl | ⟨L, s, rfl⟩
 ·refine ⟨⟨?_, ?_⟩, ?_, fun y => ?_⟩
  ·intro s hs; simp [push] at hs; subst hs; exact hx
  ·simp [push]
  ·intro s hs; simp [push] at hs; subst hs; exact Int.le_refl _
  ·simp [push, pt]
 ·rw [List.concat_eq_append] at *
  rw [x9v]
  have hs := hb s (by simp)
  have hp := hc.pos s (by simp)
  have sep := List.pairwise_append.1 hc.sep
  rcases Ya (s.b == x) with q | q
  ·rw [q, cond_true]
   have q : s.b = x := by simpa using q
   refine ⟨⟨?_, ?_⟩, ?_, fun y => ?_⟩
   ·intro t ht
    rcases List.mem_append.1 ht with ht | ht
    ·exact hc.pos t (by simp [ht])
    ·rw [List.mem_singleton.1 ht]; show s.a < x'; omega
   ·refine List.pairwise_append.2 ⟨sep.1, List.pairwise_singleton _ _, fun t ht u hu => ?_⟩
    rw [List.mem_singleton.1 hu]
    exact sep.2.2 t ht s (by simp)
   ·intro t ht
    rcases List.mem_append.1 ht with ht | ht
    ·have := hb t (by simp [ht]); omega
    ·rw [List.mem_singleton.1 ht]; exact Int.le_refl _
   ·constructor
    ·rintro ⟨t, ht, h1, h2⟩
     rcases List.mem_append.1 ht with ht | ht
     ·exact .inl ⟨t, by simp [ht], h1, h2⟩
     ·rw [List.mem_singleton.1 ht] at h1 h2
      by_cases hy : y < s.b
      ·exact .inl ⟨s, by simp, h1, hy⟩
      ·exact .inr ⟨by omega, h2⟩
    ·rintro (⟨t, ht, h1, h2⟩ | ⟨h1, h2⟩)
     ·rcases List.mem_append.1 ht with ht | ht
      ·exact ⟨t, by simp [ht], h1, h2⟩
      ·rw [List.mem_singleton.1 ht] at h1 h2
       exact ⟨⟨s.a, x'⟩, by simp, h1, by show y < x'; omega⟩
     ·exact ⟨⟨s.a, x'⟩, by simp, by show s.a ≤ y; omega, h2⟩
  ·rw [q, cond_false]
   have q : s.b ≠ x := by simpa using q
   refine ⟨⟨?_, ?_⟩, ?_, fun y => ?_⟩
   ·intro t ht
    rcases List.mem_append.1 ht with ht | ht
    ·exact hc.pos t ht
    ·rw [List.mem_singleton.1 ht]; exact hx
   ·refine List.pairwise_append.2 ⟨hc.sep, List.pairwise_singleton _ _, fun t ht u hu => ?_⟩
    rw [List.mem_singleton.1 hu]
    show t.b < x
    rcases List.mem_append.1 ht with h | h
    ·have h1 := sep.2.2 t h s (by simp); omega
    ·rw [List.mem_singleton.1 h]; omega
   ·intro t ht
    rcases List.mem_append.1 ht with ht | ht
    ·have := hb t ht; omega
    ·rw [List.mem_singleton.1 ht]; exact Int.le_refl _
   ·constructor
    ·rintro ⟨t, ht, h1, h2⟩
     rcases List.mem_append.1 ht with ht | ht
     ·exact .inl ⟨t, ht, h1, h2⟩
     ·rw [List.mem_singleton.1 ht] at h1 h2
      exact .inr ⟨h1, h2⟩
    ·rintro (⟨t, ht, h1, h2⟩ | ⟨h1, h2⟩)
     ·exact ⟨t, List.mem_append.2 (.inl ht), h1, h2⟩
     ·exact ⟨⟨x, x'⟩, by simp, h1, h2⟩
theorem y3u {l : List Int} (h : l.Pairwise (· < ·)) {i j : Nat} (hij : i < j) (hj : j < l.length) : rd l i < rd l j := by
 rw [Xe (by omega), Xe hj]
 exact List.pairwise_iff_getElem.1 h i j (by omega) hj hij
theorem y4o (cuts : List Int) (ins : List Bool) (hc : cuts.Pairwise (· < ·)) : ∀ (k i : Nat) (out : List R2), i + k < cuts.length ∨ k = 0 → Can out → (∀ s ∈ out, s.b ≤ rd cuts i) →
  Can (x7n cuts ins k i out) ∧ ∀ y, pt (x7n cuts ins k i out) y ↔ pt out y ∨ ∃ j, i ≤ j ∧ j < i + k ∧ rd ins j = true ∧ rd cuts j ≤ y ∧ y < rd cuts (j + 1)
 | 0, i, out, h, ho, hb => ⟨ho, fun y => ⟨.inl, fun hy => hy.elim id fun ⟨j, h1, h2, _⟩ => by omega⟩⟩
 | k + 1, i, out, h, ho, hb => by
  have hlt : rd cuts i < rd cuts (i + 1) := y3u hc (Nat.lt_succ_self _) (by omega)
  obtain ⟨p1, p2, p3⟩ := x2y ho hb hlt
  have e : x7n cuts ins (k + 1) i out = x7n cuts ins k (i + 1) (bif rd ins i then push out (rd cuts i) (rd cuts (i + 1)) else out) := rfl
  rw [e]
  rcases Ya (rd ins i) with q | q
  ·rw [q, cond_true]
   obtain ⟨r1, r2⟩ := y4o cuts ins hc k (i + 1) (push out (rd cuts i) (rd cuts (i + 1))) (by omega) p1 p2
   refine ⟨r1, fun y => ?_⟩
   rw [r2, p3]
   constructor
   ·rintro ((h | h) | ⟨j, h1, h2, h3⟩)
    ·exact .inl h
    ·exact .inr ⟨i, Nat.le_refl _, by omega, q, h⟩
    ·exact .inr ⟨j, by omega, by omega, h3⟩
   ·rintro (h | ⟨j, h1, h2, h3⟩)
    ·exact .inl (.inl h)
    ·rcases Nat.eq_or_lt_of_le h1 with rfl | h1
     ·exact .inl (.inr h3.2)
     ·exact .inr ⟨j, h1, by omega, h3⟩
  ·rw [q, cond_false]
   obtain ⟨r1, r2⟩ := y4o cuts ins hc k (i + 1) out (by omega) ho (fun s hs => by have := hb s hs; omega)
   refine ⟨r1, fun y => ?_⟩
   rw [r2]
   constructor
   ·rintro (h | ⟨j, h1, h2, h3⟩)
    ·exact .inl h
    ·exact .inr ⟨j, by omega, by omega, h3⟩
   ·rintro (h | ⟨j, h1, h2, h3⟩)
    ·exact .inl h
    ·rcases Nat.eq_or_lt_of_le h1 with rfl | h1
     ·rw [q] at h3; cases h3.1
     ·exact .inr ⟨j, h1, by omega, h3⟩
theorem x1o {cuts : List Int} : ∀ (k : Nat), k < cuts.length → ∀ y, rd cuts 0 ≤ y → y < rd cuts k → ∃ j, j < k ∧ rd cuts j ≤ y ∧ y < rd cuts (j + 1)
 | 0, _, y, h1, h2 => by omega
 | k + 1, hk, y, h1, h2 => by
  by_cases h : rd cuts k ≤ y
  ·exact ⟨k, Nat.lt_succ_self _, h, h2⟩
  ·obtain ⟨j, h3, h4⟩ := x1o k (by omega) y h1 (by omega)
   exact ⟨j, by omega, h4⟩
theorem w8l (cuts : List Int) (hc : cuts.Pairwise (· < ·)) (P : Int → Bool) (S : List R2) (hS : ∀ s ∈ S, s.a ∈ cuts ∧ s.b ∈ cuts) (hP : ∀ y, P y = true ↔ pt S y) :
  Can (z7k cuts (cuts.map P)) ∧ ∀ y, pt (z7k cuts (cuts.map P)) y ↔ pt S y := by
 obtain ⟨r1, r2⟩ := y4o cuts (cuts.map P) hc (cuts.length - 1) 0 [] (by omega) .nil (by simp)
 refine ⟨r1, fun y => ?_⟩
 unfold z7k
 rw [r2]
 have hin : ∀ x, x ∈ cuts → ∃ i, i < cuts.length ∧ rd cuts i = x := fun x hx => by
  obtain ⟨i, hi, h⟩ := List.getElem_of_mem hx
  exact ⟨i, hi, by rw [Xe hi]; exact h⟩
 have hmap : ∀ j, j < cuts.length → rd (cuts.map P) j = P (rd cuts j) := fun j hj => by
  rw [Xe (by simpa using hj), Xe hj, List.getElem_map]
 have le_of : ∀ i j, i < cuts.length → j < cuts.length → i ≤ j → rd cuts i ≤ rd cuts j := fun i j hi hj hij => by
  rcases Nat.eq_or_lt_of_le hij with rfl | h
  ·exact Int.le_refl _
  ·exact Int.le_of_lt (y3u hc h hj)
 constructor
 ·rintro (⟨s, hs, _⟩ | ⟨j, h1, h2, h3, h4, h5⟩)
  ·cases hs
  ·have hj : j + 1 < cuts.length := by omega
   rw [hmap j (by omega)] at h3
   obtain ⟨s, hs, a1, a2⟩ := (hP _).1 h3
   obtain ⟨ca, cb⟩ := hS s hs
   obtain ⟨m, hm, em⟩ := hin s.b cb
   refine ⟨s, hs, by omega, ?_⟩
   have : j < m := by
    rcases Nat.lt_or_ge j m with h | h
    ·exact h
    ·have := le_of m j hm (by omega) h; omega
   have := le_of (j + 1) m hj hm this
   omega
 ·rintro ⟨s, hs, a1, a2⟩
  right
  obtain ⟨ca, cb⟩ := hS s hs
  obtain ⟨n, hn, en⟩ := hin s.a ca
  obtain ⟨m, hm, em⟩ := hin s.b cb
  have h0 := le_of 0 n (by omega) hn (Nat.zero_le _)
  obtain ⟨j, h1, h2, h3⟩ := x1o m hm y (by omega) (by omega)
  refine ⟨j, Nat.zero_le _, by omega, ?_, h2, h3⟩
  rw [hmap j (by omega), hP]
  refine ⟨s, hs, ?_, ?_⟩
  ·have : n ≤ j := by
    rcases Nat.lt_or_ge j n with h | h
    ·have := le_of (j + 1) n (by omega) hn h; omega
    ·exact h
   have := le_of n j hn (by omega) this
   omega
  ·omega
end Go.Am
namespace Go.Am
open Go.Proofs Go.Sort Go.Shelf Go.RowKit Go.Lib
def net (E : List R3) (y : Int) : Int := (E.map fun e => if e.a ≤ y then e.c else 0).sum
theorem Jr (e : R3) (E : List R3) (y : Int) : net (e :: E) y = (if e.a ≤ y then e.c else 0) + net E y := by simp [net]
theorem w5e {E F : List R3} (h : E.Perm F) (y : Int) : net E y = net F y := by
 induction h with
 | nil => rfl
 | cons e _ ih => rw [Jr, Jr, ih]
 | swap a b l => simp only [Jr]; omega
 | trans _ _ i1 i2 => rw [i1, i2]
theorem x2z (E : List R3) (y : Int) (h : ∀ e ∈ E, y < e.a) : net E y = 0 := by
 induction E with
 | nil => rfl
 | cons e E ih =>
  rw [Jr, if_neg (by have := h e (by simp); omega), ih fun f hf => h f (by simp [hf])]; rfl
theorem w2f (out : List R2) (last : Int) (inn : Bool) (x : Int) : Qy out last inn x = bif inn && !(last == x) then push out last x else out := by
 unfold Qy push
 cases inn
 ·rfl
 ·cases (last == x) <;> rfl
theorem x6w {out : List R2} {last x : Int} (inn : Bool) (hc : Can out) (hb : ∀ s ∈ out, s.b ≤ last) (hx : last ≤ x) :
  Can (Qy out last inn x) ∧ (∀ s ∈ Qy out last inn x, s.b ≤ x) ∧ ∀ y, pt (Qy out last inn x) y ↔ pt out y ∨ (inn = true ∧ last ≤ y ∧ y < x) := by
 rw [w2f]
 rcases Ya (inn && !(last == x)) with q | q
 ·rw [q, cond_true]
  simp only [Bool.and_eq_true, Bool.not_eq_true', beq_eq_false_iff_ne, ne_eq] at q
  obtain ⟨p1, p2, p3⟩ := x2y hc hb (show last < x by omega)
  refine ⟨p1, p2, fun y => ?_⟩
  rw [p3]; simp [q.1]
 ·rw [q, cond_false]
  refine ⟨hc, fun s hs => by have := hb s hs; omega, fun y => ⟨.inl, fun h => h.elim id fun ⟨h1, h2, h3⟩ => ?_⟩⟩
  rw [h1, Bool.true_and] at q
  have : last = x := by simpa using q
  omega
def Asc (E : List R3) : Prop := E.Pairwise fun e f => e.a ≤ f.a
theorem x7t : ∀ (E : List R3) (o last : Int) (out : List R2), Asc E → (∀ e ∈ E, last ≤ e.a) → Can out → (∀ s ∈ out, s.b ≤ last) →
  Can (swF E o last (decide (o > 0)) out) ∧ ∀ y, pt (swF E o last (decide (o > 0)) out) y ↔ pt out y ∨ (last ≤ y ∧ 0 < o + net E y ∧ ∃ e ∈ E, y < e.a)
 | [], o, last, out, _, _, hc, _ => ⟨hc, fun y => ⟨.inl, fun h => h.elim id fun ⟨_, _, e, he, _⟩ => by cases he⟩⟩
 | e :: r, o, last, out, hE, hl, hc, hb => by
  have he := hl e (by simp)
  have hr := List.pairwise_cons.1 hE
  obtain ⟨p1, p2, p3⟩ := x6w (decide (o > 0)) hc hb he
  obtain ⟨q1, q2⟩ := x7t r (o + e.c) e.a (Qy out last (decide (o > 0)) e.a) hr.2 hr.1 p1 p2
  rw [z7u]
  refine ⟨q1, fun y => ?_⟩
  rw [q2, p3, Jr]
  constructor
  ·rintro ((h | ⟨h1, h2, h3⟩) | ⟨h1, h2, f, hf, h3⟩)
   ·exact .inl h
   ·right
    have h1 := of_decide_eq_true h1
    refine ⟨h2, ?_, e, by simp, h3⟩
    rw [if_neg (by omega), x2z r y fun f hf => by have := hr.1 f hf; omega]
    omega
   ·right
    refine ⟨by omega, ?_, f, by simp [hf], h3⟩
    rw [if_pos h1]; omega
  ·rintro (h | ⟨h1, h2, f, hf, h3⟩)
   ·exact .inl (.inl h)
   ·by_cases hy : e.a ≤ y
    ·right
     rw [if_pos hy] at h2
     refine ⟨hy, by omega, f, ?_, h3⟩
     rcases List.mem_cons.1 hf with rfl | hf
     ·omega
     ·exact hf
    ·left; right
     rw [if_neg hy, x2z r y fun f hf => by have := hr.1 f hf; omega] at h2
     exact ⟨decide_eq_true (by omega), h1, by omega⟩
theorem w5f (l : List R2) (hv : ∀ s ∈ l, s.a < s.b) (y : Int) : 0 ≤ net (Uo l) y ∧ (0 < net (Uo l) y ↔ pt l y) := by
 induction l with
 | nil => exact ⟨Int.le_refl _, by simp [net, Uo, pt]⟩
 | cons s l ih =>
  obtain ⟨i1, i2⟩ := ih fun t ht => hv t (by simp [ht])
  have hs := hv s (by simp)
  have e : net (Uo (s :: l)) y = (if s.a ≤ y ∧ y < s.b then 1 else 0) + net (Uo l) y := by
   show net (⟨s.a, 0, 1⟩ :: ⟨s.b, 0, -1⟩ :: Uo l) y = _
   rw [Jr, Jr]
   show (if s.a ≤ y then (1 : Int) else 0) + ((if s.b ≤ y then (-1 : Int) else 0) + net (Uo l) y) = _
   by_cases h1 : s.a ≤ y
   ·by_cases h2 : s.b ≤ y
    ·rw [if_pos h1, if_pos h2, if_neg (show ¬ (s.a ≤ y ∧ y < s.b) by omega)]; omega
    ·rw [if_pos h1, if_neg h2, if_pos (show s.a ≤ y ∧ y < s.b by omega)]; omega
   ·rw [if_neg h1, if_neg (show ¬ s.b ≤ y by omega), if_neg (show ¬ (s.a ≤ y ∧ y < s.b) by omega)]; omega
  rw [e]
  by_cases h : s.a ≤ y ∧ y < s.b
  ·rw [if_pos h]
   exact ⟨by omega, ⟨fun _ => ⟨s, by simp, h⟩, fun _ => by omega⟩⟩
  ·rw [if_neg h]
   refine ⟨by omega, ?_⟩
   rw [Int.zero_add, i2]
   constructor
   ·rintro ⟨t, ht, h2⟩; exact ⟨t, by simp [ht], h2⟩
   ·rintro ⟨t, ht, h2⟩
    rcases List.mem_cons.1 ht with rfl | ht
    ·exact absurd h2 h
    ·exact ⟨t, ht, h2⟩
theorem y0n {l : List R2} {s : R2} (h : s ∈ l) : (⟨s.b, 0, -1⟩ : R3) ∈ Uo l ∧ (⟨s.a, 0, 1⟩ : R3) ∈ Uo l :=
 ⟨List.mem_flatMap.2 ⟨s, h, by simp⟩, List.mem_flatMap.2 ⟨s, h, by simp⟩⟩
theorem w3j (l : List R3) (h : y5j l = true) : Asc (z3n l) := by
 refine List.pairwise_iff_getElem.2 fun i j hi hj hij => ?_
 have := (Qp l h).2 i j hij hj
 rwa [Xe hi, Xe hj] at this
theorem y8k (l : List R2) (hv : l.all z7i = true) : Can (swV l) ∧ ∀ y, pt (swV l) y ↔ pt l y := by
 have hb : y5j (Uo l) = true := List.all_eq_true.2 fun e he => by
  obtain ⟨s, hs, h1⟩ := List.mem_flatMap.1 he
  have hv := List.all_eq_true.1 hv s hs
  simp only [z7i, Bool.and_eq_true, decide_eq_true_eq] at hv
  simp only [List.mem_cons, List.not_mem_nil, or_false] at h1
  rcases h1 with rfl | rfl <;> exact decide_eq_true (by simp only; omega)
 have fR : ∀ s ∈ l, s.a < s.b := fun s hs => by
  have := List.all_eq_true.1 hv s hs
  simp only [z7i, Bool.and_eq_true, decide_eq_true_eq] at this
  exact this.1
 obtain ⟨hp, _⟩ := Qp (Uo l) hb
 have ha := w3j (Uo l) hb
 have hn : ∀ y, net (z3n (Uo l)) y = net (Uo l) y := fun y => w5e hp y
 unfold swV
 generalize z3n (Uo l) = E at hp ha hn
 cases E with
 | nil =>
  refine ⟨.nil, fun y => ⟨fun ⟨s, hs, _⟩ => (by cases hs), fun ⟨s, hs, _⟩ => ?_⟩⟩
  have := hp.mem_iff.2 (y0n hs).1
  cases this
 | cons e r =>
  have hr := List.pairwise_cons.1 ha
  rw [z7u, Int.zero_add]
  have e0 : Qy [] 0 false e.a = [] := rfl
  rw [e0]
  obtain ⟨q1, q2⟩ := x7t r e.c e.a [] hr.2 hr.1 .nil (by simp)
  refine ⟨q1, fun y => ?_⟩
  rw [q2]
  obtain ⟨n1, n2⟩ := w5f l fR y
  rw [← n2, ← hn, Jr]
  constructor
  ·rintro (⟨s, hs, _⟩ | ⟨h1, h2, _⟩)
   ·cases hs
   ·rw [if_pos h1]; omega
  ·intro h
   have hpt := n2.1 (by rw [← hn, Jr]; exact h)
   obtain ⟨s, hs, s1, s2⟩ := hpt
   have m1 := hp.mem_iff.2 (y0n hs).1
   have m2 := hp.mem_iff.2 (y0n hs).2
   have hea : e.a ≤ y := by
    rcases List.mem_cons.1 m2 with h' | h'
    ·rw [← h']; exact s1
    ·have h'' : e.a ≤ s.a := hr.1 _ h'
     omega
   right
   rw [if_pos hea] at h
   refine ⟨hea, h, ⟨s.b, 0, -1⟩, ?_, s2⟩
   rcases List.mem_cons.1 m1 with h' | h'
   ·have h'' : e.a = s.b := by rw [← h']
    omega
   ·exact h'
theorem y6i (out : List Int) (hs : out.Pairwise (· < ·)) (x : Int) : ∀ k, k ≤ out.length → y9s out x k ≤ k ∧ (∀ i, y9s out x k ≤ i → i < k → x < rd out i) ∧ (0 < y9s out x k → rd out (y9s out x k - 1) ≤ x)
 | 0, _ => ⟨Nat.le_refl _, fun i h1 h2 => by omega, fun h => by simp [y9s] at h⟩
 | k + 1, hk => by
  unfold y9s
  rcases Ya (decide (rd out k > x)) with q | q
  ·rw [q, cond_true]
   obtain ⟨h1, h2, h3⟩ := y6i out hs x k (by omega)
   refine ⟨by omega, fun i a b => ?_, h3⟩
   rcases Nat.eq_or_lt_of_le (Nat.le_of_lt_succ b) with rfl | b
   ·exact of_decide_eq_true q
   ·exact h2 i a b
  ·rw [q, cond_false]
   exact ⟨Nat.le_refl _, fun i a b => by omega, fun _ => by have := of_decide_eq_false q; simp only [Nat.add_sub_cancel]; omega⟩
theorem w1a (out : List Int) (hs : out.Pairwise (· < ·)) (x : Int) : (z9y out x).Pairwise (· < ·) ∧ ∀ y, y ∈ z9y out x ↔ y ∈ out ∨ y = x := by
 obtain ⟨h1, h2, h3⟩ := y6i out hs x out.length (Nat.le_refl _)
 unfold z9y
 split
 ·rename_i h0
  rw [h0] at h2
  refine ⟨List.pairwise_cons.2 ⟨fun y hy => ?_, hs⟩, fun y => by simp [or_comm]⟩
  obtain ⟨i, hi, rfl⟩ := List.getElem_of_mem hy
  have := h2 i (Nat.zero_le _) hi
  rwa [Xe hi] at this
 ·rename_i k hk
  rw [hk] at h1 h2 h3
  have h3 : rd out k ≤ x := h3 (Nat.succ_pos _)
  have hkl : k < out.length := by omega
  rcases Ya (rd out k == x) with q | q
  ·rw [q, cond_true]
   have q : rd out k = x := by simpa using q
   refine ⟨hs, fun y => ⟨.inl, fun h => h.elim id fun e => ?_⟩⟩
   rw [e, ← q, Xe hkl]; exact List.getElem_mem hkl
  ·rw [q, cond_false]
   have q : rd out k ≠ x := by simpa using q
   refine ⟨?_, fun y => ?_⟩
   ·have st : (out.take (k + 1)).Pairwise (· < ·) := hs.sublist (List.take_sublist _ _)
    have sd : (out.drop (k + 1)).Pairwise (· < ·) := hs.sublist (List.drop_sublist _ _)
    have ht : ∀ y ∈ out.take (k + 1), y < x := fun y hy => by
     obtain ⟨i, hi, rfl⟩ := List.getElem_of_mem hy
     have hi' : i < k + 1 := by simp at hi; omega
     rw [List.getElem_take]
     have : rd out i ≤ rd out k := by
      rcases Nat.eq_or_lt_of_le (Nat.le_of_lt_succ hi') with rfl | h
      ·exact Int.le_refl _
      ·exact Int.le_of_lt (y3u hs h hkl)
     rw [Xe (show i < out.length by omega)] at this
     omega
    have hd : ∀ y ∈ out.drop (k + 1), x < y := fun y hy => by
     obtain ⟨i, hi, rfl⟩ := List.getElem_of_mem hy
     have hi' : k + 1 + i < out.length := by simp at hi; omega
     rw [List.getElem_drop, ← Xe hi']
     exact h2 _ (by omega) hi'
    refine List.pairwise_append.2 ⟨st, List.pairwise_cons.2 ⟨hd, sd⟩, fun a ha b hb => ?_⟩
    rcases List.mem_cons.1 hb with rfl | hb
    ·exact ht a ha
    ·exact Int.lt_trans (ht a ha) (hd b hb)
   ·rw [List.mem_append, List.mem_cons]
    constructor
    ·rintro (h | h | h)
     ·exact .inl (List.mem_of_mem_take h)
     ·exact .inr h
     ·exact .inl (List.mem_of_mem_drop h)
    ·rintro (h | h)
     ·rw [← List.take_append_drop (k + 1) out, List.mem_append] at h
      exact h.elim .inl fun h => .inr (.inr h)
     ·exact .inr (.inl h)
theorem Vr (l : List Int) : (z0a l).Pairwise (· < ·) ∧ ∀ y, y ∈ z0a l ↔ y ∈ l := by
 have : ∀ (l out : List Int), out.Pairwise (· < ·) → (l.foldl z9y out).Pairwise (· < ·) ∧ ∀ y, y ∈ l.foldl z9y out ↔ y ∈ out ∨ y ∈ l := by
  intro l
  induction l with
  | nil => intro out h; exact ⟨h, fun y => by simp⟩
  | cons x l ih =>
   intro out h
   obtain ⟨a, b⟩ := w1a out h x
   obtain ⟨c, d⟩ := ih (z9y out x) a
   refine ⟨c, fun y => ?_⟩
   show y ∈ l.foldl z9y (z9y out x) ↔ _
   rw [d, b, List.mem_cons, or_assoc]
 obtain ⟨a, b⟩ := this l [] .nil
 exact ⟨a, fun y => by rw [z0a, b]; simp⟩
theorem z7c : ∀ (l m : List Int), l.Pairwise (· < ·) → m.Pairwise (· < ·) → (∀ x, x ∈ l ↔ x ∈ m) → l = m
 | [], [], _, _, _ => rfl
 | [], b :: m, _, _, h => by have := (h b).2 (by simp); cases this
 | a :: l, [], _, _, h => by have := (h a).1 (by simp); cases this
 | a :: l, b :: m, hl, hm, h => by
  obtain ⟨a1, a2⟩ := List.pairwise_cons.1 hl
  obtain ⟨b1, b2⟩ := List.pairwise_cons.1 hm
  have e : a = b := by
   have x1 := (h a).1 (by simp)
   have x2 := (h b).2 (by simp)
   rcases List.mem_cons.1 x1 with x1 | x1
   ·exact x1
   rcases List.mem_cons.1 x2 with x2 | x2
   ·exact x2.symm
   have := b1 a x1
   have := a1 b x2
   omega
  subst e
  congr 1
  refine z7c l m a2 b2 fun x => ⟨fun hx => ?_, fun hx => ?_⟩
  ·rcases List.mem_cons.1 ((h x).1 (by simp [hx])) with e | e
   ·have := a1 x hx; omega
   ·exact e
  ·rcases List.mem_cons.1 ((h x).2 (by simp [hx])) with e | e
   ·have := b1 x hx; omega
   ·exact e
theorem z7d (zs : List Int) (hs : zs.Pairwise (· ≤ ·)) : ∀ m, m ≤ zs.length → (compactUpTo zs.toArray m).Pairwise (· < ·) ∧ ∀ x, x ∈ compactUpTo zs.toArray m ↔ x ∈ zs.take m
 | 0, _ => by simp [compactUpTo]
 | m + 1, h => by
  obtain ⟨h1, h2⟩ := z7d zs hs m (by omega)
  have hg : ∀ j (hj : j < zs.length), zs.toArray[j]! = zs[j] := fun j hj => by simp [hj]
  have hle : ∀ i j (hi : i < zs.length) (hj : j < zs.length), i < j → zs[i] ≤ zs[j] := fun i j hi hj hij => List.pairwise_iff_getElem.1 hs i j hi hj hij
  have hm : m < zs.length := by omega
  rw [compactUpTo_succ, hg m hm, List.take_succ_eq_append_getElem hm]
  by_cases hk : keeps zs.toArray m = true
  ·rw [if_pos hk]
   refine ⟨List.pairwise_append.2 ⟨h1, List.pairwise_singleton _ _, fun x hx y hy => ?_⟩, fun x => by rw [List.mem_append, List.mem_append, h2 x]⟩
   rw [List.mem_singleton.1 hy]
   obtain ⟨i, hi, rfl⟩ := List.getElem_of_mem ((h2 x).1 hx)
   have hi' : i < m := by simp at hi; omega
   rw [List.getElem_take]
   simp only [keeps, decide_eq_true_eq] at hk
   rcases hk with hk | hk
   ·omega
   ·rw [hg m hm, hg (m - 1) (by omega)] at hk
    have k1 : zs[i] ≤ zs[m - 1] := by
     rcases Nat.lt_or_ge i (m - 1) with q | q
     ·exact hle i (m - 1) _ _ q
     ·have e : i = m - 1 := by omega
      subst e; exact Int.le_refl _
    have k2 := hle (m - 1) m (by omega) hm (by omega)
    omega
  ·rw [if_neg hk, List.append_nil]
   refine ⟨h1, fun x => ?_⟩
   rw [h2 x, List.mem_append, List.mem_singleton]
   refine ⟨.inl, fun hx => hx.elim id fun e => ?_⟩
   simp only [keeps, decide_eq_true_eq, not_or, Decidable.not_not] at hk
   rw [hg m hm, hg (m - 1) (by omega)] at hk
   rw [e, hk.2]
   have : m - 1 < (zs.take m).length := by simp; omega
   have e2 : (zs.take m)[m - 1] = zs[m - 1] := List.getElem_take
   rw [← e2]
   exact List.getElem_mem this
theorem srt_le (zs : List Int) : (Ye zs).Pairwise (· ≤ ·) := by
 have := List.pairwise_mergeSort (le := fun x y : Int => decide (x ≤ y)) (fun a b c h1 h2 => by simp at *; omega) (fun a b => by simp; omega) zs
 exact this.imp fun h => by simpa using h
theorem v2u (zs : List Int) (x : Int) : x ∈ Ye zs ↔ x ∈ zs := List.mem_mergeSort
theorem z0p (zs : List Int) : Jh zs = z0a zs := by
 obtain ⟨h1, h2⟩ := z7d (Ye zs) (srt_le zs) (Ye zs).length (Nat.le_refl _)
 obtain ⟨s1, s2⟩ := Vr zs
 refine z7c _ _ h1 s1 fun x => ?_
 rw [show Jh zs = compactUpTo (Ye zs).toArray (Ye zs).length from rfl, h2 x, List.take_length, v2u, s2]
end Go.Am
namespace Go.Am
open Go.Proofs Go.Sort Go.Shelf Go.RowKit Go.Lib
namespace Dim
variable {α β : Type} (D : Dim α β)
def ref (sec : Int → List β) (cs : List Int) : Nat → Nat → List α → List β → Nat → List α
 | 0, _, out, _, _ => out
 | k + 1, i, out, last, first =>
  bif decide (0 < i) && D.same (sec (rd cs i)) last then ref sec cs k (i + 1) (D.grow out first (rd cs (i + 1))) last first
  else ref sec cs k (i + 1) (out ++ (sec (rd cs i)).map (D.put (rd cs i) (rd cs (i + 1)))) (sec (rd cs i)) out.length
theorem ref_eq (hs : ∀ a b, D.same a b = true ↔ a = b) (l : List α) : ∀ (k i : Nat) (s : Sw α β) (out : List α) (last : List β) (first : Nat),
  s.out = out → s.last = last → (last ≠ [] → s.first = first) → (last = [] → out.length ≤ first) → (0 < i → s.fin = rd (D.cuts l) i) → (i = 0 → last = []) →
  (D.go l k i s).out = D.ref (D.sec l) (D.cuts l) k i out last first
 | 0, i, s, out, last, first, h1, h2, h3, h4, h5, h6 => h1
 | k + 1, i, s, out, last, first, h1, h2, h3, h4, h5, h6 => by
  subst h1 h2
  have e1 : D.go l (k + 1) i s = D.go l k (i + 1) (D.one l (rd (D.cuts l) i) (rd (D.cuts l) (i + 1)) s) := rfl
  rw [e1]
  unfold ref
  rcases Ya (decide (0 < (D.sec l (rd (D.cuts l) i)).length) && ((s.fin == rd (D.cuts l) i) && D.same s.last (D.sec l (rd (D.cuts l) i)))) with q | q
  ·have e : D.one l (rd (D.cuts l) i) (rd (D.cuts l) (i + 1)) s = ⟨D.grow s.out s.first (rd (D.cuts l) (i + 1)), s.last, s.first, rd (D.cuts l) (i + 1)⟩ := by unfold one; rw [q]; rfl
   simp only [Bool.and_eq_true, decide_eq_true_eq] at q
   obtain ⟨q1, q2, q3⟩ := q
   have q3 := (hs _ _).1 q3
   have hne : s.last ≠ [] := fun h => by rw [h] at q3; rw [← q3] at q1; exact Nat.lt_irrefl _ q1
   have hi : 0 < i := Nat.pos_of_ne_zero fun h => hne (h6 h)
   have e2 : (decide (0 < i) && D.same (D.sec l (rd (D.cuts l) i)) s.last) = true := by
    rw [decide_eq_true hi, Bool.true_and, hs, q3]
   rw [e2, cond_true, e]
   refine ref_eq hs l k (i + 1) _ _ _ _ ?_ rfl h3 (fun h => absurd h hne) (fun _ => rfl) (fun h => by omega)
   rw [h3 hne]
  ·have e : D.one l (rd (D.cuts l) i) (rd (D.cuts l) (i + 1)) s = ⟨s.out ++ (D.sec l (rd (D.cuts l) i)).map (D.put (rd (D.cuts l) i) (rd (D.cuts l) (i + 1))), D.sec l (rd (D.cuts l) i), s.out.length, rd (D.cuts l) (i + 1)⟩ := by unfold one; rw [q]; rfl
   rcases Ya (decide (0 < i) && D.same (D.sec l (rd (D.cuts l) i)) s.last) with q2 | q2
   ·rw [q2, cond_true, e]
    simp only [Bool.and_eq_true, decide_eq_true_eq] at q2
    obtain ⟨hi, q3⟩ := q2
    have q3 := (hs _ _).1 q3
    rw [(hs s.last (D.sec l (rd (D.cuts l) i))).2 q3.symm, Bool.and_true, h5 hi] at q
    have hz : D.sec l (rd (D.cuts l) i) = [] := by
     cases h : D.sec l (rd (D.cuts l) i) with
     | nil => rfl
     | cons a b => rw [h] at q; simp at q
    have hl : s.last = [] := by rw [← q3, hz]
    have hf := h4 hl
    rw [hz, List.map_nil, List.append_nil]
    refine ref_eq hs l k (i + 1) _ _ _ _ ?_ hl.symm (fun h => absurd hl h) (fun _ => ?_) (fun _ => rfl) (fun h => by omega)
    ·exact (D.grow_nil _ _ _ hf).symm
    ·rw [D.grow_length]; exact hf
   ·rw [q2, cond_false, e]
    exact ref_eq hs l k (i + 1) _ _ _ _ rfl rfl (fun _ => rfl) (fun h => by rw [h]; simp) (fun _ => rfl) (fun h => by omega)
theorem out_eq (hs : ∀ a b, D.same a b = true ↔ a = b) (l : List α) : D.out l = D.ref (D.sec l) (D.cuts l) ((D.cuts l).length - 1) 0 [] [] 0 :=
 D.ref_eq hs l _ 0 _ [] [] 0 rfl rfl (fun _ => rfl) (fun _ => Nat.le_refl _) (fun h => absurd h (Nat.lt_irrefl _)) (fun _ => rfl)
end Dim
theorem v8a (l : List R4) : D4.cuts l = xsV l [] := by
 unfold Dim.cuts xsV
 rw [z0p, show z1c ([] : List R4) = [] from rfl, List.append_nil]; rfl
theorem v7q (l : List R4) (x y : Int) : w8h 2 l [] x y = has4V l x y := by
 unfold w8h Kt
 show (has4V l x y || has4V [] x y) = _
 rw [show has4V [] x y = false from rfl, Bool.or_false]
theorem y4d {l : List R4} {x : Int} {s : R2} (h : s ∈ D4.inn l x) : ∃ r ∈ l, r.a ≤ x ∧ x < r.c ∧ s = ⟨r.b, r.d⟩ := by
 obtain ⟨r, hr, e⟩ := List.mem_map.1 h
 obtain ⟨h1, h2⟩ := List.mem_filter.1 hr
 simp only [Bool.and_eq_true, decide_eq_true_eq] at h2
 exact ⟨r, h1, h2.1, h2.2, e.symm⟩
theorem v4r {l : List R4} {x : Int} {r : R4} (h : r ∈ l) (h1 : r.a ≤ x) (h2 : x < r.c) : (⟨r.b, r.d⟩ : R2) ∈ D4.inn l x := by
 refine List.mem_map.2 ⟨r, List.mem_filter.2 ⟨h, ?_⟩, rfl⟩
 simp only [Bool.and_eq_true, decide_eq_true_eq]
 exact ⟨h1, h2⟩
theorem sec_eq (l : List R4) (hv : l.all z2o = true) (hl : l.length ≤ 400) (x : Int) : D4.sec l x = x2k 2 l [] x := by
 have hin := D4.inn_length l x
 have hvi : (D4.inn l x).all z7i = true := List.all_eq_true.2 fun s hs => by
  obtain ⟨r, hr, _, _, rfl⟩ := y4d hs
  have := List.all_eq_true.1 hv r hr
  simp only [z2o, z7i, Bool.and_eq_true, decide_eq_true_eq] at this ⊢
  omega
 have e1 : D4.sec l x = swV (D4.inn l x) := by
  show Xp (D4.inn l x) = _
  unfold Xp
  rw [decide_eq_false (by omega), hvi]; rfl
 obtain ⟨c1, c2⟩ := y8k _ hvi
 obtain ⟨y1, y2⟩ := Vr (Qr l ++ Qr [])
 have e2 : x2k 2 l [] x = z7k (ysV l []) ((ysV l []).map fun y => has4V l x y) := by
  unfold x2k
  congr 1
  exact List.map_congr_left fun y _ => v7q l x y
 obtain ⟨d1, d2⟩ := w8l (ysV l []) y1 (fun y => has4V l x y) (D4.inn l x) (fun s hs => by
  obtain ⟨r, hr, _, _, rfl⟩ := y4d hs
  unfold ysV
  exact ⟨(y2 _).2 (List.mem_append.2 (.inl (List.mem_flatMap.2 ⟨r, hr, by simp⟩))), (y2 _).2 (List.mem_append.2 (.inl (List.mem_flatMap.2 ⟨r, hr, by simp⟩)))⟩) (fun y => by
  unfold has4V
  rw [List.any_eq_true]
  constructor
  ·rintro ⟨r, hr, h⟩
   simp only [in4, Bool.and_eq_true, decide_eq_true_eq] at h
   exact ⟨_, v4r hr h.1 h.2.1, h.2.2.1, h.2.2.2⟩
  ·rintro ⟨s, hs, h1, h2⟩
   obtain ⟨r, hr, r1, r2, rfl⟩ := y4d hs
   refine ⟨r, hr, ?_⟩
   simp only [in4, Bool.and_eq_true, decide_eq_true_eq]
   exact ⟨r1, r2, h1, h2⟩)
 rw [e1, e2]
 exact w2g _ _ c1 d1 fun y => by rw [c2, d2]
theorem w0w (l : List R4) : ∀ (k i : Nat) (out : List R4) (last : List R2) (first : Nat), jF 2 l [] k i out last first = D4.ref (x2k 2 l []) (xsV l []) k i out last first
 | 0, _, _, _, _ => rfl
 | k + 1, i, out, last, first => by
  unfold jF Dim.ref
  rw [w0w l k, w0w l k]
  rfl
theorem joV_eq (l : List R4) (hv : l.all z2o = true) (hl : l.length ≤ 400) : D4.out l = joV 2 l [] := by
 rw [D4.out_eq (fun a b => decide_eq_true_iff) l, joV, w0w, ← v8a]
 congr 1
 funext x
 exact sec_eq l hv hl x
theorem w2w (l : List R6) : D6.cuts l = Yh l [] := by
 unfold Dim.cuts Yh
 rw [z0p, show z1b ([] : List R6) = [] from rfl, List.append_nil]; rfl
theorem v2o (l : List R6) (z : Int) : D6.inn l z = atV l z := rfl
theorem y5o (r : R6) : Ja r = y8j r := by
 unfold Ja y8j
 simp only [v5i, v5j]
 rw [Bool.eq_iff_iff]
 simp only [Bool.and_eq_true, decide_eq_true_eq]
 have m1 : ∀ x y z : Int, x ≤ min y z ↔ x ≤ y ∧ x ≤ z := fun x y z => by omega
 have m2 : ∀ x y z : Int, max y z ≤ x ↔ y ≤ x ∧ z ≤ x := fun x y z => by omega
 simp only [ge_iff_le, m1, m2]
 constructor <;> intro h <;> (repeat' apply And.intro) <;> omega
theorem w2j (l : List R6) (hv : l.all Ja = true) (z : Int) : (atV l z).all z2o = true := List.all_eq_true.2 fun s hs => by
 obtain ⟨r, hr, rfl⟩ := List.mem_map.1 hs
 have := List.all_eq_true.1 hv r (List.mem_filter.1 hr).1
 rw [y5o] at this
 simp only [y8j, Bool.and_eq_true, decide_eq_true_eq] at this
 show z2o ⟨r.a, r.b, r.d, r.e⟩ = true
 simp only [z2o, Bool.and_eq_true, decide_eq_true_eq]
 (repeat' apply And.intro) <;> omega
section
variable (l : List R6) (hv : l.all Ja = true) (hl : l.length ≤ 400)
include hv hl
theorem v2j (z : Int) : D4.out (atV l z) = joV 2 (atV l z) [] := joV_eq _ (w2j l hv z) (Nat.le_trans (Qo l z) hl)
theorem v2i (z : Int) : w8n l z = z7j 2 l [] z := by
 have h1 := v2j l hv hl z
 have h2 := Qo l z
 have e : joV 2 (atV [] z) [] = [] := rfl
 unfold w8n z7j y5h
 rw [e, show atV ([] : List R6) z = [] from rfl, v2o]
 unfold Uc
 rw [decide_eq_false (by omega), w2j l hv z, h1, cond_false, cond_true]
 by_cases h : 400 < (joV 2 (atV l z) []).length
 ·rw [decide_eq_true (show ((joV 2 (atV l z) []).length : Int) > 400 by omega), decide_eq_true h]; rfl
 ·rw [decide_eq_false (show ¬ ((joV 2 (atV l z) []).length : Int) > 400 by omega), decide_eq_false h]; rfl
theorem v3i (z : Int) (h : w8n l z = false) : D6.sec l z = y5h 2 l [] z := by
 have h1 := v2j l hv hl z
 have h2 := Qo l z
 rw [v2i l hv hl] at h
 show Yj (D6.inn l z) = joV 2 (atV l z) (atV [] z)
 rw [v2o]
 unfold Yj
 have h3 : ¬ 400 < (joV 2 (atV l z) []).length := fun hh => by
  unfold z7j y5h at h
  rw [show atV ([] : List R6) z = [] from rfl, decide_eq_true hh] at h
  cases h
 rw [decide_eq_false (by omega), w2j l hv z, h1, cond_false, cond_true, decide_eq_false (by omega)]
 rfl
theorem x0g : ∀ (k i : Nat) (out : List R6) (last : List R4) (first : Nat), jsF 2 l [] k i out last first = bif okF l k i then some (D6.ref (D6.sec l) (D6.cuts l) k i out last first) else none
 | 0, _, _, _, _ => rfl
 | k + 1, i, out, last, first => by
  unfold jsF okF Dim.ref
  rw [← w2w, ← v2i l hv hl]
  rcases Ya (w8n l (rd (D6.cuts l) i)) with q | q
  ·rw [q]; rfl
  ·have := v3i l hv hl _ q
   rw [q, cond_false, cond_false, this, x0g k, x0g k]
   have e : D6.same (y5h 2 l [] (rd (D6.cuts l) i)) last = Up (y5h 2 l [] (rd (D6.cuts l) i)) last := rfl
   rw [e]
   cases (decide (0 < i) && Up (y5h 2 l [] (rd (D6.cuts l) i)) last) <;> rfl
theorem jsO_eq : jsO 2 l [] = bif okF l ((D6.cuts l).length - 1) 0 then some (D6.out l) else none := by
 unfold jsO
 rw [x0g l hv hl, ← w2w, D6.out_eq (fun a b => decide_eq_true_iff) l]
end
theorem w8j (l : List R6) : Yg l = z4a l := by
 unfold Yg z4a
 by_cases h : 400 < l.length
 ·rw [decide_eq_true h]; rfl
 ·rw [decide_eq_false h, cond_false, cond_false, show l.all y8j = l.all Ja from by congr 1; funext r; exact (y5o r).symm]
  rcases Ya (l.all Ja) with hv | hv
  ·rw [hv, cond_true, cond_true]
   unfold rckF y6x z3f
   rw [jsO_eq l hv (by omega)]
   rcases Ya (okF l ((D6.cuts l).length - 1) 0) with q | q
   ·rw [q, cond_true, cond_true]
    show _ = bif decide (((D6.out l).length : Int) ≤ 400) then (bif Ur (D6.out l) l then 0 else 8) else 8
    by_cases h2 : ((D6.out l).length : Int) > 400
    ·rw [decide_eq_true h2, decide_eq_false (by omega)]; rfl
    ·rw [decide_eq_false h2, decide_eq_true (by omega)]; rfl
   ·rw [q]; rfl
  ·rw [hv]; rfl
end Go.Am
namespace Go.Am
def Cg (x y : Int) : Prop := (18446744073709551616 : Int) ∣ x - y
theorem Cg.refl (x : Int) : Cg x x := by unfold Cg; rw [Int.sub_self]; exact Int.dvd_zero _
theorem Cg.trans {x y z : Int} (h : Cg x y) (k : Cg y z) : Cg x z := by unfold Cg at *; omega
theorem Cg.wrap (x : Int) : Cg (IntKind.wrap .i64 x) x := by rw [w64]; unfold Cg; omega
theorem Cg.eq {x y : Int} (h : Cg x y) : IntKind.wrap .i64 x = IntKind.wrap .i64 y := by rw [w64, w64]; unfold Cg at h; omega
theorem Cg.w {x y : Int} (h : Cg x y) : Cg (IntKind.wrap .i64 x) y := (Cg.wrap x).trans h
theorem Cg.is {x y : Int} (h : Cg x y) (hx : -9223372036854775808 ≤ x ∧ x ≤ 9223372036854775807) (hy : -9223372036854775808 ≤ y ∧ y ≤ 9223372036854775807) : x = y := by unfold Cg at h; omega
def ovl (a b c d : Int) : Int := max 0 (min b d - max a c)
def ov (r s : R6) : Int := ovl r.a r.d s.a s.d * ovl r.b r.e s.b s.e * ovl r.c r.f s.c s.f
def nx (d : Int) (r : R6) : R6 :=
 let t := 1 - 2 * Int.tmod d 2
 bif Int.tdiv d 2 == 0 then ⟨r.a + t, r.b, r.c, r.d + t, r.e, r.f⟩ else bif Int.tdiv d 2 == 1 then ⟨r.a, r.b + t, r.c, r.d, r.e + t, r.f⟩ else ⟨r.a, r.b, r.c + t, r.d, r.e, r.f + t⟩
def sm {α : Type} (l : List α) (f : α → Int) : Int := (l.map f).sum
theorem v3a {α : Type} (x : α) (l : List α) (f : α → Int) : sm (x :: l) f = f x + sm l f := by simp [sm]
theorem w3l {α : Type} {l : List α} {f g : α → Int} (h : ∀ x ∈ l, f x = g x) : sm l f = sm l g := by
 unfold sm; rw [List.map_congr_left h]
theorem v2z {α : Type} (l : List α) : sm l (fun _ => 0) = 0 := by
 induction l with
 | nil => rfl
 | cons x l ih => rw [v3a, ih]; rfl
def E2 (d : Int) (X Y : List R6) : Int := sm X fun x => sm Y fun y => ov (nx d x) y
def Eqv (B B' : List R6) : Prop := ∀ f, sm B f = sm B' f
theorem Eqv.refl (X : List R6) : Eqv X X := fun _ => rfl
def c1 (d : Int) (X Y B : List R6) : Int := (E2 d X Y - E2 d B Y) - (E2 d X B - E2 d B B)
end Go.Am
namespace Go.Am
open Go.Proofs
end Go.Am
namespace Go.Am
open Go.Proofs
section
variable (X Y : List R6) (hX : X.length ≤ 10000) (hY : Y.length ≤ 10000)
include hX hY
end
end Go.Am
namespace Go.Am
open Go.Proofs
-- h0: index into an array (choices [true, false, false, false])
end Go.Am
namespace Go.Am
open Go.Proofs
end Go.Am
namespace Go.Am
open Go.Proofs
end Go.Am
namespace Go.Am
open Go.Proofs
end Go.Am
namespace Go.Am
open Go.Proofs
end Go.Am
namespace Go.Am
open Go.Proofs
def Wf (l : List R6) : Bool := true
def z9g (l : List R6) : Bool := true
end Go.Am
namespace Go.Am
open Go.Proofs.Tryz
open Go.Proofs
inductive dreS where
def dreC (l0 : List R6) (l1 : List R6) : dreS → Cfg
 := nofun
def x1c (l0 : List R6) (l1 : List R6) : dreS → Xn dreS
 := nofun
def z8r (l0 : List R6) (l1 : List R6) : Xn dreS := (bif (Wf (cvT l0)) then (bif ((Yg (cvT l0)) != 0) then (.ret [(.int .i64 0), (.int .i64 (Yg (cvT l0)))]) else (bif (Wf (cvT l1)) then (bif ((Yg (cvT l1)) != 0) then (.ret [(.int .i64 0), (.int .i64 (Yg (cvT l1)))]) else (bif ((l1.length : Int) == 0) then (bif (decide ((l0.length : Int) > 0)) then (.ret [(.int .i64 0), (.int .i64 6)]) else (bif (decide ((Wg (l0.length : Int) (l1.length : Int)) > 40)) then (.ret [(.int .i64 0), (.int .i64 4)]) else (bif (Ud (cvT l0) (cvT l1)) then (.ret [(.int .i64 (x2x (cvT l0) (cvT l1))), (.int .i64 0)]) else .stuck))) else (bif (decide ((Wg (l0.length : Int) (l1.length : Int)) > 40)) then (.ret [(.int .i64 0), (.int .i64 4)]) else (bif (Ud (cvT l0) (cvT l1)) then (.ret [(.int .i64 (x2x (cvT l0) (cvT l1))), (.int .i64 0)]) else .stuck)))) else .stuck)) else .stuck)
theorem x6p (l0 : List R6) (l1 : List R6) : ∀ s, Ww prog (Zy prog 16) (dreC l0 l1) (dreC l0 l1 s) (x1c l0 l1 s)
 := nofun
theorem x1d (l0 : List R6) (l1 : List R6) : Ww prog (Zy prog 16) (dreC l0 l1) (Zn prog 16 [(.dat l0.length (Zz l0)), (.dat l1.length (Zz l1))] true []) (z8r l0 l1) := (lo fun cH => (lb (fun k0 => (lr 30 16 [1, 0, 1, 1, 0, 0] 1 16 [(4, (ii 0)), (5, (ii (Yg (cvT l0))))] (sl z5n 48 [] ⟨[], [], [some [4, 5]], []⟩ ⟨[], [], []⟩ [true, true] (tt k0 (tt k0 (pp (pp (xr l0) (xw cH)) nn)))))) (fun k0 => (lo fun aH => (lb (fun k1 => (lr 30 16 [1, 0, 1, 1, 0, 0] 1 16 [(4, (ii 0)), (5, (ii (Yg (cvT l1))))] (sl z5n 50 [] ⟨[], [], [some [4, 5]], []⟩ ⟨[], [], []⟩ [false, true] (tt k1 (pp (pp (xr l1) (xw aH)) (tt k0 (pp (pp (xr l0) (xw cH)) nn))))))) (fun k1 => (lb (fun k2 => (lb (fun k3 => (lr 30 16 [1, 1, 0, 1, 0, 0] 1 16 [(4, (ii 0)), (5, (ii 6))] (sl z5n 63 [] ⟨[], [], [some [4, 5]], []⟩ ⟨[], [], []⟩ [false, false, true, true, true, true] (tt k3 (tt k2 (tt k1 (pp (pp (xr l1) (xw aH)) (tt k0 (pp (pp (xr l0) (xw cH)) nn))))))))) (fun k3 => (lb (fun k4 => (lr 30 16 [1, 1, 1, 0, 1, 0, 0] 1 16 [(4, (ii 0)), (5, (ii 4))] (sl z5n 75 [] ⟨[], [], [some [4, 5]], []⟩ ⟨[], [], []⟩ [false, false, true, true, true, false, true] (tt k4 (tt k3 (tt k2 (tt k1 (pp (pp (xr l1) (xw aH)) (tt k0 (pp (pp (xr l0) (xw cH)) nn)))))))))) (fun k4 => (lo fun o0 => (lr 30 3 [1, 1, 1, 1, 1, 1, 0] 1 16 [(4, (ii (x2x (cvT l0) (cvT l1)))), (5, (ii 0))] (sl z5n 79 [] ⟨[], [], [some [4, 5]], []⟩ ⟨[], [], []⟩ [false, false, true, true, true, false, false] (pp (pp (xr l0) (pp (xr l1) (xw o0))) (tt k4 (tt k3 (tt k2 (tt k1 (pp (pp (xr l1) (xw aH)) (tt k0 (pp (pp (xr l0) (xw cH)) nn)))))))))))))))) (fun k2 => (lb (fun k3 => (lr 30 16 [1, 1, 1, 0, 1, 0, 0] 1 16 [(4, (ii 0)), (5, (ii 4))] (sl z5n 75 [] ⟨[], [], [some [4, 5]], []⟩ ⟨[], [], []⟩ [false, false, false, false, false, false, true] (tt k3 (tt k2 (tt k1 (pp (pp (xr l1) (xw aH)) (tt k0 (pp (pp (xr l0) (xw cH)) nn))))))))) (fun k3 => (lo fun o0 => (lr 30 3 [1, 1, 1, 1, 1, 1, 0] 1 16 [(4, (ii (x2x (cvT l0) (cvT l1)))), (5, (ii 0))] (sl z5n 79 [] ⟨[], [], [some [4, 5]], []⟩ ⟨[], [], []⟩ [false, false, false, false, false, false, false] (pp (pp (xr l0) (pp (xr l1) (xw o0))) (tt k3 (tt k2 (tt k1 (pp (pp (xr l1) (xw aH)) (tt k0 (pp (pp (xr l0) (xw cH)) nn))))))))))))))))))))
theorem w7m (l0 : List R6) (l1 : List R6) (n : Nat) (vs : List AVal) (h : Yv (x1c l0 l1) n (z8r l0 l1) = .ret vs) : Kz prog (Zy prog 16) (Zn prog 16 [(.dat l0.length (Zz l0)), (.dat l1.length (Zz l1))] true []) vs := by
 have := Zr (x6p l0 l1) n _ (x1d l0 l1)
 rwa [h] at this
inductive ddiS where
def ddiC (l0 : List R6) (l1 : List R6) : ddiS → Cfg
 := nofun
def x1f (l0 : List R6) (l1 : List R6) : ddiS → Xn ddiS
 := nofun
def z8t (l0 : List R6) (l1 : List R6) : Xn ddiS := (bif (Wf (cvT l0)) then (bif ((Yg (cvT l0)) != 0) then (.ret [(.int .i64 0), (.int .i64 (Yg (cvT l0)))]) else (bif (Wf (cvT l1)) then (bif ((Yg (cvT l1)) != 0) then (.ret [(.int .i64 0), (.int .i64 (Yg (cvT l1)))]) else (bif ((l0.length : Int) == 0) then (.ret [(.int .i64 0), (.int .i64 6)]) else (bif ((l1.length : Int) == 0) then (.ret [(.int .i64 0), (.int .i64 6)]) else (bif (decide ((Wg (l0.length : Int) (l1.length : Int)) > 40)) then (.ret [(.int .i64 0), (.int .i64 4)]) else (bif (Ud (cvT l0) (cvT l1)) then (bif (Ud (cvT l1) (cvT l0)) then (.ret [(.int .i64 (Wg (x2x (cvT l0) (cvT l1)) (x2x (cvT l1) (cvT l0)))), (.int .i64 0)]) else .stuck) else .stuck))))) else .stuck)) else .stuck)
theorem x6r (l0 : List R6) (l1 : List R6) : ∀ s, Ww prog (Zy prog 18) (ddiC l0 l1) (ddiC l0 l1 s) (x1f l0 l1 s)
 := nofun
theorem x1g (l0 : List R6) (l1 : List R6) : Ww prog (Zy prog 18) (ddiC l0 l1) (Zn prog 18 [(.dat l0.length (Zz l0)), (.dat l1.length (Zz l1))] true []) (z8t l0 l1) := (lo fun cH => (lb (fun k0 => (lr 34 18 [1, 0, 1, 1, 0, 0] 1 16 [(4, (ii 0)), (5, (ii (Yg (cvT l0))))] (sl z5n 48 [] ⟨[], [], [some [4, 5]], []⟩ ⟨[], [], []⟩ [true, true] (tt k0 (tt k0 (pp (pp (xr l0) (xw cH)) nn)))))) (fun k0 => (lo fun aH => (lb (fun k1 => (lr 34 18 [1, 0, 1, 1, 0, 0] 1 16 [(4, (ii 0)), (5, (ii (Yg (cvT l1))))] (sl z5n 50 [] ⟨[], [], [some [4, 5]], []⟩ ⟨[], [], []⟩ [false, true] (tt k1 (pp (pp (xr l1) (xw aH)) (tt k0 (pp (pp (xr l0) (xw cH)) nn))))))) (fun k1 => (lb (fun k2 => (lr 34 18 [1, 1, 0, 1, 0, 0] 1 16 [(4, (ii 0)), (5, (ii 6))] (sl z5n 63 [] ⟨[], [], [some [4, 5]], []⟩ ⟨[], [], []⟩ [false, false, true, true, true, true] (tt k2 (tt k1 (pp (pp (xr l1) (xw aH)) (tt k0 (pp (pp (xr l0) (xw cH)) nn)))))))) (fun k2 => (lb (fun k3 => (lr 34 18 [1, 1, 0, 1, 0, 0] 1 16 [(4, (ii 0)), (5, (ii 6))] (sl z5n 63 [] ⟨[], [], [some [4, 5]], []⟩ ⟨[], [], []⟩ [false, false, false, false, false, true] (tt k3 (tt k2 (tt k1 (pp (pp (xr l1) (xw aH)) (tt k0 (pp (pp (xr l0) (xw cH)) nn))))))))) (fun k3 => (lb (fun k4 => (lr 34 18 [1, 1, 1, 0, 1, 0, 0] 1 16 [(4, (ii 0)), (5, (ii 4))] (sl z5n 75 [] ⟨[], [], [some [4, 5]], []⟩ ⟨[], [], []⟩ [false, false, false, false, false, false, true] (tt k4 (tt k3 (tt k2 (tt k1 (pp (pp (xr l1) (xw aH)) (tt k0 (pp (pp (xr l0) (xw cH)) nn)))))))))) (fun k4 => (lo fun o0 => (lo fun o1 => (lr 34 3 [1, 1, 1, 1, 1, 1, 0] 1 16 [(4, (ii (Wg (x2x (cvT l0) (cvT l1)) (x2x (cvT l1) (cvT l0))))), (5, (ii 0))] (sl z5n 83 [] ⟨[], [], [some [4, 5]], []⟩ ⟨[], [], []⟩ [false, false, false, false, false, false, false] (pp (pp (xr l1) (pp (xr l0) (xw o1))) (pp (pp (xr l0) (pp (xr l1) (xw o0))) (tt k4 (tt k3 (tt k2 (tt k1 (pp (pp (xr l1) (xw aH)) (tt k0 (pp (pp (xr l0) (xw cH)) nn)))))))))))))))))))))))))
theorem w7p (l0 : List R6) (l1 : List R6) (n : Nat) (vs : List AVal) (h : Yv (x1f l0 l1) n (z8t l0 l1) = .ret vs) : Kz prog (Zy prog 18) (Zn prog 18 [(.dat l0.length (Zz l0)), (.dat l1.length (Zz l1))] true []) vs := by
 have := Zr (x6r l0 l1) n _ (x1g l0 l1)
 rwa [h] at this
end Go.Am
namespace Go.Am
open Go.Proofs Go.Sort Go.Shelf Go.RowKit Go.Lib
namespace Dim
variable {α β : Type} (D : Dim α β)
structure Fair : Prop where
 lo_put : ∀ x x' b, D.lo (D.put x x' b) = x
 hi_put : ∀ x x' b, D.hi (D.put x x' b) = x'
 pr_put : ∀ x x' b, D.pr (D.put x x' b) = b
 ext_put : ∀ x x' x'' b, D.ext x'' (D.put x x' b) = D.put x x'' b
def Ap (R : β → β → Prop) (a b : α) : Prop := D.hi a ≤ D.lo b ∨ D.hi b ≤ D.lo a ∨ R (D.pr a) (D.pr b)
theorem x9j {D : Dim α β} (hD : D.Fair) (R : β → β → Prop) (sec : Int → List β) (cs : List Int) (hc : cs.Pairwise (· < ·)) (fD : ∀ x, (sec x).Pairwise R) :
  ∀ (k i : Nat) (pre : List α) (last : List β) (x0 : Int), (i + k < cs.length ∨ k = 0) → pre.Pairwise (D.Ap R) → (∀ a ∈ pre, D.hi a ≤ x0) → (last ≠ [] → x0 ≤ rd cs i) → (last = [] → x0 ≤ rd cs i) → last.Pairwise R →
  (D.ref sec cs k i (pre ++ last.map (D.put x0 (rd cs i))) last pre.length).Pairwise (D.Ap R) := by
 have fin : ∀ (pre : List α) (last : List β) (x0 x' : Int), pre.Pairwise (D.Ap R) → (∀ a ∈ pre, D.hi a ≤ x0) → last.Pairwise R → (pre ++ last.map (D.put x0 x')).Pairwise (D.Ap R) := fun pre last x0 x' h1 h2 h3 => by
  refine List.pairwise_append.2 ⟨h1, ?_, fun a ha b hb => ?_⟩
  ·refine List.pairwise_map.2 (h3.imp fun {a b} h => .inr (.inr ?_))
   rw [hD.pr_put, hD.pr_put]; exact h
  ·obtain ⟨c, _, rfl⟩ := List.mem_map.1 hb
   exact .inl (by rw [hD.lo_put]; exact h2 a ha)
 intro k
 induction k with
 | zero => intro i pre last x0 _ h1 h2 _ _ h3; exact fin pre last x0 _ h1 h2 h3
 | succ k ih =>
  intro i pre last x0 hk h1 h2 h4 h5 h3
  have hlt : rd cs i < rd cs (i + 1) := y3u hc (Nat.lt_succ_self _) (by omega)
  unfold ref
  cases hq : (decide (0 < i) && D.same (sec (rd cs i)) last) with
  | true =>
   rw [cond_true]
   have e : D.grow (pre ++ last.map (D.put x0 (rd cs i))) pre.length (rd cs (i + 1)) = pre ++ last.map (D.put x0 (rd cs (i + 1))) := by
    unfold grow
    rw [List.take_left, List.drop_left, List.map_map]
    congr 1
    exact List.map_congr_left fun b _ => hD.ext_put _ _ _ _
   rw [e]
   exact ih (i + 1) pre last x0 (by omega) h1 h2 (fun h => by have := h4 h; omega) (fun h => by have := h5 h; omega) h3
  | false =>
   rw [cond_false]
   refine ih (i + 1) (pre ++ last.map (D.put x0 (rd cs i))) (sec (rd cs i)) (rd cs i) (by omega) (fin pre last x0 _ h1 h2 h3) (fun a ha => ?_) (fun _ => by omega) (fun _ => by omega) (fD _)
   rcases List.mem_append.1 ha with ha | ha
   ·have := h2 a ha
    by_cases e : last = []
    ·have := h5 e; omega
    ·have := h4 e; omega
   ·obtain ⟨c, _, rfl⟩ := List.mem_map.1 ha
    rw [hD.hi_put]; exact Int.le_refl _
theorem out_apart {D : Dim α β} (hD : D.Fair) (R : β → β → Prop) (hs : ∀ a b, D.same a b = true ↔ a = b) (l : List α) (fD : ∀ x, (D.sec l x).Pairwise R) : (D.out l).Pairwise (D.Ap R) := by
 rw [D.out_eq hs l]
 have hc : (D.cuts l).Pairwise (· < ·) := by
  show (Jh (D.ends l)).Pairwise (· < ·)
  rw [z0p]; exact (Vr _).1
 have := x9j hD R (D.sec l) (D.cuts l) hc fD ((D.cuts l).length - 1) 0 [] [] (rd (D.cuts l) 0) (by omega) .nil (by simp) (fun _ => Int.le_refl _) (fun _ => Int.le_refl _) .nil
 exact this
end Dim
theorem x2f : D4.Fair := ⟨fun _ _ _ => rfl, fun _ _ _ => rfl, fun _ _ _ => rfl, fun _ _ _ _ => rfl⟩
theorem y5g : D6.Fair := ⟨fun _ _ _ => rfl, fun _ _ _ => rfl, fun _ _ _ => rfl, fun _ _ _ _ => rfl⟩
def Ap2 (s t : R2) : Prop := s.b ≤ t.a ∨ t.b ≤ s.a
def Ap4 (s t : R4) : Prop := s.c ≤ t.a ∨ t.c ≤ s.a ∨ s.d ≤ t.b ∨ t.d ≤ s.b
def Ap6 (s t : R6) : Prop := s.d ≤ t.a ∨ t.d ≤ s.a ∨ s.e ≤ t.b ∨ t.e ≤ s.b ∨ s.f ≤ t.c ∨ t.f ≤ s.c
theorem x7y (l : List R2) : (Xp l).Pairwise Ap2 := by
 unfold Xp
 by_cases h : 400 < l.length
 ·rw [decide_eq_true h]; exact .nil
 ·rw [decide_eq_false h, cond_false]
  cases hv : l.all z7i with
  | false => exact .nil
  | true =>
   rw [cond_true]
   exact (y8k l hv).1.sep.imp fun {s t} h => .inl (by omega)
theorem x9g (l : List R4) : (Yj l).Pairwise Ap4 := by
 have key : (D4.out l).Pairwise Ap4 := (Dim.out_apart x2f Ap2 (fun a b => decide_eq_true_iff) l fun x => x7y _).imp fun {s t} h => by
  rcases h with h | h | h | h
  ·exact .inl h
  ·exact .inr (.inl h)
  ·exact .inr (.inr (.inl h))
  ·exact .inr (.inr (.inr h))
 unfold Yj
 by_cases h : 400 < l.length
 ·rw [decide_eq_true h]; exact .nil
 ·rw [decide_eq_false h, cond_false]
  cases l.all z2o with
  | false => exact .nil
  | true =>
   rw [cond_true]
   cases decide (((D4.out l).length : Int) > 400) with
   | true => exact .nil
   | false => exact key
theorem z0c {l : List R6} (h : Yg l = 0) : l.length ≤ 400 ∧ (∀ r ∈ l, Ja r = true) ∧ l = D6.out l ∧ l.Pairwise Ap6 := by
 unfold Yg at h
 by_cases h1 : 400 < l.length
 ·rw [decide_eq_true h1] at h; cases h
 ·rw [decide_eq_false h1, cond_false] at h
  cases hv : l.all Ja with
  | false => rw [hv] at h; cases h
  | true =>
   rw [hv, cond_true] at h
   cases ho : okF l ((D6.cuts l).length - 1) 0 with
   | false => rw [ho] at h; cases h
   | true =>
    rw [ho, cond_true] at h
    cases h2 : decide (((D6.out l).length : Int) > 400) with
    | true => rw [h2] at h; cases h
    | false =>
     rw [h2, cond_false] at h
     cases h3 : Ur (D6.out l) l with
     | false => rw [h3] at h; cases h
     | true =>
      have e : D6.out l = l := of_decide_eq_true h3
      refine ⟨by omega, fun r hr => List.all_eq_true.1 hv r hr, e.symm, ?_⟩
      have := (Dim.out_apart y5g Ap4 (fun a b => decide_eq_true_iff) l fun x => x9g _).imp (S := Ap6) fun {s t} h => by
       rcases h with h | h | h | h | h | h
       ·exact .inr (.inr (.inr (.inr (.inl h))))
       ·exact .inr (.inr (.inr (.inr (.inr h))))
       ·exact .inl h
       ·exact .inr (.inl h)
       ·exact .inr (.inr (.inl h))
       ·exact .inr (.inr (.inr (.inl h)))
      rwa [e] at this
theorem Wo {r : R6} (h : Ja r = true) : r.a < r.d ∧ r.b < r.e ∧ r.c < r.f ∧ -1000000 ≤ r.a ∧ -1000000 ≤ r.b ∧ -1000000 ≤ r.c ∧ r.d ≤ 1000000 ∧ r.e ≤ 1000000 ∧ r.f ≤ 1000000 := by
 rw [y5o] at h
 simp only [y8j, Bool.and_eq_true, decide_eq_true_eq] at h
 omega
end Go.Am
namespace Go.Am
open Go.Proofs.Tryz
open Go.Proofs
theorem z7y (l : List R6) : Wf l = true := rfl
theorem w4n (l : List R6) : z9g l = true := rfl
def eRe (k : List R6 → Int) (L0 L1 : List R6) : Int := bif k L0 != 0 then k L0 else bif k L1 != 0 then k L1 else bif decide ((L0.length : Int) > 0) && ((L1.length : Int) == 0) then 6 else bif decide ((L0.length : Int) > 40) || decide ((L1.length : Int) > 40) then 4 else 0
def eDi (k : List R6 → Int) (L0 L1 : List R6) : Int := bif k L0 != 0 then k L0 else bif k L1 != 0 then k L1 else bif ((L0.length : Int) == 0) || ((L1.length : Int) == 0) then 6 else bif decide ((L0.length : Int) > 40) || decide ((L1.length : Int) > 40) then 4 else 0
def Vo (L0 L1 : List R6) : Int := eRe Yg L0 L1
def Wv (L0 L1 : List R6) : Int := bif eRe Yg L0 L1 == 0 then x2x L0 L1 else 0
def z5a (L0 L1 : List R6) : Int := eDi Yg L0 L1
def z5b (L0 L1 : List R6) : Int := bif eDi Yg L0 L1 == 0 then Wg (x2x L0 L1) (x2x L1 L0) else 0
def Wc (L0 L1 : List R6) : Bool := true
def z4z (L0 L1 : List R6) : Bool := true
theorem v1n (a b : Int) : decide (Wg a b > 40) = (decide (a > 40) || decide (b > 40)) := by
 unfold Wg
 split
 ·rcases Ya (decide (b > 40)) with h | h
  ·rw [h, Bool.or_true]
  ·have := of_decide_eq_false h
   rw [h, Xz (by omega)]; rfl
 ·rcases Ya (decide (a > 40)) with h | h
  ·rw [h]; rfl
  ·have := of_decide_eq_false h
   rw [h, Xz (by omega)]; rfl
theorem x9s {L0 L1 : List R6} (h0 : ¬ ((L0.length : Int) > 40)) (h1 : ¬ ((L1.length : Int) > 40)) : Ud L0 L1 = true := by
 unfold Ud; rw [Yz (by omega), Yz (by omega)]; rfl
theorem y5i {L : List R6} (h : decide ((L.length : Int) > 0) = false) : ((L.length : Int) == 0) = true := by
 have := of_decide_eq_false h
 exact beq_t' (by omega)
theorem v7f (L0 L1 : List R6) (h : Wc L0 L1 = true) : ∃ N, Yv (x1c L0 L1) N (z8r L0 L1) = .ret [.int .i64 (Wv L0 L1), .int .i64 (Vo L0 L1)] := ⟨0, by
 have hk : ∀ l, (Yg l != 0) = !(Yg l == 0) := fun _ => rfl
 unfold z8r Wv Vo eRe
 simp only [Zb, z7y, cond_true, v1n, hk]
 rcases Ya (Yg L0 == 0) with a0 | a0 <;> rcases Ya (Yg L1 == 0) with a1 | a1 <;> rcases Ya ((L1.length : Int) == 0) with b | b <;> rcases Ya (decide ((L0.length : Int) > 0)) with c | c <;> rcases Ya (decide ((L0.length : Int) > 40)) with d | d <;> rcases Ya (decide ((L1.length : Int) > 40)) with e | e <;> rw [a0, a1, b, c, d, e] <;>
  simp only [Bool.not_true, Bool.not_false, Bool.and_true, Bool.and_false, Bool.true_and, Bool.false_and, Bool.or_true, Bool.or_false, Bool.true_or, Bool.false_or, cond_true, cond_false, a0, a1] <;>
  first | rfl | (rw [x9s (of_decide_eq_false d) (of_decide_eq_false e)]; rfl)⟩
theorem v7k (L0 L1 : List R6) (h : z4z L0 L1 = true) : ∃ N, Yv (x1f L0 L1) N (z8t L0 L1) = .ret [.int .i64 (z5b L0 L1), .int .i64 (z5a L0 L1)] := ⟨0, by
 have hk : ∀ l, (Yg l != 0) = !(Yg l == 0) := fun _ => rfl
 unfold z8t z5b z5a eDi
 simp only [Zb, z7y, cond_true, v1n, hk]
 rcases Ya (Yg L0 == 0) with a0 | a0 <;> rcases Ya (Yg L1 == 0) with a1 | a1 <;> rcases Ya ((L1.length : Int) == 0) with b | b <;> rcases Ya ((L0.length : Int) == 0) with c | c <;> rcases Ya (decide ((L0.length : Int) > 40)) with d | d <;> rcases Ya (decide ((L1.length : Int) > 40)) with e | e <;> rw [a0, a1, b, c, d, e] <;>
  simp only [Bool.not_true, Bool.not_false, Bool.and_true, Bool.and_false, Bool.true_and, Bool.false_and, Bool.or_true, Bool.or_false, Bool.true_or, Bool.false_or, cond_true, cond_false, a0, a1] <;>
  first | rfl | (rw [x9s (of_decide_eq_false d) (of_decide_eq_false e), x9s (of_decide_eq_false e) (of_decide_eq_false d)]; rfl)⟩
def fDre : List AVal → Option (AVal × Bool)
 | [a0, a1] => match asL R6 a0, asL R6 a1 with
  | some (L0, g0, n0), some (L1, g1, n1) => some (.tup [.int .i64 (Wv L0 L1), .int .i64 (Vo L0 L1)], isT R6 n0 g0 && (isT R6 n1 g1 && (Wc L0 L1)))
  | _, _ => none
 | _ => none
theorem v6q {S : Specs} (hS : Zu prog S) : Zu prog (S.with w0n fDre) := by
 refine z2g hS (by kernel_rfl) fun args v h => ?_
 unfold fDre at h
 split at h
 ·rename_i a0 a1
  split at h
  ·rename_i L0 g0 n0 L1 g1 n1 e0 e1
   simp only [Option.some.injEq, Prod.mk.injEq, Bool.and_eq_true] at h
   obtain ⟨rfl, ho0, ho1, hw⟩ := h
   obtain ⟨N, hN⟩ := v7f L0 L1 hw
   exact ⟨_, _, (.cons (asL_le e0 ho0) (.cons (asL_le e1 ho1) .nil)), rfl, w7m L0 L1 N _ hN, 3, rfl⟩
  ·cases h
 ·cases h
def fDdi : List AVal → Option (AVal × Bool)
 | [a0, a1] => match asL R6 a0, asL R6 a1 with
  | some (L0, g0, n0), some (L1, g1, n1) => some (.tup [.int .i64 (z5b L0 L1), .int .i64 (z5a L0 L1)], isT R6 n0 g0 && (isT R6 n1 g1 && (z4z L0 L1)))
  | _, _ => none
 | _ => none
theorem v6r {S : Specs} (hS : Zu prog S) : Zu prog (S.with v0y fDdi) := by
 refine z2g hS (by kernel_rfl) fun args v h => ?_
 unfold fDdi at h
 split at h
 ·rename_i a0 a1
  split at h
  ·rename_i L0 g0 n0 L1 g1 n1 e0 e1
   simp only [Option.some.injEq, Prod.mk.injEq, Bool.and_eq_true] at h
   obtain ⟨rfl, ho0, ho1, hw⟩ := h
   obtain ⟨N, hN⟩ := v7k L0 L1 hw
   exact ⟨_, _, (.cons (asL_le e0 ho0) (.cons (asL_le e1 ho1) .nil)), rfl, w7p L0 L1 N _ hN, 3, rfl⟩
  ·cases h
 ·cases h
def Dd : Specs := ((Dc.with w0n fDre).with v0y fDdi)
theorem Ua : Zu prog Dd := (v6r (v6q z5n))
end Go.Am
namespace Go.Am
open Go.Proofs.Tryz
open Go.Proofs
inductive slmS where
 | h0 (v8 : Int)
 | h1 (v16 : Int) (aA : List Int)
 | h2 (v4 : Int) (aC : List R6) (bV : List R4) (cC : Int) (cD : Int) (aJ : Nat) (aM : List Int)
 | h3 (v4 : Int) (v38 : Int) (aC : List R6) (bV : List R4) (cC : Int) (cD : Int) (aJ : Nat) (aM : List Int) (bS : Int) (cI : Int) (aD : List R4)
 | h4 (v1 : Int) (v2 : Int) (v72 : List R4) (v73 : Int) (v74 : Int) (bT : List R4) (bH : Int) (aG : List R6) (bR : List R4) (bY : Int) (aJ : Nat) (aM : List Int) (bS : List R4)
 | h5 (v2 : Int) (v8 : Int) (cN : Int) (bT : List R4) (bH : Int) (aG : List R6) (bR : List R4) (bY : Int) (cR : Int) (cE : Nat) (cL : List Int) (aD : List R4)
def slmC (l0 : List R6) : slmS → Cfg
 | .h0 v8 => ⟨⟨19, 0, true⟩, none, (Za prog 134 [1, 0, 1, 0, 0] 0), none, (Zy prog 3), ⟨Yk [(0, (.dat l0.length (Zz l0))), (1, (.fn 113 [])), (7, (ii (l0.length : Int))), (8, (ii v8))], Vn [] 0, 0, [], true⟩, [⟨⟨9, 0, true⟩, (Vk prog 112 [1, 0] 2), (Za prog 112 [1, 0] 1), none, (Zy prog 3), Yk [(5, (.dat l0.length (Zz l0))), (6, (.fn 113 []))]⟩, ⟨⟨15, 0, true⟩, (Vk prog 77 [1, 1, 0, 0] 1), (Za prog 77 [1, 1, 0, 0] 1), none, (Zy prog 77), Yk [(0, (.dat l0.length (Zz l0))), (7, (.dat l0.length (Zz l0)))]⟩], .leaf⟩
 | .h1 v16 aA => ⟨⟨36, 0, true⟩, none, (Za prog 129 [1, 1, 0, 1, 0, 0, 1, 1, 0, 0, 1, 1, 0, 0] 0), none, (Zy prog 15), ⟨Yk [(1, (.ptr 0 0)), (3, (.ptr 2 0)), (8, (.sl 1 0 1 (.un 1))), (9, (ii 1)), (10, (ii 0)), (14, (.dat l0.length (Zz l0))), (15, (ii (l0.length : Int))), (16, (ii v16))], Vn [⟨[(.sl 1 0 1 (.un 1))], 168, none⟩, ⟨[(.dat l0.length (Zz l0))], 22, none⟩, ⟨[(.sla 7 1 0 aA.length (.un 1))], 47, none⟩, ⟨[.nilf], 124, none⟩, ⟨[.nils], 30, none⟩, ⟨[(ii 0)], 24, none⟩, ⟨[.nils, .nils, (ii 0), (ii 0)], 170, none⟩, ⟨rows aA.length (Zz aA), 3, some ⟨1, aA.length, (Zz aA)⟩⟩] 0, 8, [], true⟩, [⟨⟨65, 0, true⟩, (Vk prog 108 [1, 1, 0, 0] 1), (Za prog 108 [1, 1, 0, 0] 1), none, (Zy prog 36), Yk [(2, (.ptr 3 0)), (4, (.ptr 4 0)), (5, (.ptr 5 0)), (6, (.ptr 6 0)), (13, (.sl 1 0 1 (.un 1)))]⟩, ⟨⟨15, 0, true⟩, (Vk prog 77 [1, 1, 1, 0] 3), (Za prog 77 [1, 1, 1, 0] 1), none, (Zy prog 77), Yk [(9, (.agg [.nilf])), (11, (.sl 1 0 1 (.un 1)))]⟩], .leaf⟩
 | .h2 v4 aC bV cC cD aJ aM => ⟨⟨86, 0, true⟩, none, (Za prog 150 [1, 0, 0] 0), none, [], ⟨Yk [(0, (.yld 0)), (1, (.ptr 5 0)), (2, (.ptr 7 0)), (4, (ii v4))], z4j [(1, ⟨[.nilf], 124, none⟩), (2, ⟨[.nils], 30, none⟩), (3, ⟨[(ii 0)], 24, none⟩), (4, ⟨[(.sla 9 6 0 aC.length (.un 6)), (.dat bV.length (Zz bV)), (ii cC), (ii cD)], 170, none⟩), (5, ⟨[(.sla 6 1 0 aJ (.un 1))], 47, none⟩), (6, ⟨rows aM.length (Zz aM), 3, some ⟨1, aM.length, (Zz aM)⟩⟩), (7, ⟨[(.sl 8 0 1 (.un 1))], 168, none⟩), (8, ⟨[(.dat l0.length (Zz l0))], 22, none⟩), (9, ⟨rows aC.length (Zz aC), 68, some ⟨6, aC.length, (Zz aC)⟩⟩)], 10, [], true⟩, [⟨⟨65, 0, true⟩, none, (.inRangeFunc 0 :: (Za prog 108 [1, 1, 0, 1, 0] 1)), none, (Zy prog 36), Yk [(4, (.ptr 2 0)), (5, (.ptr 3 0)), (6, (.ptr 4 0))]⟩, ⟨⟨15, 0, true⟩, (Vk prog 77 [1, 1, 1, 0] 3), (Za prog 77 [1, 1, 1, 0] 1), none, (Zy prog 77), Yk [(9, (.agg [.nilf])), (11, (.sl 8 0 1 (.un 1)))]⟩], (z4l [(0, ⟨.ready, none, 65, Yk [(2, (.ptr 1 0)), (4, (.ptr 2 0)), (5, (.ptr 3 0)), (6, (.ptr 4 0))], [15], (Xi prog 108 [1, 1, 0, 1, 0, 0]), (Xi prog 108 [1, 1, 0, 1, 0, 1])⟩)])⟩
 | .h3 v4 v38 aC bV cC cD aJ aM bS cI aD => ⟨⟨86, 0, true⟩, none, (Za prog 150 [1, 0, 0, 1, 0, 0, 1, 0, 1, 0, 0, 1, 1, 0, 0, 1, 1, 0, 0] 0), none, [], ⟨Yk [(0, (.yld 0)), (1, (.ptr 5 0)), (2, (.ptr 7 0)), (4, (ii v4)), (5, (.ptr 9 0)), (6, (ii 0)), (29, (.sl 8 0 1 (.un 1))), (30, (ii 1)), (31, (ii 0)), (36, (.dat l0.length (Zz l0))), (37, (ii (l0.length : Int))), (38, (ii v38))], z4j [(1, ⟨[.nilf], 124, none⟩), (2, ⟨[.nils], 30, none⟩), (3, ⟨[(ii 0)], 24, none⟩), (4, ⟨[(.sla 12 6 0 aC.length (.un 6)), (.dat bV.length (Zz bV)), (ii cC), (ii cD)], 170, none⟩), (5, ⟨[(.sla 6 1 0 aJ (.un 1))], 47, none⟩), (6, ⟨rows aM.length (Zz aM), 3, some ⟨1, aM.length, (Zz aM)⟩⟩), (7, ⟨[(.sl 8 0 1 (.un 1))], 168, none⟩), (8, ⟨[(.dat l0.length (Zz l0))], 22, none⟩), (9, ⟨[(ii bS), (ii cI), (.sl 10 0 1 (.ex 1))], 175, none⟩), (10, ⟨[(.sla 11 4 0 aD.length (.un 4))], 105, none⟩), (11, ⟨rows aD.length (Zz aD), 114, some ⟨4, aD.length, (Zz aD)⟩⟩), (12, ⟨rows aC.length (Zz aC), 68, some ⟨6, aC.length, (Zz aC)⟩⟩)], 13, [], true⟩, [⟨⟨65, 0, true⟩, none, (.inRangeFunc 0 :: (Za prog 108 [1, 1, 0, 1, 0] 1)), none, (Zy prog 36), Yk [(4, (.ptr 2 0)), (5, (.ptr 3 0)), (6, (.ptr 4 0))]⟩, ⟨⟨15, 0, true⟩, (Vk prog 77 [1, 1, 1, 0] 3), (Za prog 77 [1, 1, 1, 0] 1), none, (Zy prog 77), Yk [(9, (.agg [.nilf])), (11, (.sl 8 0 1 (.un 1)))]⟩], (z4l [(0, ⟨.ready, none, 65, Yk [(2, (.ptr 1 0)), (4, (.ptr 2 0)), (5, (.ptr 3 0)), (6, (.ptr 4 0))], [15], (Xi prog 108 [1, 1, 0, 1, 0, 0]), (Xi prog 108 [1, 1, 0, 1, 0, 1])⟩)])⟩
 | .h4 v1 v2 v72 v73 v74 bT bH aG bR bY aJ aM bS => ⟨⟨101, 0, true⟩, none, (Za prog 131 [1, 1, 1, 0, 0] 0), none, [], ⟨Yk [(0, (.ptr 0 0)), (1, (ii v1)), (2, (ii v2)), (72, (.dat v72.length (Zz v72))), (73, (ii v73)), (74, (ii v74))], z4j [(0, ⟨[(.sla 10 6 0 aG.length (.un 6)), (.dat bR.length (Zz bR)), (ii bY), (ii v2)], 170, none⟩), (2, ⟨[.nilf], 124, none⟩), (3, ⟨[.nils], 30, none⟩), (4, ⟨[(ii 0)], 24, none⟩), (5, ⟨[(.sla 6 1 0 aJ (.un 1))], 47, none⟩), (6, ⟨rows aM.length (Zz aM), 3, some ⟨1, aM.length, (Zz aM)⟩⟩), (7, ⟨[(.sl 8 0 1 (.un 1))], 168, none⟩), (8, ⟨[(.dat l0.length (Zz l0))], 22, none⟩), (9, ⟨[(.dat bS.length (Zz bS))], 105, none⟩), (10, ⟨rows aG.length (Zz aG), 68, some ⟨6, aG.length, (Zz aG)⟩⟩)], 11, [], true⟩, [⟨⟨65, 0, true⟩, (Vk prog 108 [1, 1, 0, 1, 0, 1, 0, 1, 1, 1] 5), (Za prog 108 [1, 1, 0, 1, 0, 1, 0, 1, 1, 1] 1), (some 1), [], Yk [(6, (.ptr 0 0)), (54, (ii v1)), (56, (ii v2)), (57, (.dat bT.length (Zz bT)))]⟩, ⟨⟨86, 0, true⟩, (Vk prog 150 [1, 0, 0, 1, 0, 0, 1, 1, 0] 2), (Za prog 150 [1, 0, 0, 1, 0, 0, 1, 1, 0] 1), none, [], Yk [(0, (.yld 1)), (1, (.ptr 5 0)), (2, (.ptr 7 0)), (4, (ii bH)), (82, (.yld 1)), (83, (.agg [(ii v1), (ii v2), (.sl 9 0 1 (.ex 1))]))]⟩, ⟨⟨65, 0, true⟩, none, (.inRangeFunc 1 :: (Za prog 108 [1, 1, 0, 1, 0] 1)), none, (Zy prog 36), Yk [(4, (.ptr 3 0)), (5, (.ptr 4 0)), (6, (.ptr 0 0))]⟩, ⟨⟨15, 0, true⟩, (Vk prog 77 [1, 1, 1, 0] 3), (Za prog 77 [1, 1, 1, 0] 1), none, (Zy prog 77), Yk [(9, (.agg [.nilf])), (11, (.sl 8 0 1 (.un 1)))]⟩], (z4l [(1, ⟨.busy, none, 65, Yk [(2, (.ptr 2 0)), (4, (.ptr 3 0)), (5, (.ptr 4 0)), (6, (.ptr 0 0))], [15], (Xi prog 108 [1, 1, 0, 1, 0, 0]), (Xi prog 108 [1, 1, 0, 1, 0, 1])⟩)])⟩
 | .h5 v2 v8 cN bT bH aG bR bY cR cE cL aD => ⟨⟨101, 0, true⟩, none, (Za prog 131 [0, 1, 0, 0, 1, 0, 0] 0), none, [], ⟨Yk [(0, (.ptr 0 0)), (2, (ii v2)), (8, (ii v8))], z4j [(0, ⟨[(.sla 1 6 0 aG.length (.un 6)), (.dat bR.length (Zz bR)), (ii bY), (ii cR)], 170, none⟩), (1, ⟨rows aG.length (Zz aG), 68, some ⟨6, aG.length, (Zz aG)⟩⟩), (3, ⟨[.nilf], 124, none⟩), (4, ⟨[.nils], 30, none⟩), (5, ⟨[(ii 0)], 24, none⟩), (6, ⟨[(.sla 7 1 0 cE (.un 1))], 47, none⟩), (7, ⟨rows cL.length (Zz cL), 3, some ⟨1, cL.length, (Zz cL)⟩⟩), (8, ⟨[(.sl 9 0 1 (.un 1))], 168, none⟩), (9, ⟨[(.dat l0.length (Zz l0))], 22, none⟩), (10, ⟨[(.dat aD.length (Zz aD))], 105, none⟩)], 11, [], true⟩, [⟨⟨65, 0, true⟩, (Vk prog 108 [1, 1, 0, 1, 0, 1, 0, 1, 1, 1] 5), (Za prog 108 [1, 1, 0, 1, 0, 1, 0, 1, 1, 1] 1), (some 2), [], Yk [(6, (.ptr 0 0)), (54, (ii cN)), (56, (ii v2)), (57, (.dat bT.length (Zz bT)))]⟩, ⟨⟨86, 0, true⟩, (Vk prog 150 [1, 0, 0, 1, 0, 0, 1, 1, 0] 2), (Za prog 150 [1, 0, 0, 1, 0, 0, 1, 1, 0] 1), none, [], Yk [(0, (.yld 2)), (1, (.ptr 6 0)), (2, (.ptr 8 0)), (4, (ii bH)), (82, (.yld 2)), (83, (.agg [(ii cN), (ii v2), (.sl 10 0 1 (.ex 1))]))]⟩, ⟨⟨65, 0, true⟩, none, (.inRangeFunc 2 :: (Za prog 108 [1, 1, 0, 1, 0] 1)), none, (Zy prog 36), Yk [(4, (.ptr 4 0)), (5, (.ptr 5 0)), (6, (.ptr 0 0))]⟩, ⟨⟨15, 0, true⟩, (Vk prog 77 [1, 1, 1, 0] 3), (Za prog 77 [1, 1, 1, 0] 1), none, (Zy prog 77), Yk [(9, (.agg [.nilf])), (11, (.sl 9 0 1 (.un 1)))]⟩], (z4l [(2, ⟨.busy, none, 65, Yk [(2, (.ptr 3 0)), (4, (.ptr 4 0)), (5, (.ptr 5 0)), (6, (.ptr 0 0))], [15], (Xi prog 108 [1, 1, 0, 1, 0, 0]), (Xi prog 108 [1, 1, 0, 1, 0, 1])⟩)])⟩
def slmN0 : List (Option (List Nat)) := [some [0, 1, 7, 8], some [5, 6], some [0, 7]]
def slmM0 : List (Option (List Nat)) := []
def v3e : List (Option (List Nat)) := [some [1, 3, 8, 9, 10, 14, 15, 16], some [2, 4, 5, 6, 13], some [9, 11]]
def v3g : List (Option (List Nat)) := []
def v3d : List (Option (List Nat)) := [some [0, 1, 2, 4], some [4, 5, 6], some [9, 11]]
def v3f : List (Option (List Nat)) := [some [2, 4, 5, 6], none, none, none, none, none, none, none, none, none]
def w3o : List (Option (List Nat)) := [some [0, 1, 2, 4, 5, 6, 29, 30, 31, 36, 37, 38], some [4, 5, 6], some [9, 11]]
def w3q : List (Option (List Nat)) := [some [2, 4, 5, 6], none, none, none, none, none, none, none, none, none, none, none, none]
def w3n : List (Option (List Nat)) := [some [0, 1, 2, 72, 73, 74], some [6, 54, 56, 57], some [0, 1, 2, 4, 82, 83], some [4, 5, 6], some [9, 11]]
def w3p : List (Option (List Nat)) := [none, some [2, 4, 5, 6], none, none, none, none, none, none, none, none, none]
def slmN5 : List (Option (List Nat)) := [some [0, 2, 8], some [6, 54, 56, 57], some [0, 1, 2, 4, 82, 83], some [4, 5, 6], some [9, 11]]
def slmM5 : List (Option (List Nat)) := [none, none, some [2, 4, 5, 6], none, none, none, none, none, none, none, none]
def Ys (l0 : List R6) : slmS → Xn slmS
 | .h0 v8 => (bif (decide (v8 < (l0.length : Int))) then (bif ((decide (0 ≤ v8 ∧ v8 < (l0.length : Int))) && true) then (bif (!(v2q (rd l0 v8.toNat).a (rd l0 v8.toNat).b (rd l0 v8.toNat).c (rd l0 v8.toNat).d (rd l0 v8.toNat).e (rd l0 v8.toNat).f)) then (bif (decide (v8 ≥ 0)) then (.ret [.nils, (.int .i64 8)]) else (.to (.h1 0 ([] : List Int)))) else (.to (.h0 (IntKind.wrap .i64 (v8 + 1))))) else .stuck) else (.to (.h1 0 ([] : List Int))))
 | .h1 v16 aA => (bif (decide (v16 < (l0.length : Int))) then (bif ((decide (0 ≤ v16 ∧ v16 < (l0.length : Int))) && true) then (bif (Nat.beq 1 1 && ((decide (0 + aA.length = aA.length)) && decide ((aA.length + 2 + 1) * (8 + 1) ≤ Jp))) then (.to (.h1 (IntKind.wrap .i64 (v16 + 1)) (aA ++ [(rd l0 v16.toNat).c, (rd l0 v16.toNat).f]))) else .stuck) else .stuck) else (bif (decide (aA.length < 4611686018427387904)) then (bif (decide (aA.length = aA.length)) then (.to (.h2 1 ([] : List R6) ([] : List R4) 0 0 (w8i (Zg aA.length (cOf (Zz (Ye (Zg aA.length (cOf (Zz aA)))))))) (Xy (Zg aA.length (cOf (Zz (Ye (Zg aA.length (cOf (Zz aA)))))))))) else .stuck) else .stuck))
 | .h2 v4 aC bV cC cD aJ aM => (bif (decide (v4 < ((aJ : Nat) : Int))) then (bif ((decide (0 ≤ (IntKind.wrap .i64 (v4 - 1)) ∧ (IntKind.wrap .i64 (v4 - 1)) < ((aJ : Nat) : Int))) && true) then (bif (decide ((0 + (Int.toNat (IntKind.wrap .i64 (v4 - 1)))) < aM.length)) then (bif ((decide (0 ≤ v4 ∧ v4 < ((aJ : Nat) : Int))) && true) then (bif (decide ((0 + v4.toNat) < aM.length)) then (.to (.h3 v4 0 aC bV cC cD aJ aM (rd aM (0 + (Int.toNat (IntKind.wrap .i64 (v4 - 1))))) (rd aM (0 + v4.toNat)) ([] : List R4))) else .stuck) else .stuck) else .stuck) else .stuck) else (bif (decide ((aC.length : Int) > 400)) then (.ret [.nils, (.int .i64 4)]) else (.ret [(.dat aC.length (Zz aC)), (.int .i64 0)])))
 | .h3 v4 v38 aC bV cC cD aJ aM bS cI aD => (bif (decide (v38 < (l0.length : Int))) then (bif ((decide (0 ≤ v38 ∧ v38 < (l0.length : Int))) && true) then (bif (decide ((rd l0 v38.toNat).c ≤ bS)) then (bif (decide (bS < (rd l0 v38.toNat).f)) then (bif (Nat.beq 4 4 && ((decide (0 + aD.length = aD.length)) && decide ((aD.length + 1 + 1) * (32 + 1) ≤ Jp))) then (.to (.h3 v4 (IntKind.wrap .i64 (v38 + 1)) aC bV cC cD aJ aM bS cI (aD ++ [(R4.mk (rd l0 v38.toNat).a (rd l0 v38.toNat).b (rd l0 v38.toNat).d (rd l0 v38.toNat).e)]))) else .stuck) else (.to (.h3 v4 (IntKind.wrap .i64 (v38 + 1)) aC bV cC cD aJ aM bS cI aD))) else (.to (.h3 v4 (IntKind.wrap .i64 (v38 + 1)) aC bV cC cD aJ aM bS cI aD))) else .stuck) else (bif (Qg (cvT aD)) then (bif ((Uc (cvT aD)) != 0) then (.ret [.nils, (.int .i64 (Uc (cvT aD)))]) else (bif (decide ((((Yj (cvT aD)).length : Nat) : Int) > 0)) then (bif (cD == bS) then (bif (Wj (cvT bV) (cvT (Yj (cvT aD)))) then (bif (Up (cvT bV) (cvT (Yj (cvT aD)))) then (.to (.h5 cI cC bS (Yj (cvT aD)) v4 aC bV cC cD aJ aM aD)) else (.to (.h4 bS cI (Yj (cvT aD)) (((Yj (cvT aD)).length : Nat) : Int) 0 (Yj (cvT aD)) v4 aC (Yj (cvT aD)) (aC.length : Int) aJ aM aD))) else .stuck) else (.to (.h4 bS cI (Yj (cvT aD)) (((Yj (cvT aD)).length : Nat) : Int) 0 (Yj (cvT aD)) v4 aC (Yj (cvT aD)) (aC.length : Int) aJ aM aD))) else (.to (.h4 bS cI (Yj (cvT aD)) (((Yj (cvT aD)).length : Nat) : Int) 0 (Yj (cvT aD)) v4 aC (Yj (cvT aD)) (aC.length : Int) aJ aM aD)))) else .stuck))
 | .h4 v1 v2 v72 v73 v74 bT bH aG bR bY aJ aM bS => (bif (decide (v74 < v73)) then (bif ((decide (0 ≤ v74 ∧ v74 < (v72.length : Int))) && true) then (bif (Nat.beq 6 6 && ((decide (0 + aG.length = aG.length)) && decide ((aG.length + 1 + 1) * (48 + 1) ≤ Jp))) then (.to (.h4 v1 v2 v72 v73 (IntKind.wrap .i64 (v74 + 1)) bT bH (aG ++ [(R6.mk (rd v72 v74.toNat).a (rd v72 v74.toNat).b v1 (rd v72 v74.toNat).c (rd v72 v74.toNat).d v2)]) bR bY aJ aM bS)) else .stuck) else .stuck) else (.to (.h2 (IntKind.wrap .i64 (bH + 1)) aG bR bY v2 aJ aM)))
 | .h5 v2 v8 cN bT bH aG bR bY cR cE cL aD => (bif (decide (v8 < (aG.length : Int))) then (bif ((decide (0 ≤ v8 ∧ v8 < (aG.length : Int))) && true) then (bif (decide ((0 + v8.toNat) < aG.length)) then (.to (.h5 v2 (IntKind.wrap .i64 (v8 + 1)) cN bT bH (aG.set (0 + v8.toNat) (R6.mk (rd aG (0 + v8.toNat)).a (rd aG (0 + v8.toNat)).b (rd aG (0 + v8.toNat)).c (rd aG (0 + v8.toNat)).d (rd aG (0 + v8.toNat)).e v2)) bR bY cR cE cL aD)) else .stuck) else .stuck) else (.to (.h2 (IntKind.wrap .i64 (bH + 1)) aG bR bY v2 cE cL)))
def z7w (l0 : List R6) : Xn slmS := (bif (decide ((l0.length : Int) > 400)) then (.ret [.nils, (.int .i64 4)]) else (.to (.h0 0)))
theorem x4r (l0 : List R6) : ∀ s, Ww prog (Zy prog 77) (slmC l0) (slmC l0 s) (Ys l0 s)
 | .h0 v8 => (lb (fun k0 => (lo fun aH => (lb (fun k1 => (lb (fun k2 => (lr 15 77 [1, 1, 0, 1, 0, 0] 1 77 [(2, .nils), (3, (ii 8))] (sl Ua 54 [] ⟨[], [], [some [2, 3]], []⟩ ⟨[], [], []⟩ (trs 3 []) (tt k2 (tt k1 (ww aH (tt k0 nn))))))) (fun k2 => (sl Ua 112 [(3, 1, Zz ([] : List Int))] ⟨[6, 1, 7, 2, 3, 4, 5, 8], [], v3e, v3g⟩ ⟨[], [.keep, .keep, .cells [.grow 7 1], .keep, .keep, .keep, .keep, .keep], []⟩ [true, true, false, true] (pp (fl ([] : List Int) nn) (tt k2 (tt k1 (ww aH (tt k0 nn))))))))) (fun k1 => (sl Ua 44 [] ⟨[], [], slmN0, slmM0⟩ ⟨[], [], []⟩ [true, false] (tt k1 (ww aH (tt k0 nn)))))))) (fun k0 => (sl Ua 81 [(3, 1, Zz ([] : List Int))] ⟨[5, 0, 6, 1, 2, 3, 4, 7], [], v3e, v3g⟩ ⟨[], [.keep, .keep, .cells [.grow 7 1], .keep, .keep, .keep, .keep, .keep], []⟩ [false, false, true] (pp (fl ([] : List Int) nn) (tt k0 nn)))))
 | .h1 v16 aA => (lb (fun k0 => (lo fun o0 => (lo fun o1 => (sl Ua 34 [] ⟨[0, 1, 2, 3, 4, 5, 6, 10], [], v3e, v3g⟩ ⟨[], [.keep, .keep, .cells [.len (aA ++ [(rd l0 (tn v16)).c, (rd l0 (tn v16)).f]).length], .keep, .keep, .keep, .keep, .rowed 1 (aA ++ [(rd l0 (tn v16)).c, (rd l0 (tn v16)).f]).length (Zz (aA ++ [(rd l0 (tn v16)).c, (rd l0 (tn v16)).f]))], []⟩ [true] (pp (xL (aA.length + 2) (aA ++ [(rd l0 (tn v16)).c, (rd l0 (tn v16)).f]).length) (pp (xL (aA.length + 2) (aA ++ [(rd l0 (tn v16)).c, (rd l0 (tn v16)).f]).length) (pp (xS (aA.length + 2) (Zd (Zz aA) 0 aA.length 1 [(ii (rd l0 (tn v16)).c), (ii (rd l0 (tn v16)).f)]) (Zz (aA ++ [(rd l0 (tn v16)).c, (rd l0 (tn v16)).f]))) (pp (pp (xF (Zd (Zz aA) 0 aA.length 1 [(ii (rd l0 (tn v16)).c), (ii (rd l0 (tn v16)).f)])) nn) (ww o1 (ww o0 (tt k0 nn))))))))))) (fun k0 => (lo fun o0 => (lo fun o1 => (sl Ua 46 [(68, 6, Zz ([] : List R6))] ⟨[8, 3, 4, 5, 6, 2, 7, 0, 1, 9], [], v3d, v3f⟩ ⟨[], (kpB 4 [.cells [.grow 9 6, .list 0 (Zz ([] : List R4)), .keep, .keep], .keep, .rowed 1 (Xy (Zg aA.length (cOf (Zz (Ye (Zg aA.length (cOf (Zz aA)))))))).length (Zz (Xy (Zg aA.length (cOf (Zz (Ye (Zg aA.length (cOf (Zz aA))))))))), .keep, .keep, .keep]), []⟩ [false, false] (pp (xL aA.length (Xy (Zg aA.length (cOf (Zz (Ye (Zg aA.length (cOf (Zz aA)))))))).length (by first | exact Qc _ _ | exact Uy rfl)) (pp (xS aA.length (Zz (Xy (Zg aA.length (cOf (Zz (Ye (Zg aA.length (cOf (Zz aA))))))))) (Zz (Xy (Zg aA.length (cOf (Zz (Ye (Zg aA.length (cOf (Zz aA)))))))))) (pp (fl (Xy (Zg aA.length (cOf (Zz (Ye (Zg aA.length (cOf (Zz aA)))))))) (fl ([] : List R6) nn)) (pp (pp (xG (Nat.beq 1 1)) (pp (xG (Nat.beq 1 1)) (pp (xG (Nat.beq 0 0)) (pp (xG (decide (aA.length = aA.length))) (pp (xG (isI (Zz (Ye (Zg aA.length (cOf (Zz aA))))))) (xG (decide (aA.length < 4611686018427387904)))))))) (pp (pp (xG (Nat.beq 1 1)) (pp (xG (Nat.beq 1 1)) (pp (xG (Nat.beq 0 0)) (pp (xG (decide (aA.length = aA.length))) (pp (xG (isI (Zz aA))) (xG (decide (aA.length < 4611686018427387904)))))))) (tt k0 nn)))))))))))
 | .h2 v4 aC bV cC cD aJ aM => (lb (fun k0 => (lo fun o0 => (lo fun o1 => (lo fun o2 => (lo fun o3 => (sl Ua 48 [(114, 4, Zz ([] : List R4))] ⟨[0, 1, 2, 3, 4, 5, 6, 7, 8, 10, 11, 12, 9], [], w3o, w3q⟩ ⟨[], (kpB 10 [.cells [.grow 11 4], .keep, .keep]), []⟩ (trs 3 []) (pp (fl aM (fl ([] : List R4) (fl aC nn))) (ww o3 (ww o2 (ww o1 (ww o0 (tt k0 nn)))))))))))) (fun k0 => (lb (fun k1 => (lr 15 3 [1, 1, 1, 1, 1, 1, 0] 1 77 [(2, .nils), (3, (ii 4))] (sl Ua 33 [] ⟨[], [], [some [2, 3]], []⟩ ⟨[], [], []⟩ [false, true] (tt k1 (tt k0 nn))))) (fun k1 => (lr 15 3 [1, 1, 1, 1, 1, 1, 0] 1 77 [(2, (.dat aC.length (Zz aC))), (3, (ii 0))] (sl Ua 36 [] ⟨[], [9], [some [2, 3]], []⟩ ⟨[(2, .frz aC.length aC.length (Zz aC) (Zz aC))], [], []⟩ [false, false] (pp (xZ (z4q 6 6 0 aC.length aC.length (Zz aC)) aC.length (Zz aC)) (pp (xL aC.length aC.length) (pp (xS aC.length (Zz aC) (Zz aC)) (pp (fl aC nn) (tt k1 (tt k0 nn))))))))))))
 | .h3 v4 v38 aC bV cC cD aJ aM bS cI aD => (lb (fun k0 => (lo fun aH => (lb (fun k1 => (lb (fun k2 => (lo fun o0 => (sl Ua 41 [] ⟨[0, 1, 2, 3, 4, 5, 6, 7, 8, 9, 10, 15, 12], [], w3o, w3q⟩ ⟨[], (kpB 10 [.cells [.len (aD ++ [(R4.mk (rd l0 (tn v38)).a (rd l0 (tn v38)).b (rd l0 (tn v38)).d (rd l0 (tn v38)).e)]).length], .rowed 4 (aD ++ [(R4.mk (rd l0 (tn v38)).a (rd l0 (tn v38)).b (rd l0 (tn v38)).d (rd l0 (tn v38)).e)]).length (Zz (aD ++ [(R4.mk (rd l0 (tn v38)).a (rd l0 (tn v38)).b (rd l0 (tn v38)).d (rd l0 (tn v38)).e)])), .keep]), []⟩ (trs 8 []) (pp (xL (aD.length + 1) (aD ++ [(R4.mk (rd l0 (tn v38)).a (rd l0 (tn v38)).b (rd l0 (tn v38)).d (rd l0 (tn v38)).e)]).length) (pp (xL (aD.length + 1) (aD ++ [(R4.mk (rd l0 (tn v38)).a (rd l0 (tn v38)).b (rd l0 (tn v38)).d (rd l0 (tn v38)).e)]).length) (pp (xS (aD.length + 1) (Zd (Zz aD) 0 aD.length 4 [(ii (rd l0 (tn v38)).a), (ii (rd l0 (tn v38)).b), (ii (rd l0 (tn v38)).d), (ii (rd l0 (tn v38)).e)]) (Zz (aD ++ [(R4.mk (rd l0 (tn v38)).a (rd l0 (tn v38)).b (rd l0 (tn v38)).d (rd l0 (tn v38)).e)]))) (pp (fl aM (pp (xF (Zd (Zz aD) 0 aD.length 4 [(ii (rd l0 (tn v38)).a), (ii (rd l0 (tn v38)).b), (ii (rd l0 (tn v38)).d), (ii (rd l0 (tn v38)).e)])) (fl aC nn))) (ww o0 (tt k2 (tt k1 (ww aH (tt k0 nn)))))))))))) (fun k2 => (sl Ua 41 [] ⟨(List.range 13), [], w3o, w3q⟩ ⟨[], [], []⟩ (trs 7 [false]) (pp (fl aM (fl aD (fl aC nn))) (tt k2 (tt k1 (ww aH (tt k0 nn))))))))) (fun k1 => (sl Ua 41 [] ⟨(List.range 13), [], w3o, w3q⟩ ⟨[], [], []⟩ [true, false, false, false, false, false, false, false] (pp (fl aM (fl aD (fl aC nn))) (tt k1 (ww aH (tt k0 nn))))))))) (fun k0 => (Wb (sl Ua (C' := ⟨⟨65, 0, true⟩, (Vk prog 108 [1, 1, 0, 1, 0, 1, 0, 0] 4), (Za prog 108 [1, 1, 0, 1, 0, 1, 0, 0] 1), (some 0), [], ⟨Yk [(2, (.ptr 1 0)), (4, (.ptr 2 0)), (5, (.ptr 3 0)), (6, (.ptr 4 0)), (7, (.ptr 6 0)), (20, (.dat aD.length (Zz aD)))], z4j [(1, ⟨[.nilf], 124, none⟩), (2, ⟨[.nils], 30, none⟩), (3, ⟨[(ii 0)], 24, none⟩), (4, ⟨[(.sla 5 6 0 aC.length (.un 6)), (.dat bV.length (Zz bV)), (ii cC), (ii cD)], 170, none⟩), (5, ⟨rows aC.length (Zz aC), 68, some ⟨6, aC.length, (Zz aC)⟩⟩), (6, ⟨[(ii bS), (ii cI), (.sl 7 0 1 (.ex 1))], 175, none⟩), (7, ⟨[(.dat aD.length (Zz aD))], 105, none⟩), (8, ⟨[(.sla 9 1 0 aJ (.un 1))], 47, none⟩), (9, ⟨rows aM.length (Zz aM), 3, some ⟨1, aM.length, (Zz aM)⟩⟩), (10, ⟨[(.sl 11 0 1 (.un 1))], 168, none⟩), (11, ⟨[(.dat l0.length (Zz l0))], 22, none⟩)], 12, [], true⟩, [⟨⟨86, 0, true⟩, (Vk prog 150 [1, 0, 0, 1, 0, 0, 1, 1, 0] 2), (Za prog 150 [1, 0, 0, 1, 0, 0, 1, 1, 0] 1), none, [], Yk [(0, (.yld 0)), (1, (.ptr 8 0)), (2, (.ptr 10 0)), (4, (ii v4)), (82, (.yld 0)), (83, (.agg [(ii bS), (ii cI), (.sl 7 0 1 (.ex 1))]))]⟩, ⟨⟨65, 0, true⟩, none, (.inRangeFunc 0 :: (Za prog 108 [1, 1, 0, 1, 0] 1)), none, (Zy prog 36), Yk [(4, (.ptr 2 0)), (5, (.ptr 3 0)), (6, (.ptr 4 0))]⟩, ⟨⟨15, 0, true⟩, (Vk prog 77 [1, 1, 1, 0] 3), (Za prog 77 [1, 1, 1, 0] 1), none, (Zy prog 77), Yk [(9, (.agg [.nilf])), (11, (.sl 11 0 1 (.un 1)))]⟩], (z4l [(0, ⟨.busy, none, 65, Yk [(2, (.ptr 1 0)), (4, (.ptr 2 0)), (5, (.ptr 3 0)), (6, (.ptr 4 0))], [15], (Xi prog 108 [1, 1, 0, 1, 0, 0]), (Xi prog 108 [1, 1, 0, 1, 0, 1])⟩)])⟩) 37 [] ⟨[0, 1, 2, 3, 4, 12, 13, 10, 5, 6, 7, 8], [11], [some [2, 4, 5, 6, 7, 20], some [0, 1, 2, 4, 82, 83], some [4, 5, 6], some [9, 11]], [some [2, 4, 5, 6], none, none, none, none, none, none, none, none, none, none, none]⟩ ⟨[(20, .frz aD.length aD.length (Zz aD) (Zz aD))], [.keep, .keep, .keep, .keep, .keep, .keep, .keep, .cells [.frz aD.length aD.length (Zz aD) (Zz aD)], .keep, .keep, .keep, .keep], []⟩ [false, false] (pp (xZ (z4q 4 4 0 aD.length aD.length (Zz aD)) aD.length (Zz aD)) (pp (xL aD.length aD.length) (pp (xS aD.length (Zz aD) (Zz aD)) (pp (xZ (z4q 4 4 0 aD.length aD.length (Zz aD)) aD.length (Zz aD)) (pp (xL aD.length aD.length) (pp (xS aD.length (Zz aD) (Zz aD)) (pp (fl aC (fl aM nn)) (pp (fl aD nn) (tt k0 nn)))))))))) (lo fun aH => (lb (fun k1 => (lr 15 3 [1, 1, 1, 1, 1, 1, 0] 1 77 [(2, .nils), (3, (ii (Uc (cvT aD))))] (sl Ua 50 [] ⟨[], [], [some [2, 3]], []⟩ ⟨[], [], []⟩ [false, true, true] (tt k1 (pp (pp (xr aD) (xw aH)) nn))))) (fun k1 => (lb (fun k2 => (lb (fun k3 => (lo fun cO => (lb (fun k4 => (sl Ua 75 [] ⟨[4, 5, 0, 1, 2, 3, 8, 9, 10, 11, 7], [], slmN5, slmM5⟩ ⟨[], [], []⟩ [false, false, true, true, true, true, true, true, true, true, true, true, true, true, true] (pp (fl aC (fl aM nn)) (tt k4 (pp (pp (xr bV) (pp (xI R4 (Yj (cvT aD)).length (Zz (Yj (cvT aD)))) (xw cO))) (tt k3 (tt k2 (tt k1 (pp (pp (xr aD) (xw aH)) nn))))))))) (fun k4 => (sl Ua 95 [] ⟨[4, 0, 1, 2, 3, 8, 9, 10, 11, 7, 5], [], w3n, w3p⟩ ⟨[], [], []⟩ [false, false, true, true, true, true, true, true, true, true, true, true, true, true, false] (pp (fl aM (fl aC nn)) (tt k4 (pp (pp (xr bV) (pp (xI R4 (Yj (cvT aD)).length (Zz (Yj (cvT aD)))) (xw cO))) (tt k3 (tt k2 (tt k1 (pp (pp (xr aD) (xw aH)) nn)))))))))))) (fun k3 => (sl Ua 95 [] ⟨[4, 0, 1, 2, 3, 8, 9, 10, 11, 7, 5], [], w3n, w3p⟩ ⟨[], [], []⟩ [false, false, true, true, true, true, true, true, false, false, false, false, false, false, false] (pp (fl aM (fl aC nn)) (tt k3 (tt k2 (tt k1 (pp (pp (xr aD) (xw aH)) nn))))))))) (fun k2 => (sl Ua 95 [] ⟨[4, 0, 1, 2, 3, 8, 9, 10, 11, 7, 5], [], w3n, w3p⟩ ⟨[], [], []⟩ [false, false, false, false, false, false, false, false, false, false, false, false, false, false, false] (pp (fl aM (fl aC nn)) (tt k2 (tt k1 (pp (pp (xr aD) (xw aH)) nn)))))))))))))
 | .h4 v1 v2 v72 v73 v74 bT bH aG bR bY aJ aM bS => (lb (fun k0 => (lo fun o0 => (lo fun o1 => (sl Ua 23 [] ⟨[0, 1, 2, 3, 4, 5, 6, 7, 8, 9, 13], [], w3n, w3p⟩ ⟨[], [.cells [.len (aG ++ [(R6.mk (rd v72 (tn v74)).a (rd v72 (tn v74)).b v1 (rd v72 (tn v74)).c (rd v72 (tn v74)).d v2)]).length, .keep, .keep, .keep], .keep, .keep, .keep, .keep, .keep, .keep, .keep, .keep, .keep, .rowed 6 (aG ++ [(R6.mk (rd v72 (tn v74)).a (rd v72 (tn v74)).b v1 (rd v72 (tn v74)).c (rd v72 (tn v74)).d v2)]).length (Zz (aG ++ [(R6.mk (rd v72 (tn v74)).a (rd v72 (tn v74)).b v1 (rd v72 (tn v74)).c (rd v72 (tn v74)).d v2)]))], []⟩ [true] (pp (xL (aG.length + 1) (aG ++ [(R6.mk (rd v72 (tn v74)).a (rd v72 (tn v74)).b v1 (rd v72 (tn v74)).c (rd v72 (tn v74)).d v2)]).length) (pp (xL (aG.length + 1) (aG ++ [(R6.mk (rd v72 (tn v74)).a (rd v72 (tn v74)).b v1 (rd v72 (tn v74)).c (rd v72 (tn v74)).d v2)]).length) (pp (xS (aG.length + 1) (Zd (Zz aG) 0 aG.length 6 [(ii (rd v72 (tn v74)).a), (ii (rd v72 (tn v74)).b), (ii v1), (ii (rd v72 (tn v74)).c), (ii (rd v72 (tn v74)).d), (ii v2)]) (Zz (aG ++ [(R6.mk (rd v72 (tn v74)).a (rd v72 (tn v74)).b v1 (rd v72 (tn v74)).c (rd v72 (tn v74)).d v2)]))) (pp (fl aM (pp (xF (Zd (Zz aG) 0 aG.length 6 [(ii (rd v72 (tn v74)).a), (ii (rd v72 (tn v74)).b), (ii v1), (ii (rd v72 (tn v74)).c), (ii (rd v72 (tn v74)).d), (ii v2)])) nn)) (ww o1 (ww o0 (tt k0 nn))))))))))) (fun k0 => (sl Ua 22 [] ⟨[1, 2, 3, 4, 0, 5, 6, 7, 8, 10], [], v3d, v3f⟩ ⟨[], [], []⟩ [false, false] (pp (fl aM (fl aG nn)) (tt k0 nn)))))
 | .h5 v2 v8 cN bT bH aG bR bY cR cE cL aD => (lb (fun k0 => (lo fun o0 => (lo fun o1 => (sl Ua 34 [] ⟨(List.range 11), [], slmN5, slmM5⟩ ⟨[], [.cells [.len (aG.set (0 + (tn v8)) (R6.mk (rd aG (0 + (tn v8))).a (rd aG (0 + (tn v8))).b (rd aG (0 + (tn v8))).c (rd aG (0 + (tn v8))).d (rd aG (0 + (tn v8))).e v2)).length, .keep, .keep, .keep], .rowed 6 (aG.set (0 + (tn v8)) (R6.mk (rd aG (0 + (tn v8))).a (rd aG (0 + (tn v8))).b (rd aG (0 + (tn v8))).c (rd aG (0 + (tn v8))).d (rd aG (0 + (tn v8))).e v2)).length (Zz (aG.set (0 + (tn v8)) (R6.mk (rd aG (0 + (tn v8))).a (rd aG (0 + (tn v8))).b (rd aG (0 + (tn v8))).c (rd aG (0 + (tn v8))).d (rd aG (0 + (tn v8))).e v2))), .keep, .keep, .keep, .keep, .keep, .keep, .keep, .keep, .keep], []⟩ [true] (pp (xL aG.length (aG.set (0 + (tn v8)) (R6.mk (rd aG (0 + (tn v8))).a (rd aG (0 + (tn v8))).b (rd aG (0 + (tn v8))).c (rd aG (0 + (tn v8))).d (rd aG (0 + (tn v8))).e v2)).length) (pp (xL aG.length (aG.set (0 + (tn v8)) (R6.mk (rd aG (0 + (tn v8))).a (rd aG (0 + (tn v8))).b (rd aG (0 + (tn v8))).c (rd aG (0 + (tn v8))).d (rd aG (0 + (tn v8))).e v2)).length) (pp (xS aG.length (Xc (Zz aG) (0 + (tn v8)) 5 [(ii v2)]) (Zz (aG.set (0 + (tn v8)) (R6.mk (rd aG (0 + (tn v8))).a (rd aG (0 + (tn v8))).b (rd aG (0 + (tn v8))).c (rd aG (0 + (tn v8))).d (rd aG (0 + (tn v8))).e v2)))) (pp (pp (xF (Xc (Zz aG) (0 + (tn v8)) 5 [(ii v2)])) (fl cL nn)) (ww o1 (ww o0 (tt k0 nn))))))))))) (fun k0 => (sl Ua 36 [] ⟨[2, 3, 4, 5, 0, 6, 7, 8, 9, 1], [], v3d, v3f⟩ ⟨[], [], []⟩ [false, false] (pp (fl cL (fl aG nn)) (tt k0 nn)))))
theorem y8s (l0 : List R6) : Ww prog (Zy prog 77) (slmC l0) (Zn prog 77 [(.dat l0.length (Zz l0))] true []) (z7w l0) := (lb (fun k0 => (lr 15 77 [1, 0, 1, 0, 0] 1 77 [(2, .nils), (3, (ii 4))] (sl Ua 18 [] ⟨[], [], [some [2, 3]], []⟩ ⟨[], [], []⟩ [true] (tt k0 nn)))) (fun k0 => (sl Ua 41 [] ⟨[], [], slmN0, slmM0⟩ ⟨[], [], []⟩ [false] (tt k0 nn))))
theorem w3m (l0 : List R6) (n : Nat) (vs : List AVal) (h : Yv (Ys l0) n (z7w l0) = .ret vs) : Kz prog (Zy prog 77) (Zn prog 77 [(.dat l0.length (Zz l0))] true []) vs := by
 have := Zr (x4r l0) n _ (y8s l0)
 rwa [h] at this
inductive fulS where
 | h0 (v10 : Int) (v31 : Int)
def fulC (l0 : List R6) (aV : Int) (aW : Int) (bO : Int) (bP : Int) (cS : Int) (cT : Int) : fulS → Cfg
 | .h0 v10 v31 => ⟨⟨70, 0, true⟩, none, (Za prog 143 [1, 1, 1, 0, 1, 0, 0] 0), none, (Zy prog 102), ⟨Yk [(5, (.ptr 0 0)), (6, (.ptr 1 0)), (7, (.ptr 2 0)), (9, (.fn 166 [])), (10, (ii v10)), (29, (.dat l0.length (Zz l0))), (30, (ii (l0.length : Int))), (31, (ii v31))], Vn [⟨[(ii aV), (ii aW)], 110, none⟩, ⟨[(ii bO), (ii bP)], 110, none⟩, ⟨[(ii cS), (ii cT)], 110, none⟩] 0, 3, [], true⟩, [], .leaf⟩
def fulN0 : List (Option (List Nat)) := [some [5, 6, 7, 9, 10, 29, 30, 31]]
def fulM0 : List (Option (List Nat)) := []
def z6e (l0 : List R6) (aV : Int) (aW : Int) (bO : Int) (bP : Int) (cS : Int) (cT : Int) : fulS → Xn fulS
 | .h0 v10 v31 => (bif (decide (v31 < (l0.length : Int))) then (bif ((decide (0 ≤ v31 ∧ v31 < (l0.length : Int))) && true) then (.to (.h0 (IntKind.wrap .i64 (v10 - (IntKind.wrap .i64 ((IntKind.wrap .i64 ((IntKind.wrap .i64 (1 * (Wg (IntKind.wrap .i64 ((Uw (rd l0 v31.toNat).d aW) - (Wg (rd l0 v31.toNat).a aV))) 0))) * (Wg (IntKind.wrap .i64 ((Uw (rd l0 v31.toNat).e bP) - (Wg (rd l0 v31.toNat).b bO))) 0))) * (Wg (IntKind.wrap .i64 ((Uw (rd l0 v31.toNat).f cT) - (Wg (rd l0 v31.toNat).c cS))) 0))))) (IntKind.wrap .i64 (v31 + 1)))) else .stuck) else (.ret [(.bool (v10 == 0))]))
def y4e (l0 : List R6) (aV : Int) (aW : Int) (bO : Int) (bP : Int) (cS : Int) (cT : Int) : Xn fulS := (.to (.h0 (IntKind.wrap .i64 ((IntKind.wrap .i64 ((IntKind.wrap .i64 (aW - aV)) * (IntKind.wrap .i64 (bP - bO)))) * (IntKind.wrap .i64 (cT - cS)))) 0))
theorem x6c (l0 : List R6) (aV : Int) (aW : Int) (bO : Int) (bP : Int) (cS : Int) (cT : Int) : ∀ s, Ww prog (Zy prog 143) (fulC l0 aV aW bO bP cS cT) (fulC l0 aV aW bO bP cS cT s) (z6e l0 aV aW bO bP cS cT s)
 | .h0 v10 v31 => (lb (fun k0 => (lo fun o0 => (sl Ua 281 [] ⟨[0, 1, 2], [], fulN0, fulM0⟩ ⟨[], [], []⟩ [true, true, false, false, false, true, true, false, true, false, true, false, true, true, true, false, true, true, false, true, true, false, false] (ww o0 (tt k0 nn))))) (fun k0 => (lr 70 3 [1, 1, 1, 1, 1, 1, 0] 1 102 [(8, (.bool (v10 == 0)))] (sl Ua 13 [] ⟨[], [], [some [8]], []⟩ ⟨[], [], []⟩ [false] (tt k0 nn)))))
theorem x0o (l0 : List R6) (aV : Int) (aW : Int) (bO : Int) (bP : Int) (cS : Int) (cT : Int) : Ww prog (Zy prog 143) (fulC l0 aV aW bO bP cS cT) (Zn prog 143 [(.dat l0.length (Zz l0)), (.agg [(.int .i64 aV), (.int .i64 aW)]), (.agg [(.int .i64 bO), (.int .i64 bP)]), (.agg [(.int .i64 cS), (.int .i64 cT)])] true []) (y4e l0 aV aW bO bP cS cT) := (sl Ua 22 [] ⟨[0, 1, 2], [], fulN0, fulM0⟩ ⟨[], [], []⟩ [] nn)
theorem w6o (l0 : List R6) (aV : Int) (aW : Int) (bO : Int) (bP : Int) (cS : Int) (cT : Int) (n : Nat) (vs : List AVal) (h : Yv (z6e l0 aV aW bO bP cS cT) n (y4e l0 aV aW bO bP cS cT) = .ret vs) : Kz prog (Zy prog 143) (Zn prog 143 [(.dat l0.length (Zz l0)), (.agg [(.int .i64 aV), (.int .i64 aW)]), (.agg [(.int .i64 bO), (.int .i64 bP)]), (.agg [(.int .i64 cS), (.int .i64 cT)])] true []) vs := by
 have := Zr (x6c l0 aV aW bO bP cS cT) n _ (x0o l0 aV aW bO bP cS cT)
 rwa [h] at this
inductive dwnS where
def dwnC (x0 : Int) (x1 : Int) : dwnS → Cfg
 := nofun
def x1a (x0 : Int) (x1 : Int) : dwnS → Xn dwnS
 := nofun
def z8q (x0 : Int) (x1 : Int) : Xn dwnS := (bif (!decide (x1 = 0)) then (bif (decide ((IntKind.wrap .i64 ((IntKind.wrap .i64 (Int.tdiv x0 x1)) * x1)) > x0)) then (.ret [(.int .i64 (IntKind.wrap .i64 ((IntKind.wrap .i64 ((IntKind.wrap .i64 (Int.tdiv x0 x1)) - 1)) * x1)))]) else (.ret [(.int .i64 (IntKind.wrap .i64 ((IntKind.wrap .i64 (Int.tdiv x0 x1)) * x1)))])) else .stuck)
theorem x6o (x0 : Int) (x1 : Int) : ∀ s, Ww prog (Zy prog 75) (dwnC x0 x1) (dwnC x0 x1 s) (x1a x0 x1 s)
 := nofun
theorem x1b (x0 : Int) (x1 : Int) : Ww prog (Zy prog 75) (dwnC x0 x1) (Zn prog 75 [(.int .i64 x0), (.int .i64 x1)] true []) (z8q x0 x1) := (lo fun cH => (lb (fun k0 => (lr 19 3 [1, 1, 1, 1, 1, 1, 0] 1 3 [(4, (ii (wr ((wr ((wr (Int.tdiv x0 x1)) - 1)) * x1))))] (sl Ua 33 [] ⟨[], [], [some [4]], []⟩ ⟨[], [], []⟩ [true] (tt k0 (ww cH nn))))) (fun k0 => (lr 19 3 [1, 1, 1, 1, 1, 1, 0] 1 3 [(4, (ii (wr ((wr (Int.tdiv x0 x1)) * x1))))] (sl Ua 29 [] ⟨[], [], [some [4]], []⟩ ⟨[], [], []⟩ [false] (tt k0 (ww cH nn)))))))
theorem w7k (x0 : Int) (x1 : Int) (n : Nat) (vs : List AVal) (h : Yv (x1a x0 x1) n (z8q x0 x1) = .ret vs) : Kz prog (Zy prog 75) (Zn prog 75 [(.int .i64 x0), (.int .i64 x1)] true []) vs := by
 have := Zr (x6o x0 x1) n _ (x1b x0 x1)
 rwa [h] at this
end Go.Am
namespace Go.Am
open Go.Proofs.Tryz
open Go.Proofs Go.Sort Go.Shelf Go.RowKit Go.Lib
def slmX : List AVal := [.nils, .int .i64 8]
def eF (l : List R6) : Nat → Nat → Int
 | 0, _ => 0
 | k + 1, i => bif w8n l (rd (D6.cuts l) i) then Uc (D6.inn l (rd (D6.cuts l) i)) else eF l k (i + 1)
def slmE (l : List R6) (k i : Nat) : List AVal := [.nils, .int .i64 (eF l k i)]
section
variable (l : List R6) (hl : l.length ≤ 400)
include hl
theorem w9e (i : Nat) (out : List R6) (last : List R4) (first fin x x' : Int) : ∀ (k j : Nat) (acc : List R4), j + k = l.length → acc.length ≤ j →
  ∃ n, ∀ N, Yv (Ys l) (N + n) (.to (.h3 (i : Int) (j : Int) out last first fin ((D6.cuts l).length) (Xy (Ye (D6.ends l))) x x' acc)) = Yv (Ys l) N (.to (.h3 (i : Int) (l.length : Int) out last first fin ((D6.cuts l).length) (Xy (Ye (D6.ends l))) x x' (acc ++ D6.inn (l.drop j) x)))
 | 0, j, acc, h, ha => by
  refine ⟨0, fun N => ?_⟩
  rw [List.drop_eq_nil_of_le (by omega), show D6.inn ([] : List R6) x = [] from rfl, List.append_nil, Nat.add_zero, show j = l.length by omega]
 | k + 1, j, acc, h, ha => by
  have hj : j < l.length := by omega
  obtain ⟨n, hn⟩ := w9e i out last first fin x x' k (j + 1) (acc ++ D6.inn [rd l j] x) (by omega) (by have := D6.inn_length [rd l j] x; simp only [List.length_append, List.length_singleton] at *; omega)
  refine ⟨n + 1, fun N => ?_⟩
  have e : D6.inn (l.drop j) x = D6.inn [rd l j] x ++ D6.inn (l.drop (j + 1)) x := by
   rw [Yc hj, ← D6.inn_append]; rfl
  rw [e, ← Nat.add_assoc, Zv, ← List.append_assoc, ← hn N]
  by_cases h1 : D6.lo (rd l j) ≤ x
  ·by_cases h2 : x < D6.hi (rd l j)
   ·rw [D6.inn_t _ _ h1 h2]
    simp only [D6] at h1 h2 ⊢
    simp (disch := omega) only [Ys, Xh, Zb, Zk, Zo, Zt, Yz, Yw, Yu, Zf, Zj, Zw, Yp, Zq, Nat.zero_add, decide_true, Bool.and_true, Bool.true_and, cond_true, cond_false]
   ·rw [D6.inn_f2 _ _ h2, List.append_nil]
    simp only [D6] at h1 h2
    simp (disch := omega) only [Ys, Xh, Zs, Zb, Zk, Zo, Zt, Yz, Yw, Yu, Zf, Zj, Zw, Yp, Zq, Nat.zero_add, decide_true, Bool.and_true, Bool.true_and, cond_true, cond_false]
  ·rw [D6.inn_f1 _ _ h1, List.append_nil]
   simp only [D6] at h1
   simp (disch := omega) only [Ys, v7g, Zb, Zk, Zo, Zt, Yz, Yw, Yu, Zf, Zj, Zw, Yp, Zq, Nat.zero_add, decide_true, Bool.and_true, Bool.true_and, cond_true, cond_false]
theorem w9d (i : Nat) (hi : i ≤ 1000) (x x' : Int) (s last : List R4) (first : Int) (inn : List R4) (hs : s.length ≤ 1000) : ∀ (k j : Nat) (out : List R6), j + k = s.length → out.length ≤ 10000000 + j →
  ∃ n, ∀ N, Yv (Ys l) (N + n) (.to (.h4 x x' s (s.length : Int) (j : Int) s (i : Int) out last first ((D6.cuts l).length) (Xy (Ye (D6.ends l))) inn)) = Yv (Ys l) N (.to (.h2 ((i + 1 : Nat) : Int) (out ++ (s.drop j).map (D6.put x x')) last first x' ((D6.cuts l).length) (Xy (Ye (D6.ends l)))))
 | 0, j, out, h, ho => by
  have _u := hl
  refine ⟨1, fun N => ?_⟩
  rw [List.drop_eq_nil_of_le (by omega), Zv]
  simp (disch := omega) only [Ys, Zs, Zj, Zw, cond_false, List.map_nil, List.append_nil]
 | k + 1, j, out, h, ho => by
  obtain ⟨n, hn⟩ := w9d i hi x x' s last first inn hs k (j + 1) (out ++ [D6.put x x' (rd s j)]) (by omega) (by simp; omega)
  refine ⟨n + 1, fun N => ?_⟩
  have := hn N
  rw [Yc (show j < s.length by omega), List.map_cons, ← Nat.add_assoc, Zv]
  simp (disch := omega) only [Ys, Zb, Zk, Zo, Zt, Yz, Yw, Yu, Zf, Zj, Zw, Yp, Zq, Nat.zero_add, decide_true, Bool.and_true, Bool.true_and, cond_true, cond_false]
  rw [List.append_assoc] at this
  exact this
theorem w9c (i : Nat) (hi : i ≤ 1000) (x x' fin : Int) (s last : List R4) (first : Int) (inn : List R4) : ∀ (k j : Nat) (out : List R6), j + k = out.length → out.length ≤ 10000000 →
  ∃ n, ∀ N, Yv (Ys l) (N + n) (.to (.h5 x' (j : Int) x s (i : Int) out last first fin ((D6.cuts l).length) (Xy (Ye (D6.ends l))) inn)) = Yv (Ys l) N (.to (.h2 ((i + 1 : Nat) : Int) (D6.grow out j x') last first x' ((D6.cuts l).length) (Xy (Ye (D6.ends l)))))
 | 0, j, out, h, ho => by
  have _u := hl
  refine ⟨1, fun N => ?_⟩
  rw [D6.grow_nil _ _ _ (by omega), Zv]
  simp (disch := omega) only [Ys, Zs, Zj, Zw, cond_false]
 | k + 1, j, out, h, ho => by
  obtain ⟨n, hn⟩ := w9c i hi x x' fin s last first inn k (j + 1) (out.set j (D6.ext x' (rd out j))) (by simp; omega) (by simpa using ho)
  refine ⟨n + 1, fun N => ?_⟩
  have := hn N
  rw [D6.grow_set out j _ (by omega)] at this
  rw [← Nat.add_assoc, Zv]
  simp (disch := omega) only [Ys, Zb, Zk, Zo, Zt, Yz, Yw, Yu, Zf, Zj, Zw, Yp, Zq, Nat.zero_add, decide_true, Bool.and_true, Bool.true_and, cond_true, cond_false]
  exact this
theorem x8d : ∀ (k i : Nat) (s : Sw R6 R4), k = (D6.cuts l).length - 1 - i → i ≤ (D6.cuts l).length → s.out.length ≤ i * 1000 → s.last.length ≤ 1000 → s.first ≤ s.out.length →
  ∃ n, Yv (Ys l) n (.to (.h2 ((i + 1 : Nat) : Int) s.out s.last (s.first : Int) s.fin ((D6.cuts l).length) (Xy (Ye (D6.ends l))))) = .ret ((bif okF l k i then z1a (D6.go l k i s).out else slmE l k i))
 | 0, i, s, h, hi, ho, hla, hf => by
  have hc := D6.cuts_length l
  refine ⟨1, ?_⟩
  rw [Zv, show D6.go l 0 i s = s from rfl, show okF l 0 i = true from rfl, cond_true]
  unfold z1a
  by_cases q : (s.out.length : Int) > 400
  ·simp (disch := omega) only [Ys, Zs, Yi, cond_true, cond_false, Zm]
  ·simp (disch := omega) only [Ys, Zb, Zs, Xz, cond_true, cond_false, Zm]
 | k + 1, i, s, h, hi, ho, hla, hf => by
  have hc := D6.cuts_length l
  have hi1 : i + 1 < (D6.cuts l).length := by omega
  have hpl : (Xy (Ye (D6.ends l))).length = 2 * l.length := by rw [Wi, Wu, D6.ends_length]
  have r0 : rd (Xy (Ye (D6.ends l))) i = rd (D6.cuts l) i := Us _ _ (by show i < (D6.cuts l).length; omega)
  have r1 : rd (Xy (Ye (D6.ends l))) (i + 1) = rd (D6.cuts l) (i + 1) := Us _ _ (by show i + 1 < (D6.cuts l).length; omega)
  have hbig : i * 1000 ≤ 1000 * 1000 := Nat.mul_le_mul_right _ (by omega)
  have hsl := v2n l (rd (D6.cuts l) i)
  have hsd : D6.sec l (rd (D6.cuts l) i) = Yj (D6.inn l (rd (D6.cuts l) i)) := rfl
  obtain ⟨n3, h3⟩ := w9e l hl (i + 1) s.out s.last (s.first : Int) s.fin (rd (D6.cuts l) i) (rd (D6.cuts l) (i + 1)) l.length 0 [] (Nat.zero_add _) (Nat.le_refl _)
  simp only [List.drop_zero, List.nil_append, Qn] at h3
  have w1 : Qg (D6.inn l (rd (D6.cuts l) i)) = true := rfl
  have w2 : Wj s.last (Yj (D6.inn l (rd (D6.cuts l) i))) = true := decide_eq_true (by omega)
  have ol := D6.one_length l (rd (D6.cuts l) i) (rd (D6.cuts l) (i + 1)) s
  have st0 : ∀ N, Yv (Ys l) (N + n3 + 1) (.to (.h2 ((i + 1 : Nat) : Int) s.out s.last (s.first : Int) s.fin ((D6.cuts l).length) (Xy (Ye (D6.ends l))))) = Yv (Ys l) N (.to (.h3 ((i + 1 : Nat) : Int) (l.length : Int) s.out s.last (s.first : Int) s.fin ((D6.cuts l).length) (Xy (Ye (D6.ends l))) (rd (D6.cuts l) i) (rd (D6.cuts l) (i + 1)) (D6.inn l (rd (D6.cuts l) i)))) := fun N => by
   rw [← h3 N, Zv]
   have e1 : IntKind.wrap .i64 (((i + 1 : Nat) : Int) - 1) = (i : Int) := by rw [Zc]; exact Zj (by omega)
   simp (disch := omega) only [Ys, e1, r0, r1, Zb, Zk, Zo, Zt, Yz, Yw, Yu, Zf, Zj, Zw, Yp, Zq, Nat.zero_add, decide_true, Bool.and_true, Bool.true_and, cond_true, cond_false]
  rcases Ya (w8n l (rd (D6.cuts l) i)) with q0 | q0
  ·refine ⟨1 + n3 + 1, ?_⟩
   rw [st0 1, Zv]
   simp only [okF, slmE, eF, q0, cond_true, cond_false]
   have q0' : (Uc (D6.inn l (rd (D6.cuts l) i)) != 0) = true := q0
   simp (disch := omega) only [Ys, Zb, Zk, Zs, q0', w1, cond_true, cond_false, Zm]
  have q0' : (Uc (D6.inn l (rd (D6.cuts l) i)) != 0) = false := q0
  rcases Ya (decide (0 < (D6.sec l (rd (D6.cuts l) i)).length) && ((s.fin == rd (D6.cuts l) i) && D6.same s.last (D6.sec l (rd (D6.cuts l) i)))) with q | q
  ·obtain ⟨n5, h5⟩ := w9c l hl (i + 1) (by omega) (rd (D6.cuts l) i) (rd (D6.cuts l) (i + 1)) s.fin (D6.sec l (rd (D6.cuts l) i)) s.last (s.first : Int) (D6.inn l (rd (D6.cuts l) i)) (s.out.length - s.first) s.first s.out (by omega) (by omega)
   have e : D6.one l (rd (D6.cuts l) i) (rd (D6.cuts l) (i + 1)) s = ⟨D6.grow s.out s.first (rd (D6.cuts l) (i + 1)), s.last, s.first, rd (D6.cuts l) (i + 1)⟩ := by unfold Dim.one; rw [q]; rfl
   obtain ⟨n0, h0⟩ := x8d k (i + 1) (D6.one l (rd (D6.cuts l) i) (rd (D6.cuts l) (i + 1)) s) (by omega) (by omega) (by omega) (by rw [e]; exact hla) (by rw [e]; simpa [Dim.grow_length] using hf)
   refine ⟨n0 + n5 + 1 + n3 + 1, ?_⟩
   rw [st0 (n0 + n5 + 1), Zv]
   simp only [Bool.and_eq_true, decide_eq_true_eq] at q
   obtain ⟨q1, q2, q3⟩ := q
   have q3' : Up s.last (Yj (D6.inn l (rd (D6.cuts l) i))) = true := q3
   rw [hsd] at q1
   simp (disch := omega) only [Ys, Zb, Zk, Zs, Yi, q0', q2, q3', w1, w2, cond_true, cond_false]
   rw [← hsd, h5 n0]
   simp only [okF, slmE, eF, q0, cond_false]; simp only [Dim.go]
   rw [e] at h0 ⊢
   exact h0
  ·obtain ⟨n4, h4⟩ := w9d l hl (i + 1) (by omega) (rd (D6.cuts l) i) (rd (D6.cuts l) (i + 1)) (D6.sec l (rd (D6.cuts l) i)) (D6.sec l (rd (D6.cuts l) i)) (s.out.length : Int) (D6.inn l (rd (D6.cuts l) i)) hsl (D6.sec l (rd (D6.cuts l) i)).length 0 s.out (Nat.zero_add _) (by omega)
   simp only [List.drop_zero, Qn] at h4
   have e : D6.one l (rd (D6.cuts l) i) (rd (D6.cuts l) (i + 1)) s = ⟨s.out ++ (D6.sec l (rd (D6.cuts l) i)).map (D6.put (rd (D6.cuts l) i) (rd (D6.cuts l) (i + 1))), D6.sec l (rd (D6.cuts l) i), s.out.length, rd (D6.cuts l) (i + 1)⟩ := by unfold Dim.one; rw [q]; rfl
   obtain ⟨n0, h0⟩ := x8d k (i + 1) (D6.one l (rd (D6.cuts l) i) (rd (D6.cuts l) (i + 1)) s) (by omega) (by omega) (by omega) (by rw [e]; exact hsl) (by rw [e]; simp)
   have hg : Yv (Ys l) 1 (.to (.h3 ((i + 1 : Nat) : Int) (l.length : Int) s.out s.last (s.first : Int) s.fin ((D6.cuts l).length) (Xy (Ye (D6.ends l))) (rd (D6.cuts l) i) (rd (D6.cuts l) (i + 1)) (D6.inn l (rd (D6.cuts l) i)))) = .to (.h4 (rd (D6.cuts l) i) (rd (D6.cuts l) (i + 1)) (D6.sec l (rd (D6.cuts l) i)) ((D6.sec l (rd (D6.cuts l) i)).length : Int) 0 (D6.sec l (rd (D6.cuts l) i)) ((i + 1 : Nat) : Int) s.out (D6.sec l (rd (D6.cuts l) i)) (s.out.length : Int) ((D6.cuts l).length) (Xy (Ye (D6.ends l))) (D6.inn l (rd (D6.cuts l) i))) := by
    rw [show (1 : Nat) = 0 + 1 from rfl, Zv]
    rw [hsd] at q ⊢
    have e3 : D6.same s.last (Yj (D6.inn l (rd (D6.cuts l) i))) = Up s.last (Yj (D6.inn l (rd (D6.cuts l) i))) := rfl
    rw [e3] at q
    by_cases q1 : 0 < (Yj (D6.inn l (rd (D6.cuts l) i))).length
    ·rw [decide_eq_true q1, Bool.true_and] at q
     rcases Ya (s.fin == rd (D6.cuts l) i) with q2 | q2
     ·rw [q2, Bool.true_and] at q
      simp (disch := omega) only [Ys, Zb, Zk, Zs, Yi, q0', q2, q, w1, w2, cond_true, cond_false]
      rfl
     ·simp (disch := omega) only [Ys, Zb, Zk, Zs, Yi, q0', q2, w1, w2, cond_true, cond_false]
      rfl
    ·simp (disch := omega) only [Ys, Zb, Zk, Zs, Xz, q0', w1, w2, cond_true, cond_false]
     rfl
   refine ⟨n0 + n4 + 1 + n3 + 1, ?_⟩
   rw [st0 (n0 + n4 + 1), y0g _ (n0 + n4) 1, hg, h4 n0]
   simp only [okF, slmE, eF, q0, cond_false]; simp only [Dim.go]
   rw [e] at h0 ⊢
   exact h0
theorem w9f : ∀ (k i : Nat) (acc : List Int), i + k = l.length → acc = D6.ends (l.take i) → ∃ n, Yv (Ys l) n (.to (.h1 (i : Int) acc)) = .ret ((bif okF l ((D6.cuts l).length - 1) 0 then z1a (D6.go l ((D6.cuts l).length - 1) 0 ⟨[], [], 0, 0⟩).out else slmE l ((D6.cuts l).length - 1) 0))
 | 0, i, acc, h, ha => by
  have e : acc = D6.ends l := by rw [ha, List.take_of_length_le (by omega)]
  subst e
  have hle := D6.ends_length l
  obtain ⟨n, hn⟩ := x8d l hl ((D6.cuts l).length - 1) 0 ⟨[], [], 0, 0⟩ (by omega) (Nat.zero_le _) (Nat.zero_le _) (Nat.zero_le _) (Nat.zero_le _)
  refine ⟨n + 1, ?_⟩
  rw [Zv]
  simp (disch := omega) only [Ys, Ux, Kx, z6j, Zs, Yw, Yu, decide_true, cond_true, cond_false]
  exact hn
 | k + 1, i, acc, h, ha => by
  have hle := D6.ends_length (l.take i)
  have fP : acc.length ≤ 2 * i := by rw [ha, hle]; simp; omega
  obtain ⟨n, hn⟩ := w9f k (i + 1) (acc ++ D6.ends [rd l i]) (by omega) (by
   rw [ha, List.take_add_one]
   have : l[i]? = some (rd l i) := by rw [Xe (show i < l.length by omega)]; exact List.getElem?_eq_getElem _
   rw [this, D6.ends_append]; rfl)
  refine ⟨n + 1, ?_⟩
  rw [Zv]
  simp (disch := omega) only [Ys, Zb, Zk, Zo, Zt, Yz, Yw, Yu, Zf, Zj, Zw, Yp, Zq, Nat.zero_add, decide_true, Bool.and_true, Bool.true_and, cond_true, cond_false]
  exact hn
theorem w9g : ∀ (k i : Nat), i + k = l.length → (∀ s ∈ l.take i, Ja s = true) → ∃ n, Yv (Ys l) n (.to (.h0 (i : Int))) = .ret (bif l.all Ja then (bif okF l ((D6.cuts l).length - 1) 0 then z1a (D6.go l ((D6.cuts l).length - 1) 0 ⟨[], [], 0, 0⟩).out else slmE l ((D6.cuts l).length - 1) 0) else slmX)
 | 0, i, h, ht => by
  have hv : l.all Ja = true := List.all_eq_true.2 fun s hs => ht s (by rw [List.take_of_length_le (by omega)]; exact hs)
  obtain ⟨n, hn⟩ := w9f l hl l.length 0 [] (Nat.zero_add _) rfl
  refine ⟨n + 1, ?_⟩
  rw [Zv, hv, cond_true]
  simp (disch := omega) only [Ys, Zs, cond_false]
  exact hn
 | k + 1, i, h, ht => by
  have hi : i < l.length := by omega
  have hs : Ys l (.h0 (i : Int)) = bif Ja (rd l i) then .to (.h0 ((i + 1 : Nat) : Int)) else .ret slmX := by
   have e : v2q (rd l i).a (rd l i).b (rd l i).c (rd l i).d (rd l i).e (rd l i).f = Ja (rd l i) := rfl
   simp (disch := omega) only [Ys, e, y4q, x3y, x3z, Zt, Zj, Zw, Zq, Bool.and_true, cond_true, cond_false]
   rfl
  rcases Ya (Ja (rd l i)) with q | q
  ·obtain ⟨n, hn⟩ := w9g k (i + 1) (by omega) (fun s hs => by
    rw [List.take_add_one] at hs
    have e : l[i]? = some (rd l i) := by rw [Xe hi]; exact List.getElem?_eq_getElem _
    rw [e] at hs
    simp only [Option.toList_some, List.mem_append, List.mem_singleton] at hs
    rcases hs with hs | rfl
    ·exact ht s hs
    ·exact q)
   refine ⟨n + 1, ?_⟩
   rw [Zv, hs, q, cond_true]
   exact hn
  ·have hv : l.all Ja = false := Bool.eq_false_iff.2 fun e => by
    have := List.all_eq_true.1 e (rd l i) (by rw [Xe hi]; exact List.getElem_mem hi)
    rw [this] at q; cases q
   refine ⟨1, ?_⟩
   rw [Zv, hv, cond_false, hs, q, cond_false, Zm]
end
theorem eF_ne {l : List R6} : ∀ (k i : Nat), okF l k i = false → (eF l k i != 0) = true
 | 0, i, h => by cases h
 | k + 1, i, h => by
  unfold okF at h
  unfold eF
  rcases Ya (w8n l (rd (D6.cuts l) i)) with q | q
  ·rw [q, cond_true]; exact q
  ·rw [q, cond_false] at h ⊢; exact eF_ne k (i + 1) h
def z0y (l : List R6) : Int := bif decide (400 < l.length) then 4 else bif l.all Ja then (bif okF l ((D6.cuts l).length - 1) 0 then v2f (D6.out l).length else eF l ((D6.cuts l).length - 1) 0) else 8
def z0z (l : List R6) : List R6 := v1t (z0y l) (D6.out l)
def z3p (l : List R6) : Bool := true
theorem v3c (l : List R6) (h : z3p l = true) : ∃ n, Yv (Ys l) n (z7w l) = .ret (x7h (z0y l) (D6.out l)) := by
 unfold z7w z0y
 by_cases h : 400 < l.length
 ·refine ⟨0, ?_⟩
  rw [decide_eq_true h, Yi (show (l.length : Int) > 400 by omega)]; rfl
 ·obtain ⟨n, hn⟩ := w9g l (by omega) l.length 0 (Nat.zero_add _) (fun s hs => by simp at hs)
  refine ⟨n, ?_⟩
  rw [decide_eq_false h, Xz (show ¬ (l.length : Int) > 400 by omega), cond_false, cond_false]
  rw [Qn] at hn
  rw [hn]
  rcases Ya (l.all Ja) with q | q
  ·rw [q, cond_true, cond_true]
   rcases Ya (okF l ((D6.cuts l).length - 1) 0) with q2 | q2
   ·rw [q2, cond_true, cond_true, y0v]; rfl
   ·rw [q2, cond_false, cond_false, x2t _ (eF_ne _ _ q2)]; rfl
  ·rw [q]; rfl
def fSlm : List AVal → Option (AVal × Bool)
 | [a0] => match asL R6 a0 with
  | some (L0, g0, n0) => some (.tup [.dat (z0z L0).length (Zz (z0z L0)), .int .i64 (z0y L0)], isT R6 n0 g0 && (z3p L0))
  | _ => none
 | _ => none
theorem v5z {S : Specs} (hS : Zu prog S) : Zu prog (S.with w0i fSlm) := by
 refine v5w hS (by kernel_rfl) fun args v h => ?_
 unfold fSlm at h
 split at h
 ·rename_i a0
  split at h
  ·rename_i L0 g0 n0 e0
   simp only [Option.some.injEq, Prod.mk.injEq, Bool.and_eq_true] at h
   obtain ⟨rfl, ho0, hw⟩ := h
   obtain ⟨N, hN⟩ := v3c L0 hw
   exact ⟨_, _, (.cons (asL_le e0 ho0) .nil), y3m _ _, w3m L0 N _ hN, 3, y9j _ _⟩
  ·cases h
 ·cases h
def Yb (x n : Int) : Int := bif decide (IntKind.wrap .i64 (IntKind.wrap .i64 (Int.tdiv x n) * n) > x) then IntKind.wrap .i64 (IntKind.wrap .i64 (IntKind.wrap .i64 (Int.tdiv x n) - 1) * n) else IntKind.wrap .i64 (IntKind.wrap .i64 (Int.tdiv x n) * n)
def Xw (x n : Int) : Bool := !decide (n = 0)
theorem v7e (x n : Int) (h : Xw x n = true) : ∃ N, Yv (x1a x n) N (z8q x n) = .ret [.int .i64 (Yb x n)] := ⟨0, by
 have h : (!decide (n = 0)) = true := h
 unfold z8q Yb
 rw [h, cond_true]
 cases decide (IntKind.wrap .i64 (IntKind.wrap .i64 (Int.tdiv x n) * n) > x) <;> rfl⟩
def spC (lo hi a b : Int) : Int := Wg (IntKind.wrap .i64 (Uw hi b - Wg lo a)) 0
def fu1 (r : R6) (a b c d e f : Int) : Int := IntKind.wrap .i64 (IntKind.wrap .i64 (IntKind.wrap .i64 (1 * spC r.a r.d a b) * spC r.b r.e c d) * spC r.c r.f e f)
def fuF (a b c d e f : Int) : List R6 → Int → Int
 | [], s => s
 | r :: l, s => fuF a b c d e f l (IntKind.wrap .i64 (s - fu1 r a b c d e f))
def fu0 (a b c d e f : Int) : Int := IntKind.wrap .i64 (IntKind.wrap .i64 (IntKind.wrap .i64 (b - a) * IntKind.wrap .i64 (d - c)) * IntKind.wrap .i64 (f - e))
def w3a (L : List R6) (a b c d e f : Int) : Bool := fuF a b c d e f L (fu0 a b c d e f) == 0
def z4p (L : List R6) (a b c d e f : Int) : Bool := decide (L.length ≤ 100000)
theorem v1p {L : List R6} {a b c d e f : Int} (hl : L.length ≤ 100000) : ∀ (k i : Nat) (s : Int), i + k = L.length → ∃ N, Yv (z6e L a b c d e f) N (.to (.h0 s (i : Int))) = .ret [.bool (fuF a b c d e f (L.drop i) s == 0)]
 | 0, i, s, h => by
  refine ⟨1, ?_⟩
  rw [Zv, List.drop_eq_nil_of_le (by omega)]
  simp (disch := omega) only [z6e, Zs, cond_false]; rfl
 | k + 1, i, s, h => by
  have hi : i < L.length := by omega
  obtain ⟨N, hN⟩ := v1p (a := a) (b := b) (c := c) (d := d) (e := e) (f := f) hl k (i + 1) (IntKind.wrap .i64 (s - fu1 (rd L i) a b c d e f)) (by omega)
  have hw : IntKind.wrap .i64 ((i : Int) + 1) = ((i + 1 : Nat) : Int) := Zj (by omega)
  refine ⟨N + 1, ?_⟩
  rw [Zv, Yc hi]
  simp (disch := omega) only [z6e, fuF, Zo, Zt, hw, Zq, Bool.and_true, cond_true]
  exact hN
theorem v5o (L : List R6) (a b c d e f : Int) (h : z4p L a b c d e f = true) : ∃ N, Yv (z6e L a b c d e f) N (y4e L a b c d e f) = .ret [.bool (w3a L a b c d e f)] :=
 v1p (of_decide_eq_true h) L.length 0 _ (Nat.zero_add _)
def fDwn : List AVal → Option (AVal × Bool)
 | [.int .i64 x0, .int .i64 x1] => some (.int .i64 (Yb x0 x1), Xw x0 x1)
 | _ => none
theorem v6p {S : Specs} (hS : Zu prog S) : Zu prog (S.with nDown fDwn) := by
 refine z2g hS (by kernel_rfl) fun args v h => ?_
 unfold fDwn at h
 split at h
 ·rename_i x0 x1
  simp only [Option.some.injEq, Prod.mk.injEq, Bool.and_eq_true] at h
  obtain ⟨rfl, hw⟩ := h
  obtain ⟨N, hN⟩ := v7e x0 x1 hw
  exact ⟨_, _, (.cons (.refl _) (.cons (.refl _) .nil)), rfl, w7k x0 x1 N _ hN, 3, rfl⟩
 ·cases h
def fFul : List AVal → Option (AVal × Bool)
 | [a0, .agg [.int .i64 aV, .int .i64 aW], .agg [.int .i64 bO, .int .i64 bP], .agg [.int .i64 cS, .int .i64 cT]] => match asL R6 a0 with
  | some (L0, g0, n0) => some (.bool (w3a L0 aV aW bO bP cS cT), isT R6 n0 g0 && (z4p L0 aV aW bO bP cS cT))
  | _ => none
 | _ => none
theorem v6l {S : Specs} (hS : Zu prog S) : Zu prog (S.with nFull fFul) := by
 refine z2g hS (by kernel_rfl) fun args v h => ?_
 unfold fFul at h
 split at h
 ·rename_i a0 aV aW bO bP cS cT
  split at h
  ·rename_i L0 g0 n0 e0
   simp only [Option.some.injEq, Prod.mk.injEq, Bool.and_eq_true] at h
   obtain ⟨rfl, ho0, hw⟩ := h
   obtain ⟨N, hN⟩ := v5o L0 aV aW bO bP cS cT hw
   exact ⟨_, _, (.cons (asL_le e0 ho0) (.cons (.refl _) (.cons (.refl _) (.cons (.refl _) .nil)))), rfl, w6o L0 aV aW bO bP cS cT N _ hN, 3, rfl⟩
  ·cases h
 ·cases h
def De : Specs := (((Dd.with w0i fSlm).with nDown fDwn).with nFull fFul)
theorem Kc : Zu prog De := (v6l (v6p (v5z Ua)))
end Go.Am
end
