/- A part of a proof: several texts in one. -/
import Derived.Test.YtijpnpkolglajaaGreatKd4
import Derived.WideShapes
import Derived.ChangeShapes
set_option maxRecDepth 1000000
set_option maxHeartbeats 8000000
set_option linter.unusedVariables false
set_option linter.unusedSimpArgs false
noncomputable section
namespace Go.Am
open Go.Proofs.Tryz
open Go.Proofs
inductive innS where
 | h0 (v14 : Int) (aA : List Int)
 | h1 (v5 : Int) (aC : List R6) (bH : List R4) (aE : Int) (aK : Int) (aV : Nat) (aP : List Int)
 | h2 (v5 : Int) (v6 : List R6) (v19 : Int) (aC : List R6) (bH : List R4) (aE : Int) (aK : Int) (aV : Nat) (aP : List Int)
 | h3 (v70 : List R4) (v71 : Int) (v72 : Int) (bX : Int) (aL : Int) (aI : Int) (bQ : List R6) (aC : List R6) (aE : Int) (cC : Nat) (cD : List Int)
 | h4 (v14 : Int) (bX : Int) (aL : Int) (aI : Int) (bQ : List R6) (aC : List R6) (aE : List R4) (aK : Int) (dY : Int) (cM : Nat) (cZ : List Int)
def innC (l0 : List R6) (x1 : Int) : innS → Cfg
 | .h0 v14 aA => ⟨⟨45, 0, true⟩, none, (Zg prog 80 [1, 1, 0, 1, 0, 0] 0), none, (Zy prog 4), ⟨Yq [(2, (ii x1)), (3, (.ptr 0 0)), (4, (.ptr 1 0)), (7, (.ptr 2 0)), (12, (.dat l0.length (Zz l0))), (13, (ii (l0.length : Int))), (14, (ii v14))], Va [⟨[(.dat l0.length (Zz l0))], 22, none⟩, ⟨[(ii 2)], 3, none⟩, ⟨[(.sla 10 1 0 aA.length (.un 1))], 47, none⟩, ⟨[(ii x1)], 3, none⟩, ⟨[.nils], 30, none⟩, ⟨[(ii 0)], 24, none⟩, ⟨[.nils], 30, none⟩, ⟨[.nils], 106, none⟩, ⟨[(ii 0)], 3, none⟩, ⟨[(ii 0)], 3, none⟩, ⟨Yg aA.length (Zz aA), 3, some ⟨1, aA.length, (Zz aA)⟩⟩] 0, 11, [], true⟩, [⟨⟨99, 0, true⟩, (Vu prog 36 [1, 1, 1, 1, 1, 0, 0] 2), (Zg prog 36 [1, 1, 1, 1, 1, 0, 0] 1), none, (Zy prog 36), Yq [(3, (.ptr 3 0)), (4, (.ptr 4 0)), (5, (.ptr 5 0)), (7, (.ptr 6 0)), (8, (.ptr 7 0)), (9, (.ptr 8 0)), (10, (.ptr 9 0)), (23, (.dat l0.length (Zz l0))), (24, (ii x1))]⟩], .leaf⟩
 | .h1 v5 aC bH aE aK aV aP => ⟨⟨63, 0, true⟩, none, (Zg prog 121 [1, 0, 0] 0), none, [], ⟨Yq [(0, (.yld 0)), (1, (.ptr 8 0)), (2, (.ptr 10 0)), (3, (.ptr 11 0)), (5, (ii v5))], z5f [(1, ⟨[(ii x1)], 3, none⟩), (2, ⟨[.nils], 30, none⟩), (3, ⟨[(ii 0)], 24, none⟩), (4, ⟨[(.sla 12 6 0 aC.length (.un 6))], 30, none⟩), (5, ⟨[(.dat bH.length (Zz bH))], 106, none⟩), (6, ⟨[(ii aE)], 3, none⟩), (7, ⟨[(ii aK)], 3, none⟩), (8, ⟨[(.sla 9 1 0 aV (.un 1))], 47, none⟩), (9, ⟨Yg aP.length (Zz aP), 3, some ⟨1, aP.length, (Zz aP)⟩⟩), (10, ⟨[(.dat l0.length (Zz l0))], 22, none⟩), (11, ⟨[(ii 2)], 3, none⟩), (12, ⟨Yg aC.length (Zz aC), 68, some ⟨6, aC.length, (Zz aC)⟩⟩)], 13, [], true⟩, [⟨⟨99, 0, true⟩, none, (.inRangeFunc 0 :: (Zg prog 36 [1, 1, 1, 1, 1, 0, 1, 0] 1)), none, (Zy prog 36), Yq [(4, (.ptr 2 0)), (5, (.ptr 3 0)), (7, (.ptr 4 0))]⟩], (z5h [(0, ⟨.ready, none, 99, Yq [(3, (.ptr 1 0)), (4, (.ptr 2 0)), (5, (.ptr 3 0)), (7, (.ptr 4 0)), (8, (.ptr 5 0)), (9, (.ptr 6 0)), (10, (.ptr 7 0))], [26, 27], (Xf prog 36 [1, 1, 1, 1, 1, 0, 1, 0, 0]), (Xf prog 36 [1, 1, 1, 1, 1, 0, 1, 0, 1])⟩)])⟩
 | .h2 v5 v6 v19 aC bH aE aK aV aP => ⟨⟨63, 0, true⟩, none, (Zg prog 121 [1, 0, 0, 1, 0, 0, 1, 0, 1, 0, 0] 0), none, [], ⟨Yq [(0, (.yld 0)), (1, (.ptr 8 0)), (2, (.ptr 10 0)), (3, (.ptr 11 0)), (5, (ii v5)), (6, (.sla 12 6 0 v6.length (.un 6))), (17, (.dat l0.length (Zz l0))), (18, (ii (l0.length : Int))), (19, (ii v19))], z5f [(1, ⟨[(ii x1)], 3, none⟩), (2, ⟨[.nils], 30, none⟩), (3, ⟨[(ii 0)], 24, none⟩), (4, ⟨[(.sla 13 6 0 aC.length (.un 6))], 30, none⟩), (5, ⟨[(.dat bH.length (Zz bH))], 106, none⟩), (6, ⟨[(ii aE)], 3, none⟩), (7, ⟨[(ii aK)], 3, none⟩), (8, ⟨[(.sla 9 1 0 aV (.un 1))], 47, none⟩), (9, ⟨Yg aP.length (Zz aP), 3, some ⟨1, aP.length, (Zz aP)⟩⟩), (10, ⟨[(.dat l0.length (Zz l0))], 22, none⟩), (11, ⟨[(ii 2)], 3, none⟩), (12, ⟨Yg v6.length (Zz v6), 68, some ⟨6, v6.length, (Zz v6)⟩⟩), (13, ⟨Yg aC.length (Zz aC), 68, some ⟨6, aC.length, (Zz aC)⟩⟩)], 14, [], true⟩, [⟨⟨99, 0, true⟩, none, (.inRangeFunc 0 :: (Zg prog 36 [1, 1, 1, 1, 1, 0, 1, 0] 1)), none, (Zy prog 36), Yq [(4, (.ptr 2 0)), (5, (.ptr 3 0)), (7, (.ptr 4 0))]⟩], (z5h [(0, ⟨.ready, none, 99, Yq [(3, (.ptr 1 0)), (4, (.ptr 2 0)), (5, (.ptr 3 0)), (7, (.ptr 4 0)), (8, (.ptr 5 0)), (9, (.ptr 6 0)), (10, (.ptr 7 0))], [26, 27], (Xf prog 36 [1, 1, 1, 1, 1, 0, 1, 0, 0]), (Xf prog 36 [1, 1, 1, 1, 1, 0, 1, 0, 1])⟩)])⟩
 | .h3 v70 v71 v72 bX aL aI bQ aC aE cC cD => ⟨⟨99, 0, true⟩, none, (Zg prog 36 [1, 1, 1, 1, 1, 0, 1, 0, 1, 0, 1, 1, 1, 1, 1, 0, 0] 0), (some 0), [], ⟨Yq [(7, (.ptr 4 0)), (11, (.ptr 8 0)), (70, (.dat v70.length (Zz v70))), (71, (ii v71)), (72, (ii v72))], z5f [(1, ⟨[(ii x1)], 3, none⟩), (2, ⟨[.nils], 30, none⟩), (3, ⟨[(ii 0)], 24, none⟩), (4, ⟨[(.sla 13 6 0 aC.length (.un 6))], 30, none⟩), (5, ⟨[(.dat v70.length (Zz v70))], 106, none⟩), (6, ⟨[(ii aE)], 3, none⟩), (7, ⟨[(ii aI)], 3, none⟩), (8, ⟨[(ii aL), (ii aI)], 110, none⟩), (9, ⟨[(.sla 10 1 0 cC (.un 1))], 47, none⟩), (10, ⟨Yg cD.length (Zz cD), 3, some ⟨1, cD.length, (Zz cD)⟩⟩), (11, ⟨[(.dat l0.length (Zz l0))], 22, none⟩), (12, ⟨[(ii 2)], 3, none⟩), (13, ⟨Yg aC.length (Zz aC), 68, some ⟨6, aC.length, (Zz aC)⟩⟩)], 14, [], true⟩, [⟨⟨63, 0, true⟩, (Vu prog 121 [1, 0, 0, 1, 0, 0, 1, 1, 0] 12), (Zg prog 121 [1, 0, 0, 1, 0, 0, 1, 1, 0] 1), none, [], Yq [(0, (.yld 0)), (1, (.ptr 9 0)), (2, (.ptr 11 0)), (3, (.ptr 12 0)), (5, (ii bX)), (49, (.yld 0)), (59, (.agg [(ii aL), (ii aI)])), (60, (.dat bQ.length (Zz bQ)))]⟩, ⟨⟨99, 0, true⟩, none, (.inRangeFunc 0 :: (Zg prog 36 [1, 1, 1, 1, 1, 0, 1, 0] 1)), none, (Zy prog 36), Yq [(4, (.ptr 2 0)), (5, (.ptr 3 0)), (7, (.ptr 4 0))]⟩], (z5h [(0, ⟨.busy, none, 99, Yq [(3, (.ptr 1 0)), (4, (.ptr 2 0)), (5, (.ptr 3 0)), (7, (.ptr 4 0)), (8, (.ptr 5 0)), (9, (.ptr 6 0)), (10, (.ptr 7 0))], [26, 27], (Xf prog 36 [1, 1, 1, 1, 1, 0, 1, 0, 0]), (Xf prog 36 [1, 1, 1, 1, 1, 0, 1, 0, 1])⟩)])⟩
 | .h4 v14 bX aL aI bQ aC aE aK dY cM cZ => ⟨⟨99, 0, true⟩, none, (Zg prog 36 [1, 1, 1, 1, 1, 0, 1, 0, 1, 0, 1, 1, 0, 1, 0, 0, 1, 0, 0] 0), (some 0), [], ⟨Yq [(7, (.ptr 4 0)), (10, (.ptr 8 0)), (11, (.ptr 9 0)), (14, (ii v14))], z5f [(1, ⟨[(ii x1)], 3, none⟩), (2, ⟨[.nils], 30, none⟩), (3, ⟨[(ii 0)], 24, none⟩), (4, ⟨[(.sla 5 6 0 aC.length (.un 6))], 30, none⟩), (5, ⟨Yg aC.length (Zz aC), 68, some ⟨6, aC.length, (Zz aC)⟩⟩), (6, ⟨[(.dat aE.length (Zz aE))], 106, none⟩), (7, ⟨[(ii aK)], 3, none⟩), (8, ⟨[(ii dY)], 3, none⟩), (9, ⟨[(ii aL), (ii aI)], 110, none⟩), (10, ⟨[(.sla 11 1 0 cM (.un 1))], 47, none⟩), (11, ⟨Yg cZ.length (Zz cZ), 3, some ⟨1, cZ.length, (Zz cZ)⟩⟩), (12, ⟨[(.dat l0.length (Zz l0))], 22, none⟩), (13, ⟨[(ii 2)], 3, none⟩)], 14, [], true⟩, [⟨⟨63, 0, true⟩, (Vu prog 121 [1, 0, 0, 1, 0, 0, 1, 1, 0] 12), (Zg prog 121 [1, 0, 0, 1, 0, 0, 1, 1, 0] 1), none, [], Yq [(0, (.yld 0)), (1, (.ptr 10 0)), (2, (.ptr 12 0)), (3, (.ptr 13 0)), (5, (ii bX)), (49, (.yld 0)), (59, (.agg [(ii aL), (ii aI)])), (60, (.dat bQ.length (Zz bQ)))]⟩, ⟨⟨99, 0, true⟩, none, (.inRangeFunc 0 :: (Zg prog 36 [1, 1, 1, 1, 1, 0, 1, 0] 1)), none, (Zy prog 36), Yq [(4, (.ptr 2 0)), (5, (.ptr 3 0)), (7, (.ptr 4 0))]⟩], (z5h [(0, ⟨.busy, none, 99, Yq [(3, (.ptr 1 0)), (4, (.ptr 2 0)), (5, (.ptr 3 0)), (7, (.ptr 4 0)), (8, (.ptr 6 0)), (9, (.ptr 7 0)), (10, (.ptr 8 0))], [26, 27], (Xf prog 36 [1, 1, 1, 1, 1, 0, 1, 0, 0]), (Xf prog 36 [1, 1, 1, 1, 1, 0, 1, 0, 1])⟩)])⟩
def innN0 : List (Option (List Nat)) := [some [2, 3, 4, 7, 12, 13, 14], some [3, 4, 5, 7, 8, 9, 10, 23, 24]]
def innM0 : List (Option (List Nat)) := []
def v7v : List (Option (List Nat)) := [some [0, 1, 2, 3, 5], some [4, 5, 7]]
def v7w : List (Option (List Nat)) := [some [3, 4, 5, 7, 8, 9, 10], none, none, none, none, none, none, none, none, none, none, none, none]
def w8p : List (Option (List Nat)) := [some [0, 1, 2, 3, 5, 6, 17, 18, 19], some [4, 5, 7]]
def w8r : List (Option (List Nat)) := [some [3, 4, 5, 7, 8, 9, 10], none, none, none, none, none, none, none, none, none, none, none, none, none]
def w8o : List (Option (List Nat)) := [some [7, 11, 70, 71, 72], some [0, 1, 2, 3, 5, 49, 59, 60], some [4, 5, 7]]
def w8q : List (Option (List Nat)) := [some [3, 4, 5, 7, 8, 9, 10], none, none, none, none, none, none, none, none, none, none, none, none, none]
def innN4 : List (Option (List Nat)) := [some [7, 10, 11, 14], some [0, 1, 2, 3, 5, 49, 59, 60], some [4, 5, 7]]
def innM4 : List (Option (List Nat)) := [some [3, 4, 5, 7, 8, 9, 10], none, none, none, none, none, none, none, none, none, none, none, none, none]
def Xk (l0 : List R6) (x1 : Int) : innS → Xa innS
 | .h0 v14 aA => (bif (decide (v14 < (l0.length : Int))) then (bif ((decide (0 ≤ v14 ∧ v14 < (l0.length : Int))) && true) then (bif (Xv (rd l0 v14.toNat).c x1) then (bif (Xv (IntKind.wrap .i64 (0 - (rd l0 v14.toNat).c)) x1) then (bif (Xv (rd l0 v14.toNat).f x1) then (bif (Xv (IntKind.wrap .i64 (0 - (rd l0 v14.toNat).f)) x1) then (bif (Nat.beq 1 1 && ((decide (0 + aA.length = aA.length)) && decide ((aA.length + 4 + 1) * (8 + 1) ≤ Ja))) then (.to (.h0 (IntKind.wrap .i64 (v14 + 1)) (aA ++ [(Ym (rd l0 v14.toNat).c x1), (IntKind.wrap .i64 (0 - (Ym (IntKind.wrap .i64 (0 - (rd l0 v14.toNat).c)) x1))), (Ym (rd l0 v14.toNat).f x1), (IntKind.wrap .i64 (0 - (Ym (IntKind.wrap .i64 (0 - (rd l0 v14.toNat).f)) x1)))]))) else .stuck) else .stuck) else .stuck) else .stuck) else .stuck) else .stuck) else (bif (decide (aA.length < 4611686018427387904)) then (bif (decide (aA.length = aA.length)) then (.to (.h1 1 ([] : List R6) ([] : List R4) 0 0 (v0n (Za aA.length (cOf (Zz (Yi (Za aA.length (cOf (Zz aA)))))))) (Xx (Za aA.length (cOf (Zz (Yi (Za aA.length (cOf (Zz aA)))))))))) else .stuck) else .stuck))
 | .h1 v5 aC bH aE aK aV aP => (bif (decide (v5 < ((aV : Nat) : Int))) then (.to (.h2 v5 ([] : List R6) 0 aC bH aE aK aV aP)) else (bif (decide ((aC.length : Int) > 400)) then (.ret [.nils, (.int .i64 4)]) else (.ret [(.dat aC.length (Zz aC)), (.int .i64 0)])))
 | .h2 v5 v6 v19 aC bH aE aK aV aP => (bif (decide (v19 < (l0.length : Int))) then (bif ((decide (0 ≤ v19 ∧ v19 < (l0.length : Int))) && true) then (bif ((decide (0 ≤ v5 ∧ v5 < ((aV : Nat) : Int))) && true) then (bif (decide ((0 + v5.toNat) < aP.length)) then (bif (decide ((rd l0 v19.toNat).c < (rd aP (0 + v5.toNat)))) then (bif ((decide (0 ≤ (IntKind.wrap .i64 (v5 - 1)) ∧ (IntKind.wrap .i64 (v5 - 1)) < ((aV : Nat) : Int))) && true) then (bif (decide ((0 + (Int.toNat (IntKind.wrap .i64 (v5 - 1)))) < aP.length)) then (bif (decide ((rd aP (0 + (Int.toNat (IntKind.wrap .i64 (v5 - 1))))) < (rd l0 v19.toNat).f)) then (bif (Nat.beq 6 6 && ((decide (0 + v6.length = v6.length)) && decide ((v6.length + 1 + 1) * (48 + 1) ≤ Ja))) then (.to (.h2 v5 (v6 ++ [(R6.mk (rd l0 v19.toNat).a (rd l0 v19.toNat).b (rd l0 v19.toNat).c (rd l0 v19.toNat).d (rd l0 v19.toNat).e (rd l0 v19.toNat).f)]) (IntKind.wrap .i64 (v19 + 1)) aC bH aE aK aV aP)) else .stuck) else (.to (.h2 v5 v6 (IntKind.wrap .i64 (v19 + 1)) aC bH aE aK aV aP))) else .stuck) else .stuck) else (.to (.h2 v5 v6 (IntKind.wrap .i64 (v19 + 1)) aC bH aE aK aV aP))) else .stuck) else .stuck) else .stuck) else (bif ((decide (0 ≤ (IntKind.wrap .i64 (v5 - 1)) ∧ (IntKind.wrap .i64 (v5 - 1)) < ((aV : Nat) : Int))) && true) then (bif (decide ((0 + (Int.toNat (IntKind.wrap .i64 (v5 - 1)))) < aP.length)) then (bif ((decide (0 ≤ v5 ∧ v5 < ((aV : Nat) : Int))) && true) then (bif (decide ((0 + v5.toNat) < aP.length)) then (bif (z0g (cvT v6) (rd aP (0 + (Int.toNat (IntKind.wrap .i64 (v5 - 1))))) (rd aP (0 + v5.toNat)) x1) then (bif (decide ((((Qx (cvT v6) (rd aP (0 + (Int.toNat (IntKind.wrap .i64 (v5 - 1))))) (rd aP (0 + v5.toNat)) x1).length : Nat) : Int) > 400)) then (.ret [.nils, (.int .i64 4)]) else (bif (decide ((((Qx (cvT v6) (rd aP (0 + (Int.toNat (IntKind.wrap .i64 (v5 - 1))))) (rd aP (0 + v5.toNat)) x1).length : Nat) : Int) > 0)) then (bif (aK == (rd aP (0 + (Int.toNat (IntKind.wrap .i64 (v5 - 1)))))) then (bif (Wk (cvT bH) (cvT (Qx (cvT v6) (rd aP (0 + (Int.toNat (IntKind.wrap .i64 (v5 - 1))))) (rd aP (0 + v5.toNat)) x1))) then (bif (Ug (cvT bH) (cvT (Qx (cvT v6) (rd aP (0 + (Int.toNat (IntKind.wrap .i64 (v5 - 1))))) (rd aP (0 + v5.toNat)) x1))) then (.to (.h4 aE v5 (rd aP (0 + (Int.toNat (IntKind.wrap .i64 (v5 - 1))))) (rd aP (0 + v5.toNat)) v6 aC bH aE aK aV aP)) else (.to (.h3 (Qx (cvT v6) (rd aP (0 + (Int.toNat (IntKind.wrap .i64 (v5 - 1))))) (rd aP (0 + v5.toNat)) x1) (((Qx (cvT v6) (rd aP (0 + (Int.toNat (IntKind.wrap .i64 (v5 - 1))))) (rd aP (0 + v5.toNat)) x1).length : Nat) : Int) 0 v5 (rd aP (0 + (Int.toNat (IntKind.wrap .i64 (v5 - 1))))) (rd aP (0 + v5.toNat)) v6 aC (aC.length : Int) aV aP))) else .stuck) else (.to (.h3 (Qx (cvT v6) (rd aP (0 + (Int.toNat (IntKind.wrap .i64 (v5 - 1))))) (rd aP (0 + v5.toNat)) x1) (((Qx (cvT v6) (rd aP (0 + (Int.toNat (IntKind.wrap .i64 (v5 - 1))))) (rd aP (0 + v5.toNat)) x1).length : Nat) : Int) 0 v5 (rd aP (0 + (Int.toNat (IntKind.wrap .i64 (v5 - 1))))) (rd aP (0 + v5.toNat)) v6 aC (aC.length : Int) aV aP))) else (.to (.h3 (Qx (cvT v6) (rd aP (0 + (Int.toNat (IntKind.wrap .i64 (v5 - 1))))) (rd aP (0 + v5.toNat)) x1) (((Qx (cvT v6) (rd aP (0 + (Int.toNat (IntKind.wrap .i64 (v5 - 1))))) (rd aP (0 + v5.toNat)) x1).length : Nat) : Int) 0 v5 (rd aP (0 + (Int.toNat (IntKind.wrap .i64 (v5 - 1))))) (rd aP (0 + v5.toNat)) v6 aC (aC.length : Int) aV aP)))) else .stuck) else .stuck) else .stuck) else .stuck) else .stuck))
 | .h3 v70 v71 v72 bX aL aI bQ aC aE cC cD => (bif (decide (v72 < v71)) then (bif ((decide (0 ≤ v72 ∧ v72 < (v70.length : Int))) && true) then (bif (Nat.beq 6 6 && ((decide (0 + aC.length = aC.length)) && decide ((aC.length + 1 + 1) * (48 + 1) ≤ Ja))) then (.to (.h3 v70 v71 (IntKind.wrap .i64 (v72 + 1)) bX aL aI bQ (aC ++ [(R6.mk (rd v70 v72.toNat).a (rd v70 v72.toNat).b aL (rd v70 v72.toNat).c (rd v70 v72.toNat).d aI)]) aE cC cD)) else .stuck) else .stuck) else (.to (.h1 (IntKind.wrap .i64 (bX + 1)) aC v70 aE aI cC cD)))
 | .h4 v14 bX aL aI bQ aC aE aK dY cM cZ => (bif (decide (v14 < (aC.length : Int))) then (bif ((decide (0 ≤ v14 ∧ v14 < (aC.length : Int))) && true) then (bif (decide ((0 + v14.toNat) < aC.length)) then (.to (.h4 (IntKind.wrap .i64 (v14 + 1)) bX aL aI bQ (aC.set (0 + v14.toNat) (R6.mk (rd aC (0 + v14.toNat)).a (rd aC (0 + v14.toNat)).b (rd aC (0 + v14.toNat)).c (rd aC (0 + v14.toNat)).d (rd aC (0 + v14.toNat)).e aI)) aE aK dY cM cZ)) else .stuck) else .stuck) else (.to (.h1 (IntKind.wrap .i64 (bX + 1)) aC aE aK aI cM cZ)))
def z9g (l0 : List R6) (x1 : Int) : Xa innS := (bif (Uv (cvT l0)) then (bif ((Yc (cvT l0)) != 0) then (.ret [.nils, (.int .i64 (Yc (cvT l0)))]) else (bif (decide (x1 < 1)) then (.ret [.nils, (.int .i64 2)]) else (bif (decide (x1 > 1000)) then (.ret [.nils, (.int .i64 2)]) else (.to (.h0 0 ([] : List Int)))))) else .stuck)
theorem x7t (l0 : List R6) (x1 : Int) : ∀ s, Xo prog (Zy prog 36) (innC l0 x1) (innC l0 x1 s) (Xk l0 x1 s)
 | .h0 v14 aA => (lb (fun k0 => (lo fun o0 => (lo fun o1 => (lo fun o2 => (lo fun o3 => (lo fun o4 => (lo fun o5 => (sl Kt 45 [] ⟨[0, 1, 2, 3, 4, 5, 6, 7, 8, 9, 16], [], innN0, innM0⟩ ⟨[], [.keep, .keep, .cells [.len (aA ++ [(Ym (rd l0 (tn v14)).c x1), (wr (0 - (Ym (wr (0 - (rd l0 (tn v14)).c)) x1))), (Ym (rd l0 (tn v14)).f x1), (wr (0 - (Ym (wr (0 - (rd l0 (tn v14)).f)) x1)))]).length], .keep, .keep, .keep, .keep, .keep, .keep, .keep, .rowed 1 (aA ++ [(Ym (rd l0 (tn v14)).c x1), (wr (0 - (Ym (wr (0 - (rd l0 (tn v14)).c)) x1))), (Ym (rd l0 (tn v14)).f x1), (wr (0 - (Ym (wr (0 - (rd l0 (tn v14)).f)) x1)))]).length (Zz (aA ++ [(Ym (rd l0 (tn v14)).c x1), (wr (0 - (Ym (wr (0 - (rd l0 (tn v14)).c)) x1))), (Ym (rd l0 (tn v14)).f x1), (wr (0 - (Ym (wr (0 - (rd l0 (tn v14)).f)) x1)))]))], []⟩ (trs 3 [false, true, true, false]) (pp (xL (aA.length + 4) (aA ++ [(Ym (rd l0 (tn v14)).c x1), (wr (0 - (Ym (wr (0 - (rd l0 (tn v14)).c)) x1))), (Ym (rd l0 (tn v14)).f x1), (wr (0 - (Ym (wr (0 - (rd l0 (tn v14)).f)) x1)))]).length) (pp (xL (aA.length + 4) (aA ++ [(Ym (rd l0 (tn v14)).c x1), (wr (0 - (Ym (wr (0 - (rd l0 (tn v14)).c)) x1))), (Ym (rd l0 (tn v14)).f x1), (wr (0 - (Ym (wr (0 - (rd l0 (tn v14)).f)) x1)))]).length) (pp (xS (aA.length + 4) (Ze (Zz aA) 0 aA.length 1 [(ii (Ym (rd l0 (tn v14)).c x1)), (ii (wr (0 - (Ym (wr (0 - (rd l0 (tn v14)).c)) x1)))), (ii (Ym (rd l0 (tn v14)).f x1)), (ii (wr (0 - (Ym (wr (0 - (rd l0 (tn v14)).f)) x1))))]) (Zz (aA ++ [(Ym (rd l0 (tn v14)).c x1), (wr (0 - (Ym (wr (0 - (rd l0 (tn v14)).c)) x1))), (Ym (rd l0 (tn v14)).f x1), (wr (0 - (Ym (wr (0 - (rd l0 (tn v14)).f)) x1)))]))) (pp (pp (xF (Ze (Zz aA) 0 aA.length 1 [(ii (Ym (rd l0 (tn v14)).c x1)), (ii (wr (0 - (Ym (wr (0 - (rd l0 (tn v14)).c)) x1)))), (ii (Ym (rd l0 (tn v14)).f x1)), (ii (wr (0 - (Ym (wr (0 - (rd l0 (tn v14)).f)) x1))))])) nn) (ww o5 (ww o4 (ww o3 (ww o2 (ww o1 (ww o0 (tt k0 nn))))))))))))))))))) (fun k0 => (lo fun o0 => (lo fun o1 => (sl Kt 33 [(68, 6, Zz ([] : List R6))] ⟨[11, 3, 4, 5, 6, 7, 8, 9, 2, 10, 0, 1, 12], [], v7v, v7w⟩ ⟨[], (kpB 4 [.cells [.grow 12 6], .cells [.list 0 (Zz ([] : List R4))], .keep, .keep, .keep, .rowed 1 (Xx (Za aA.length (cOf (Zz (Yi (Za aA.length (cOf (Zz aA)))))))).length (Zz (Xx (Za aA.length (cOf (Zz (Yi (Za aA.length (cOf (Zz aA))))))))), .keep, .keep, .keep]), []⟩ [false] (pp (xL aA.length (Xx (Za aA.length (cOf (Zz (Yi (Za aA.length (cOf (Zz aA)))))))).length (by first | exact z0f _ _ | exact Uy rfl)) (pp (xS aA.length (Zz (Xx (Za aA.length (cOf (Zz (Yi (Za aA.length (cOf (Zz aA))))))))) (Zz (Xx (Za aA.length (cOf (Zz (Yi (Za aA.length (cOf (Zz aA)))))))))) (pp (fl (Xx (Za aA.length (cOf (Zz (Yi (Za aA.length (cOf (Zz aA)))))))) (fl ([] : List R6) nn)) (pp (pp (xG (Nat.beq 1 1)) (pp (xG (Nat.beq 1 1)) (pp (xG (Nat.beq 0 0)) (pp (xG (decide (aA.length = aA.length))) (pp (xG (isI (Zz (Yi (Za aA.length (cOf (Zz aA))))))) (xG (decide (aA.length < 4611686018427387904)))))))) (pp (pp (xG (Nat.beq 1 1)) (pp (xG (Nat.beq 1 1)) (pp (xG (Nat.beq 0 0)) (pp (xG (decide (aA.length = aA.length))) (pp (xG (isI (Zz aA))) (xG (decide (aA.length < 4611686018427387904)))))))) (tt k0 nn)))))))))))
 | .h1 v5 aC bH aE aK aV aP => (lb (fun k0 => (sl Kt 25 [(68, 6, Zz ([] : List R6))] ⟨[0, 1, 2, 3, 4, 5, 6, 7, 8, 9, 10, 11, 13, 12], [], w8p, w8r⟩ ⟨[(6, .grow 12 6)], [], []⟩ [true] (pp (fl aP (fl ([] : List R6) (fl aC nn))) (tt k0 nn)))) (fun k0 => (lb (fun k1 => (z0y ⟨⟨99, 0, true⟩, none, (Zg prog 36 [1, 1, 1, 1, 1, 1, 0, 1, 0, 0] 1), none, (Zy prog 36), ⟨Yq [(4, (.ptr 0 0)), (5, (.ptr 1 0))], Va [⟨[.nils], 30, none⟩, ⟨[(ii 4)], 24, none⟩] 0, 2, [], true⟩, [], .leaf⟩ (sl Kt 26 [] ⟨[2, 3], [], [some [4, 5]], []⟩ ⟨[], [], []⟩ [false, true] (tt k1 (tt k0 nn))) rfl (by kernel_rfl))) (fun k1 => (z0y ⟨⟨99, 0, true⟩, none, (Zg prog 3 [1, 1, 1, 1, 1, 1, 0] 1), none, (Zy prog 36), ⟨Yq [(4, (.ptr 0 0)), (5, (.ptr 1 0))], Va [⟨[(.dat aC.length (Zz aC))], 30, none⟩, ⟨[(ii 0)], 24, none⟩] 0, 2, [], true⟩, [], .leaf⟩ (sl Kt 28 [] ⟨[2, 3], [12], [some [4, 5]], []⟩ ⟨[], [.cells [.frz aC.length aC.length (Zz aC) (Zz aC)], .keep], []⟩ [false, false] (pp (xZ (z5k 6 6 0 aC.length aC.length (Zz aC)) aC.length (Zz aC)) (pp (xL aC.length aC.length) (pp (xS aC.length (Zz aC) (Zz aC)) (pp (fl aC nn) (tt k1 (tt k0 nn))))))) rfl (by kernel_rfl))))))
 | .h2 v5 v6 v19 aC bH aE aK aV aP => (lb (fun k0 => (lo fun aG => (lo fun bI => (lo fun cF => (lb (fun k1 => (lo fun cY => (lo fun dV => (lb (fun k2 => (lo fun o0 => (sl Kt 70 [] ⟨[0, 1, 2, 3, 4, 5, 6, 7, 8, 9, 10, 11, 19, 13], [], w8p, w8r⟩ ⟨[(6, .len (v6 ++ [(R6.mk (rd l0 (tn v19)).a (rd l0 (tn v19)).b (rd l0 (tn v19)).c (rd l0 (tn v19)).d (rd l0 (tn v19)).e (rd l0 (tn v19)).f)]).length)], (kpB 12 [.rowed 6 (v6 ++ [(R6.mk (rd l0 (tn v19)).a (rd l0 (tn v19)).b (rd l0 (tn v19)).c (rd l0 (tn v19)).d (rd l0 (tn v19)).e (rd l0 (tn v19)).f)]).length (Zz (v6 ++ [(R6.mk (rd l0 (tn v19)).a (rd l0 (tn v19)).b (rd l0 (tn v19)).c (rd l0 (tn v19)).d (rd l0 (tn v19)).e (rd l0 (tn v19)).f)])), .keep]), []⟩ (trs 3 [false, true, true, false, true, true, true, true, true, true, true, true]) (pp (xL (v6.length + 1) (v6 ++ [(R6.mk (rd l0 (tn v19)).a (rd l0 (tn v19)).b (rd l0 (tn v19)).c (rd l0 (tn v19)).d (rd l0 (tn v19)).e (rd l0 (tn v19)).f)]).length) (pp (xL (v6.length + 1) (v6 ++ [(R6.mk (rd l0 (tn v19)).a (rd l0 (tn v19)).b (rd l0 (tn v19)).c (rd l0 (tn v19)).d (rd l0 (tn v19)).e (rd l0 (tn v19)).f)]).length) (pp (xS (v6.length + 1) (Ze (Zz v6) 0 v6.length 6 [(ii (rd l0 (tn v19)).a), (ii (rd l0 (tn v19)).b), (ii (rd l0 (tn v19)).c), (ii (rd l0 (tn v19)).d), (ii (rd l0 (tn v19)).e), (ii (rd l0 (tn v19)).f)]) (Zz (v6 ++ [(R6.mk (rd l0 (tn v19)).a (rd l0 (tn v19)).b (rd l0 (tn v19)).c (rd l0 (tn v19)).d (rd l0 (tn v19)).e (rd l0 (tn v19)).f)]))) (pp (fl aP (pp (xF (Ze (Zz v6) 0 v6.length 6 [(ii (rd l0 (tn v19)).a), (ii (rd l0 (tn v19)).b), (ii (rd l0 (tn v19)).c), (ii (rd l0 (tn v19)).d), (ii (rd l0 (tn v19)).e), (ii (rd l0 (tn v19)).f)])) (fl aC nn))) (ww o0 (tt k2 (ww dV (ww cY (tt k1 (ww cF (ww bI (ww aG (tt k0 nn)))))))))))))))) (fun k2 => (sl Kt 64 [] ⟨(List.range 14), [], w8p, w8r⟩ ⟨[], [], []⟩ (trs 3 [false, true, true, false, true, true, true, true, true, true, true, false]) (pp (fl aP (fl v6 (fl aC nn))) (tt k2 (ww dV (ww cY (tt k1 (ww cF (ww bI (ww aG (tt k0 nn))))))))))))))) (fun k1 => (sl Kt 64 [] ⟨(List.range 14), [], w8p, w8r⟩ ⟨[], [], []⟩ (trs 3 [false, true, true, false, false, false, false, false, false, false, false, false]) (pp (fl aP (fl v6 (fl aC nn))) (tt k1 (ww cF (ww bI (ww aG (tt k0 nn))))))))))))) (fun k0 => (lo fun q1_0 => (lo fun q1_1 => (lo fun q1_2 => (lo fun q1_3 => (Wb (sl Kt (C' := ⟨⟨99, 0, true⟩, (Vu prog 36 [1, 1, 1, 1, 1, 0, 1, 0, 1, 0, 0] 3), (Zg prog 36 [1, 1, 1, 1, 1, 0, 1, 0, 1, 0, 0] 1), (some 0), [], ⟨Yq [(4, (.ptr 2 0)), (5, (.ptr 3 0)), (7, (.ptr 4 0)), (8, (.ptr 6 0)), (9, (.ptr 7 0)), (10, (.ptr 8 0)), (11, (.ptr 9 0)), (28, (.dat v6.length (Zz v6))), (29, (.agg [(ii (rd aP (0 + (tn (wr (v5 - 1)))))), (ii (rd aP (0 + (tn v5))))])), (30, (ii x1))], z5f [(1, ⟨[(ii x1)], 3, none⟩), (2, ⟨[.nils], 30, none⟩), (3, ⟨[(ii 0)], 24, none⟩), (4, ⟨[(.sla 5 6 0 aC.length (.un 6))], 30, none⟩), (5, ⟨Yg aC.length (Zz aC), 68, some ⟨6, aC.length, (Zz aC)⟩⟩), (6, ⟨[(.dat bH.length (Zz bH))], 106, none⟩), (7, ⟨[(ii aE)], 3, none⟩), (8, ⟨[(ii aK)], 3, none⟩), (9, ⟨[(ii (rd aP (0 + (tn (wr (v5 - 1)))))), (ii (rd aP (0 + (tn v5))))], 110, none⟩), (10, ⟨[(.sla 11 1 0 aV (.un 1))], 47, none⟩), (11, ⟨Yg aP.length (Zz aP), 3, some ⟨1, aP.length, (Zz aP)⟩⟩), (12, ⟨[(.dat l0.length (Zz l0))], 22, none⟩), (13, ⟨[(ii 2)], 3, none⟩)], 14, [], true⟩, [⟨⟨63, 0, true⟩, (Vu prog 121 [1, 0, 0, 1, 0, 0, 1, 1, 0] 12), (Zg prog 121 [1, 0, 0, 1, 0, 0, 1, 1, 0] 1), none, [], Yq [(0, (.yld 0)), (1, (.ptr 10 0)), (2, (.ptr 12 0)), (3, (.ptr 13 0)), (5, (ii v5)), (49, (.yld 0)), (59, (.agg [(ii (rd aP (0 + (tn (wr (v5 - 1)))))), (ii (rd aP (0 + (tn v5))))])), (60, (.dat v6.length (Zz v6)))]⟩, ⟨⟨99, 0, true⟩, none, (.inRangeFunc 0 :: (Zg prog 36 [1, 1, 1, 1, 1, 0, 1, 0] 1)), none, (Zy prog 36), Yq [(4, (.ptr 2 0)), (5, (.ptr 3 0)), (7, (.ptr 4 0))]⟩], (z5h [(0, ⟨.busy, none, 99, Yq [(3, (.ptr 1 0)), (4, (.ptr 2 0)), (5, (.ptr 3 0)), (7, (.ptr 4 0)), (8, (.ptr 6 0)), (9, (.ptr 7 0)), (10, (.ptr 8 0))], [26, 27], (Xf prog 36 [1, 1, 1, 1, 1, 0, 1, 0, 0]), (Xf prog 36 [1, 1, 1, 1, 1, 0, 1, 0, 1])⟩)])⟩) 25 [] ⟨[0, 1, 2, 3, 4, 13, 5, 6, 7, 14, 8, 9, 10, 11], [12], [some [4, 5, 7, 8, 9, 10, 11, 28, 29, 30], some [0, 1, 2, 3, 5, 49, 59, 60], some [4, 5, 7]], [some [3, 4, 5, 7, 8, 9, 10], none, none, none, none, none, none, none, none, none, none, none, none, none]⟩ ⟨[(28, .frz v6.length v6.length (Zz v6) (Zz v6))], [], [[(60, .frz v6.length v6.length (Zz v6) (Zz v6))], []]⟩ [false] (pp (xZ (z5k 6 6 0 v6.length v6.length (Zz v6)) v6.length (Zz v6)) (pp (xL v6.length v6.length) (pp (xS v6.length (Zz v6) (Zz v6)) (pp (xZ (z5k 6 6 0 v6.length v6.length (Zz v6)) v6.length (Zz v6)) (pp (xL v6.length v6.length) (pp (xS v6.length (Zz v6) (Zz v6)) (pp (fl aC (fl aP nn)) (pp (fl v6 nn) (ww q1_3 (ww q1_2 (ww q1_1 (ww q1_0 (tt k0 nn)))))))))))))) (lo fun aG => (lb (fun k1 => (z0y ⟨⟨99, 0, true⟩, none, (.code .ret :: (Zg prog 36 [1, 1, 1, 1, 1, 0, 1, 0] 1)), none, (Zy prog 36), ⟨Yq [(4, (.ptr 0 0)), (5, (.ptr 1 0))], Va [⟨[.nils], 30, none⟩, ⟨[(ii 4)], 24, none⟩] 0, 2, [], true⟩, [], .leaf⟩ (sl Kt 22 [] ⟨[2, 3], [], [some [4, 5]], []⟩ ⟨[], [], []⟩ [true, true] (tt k1 (pp (pp (xr v6) (xw aG)) nn))) rfl (by kernel_rfl))) (fun k1 => (lb (fun k2 => (lb (fun k3 => (lo fun dD => (lb (fun k4 => (sl Kt 39 [] ⟨(List.range 14), [], innN4, innM4⟩ ⟨[], [], []⟩ [false, true, true, true, true, true, true, true, true] (pp (fl aC (fl aP nn)) (tt k4 (pp (pp (xr bH) (pp (xI R4 (Qx (cvT v6) (rd aP (0 + (tn (wr (v5 - 1))))) (rd aP (0 + (tn v5))) x1).length (Zz (Qx (cvT v6) (rd aP (0 + (tn (wr (v5 - 1))))) (rd aP (0 + (tn v5))) x1))) (xw dD))) (tt k3 (tt k2 (tt k1 (pp (pp (xr v6) (xw aG)) nn))))))))) (fun k4 => (sl Kt 42 [] ⟨[0, 1, 2, 3, 4, 6, 7, 8, 9, 10, 11, 12, 13, 5], [], w8o, w8q⟩ ⟨[], [], []⟩ [false, true, true, true, true, true, true, true, false] (pp (fl aP (fl aC nn)) (tt k4 (pp (pp (xr bH) (pp (xI R4 (Qx (cvT v6) (rd aP (0 + (tn (wr (v5 - 1))))) (rd aP (0 + (tn v5))) x1).length (Zz (Qx (cvT v6) (rd aP (0 + (tn (wr (v5 - 1))))) (rd aP (0 + (tn v5))) x1))) (xw dD))) (tt k3 (tt k2 (tt k1 (pp (pp (xr v6) (xw aG)) nn)))))))))))) (fun k3 => (sl Kt 42 [] ⟨[0, 1, 2, 3, 4, 6, 7, 8, 9, 10, 11, 12, 13, 5], [], w8o, w8q⟩ ⟨[], [], []⟩ [false, true, true, true, true, false, false, false, false] (pp (fl aP (fl aC nn)) (tt k3 (tt k2 (tt k1 (pp (pp (xr v6) (xw aG)) nn))))))))) (fun k2 => (sl Kt 42 [] ⟨[0, 1, 2, 3, 4, 6, 7, 8, 9, 10, 11, 12, 13, 5], [], w8o, w8q⟩ ⟨[], [], []⟩ [false, false, false, false, false, false, false, false, false] (pp (fl aP (fl aC nn)) (tt k2 (tt k1 (pp (pp (xr v6) (xw aG)) nn)))))))))))))))))
 | .h3 v70 v71 v72 bX aL aI bQ aC aE cC cD => (lb (fun k0 => (lo fun o0 => (lo fun o1 => (sl Kt 43 [] ⟨[0, 1, 2, 3, 4, 5, 6, 7, 8, 9, 10, 11, 12, 16], [], w8o, w8q⟩ ⟨[], (kpB 4 [.cells [.len (aC ++ [(R6.mk (rd v70 (tn v72)).a (rd v70 (tn v72)).b aL (rd v70 (tn v72)).c (rd v70 (tn v72)).d aI)]).length], .keep, .keep, .keep, .keep, .keep, .keep, .keep, .keep, .rowed 6 (aC ++ [(R6.mk (rd v70 (tn v72)).a (rd v70 (tn v72)).b aL (rd v70 (tn v72)).c (rd v70 (tn v72)).d aI)]).length (Zz (aC ++ [(R6.mk (rd v70 (tn v72)).a (rd v70 (tn v72)).b aL (rd v70 (tn v72)).c (rd v70 (tn v72)).d aI)]))]), []⟩ [true] (pp (xL (aC.length + 1) (aC ++ [(R6.mk (rd v70 (tn v72)).a (rd v70 (tn v72)).b aL (rd v70 (tn v72)).c (rd v70 (tn v72)).d aI)]).length) (pp (xL (aC.length + 1) (aC ++ [(R6.mk (rd v70 (tn v72)).a (rd v70 (tn v72)).b aL (rd v70 (tn v72)).c (rd v70 (tn v72)).d aI)]).length) (pp (xS (aC.length + 1) (Ze (Zz aC) 0 aC.length 6 [(ii (rd v70 (tn v72)).a), (ii (rd v70 (tn v72)).b), (ii aL), (ii (rd v70 (tn v72)).c), (ii (rd v70 (tn v72)).d), (ii aI)]) (Zz (aC ++ [(R6.mk (rd v70 (tn v72)).a (rd v70 (tn v72)).b aL (rd v70 (tn v72)).c (rd v70 (tn v72)).d aI)]))) (pp (fl cD (pp (xF (Ze (Zz aC) 0 aC.length 6 [(ii (rd v70 (tn v72)).a), (ii (rd v70 (tn v72)).b), (ii aL), (ii (rd v70 (tn v72)).c), (ii (rd v70 (tn v72)).d), (ii aI)])) nn)) (ww o1 (ww o0 (tt k0 nn))))))))))) (fun k0 => (sl Kt 20 [] ⟨[0, 1, 2, 3, 4, 5, 6, 7, 9, 10, 11, 12, 13], [], v7v, v7w⟩ ⟨[], [], []⟩ [false, false] (pp (fl cD (fl aC nn)) (tt k0 nn)))))
 | .h4 v14 bX aL aI bQ aC aE aK dY cM cZ => (lb (fun k0 => (lo fun o0 => (lo fun o1 => (sl Kt 29 [] ⟨(List.range 14), [], innN4, innM4⟩ ⟨[], (kpB 4 [.cells [.len (aC.set (0 + (tn v14)) (R6.mk (rd aC (0 + (tn v14))).a (rd aC (0 + (tn v14))).b (rd aC (0 + (tn v14))).c (rd aC (0 + (tn v14))).d (rd aC (0 + (tn v14))).e aI)).length], .rowed 6 (aC.set (0 + (tn v14)) (R6.mk (rd aC (0 + (tn v14))).a (rd aC (0 + (tn v14))).b (rd aC (0 + (tn v14))).c (rd aC (0 + (tn v14))).d (rd aC (0 + (tn v14))).e aI)).length (Zz (aC.set (0 + (tn v14)) (R6.mk (rd aC (0 + (tn v14))).a (rd aC (0 + (tn v14))).b (rd aC (0 + (tn v14))).c (rd aC (0 + (tn v14))).d (rd aC (0 + (tn v14))).e aI))), .keep, .keep, .keep, .keep, .keep, .keep, .keep, .keep]), []⟩ [true] (pp (xL aC.length (aC.set (0 + (tn v14)) (R6.mk (rd aC (0 + (tn v14))).a (rd aC (0 + (tn v14))).b (rd aC (0 + (tn v14))).c (rd aC (0 + (tn v14))).d (rd aC (0 + (tn v14))).e aI)).length) (pp (xL aC.length (aC.set (0 + (tn v14)) (R6.mk (rd aC (0 + (tn v14))).a (rd aC (0 + (tn v14))).b (rd aC (0 + (tn v14))).c (rd aC (0 + (tn v14))).d (rd aC (0 + (tn v14))).e aI)).length) (pp (xS aC.length (Xd (Zz aC) (0 + (tn v14)) 5 [(ii aI)]) (Zz (aC.set (0 + (tn v14)) (R6.mk (rd aC (0 + (tn v14))).a (rd aC (0 + (tn v14))).b (rd aC (0 + (tn v14))).c (rd aC (0 + (tn v14))).d (rd aC (0 + (tn v14))).e aI)))) (pp (pp (xF (Xd (Zz aC) (0 + (tn v14)) 5 [(ii aI)])) (fl cZ nn)) (ww o1 (ww o0 (tt k0 nn))))))))))) (fun k0 => (sl Kt 29 [] ⟨[0, 1, 2, 3, 4, 6, 7, 8, 10, 11, 12, 13, 5], [], v7v, v7w⟩ ⟨[], [], []⟩ [false, false] (pp (fl cZ (fl aC nn)) (tt k0 nn)))))
theorem x1n (l0 : List R6) (x1 : Int) : Xo prog (Zy prog 36) (innC l0 x1) (Zc prog 36 [(.dat l0.length (Zz l0)), (.int .i64 x1)] true []) (z9g l0 x1) := (lo fun aZ => (lb (fun k0 => (z0y ⟨⟨99, 0, true⟩, none, (Zg prog 36 [1, 0, 1, 1, 0, 0] 1), none, (Zy prog 36), ⟨Yq [(4, (.ptr 0 0)), (5, (.ptr 1 0))], Va [⟨[.nils], 30, none⟩, ⟨[(ii (Yc (cvT l0)))], 24, none⟩] 0, 2, [], true⟩, [], .leaf⟩ (sl Kt 49 [] ⟨[1, 2], [], [some [4, 5]], []⟩ ⟨[], [], []⟩ [true, true] (tt k0 (tt k0 (pp (pp (xr l0) (xw aZ)) nn)))) rfl (by kernel_rfl))) (fun k0 => (lb (fun k1 => (z0y ⟨⟨99, 0, true⟩, none, (Zg prog 36 [1, 0, 1, 1, 0, 0] 1), none, (Zy prog 36), ⟨Yq [(4, (.ptr 0 0)), (5, (.ptr 1 0))], Va [⟨[.nils], 30, none⟩, ⟨[(ii 2)], 24, none⟩] 0, 2, [], true⟩, [], .leaf⟩ (sl Kt 60 [] ⟨[1, 2], [], [some [4, 5]], []⟩ ⟨[], [], []⟩ [false, true, true, true, true] (tt k1 (tt k0 (pp (pp (xr l0) (xw aZ)) nn)))) rfl (by kernel_rfl))) (fun k1 => (lb (fun k2 => (z0y ⟨⟨99, 0, true⟩, none, (Zg prog 36 [1, 0, 1, 1, 0, 0] 1), none, (Zy prog 36), ⟨Yq [(4, (.ptr 0 0)), (5, (.ptr 1 0))], Va [⟨[.nils], 30, none⟩, ⟨[(ii 2)], 24, none⟩] 0, 2, [], true⟩, [], .leaf⟩ (sl Kt 60 [] ⟨[1, 2], [], [some [4, 5]], []⟩ ⟨[], [], []⟩ [false, false, false, true, true] (tt k2 (tt k1 (tt k0 (pp (pp (xr l0) (xw aZ)) nn))))) rfl (by kernel_rfl))) (fun k2 => (sl Kt 96 [(3, 1, Zz ([] : List Int))] ⟨[7, 8, 9, 0, 1, 2, 3, 4, 5, 6, 10], [], innN0, innM0⟩ ⟨[], [.keep, .keep, .cells [.grow 10 1], .keep, .keep, .keep, .keep, .keep, .keep, .keep, .keep], []⟩ [false, false, false, false, false] (pp (fl ([] : List Int) nn) (tt k2 (tt k1 (tt k0 (pp (pp (xr l0) (xw aZ)) nn)))))))))))))
theorem w8n (l0 : List R6) (x1 : Int) (n : Nat) (vs : List AVal) (h : Yx (Xk l0 x1) n (z9g l0 x1) = .ret vs) : Jc prog (Zy prog 36) (Zc prog 36 [(.dat l0.length (Zz l0)), (.int .i64 x1)] true []) vs := by
 have := Zn (x7t l0 x1) n _ (x1n l0 x1)
 rwa [h] at this
end Go.Am
namespace Go.Am
open Go.Proofs.Tryz
open Go.Proofs Go.Sort Go.Shelf Go.RowKit Go.Lib
theorem v3v {L : List R6} {n : Int} (hl : L.length ≤ 400) {i : Nat} (hi : i + 1 < (rnC R6.c R6.f n L).length) (out : List R6) (last : List R4) (first fin : Int) : ∀ (k j : Nat) (acc : List R6), j + k = L.length → acc.length ≤ j →
  ∃ N, ∀ M, Yx (Xk L n) (M + N) (.to (.h2 ((i + 1 : Nat) : Int) acc (j : Int) out last first fin (rnC R6.c R6.f n L).length (Xx (Yi (rnE R6.c R6.f n L))))) = Yx (Xk L n) M (.to (.h2 ((i + 1 : Nat) : Int) (acc ++ crS R6.c R6.f (L.drop j) (rd (rnC R6.c R6.f n L) i) (rd (rnC R6.c R6.f n L) (i + 1))) (L.length : Int) out last first fin (rnC R6.c R6.f n L).length (Xx (Yi (rnE R6.c R6.f n L)))))
 | 0, j, acc, h, ha => by
  refine ⟨0, fun M => ?_⟩
  rw [List.drop_eq_nil_of_le (by omega), show crS R6.c R6.f ([] : List R6) (rd (rnC R6.c R6.f n L) i) (rd (rnC R6.c R6.f n L) (i + 1)) = [] from rfl, List.append_nil, Nat.add_zero, show j = L.length by omega]
 | k + 1, j, acc, h, ha => by
  have hj : j < L.length := by omega
  have hc := Vk R6.c R6.f n L
  have hpl : (Xx (Yi (rnE R6.c R6.f n L))).length = 4 * L.length := by rw [Wf, Wj, Xt]
  have r0 : rd (Xx (Yi (rnE R6.c R6.f n L))) i = rd (rnC R6.c R6.f n L) i := Jx _ _ (by show i < (rnC R6.c R6.f n L).length; omega)
  have r1 : rd (Xx (Yi (rnE R6.c R6.f n L))) (i + 1) = rd (rnC R6.c R6.f n L) (i + 1) := Jx _ _ (by show i + 1 < (rnC R6.c R6.f n L).length; omega)
  have e1 : IntKind.wrap .i64 (((i + 1 : Nat) : Int) - 1) = (i : Int) := by rw [Zd]; exact Zj (by omega)
  have hw : IntKind.wrap .i64 ((j : Int) + 1) = ((j + 1 : Nat) : Int) := Zj (by omega)
  obtain ⟨N, hN⟩ := v3v hl hi out last first fin k (j + 1) (acc ++ crS R6.c R6.f [rd L j] (rd (rnC R6.c R6.f n L) i) (rd (rnC R6.c R6.f n L) (i + 1))) (by omega) (by have := Ka R6.c R6.f [rd L j] (rd (rnC R6.c R6.f n L) i) (rd (rnC R6.c R6.f n L) (i + 1)); simp only [List.length_append, List.length_singleton] at *; omega)
  refine ⟨N + 1, fun M => ?_⟩
  have e : crS R6.c R6.f (L.drop j) (rd (rnC R6.c R6.f n L) i) (rd (rnC R6.c R6.f n L) (i + 1)) = crS R6.c R6.f [rd L j] (rd (rnC R6.c R6.f n L) i) (rd (rnC R6.c R6.f n L) (i + 1)) ++ crS R6.c R6.f (L.drop (j + 1)) (rd (rnC R6.c R6.f n L) i) (rd (rnC R6.c R6.f n L) (i + 1)) := by
   rw [Ye hj, ← z6z]; rfl
  rw [e, ← Nat.add_assoc, Zv, ← List.append_assoc, ← hN M]
  by_cases h1 : (rd L j).c < rd (rnC R6.c R6.f n L) (i + 1)
  ·by_cases h2 : rd (rnC R6.c R6.f n L) i < (rd L j).f
   ·rw [u0e h1 h2]
    simp (disch := omega) only [Xk, e1, r0, r1, hw, Zb, Zq, Zo, Zr, Yz, Yu, Yk, Zf, Zj, Zx, Ya, Zk, Nat.zero_add, decide_true, Bool.and_true, Bool.true_and, cond_true, cond_false]
   ·rw [w4k h2, List.append_nil]
    simp (disch := omega) only [Xk, Zt, e1, r0, r1, hw, Zb, Zq, Zo, Zr, Yz, Yu, Yk, Zf, Zj, Zx, Ya, Zk, Nat.zero_add, decide_true, Bool.and_true, Bool.true_and, cond_true, cond_false]
  ·rw [w4l h1, List.append_nil]
   simp (disch := omega) only [Xk, Zt, e1, r0, r1, hw, Zb, Zq, Zo, Zr, Yz, Yu, Yk, Zf, Zj, Zx, Ya, Zk, Nat.zero_add, decide_true, Bool.and_true, Bool.true_and, cond_true, cond_false]
theorem v3w {L : List R6} {n : Int} (hl : L.length ≤ 400) (hn : n ≠ 0) {R : List AVal} (hR : ∃ N, Yx (Xk L n) N (.to (.h1 1 [] [] 0 0 (rnC R6.c R6.f n L).length (Xx (Yi (rnE R6.c R6.f n L))))) = .ret R) : ∀ (k i : Nat) (acc : List Int), i + k = L.length → acc = rnE R6.c R6.f n (L.take i) → ∃ N, Yx (Xk L n) N (.to (.h0 (i : Int) acc)) = .ret R
 | 0, i, acc, h, ha => by
  have e : acc = (rnE R6.c R6.f n L) := by rw [ha, List.take_of_length_le (by omega)]
  subst e
  have hle := Xt R6.c R6.f n L
  obtain ⟨N, hN⟩ := hR
  refine ⟨N + 1, ?_⟩
  rw [Zv]
  simp (disch := omega) only [Xk, Uu, Km, z7a, Zt, Yu, Yk, decide_true, cond_true, cond_false]
  exact hN
 | k + 1, i, acc, h, ha => by
  have hle := Xt R6.c R6.f n (L.take i)
  have fV : acc.length ≤ 4 * i := by rw [ha, hle]; simp; omega
  obtain ⟨N, hN⟩ := v3w hl hn hR k (i + 1) (acc ++ rnE R6.c R6.f n [rd L i]) (by omega) (by
   rw [ha, List.take_add_one]
   have : L[i]? = some (rd L i) := by rw [Xq (show i < L.length by omega)]; exact List.getElem?_eq_getElem _
   rw [this, z6k]; rfl)
  refine ⟨N + 1, ?_⟩
  rw [Zv]
  simp (disch := omega) only [Xk, w9o hn, Zb, Zq, Zo, Zr, Yz, Yu, Yk, Zf, Zj, Zx, Ya, Zk, Nat.zero_add, decide_true, Bool.and_true, Bool.true_and, cond_true, cond_false]
  exact hN
def x5b (L : List R6) (n : Int) (x x' : Int) : List R4 := (Qx (crS R6.c R6.f L x x') x x' n)
theorem v3u {L : List R6} {n : Int} (hl : L.length ≤ 400) (i : Nat) (hi : i ≤ 2000) (x x' : Int) (q : List R4) (first : Int) (inn : List R6) (hq : q.length ≤ 2000) : ∀ (k j : Nat) (out : List R6), j + k = q.length → out.length ≤ 10000000 + j →
  ∃ N, ∀ M, Yx (Xk L n) (M + N) (.to (.h3 q (q.length : Int) (j : Int) (i : Int) x x' inn out first (rnC R6.c R6.f n L).length (Xx (Yi (rnE R6.c R6.f n L))))) = Yx (Xk L n) M (.to (.h1 ((i + 1 : Nat) : Int) (out ++ (q.drop j).map (D6.put x x')) q first x' (rnC R6.c R6.f n L).length (Xx (Yi (rnE R6.c R6.f n L)))))
 | 0, j, out, h, ho => by
  refine ⟨1, fun M => ?_⟩
  rw [List.drop_eq_nil_of_le (by omega), Zv]
  simp (disch := omega) only [Xk, Zt, Zj, Zx, cond_false, List.map_nil, List.append_nil]
 | k + 1, j, out, h, ho => by
  obtain ⟨N, hN⟩ := v3u hl i hi x x' q first inn hq k (j + 1) (out ++ [D6.put x x' (rd q j)]) (by omega) (by simp; omega)
  refine ⟨N + 1, fun M => ?_⟩
  have := hN M
  rw [Ye (show j < q.length by omega), List.map_cons, ← Nat.add_assoc, Zv]
  simp (disch := omega) only [Xk, Zb, Zq, Zo, Zr, Yz, Yu, Yk, Zf, Zj, Zx, Ya, Zk, Nat.zero_add, decide_true, Bool.and_true, Bool.true_and, cond_true, cond_false]
  rw [List.append_assoc] at this
  exact this
theorem v3t {L : List R6} {n : Int} (hl : L.length ≤ 400) (i : Nat) (hi : i ≤ 2000) (x x' fin : Int) (last : List R4) (first : Int) (inn : List R6) : ∀ (k j : Nat) (out : List R6), j + k = out.length → out.length ≤ 10000000 →
  ∃ N, ∀ M, Yx (Xk L n) (M + N) (.to (.h4 (j : Int) (i : Int) x x' inn out last first fin (rnC R6.c R6.f n L).length (Xx (Yi (rnE R6.c R6.f n L))))) = Yx (Xk L n) M (.to (.h1 ((i + 1 : Nat) : Int) (D6.grow out j x') last first x' (rnC R6.c R6.f n L).length (Xx (Yi (rnE R6.c R6.f n L)))))
 | 0, j, out, h, ho => by
  refine ⟨1, fun M => ?_⟩
  rw [D6.grow_nil _ _ _ (by omega), Zv]
  simp (disch := omega) only [Xk, Zt, Zj, Zx, cond_false]
 | k + 1, j, out, h, ho => by
  obtain ⟨N, hN⟩ := v3t hl i hi x x' fin last first inn k (j + 1) (out.set j (D6.ext x' (rd out j))) (by simp; omega) (by simpa using ho)
  refine ⟨N + 1, fun M => ?_⟩
  have := hN M
  rw [D6.grow_set out j _ (by omega)] at this
  rw [← Nat.add_assoc, Zv]
  simp (disch := omega) only [Xk, Zb, Zq, Zo, Zr, Yz, Yu, Yk, Zf, Zj, Zx, Ya, Zk, Nat.zero_add, decide_true, Bool.and_true, Bool.true_and, cond_true, cond_false]
  exact this
theorem w3n {L : List R6} {n : Int} (hl : L.length ≤ 400) (hn : n ≠ 0) : ∀ (k i : Nat) (s : Sw R6 R4), k = (rnC R6.c R6.f n L).length - 1 - i → i ≤ (rnC R6.c R6.f n L).length → s.out.length ≤ i * 2000 → s.last.length ≤ 2000 → s.first ≤ s.out.length → ∃ N, Yx (Xk L n) N (.to (.h1 ((i + 1 : Nat) : Int) s.out s.last (s.first : Int) s.fin (rnC R6.c R6.f n L).length (Xx (Yi (rnE R6.c R6.f n L))))) = .ret (bif okX (x5b L n) (rnC R6.c R6.f n L) k i then z1o (D6.goX (x5b L n) (rnC R6.c R6.f n L) k i s).out else [.nils, .int .i64 4])
 | 0, i, s, h, hi, ho, hla, hf => by
  have hc := Vk R6.c R6.f n L
  refine ⟨1, ?_⟩
  rw [Zv]
  rw [show okX (x5b L n) (rnC R6.c R6.f n L) 0 i = true from rfl, cond_true, show D6.goX (x5b L n) (rnC R6.c R6.f n L) 0 i s = s from rfl]
  unfold z1o
  by_cases q : (s.out.length : Int) > 400
  ·simp (disch := omega) only [Xk, Zt, Yn, cond_true, cond_false, Zm]
  ·simp (disch := omega) only [Xk, Zt, Xw, cond_true, cond_false, Zm]
 | k + 1, i, s, h, hi, ho, hla, hf => by
  have hc := Vk R6.c R6.f n L
  have hi1 : i + 1 < (rnC R6.c R6.f n L).length := by omega
  have hpl : (Xx (Yi (rnE R6.c R6.f n L))).length = 4 * L.length := by rw [Wf, Wj, Xt]
  have r0 : rd (Xx (Yi (rnE R6.c R6.f n L))) i = rd (rnC R6.c R6.f n L) i := Jx _ _ (by show i < (rnC R6.c R6.f n L).length; omega)
  have r1 : rd (Xx (Yi (rnE R6.c R6.f n L))) (i + 1) = rd (rnC R6.c R6.f n L) (i + 1) := Jx _ _ (by show i + 1 < (rnC R6.c R6.f n L).length; omega)
  have e1 : IntKind.wrap .i64 (((i + 1 : Nat) : Int) - 1) = (i : Int) := by rw [Zd]; exact Zj (by omega)
  have hbig : i * 2000 ≤ 1600 * 2000 := Nat.mul_le_mul_right _ (by omega)
  obtain ⟨N2, h2⟩ := v3v (n := n) hl hi1 s.out s.last (s.first : Int) s.fin L.length 0 [] (Nat.zero_add _) (Nat.le_refl _)
  rw [List.drop_zero, List.nil_append, z1c] at h2
  have hin := Ka R6.c R6.f L (rd (rnC R6.c R6.f n L) i) (rd (rnC R6.c R6.f n L) (i + 1))
  have w1 : z0g (crS R6.c R6.f L (rd (rnC R6.c R6.f n L) i) (rd (rnC R6.c R6.f n L) (i + 1))) (rd (rnC R6.c R6.f n L) i) (rd (rnC R6.c R6.f n L) (i + 1)) n = true := by
   unfold z0g
   rw [Yz (by omega), decide_eq_false hn]; rfl
  have st0 : ∀ M, Yx (Xk L n) (M + N2 + 1) (.to (.h1 ((i + 1 : Nat) : Int) s.out s.last (s.first : Int) s.fin (rnC R6.c R6.f n L).length (Xx (Yi (rnE R6.c R6.f n L))))) = Yx (Xk L n) M (.to (.h2 ((i + 1 : Nat) : Int) (crS R6.c R6.f L (rd (rnC R6.c R6.f n L) i) (rd (rnC R6.c R6.f n L) (i + 1))) (L.length : Int) s.out s.last (s.first : Int) s.fin (rnC R6.c R6.f n L).length (Xx (Yi (rnE R6.c R6.f n L))))) := fun M => by
   rw [← h2 M, Zv]
   simp (disch := omega) only [Xk, Zo, cond_true]
  have hq : (x5b L n) (rd (rnC R6.c R6.f n L) i) (rd (rnC R6.c R6.f n L) (i + 1)) = (Qx (crS R6.c R6.f L (rd (rnC R6.c R6.f n L) i) (rd (rnC R6.c R6.f n L) (i + 1))) (rd (rnC R6.c R6.f n L) i) (rd (rnC R6.c R6.f n L) (i + 1)) n) := rfl
  rcases Yy (decide (((Qx (crS R6.c R6.f L (rd (rnC R6.c R6.f n L) i) (rd (rnC R6.c R6.f n L) (i + 1))) (rd (rnC R6.c R6.f n L) i) (rd (rnC R6.c R6.f n L) (i + 1)) n).length : Int) > 400)) with q0 | q0
  ·refine ⟨1 + N2 + 1, ?_⟩
   rw [st0 1, Zv]
   unfold okX
   rw [hq, q0, cond_true, cond_false]
   simp (disch := omega) only [Xk, Zt, e1, r0, r1, w1, q0, Zb, Zq, Zo, Zr, Yz, Yu, Yk, Zf, Zj, Zx, Ya, Zk, Nat.zero_add, decide_true, Bool.and_true, Bool.true_and, cond_true, cond_false, Zm]
  have hsl : (Qx (crS R6.c R6.f L (rd (rnC R6.c R6.f n L) i) (rd (rnC R6.c R6.f n L) (i + 1))) (rd (rnC R6.c R6.f n L) i) (rd (rnC R6.c R6.f n L) (i + 1)) n).length ≤ 2000 := by have := of_decide_eq_false q0; omega
  have w2 : Wk s.last (Qx (crS R6.c R6.f L (rd (rnC R6.c R6.f n L) i) (rd (rnC R6.c R6.f n L) (i + 1))) (rd (rnC R6.c R6.f n L) i) (rd (rnC R6.c R6.f n L) (i + 1)) n) = true := decide_eq_true (by omega)
  have ol := D6.oneS_length (Qx (crS R6.c R6.f L (rd (rnC R6.c R6.f n L) i) (rd (rnC R6.c R6.f n L) (i + 1))) (rd (rnC R6.c R6.f n L) i) (rd (rnC R6.c R6.f n L) (i + 1)) n) (rd (rnC R6.c R6.f n L) i) (rd (rnC R6.c R6.f n L) (i + 1)) s
  rcases Yy (decide (0 < (Qx (crS R6.c R6.f L (rd (rnC R6.c R6.f n L) i) (rd (rnC R6.c R6.f n L) (i + 1))) (rd (rnC R6.c R6.f n L) i) (rd (rnC R6.c R6.f n L) (i + 1)) n).length) && ((s.fin == (rd (rnC R6.c R6.f n L) i)) && D6.same s.last (Qx (crS R6.c R6.f L (rd (rnC R6.c R6.f n L) i) (rd (rnC R6.c R6.f n L) (i + 1))) (rd (rnC R6.c R6.f n L) i) (rd (rnC R6.c R6.f n L) (i + 1)) n))) with q | q
  ·obtain ⟨N4, h4⟩ := v3t (n := n) hl (i + 1) (by omega) (rd (rnC R6.c R6.f n L) i) (rd (rnC R6.c R6.f n L) (i + 1)) s.fin s.last (s.first : Int) (crS R6.c R6.f L (rd (rnC R6.c R6.f n L) i) (rd (rnC R6.c R6.f n L) (i + 1))) (s.out.length - s.first) s.first s.out (by omega) (by omega)
   have e : D6.oneS (Qx (crS R6.c R6.f L (rd (rnC R6.c R6.f n L) i) (rd (rnC R6.c R6.f n L) (i + 1))) (rd (rnC R6.c R6.f n L) i) (rd (rnC R6.c R6.f n L) (i + 1)) n) (rd (rnC R6.c R6.f n L) i) (rd (rnC R6.c R6.f n L) (i + 1)) s = ⟨D6.grow s.out s.first (rd (rnC R6.c R6.f n L) (i + 1)), s.last, s.first, (rd (rnC R6.c R6.f n L) (i + 1))⟩ := by unfold Dim.oneS; rw [q]; rfl
   obtain ⟨N0, h0⟩ := w3n hl hn k (i + 1) (D6.oneS (Qx (crS R6.c R6.f L (rd (rnC R6.c R6.f n L) i) (rd (rnC R6.c R6.f n L) (i + 1))) (rd (rnC R6.c R6.f n L) i) (rd (rnC R6.c R6.f n L) (i + 1)) n) (rd (rnC R6.c R6.f n L) i) (rd (rnC R6.c R6.f n L) (i + 1)) s) (by omega) (by omega) (by omega) (by rw [e]; exact hla) (by rw [e]; simpa [Dim.grow_length] using hf)
   refine ⟨N0 + N4 + 1 + N2 + 1, ?_⟩
   rw [st0 (N0 + N4 + 1), Zv]
   simp only [Bool.and_eq_true, decide_eq_true_eq] at q
   obtain ⟨q1, q2, q3⟩ := q
   have q3' : Ug s.last (Qx (crS R6.c R6.f L (rd (rnC R6.c R6.f n L) i) (rd (rnC R6.c R6.f n L) (i + 1))) (rd (rnC R6.c R6.f n L) i) (rd (rnC R6.c R6.f n L) (i + 1)) n) = true := q3
   simp (disch := omega) only [Xk, Zt, Yn, e1, r0, r1, q0, q2, q3', w1, w2, Zb, Zq, Zo, Zr, Yz, Yu, Yk, Zf, Zj, Zx, Ya, Zk, Nat.zero_add, decide_true, Bool.and_true, Bool.true_and, cond_true, cond_false]
   rw [h4 N0]
   unfold okX; rw [hq, q0, cond_false]; unfold Dim.goX
   rw [hq]
   rw [e] at h0 ⊢
   exact h0
  ·obtain ⟨N3, h3⟩ := v3u (n := n) hl (i + 1) (by omega) (rd (rnC R6.c R6.f n L) i) (rd (rnC R6.c R6.f n L) (i + 1)) (Qx (crS R6.c R6.f L (rd (rnC R6.c R6.f n L) i) (rd (rnC R6.c R6.f n L) (i + 1))) (rd (rnC R6.c R6.f n L) i) (rd (rnC R6.c R6.f n L) (i + 1)) n) (s.out.length : Int) (crS R6.c R6.f L (rd (rnC R6.c R6.f n L) i) (rd (rnC R6.c R6.f n L) (i + 1))) hsl (Qx (crS R6.c R6.f L (rd (rnC R6.c R6.f n L) i) (rd (rnC R6.c R6.f n L) (i + 1))) (rd (rnC R6.c R6.f n L) i) (rd (rnC R6.c R6.f n L) (i + 1)) n).length 0 s.out (Nat.zero_add _) (by omega)
   simp only [List.drop_zero, z1c] at h3
   have e : D6.oneS (Qx (crS R6.c R6.f L (rd (rnC R6.c R6.f n L) i) (rd (rnC R6.c R6.f n L) (i + 1))) (rd (rnC R6.c R6.f n L) i) (rd (rnC R6.c R6.f n L) (i + 1)) n) (rd (rnC R6.c R6.f n L) i) (rd (rnC R6.c R6.f n L) (i + 1)) s = ⟨s.out ++ (Qx (crS R6.c R6.f L (rd (rnC R6.c R6.f n L) i) (rd (rnC R6.c R6.f n L) (i + 1))) (rd (rnC R6.c R6.f n L) i) (rd (rnC R6.c R6.f n L) (i + 1)) n).map (D6.put (rd (rnC R6.c R6.f n L) i) (rd (rnC R6.c R6.f n L) (i + 1))), (Qx (crS R6.c R6.f L (rd (rnC R6.c R6.f n L) i) (rd (rnC R6.c R6.f n L) (i + 1))) (rd (rnC R6.c R6.f n L) i) (rd (rnC R6.c R6.f n L) (i + 1)) n), s.out.length, (rd (rnC R6.c R6.f n L) (i + 1))⟩ := by unfold Dim.oneS; rw [q]; rfl
   obtain ⟨N0, h0⟩ := w3n hl hn k (i + 1) (D6.oneS (Qx (crS R6.c R6.f L (rd (rnC R6.c R6.f n L) i) (rd (rnC R6.c R6.f n L) (i + 1))) (rd (rnC R6.c R6.f n L) i) (rd (rnC R6.c R6.f n L) (i + 1)) n) (rd (rnC R6.c R6.f n L) i) (rd (rnC R6.c R6.f n L) (i + 1)) s) (by omega) (by omega) (by omega) (by rw [e]; exact hsl) (by rw [e]; simp)
   have hg : Xk L n (.h2 ((i + 1 : Nat) : Int) (crS R6.c R6.f L (rd (rnC R6.c R6.f n L) i) (rd (rnC R6.c R6.f n L) (i + 1))) (L.length : Int) s.out s.last (s.first : Int) s.fin (rnC R6.c R6.f n L).length (Xx (Yi (rnE R6.c R6.f n L)))) = .to (.h3 (Qx (crS R6.c R6.f L (rd (rnC R6.c R6.f n L) i) (rd (rnC R6.c R6.f n L) (i + 1))) (rd (rnC R6.c R6.f n L) i) (rd (rnC R6.c R6.f n L) (i + 1)) n) ((Qx (crS R6.c R6.f L (rd (rnC R6.c R6.f n L) i) (rd (rnC R6.c R6.f n L) (i + 1))) (rd (rnC R6.c R6.f n L) i) (rd (rnC R6.c R6.f n L) (i + 1)) n).length : Int) 0 ((i + 1 : Nat) : Int) (rd (rnC R6.c R6.f n L) i) (rd (rnC R6.c R6.f n L) (i + 1)) (crS R6.c R6.f L (rd (rnC R6.c R6.f n L) i) (rd (rnC R6.c R6.f n L) (i + 1))) s.out (s.out.length : Int) (rnC R6.c R6.f n L).length (Xx (Yi (rnE R6.c R6.f n L)))) := by
    have e3 : D6.same s.last (Qx (crS R6.c R6.f L (rd (rnC R6.c R6.f n L) i) (rd (rnC R6.c R6.f n L) (i + 1))) (rd (rnC R6.c R6.f n L) i) (rd (rnC R6.c R6.f n L) (i + 1)) n) = Ug s.last (Qx (crS R6.c R6.f L (rd (rnC R6.c R6.f n L) i) (rd (rnC R6.c R6.f n L) (i + 1))) (rd (rnC R6.c R6.f n L) i) (rd (rnC R6.c R6.f n L) (i + 1)) n) := rfl
    rw [e3] at q
    by_cases q1 : 0 < (Qx (crS R6.c R6.f L (rd (rnC R6.c R6.f n L) i) (rd (rnC R6.c R6.f n L) (i + 1))) (rd (rnC R6.c R6.f n L) i) (rd (rnC R6.c R6.f n L) (i + 1)) n).length
    ·rw [decide_eq_true q1, Bool.true_and] at q
     rcases Yy (s.fin == (rd (rnC R6.c R6.f n L) i)) with q2 | q2
     ·rw [q2, Bool.true_and] at q
      simp (disch := omega) only [Xk, Zt, Yn, e1, r0, r1, q0, q2, q, w1, w2, Zb, Zq, Zo, Zr, Yz, Yu, Yk, Zf, Zj, Zx, Ya, Zk, Nat.zero_add, decide_true, Bool.and_true, Bool.true_and, cond_true, cond_false]
     ·simp (disch := omega) only [Xk, Zt, Yn, e1, r0, r1, q0, q2, w1, w2, Zb, Zq, Zo, Zr, Yz, Yu, Yk, Zf, Zj, Zx, Ya, Zk, Nat.zero_add, decide_true, Bool.and_true, Bool.true_and, cond_true, cond_false]
    ·simp (disch := omega) only [Xk, Zt, Xw, e1, r0, r1, q0, w1, w2, Zb, Zq, Zo, Zr, Yz, Yu, Yk, Zf, Zj, Zx, Ya, Zk, Nat.zero_add, decide_true, Bool.and_true, Bool.true_and, cond_true, cond_false]
   refine ⟨N0 + N3 + 1 + N2 + 1, ?_⟩
   rw [st0 (N0 + N3 + 1), Zv, hg, h3 N0]
   unfold okX; rw [hq, q0, cond_false]; unfold Dim.goX
   rw [hq]
   rw [e] at h0 ⊢
   exact h0
def w5m (L : List R6) (n : Int) : List R6 := (D6.goX (x5b L n) (rnC R6.c R6.f n L) ((rnC R6.c R6.f n L).length - 1) 0 ⟨[], [], 0, 0⟩).out
def Vg (L : List R6) (n : Int) : Int := bif Yc L != 0 then Yc L else bif decide (n < 1) || decide (n > 1000) then 2 else bif okX (x5b L n) (rnC R6.c R6.f n L) ((rnC R6.c R6.f n L).length - 1) 0 then x8s (w5m L n).length else 4
def Wx (L : List R6) (n : Int) : List R6 := w9j (Vg L n) (w5m L n)
def z2j (L : List R6) (n : Int) : Bool := true
theorem v7t (L : List R6) (n : Int) : ∃ N, Yx (Xk L n) N (z9g L n) = .ret (x9c (Vg L n) (w5m L n)) := by
 have hk : (Yc L != 0) = !(Yc L == 0) := rfl
 unfold z9g Vg
 simp only [Zb, z8t, cond_true, hk]
 rcases Yy (Yc L == 0) with a | a
 ·rcases Yy (decide (n < 1)) with b | b
  ·refine ⟨0, ?_⟩
   rw [a, b]; rfl
  ·rcases Yy (decide (n > 1000)) with c | c
   ·refine ⟨0, ?_⟩
    rw [a, b, c]; rfl
   ·have hb := of_decide_eq_false b
    have hl := (Qm (eq_of_beq a)).1
    obtain ⟨N, hN⟩ := v3w (L := L) (n := n) hl (by omega) (w3n hl (by omega) ((rnC R6.c R6.f n L).length - 1) 0 ⟨[], [], 0, 0⟩ (by omega) (Nat.zero_le _) (Nat.zero_le _) (Nat.zero_le _) (Nat.le_refl _)) L.length 0 [] (Nat.zero_add _) rfl
    refine ⟨N, ?_⟩
    rw [a, b, c]
    simp only [Bool.not_true, Bool.not_false, Bool.true_and, Bool.or_false, cond_true, cond_false]
    rw [z1c] at hN
    rw [hN]
    rcases Yy (okX (x5b L n) (rnC R6.c R6.f n L) ((rnC R6.c R6.f n L).length - 1) 0) with q | q
    ·rw [q, cond_true, cond_true, y1l]; rfl
    ·rw [q]; rfl
 ·refine ⟨0, ?_⟩
  rw [a]
  simp only [Bool.not_false, cond_true]
  rw [x4d _ (show (Yc L != 0) = true by rw [hk, a]; rfl)]; rfl
def fInn : List AVal → Option (AVal × Bool)
 | [a0, .int .i64 x1] => match asL R6 a0 with
  | some (L0, g0, n0) => some (.tup [.dat (Wx L0 x1).length (Zz (Wx L0 x1)), .int .i64 (Vg L0 x1)], isT R6 n0 g0 && z2j L0 x1)
  | _ => none
 | _ => none
theorem v9b {S : Specs} (hS : Zu prog S) : Zu prog (S.with w3b fInn) := by
 refine v8k hS (by kernel_rfl) fun args v h => ?_
 unfold fInn at h
 split at h
 ·rename_i a0 x1
  split at h
  ·rename_i L0 g0 n0 e0
   simp only [Option.some.injEq, Prod.mk.injEq, Bool.and_eq_true] at h
   obtain ⟨rfl, ho0, hw⟩ := h
   obtain ⟨N, hN⟩ := v7t L0 x1
   exact ⟨_, _, (.cons (asL_le e0 ho0) (.cons (.refl _) .nil)), y4h _ _, w8n L0 x1 N _ hN, 3, x0n _ _⟩
  ·cases h
 ·cases h
def Dh : Specs := (Dg.with w3b fInn)
theorem z1s : Zu prog Dh := (v9b Kt)
end Go.Am
namespace Go.Am
open Go.Proofs.Tryz
open Go.Proofs
inductive al39S where
def u0o : al39S → Cfg
 := nofun
def y5p : al39S → Xa al39S
 := nofun
def z6d : Xa al39S := (bif (z2d (cvT ([(R6.mk 1 1 1 3 3 3)] : List R6)) 2) then (bif (z2j (cvT ([(R6.mk 1 1 1 3 3 3)] : List R6)) 2) then (bif (z5u (cvT ([(R6.mk 1 1 1 3 3 3)] : List R6)) (cvT (Yd (cvT ([(R6.mk 1 1 1 3 3 3)] : List R6)) 2))) then (bif (z2m (cvT ([(R6.mk 0 0 0 5 1 1)] : List R6)) (cvT ([(R6.mk 0 0 0 1 1 1)] : List R6))) then (bif (z2m (cvT ([(R6.mk 0 0 0 1 1 1)] : List R6)) (cvT ([(R6.mk 0 0 0 5 1 1)] : List R6))) then (bif ((Ub (cvT ([(R6.mk 1 1 1 3 3 3)] : List R6)) 2) == 0) then (bif (Vd (cvT (Yd (cvT ([(R6.mk 1 1 1 3 3 3)] : List R6)) 2)) (cvT ([(R6.mk 0 0 0 4 4 4)] : List R6))) then (bif (Jf (cvT (Yd (cvT ([(R6.mk 1 1 1 3 3 3)] : List R6)) 2)) (cvT ([(R6.mk 0 0 0 4 4 4)] : List R6))) then (bif ((Vg (cvT ([(R6.mk 1 1 1 3 3 3)] : List R6)) 2) == 0) then (bif ((((Wx (cvT ([(R6.mk 1 1 1 3 3 3)] : List R6)) 2).length : Nat) : Int) == 0) then (bif ((z5v (cvT ([(R6.mk 1 1 1 3 3 3)] : List R6)) (cvT (Yd (cvT ([(R6.mk 1 1 1 3 3 3)] : List R6)) 2))) == 0) then (bif ((z5w (cvT ([(R6.mk 1 1 1 3 3 3)] : List R6)) (cvT (Yd (cvT ([(R6.mk 1 1 1 3 3 3)] : List R6)) 2))) == 1) then (bif ((z1n (cvT ([(R6.mk 0 0 0 5 1 1)] : List R6)) (cvT ([(R6.mk 0 0 0 1 1 1)] : List R6))) == 0) then (bif ((z0k (cvT ([(R6.mk 0 0 0 5 1 1)] : List R6)) (cvT ([(R6.mk 0 0 0 1 1 1)] : List R6))) == 4) then (bif ((z1n (cvT ([(R6.mk 0 0 0 1 1 1)] : List R6)) (cvT ([(R6.mk 0 0 0 5 1 1)] : List R6))) == 0) then (.ret [(.bool ((z0k (cvT ([(R6.mk 0 0 0 1 1 1)] : List R6)) (cvT ([(R6.mk 0 0 0 5 1 1)] : List R6))) == 0))]) else (.ret [(.bool false)])) else (.ret [(.bool false)])) else (.ret [(.bool false)])) else (.ret [(.bool false)])) else (.ret [(.bool false)])) else (.ret [(.bool false)])) else (.ret [(.bool false)])) else (.ret [(.bool false)])) else .stuck) else (.ret [(.bool false)])) else .stuck) else .stuck) else .stuck) else .stuck) else .stuck)
theorem x3e : ∀ s, Xo prog (Zy prog 41) (u0o) (u0o s) (y5p s)
 := nofun
theorem y8j : Xo prog (Zy prog 41) (u0o) (Zc prog 41 [] true []) (z6d) := (Wb (sl z1s (C' := ⟨⟨87, 0, true⟩, (Vu prog 41 [1, 1, 0] 1), (Zg prog 41 [1, 1, 0] 1), none, (Zy prog 13), ⟨Yq [(1, (.dat ([(R6.mk 1 1 1 3 3 3)] : List R6).length (Zz ([(R6.mk 1 1 1 3 3 3)] : List R6)))), (15, (.dat ([(R6.mk 1 1 1 3 3 3)] : List R6).length (Zz ([(R6.mk 1 1 1 3 3 3)] : List R6))))], Va [] 0, 0, [], true⟩, [], .leaf⟩) 31 [] ⟨[], [1], [some [1, 15]], []⟩ ⟨[(1, .frz 1 ([(R6.mk 1 1 1 3 3 3)] : List R6).length (Vs [(ii 1), (ii 1), (ii 1), (ii 3), (ii 3), (ii 3)] 0 6) (Zz ([(R6.mk 1 1 1 3 3 3)] : List R6))), (15, .frz 1 ([(R6.mk 1 1 1 3 3 3)] : List R6).length (Vs [(ii 1), (ii 1), (ii 1), (ii 3), (ii 3), (ii 3)] 0 6) (Zz ([(R6.mk 1 1 1 3 3 3)] : List R6)))], [], []⟩ [] (pp (xZ (.dat 1 (Vs [(ii 1), (ii 1), (ii 1), (ii 3), (ii 3), (ii 3)] 0 6)) 1 (Vs [(ii 1), (ii 1), (ii 1), (ii 3), (ii 3), (ii 3)] 0 6)) (pp (xL 1 ([(R6.mk 1 1 1 3 3 3)] : List R6).length) (pp (xS 1 (Vs [(ii 1), (ii 1), (ii 1), (ii 3), (ii 3), (ii 3)] 0 6) (Zz ([(R6.mk 1 1 1 3 3 3)] : List R6))) (pp (xZ (.dat 1 (Vs [(ii 1), (ii 1), (ii 1), (ii 3), (ii 3), (ii 3)] 0 6)) 1 (Vs [(ii 1), (ii 1), (ii 1), (ii 3), (ii 3), (ii 3)] 0 6)) (pp (xL 1 ([(R6.mk 1 1 1 3 3 3)] : List R6).length) (pp (xS 1 (Vs [(ii 1), (ii 1), (ii 1), (ii 3), (ii 3), (ii 3)] 0 6) (Zz ([(R6.mk 1 1 1 3 3 3)] : List R6))) nn))))))) (lo fun q0_0 => (lo fun q0_1 => (lo fun q0_2 => (Wb (sl z1s (C' := ⟨⟨87, 0, true⟩, (Vu prog 41 [1, 1, 1, 1, 1, 0] 4), (Zg prog 41 [1, 1, 1, 1, 1, 0] 1), none, (Zy prog 13), ⟨Yq [(2, (.dat (Yd (cvT ([(R6.mk 1 1 1 3 3 3)] : List R6)) 2).length (Zz (Yd (cvT ([(R6.mk 1 1 1 3 3 3)] : List R6)) 2)))), (3, (ii (Ub (cvT ([(R6.mk 1 1 1 3 3 3)] : List R6)) 2))), (4, (.dat (Wx (cvT ([(R6.mk 1 1 1 3 3 3)] : List R6)) 2).length (Zz (Wx (cvT ([(R6.mk 1 1 1 3 3 3)] : List R6)) 2)))), (5, (ii (Vg (cvT ([(R6.mk 1 1 1 3 3 3)] : List R6)) 2))), (6, (ii (z5w (cvT ([(R6.mk 1 1 1 3 3 3)] : List R6)) (cvT (Yd (cvT ([(R6.mk 1 1 1 3 3 3)] : List R6)) 2))))), (7, (ii (z5v (cvT ([(R6.mk 1 1 1 3 3 3)] : List R6)) (cvT (Yd (cvT ([(R6.mk 1 1 1 3 3 3)] : List R6)) 2))))), (32, (.dat ([(R6.mk 0 0 0 5 1 1)] : List R6).length (Zz ([(R6.mk 0 0 0 5 1 1)] : List R6)))), (34, (.dat ([(R6.mk 0 0 0 1 1 1)] : List R6).length (Zz ([(R6.mk 0 0 0 1 1 1)] : List R6))))], Va [] 0, 0, [], true⟩, [], .leaf⟩) 70 [] ⟨[], [1, 3], [some [2, 3, 4, 5, 6, 7, 32, 34]], []⟩ ⟨[(32, .frz 1 ([(R6.mk 0 0 0 5 1 1)] : List R6).length (Vs [(ii 0), (ii 0), (ii 0), (ii 5), (ii 1), (ii 1)] 0 6) (Zz ([(R6.mk 0 0 0 5 1 1)] : List R6))), (34, .frz 1 ([(R6.mk 0 0 0 1 1 1)] : List R6).length (Vs [(ii 0), (ii 0), (ii 0), (ii 1), (ii 1), (ii 1)] 0 6) (Zz ([(R6.mk 0 0 0 1 1 1)] : List R6)))], [], []⟩ [] (pp (xZ (.dat 1 (Vs [(ii 0), (ii 0), (ii 0), (ii 5), (ii 1), (ii 1)] 0 6)) 1 (Vs [(ii 0), (ii 0), (ii 0), (ii 5), (ii 1), (ii 1)] 0 6)) (pp (xL 1 ([(R6.mk 0 0 0 5 1 1)] : List R6).length) (pp (xS 1 (Vs [(ii 0), (ii 0), (ii 0), (ii 5), (ii 1), (ii 1)] 0 6) (Zz ([(R6.mk 0 0 0 5 1 1)] : List R6))) (pp (xZ (.dat 1 (Vs [(ii 0), (ii 0), (ii 0), (ii 1), (ii 1), (ii 1)] 0 6)) 1 (Vs [(ii 0), (ii 0), (ii 0), (ii 1), (ii 1), (ii 1)] 0 6)) (pp (xL 1 ([(R6.mk 0 0 0 1 1 1)] : List R6).length) (pp (xS 1 (Vs [(ii 0), (ii 0), (ii 0), (ii 1), (ii 1), (ii 1)] 0 6) (Zz ([(R6.mk 0 0 0 1 1 1)] : List R6))) (pp (pp (xI R6 ([(R6.mk 1 1 1 3 3 3)] : List R6).length (Zz ([(R6.mk 1 1 1 3 3 3)] : List R6))) (pp (xI R6 (Yd (cvT ([(R6.mk 1 1 1 3 3 3)] : List R6)) 2).length (Zz (Yd (cvT ([(R6.mk 1 1 1 3 3 3)] : List R6)) 2))) (xw q0_2))) (pp (pp (xI R6 ([(R6.mk 1 1 1 3 3 3)] : List R6).length (Zz ([(R6.mk 1 1 1 3 3 3)] : List R6))) (xw q0_1)) (pp (pp (xI R6 ([(R6.mk 1 1 1 3 3 3)] : List R6).length (Zz ([(R6.mk 1 1 1 3 3 3)] : List R6))) (xw q0_0)) nn)))))))))) (lo fun q0_0 => (Wb (sl z1s (C' := ⟨⟨87, 0, true⟩, (Vu prog 41 [1, 1, 1, 1, 1, 1, 0] 4), (Zg prog 41 [1, 1, 1, 1, 1, 1, 0] 1), none, (Zy prog 13), ⟨Yq [(2, (.dat (Yd (cvT ([(R6.mk 1 1 1 3 3 3)] : List R6)) 2).length (Zz (Yd (cvT ([(R6.mk 1 1 1 3 3 3)] : List R6)) 2)))), (3, (ii (Ub (cvT ([(R6.mk 1 1 1 3 3 3)] : List R6)) 2))), (4, (.dat (Wx (cvT ([(R6.mk 1 1 1 3 3 3)] : List R6)) 2).length (Zz (Wx (cvT ([(R6.mk 1 1 1 3 3 3)] : List R6)) 2)))), (5, (ii (Vg (cvT ([(R6.mk 1 1 1 3 3 3)] : List R6)) 2))), (6, (ii (z5w (cvT ([(R6.mk 1 1 1 3 3 3)] : List R6)) (cvT (Yd (cvT ([(R6.mk 1 1 1 3 3 3)] : List R6)) 2))))), (7, (ii (z5v (cvT ([(R6.mk 1 1 1 3 3 3)] : List R6)) (cvT (Yd (cvT ([(R6.mk 1 1 1 3 3 3)] : List R6)) 2))))), (8, (ii (z0k (cvT ([(R6.mk 0 0 0 5 1 1)] : List R6)) (cvT ([(R6.mk 0 0 0 1 1 1)] : List R6))))), (9, (ii (z1n (cvT ([(R6.mk 0 0 0 5 1 1)] : List R6)) (cvT ([(R6.mk 0 0 0 1 1 1)] : List R6))))), (40, (.dat ([(R6.mk 0 0 0 1 1 1)] : List R6).length (Zz ([(R6.mk 0 0 0 1 1 1)] : List R6)))), (42, (.dat ([(R6.mk 0 0 0 5 1 1)] : List R6).length (Zz ([(R6.mk 0 0 0 5 1 1)] : List R6))))], Va [] 0, 0, [], true⟩, [], .leaf⟩) 49 [] ⟨[], [1, 3], [some [2, 3, 4, 5, 6, 7, 8, 9, 40, 42]], []⟩ ⟨[(40, .frz 1 ([(R6.mk 0 0 0 1 1 1)] : List R6).length (Vs [(ii 0), (ii 0), (ii 0), (ii 1), (ii 1), (ii 1)] 0 6) (Zz ([(R6.mk 0 0 0 1 1 1)] : List R6))), (42, .frz 1 ([(R6.mk 0 0 0 5 1 1)] : List R6).length (Vs [(ii 0), (ii 0), (ii 0), (ii 5), (ii 1), (ii 1)] 0 6) (Zz ([(R6.mk 0 0 0 5 1 1)] : List R6)))], [], []⟩ [] (pp (xZ (.dat 1 (Vs [(ii 0), (ii 0), (ii 0), (ii 1), (ii 1), (ii 1)] 0 6)) 1 (Vs [(ii 0), (ii 0), (ii 0), (ii 1), (ii 1), (ii 1)] 0 6)) (pp (xL 1 ([(R6.mk 0 0 0 1 1 1)] : List R6).length) (pp (xS 1 (Vs [(ii 0), (ii 0), (ii 0), (ii 1), (ii 1), (ii 1)] 0 6) (Zz ([(R6.mk 0 0 0 1 1 1)] : List R6))) (pp (xZ (.dat 1 (Vs [(ii 0), (ii 0), (ii 0), (ii 5), (ii 1), (ii 1)] 0 6)) 1 (Vs [(ii 0), (ii 0), (ii 0), (ii 5), (ii 1), (ii 1)] 0 6)) (pp (xL 1 ([(R6.mk 0 0 0 5 1 1)] : List R6).length) (pp (xS 1 (Vs [(ii 0), (ii 0), (ii 0), (ii 5), (ii 1), (ii 1)] 0 6) (Zz ([(R6.mk 0 0 0 5 1 1)] : List R6))) (pp (pp (xI R6 ([(R6.mk 0 0 0 5 1 1)] : List R6).length (Zz ([(R6.mk 0 0 0 5 1 1)] : List R6))) (pp (xI R6 ([(R6.mk 0 0 0 1 1 1)] : List R6).length (Zz ([(R6.mk 0 0 0 1 1 1)] : List R6))) (xw q0_0))) nn)))))))) (lo fun aZ => (lb (fun k0 => (Wb (sl z1s (C' := ⟨⟨87, 0, true⟩, (Vu prog 41 [1, 1, 1, 1, 1, 1, 1, 0] 6), (Zg prog 41 [1, 1, 1, 1, 1, 1, 1, 0] 1), none, (Zy prog 13), ⟨Yq [(4, (.dat (Wx (cvT ([(R6.mk 1 1 1 3 3 3)] : List R6)) 2).length (Zz (Wx (cvT ([(R6.mk 1 1 1 3 3 3)] : List R6)) 2)))), (5, (ii (Vg (cvT ([(R6.mk 1 1 1 3 3 3)] : List R6)) 2))), (6, (ii (z5w (cvT ([(R6.mk 1 1 1 3 3 3)] : List R6)) (cvT (Yd (cvT ([(R6.mk 1 1 1 3 3 3)] : List R6)) 2))))), (7, (ii (z5v (cvT ([(R6.mk 1 1 1 3 3 3)] : List R6)) (cvT (Yd (cvT ([(R6.mk 1 1 1 3 3 3)] : List R6)) 2))))), (8, (ii (z0k (cvT ([(R6.mk 0 0 0 5 1 1)] : List R6)) (cvT ([(R6.mk 0 0 0 1 1 1)] : List R6))))), (9, (ii (z1n (cvT ([(R6.mk 0 0 0 5 1 1)] : List R6)) (cvT ([(R6.mk 0 0 0 1 1 1)] : List R6))))), (10, (ii (z0k (cvT ([(R6.mk 0 0 0 1 1 1)] : List R6)) (cvT ([(R6.mk 0 0 0 5 1 1)] : List R6))))), (11, (ii (z1n (cvT ([(R6.mk 0 0 0 1 1 1)] : List R6)) (cvT ([(R6.mk 0 0 0 5 1 1)] : List R6))))), (48, (.bool true)), (49, (.dat (Yd (cvT ([(R6.mk 1 1 1 3 3 3)] : List R6)) 2).length (Zz (Yd (cvT ([(R6.mk 1 1 1 3 3 3)] : List R6)) 2)))), (51, (.dat ([(R6.mk 0 0 0 4 4 4)] : List R6).length (Zz ([(R6.mk 0 0 0 4 4 4)] : List R6))))], Va [] 0, 0, [], true⟩, [], .leaf⟩) 33 [] ⟨[], [1], [some [4, 5, 6, 7, 8, 9, 10, 11, 48, 49, 51]], []⟩ ⟨[(51, .frz 1 ([(R6.mk 0 0 0 4 4 4)] : List R6).length (Vs [(ii 0), (ii 0), (ii 0), (ii 4), (ii 4), (ii 4)] 0 6) (Zz ([(R6.mk 0 0 0 4 4 4)] : List R6)))], [], []⟩ (trs 3 []) (pp (xZ (.dat 1 (Vs [(ii 0), (ii 0), (ii 0), (ii 4), (ii 4), (ii 4)] 0 6)) 1 (Vs [(ii 0), (ii 0), (ii 0), (ii 4), (ii 4), (ii 4)] 0 6)) (pp (xL 1 ([(R6.mk 0 0 0 4 4 4)] : List R6).length) (pp (xS 1 (Vs [(ii 0), (ii 0), (ii 0), (ii 4), (ii 4), (ii 4)] 0 6) (Zz ([(R6.mk 0 0 0 4 4 4)] : List R6))) (tt k0 (pp (pp (xI R6 ([(R6.mk 0 0 0 1 1 1)] : List R6).length (Zz ([(R6.mk 0 0 0 1 1 1)] : List R6))) (pp (xI R6 ([(R6.mk 0 0 0 5 1 1)] : List R6).length (Zz ([(R6.mk 0 0 0 5 1 1)] : List R6))) (xw aZ))) nn)))))) (lo fun aG => (lb (fun k1 => (lb (fun k2 => (lb (fun k3 => (lb (fun k4 => (lb (fun k5 => (lb (fun k6 => (lb (fun k7 => (lb (fun k8 => (lr 87 3 [1, 1, 1, 1, 1, 1, 0] 1 13 [(0, (.bool ((z0k (cvT ([(R6.mk 0 0 0 1 1 1)] : List R6)) (cvT ([(R6.mk 0 0 0 5 1 1)] : List R6))) == 0)))] (sl z1s 37 [] ⟨[], [], [some [0]], []⟩ ⟨[], [], []⟩ (trs 18 []) (tt k8 (tt k7 (tt k6 (tt k5 (tt k4 (tt k3 (tt k2 (tt k1 (pp (pp (xI R6 (Yd (cvT ([(R6.mk 1 1 1 3 3 3)] : List R6)) 2).length (Zz (Yd (cvT ([(R6.mk 1 1 1 3 3 3)] : List R6)) 2))) (pp (xI R6 ([(R6.mk 0 0 0 4 4 4)] : List R6).length (Zz ([(R6.mk 0 0 0 4 4 4)] : List R6))) (xw aG))) nn)))))))))))) (fun k8 => (lr 87 3 [1, 1, 1, 1, 1, 1, 0] 1 13 [(0, (.bool false))] (sl z1s 37 [] ⟨[], [], [some [0]], []⟩ ⟨[], [], []⟩ (trs 16 [false, false]) (tt k8 (tt k7 (tt k6 (tt k5 (tt k4 (tt k3 (tt k2 (tt k1 (pp (pp (xI R6 (Yd (cvT ([(R6.mk 1 1 1 3 3 3)] : List R6)) 2).length (Zz (Yd (cvT ([(R6.mk 1 1 1 3 3 3)] : List R6)) 2))) (pp (xI R6 ([(R6.mk 0 0 0 4 4 4)] : List R6).length (Zz ([(R6.mk 0 0 0 4 4 4)] : List R6))) (xw aG))) nn)))))))))))))) (fun k7 => (lr 87 3 [1, 1, 1, 1, 1, 1, 0] 1 13 [(0, (.bool false))] (sl z1s 37 [] ⟨[], [], [some [0]], []⟩ ⟨[], [], []⟩ (trs 14 [false, false, false, false]) (tt k7 (tt k6 (tt k5 (tt k4 (tt k3 (tt k2 (tt k1 (pp (pp (xI R6 (Yd (cvT ([(R6.mk 1 1 1 3 3 3)] : List R6)) 2).length (Zz (Yd (cvT ([(R6.mk 1 1 1 3 3 3)] : List R6)) 2))) (pp (xI R6 ([(R6.mk 0 0 0 4 4 4)] : List R6).length (Zz ([(R6.mk 0 0 0 4 4 4)] : List R6))) (xw aG))) nn))))))))))))) (fun k6 => (lr 87 3 [1, 1, 1, 1, 1, 1, 0] 1 13 [(0, (.bool false))] (sl z1s 37 [] ⟨[], [], [some [0]], []⟩ ⟨[], [], []⟩ (trs 12 [false, false, false, false, false, false]) (tt k6 (tt k5 (tt k4 (tt k3 (tt k2 (tt k1 (pp (pp (xI R6 (Yd (cvT ([(R6.mk 1 1 1 3 3 3)] : List R6)) 2).length (Zz (Yd (cvT ([(R6.mk 1 1 1 3 3 3)] : List R6)) 2))) (pp (xI R6 ([(R6.mk 0 0 0 4 4 4)] : List R6).length (Zz ([(R6.mk 0 0 0 4 4 4)] : List R6))) (xw aG))) nn)))))))))))) (fun k5 => (lr 87 3 [1, 1, 1, 1, 1, 1, 0] 1 13 [(0, (.bool false))] (sl z1s 37 [] ⟨[], [], [some [0]], []⟩ ⟨[], [], []⟩ (trs 10 [false, false, false, false, false, false, false, false]) (tt k5 (tt k4 (tt k3 (tt k2 (tt k1 (pp (pp (xI R6 (Yd (cvT ([(R6.mk 1 1 1 3 3 3)] : List R6)) 2).length (Zz (Yd (cvT ([(R6.mk 1 1 1 3 3 3)] : List R6)) 2))) (pp (xI R6 ([(R6.mk 0 0 0 4 4 4)] : List R6).length (Zz ([(R6.mk 0 0 0 4 4 4)] : List R6))) (xw aG))) nn))))))))))) (fun k4 => (lr 87 3 [1, 1, 1, 1, 1, 1, 0] 1 13 [(0, (.bool false))] (sl z1s 37 [] ⟨[], [], [some [0]], []⟩ ⟨[], [], []⟩ (trs 8 [false, false, false, false, false, false, false, false, false, false]) (tt k4 (tt k3 (tt k2 (tt k1 (pp (pp (xI R6 (Yd (cvT ([(R6.mk 1 1 1 3 3 3)] : List R6)) 2).length (Zz (Yd (cvT ([(R6.mk 1 1 1 3 3 3)] : List R6)) 2))) (pp (xI R6 ([(R6.mk 0 0 0 4 4 4)] : List R6).length (Zz ([(R6.mk 0 0 0 4 4 4)] : List R6))) (xw aG))) nn)))))))))) (fun k3 => (lr 87 3 [1, 1, 1, 1, 1, 1, 0] 1 13 [(0, (.bool false))] (sl z1s 37 [] ⟨[], [], [some [0]], []⟩ ⟨[], [], []⟩ (trs 6 [false, false, false, false, false, false, false, false, false, false, false, false]) (tt k3 (tt k2 (tt k1 (pp (pp (xI R6 (Yd (cvT ([(R6.mk 1 1 1 3 3 3)] : List R6)) 2).length (Zz (Yd (cvT ([(R6.mk 1 1 1 3 3 3)] : List R6)) 2))) (pp (xI R6 ([(R6.mk 0 0 0 4 4 4)] : List R6).length (Zz ([(R6.mk 0 0 0 4 4 4)] : List R6))) (xw aG))) nn))))))))) (fun k2 => (lr 87 3 [1, 1, 1, 1, 1, 1, 0] 1 13 [(0, (.bool false))] (sl z1s 37 [] ⟨[], [], [some [0]], []⟩ ⟨[], [], []⟩ (trs 3 [false, false, false, false, false, false, false, false, false, false, false, false, false, false, false]) (tt k2 (tt k1 (pp (pp (xI R6 (Yd (cvT ([(R6.mk 1 1 1 3 3 3)] : List R6)) 2).length (Zz (Yd (cvT ([(R6.mk 1 1 1 3 3 3)] : List R6)) 2))) (pp (xI R6 ([(R6.mk 0 0 0 4 4 4)] : List R6).length (Zz ([(R6.mk 0 0 0 4 4 4)] : List R6))) (xw aG))) nn)))))))) (fun k1 => (lr 87 3 [1, 1, 1, 1, 1, 1, 0] 1 13 [(0, (.bool false))] (sl z1s 37 [] ⟨[], [], [some [0]], []⟩ ⟨[], [], []⟩ [true, false, false, false, false, false, false, false, false, false, false, false, false, false, false, false, false, false] (tt k1 (pp (pp (xI R6 (Yd (cvT ([(R6.mk 1 1 1 3 3 3)] : List R6)) 2).length (Zz (Yd (cvT ([(R6.mk 1 1 1 3 3 3)] : List R6)) 2))) (pp (xI R6 ([(R6.mk 0 0 0 4 4 4)] : List R6).length (Zz ([(R6.mk 0 0 0 4 4 4)] : List R6))) (xw aG))) nn))))))))) (fun k0 => (lr 87 3 [1, 1, 1, 1, 1, 1, 0] 1 13 [(0, (.bool false))] (sl z1s 52 [] ⟨[], [], [some [0]], []⟩ ⟨[], [], []⟩ [false, false, false, false, false, false, false, false, false, false, false, false, false, false, false, false, false, false, false, false, false] (tt k0 (pp (pp (xI R6 ([(R6.mk 0 0 0 1 1 1)] : List R6).length (Zz ([(R6.mk 0 0 0 1 1 1)] : List R6))) (pp (xI R6 ([(R6.mk 0 0 0 5 1 1)] : List R6).length (Zz ([(R6.mk 0 0 0 5 1 1)] : List R6))) (xw aZ))) nn))))))))))))))
theorem w4w (n : Nat) (vs : List AVal) (h : Yx (y5p) n (z6d) = .ret vs) : Jc prog (Zy prog 41) (Zc prog 41 [] true []) vs := by
 have := Zn (x3e) n _ (y8j)
 rwa [h] at this
inductive fitS where
def fitC (l0 : List R6) : fitS → Cfg
 := nofun
def x2c (l0 : List R6) : fitS → Xa fitS
 := nofun
def z9l (l0 : List R6) : Xa fitS := (bif (decide ((l0.length : Int) ≤ 6)) then (bif (z3a (cvT l0)) then (bif (x1c (cvT l0)) then (bif (Ju (cvT l0)) then (.ret [(.bool ((Xr (cvT l0)) == 0))]) else .stuck) else (.ret [(.bool false)])) else .stuck) else (.ret [(.bool false)]))
theorem x8c (l0 : List R6) : ∀ s, Xo prog (Zy prog 42) (fitC l0) (fitC l0 s) (x2c l0 s)
 := nofun
theorem x2d (l0 : List R6) : Xo prog (Zy prog 42) (fitC l0) (Zc prog 42 [(.dat l0.length (Zz l0))] true []) (z9l l0) := (lb (fun k0 => (lo fun aG => (lb (fun k1 => (lo fun o0 => (lr 15 3 [1, 1, 1, 1, 1, 1, 0] 1 15 [(2, (.bool ((Xr (cvT l0)) == 0)))] (sl z1s 20 [] ⟨[], [], [some [2]], []⟩ ⟨[], [], []⟩ (trs 5 []) (pp (pp (xr l0) (xw o0)) (tt k1 (pp (pp (xr l0) (xw aG)) (tt k0 nn)))))))) (fun k1 => (lr 15 3 [1, 1, 1, 1, 1, 1, 0] 1 15 [(2, (.bool false))] (sl z1s 20 [] ⟨[], [], [some [2]], []⟩ ⟨[], [], []⟩ [true, true, false, false, false] (tt k1 (pp (pp (xr l0) (xw aG)) (tt k0 nn))))))))) (fun k0 => (lr 15 3 [1, 1, 1, 1, 1, 1, 0] 1 15 [(2, (.bool false))] (sl z1s 20 [] ⟨[], [], [some [2]], []⟩ ⟨[], [], []⟩ [false, false, false, false, false] (tt k0 nn)))))
theorem w9c (l0 : List R6) (n : Nat) (vs : List AVal) (h : Yx (x2c l0) n (z9l l0) = .ret vs) : Jc prog (Zy prog 42) (Zc prog 42 [(.dat l0.length (Zz l0))] true []) vs := by
 have := Zn (x8c l0) n _ (x2d l0)
 rwa [h] at this
end Go.Am
namespace Go.Am
open Go.Proofs Go.Sort Go.Shelf Go.RowKit Go.Lib
def w5l : Sem R2 Int where
 can := Can
 inB s y := s.a ≤ y ∧ y < s.b
 uniq := w4p
 some s hs hn := by
  cases s with
  | nil => exact absurd rfl hn
  | cons r l => exact ⟨r.a, r, by simp, Int.le_refl _, hs.pos r (by simp)⟩
 nil := .nil
def y6i : Sem R4 (Int × Int) := Dim.sem y5z w5l
def v1k : Sem R6 (Int × Int × Int) := Dim.sem y5y y6i
namespace Dim
variable {α β : Type} {D : Dim α β}
theorem inn_slab (l m : List α) (hl : ∀ r ∈ m, r ∈ l) {j : Nat} (hj : j + 1 < (D.cuts l).length) {x : Int} (h1 : rd (D.cuts l) j ≤ x) (h2 : x < rd (D.cuts l) (j + 1)) : D.inn m (rd (D.cuts l) j) = D.inn m x := by
 have hc : (D.cuts l).Pairwise (· < ·) := by
  show (Ur (D.ends l)).Pairwise (· < ·)
  rw [Jr]; exact (Wr _).1
 have gE : ∀ r ∈ m, D.lo r ∈ D.cuts l ∧ D.hi r ∈ D.cuts l := fun r hr => by
  show D.lo r ∈ Ur (D.ends l) ∧ D.hi r ∈ Ur (D.ends l)
  rw [Jr, (Wr _).2, (Wr _).2]
  exact ⟨List.mem_flatMap.2 ⟨r, hl r hr, by simp⟩, List.mem_flatMap.2 ⟨r, hl r hr, by simp⟩⟩
 have side : ∀ c, c ∈ D.cuts l → (c ≤ rd (D.cuts l) j ↔ c ≤ x) := fun c hcm => by
  obtain ⟨i, hi, rfl⟩ := List.getElem_of_mem hcm
  rw [← Xq hi]
  rcases Nat.lt_or_ge j i with h | h
  ·have : rd (D.cuts l) (j + 1) ≤ rd (D.cuts l) i := by
    rcases Nat.eq_or_lt_of_le (show j + 1 ≤ i from h) with e | e
    ·rw [e]; exact Int.le_refl _
    ·exact Int.le_of_lt (z2h hc e hi)
   have := z2h hc (Nat.lt_succ_self j) hj
   constructor <;> intro <;> omega
  ·have : rd (D.cuts l) i ≤ rd (D.cuts l) j := by
    rcases Nat.eq_or_lt_of_le h with e | e
    ·rw [e]; exact Int.le_refl _
    ·exact Int.le_of_lt (z2h hc e (by omega))
   constructor <;> intro <;> omega
 unfold inn
 congr 1
 refine List.filter_congr fun r hr => ?_
 obtain ⟨m1, m2⟩ := gE r hr
 have s1 := side _ m1
 have s2 := side _ m2
 have e1 : decide (D.lo r ≤ rd (D.cuts l) j) = decide (D.lo r ≤ x) := decide_eq_decide.2 s1
 have e2 : decide (rd (D.cuts l) j < D.hi r) = decide (x < D.hi r) := decide_eq_decide.2 (by constructor <;> intro <;> omega)
 rw [e1, e2]
theorem inn_out (l m : List α) (hl : ∀ r ∈ m, r ∈ l) {x : Int} (h : ∀ j, j + 1 < (D.cuts l).length → ¬ (rd (D.cuts l) j ≤ x ∧ x < rd (D.cuts l) (j + 1))) : D.inn m x = [] := by
 unfold inn
 rw [List.map_eq_nil_iff, List.filter_eq_nil_iff]
 intro r hr hb
 simp only [Bool.and_eq_true, decide_eq_true_eq] at hb
 have gE : D.lo r ∈ D.cuts l ∧ D.hi r ∈ D.cuts l := by
  show D.lo r ∈ Ur (D.ends l) ∧ D.hi r ∈ Ur (D.ends l)
  rw [Jr, (Wr _).2, (Wr _).2]
  exact ⟨List.mem_flatMap.2 ⟨r, hl r hr, by simp⟩, List.mem_flatMap.2 ⟨r, hl r hr, by simp⟩⟩
 have hc : (D.cuts l).Pairwise (· < ·) := by
  show (Ur (D.ends l)).Pairwise (· < ·)
  rw [Jr]; exact (Wr _).1
 obtain ⟨i, hi, e1⟩ := List.getElem_of_mem gE.1
 obtain ⟨k, hk, e2⟩ := List.getElem_of_mem gE.2
 rw [← Xq hi] at e1
 rw [← Xq hk] at e2
 have h0 : rd (D.cuts l) 0 ≤ rd (D.cuts l) i := by
  rcases Nat.eq_or_lt_of_le (Nat.zero_le i) with e | e
  ·rw [← e]; exact Int.le_refl _
  ·exact Int.le_of_lt (z2h hc e hi)
 obtain ⟨j, j1, j2, j3⟩ := y5k k hk x (by omega) (by omega)
 exact h j (by omega) ⟨j2, j3⟩
theorem goJ_can (hD : D.Fair) (hs : ∀ a b, D.same a b = true ↔ a = b) {γ : Type} (M : Sem β γ) (a b : List α) (J : List β → List β → List β) (hJ : ∀ x, M.can (J (D.inn a x) (D.inn b x))) (h0 : J [] [] = []) :
  (D.sem hD M).can (D.goS (fun x => J (D.inn a x) (D.inn b x)) (D.cuts (a ++ b)) ((D.cuts (a ++ b)).length - 1) 0 ⟨[], [], 0, 0⟩).out ∧
  ∀ x q, ptL (D.sem hD M).inB (D.goS (fun x => J (D.inn a x) (D.inn b x)) (D.cuts (a ++ b)) ((D.cuts (a ++ b)).length - 1) 0 ⟨[], [], 0, 0⟩).out (x, q) ↔ ptL M.inB (J (D.inn a x) (D.inn b x)) q := by
 have hc : (D.cuts (a ++ b)).Pairwise (· < ·) := by
  show (Ur (D.ends (a ++ b))).Pairwise (· < ·)
  rw [Jr]; exact (Wr _).1
 obtain ⟨h1, h2⟩ := goS_can hD hs M (cs := D.cuts (a ++ b)) hc hJ
 refine ⟨h1, fun x q => ?_⟩
 rw [h2]
 constructor
 ·rintro ⟨j, j1, j2, j3, j4⟩
  rwa [inn_slab (a ++ b) a (fun r hr => List.mem_append.2 (.inl hr)) j1 j2 j3, inn_slab (a ++ b) b (fun r hr => List.mem_append.2 (.inr hr)) j1 j2 j3] at j4
 ·intro hp
  by_cases hx : ∃ j, j + 1 < (D.cuts (a ++ b)).length ∧ rd (D.cuts (a ++ b)) j ≤ x ∧ x < rd (D.cuts (a ++ b)) (j + 1)
  ·obtain ⟨j, j1, j2, j3⟩ := hx
   refine ⟨j, j1, j2, j3, ?_⟩
   rwa [inn_slab (a ++ b) a (fun r hr => List.mem_append.2 (.inl hr)) j1 j2 j3, inn_slab (a ++ b) b (fun r hr => List.mem_append.2 (.inr hr)) j1 j2 j3]
  ·have hx' : ∀ j, j + 1 < (D.cuts (a ++ b)).length → ¬ (rd (D.cuts (a ++ b)) j ≤ x ∧ x < rd (D.cuts (a ++ b)) (j + 1)) := fun j j1 j2 => hx ⟨j, j1, j2⟩
   rw [inn_out (a ++ b) a (fun r hr => List.mem_append.2 (.inl hr)) hx', inn_out (a ++ b) b (fun r hr => List.mem_append.2 (.inr hr)) hx', h0] at hp
   exact absurd hp (y4n _ _)
theorem pt_inn {γ : Type} (inB : β → γ → Prop) (l : List α) (x : Int) (q : γ) : ptL inB (D.inn l x) q ↔ ptL (D.inA inB) l (x, q) := by
 constructor
 ·rintro ⟨b, hb, h⟩
  obtain ⟨r, hr, rfl⟩ := List.mem_map.1 hb
  obtain ⟨h1, h2⟩ := List.mem_filter.1 hr
  simp only [Bool.and_eq_true, decide_eq_true_eq] at h2
  exact ⟨r, h1, h2.1, h2.2, h⟩
 ·rintro ⟨r, hr, h1, h2, h3⟩
  refine ⟨D.pr r, List.mem_map.2 ⟨r, List.mem_filter.2 ⟨hr, ?_⟩, rfl⟩, h3⟩
  simp only [Bool.and_eq_true, decide_eq_true_eq]
  exact ⟨h1, h2⟩
theorem out_goJ (l : List α) : D.out l = (D.goS (fun x => D.mak (D.inn l x)) (D.cuts (l ++ [])) ((D.cuts (l ++ [])).length - 1) 0 ⟨[], [], 0, 0⟩).out := by
 rw [List.append_nil]
 unfold out
 rw [go_goS]
 rfl
end Dim
theorem y6k (a b : List R4) : D6.same a b = true ↔ a = b := decide_eq_true_iff
theorem y6l (a b : List R2) : D4.same a b = true ↔ a = b := decide_eq_true_iff
theorem w8m {l : List R4} (h : ∀ r ∈ l, z2o r = true) (x : Int) : (D4.inn l x).all z8a = true := List.all_eq_true.2 fun s hs => by
 obtain ⟨r, hr, _, _, rfl⟩ := y4z hs
 have := h r hr
 simp only [z2o, z8a, Bool.and_eq_true, decide_eq_true_eq] at this ⊢
 omega
theorem x9u {l : List R2} (hv : l.all z8a = true) (hl : l.length ≤ 400) : w5l.can (Xg l) ∧ ∀ y, ptL w5l.inB (Xg l) y ↔ ptL w5l.inB l y := by
 obtain ⟨c1, c2⟩ := y9h l hv
 have e : Xg l = swV l := by unfold Xg; rw [decide_eq_false (by omega), hv]; rfl
 rw [e]
 exact ⟨c1, c2⟩
theorem x7h {β γ : Type} (M : Sem β γ) {l : List β} (h : M.can l) (hp : ∀ q, ¬ ptL M.inB l q) : l = [] := Classical.byContradiction fun hn => by
 obtain ⟨q, hq⟩ := M.some l h hn
 exact hp q hq
theorem v5h : Xg [] = [] := by
 obtain ⟨h1, h2⟩ := x9u (l := []) rfl (Nat.zero_le _)
 exact x7h w5l h1 fun q hq => y4n _ _ ((h2 q).1 hq)
theorem w1g {l : List R4} (hv : ∀ r ∈ l, z2o r = true) (hl : l.length ≤ 400) : y6i.can (D4.out l) ∧ ∀ p, ptL y6i.inB (D4.out l) p ↔ ptL y6i.inB l p := by
 rw [Dim.out_goJ]
 have hs : ∀ x, w5l.can (D4.mak (D4.inn l x)) ∧ ∀ y, ptL w5l.inB (D4.mak (D4.inn l x)) y ↔ ptL w5l.inB (D4.inn l x) y := fun x => x9u (w8m hv x) (Nat.le_trans (D4.inn_length l x) hl)
 obtain ⟨h1, h2⟩ := Dim.goJ_can y5z y6l w5l l [] (fun s _ => D4.mak s) (fun x => (hs x).1) v5h
 refine ⟨h1, fun ⟨x, y⟩ => ?_⟩
 rw [show ptL y6i.inB _ (x, y) ↔ _ from h2 x y, (hs x).2, Dim.pt_inn]
 rfl
theorem u0l {l : List R6} (hv : ∀ r ∈ l, Jo r = true) (z : Int) : ∀ r ∈ D6.inn l z, z2o r = true := fun r hr => by
 obtain ⟨s, hs, rfl⟩ := List.mem_map.1 hr
 have := Wu (hv s (List.mem_filter.1 hs).1)
 show z2o ⟨s.a, s.b, s.d, s.e⟩ = true
 simp only [z2o, Bool.and_eq_true, decide_eq_true_eq]
 (repeat' apply And.intro) <;> omega
theorem w6w {l : List R4} (hv : ∀ r ∈ l, z2o r = true) (hl : l.length ≤ 400) (h : (D4.out l).length ≤ 400) : Yj l = D4.out l ∧ Wp l = 0 := by
 have hv' : l.all z2o = true := List.all_eq_true.2 hv
 unfold Yj Wp
 rw [decide_eq_false (by omega), hv', decide_eq_false (by omega)]
 exact ⟨rfl, rfl⟩
end Go.Am
namespace Go.Am
open Go.Proofs Go.Sort Go.Shelf Go.RowKit Go.Lib
def ind (a b t : Int) : Int := if a ≤ t ∧ t < b then 1 else 0
def ptsN (lo : Int) (n : Nat) : List Int := (List.range n).map fun (k : Nat) => lo + (k : Int)
theorem w3p (a b lo : Int) : ∀ n : Nat, sm (ptsN lo n) (ind a b) = ovl a b lo (lo + n)
 | 0 => by show (0 : Int) = _; unfold ovl; omega
 | n + 1 => by
  unfold ptsN
  rw [List.range_succ, List.map_append, w0d]
  have := w3p a b lo n
  unfold ptsN at this
  rw [this, List.map_cons, List.map_nil, Wd, z1x]
  unfold ind ovl
  split <;> omega
theorem x1o (a b c d t : Int) : ind a b t * ind c d t = ind (max a c) (min b d) t := by
 unfold ind
 by_cases h1 : a ≤ t ∧ t < b
 ·by_cases h2 : c ≤ t ∧ t < d
  ·rw [if_pos h1, if_pos h2, if_pos (by omega)]; rfl
  ·rw [if_pos h1, if_neg h2, if_neg (by omega)]; rfl
 ·rw [if_neg h1, Int.zero_mul, if_neg (by omega)]
theorem z6s (a b t : Int) : 0 ≤ ind a b t := by unfold ind; split <;> omega
theorem ind_le (a b t : Int) : ind a b t ≤ 1 := by unfold ind; split <;> omega
def Pts (p : List Int) : Prop := (∀ a b, -1000005 ≤ a ∧ b ≤ 1000005 → sm p (ind a b) = max 0 (b - a)) ∧ p.length = 2000010
theorem y7c : ∃ p, Pts p := by
 refine ⟨ptsN (-1000005) 2000010, fun a b h => ?_, by simp only [ptsN, List.length_map, List.length_range]⟩
 rw [w3p]
 show ovl a b (-1000005) (-1000005 + 2000010) = _
 unfold ovl; omega
def S3 (p : List Int) (f : Int → Int → Int → Int) : Int := sm p fun x => sm p fun y => sm p fun z => f x y z
theorem u0s {p : List Int} {α : Type} (l : List α) (f : α → Int → Int → Int → Int) : S3 p (fun x y z => sm l fun a => f a x y z) = sm l fun a => S3 p (f a) := by
 unfold S3
 rw [y9n l p]
 refine Vr fun x _ => ?_
 rw [y9n l p]
 exact Vr fun y _ => y9n _ _ _
theorem S3_sub {p : List Int} (f g : Int → Int → Int → Int) : S3 p (fun x y z => f x y z - g x y z) = S3 p f - S3 p g := by
 unfold S3; simp only [sm_sub]
theorem w5g {p : List Int} {f g : Int → Int → Int → Int} (h : ∀ x y z, f x y z ≤ g x y z) : S3 p f ≤ S3 p g :=
 y3w fun x _ => y3w fun y _ => y3w fun z _ => h x y z
theorem w5e {p : List Int} {f : Int → Int → Int → Int} (h : ∀ x y z, 0 ≤ f x y z) : 0 ≤ S3 p f :=
 Vc fun x _ => Vc fun y _ => Vc fun z _ => h x y z
theorem w5f {p : List Int} (f g h : Int → Int) : S3 p (fun x y z => f x * g y * h z) = sm p f * sm p g * sm p h := by
 unfold S3
 simp only [w0b, Int.mul_assoc]
 rw [← w0c]
 refine Vr fun x _ => ?_
 rw [← w0c]
theorem S3_one {p : List Int} (hp : Pts p) : S3 p (fun _ _ _ => 1) ≤ 8000120000600001000 := by
 have h : sm p (fun _ => 1) ≤ (p.length : Int) * 1 := sm_le fun _ _ => Int.le_refl _
 have hl := hp.2
 have h0 : 0 ≤ sm p (fun _ => 1) := Vc fun _ _ => by omega
 have e : S3 p (fun _ _ _ => 1) = sm p (fun _ => 1) * sm p (fun _ => 1) * sm p (fun _ => 1) := w5f (fun _ => 1) (fun _ => 1) (fun _ => 1)
 rw [e]
 have h1 : sm p (fun _ => 1) ≤ 2000010 := by omega
 have h2 := Int.mul_le_mul (Int.mul_le_mul h1 h1 h0 (by omega)) h1 h0 (by omega)
 have h3 : (2000010 : Int) * 2000010 * 2000010 = 8000120000600001000 := by decide
 rw [h3] at h2
 exact h2
def inR (r : R6) (x y z : Int) : Int := ind r.a r.d x * ind r.b r.e y * ind r.c r.f z
theorem y3b (r : R6) (x y z : Int) : 0 ≤ inR r x y z := Int.mul_nonneg (Int.mul_nonneg (z6s ..) (z6s ..)) (z6s ..)
theorem x5c (r : R6) (x y z : Int) : inR r x y z = if (r.a ≤ x ∧ x < r.d) ∧ (r.b ≤ y ∧ y < r.e) ∧ (r.c ≤ z ∧ z < r.f) then 1 else 0 := by
 unfold inR ind
 by_cases h1 : r.a ≤ x ∧ x < r.d <;> by_cases h2 : r.b ≤ y ∧ y < r.e <;> by_cases h3 : r.c ≤ z ∧ z < r.f <;> simp [h1, h2, h3]
def w2q (r : R6) : Prop := -1000002 ≤ r.a ∧ r.d ≤ 1000002 ∧ -1000002 ≤ r.b ∧ r.e ≤ 1000002 ∧ -1000002 ≤ r.c ∧ r.f ≤ 1000002
theorem ov_S3 {p : List Int} (hp : Pts p) (r s : R6) (hr : w2q r) : S3 p (fun x y z => inR r x y z * inR s x y z) = ov r s := by
 obtain ⟨h1, h2, h3, h4, h5, h6⟩ := hr
 have e : (fun x y z => inR r x y z * inR s x y z) = fun x y z => ind (max r.a s.a) (min r.d s.d) x * ind (max r.b s.b) (min r.e s.e) y * ind (max r.c s.c) (min r.f s.f) z := by
  funext x y z
  rw [← x1o, ← x1o, ← x1o]
  unfold inR
  simp only [Int.mul_comm, Int.mul_left_comm, Int.mul_assoc]
 rw [e, w5f, hp.1 _ _ (by omega), hp.1 _ _ (by omega), hp.1 _ _ (by omega)]
 rfl
def cnt (X : List R6) (x y z : Int) : Int := sm X fun r => inR r x y z
theorem Kb (X : List R6) (x y z : Int) : 0 ≤ cnt X x y z := Vc fun r _ => y3b r x y z
theorem y8g : ∀ (X : List R6), X.Pairwise Ap6 → ∀ x y z, cnt X x y z ≤ 1
 | [], _, x, y, z => by show (0 : Int) ≤ 1; omega
 | r :: X, h, x, y, z => by
  obtain ⟨h1, h2⟩ := List.pairwise_cons.1 h
  have ih := y8g X h2 x y z
  have e : cnt (r :: X) x y z = inR r x y z + cnt X x y z := Wd _ _ _
  rw [e, x5c]
  split
  ·rename_i hp
   have : cnt X x y z = 0 := by
    have : cnt X x y z = sm X fun _ => 0 := Vr fun s hs => by
     rw [x5c]
     refine if_neg fun hq => ?_
     have := h1 s hs
     unfold Ap6 at this
     omega
    rw [this, z1w]
   omega
  ·omega
theorem u0u {p : List Int} (hp : Pts p) (X Y : List R6) (hX : ∀ r ∈ X, w2q r) : S2 X Y = S3 p fun x y z => cnt X x y z * cnt Y x y z := by
 have e : (fun x y z => cnt X x y z * cnt Y x y z) = fun x y z => sm X fun r => sm Y fun s => inR r x y z * inR s x y z := by
  funext x y z
  unfold cnt
  rw [← w0c]
  exact Vr fun r _ => (w0b _ _ _).symm
 rw [e, u0s]
 unfold S2
 refine Vr fun r hr => ?_
 rw [u0s]
 exact Vr fun s _ => (ov_S3 hp r s (hX r hr)).symm
theorem y2b (X Y : List R6) : 0 ≤ S2 X Y := Vc fun r _ => Vc fun s _ => w2e r s
theorem w7q {r : R6} (h : Jo r = true) : w2q r := by
 have := Wu h
 unfold w2q; omega
end Go.Am
namespace Go.Am
open Go.Proofs Go.Sort Go.Shelf Go.RowKit Go.Lib
theorem sm_pos {α : Type} {l : List α} {f : α → Int} (h : sm l f ≠ 0) : ∃ x ∈ l, f x ≠ 0 := Classical.byContradiction fun hn => h (by
 have : sm l f = sm l fun _ => 0 := Vr fun x hx => Classical.byContradiction fun e => hn ⟨x, hx, e⟩
 rw [this, z1w])
theorem x0w {p : List Int} (hp : Pts p) {t : Int} (h : -1000005 ≤ t ∧ t < 1000005) : t ∈ p := by
 have h1 := hp.1 t (t + 1) (by omega)
 have h2 : sm p (ind t (t + 1)) ≠ 0 := by rw [h1]; omega
 obtain ⟨x, hx, hn⟩ := sm_pos h2
 unfold ind at hn
 split at hn
 ·have : x = t := by omega
  rwa [← this]
 ·exact absurd rfl hn
def inS (X : List R6) (x y z : Int) : Prop := ∃ r ∈ X, (r.a ≤ x ∧ x < r.d) ∧ (r.b ≤ y ∧ y < r.e) ∧ (r.c ≤ z ∧ z < r.f)
theorem x1p (X : List R6) (x y z : Int) : inS X x y z ↔ ptL v1k.inB X (z, x, y) := by
 constructor
 ·rintro ⟨r, hr, h1, h2, h3⟩
  exact ⟨r, hr, h3.1, h3.2, h1.1, h1.2, h2.1, h2.2⟩
 ·rintro ⟨r, hr, h1, h2, h3, h4, h5, h6⟩
  exact ⟨r, hr, ⟨h3, h4⟩, ⟨h5, h6⟩, h1, h2⟩
theorem z6a (X : List R6) (hX : X.Pairwise Ap6) (x y z : Int) : (inS X x y z → cnt X x y z = 1) ∧ (¬ inS X x y z → cnt X x y z = 0) := by
 have h0 := Kb X x y z
 have h1 := y8g X hX x y z
 constructor
 ·rintro ⟨r, hr, hp⟩
  have : cnt X x y z ≠ 0 := fun e => by
   have := z2q (fun r _ => y3b r x y z) e r hr
   rw [x5c, if_pos hp] at this
   cases this
  omega
 ·intro hn
  have : cnt X x y z = sm X fun _ => 0 := Vr fun r hr => by
   rw [x5c]
   exact if_neg fun hp => hn ⟨r, hr, hp⟩
  rw [this, z1w]
structure Sol (X : List R6) : Prop where
 len : X.length ≤ 400
 val : ∀ r ∈ X, Jo r = true
 ap : X.Pairwise Ap6
theorem Sol.of {X : List R6} (h : Yc X = 0) : Sol X := ⟨(Qm h).1, (Qm h).2.1, (Qm h).2.2.2⟩
theorem Sol.near {X : List R6} (h : Sol X) : ∀ r ∈ X, w2q r := fun r hr => w7q (h.val r hr)
theorem Sol.bnd {X : List R6} (h : Sol X) {x y z : Int} (hp : inS X x y z) : (-1000000 ≤ x ∧ x < 1000000) ∧ (-1000000 ≤ y ∧ y < 1000000) ∧ (-1000000 ≤ z ∧ z < 1000000) := by
 obtain ⟨r, hr, h1, h2, h3⟩ := hp
 have := Wu (h.val r hr)
 omega
theorem bx_S3 {p : List Int} (hp : Pts p) (r : R6) (hr : Jo r = true) : S3 p (inR r) = bxV r := by
 have hv := Wu hr
 show S3 p (fun x y z => ind r.a r.d x * ind r.b r.e y * ind r.c r.f z) = _
 rw [w5f, hp.1 _ _ (by omega), hp.1 _ _ (by omega), hp.1 _ _ (by omega)]
 unfold bxV
 rw [show max 0 (r.d - r.a) = r.d - r.a by omega, show max 0 (r.e - r.b) = r.e - r.b by omega, show max 0 (r.f - r.c) = r.f - r.c by omega]
theorem x3q {p : List Int} (hp : Pts p) {X : List R6} (h : Sol X) : sm X bxV = S3 p (cnt X) := by
 show _ = S3 p (fun x y z => sm X fun r => inR r x y z)
 rw [u0s]
 exact Vr fun r hr => (bx_S3 hp r (h.val r hr)).symm
theorem cnt_S3 {p : List Int} (hp : Pts p) {X : List R6} (h : Sol X) : 0 ≤ S3 p (cnt X) ∧ S3 p (cnt X) ≤ 8000120000600001000 :=
 ⟨w5e fun x y z => Kb X x y z, Int.le_trans (w5g (g := fun _ _ _ => 1) fun x y z => y8g X h.ap x y z) (S3_one hp)⟩
theorem y9a {p : List Int} (hp : Pts p) {X : List R6} (h : Sol X) : v0y X = S3 p (cnt X) := by
 have := cnt_S3 hp h
 exact v4v (x3q hp h) (by omega)
theorem x3p {p : List Int} {f : Int → Int → Int → Int} (h0 : ∀ x y z, 0 ≤ f x y z) : S3 p f = 0 ↔ ∀ x ∈ p, ∀ y ∈ p, ∀ z ∈ p, f x y z = 0 := by
 constructor
 ·intro h x hx y hy z hz
  have h1 := z2q (fun x _ => Vc fun y _ => Vc fun z _ => h0 x y z) h x hx
  have h2 := z2q (fun y _ => Vc fun z _ => h0 x y z) h1 y hy
  exact z2q (fun z _ => h0 x y z) h2 z hz
 ·intro h
  have : S3 p f = sm p fun _ => 0 := Vr fun x hx => by
   have : sm p (fun y => sm p fun z => f x y z) = sm p fun _ => 0 := Vr fun y hy => by
    have : sm p (fun z => f x y z) = sm p fun _ => 0 := Vr fun z hz => h x hx y hy z hz
    rw [this, z1w]
   rw [this, z1w]
  rw [this, z1w]
theorem Sol.pts {p : List Int} (hp : Pts p) {X : List R6} (h : Sol X) {x y z : Int} (hq : inS X x y z) : x ∈ p ∧ y ∈ p ∧ z ∈ p := by
 have := h.bnd hq
 exact ⟨x0w hp (by omega), x0w hp (by omega), x0w hp (by omega)⟩
theorem u0t {X Y : List R6} (hX : Sol X) (hY : Sol Y) : S2 X Y = 0 ↔ ∀ x y z, ¬ (inS X x y z ∧ inS Y x y z) := by
 obtain ⟨p, hp⟩ := y7c
 rw [u0u hp X Y hX.near, x3p fun x y z => Int.mul_nonneg (Kb X x y z) (Kb Y x y z)]
 constructor
 ·rintro h x y z ⟨h1, h2⟩
  obtain ⟨q1, q2, q3⟩ := hX.pts hp h1
  have := h x q1 y q2 z q3
  rw [(z6a X hX.ap x y z).1 h1, (z6a Y hY.ap x y z).1 h2] at this
  cases this
 ·intro h x _ y _ z _
  by_cases h1 : inS X x y z
  ·rw [(z6a Y hY.ap x y z).2 fun h2 => h x y z ⟨h1, h2⟩, Int.mul_zero]
  ·rw [(z6a X hX.ap x y z).2 h1, Int.zero_mul]
theorem v4q {X Y : List R6} (hX : Sol X) (hY : Sol Y) : S2 X Y = v0y X ↔ ∀ x y z, inS X x y z → inS Y x y z := by
 obtain ⟨p, hp⟩ := y7c
 have e : S3 p (cnt X) - S2 X Y = S3 p fun x y z => cnt X x y z - cnt X x y z * cnt Y x y z := by
  rw [S3_sub, ← u0u hp X Y hX.near]
 have h0 : ∀ x y z, 0 ≤ cnt X x y z - cnt X x y z * cnt Y x y z := fun x y z => by
  have h1 := Kb X x y z
  have h2 := y8g Y hY.ap x y z
  have := Int.mul_le_mul_of_nonneg_left h2 h1
  omega
 rw [y9a hp hX]
 constructor
 ·intro h x y z h1
  obtain ⟨q1, q2, q3⟩ := hX.pts hp h1
  have h2 := (x3p h0).1 (by rw [← e]; omega) x q1 y q2 z q3
  rw [(z6a X hX.ap x y z).1 h1] at h2
  exact Classical.byContradiction fun h3 => by
   rw [(z6a Y hY.ap x y z).2 h3] at h2
   cases h2
 ·intro h
  have := (x3p (p := p) h0).2 fun x _ y _ z _ => by
   by_cases h1 : inS X x y z
   ·rw [(z6a X hX.ap x y z).1 h1, (z6a Y hY.ap x y z).1 (h x y z h1)]; rfl
   ·rw [(z6a X hX.ap x y z).2 h1, Int.zero_mul]; rfl
  omega
end Go.Am
namespace Go.Am
open Go.Proofs Go.Sort Go.Shelf Go.RowKit Go.Lib
theorem Dim.goS_cg {α β : Type} (D : Dim α β) (f g : Int → List β) (cs : List Int) : ∀ (k i : Nat) (s : Sw α β), (∀ j, i ≤ j → j < i + k → f (rd cs j) = g (rd cs j)) → D.goS f cs k i s = D.goS g cs k i s
 | 0, i, s, _ => rfl
 | k + 1, i, s, h => by
  show D.goS f cs k (i + 1) (D.oneS (f (rd cs i)) _ _ s) = D.goS g cs k (i + 1) (D.oneS (g (rd cs i)) _ _ s)
  rw [h i (Nat.le_refl _) (by omega)]
  exact goS_cg D f g cs k (i + 1) _ fun j h1 h2 => h j (by omega) (by omega)
theorem y1m {n : Nat} (h : x8s n = 0) : n ≤ 400 := by
 unfold x8s at h
 by_cases q : (n : Int) > 400
 ·rw [decide_eq_true q] at h; cases h
 ·omega
theorem w1h {l : List R4} (h : Wp l = 0) : l.length ≤ 400 ∧ (∀ r ∈ l, z2o r = true) ∧ Yj l = D4.out l := by
 unfold Wp at h
 cases g1 : decide (400 < l.length) with
 | true => rw [g1] at h; cases h
 | false =>
  cases g2 : l.all z2o with
  | false => rw [g1, g2] at h; cases h
  | true =>
   rw [g1, g2, cond_false, cond_true] at h
   have hl : l.length ≤ 400 := by have := of_decide_eq_false g1; omega
   refine ⟨hl, List.all_eq_true.1 g2, ?_⟩
   exact (w6w (List.all_eq_true.1 g2) hl (y1m h)).1
theorem x4i {l : List R6} : ∀ (k i : Nat), okF l k i = true → ∀ j, i ≤ j → j < i + k → Wp (D6.inn l (rd (D6.cuts l) j)) = 0
 | 0, i, h, j, h1, h2 => by omega
 | k + 1, i, h, j, h1, h2 => by
  unfold okF at h
  rcases Yy (x9h l (rd (D6.cuts l) i)) with q | q
  ·rw [q] at h; cases h
  ·rw [q, cond_false] at h
   rcases Nat.eq_or_lt_of_le h1 with e | e
   ·rw [← e]
    unfold x9h at q
    simpa using q
   ·exact x4i k (i + 1) h j e (by omega)
theorem x3t {l : List R6} (h : Uh l = 0) : l.length ≤ 400 ∧ (∀ r ∈ l, Jo r = true) ∧ okF l ((D6.cuts l).length - 1) 0 = true ∧ (D6.out l).length ≤ 400 := by
 unfold Uh at h
 cases g1 : decide (400 < l.length) with
 | true => rw [g1] at h; cases h
 | false =>
  cases g2 : l.all Jo with
  | false => rw [g1, g2] at h; cases h
  | true =>
   rw [g1, g2, cond_false, cond_true] at h
   cases g3 : okF l ((D6.cuts l).length - 1) 0 with
   | false =>
    rw [g3, cond_false] at h
    have := v9x _ _ g3
    rw [h] at this; cases this
   | true =>
    rw [g3, cond_true] at h
    exact ⟨by have := of_decide_eq_false g1; omega, List.all_eq_true.1 g2, rfl, y1m h⟩
theorem y9p {l : List R6} (h : Uh l = 0) : Kc l = D6.out l := by
 unfold Kc w9j; rw [h]; rfl
theorem v5i {l : List R6} (h : Uh l = 0) : v1k.can (Kc l) ∧ ∀ x y z, inS (Kc l) x y z ↔ inS l x y z := by
 obtain ⟨hl, hv, hok, ho⟩ := x3t h
 have hf := x4i _ _ hok
 rw [y9p h]
 have hc : (D6.cuts l).Pairwise (· < ·) := by
  show (Ur (D6.ends l)).Pairwise (· < ·)
  rw [Jr]; exact (Wr _).1
 have eS : D6.out l = (D6.goS (fun x => bif Wp (D6.inn l x) != 0 then [] else Yj (D6.inn l x)) (D6.cuts l) ((D6.cuts l).length - 1) 0 ⟨[], [], 0, 0⟩).out := by
  unfold Dim.out
  rw [D6.go_goS, D6.goS_cg (D6.sec l) (fun x => bif Wp (D6.inn l x) != 0 then [] else Yj (D6.inn l x))]
  intro j h1 h2
  show _ = bif Wp (D6.inn l _) != 0 then _ else _
  rw [hf j h1 h2]; rfl
 have hs : ∀ x, y6i.can (bif Wp (D6.inn l x) != 0 then [] else Yj (D6.inn l x)) := fun x => by
  cases g : (Wp (D6.inn l x) != 0) with
  | true => exact y6i.nil
  | false =>
   obtain ⟨m1, m2, m3⟩ := w1h (show Wp (D6.inn l x) = 0 by simpa using g)
   rw [cond_false, m3]; exact (w1g m2 m1).1
 obtain ⟨h1, h2⟩ := Dim.goS_can y5y y6k y6i (cs := D6.cuts l) hc hs
 rw [eS]
 refine ⟨h1, fun x y z => ?_⟩
 rw [x1p, x1p, show ptL v1k.inB _ (z, x, y) ↔ _ from h2 z (x, y)]
 have ia : ∀ j, j + 1 < (D6.cuts l).length → rd (D6.cuts l) j ≤ z → z < rd (D6.cuts l) (j + 1) → (ptL y6i.inB (bif Wp (D6.inn l (rd (D6.cuts l) j)) != 0 then [] else Yj (D6.inn l (rd (D6.cuts l) j))) (x, y) ↔ ptL v1k.inB l (z, x, y)) := fun j j1 j2 j3 => by
  have q := hf j (Nat.zero_le _) (by omega)
  obtain ⟨m1, m2, m3⟩ := w1h q
  rw [q, show ((0 : Int) != 0) = false from rfl, cond_false, m3, (w1g m2 m1).2, Dim.inn_slab l l (fun r hr => hr) j1 j2 j3]
  exact Dim.pt_inn (D := D6) y6i.inB l z (x, y)
 constructor
 ·rintro ⟨j, j1, j2, j3, j4⟩
  exact (ia j j1 j2 j3).1 j4
 ·intro hp
  refine Classical.byContradiction fun hn => ?_
  have hx : ∀ j, j + 1 < (D6.cuts l).length → ¬ (rd (D6.cuts l) j ≤ z ∧ z < rd (D6.cuts l) (j + 1)) := fun j j1 j2 => hn ⟨j, j1, j2.1, j2.2, (ia j j1 j2.1 j2.2).2 hp⟩
  have g := (Dim.pt_inn (D := D6) y6i.inB l z (x, y)).2 hp
  rw [Dim.inn_out l l (fun r hr => hr) hx] at g
  exact y4n _ _ g
theorem x3u {L : List R6} (h : Yc L = 0) : Uh L = 0 ∧ Kc L = L := by
 have hs := Qm h
 have key : Uh L = 0 := by
  unfold Yc at h
  unfold Uh
  cases g1 : decide (400 < L.length) with
  | true => rw [g1] at h; cases h
  | false =>
   cases g2 : L.all Jo with
   | false => rw [g1, g2] at h; cases h
   | true =>
    rw [g1, g2, cond_false, cond_true] at h
    cases g3 : okF L ((D6.cuts L).length - 1) 0 with
    | false => rw [g3] at h; cases h
    | true =>
     rw [cond_false, cond_true, cond_true]
     unfold x8s
     rw [← hs.2.2.1, Xw (by have := hs.1; omega)]; rfl
 exact ⟨key, (y9p key).trans hs.2.2.1.symm⟩
end Go.Am
namespace Go.Am
open Go.Proofs.Tryz
open Go.Proofs Go.Sort Go.Shelf Go.RowKit Go.Lib
theorem w0g {l : List R6} (h : Xr l = 0) : Yc l = 0 := (x5o l).trans h
theorem lA : Yc ([(R6.mk 1 1 1 3 3 3)] : List R6) = 0 := w0g (by kernel_rfl)
theorem lB : Yc ([(R6.mk 0 0 0 4 4 4)] : List R6) = 0 := w0g (by kernel_rfl)
theorem lC : Yc ([(R6.mk 0 0 0 5 1 1)] : List R6) = 0 := w0g (by kernel_rfl)
theorem lE : Yc ([(R6.mk 0 0 0 1 1 1)] : List R6) = 0 := w0g (by kernel_rfl)
theorem aO0 : Yd ([(R6.mk 1 1 1 3 3 3)] : List R6) 2 = [(R6.mk 0 0 0 4 4 4)] := by
 unfold Yd v7d
 rw [lA, show ([(R6.mk 1 1 1 3 3 3)] : List R6).map (oB 2) = [(R6.mk 0 0 0 4 4 4)] by kernel_rfl, (x3u lB).2]
 kernel_rfl
theorem aO1 : Ub ([(R6.mk 1 1 1 3 3 3)] : List R6) 2 = 0 := by
 unfold Ub
 rw [lA, show ([(R6.mk 1 1 1 3 3 3)] : List R6).map (oB 2) = [(R6.mk 0 0 0 4 4 4)] by kernel_rfl, (x3u lB).1]
 kernel_rfl
def rnK (lo hi : R6 → Int) (n : Int) (L : List R6) : List Int := z0p (rnE lo hi n L)
theorem x4c (lo hi : R6 → Int) (n : Int) (L : List R6) : rnC lo hi n L = rnK lo hi n L := Jr _
def colK (L : List R6) (a b e f n : Int) : List R2 := v0l L a b e f (rnK R6.b R6.e n L) ((rnK R6.b R6.e n L).length - 1) 0 []
theorem u0h (L : List R6) (a b e f n : Int) : Qw L a b e f n = colK L a b e f n := by unfold Qw colK; rw [x4c]
def layK (L : List R6) (a b n : Int) : List R4 := (D4.goX (fun x x' => colK (crS R6.a R6.d L x x') x x' a b n) (rnK R6.a R6.d n L) ((rnK R6.a R6.d n L).length - 1) 0 ⟨[], [], 0, 0⟩).out
theorem v7o (L : List R6) (a b n : Int) : Qx L a b n = layK L a b n := by
 unfold Qx layK
 rw [x4c, show v3r L a b n = fun x x' => colK (crS R6.a R6.d L x x') x x' a b n from funext fun x => funext fun x' => u0h _ _ _ _ _ _]
theorem w3o (L : List R6) (n : Int) : x5b L n = fun x x' => layK (crS R6.c R6.f L x x') x x' n := funext fun x => funext fun x' => v7o _ _ _ _
theorem aIO : w5m ([(R6.mk 1 1 1 3 3 3)] : List R6) 2 = [] := by
 unfold w5m
 rw [x4c, w3o]
 kernel_rfl
theorem aI1 : Vg ([(R6.mk 1 1 1 3 3 3)] : List R6) 2 = 0 := by
 unfold Vg
 rw [lA, x4c, w3o, aIO]
 kernel_rfl
theorem aI0 : Wx ([(R6.mk 1 1 1 3 3 3)] : List R6) 2 = [] := by
 unfold Wx
 rw [aI1, aIO]; rfl
theorem aD1 : z5v ([(R6.mk 1 1 1 3 3 3)] : List R6) ([(R6.mk 0 0 0 4 4 4)] : List R6) = 0 := by
 unfold z5v eDi
 rw [lA, lB]; kernel_rfl
theorem aD0 : z5w ([(R6.mk 1 1 1 3 3 3)] : List R6) ([(R6.mk 0 0 0 4 4 4)] : List R6) = 1 := by
 unfold z5w eDi
 rw [lA, lB]; kernel_rfl
theorem aR1 : z1n ([(R6.mk 0 0 0 5 1 1)] : List R6) ([(R6.mk 0 0 0 1 1 1)] : List R6) = 0 := by
 unfold z1n eRe
 rw [lC, lE]; kernel_rfl
theorem aR0 : z0k ([(R6.mk 0 0 0 5 1 1)] : List R6) ([(R6.mk 0 0 0 1 1 1)] : List R6) = 4 := by
 unfold z0k eRe
 rw [lC, lE]; kernel_rfl
theorem aS1 : z1n ([(R6.mk 0 0 0 1 1 1)] : List R6) ([(R6.mk 0 0 0 5 1 1)] : List R6) = 0 := by
 unfold z1n eRe
 rw [lE, lC]; kernel_rfl
theorem aS0 : z0k ([(R6.mk 0 0 0 1 1 1)] : List R6) ([(R6.mk 0 0 0 5 1 1)] : List R6) = 0 := by
 unfold z0k eRe
 rw [lE, lC]; kernel_rfl
theorem v0r : ∃ N, Yx y5p N z6d = .ret [.bool true] := ⟨0, by
 unfold z6d
 simp only [Zb, show ∀ l n, z2d l n = true from fun _ _ => rfl, show ∀ l n, z2j l n = true from fun _ _ => rfl, show ∀ l m, z2m l m = true from fun _ _ => rfl, show ∀ l m, z5u l m = true from fun _ _ => rfl, aO0, aO1, aI0, aI1, aD0, aD1, aR0, aR1, aS0, aS1, cond_true]
 kernel_rfl⟩
def v9p : List AVal → Option (AVal × Bool)
 | [] => some (.bool true, true)
 | _ => none
theorem w9g {S : Specs} (hS : Zu prog S) : Zu prog (S.with x4s v9p) := by
 refine z0z hS (by kernel_rfl) fun args v h => ?_
 unfold v9p at h
 split at h
 ·simp only [Option.some.injEq, Prod.mk.injEq, and_true] at h
  subst h
  obtain ⟨N, hN⟩ := v0r
  exact ⟨_, _, .nil, rfl, w4w N _ hN, 3, rfl⟩
 ·cases h
def x9e (L : List R6) : Bool := decide ((L.length : Int) ≤ 6) && (x1c L && (Xr L == 0))
def z5n (L : List R6) : Bool := true
theorem v8h (L : List R6) (h : z5n L = true) : ∃ N, Yx (x2c L) N (z9l L) = .ret [.bool (x9e L)] := ⟨0, by
 unfold z9l x9e
 simp only [Zb, show ∀ l, z3a l = true from fun _ => rfl, y4k, cond_true]
 cases decide ((L.length : Int) ≤ 6) <;> cases x1c L <;> rfl⟩
def fFit : List AVal → Option (AVal × Bool)
 | [a0] => match asL R6 a0 with
  | some (L0, g0, n0) => some (.bool (x9e L0), isT R6 n0 g0 && (z5n L0))
  | _ => none
 | _ => none
theorem v9h {S : Specs} (hS : Zu prog S) : Zu prog (S.with v3g fFit) := by
 refine z0z hS (by kernel_rfl) fun args v h => ?_
 unfold fFit at h
 split at h
 ·rename_i a0
  split at h
  ·rename_i L0 g0 n0 e0
   simp only [Option.some.injEq, Prod.mk.injEq, Bool.and_eq_true] at h
   obtain ⟨rfl, ho0, hw⟩ := h
   obtain ⟨N, hN⟩ := v8h L0 hw
   exact ⟨_, _, (.cons (asL_le e0 ho0) .nil), rfl, w9c L0 N _ hN, 3, rfl⟩
  ·cases h
 ·cases h
def Di : Specs := ((Dh.with x4s v9p).with v3g fFit)
theorem z1r : Zu prog Di := (v9h (w9g z1s))
end Go.Am
namespace Go.Am
open Go.Proofs.Tryz
open Go.Proofs
inductive parS where
 | h0 (v5 : Int) (v6 : Int)
def parC (l0 : List R6) (aN : Int) (aO : Int) (bY : Int) (cQ : Int) (cR : Int) (cS : Int) : parS → Cfg
 | .h0 v5 v6 => ⟨⟨23, 0, true⟩, none, (Zg prog 46 [1, 1, 0, 1, 0, 0] 0), none, (Zy prog 3), ⟨Yq [(0, (.dat l0.length (Zz l0))), (3, (.ptr 0 0)), (5, (ii v5)), (6, (ii v6))], Va [⟨[(ii aN), (ii aO), (ii bY), (ii cQ), (ii cR), (ii cS)], 68, none⟩] 0, 1, [], true⟩, [], .leaf⟩
def w2c : List (Option (List Nat)) := [some [0, 3, 5, 6]]
def w2d : List (Option (List Nat)) := []
def z4a (l0 : List R6) (aN : Int) (aO : Int) (bY : Int) (cQ : Int) (cR : Int) (cS : Int) : parS → Xa parS
 | .h0 v5 v6 => (bif (decide (v6 < (l0.length : Int))) then (bif ((decide (0 ≤ v6 ∧ v6 < (l0.length : Int))) && true) then (bif (decide ((Xm (rd l0 v6.toNat).a aN) ≥ (Wn (rd l0 v6.toNat).d cQ))) then (.to (.h0 (IntKind.wrap .i64 (v5 + 0)) (IntKind.wrap .i64 (v6 + 1)))) else (bif (decide ((Xm (rd l0 v6.toNat).b aO) ≥ (Wn (rd l0 v6.toNat).e cR))) then (.to (.h0 (IntKind.wrap .i64 (v5 + 0)) (IntKind.wrap .i64 (v6 + 1)))) else (bif (decide ((Xm (rd l0 v6.toNat).c bY) ≥ (Wn (rd l0 v6.toNat).f cS))) then (.to (.h0 (IntKind.wrap .i64 (v5 + 0)) (IntKind.wrap .i64 (v6 + 1)))) else (.to (.h0 (IntKind.wrap .i64 (v5 + (IntKind.wrap .i64 ((IntKind.wrap .i64 ((IntKind.wrap .i64 ((Wn (rd l0 v6.toNat).d cQ) - (Xm (rd l0 v6.toNat).a aN))) * (IntKind.wrap .i64 ((Wn (rd l0 v6.toNat).e cR) - (Xm (rd l0 v6.toNat).b aO))))) * (IntKind.wrap .i64 ((Wn (rd l0 v6.toNat).f cS) - (Xm (rd l0 v6.toNat).c bY))))))) (IntKind.wrap .i64 (v6 + 1))))))) else .stuck) else (.ret [(.int .i64 v5)]))
def y4p (l0 : List R6) (aN : Int) (aO : Int) (bY : Int) (cQ : Int) (cR : Int) (cS : Int) : Xa parS := (.to (.h0 0 0))
theorem x7f (l0 : List R6) (aN : Int) (aO : Int) (bY : Int) (cQ : Int) (cR : Int) (cS : Int) : ∀ s, Xo prog (Zy prog 46) (parC l0 aN aO bY cQ cR cS) (parC l0 aN aO bY cQ cR cS s) (z4a l0 aN aO bY cQ cR cS s)
 | .h0 v5 v6 => (lb (fun k0 => (lo fun aG => (lb (fun k1 => (sl z1r 20 [] ⟨[0], [], w2c, w2d⟩ ⟨[], [], []⟩ (trs 16 []) (tt k1 (ww aG (tt k0 nn))))) (fun k1 => (lb (fun k2 => (sl z1r 20 [] ⟨[0], [], w2c, w2d⟩ ⟨[], [], []⟩ [true, false, false, false, false, false, false, false, true, true, true, true, true, true, true, true] (tt k2 (tt k1 (ww aG (tt k0 nn)))))) (fun k2 => (lb (fun k3 => (sl z1r 20 [] ⟨[0], [], w2c, w2d⟩ ⟨[], [], []⟩ [true, false, false, false, false, false, false, false, false, false, false, false, false, false, false, true] (tt k3 (tt k2 (tt k1 (ww aG (tt k0 nn))))))) (fun k3 => (sl z1r 20 [] ⟨[0], [], w2c, w2d⟩ ⟨[], [], []⟩ [true, false, false, false, false, false, false, false, false, false, false, false, false, false, false, false] (tt k3 (tt k2 (tt k1 (ww aG (tt k0 nn)))))))))))))) (fun k0 => (lr 23 3 [1, 1, 1, 1, 1, 1, 0] 1 3 [(4, (ii v5))] (sl z1r 15 [] ⟨[], [], [some [4]], []⟩ ⟨[], [], []⟩ [false] (tt k0 nn)))))
theorem x0y (l0 : List R6) (aN : Int) (aO : Int) (bY : Int) (cQ : Int) (cR : Int) (cS : Int) : Xo prog (Zy prog 46) (parC l0 aN aO bY cQ cR cS) (Zc prog 46 [(.dat l0.length (Zz l0)), (.agg [(.int .i64 aN), (.int .i64 aO), (.int .i64 bY), (.int .i64 cQ), (.int .i64 cR), (.int .i64 cS)])] true []) (y4p l0 aN aO bY cQ cR cS) := (sl z1r 16 [] ⟨[0], [], w2c, w2d⟩ ⟨[], [], []⟩ [] nn)
theorem w7k (l0 : List R6) (aN : Int) (aO : Int) (bY : Int) (cQ : Int) (cR : Int) (cS : Int) (n : Nat) (vs : List AVal) (h : Yx (z4a l0 aN aO bY cQ cR cS) n (y4p l0 aN aO bY cQ cR cS) = .ret vs) : Jc prog (Zy prog 46) (Zc prog 46 [(.dat l0.length (Zz l0)), (.agg [(.int .i64 aN), (.int .i64 aO), (.int .i64 bY), (.int .i64 cQ), (.int .i64 cR), (.int .i64 cS)])] true []) vs := by
 have := Zn (x7f l0 aN aO bY cQ cR cS) n _ (x0y l0 aN aO bY cQ cR cS)
 rwa [h] at this
inductive flrS where
def flrC (x0 : Int) (x1 : Int) : flrS → Cfg
 := nofun
def x1y (x0 : Int) (x1 : Int) : flrS → Xa flrS
 := nofun
def z9k (x0 : Int) (x1 : Int) : Xa flrS := (bif (!decide (x1 = 0)) then (bif (decide ((Int.tmod x0 x1) < 0)) then (.ret [(.int .i64 (IntKind.wrap .i64 (x0 - (IntKind.wrap .i64 ((Int.tmod x0 x1) + x1)))))]) else (.ret [(.int .i64 (IntKind.wrap .i64 (x0 - (Int.tmod x0 x1))))])) else .stuck)
theorem x8a (x0 : Int) (x1 : Int) : ∀ s, Xo prog (Zy prog 45) (flrC x0 x1) (flrC x0 x1 s) (x1y x0 x1 s)
 := nofun
theorem x1z (x0 : Int) (x1 : Int) : Xo prog (Zy prog 45) (flrC x0 x1) (Zc prog 45 [(.int .i64 x0), (.int .i64 x1)] true []) (z9k x0 x1) := (lo fun aZ => (lb (fun k0 => (lr 17 3 [1, 1, 1, 1, 1, 1, 0] 1 3 [(4, (ii (wr (x0 - (wr ((Int.tmod x0 x1) + x1))))))] (sl z1r 31 [] ⟨[], [], [some [4]], []⟩ ⟨[], [], []⟩ [true] (tt k0 (ww aZ nn))))) (fun k0 => (lr 17 3 [1, 1, 1, 1, 1, 1, 0] 1 3 [(4, (ii (wr (x0 - (Int.tmod x0 x1)))))] (sl z1r 26 [] ⟨[], [], [some [4]], []⟩ ⟨[], [], []⟩ [false] (tt k0 (ww aZ nn)))))))
theorem w8y (x0 : Int) (x1 : Int) (n : Nat) (vs : List AVal) (h : Yx (x1y x0 x1) n (z9k x0 x1) = .ret vs) : Jc prog (Zy prog 45) (Zc prog 45 [(.int .i64 x0), (.int .i64 x1)] true []) vs := by
 have := Zn (x8a x0 x1) n _ (x1z x0 x1)
 rwa [h] at this
inductive shsS where
 | h0 (v8 : Int)
def shsC (l0 : List R6) (aN : Int) (aO : Int) (bY : Int) : shsS → Cfg
 | .h0 v8 => ⟨⟨19, 0, true⟩, none, (Zg prog 124 [1, 0, 1, 0, 0] 0), none, (Zy prog 3), ⟨Yq [(0, (.dat l0.length (Zz l0))), (1, (.fn 87 [(.ptr 0 0)])), (7, (ii (l0.length : Int))), (8, (ii v8))], Va [⟨[(ii aN), (ii aO), (ii bY)], 65, none⟩] 0, 1, [], true⟩, [⟨⟨9, 0, true⟩, (Vu prog 86 [1, 0] 2), (Zg prog 86 [1, 0] 1), none, (Zy prog 3), Yq [(5, (.dat l0.length (Zz l0))), (6, (.fn 87 [(.ptr 0 0)]))]⟩, ⟨⟨8, 0, true⟩, (Vu prog 47 [1, 0] 2), (Zg prog 47 [1, 0] 1), none, (Zy prog 3), Yq [(5, (.dat l0.length (Zz l0))), (6, (.fn 87 [(.ptr 0 0)]))]⟩], .leaf⟩
def y9r : List (Option (List Nat)) := [some [0, 1, 7, 8], some [5, 6], some [5, 6]]
def y9s : List (Option (List Nat)) := []
def z3u (l0 : List R6) (aN : Int) (aO : Int) (bY : Int) : shsS → Xa shsS
 | .h0 v8 => (bif (decide (v8 < (l0.length : Int))) then (bif ((decide (0 ≤ v8 ∧ v8 < (l0.length : Int))) && true) then (bif (decide ((rd l0 v8.toNat).a ≤ aN)) then (bif (decide (aN < (rd l0 v8.toNat).d)) then (bif (decide ((rd l0 v8.toNat).b ≤ aO)) then (bif (decide (aO < (rd l0 v8.toNat).e)) then (bif (decide ((rd l0 v8.toNat).c ≤ bY)) then (bif (decide (bY < (rd l0 v8.toNat).f)) then (.ret [(.bool (decide (v8 ≥ 0)))]) else (.to (.h0 (IntKind.wrap .i64 (v8 + 1))))) else (.to (.h0 (IntKind.wrap .i64 (v8 + 1))))) else (.to (.h0 (IntKind.wrap .i64 (v8 + 1))))) else (.to (.h0 (IntKind.wrap .i64 (v8 + 1))))) else (.to (.h0 (IntKind.wrap .i64 (v8 + 1))))) else (.to (.h0 (IntKind.wrap .i64 (v8 + 1))))) else .stuck) else (.ret [(.bool false)]))
def y3x (l0 : List R6) (aN : Int) (aO : Int) (bY : Int) : Xa shsS := (.to (.h0 0))
theorem x6h (l0 : List R6) (aN : Int) (aO : Int) (bY : Int) : ∀ s, Xo prog (Zy prog 47) (shsC l0 aN aO bY) (shsC l0 aN aO bY s) (z3u l0 aN aO bY s)
 | .h0 v8 => (lb (fun k0 => (lo fun aG => (lb (fun k1 => (lb (fun k2 => (lb (fun k3 => (lb (fun k4 => (lb (fun k5 => (lb (fun k6 => (lr 8 3 [1, 1, 1, 1, 1, 1, 0] 1 3 [(4, (.bool (decide (v8 ≥ 0))))] (sl z1r 92 [] ⟨[], [], [some [4]], []⟩ ⟨[], [], []⟩ (trs 32 []) (tt k6 (tt k5 (tt k4 (tt k3 (tt k2 (tt k1 (ww aG (tt k0 nn))))))))))) (fun k6 => (sl z1r 87 [] ⟨[0], [], y9r, y9s⟩ ⟨[], [], []⟩ (trs 31 [false]) (tt k6 (tt k5 (tt k4 (tt k3 (tt k2 (tt k1 (ww aG (tt k0 nn)))))))))))) (fun k5 => (sl z1r 87 [] ⟨[0], [], y9r, y9s⟩ ⟨[], [], []⟩ (trs 25 [false, false, false, false, false, false, false]) (tt k5 (tt k4 (tt k3 (tt k2 (tt k1 (ww aG (tt k0 nn))))))))))) (fun k4 => (sl z1r 87 [] ⟨[0], [], y9r, y9s⟩ ⟨[], [], []⟩ (trs 19 [false, false, false, false, false, false, false, false, false, false, false, false, false]) (tt k4 (tt k3 (tt k2 (tt k1 (ww aG (tt k0 nn)))))))))) (fun k3 => (sl z1r 87 [] ⟨[0], [], y9r, y9s⟩ ⟨[], [], []⟩ (trs 13 [false, false, false, false, false, false, false, false, false, false, false, false, false, false, false, false, false, false, false]) (tt k3 (tt k2 (tt k1 (ww aG (tt k0 nn))))))))) (fun k2 => (sl z1r 87 [] ⟨[0], [], y9r, y9s⟩ ⟨[], [], []⟩ (trs 7 [false, false, false, false, false, false, false, false, false, false, false, false, false, false, false, false, false, false, false, false, false, false, false, false, false]) (tt k2 (tt k1 (ww aG (tt k0 nn)))))))) (fun k1 => (sl z1r 87 [] ⟨[0], [], y9r, y9s⟩ ⟨[], [], []⟩ [true, false, false, false, false, false, false, false, false, false, false, false, false, false, false, false, false, false, false, false, false, false, false, false, false, false, false, false, false, false, false, false] (tt k1 (ww aG (tt k0 nn)))))))) (fun k0 => (lr 8 3 [1, 1, 1, 1, 1, 1, 0] 1 3 [(4, (.bool false))] (sl z1r 18 [] ⟨[], [], [some [4]], []⟩ ⟨[], [], []⟩ [false] (tt k0 nn)))))
theorem y9q (l0 : List R6) (aN : Int) (aO : Int) (bY : Int) : Xo prog (Zy prog 47) (shsC l0 aN aO bY) (Zc prog 47 [(.dat l0.length (Zz l0)), (.agg [(.int .i64 aN), (.int .i64 aO), (.int .i64 bY)])] true []) (y3x l0 aN aO bY) := (sl z1r 32 [] ⟨[0], [], y9r, y9s⟩ ⟨[], [], []⟩ [] nn)
theorem w5z (l0 : List R6) (aN : Int) (aO : Int) (bY : Int) (n : Nat) (vs : List AVal) (h : Yx (z3u l0 aN aO bY) n (y3x l0 aN aO bY) = .ret vs) : Jc prog (Zy prog 47) (Zc prog 47 [(.dat l0.length (Zz l0)), (.agg [(.int .i64 aN), (.int .i64 aO), (.int .i64 bY)])] true []) vs := by
 have := Zn (x6h l0 aN aO bY) n _ (y9q l0 aN aO bY)
 rwa [h] at this
end Go.Am
namespace Go.Am
open Go.Proofs.Tryz
open Go.Proofs Go.Sort Go.Shelf Go.RowKit Go.Lib
def z5m (x n : Int) : Int := bif decide (Int.tmod x n < 0) then IntKind.wrap .i64 (x - IntKind.wrap .i64 (Int.tmod x n + n)) else IntKind.wrap .i64 (x - Int.tmod x n)
def Kn (x n : Int) : Bool := !decide (n = 0)
theorem v8f (x n : Int) (h : Kn x n = true) : ∃ N, Yx (x1y x n) N (z9k x n) = .ret [.int .i64 (z5m x n)] := ⟨0, by
 have h : (!decide (n = 0)) = true := h
 unfold z9k z5m
 rw [h, cond_true]
 cases decide (Int.tmod x n < 0) <;> rfl⟩
def pa1 (r B : R6) : Int := bif decide (Xm r.a B.a ≥ Wn r.d B.d) then 0 else bif decide (Xm r.b B.b ≥ Wn r.e B.e) then 0 else bif decide (Xm r.c B.c ≥ Wn r.f B.f) then 0 else
 IntKind.wrap .i64 (IntKind.wrap .i64 (IntKind.wrap .i64 (Wn r.d B.d - Xm r.a B.a) * IntKind.wrap .i64 (Wn r.e B.e - Xm r.b B.b)) * IntKind.wrap .i64 (Wn r.f B.f - Xm r.c B.c))
def paF (B : R6) : List R6 → Int → Int
 | [], s => s
 | r :: l, s => paF B l (IntKind.wrap .i64 (s + pa1 r B))
def parV (L : List R6) (a b c d e f : Int) : Int := paF ⟨a, b, c, d, e, f⟩ L 0
def z5a (L : List R6) (a b c d e f : Int) : Bool := decide (L.length ≤ 100000)
theorem v2r {L : List R6} {B : R6} (hl : L.length ≤ 100000) : ∀ (k i : Nat) (s : Int), i + k = L.length → ∃ N, Yx (z4a L B.a B.b B.c B.d B.e B.f) N (.to (.h0 s (i : Int))) = .ret [.int .i64 (paF B (L.drop i) s)]
 | 0, i, s, h => by
  refine ⟨1, ?_⟩
  rw [Zv, List.drop_eq_nil_of_le (by omega)]
  simp (disch := omega) only [z4a, Zt, cond_false]; rfl
 | k + 1, i, s, h => by
  have hi : i < L.length := by omega
  obtain ⟨N, hN⟩ := v2r (B := B) hl k (i + 1) (IntKind.wrap .i64 (s + pa1 (rd L i) B)) (by omega)
  have hw : IntKind.wrap .i64 ((i : Int) + 1) = ((i + 1 : Nat) : Int) := Zj (by omega)
  refine ⟨N + 1, ?_⟩
  rw [Zv, Ye hi]
  have e : z4a L B.a B.b B.c B.d B.e B.f (.h0 s (i : Int)) = .to (.h0 (IntKind.wrap .i64 (s + pa1 (rd L i) B)) ((i + 1 : Nat) : Int)) := by
   simp (disch := omega) only [z4a, Zo, Zr, hw, Zk, Bool.and_true, cond_true]
   unfold pa1
   cases decide (Xm (rd L i).a B.a ≥ Wn (rd L i).d B.d) <;> cases decide (Xm (rd L i).b B.b ≥ Wn (rd L i).e B.e) <;> cases decide (Xm (rd L i).c B.c ≥ Wn (rd L i).f B.f) <;> rfl
  rw [e]
  exact hN
theorem v6z (L : List R6) (a b c d e f : Int) (h : z5a L a b c d e f = true) : ∃ N, Yx (z4a L a b c d e f) N (y4p L a b c d e f) = .ret [.int .i64 (parV L a b c d e f)] :=
 v2r (B := ⟨a, b, c, d, e, f⟩) (of_decide_eq_true h) L.length 0 0 (Nat.zero_add _)
def shR (x y z : Int) (r : R6) : Bool := decide (r.a ≤ x) && (decide (x < r.d) && (decide (r.b ≤ y) && (decide (y < r.e) && (decide (r.c ≤ z) && decide (z < r.f)))))
def w0f (L : List R6) (x y z : Int) : Bool := L.any (shR x y z)
def Kd (L : List R6) (x y z : Int) : Bool := decide (L.length ≤ 100000)
theorem v1j {L : List R6} {x y z : Int} (hl : L.length ≤ 100000) : ∀ (k i : Nat), i + k = L.length → ∃ N, Yx (z3u L x y z) N (.to (.h0 (i : Int))) = .ret [.bool ((L.drop i).any (shR x y z))]
 | 0, i, h => by
  refine ⟨1, ?_⟩
  rw [Zv, List.drop_eq_nil_of_le (by omega)]
  simp (disch := omega) only [z3u, Zt, cond_false]; rfl
 | k + 1, i, h => by
  have hi : i < L.length := by omega
  obtain ⟨N, hN⟩ := v1j (x := x) (y := y) (z := z) hl k (i + 1) (by omega)
  have hw : IntKind.wrap .i64 ((i : Int) + 1) = ((i + 1 : Nat) : Int) := Zj (by omega)
  have e : z3u L x y z (.h0 (i : Int)) = bif shR x y z (rd L i) then .ret [.bool true] else .to (.h0 ((i + 1 : Nat) : Int)) := by
   simp (disch := omega) only [z3u, Zo, Zr, x5n, hw, Zk, Bool.and_true, cond_true]
   unfold shR
   cases decide ((rd L i).a ≤ x) <;> cases decide (x < (rd L i).d) <;> cases decide ((rd L i).b ≤ y) <;> cases decide (y < (rd L i).e) <;> cases decide ((rd L i).c ≤ z) <;> cases decide (z < (rd L i).f) <;> rfl
  refine ⟨N + 1, ?_⟩
  rw [Zv, Ye hi, e, List.any_cons]
  rcases Yy (shR x y z (rd L i)) with q | q
  ·rw [q, cond_true, Bool.true_or]; exact Zm _ _ _
  ·rw [q, cond_false, Bool.false_or]; exact hN
theorem v5o (L : List R6) (x y z : Int) (h : Kd L x y z = true) : ∃ N, Yx (z3u L x y z) N (y3x L x y z) = .ret [.bool (w0f L x y z)] :=
 v1j (of_decide_eq_true h) L.length 0 (Nat.zero_add _)
def fFlr : List AVal → Option (AVal × Bool)
 | [.int .i64 x0, .int .i64 x1] => some (.int .i64 (z5m x0 x1), Kn x0 x1)
 | _ => none
theorem v9g {S : Specs} (hS : Zu prog S) : Zu prog (S.with x4o fFlr) := by
 refine z0z hS (by kernel_rfl) fun args v h => ?_
 unfold fFlr at h
 split at h
 ·rename_i x0 x1
  simp only [Option.some.injEq, Prod.mk.injEq, Bool.and_eq_true] at h
  obtain ⟨rfl, hw⟩ := h
  obtain ⟨N, hN⟩ := v8f x0 x1 hw
  exact ⟨_, _, (.cons (.refl _) (.cons (.refl _) .nil)), rfl, w8y x0 x1 N _ hN, 3, rfl⟩
 ·cases h
def fPar : List AVal → Option (AVal × Bool)
 | [a0, .agg [.int .i64 aN, .int .i64 aO, .int .i64 bY, .int .i64 cQ, .int .i64 cR, .int .i64 cS]] => match asL R6 a0 with
  | some (L0, g0, n0) => some (.int .i64 (parV L0 aN aO bY cQ cR cS), isT R6 n0 g0 && (z5a L0 aN aO bY cQ cR cS))
  | _ => none
 | _ => none
theorem v8w {S : Specs} (hS : Zu prog S) : Zu prog (S.with w2v fPar) := by
 refine z0z hS (by kernel_rfl) fun args v h => ?_
 unfold fPar at h
 split at h
 ·rename_i a0 aN aO bY cQ cR cS
  split at h
  ·rename_i L0 g0 n0 e0
   simp only [Option.some.injEq, Prod.mk.injEq, Bool.and_eq_true] at h
   obtain ⟨rfl, ho0, hw⟩ := h
   obtain ⟨N, hN⟩ := v6z L0 aN aO bY cQ cR cS hw
   exact ⟨_, _, (.cons (asL_le e0 ho0) (.cons (.refl _) .nil)), rfl, w7k L0 aN aO bY cQ cR cS N _ hN, 3, rfl⟩
  ·cases h
 ·cases h
def fShs : List AVal → Option (AVal × Bool)
 | [a0, .agg [.int .i64 aN, .int .i64 aO, .int .i64 bY]] => match asL R6 a0 with
  | some (L0, g0, n0) => some (.bool (w0f L0 aN aO bY), isT R6 n0 g0 && (Kd L0 aN aO bY))
  | _ => none
 | _ => none
theorem v8o {S : Specs} (hS : Zu prog S) : Zu prog (S.with nSHas fShs) := by
 refine z0z hS (by kernel_rfl) fun args v h => ?_
 unfold fShs at h
 split at h
 ·rename_i a0 aN aO bY
  split at h
  ·rename_i L0 g0 n0 e0
   simp only [Option.some.injEq, Prod.mk.injEq, Bool.and_eq_true] at h
   obtain ⟨rfl, ho0, hw⟩ := h
   obtain ⟨N, hN⟩ := v5o L0 aN aO bY hw
   exact ⟨_, _, (.cons (asL_le e0 ho0) (.cons (.refl _) .nil)), rfl, w5z L0 aN aO bY N _ hN, 3, rfl⟩
  ·cases h
 ·cases h
def Dp : Specs := (((Di.with x4o fFlr).with w2v fPar).with nSHas fShs)
theorem z1l : Zu prog Dp := (v8o (v8w (v9g z1r)))
end Go.Am
namespace Go.Am
open Go.Proofs.Tryz
open Go.Proofs
inductive dptS where
def dptC (l0 : List R6) (x1 : Int) (bB : Int) (bC : Int) (cK : Int) : dptS → Cfg
 := nofun
def x2n (l0 : List R6) (x1 : Int) (bB : Int) (bC : Int) (cK : Int) : dptS → Xa dptS
 := nofun
def z9o (l0 : List R6) (x1 : Int) (bB : Int) (bC : Int) (cK : Int) : Xa dptS := (bif (z5n (cvT l0)) then (bif (!(x9e (cvT l0))) then (.ret [(.bool true)]) else (bif (decide (x1 < 1)) then (.ret [(.bool true)]) else (bif (decide (x1 > 40)) then (.ret [(.bool true)]) else (bif (decide (bB ≥ (-100))) then (bif (decide (bC ≥ (-100))) then (bif (decide (cK ≥ (-100))) then (bif (decide (bB ≤ 1000000)) then (bif (decide (bC ≤ 1000000)) then (bif (!(decide (cK ≤ 1000000))) then (.ret [(.bool true)]) else (bif (decide ((Xm (Xm bB bC) cK) > 100)) then (.ret [(.bool true)]) else (bif (z2d (cvT l0) x1) then (bif (z2j (cvT l0) x1) then (bif (Kn bB x1) then (bif (Kn bC x1) then (bif (Kn cK x1) then (bif (z5a (cvT l0) (z5m bB x1) (z5m bC x1) (z5m cK x1) (IntKind.wrap .i64 ((z5m bB x1) + x1)) (IntKind.wrap .i64 ((z5m bC x1) + x1)) (IntKind.wrap .i64 ((z5m cK x1) + x1))) then (bif ((Ub (cvT l0) x1) == 0) then (bif (Kd (cvT (Yd (cvT l0) x1)) bB bC cK) then (bif (!((w0f (cvT (Yd (cvT l0) x1)) bB bC cK) == (decide ((parV (cvT l0) (z5m bB x1) (z5m bC x1) (z5m cK x1) (IntKind.wrap .i64 ((z5m bB x1) + x1)) (IntKind.wrap .i64 ((z5m bC x1) + x1)) (IntKind.wrap .i64 ((z5m cK x1) + x1))) > 0)))) then (.ret [(.bool false)]) else (bif ((Vg (cvT l0) x1) == 0) then (bif (Kd (cvT (Wx (cvT l0) x1)) bB bC cK) then (bif (!((w0f (cvT (Wx (cvT l0) x1)) bB bC cK) == ((parV (cvT l0) (z5m bB x1) (z5m bC x1) (z5m cK x1) (IntKind.wrap .i64 ((z5m bB x1) + x1)) (IntKind.wrap .i64 ((z5m bC x1) + x1)) (IntKind.wrap .i64 ((z5m cK x1) + x1))) == (IntKind.wrap .i64 ((IntKind.wrap .i64 (x1 * x1)) * x1))))) then (.ret [(.bool false)]) else (.ret [(.bool true)])) else .stuck) else (.ret [(.bool ((Vg (cvT l0) x1) == 4))]))) else .stuck) else (bif ((Vg (cvT l0) x1) == 0) then (bif (Kd (cvT (Wx (cvT l0) x1)) bB bC cK) then (bif (!((w0f (cvT (Wx (cvT l0) x1)) bB bC cK) == ((parV (cvT l0) (z5m bB x1) (z5m bC x1) (z5m cK x1) (IntKind.wrap .i64 ((z5m bB x1) + x1)) (IntKind.wrap .i64 ((z5m bC x1) + x1)) (IntKind.wrap .i64 ((z5m cK x1) + x1))) == (IntKind.wrap .i64 ((IntKind.wrap .i64 (x1 * x1)) * x1))))) then (.ret [(.bool false)]) else (bif ((Ub (cvT l0) x1) == 4) then (.ret [(.bool true)]) else (.ret [(.bool false)]))) else .stuck) else (bif ((Ub (cvT l0) x1) == 4) then (.ret [(.bool ((Vg (cvT l0) x1) == 4))]) else (.ret [(.bool false)])))) else .stuck) else .stuck) else .stuck) else .stuck) else .stuck) else .stuck))) else (.ret [(.bool true)])) else (.ret [(.bool true)])) else (.ret [(.bool true)])) else (.ret [(.bool true)])) else (.ret [(.bool true)]))))) else .stuck)
theorem x8l (l0 : List R6) (x1 : Int) (bB : Int) (bC : Int) (cK : Int) : ∀ s, Xo prog (Zy prog 11) (dptC l0 x1 bB bC cK) (dptC l0 x1 bB bC cK s) (x2n l0 x1 bB bC cK s)
 := nofun
theorem x2o (l0 : List R6) (x1 : Int) (bB : Int) (bC : Int) (cK : Int) : Xo prog (Zy prog 11) (dptC l0 x1 bB bC cK) (Zc prog 11 [(.dat l0.length (Zz l0)), (.int .i64 x1), (.agg [(.int .i64 bB), (.int .i64 bC), (.int .i64 cK)])] true []) (z9o l0 x1 bB bC cK) := (lo fun aZ => (lb (fun k0 => (lr 119 11 [1, 1, 0, 1, 0, 0] 1 4 [(6, (.bool true))] (sl z1l 50 [] ⟨[], [], [some [6]], []⟩ ⟨[], [], []⟩ (trs 18 []) (tt k0 (pp (pp (xr l0) (xw aZ)) nn))))) (fun k0 => (lb (fun k1 => (lr 119 11 [1, 1, 0, 1, 0, 0] 1 4 [(6, (.bool true))] (sl z1l 50 [] ⟨[], [], [some [6]], []⟩ ⟨[], [], []⟩ [false, false, true, true, true, true, true, true, true, true, true, true, true, true, true, true, true, true] (tt k1 (tt k0 (pp (pp (xr l0) (xw aZ)) nn)))))) (fun k1 => (lb (fun k2 => (lr 119 11 [1, 1, 0, 1, 0, 0] 1 4 [(6, (.bool true))] (sl z1l 50 [] ⟨[], [], [some [6]], []⟩ ⟨[], [], []⟩ [false, false, false, false, true, true, true, true, true, true, true, true, true, true, true, true, true, true] (tt k2 (tt k1 (tt k0 (pp (pp (xr l0) (xw aZ)) nn))))))) (fun k2 => (lb (fun k3 => (lb (fun k4 => (lb (fun k5 => (lb (fun k6 => (lb (fun k7 => (lb (fun k8 => (lr 119 11 [1, 1, 0, 1, 0, 0] 1 4 [(6, (.bool true))] (sl z1l 91 [] ⟨[], [], [some [6]], []⟩ ⟨[], [], []⟩ [false, false, false, false, false, false, true, true, true, true, true, true, true, true, true, true, true, true, true, true, true, true, true, false, true, true, true, true, true, true, true, true, true, true, true] (tt k8 (tt k7 (tt k6 (tt k5 (tt k4 (tt k3 (tt k2 (tt k1 (tt k0 (pp (pp (xr l0) (xw aZ)) nn))))))))))))) (fun k8 => (lb (fun k9 => (lr 119 11 [1, 1, 0, 1, 0, 0] 1 4 [(6, (.bool true))] (sl z1l 91 [] ⟨[], [], [some [6]], []⟩ ⟨[], [], []⟩ [false, false, false, false, false, false, true, true, true, true, true, true, true, true, true, true, true, true, true, true, true, true, true, false, false, false, false, false, false, false, false, false, true, true, true] (tt k9 (tt k8 (tt k7 (tt k6 (tt k5 (tt k4 (tt k3 (tt k2 (tt k1 (tt k0 (pp (pp (xr l0) (xw aZ)) nn)))))))))))))) (fun k9 => (lo fun dL => (lo fun dM => (lo fun dN => (lo fun dO => (lo fun dP => (lo fun dQ => (lb (fun k10 => (lo fun dZ => (lb (fun k11 => (lr 119 11 [1, 1, 1, 1, 1, 1, 1, 0, 1, 0, 0] 1 4 [(6, (.bool false))] (sl z1l 154 [] ⟨[], [], [some [6]], []⟩ ⟨[], [], []⟩ [false, false, false, false, false, false, true, true, true, true, true, true, true, true, true, true, true, true, true, true, true, true, true, false, false, false, false, false, false, false, false, false, false, false, false, true, true, true, true, true, true, true, true, true, true, true] (tt k11 (pp (pp (xI R6 (Yd (cvT l0) x1).length (Zz (Yd (cvT l0) x1))) (xw dZ)) (tt k10 (pp (pp (xr l0) (xw dQ)) (ww dP (ww dO (ww dN (pp (pp (xr l0) (xw dM)) (pp (pp (xr l0) (xw dL)) (tt k9 (tt k8 (tt k7 (tt k6 (tt k5 (tt k4 (tt k3 (tt k2 (tt k1 (tt k0 (pp (pp (xr l0) (xw aZ)) nn))))))))))))))))))))))) (fun k11 => (lb (fun k12 => (lo fun eD => (lb (fun k13 => (lr 119 11 [1, 1, 1, 1, 1, 1, 1, 0, 1, 0, 0] 1 4 [(6, (.bool false))] (sl z1l 154 [] ⟨[], [], [some [6]], []⟩ ⟨[], [], []⟩ [false, false, false, false, false, false, true, true, true, true, true, true, true, true, true, true, true, true, true, true, true, true, true, false, false, false, false, false, false, false, false, false, false, false, false, true, true, true, true, true, true, false, false, false, true, true, true, true, true, true, true, true, true, true, true, false, true] (tt k13 (pp (pp (xI R6 (Wx (cvT l0) x1).length (Zz (Wx (cvT l0) x1))) (xw eD)) (tt k12 (tt k11 (pp (pp (xI R6 (Yd (cvT l0) x1).length (Zz (Yd (cvT l0) x1))) (xw dZ)) (tt k10 (pp (pp (xr l0) (xw dQ)) (ww dP (ww dO (ww dN (pp (pp (xr l0) (xw dM)) (pp (pp (xr l0) (xw dL)) (tt k9 (tt k8 (tt k7 (tt k6 (tt k5 (tt k4 (tt k3 (tt k2 (tt k1 (tt k0 (pp (pp (xr l0) (xw aZ)) nn)))))))))))))))))))))))))) (fun k13 => (lr 119 3 [1, 1, 1, 1, 1, 1, 0] 1 4 [(6, (.bool true))] (sl z1l 172 [] ⟨[], [], [some [6]], []⟩ ⟨[], [], []⟩ [false, false, false, false, false, false, true, true, true, true, true, true, true, true, true, true, true, true, true, true, true, true, true, false, false, false, false, false, false, false, false, false, false, false, false, true, true, true, true, true, true, false, false, false, true, true, true, true, true, true, true, true, true, true, true, false, false, true, true, true, true, true, true, true, true, true, true, true, true] (tt k12 (tt k10 (tt k13 (pp (pp (xI R6 (Wx (cvT l0) x1).length (Zz (Wx (cvT l0) x1))) (xw eD)) (tt k12 (tt k11 (pp (pp (xI R6 (Yd (cvT l0) x1).length (Zz (Yd (cvT l0) x1))) (xw dZ)) (tt k10 (pp (pp (xr l0) (xw dQ)) (ww dP (ww dO (ww dN (pp (pp (xr l0) (xw dM)) (pp (pp (xr l0) (xw dL)) (tt k9 (tt k8 (tt k7 (tt k6 (tt k5 (tt k4 (tt k3 (tt k2 (tt k1 (tt k0 (pp (pp (xr l0) (xw aZ)) nn))))))))))))))))))))))))))))))) (fun k12 => (lr 119 3 [1, 1, 1, 1, 1, 1, 0] 1 4 [(6, (.bool ((Vg (cvT l0) x1) == 4)))] (sl z1l 172 [] ⟨[], [], [some [6]], []⟩ ⟨[], [], []⟩ [false, false, false, false, false, false, true, true, true, true, true, true, true, true, true, true, true, true, true, true, true, true, true, false, false, false, false, false, false, false, false, false, false, false, false, true, true, true, true, true, true, false, false, false, false, false, false, false, false, false, false, false, false, false, false, false, false, true, true, true, true, true, true, true, true, true, false, false, true] (tt k12 (tt k10 (tt k12 (tt k11 (pp (pp (xI R6 (Yd (cvT l0) x1).length (Zz (Yd (cvT l0) x1))) (xw dZ)) (tt k10 (pp (pp (xr l0) (xw dQ)) (ww dP (ww dO (ww dN (pp (pp (xr l0) (xw dM)) (pp (pp (xr l0) (xw dL)) (tt k9 (tt k8 (tt k7 (tt k6 (tt k5 (tt k4 (tt k3 (tt k2 (tt k1 (tt k0 (pp (pp (xr l0) (xw aZ)) nn))))))))))))))))))))))))))))))) (fun k10 => (lb (fun k11 => (lo fun eC => (lb (fun k12 => (lr 119 11 [1, 1, 1, 1, 1, 1, 1, 0, 1, 0, 0] 1 4 [(6, (.bool false))] (sl z1l 154 [] ⟨[], [], [some [6]], []⟩ ⟨[], [], []⟩ [false, false, false, false, false, false, true, true, true, true, true, true, true, true, true, true, true, true, true, true, true, true, true, false, false, false, false, false, false, false, false, false, false, false, false, false, false, false, false, false, false, false, false, false, true, true, true, true, true, true, true, true, true, true, true, false, true] (tt k12 (pp (pp (xI R6 (Wx (cvT l0) x1).length (Zz (Wx (cvT l0) x1))) (xw eC)) (tt k11 (tt k10 (pp (pp (xr l0) (xw dQ)) (ww dP (ww dO (ww dN (pp (pp (xr l0) (xw dM)) (pp (pp (xr l0) (xw dL)) (tt k9 (tt k8 (tt k7 (tt k6 (tt k5 (tt k4 (tt k3 (tt k2 (tt k1 (tt k0 (pp (pp (xr l0) (xw aZ)) nn)))))))))))))))))))))))) (fun k12 => (lb (fun k13 => (lr 119 3 [1, 1, 1, 1, 1, 1, 0] 1 4 [(6, (.bool true))] (sl z1l 172 [] ⟨[], [], [some [6]], []⟩ ⟨[], [], []⟩ [false, false, false, false, false, false, true, true, true, true, true, true, true, true, true, true, true, true, true, true, true, true, true, false, false, false, false, false, false, false, false, false, false, false, false, false, false, false, false, false, false, false, false, false, true, true, true, true, true, true, true, true, true, true, true, false, false, true, true, true, false, false, true, true, true, true, true, true, true] (tt k11 (tt k13 (tt k10 (tt k12 (pp (pp (xI R6 (Wx (cvT l0) x1).length (Zz (Wx (cvT l0) x1))) (xw eC)) (tt k11 (tt k10 (pp (pp (xr l0) (xw dQ)) (ww dP (ww dO (ww dN (pp (pp (xr l0) (xw dM)) (pp (pp (xr l0) (xw dL)) (tt k9 (tt k8 (tt k7 (tt k6 (tt k5 (tt k4 (tt k3 (tt k2 (tt k1 (tt k0 (pp (pp (xr l0) (xw aZ)) nn))))))))))))))))))))))))))) (fun k13 => (lr 119 3 [1, 1, 1, 1, 1, 1, 0] 1 4 [(6, (.bool false))] (sl z1l 172 [] ⟨[], [], [some [6]], []⟩ ⟨[], [], []⟩ [false, false, false, false, false, false, true, true, true, true, true, true, true, true, true, true, true, true, true, true, true, true, true, false, false, false, false, false, false, false, false, false, false, false, false, false, false, false, false, false, false, false, false, false, true, true, true, true, true, true, true, true, true, true, true, false, false, true, true, true, false, false, true, false, false, false, false] (tt k13 (tt k10 (tt k12 (pp (pp (xI R6 (Wx (cvT l0) x1).length (Zz (Wx (cvT l0) x1))) (xw eC)) (tt k11 (tt k10 (pp (pp (xr l0) (xw dQ)) (ww dP (ww dO (ww dN (pp (pp (xr l0) (xw dM)) (pp (pp (xr l0) (xw dL)) (tt k9 (tt k8 (tt k7 (tt k6 (tt k5 (tt k4 (tt k3 (tt k2 (tt k1 (tt k0 (pp (pp (xr l0) (xw aZ)) nn))))))))))))))))))))))))))))))) (fun k11 => (lb (fun k12 => (lr 119 3 [1, 1, 1, 1, 1, 1, 0] 1 4 [(6, (.bool ((Vg (cvT l0) x1) == 4)))] (sl z1l 172 [] ⟨[], [], [some [6]], []⟩ ⟨[], [], []⟩ [false, false, false, false, false, false, true, true, true, true, true, true, true, true, true, true, true, true, true, true, true, true, true, false, false, false, false, false, false, false, false, false, false, false, false, false, false, false, false, false, false, false, false, false, false, false, false, false, false, false, false, false, false, false, false, false, false, true, true, true, false, false, true, true, true, true, false, false, true] (tt k11 (tt k12 (tt k10 (tt k11 (tt k10 (pp (pp (xr l0) (xw dQ)) (ww dP (ww dO (ww dN (pp (pp (xr l0) (xw dM)) (pp (pp (xr l0) (xw dL)) (tt k9 (tt k8 (tt k7 (tt k6 (tt k5 (tt k4 (tt k3 (tt k2 (tt k1 (tt k0 (pp (pp (xr l0) (xw aZ)) nn))))))))))))))))))))))))) (fun k12 => (lr 119 3 [1, 1, 1, 1, 1, 1, 0] 1 4 [(6, (.bool false))] (sl z1l 172 [] ⟨[], [], [some [6]], []⟩ ⟨[], [], []⟩ [false, false, false, false, false, false, true, true, true, true, true, true, true, true, true, true, true, true, true, true, true, true, true, false, false, false, false, false, false, false, false, false, false, false, false, false, false, false, false, false, false, false, false, false, false, false, false, false, false, false, false, false, false, false, false, false, false, true, true, true, false, false, true, false, false, false, false] (tt k12 (tt k10 (tt k11 (tt k10 (pp (pp (xr l0) (xw dQ)) (ww dP (ww dO (ww dN (pp (pp (xr l0) (xw dM)) (pp (pp (xr l0) (xw dL)) (tt k9 (tt k8 (tt k7 (tt k6 (tt k5 (tt k4 (tt k3 (tt k2 (tt k1 (tt k0 (pp (pp (xr l0) (xw aZ)) nn)))))))))))))))))))))))))))))))))))))))) (fun k7 => (lr 119 11 [1, 1, 0, 1, 0, 0] 1 4 [(6, (.bool true))] (sl z1l 91 [] ⟨[], [], [some [6]], []⟩ ⟨[], [], []⟩ [false, false, false, false, false, false, true, true, true, true, true, true, true, true, true, true, true, true, true, true, false, false, false, false, true, true, true, true, true, true, true, true, true, true, true] (tt k7 (tt k6 (tt k5 (tt k4 (tt k3 (tt k2 (tt k1 (tt k0 (pp (pp (xr l0) (xw aZ)) nn)))))))))))))) (fun k6 => (lr 119 11 [1, 1, 0, 1, 0, 0] 1 4 [(6, (.bool true))] (sl z1l 91 [] ⟨[], [], [some [6]], []⟩ ⟨[], [], []⟩ [false, false, false, false, false, false, true, true, true, true, true, true, true, true, true, true, true, false, false, false, false, false, false, false, true, true, true, true, true, true, true, true, true, true, true] (tt k6 (tt k5 (tt k4 (tt k3 (tt k2 (tt k1 (tt k0 (pp (pp (xr l0) (xw aZ)) nn))))))))))))) (fun k5 => (lr 119 11 [1, 1, 0, 1, 0, 0] 1 4 [(6, (.bool true))] (sl z1l 91 [] ⟨[], [], [some [6]], []⟩ ⟨[], [], []⟩ [false, false, false, false, false, false, true, true, true, true, true, true, true, true, false, false, false, false, false, false, false, false, false, false, true, true, true, true, true, true, true, true, true, true, true] (tt k5 (tt k4 (tt k3 (tt k2 (tt k1 (tt k0 (pp (pp (xr l0) (xw aZ)) nn)))))))))))) (fun k4 => (lr 119 11 [1, 1, 0, 1, 0, 0] 1 4 [(6, (.bool true))] (sl z1l 91 [] ⟨[], [], [some [6]], []⟩ ⟨[], [], []⟩ [false, false, false, false, false, false, true, true, true, true, false, false, false, false, false, false, false, false, false, false, false, false, false, false, true, true, true, true, true, true, true, true, true, true, true] (tt k4 (tt k3 (tt k2 (tt k1 (tt k0 (pp (pp (xr l0) (xw aZ)) nn))))))))))) (fun k3 => (lr 119 11 [1, 1, 0, 1, 0, 0] 1 4 [(6, (.bool true))] (sl z1l 91 [] ⟨[], [], [some [6]], []⟩ ⟨[], [], []⟩ [false, false, false, false, false, false, false, false, false, false, false, false, false, false, false, false, false, false, false, false, false, false, false, false, true, true, true, true, true, true, true, true, true, true, true] (tt k3 (tt k2 (tt k1 (tt k0 (pp (pp (xr l0) (xw aZ)) nn))))))))))))))))
theorem dpt_ends (l0 : List R6) (x1 : Int) (bB : Int) (bC : Int) (cK : Int) (n : Nat) (vs : List AVal) (h : Yx (x2n l0 x1 bB bC cK) n (z9o l0 x1 bB bC cK) = .ret vs) : Jc prog (Zy prog 11) (Zc prog 11 [(.dat l0.length (Zz l0)), (.int .i64 x1), (.agg [(.int .i64 bB), (.int .i64 bC), (.int .i64 cK)])] true []) vs := by
 have := Zn (x8l l0 x1 bB bC cK) n _ (x2o l0 x1 bB bC cK)
 rwa [h] at this
end Go.Am
namespace Go.Am
open Go.Proofs
end Go.Am
namespace Go.Am
open Go.Proofs Go.Sort Go.Shelf Go.RowKit Go.Lib
instance ptDec (l : List R2) (y : Int) : Decidable (pt l y) := Classical.propDecidable _
end Go.Am
namespace Go.Am
open Go.Proofs
def pin (r : R6) (x y z : Int) : Prop := (r.a ≤ x ∧ x < r.d) ∧ (r.b ≤ y ∧ y < r.e) ∧ r.c ≤ z ∧ z < r.f
theorem Vi (x y : Int) : x ≤ Xm x y ∧ y ≤ Xm x y ∧ (Xm x y = x ∨ Xm x y = y) := by
 unfold Xm; split <;> omega
theorem Uc (x y : Int) : Wn x y ≤ x ∧ Wn x y ≤ y ∧ (Wn x y = x ∨ Wn x y = y) := by
 unfold Wn; split <;> omega
end Go.Am
namespace Go.Am
open Go.Proofs Go.Sort Go.Shelf Go.RowKit Go.Lib
def v0u (n t : Int) : Prop := ∃ k, t = k * n
theorem Jk {n s t : Int} (hn : 1 ≤ n) (hs : v0u n s) (ht : v0u n t) (h : s < t + n) : s ≤ t := by
 obtain ⟨k, rfl⟩ := hs
 obtain ⟨j, rfl⟩ := ht
 have e : j * n + n = (j + 1) * n := by rw [Int.add_mul, Int.one_mul]
 rw [e] at h
 have := Int.lt_of_mul_lt_mul_right h (by omega)
 exact Int.mul_le_mul_of_nonneg_right (by omega) (by omega)
theorem Ux {x n : Int} (hn : 1 ≤ n ∧ n ≤ 1000) (hx : -2000000 ≤ x ∧ x ≤ 2000000) : v0u n (Ym x n) ∧ Ym x n ≤ x ∧ x < Ym x n + n := by
 have h1 : n * Int.tdiv x n + Int.tmod x n = x := Int.mul_tdiv_add_tmod x n
 have h2 : Int.tdiv x n * n = x - Int.tmod x n := by rw [Int.mul_comm]; omega
 have h3 : -n < Int.tmod x n ∧ Int.tmod x n < n ∧ (0 ≤ x → 0 ≤ Int.tmod x n) ∧ (x ≤ 0 → Int.tmod x n ≤ 0) := by
  refine ⟨?_, Int.tmod_lt_of_pos x (by omega), fun h => Int.tmod_nonneg n h, fun h => ?_⟩
  ·have := Int.lt_tmod_of_pos x (show 0 < n by omega); omega
  ·have := Int.tmod_nonneg n (show 0 ≤ -x by omega)
   rw [Int.neg_tmod] at this; omega
 have h4 : -2000000 ≤ Int.tdiv x n ∧ Int.tdiv x n ≤ 2000000 := by
  generalize Int.tdiv x n = q at h2
  generalize Int.tmod x n = m at h2 h3
  rcases Int.lt_trichotomy q 0 with hq | hq | hq
  ·have : q * n ≤ q * 1 := Int.mul_le_mul_of_nonpos_left (by omega) (by omega)
   omega
  ·omega
  ·have : q * 1 ≤ q * n := Int.mul_le_mul_of_nonneg_left (by omega) (by omega)
   omega
 have h5 : (Int.tdiv x n - 1) * n = x - Int.tmod x n - n := by rw [Int.sub_mul, Int.one_mul, h2]
 unfold Ym
 rw [Zj (n := Int.tdiv x n) (by omega), Zj (n := Int.tdiv x n * n) (by omega), Zj (n := Int.tdiv x n - 1) (by omega), Zj (n := (Int.tdiv x n - 1) * n) (by omega)]
 by_cases h : Int.tdiv x n * n > x
 ·rw [Yn h, cond_true]
  exact ⟨⟨_, rfl⟩, by omega, by omega⟩
 ·rw [Xw h, cond_false]
  exact ⟨⟨_, rfl⟩, by omega, by omega⟩
theorem z3s {x n : Int} (hn : 1 ≤ n ∧ n ≤ 1000) (hx : -1900000 ≤ x ∧ x ≤ 1900000) : v0u n (upV x n) ∧ x ≤ upV x n ∧ upV x n < x + n := by
 unfold upV
 rw [Zj (n := 0 - x) (by omega)]
 obtain ⟨⟨k, hk⟩, h1, h2⟩ := Ux (x := 0 - x) hn (by omega)
 rw [Zj (n := 0 - Ym (0 - x) n) (by omega)]
 exact ⟨⟨-k, by rw [Int.neg_mul, ← hk]; omega⟩, by omega, by omega⟩
def nrR (r : R6) : Prop := (-900000 ≤ r.a ∧ r.d ≤ 900000) ∧ (-900000 ≤ r.b ∧ r.e ≤ 900000) ∧ -900000 ≤ r.c ∧ r.f ≤ 900000
structure Sml (L : List R6) : Prop where
 sol : Sol L
 nr : ∀ r ∈ L, nrR r
theorem out1 {n a d t : Int} (hn : 1 ≤ n ∧ n ≤ 1000) (ha : -900000 ≤ a ∧ a ≤ 900000) (hd : -900000 ≤ d ∧ d ≤ 900000) (ht : -1000000 ≤ t ∧ t ≤ 1000000) : (Ym a n ≤ t ∧ t < upV d n) ↔ a < Ym t n + n ∧ Ym t n < d := by
 obtain ⟨m1, a1, a2⟩ := Ux (x := a) hn (by omega)
 obtain ⟨m2, t1, t2⟩ := Ux (x := t) hn (by omega)
 obtain ⟨m3, d1, d2⟩ := z3s (x := d) hn (by omega)
 constructor
 ·rintro ⟨h1, h2⟩
  have := Jk hn.1 m1 m2 (by omega)
  refine ⟨by omega, ?_⟩
  refine Classical.byContradiction fun h => ?_
  have := Jk hn.1 m3 m2 (by omega)
  omega
 ·rintro ⟨h1, h2⟩
  have k1 := Jk hn.1 m1 m2 (by omega)
  refine ⟨by omega, ?_⟩
  refine Classical.byContradiction fun h => ?_
  have := Jk hn.1 m3 m2 (by omega)
  omega
theorem Sol.sub {L M : List R6} (h : Sol L) (hs : M.Sublist L) : Sol M := ⟨Nat.le_trans hs.length_le h.len, fun r hr => h.val r (hs.subset hr), h.ap.sublist hs⟩
theorem Sml.sub {L M : List R6} (h : Sml L) (hs : M.Sublist L) : Sml M := ⟨h.sol.sub hs, fun r hr => h.nr r (hs.subset hr)⟩
theorem y5h (lo hi : R6 → Int) (L : List R6) (x x' : Int) : (crS lo hi L x x').Sublist L := List.filter_sublist
theorem x9y {lo hi a b : Int} (h1 : -1000000 ≤ lo ∧ lo ≤ 1000000) (h2 : -1000000 ≤ hi ∧ hi ≤ 1000000) (h3 : -1000000 ≤ a ∧ a ≤ 1000000) (h4 : -1000000 ≤ b ∧ b ≤ 1000000) : spC lo hi a b = ovl lo hi a b := by
 have e1 := Uc hi b
 have e2 := Vi lo a
 unfold spC ovl
 rw [Zj (by omega)]
 have := Vi (Wn hi b - Xm lo a) 0
 omega
theorem fu1_cg {r : R6} (hr : Jo r = true) {B : R6} (hB : Jo B = true) : Cg (fu1 r B.a B.d B.b B.e B.c B.f) (ov B r) := by
 have v := Wu hr
 have w := Wu hB
 unfold fu1 ov
 rw [x9y (by omega) (by omega) (by omega) (by omega), x9y (by omega) (by omega) (by omega) (by omega), x9y (by omega) (by omega) (by omega) (by omega), z2y r.a, z2y r.b, z2y r.c]
 refine ((Cg.mul ?_ (Cg.refl _)).w.mul (Cg.refl _)).w
 rw [Int.one_mul]
 exact Cg.wrap _
theorem v4a {B : R6} (hB : Jo B = true) : ∀ (L : List R6) (s s' : Int), (∀ r ∈ L, Jo r = true) → Cg s s' → Cg (fuF B.a B.d B.b B.e B.c B.f L s) (s' - sm L fun r => ov B r)
 | [], s, s', _, h => by rw [z1x, Int.sub_zero]; exact h
 | r :: L, s, s', hL, h => by
  have := v4a hB L _ _ (fun q hq => hL q (List.mem_cons_of_mem _ hq)) (h.sub (fu1_cg (hL r (List.mem_cons_self ..)) hB)).w
  rw [Wd]
  rw [show s' - (ov B r + sm L fun r => ov B r) = s' - ov B r - sm L fun r => ov B r by omega]
  exact this
theorem v3z {a b c d e f : Int} : ∀ (L : List R6) (s : Int), (-9223372036854775808 ≤ s ∧ s ≤ 9223372036854775807) → -9223372036854775808 ≤ fuF a b c d e f L s ∧ fuF a b c d e f L s ≤ 9223372036854775807
 | [], s, h => h
 | r :: L, s, _ => v3z L _ (y3t _)
theorem bx_le {B : R6} (hB : Jo B = true) : 0 ≤ bxV B ∧ bxV B ≤ 8000000000000000000 := by
 have w := Wu hB
 unfold bxV
 have h1 : (B.d - B.a) * (B.e - B.b) ≤ 2000000 * 2000000 := Int.mul_le_mul (by omega) (by omega) (by omega) (by omega)
 have h0 : 0 ≤ (B.d - B.a) * (B.e - B.b) := Int.mul_nonneg (by omega) (by omega)
 have h2 : (B.d - B.a) * (B.e - B.b) * (B.f - B.c) ≤ 2000000 * 2000000 * 2000000 := Int.mul_le_mul h1 (by omega) (by omega) (by omega)
 exact ⟨Int.mul_nonneg h0 (by omega), h2⟩
theorem w5h {X Y : List R6} (hX : Sol X) (hY : Sol Y) : S2 X Y ≤ sm X bxV := by
 obtain ⟨p, hp⟩ := y7c
 rw [x3q hp hX, u0u hp X Y hX.near]
 refine w5g fun x y z => ?_
 have h1 := Kb X x y z
 have h2 := y8g Y hY.ap x y z
 have := Int.mul_le_mul_of_nonneg_left h2 h1
 omega
theorem z0w {B : R6} (hB : Jo B = true) : Sol [B] := ⟨by simp, fun r hr => by rw [List.mem_singleton.1 hr]; exact hB, List.pairwise_singleton _ _⟩
theorem v8b {L : List R6} (hL : Sol L) {B : R6} (hB : Jo B = true) : y3e L B.a B.d B.b B.e B.c B.f = true ↔ ∀ x y z, pin B x y z → inS L x y z := by
 have w := Wu hB
 have hb := bx_le hB
 have h0 : Cg (fu0 B.a B.d B.b B.e B.c B.f) (bxV B) := by
  unfold fu0 bxV
  exact ((Cg.mul (Cg.wrap _) (Cg.wrap _)).w.mul (Cg.wrap _)).w
 have hc := v4a hB L _ _ hL.val h0
 have e2 : (sm L fun r => ov B r) = S2 [B] L := by unfold S2; rw [Wd, z1x, Int.add_zero]
 have hm := w5h (z0w hB) hL
 rw [Wd, z1x, Int.add_zero] at hm
 have hnn : 0 ≤ S2 [B] L := y2b _ _
 have hin := v3z (a := B.a) (b := B.d) (c := B.b) (d := B.e) (e := B.c) (f := B.f) L (fu0 B.a B.d B.b B.e B.c B.f) (y3t _)
 rw [e2] at hc
 have he := hc.is hin (by omega)
 obtain ⟨p, hp⟩ := y7c
 have hv : v0y [B] = bxV B := by
  rw [y9a hp (z0w hB), ← x3q hp (z0w hB), Wd, z1x, Int.add_zero]
 have ha := v4q (z0w hB) hL
 rw [hv] at ha
 have hpin : ∀ x y z, inS [B] x y z ↔ pin B x y z := fun x y z => ⟨fun ⟨r, hr, h⟩ => by rw [List.mem_singleton.1 hr] at h; exact h, fun h => ⟨B, List.mem_singleton_self _, h⟩⟩
 unfold y3e
 rw [he, beq_iff_eq]
 constructor
 ·intro h x y z k
  exact ha.1 (by omega) x y z ((hpin x y z).2 k)
 ·intro h
  have := ha.2 fun x y z k => h x y z ((hpin x y z).1 k)
  omega
section
variable {lo hi : R6 → Int} {n : Int} {L : List R6} (hn : 1 ≤ n ∧ n ≤ 1000) (hb : ∀ r ∈ L, (-900000 ≤ lo r ∧ lo r ≤ 900000) ∧ -900000 ≤ hi r ∧ hi r ≤ 900000)
theorem z1y (lo hi : R6 → Int) (n : Int) (L : List R6) : (rnC lo hi n L).Pairwise (· < ·) := by
 show (Ur (rnE lo hi n L)).Pairwise (· < ·)
 rw [Jr]; exact (Wr _).1
theorem y0b {c : Int} : c ∈ rnC lo hi n L ↔ ∃ r ∈ L, c = Ym (lo r) n ∨ c = upV (lo r) n ∨ c = Ym (hi r) n ∨ c = upV (hi r) n := by
 show c ∈ Ur (rnE lo hi n L) ↔ _
 rw [Jr, (Wr _).2]
 unfold rnE
 rw [List.mem_flatMap]
 constructor
 ·rintro ⟨r, hr, h⟩
  exact ⟨r, hr, by simpa using h⟩
 ·rintro ⟨r, hr, h⟩
  exact ⟨r, hr, by simpa using h⟩
theorem z8c {c : List Int} {i : Nat} (h : i < c.length) : rd c i ∈ c := by rw [Xq h]; exact List.getElem_mem h
theorem z1m (hn : 1 ≤ n ∧ n ≤ 1000) (hb : ∀ r ∈ L, (-900000 ≤ lo r ∧ lo r ≤ 900000) ∧ -900000 ≤ hi r ∧ hi r ≤ 900000) {c : Int} (h : c ∈ rnC lo hi n L) : v0u n c ∧ -901000 ≤ c ∧ c ≤ 901000 := by
 obtain ⟨r, hr, h⟩ := y0b.1 h
 obtain ⟨b1, b2⟩ := hb r hr
 rcases h with rfl | rfl | rfl | rfl
 ·obtain ⟨m, h1, h2⟩ := Ux (x := lo r) hn (by omega); exact ⟨m, by omega, by omega⟩
 ·obtain ⟨m, h1, h2⟩ := z3s (x := lo r) hn (by omega); exact ⟨m, by omega, by omega⟩
 ·obtain ⟨m, h1, h2⟩ := Ux (x := hi r) hn (by omega); exact ⟨m, by omega, by omega⟩
 ·obtain ⟨m, h1, h2⟩ := z3s (x := hi r) hn (by omega); exact ⟨m, by omega, by omega⟩
theorem rn_gap {cs : List Int} (hc : cs.Pairwise (· < ·)) {i : Nat} (hi : i + 1 < cs.length) {c : Int} (h : c ∈ cs) : c ≤ rd cs i ∨ rd cs (i + 1) ≤ c := by
 obtain ⟨j, hj, rfl⟩ := List.getElem_of_mem h
 rw [← Xq hj]
 rcases Nat.lt_or_ge i j with k | k
 ·right
  rcases Nat.eq_or_lt_of_le (show i + 1 ≤ j from k) with e | e
  ·rw [e]; exact Int.le_refl _
  ·exact Int.le_of_lt (z2h hc e hj)
 ·left
  rcases Nat.eq_or_lt_of_le k with e | e
  ·rw [e]; exact Int.le_refl _
  ·exact Int.le_of_lt (z2h hc e (by omega))
theorem v6e (hn : 1 ≤ n ∧ n ≤ 1000) (hb : ∀ r ∈ L, (-900000 ≤ lo r ∧ lo r ≤ 900000) ∧ -900000 ≤ hi r ∧ hi r ≤ 900000) {i : Nat} (hi' : i + 1 < (rnC lo hi n L).length) {y : Int} (h1 : rd (rnC lo hi n L) i ≤ y) (h2 : y < rd (rnC lo hi n L) (i + 1)) :
  (rd (rnC lo hi n L) i ≤ Ym y n ∧ Ym y n + n ≤ rd (rnC lo hi n L) (i + 1)) ∧ ((rd (rnC lo hi n L) i = Ym y n ∧ rd (rnC lo hi n L) (i + 1) = Ym y n + n) ∨ ∀ r ∈ L, (lo r ≤ rd (rnC lo hi n L) i ∨ rd (rnC lo hi n L) (i + 1) ≤ lo r) ∧ (hi r ≤ rd (rnC lo hi n L) i ∨ rd (rnC lo hi n L) (i + 1) ≤ hi r)) := by
 obtain ⟨m1, a1, a2⟩ := z1m hn hb (z8c (show i < (rnC lo hi n L).length by omega))
 obtain ⟨m2, b1, b2⟩ := z1m hn hb (z8c hi')
 obtain ⟨m3, c1, c2⟩ := Ux (x := y) hn (by omega)
 have k1 := Jk hn.1 m1 m3 (by omega)
 have k2 : Ym y n + n ≤ rd (rnC lo hi n L) (i + 1) := by
  refine Classical.byContradiction fun h => ?_
  have := Jk hn.1 m2 m3 (by omega)
  omega
 refine ⟨⟨k1, k2⟩, ?_⟩
 refine Classical.byContradiction fun h => ?_
 rw [not_or] at h
 obtain ⟨h3, h4⟩ := h
 refine h4 fun r hr => ?_
 have gap := @rn_gap _ (z1y lo hi n L) i hi'
 obtain ⟨p1, p2⟩ := hb r hr
 have one : ∀ e : Int, -900000 ≤ e ∧ e ≤ 900000 → Ym e n ∈ rnC lo hi n L → upV e n ∈ rnC lo hi n L → e ≤ rd (rnC lo hi n L) i ∨ rd (rnC lo hi n L) (i + 1) ≤ e := fun e he g1 g2 => by
  refine Classical.byContradiction fun hh => h3 ?_
  obtain ⟨n1, d1, d2⟩ := Ux (x := e) hn (by omega)
  obtain ⟨n2, u1, u2⟩ := z3s (x := e) hn (by omega)
  have q1 := gap g1
  have q2 := gap g2
  have n3 : v0u n (upV e n - n) := by
   obtain ⟨k, hk⟩ := n2
   exact ⟨k - 1, by rw [Int.sub_mul, Int.one_mul, ← hk]⟩
  have q3 := Jk hn.1 n3 n1 (by omega)
  omega
 exact ⟨one _ p1 (y0b.2 ⟨r, hr, .inl rfl⟩) (y0b.2 ⟨r, hr, .inr (.inl rfl)⟩), one _ p2 (y0b.2 ⟨r, hr, .inr (.inr (.inl rfl))⟩) (y0b.2 ⟨r, hr, .inr (.inr (.inr rfl))⟩)⟩
theorem w6q (hn : 1 ≤ n ∧ n ≤ 1000) (hb : ∀ r ∈ L, (-900000 ≤ lo r ∧ lo r ≤ 900000) ∧ -900000 ≤ hi r ∧ hi r ≤ 900000) {i : Nat} (hi' : i + 1 < (rnC lo hi n L).length) {y : Int} (h1 : rd (rnC lo hi n L) i ≤ y) (h2 : y < rd (rnC lo hi n L) (i + 1))
  {Q : Int → Prop} (hQ : ∀ y1 y2, (∀ r ∈ L, (lo r ≤ y1 ∧ y1 < hi r) ↔ (lo r ≤ y2 ∧ y2 < hi r)) → (Q y1 → Q y2)) : (∀ t, rd (rnC lo hi n L) i ≤ t → t < rd (rnC lo hi n L) (i + 1) → Q t) ↔ ∀ t, Ym y n ≤ t → t < Ym y n + n → Q t := by
 obtain ⟨⟨k1, k2⟩, k3⟩ := v6e hn hb hi' h1 h2
 obtain ⟨m1, a1, a2⟩ := z1m hn hb (z8c (show i < (rnC lo hi n L).length by omega))
 obtain ⟨m2, b1, b2⟩ := z1m hn hb (z8c hi')
 obtain ⟨m3, c1, c2⟩ := Ux (x := y) hn (by omega)
 constructor
 ·intro h t t1 t2
  exact h t (by omega) (by omega)
 ·intro h t t1 t2
  rcases k3 with ⟨e1, e2⟩ | k3
  ·exact h t (by omega) (by omega)
  ·refine hQ y t (fun r hr => ?_) (h y (by omega) (by omega))
   obtain ⟨q1, q2⟩ := k3 r hr
   omega
theorem w1b (hn : 1 ≤ n ∧ n ≤ 1000) (hb : ∀ r ∈ L, (-900000 ≤ lo r ∧ lo r ≤ 900000) ∧ -900000 ≤ hi r ∧ hi r ≤ 900000) {r : R6} (hr : r ∈ L) {y : Int} (h1 : lo r ≤ y) (h2 : y < hi r) : ∃ j, j + 1 < (rnC lo hi n L).length ∧ rd (rnC lo hi n L) j ≤ y ∧ y < rd (rnC lo hi n L) (j + 1) := by
 obtain ⟨p1, p2⟩ := hb r hr
 obtain ⟨n1, d1, d2⟩ := Ux (x := lo r) hn (by omega)
 obtain ⟨n2, u1, u2⟩ := z3s (x := hi r) hn (by omega)
 obtain ⟨i, hi1, e1⟩ := List.getElem_of_mem (y0b.2 ⟨r, hr, .inl rfl⟩ : Ym (lo r) n ∈ rnC lo hi n L)
 obtain ⟨j, hj1, e2⟩ := List.getElem_of_mem (y0b.2 ⟨r, hr, .inr (.inr (.inr rfl))⟩ : upV (hi r) n ∈ rnC lo hi n L)
 rw [← Xq hi1] at e1
 rw [← Xq hj1] at e2
 have h0 : rd (rnC lo hi n L) 0 ≤ rd (rnC lo hi n L) i := by
  rcases Nat.eq_zero_or_pos i with e | e
  ·rw [e]; exact Int.le_refl _
  ·exact Int.le_of_lt (z2h (z1y lo hi n L) e hi1)
 obtain ⟨k, q1, q2, q3⟩ := y5k (cuts := rnC lo hi n L) j hj1 y (by omega) (by omega)
 exact ⟨k, by omega, q2, q3⟩
end
theorem Sml.ba {L : List R6} (h : Sml L) : ∀ r ∈ L, (-900000 ≤ R6.a r ∧ R6.a r ≤ 900000) ∧ -900000 ≤ R6.d r ∧ R6.d r ≤ 900000 := fun r hr => by
 have := Wu (h.sol.val r hr)
 obtain ⟨h1, h2, h3⟩ := h.nr r hr; omega
theorem Sml.bb {L : List R6} (h : Sml L) : ∀ r ∈ L, (-900000 ≤ R6.b r ∧ R6.b r ≤ 900000) ∧ -900000 ≤ R6.e r ∧ R6.e r ≤ 900000 := fun r hr => by
 have := Wu (h.sol.val r hr)
 obtain ⟨h1, h2, h3⟩ := h.nr r hr; omega
theorem Sml.bc {L : List R6} (h : Sml L) : ∀ r ∈ L, (-900000 ≤ R6.c r ∧ R6.c r ≤ 900000) ∧ -900000 ≤ R6.f r ∧ R6.f r ≤ 900000 := fun r hr => by
 have := Wu (h.sol.val r hr)
 obtain ⟨h1, h2, h3⟩ := h.nr r hr; omega
def v5p {β : Type} (S : Int → Int → List β) (cs : List Int) (x : Int) : List β :=
 @dite _ (∃ i, i + 1 < cs.length ∧ rd cs i = x) (Classical.propDecidable _) (fun h => S x (rd cs (Classical.choose h + 1))) fun _ => []
theorem y9t {β : Type} {S : Int → Int → List β} {cs : List Int} (hc : cs.Pairwise (· < ·)) {i : Nat} (hi : i + 1 < cs.length) : v5p S cs (rd cs i) = S (rd cs i) (rd cs (i + 1)) := by
 have h : ∃ j, j + 1 < cs.length ∧ rd cs j = rd cs i := ⟨i, hi, rfl⟩
 unfold v5p
 rw [dif_pos h]
 obtain ⟨h1, h2⟩ := Classical.choose_spec h
 have e : Classical.choose h = i := by
  rcases Nat.lt_trichotomy (Classical.choose h) i with k | k | k
  ·have := z2h hc k (by omega); omega
  ·exact k
  ·have := z2h hc k (by omega); omega
 rw [e]
theorem w3r {α β : Type} (D : Dim α β) {S : Int → Int → List β} {cs : List Int} (hc : cs.Pairwise (· < ·)) : ∀ (k i : Nat) (s : Sw α β), i + k < cs.length ∨ k = 0 → D.goX S cs k i s = D.goS (v5p S cs) cs k i s
 | 0, i, s, _ => rfl
 | k + 1, i, s, h => by
  show D.goX S cs k (i + 1) (D.oneS (S (rd cs i) (rd cs (i + 1))) _ _ s) = D.goS (v5p S cs) cs k (i + 1) (D.oneS (v5p S cs (rd cs i)) _ _ s)
  rw [y9t hc (by omega)]
  exact w3r D hc k (i + 1) _ (by omega)
theorem w3s {α β γ : Type} {D : Dim α β} (hD : D.Fair) (hs : ∀ a b, D.same a b = true ↔ a = b) (M : Sem β γ) {S : Int → Int → List β} {cs : List Int} (hc : cs.Pairwise (· < ·)) (hS : ∀ i, i + 1 < cs.length → M.can (S (rd cs i) (rd cs (i + 1)))) :
  (D.sem hD M).can (D.goX S cs (cs.length - 1) 0 ⟨[], [], 0, 0⟩).out ∧ ∀ x q, ptL (D.sem hD M).inB (D.goX S cs (cs.length - 1) 0 ⟨[], [], 0, 0⟩).out (x, q) ↔ ∃ j, j + 1 < cs.length ∧ rd cs j ≤ x ∧ x < rd cs (j + 1) ∧ ptL M.inB (S (rd cs j) (rd cs (j + 1))) q := by
 rw [w3r D hc _ _ _ (by omega)]
 obtain ⟨h1, h2⟩ := Dim.goS_can hD hs M (sec := v5p S cs) hc (fun x => by
  unfold v5p
  by_cases h : ∃ i, i + 1 < cs.length ∧ rd cs i = x
  ·rw [dif_pos h]
   have := hS _ (Classical.choose_spec h).1
   rwa [(Classical.choose_spec h).2] at this
  ·rw [dif_neg h]; exact M.nil)
 refine ⟨h1, fun x q => ?_⟩
 rw [h2]
 constructor
 ·rintro ⟨j, j1, j2, j3, j4⟩
  exact ⟨j, j1, j2, j3, by rw [← y9t (S := S) hc j1]; exact j4⟩
 ·rintro ⟨j, j1, j2, j3, j4⟩
  exact ⟨j, j1, j2, j3, by rw [y9t (S := S) hc j1]; exact j4⟩
end Go.Am
namespace Go.Am
open Go.Proofs Go.Sort Go.Shelf Go.RowKit Go.Lib
def cel (n y : Int) : Int := y / n * n
theorem Uw {n : Int} (hn : 1 ≤ n) (y : Int) : v0u n (cel n y) ∧ cel n y ≤ y ∧ y < cel n y + n := by
 have h1 := Int.mul_ediv_add_emod y n
 have h2 := Int.emod_nonneg y (show n ≠ 0 by omega)
 have h3 := Int.emod_lt_of_pos y (show 0 < n by omega)
 have h4 : cel n y = n * (y / n) := by unfold cel; rw [Int.mul_comm]
 exact ⟨⟨_, rfl⟩, by omega, by omega⟩
theorem x2k {n y : Int} (hn : 1 ≤ n ∧ n ≤ 1000) (hy : -2000000 ≤ y ∧ y ≤ 2000000) : Ym y n = cel n y := by
 obtain ⟨m1, h1, h2⟩ := Ux hn hy
 obtain ⟨m2, h3, h4⟩ := Uw hn.1 y
 have := Jk hn.1 m1 m2 (by omega)
 have := Jk hn.1 m2 m1 (by omega)
 omega
theorem z0b {lo hi : R6 → Int} {n : Int} {L : List R6} (hn : 1 ≤ n ∧ n ≤ 1000) (hb : ∀ r ∈ L, (-900000 ≤ lo r ∧ lo r ≤ 900000) ∧ -900000 ≤ hi r ∧ hi r ≤ 900000) {i : Nat} (hi' : i + 1 < (rnC lo hi n L).length) {y : Int} (h1 : rd (rnC lo hi n L) i ≤ y) (h2 : y < rd (rnC lo hi n L) (i + 1))
  {Q : Int → Prop} (hQ : ∀ y1 y2, (∀ r ∈ L, (lo r ≤ y1 ∧ y1 < hi r) ↔ (lo r ≤ y2 ∧ y2 < hi r)) → (Q y1 → Q y2)) : (∀ t, rd (rnC lo hi n L) i ≤ t → t < rd (rnC lo hi n L) (i + 1) → Q t) ↔ ∀ t, cel n y ≤ t → t < cel n y + n → Q t := by
 obtain ⟨m1, a1, a2⟩ := z1m hn hb (z8c (show i < (rnC lo hi n L).length by omega))
 obtain ⟨m2, b1, b2⟩ := z1m hn hb (z8c hi')
 rw [w6q hn hb hi' h1 h2 hQ, x2k hn (by omega)]
theorem y3a {lo hi : R6 → Int} {L : List R6} {x x' t u v w : Int} (hp : ∀ r : R6, pin r u v w → lo r ≤ t ∧ t < hi r) (h1 : x ≤ t) (h2 : t < x') : inS (crS lo hi L x x') u v w ↔ inS L u v w := by
 constructor
 ·rintro ⟨r, hr, h⟩
  exact ⟨r, (y5h lo hi L x x').subset hr, h⟩
 ·rintro ⟨r, hr, h⟩
  have := hp r h
  exact ⟨r, List.mem_filter.2 ⟨hr, by rw [decide_eq_true (show lo r < x' by omega), decide_eq_true (show x < hi r by omega)]; rfl⟩, h⟩
theorem y8f (L : List R6) (a b e f : Int) (cs : List Int) : ∀ (k i : Nat) (o : List R2), i + k ≤ cs.length → v0l L a b e f cs k i o = x5p cs ((List.range cs.length).map fun i => y3e (crS R6.b R6.e L (rd cs i) (rd cs (i + 1))) a b (rd cs i) (rd cs (i + 1)) e f) k i o
 | 0, i, o, h => rfl
 | k + 1, i, o, h => by
  have e1 : rd ((List.range cs.length).map fun i => y3e (crS R6.b R6.e L (rd cs i) (rd cs (i + 1))) a b (rd cs i) (rd cs (i + 1)) e f) i = y3e (crS R6.b R6.e L (rd cs i) (rd cs (i + 1))) a b (rd cs i) (rd cs (i + 1)) e f := by
   rw [Xq (by simp; omega)]; simp
  unfold v0l
  rw [y8f L a b e f cs k (i + 1) _ (by omega)]
  conv => rhs; unfold x5p
  rw [e1]
  rfl
theorem u0g {L : List R6} (h : Sml L) {n : Int} (hn : 1 ≤ n ∧ n ≤ 1000) {a b e f : Int} (hab : -1000000 ≤ a ∧ a < b ∧ b ≤ 1000000) (hef : -1000000 ≤ e ∧ e < f ∧ f ≤ 1000000) :
  Can (Qw L a b e f n) ∧ ∀ y, pt (Qw L a b e f n) y ↔ ∀ t, cel n y ≤ t → t < cel n y + n → ∀ x z, a ≤ x → x < b → e ≤ z → z < f → inS L x t z := by
 have hc := z1y R6.b R6.e n L
 have hb := h.bb
 unfold Qw
 rw [y8f _ _ _ _ _ _ _ _ _ (by omega)]
 obtain ⟨r1, r2⟩ := z9q (rnC R6.b R6.e n L) ((List.range (rnC R6.b R6.e n L).length).map fun i => y3e (crS R6.b R6.e L (rd (rnC R6.b R6.e n L) i) (rd (rnC R6.b R6.e n L) (i + 1))) a b (rd (rnC R6.b R6.e n L) i) (rd (rnC R6.b R6.e n L) (i + 1)) e f) hc ((rnC R6.b R6.e n L).length - 1) 0 [] (by omega) .nil (by simp)
 refine ⟨r1, fun y => ?_⟩
 rw [r2]
 have full : ∀ j, j + 1 < (rnC R6.b R6.e n L).length → (rd ((List.range (rnC R6.b R6.e n L).length).map fun i => y3e (crS R6.b R6.e L (rd (rnC R6.b R6.e n L) i) (rd (rnC R6.b R6.e n L) (i + 1))) a b (rd (rnC R6.b R6.e n L) i) (rd (rnC R6.b R6.e n L) (i + 1)) e f) j = true ↔ ∀ t, rd (rnC R6.b R6.e n L) j ≤ t → t < rd (rnC R6.b R6.e n L) (j + 1) → ∀ x z, a ≤ x → x < b → e ≤ z → z < f → inS L x t z) := fun j hj => by
  obtain ⟨m1, a1, a2⟩ := z1m hn hb (z8c (show j < (rnC R6.b R6.e n L).length by omega))
  obtain ⟨m2, b1, b2⟩ := z1m hn hb (z8c hj)
  have hlt := z2h hc (Nat.lt_succ_self j) hj
  have hv : Jo ⟨a, rd (rnC R6.b R6.e n L) j, e, b, rd (rnC R6.b R6.e n L) (j + 1), f⟩ = true := by
   have s1 := Uc (Wn a (rd (rnC R6.b R6.e n L) j)) e
   have s2 := Uc a (rd (rnC R6.b R6.e n L) j)
   have s3 := Vi (Xm a (rd (rnC R6.b R6.e n L) j)) e
   have s4 := Vi a (rd (rnC R6.b R6.e n L) j)
   have s5 := Uc (Wn b (rd (rnC R6.b R6.e n L) (j + 1))) f
   have s6 := Uc b (rd (rnC R6.b R6.e n L) (j + 1))
   have s7 := Vi (Xm b (rd (rnC R6.b R6.e n L) (j + 1))) f
   have s8 := Vi b (rd (rnC R6.b R6.e n L) (j + 1))
   unfold Jo
   simp only [Bool.and_eq_true, decide_eq_true_eq]
   refine ⟨by omega, hlt, by omega, by omega, by omega, by omega, by omega⟩
  have e1 : rd ((List.range (rnC R6.b R6.e n L).length).map fun i => y3e (crS R6.b R6.e L (rd (rnC R6.b R6.e n L) i) (rd (rnC R6.b R6.e n L) (i + 1))) a b (rd (rnC R6.b R6.e n L) i) (rd (rnC R6.b R6.e n L) (i + 1)) e f) j = y3e (crS R6.b R6.e L (rd (rnC R6.b R6.e n L) j) (rd (rnC R6.b R6.e n L) (j + 1))) a b (rd (rnC R6.b R6.e n L) j) (rd (rnC R6.b R6.e n L) (j + 1)) e f := by
   rw [Xq (by simp; omega)]; simp
  rw [e1]
  rw [show y3e (crS R6.b R6.e L (rd (rnC R6.b R6.e n L) j) (rd (rnC R6.b R6.e n L) (j + 1))) a b (rd (rnC R6.b R6.e n L) j) (rd (rnC R6.b R6.e n L) (j + 1)) e f = true ↔ _ from v8b (h.sol.sub (y5h R6.b R6.e L _ _)) hv]
  constructor
  ·intro k t t1 t2 x z x1 x2 z1 z2
   exact (y3a (t := t) (fun r hr => hr.2.1) t1 t2).1 (k x t z ⟨⟨x1, x2⟩, ⟨t1, t2⟩, z1, z2⟩)
  ·rintro k x t z ⟨⟨x1, x2⟩, ⟨t1, t2⟩, z1, z2⟩
   exact (y3a (t := t) (fun r hr => hr.2.1) t1 t2).2 (k t t1 t2 x z x1 x2 z1 z2)
 have cst : ∀ y1 y2, (∀ r ∈ L, (R6.b r ≤ y1 ∧ y1 < R6.e r) ↔ (R6.b r ≤ y2 ∧ y2 < R6.e r)) → ((∀ x z, a ≤ x → x < b → e ≤ z → z < f → inS L x y1 z) → ∀ x z, a ≤ x → x < b → e ≤ z → z < f → inS L x y2 z) := fun y1 y2 hh k x z x1 x2 z1 z2 => by
  obtain ⟨r, hr, p1, p2, p3⟩ := k x z x1 x2 z1 z2
  exact ⟨r, hr, p1, (hh r hr).1 p2, p3⟩
 constructor
 ·rintro (⟨s, hs, _⟩ | ⟨j, j1, j2, j3, j4, j5⟩)
  ·cases hs
  ·exact (z0b hn hb (by omega) j4 j5 (Q := fun t => ∀ x z, a ≤ x → x < b → e ≤ z → z < f → inS L x t z) cst).1 ((full j (by omega)).1 j3)
 ·intro k
  right
  obtain ⟨m, c1, c2⟩ := Uw hn.1 y
  obtain ⟨r, hr, p1, p2, p3⟩ := k y c1 c2 a e (Int.le_refl _) hab.2.1 (Int.le_refl _) hef.2.1
  obtain ⟨j, j1, j4, j5⟩ := w1b (lo := R6.b) (hi := R6.e) hn hb hr p2.1 p2.2
  exact ⟨j, Nat.zero_le _, by omega, (full j j1).2 ((z0b hn hb j1 j4 j5 (Q := fun t => ∀ x z, a ≤ x → x < b → e ≤ z → z < f → inS L x t z) cst).2 k), j4, j5⟩
theorem v7n {L : List R6} (h : Sml L) {n : Int} (hn : 1 ≤ n ∧ n ≤ 1000) {a b : Int} (hab : -1000000 ≤ a ∧ a < b ∧ b ≤ 1000000) :
  y6i.can (Qx L a b n) ∧ ∀ x y, ptL y6i.inB (Qx L a b n) (x, y) ↔ ∀ s, cel n x ≤ s → s < cel n x + n → ∀ t, cel n y ≤ t → t < cel n y + n → ∀ z, a ≤ z → z < b → inS L s t z := by
 have hc := z1y R6.a R6.d n L
 have hb := h.ba
 have one : ∀ j, j + 1 < (rnC R6.a R6.d n L).length → Can (v3r L a b n (rd (rnC R6.a R6.d n L) j) (rd (rnC R6.a R6.d n L) (j + 1))) ∧ ∀ y, pt (v3r L a b n (rd (rnC R6.a R6.d n L) j) (rd (rnC R6.a R6.d n L) (j + 1))) y ↔ ∀ s, rd (rnC R6.a R6.d n L) j ≤ s → s < rd (rnC R6.a R6.d n L) (j + 1) → ∀ t, cel n y ≤ t → t < cel n y + n → ∀ z, a ≤ z → z < b → inS L s t z := fun j hj => by
  obtain ⟨m1, a1, a2⟩ := z1m hn hb (z8c (show j < (rnC R6.a R6.d n L).length by omega))
  obtain ⟨m2, b1, b2⟩ := z1m hn hb (z8c hj)
  have hlt : rd (rnC R6.a R6.d n L) j < rd (rnC R6.a R6.d n L) (j + 1) := z2h hc (Nat.lt_succ_self j) hj
  obtain ⟨k1, k2⟩ := u0g (h.sub (y5h R6.a R6.d L (rd (rnC R6.a R6.d n L) j) (rd (rnC R6.a R6.d n L) (j + 1)))) hn (a := rd (rnC R6.a R6.d n L) j) (b := rd (rnC R6.a R6.d n L) (j + 1)) (by omega) hab
  refine ⟨k1, fun y => (k2 y).trans ?_⟩
  constructor
  ·intro k s s1 s2 t t1 t2 z z1 z2
   exact (y3a (t := s) (fun r hr => hr.1) s1 s2).1 (k t t1 t2 s z s1 s2 z1 z2)
  ·intro k t t1 t2 s z s1 s2 z1 z2
   exact (y3a (t := s) (fun r hr => hr.1) s1 s2).2 (k s s1 s2 t t1 t2 z z1 z2)
 obtain ⟨r1, r2⟩ := w3s y5z y6l w5l (S := v3r L a b n) hc fun j hj => (one j hj).1
 refine ⟨r1, fun x y => ?_⟩
 rw [show ptL y6i.inB (Qx L a b n) (x, y) ↔ _ from r2 x y]
 have cst : ∀ y1 y2, (∀ r ∈ L, (R6.a r ≤ y1 ∧ y1 < R6.d r) ↔ (R6.a r ≤ y2 ∧ y2 < R6.d r)) → ((∀ t, cel n y ≤ t → t < cel n y + n → ∀ z, a ≤ z → z < b → inS L y1 t z) → ∀ t, cel n y ≤ t → t < cel n y + n → ∀ z, a ≤ z → z < b → inS L y2 t z) := fun y1 y2 hh k t t1 t2 z z1 z2 => by
  obtain ⟨r, hr, p1, p2⟩ := k t t1 t2 z z1 z2
  exact ⟨r, hr, (hh r hr).1 p1, p2⟩
 constructor
 ·rintro ⟨j, j1, j2, j3, j4⟩
  exact (z0b hn hb j1 j2 j3 (Q := fun s => ∀ t, cel n y ≤ t → t < cel n y + n → ∀ z, a ≤ z → z < b → inS L s t z) cst).1 (((one j j1).2 y).1 j4)
 ·intro k
  obtain ⟨m, c1, c2⟩ := Uw hn.1 x
  obtain ⟨m', d1, d2⟩ := Uw hn.1 y
  obtain ⟨r, hr, p1, p2, p3⟩ := k x c1 c2 y d1 d2 a (Int.le_refl _) hab.2.1
  obtain ⟨j, j1, j4, j5⟩ := w1b (lo := R6.a) (hi := R6.d) hn hb hr p1.1 p1.2
  exact ⟨j, j1, j4, j5, ((one j j1).2 y).2 ((z0b hn hb j1 j4 j5 (Q := fun s => ∀ t, cel n y ≤ t → t < cel n y + n → ∀ z, a ≤ z → z < b → inS L s t z) cst).2 k)⟩
theorem v7u {L : List R6} (h : Sml L) {n : Int} (hn : 1 ≤ n ∧ n ≤ 1000) :
  v1k.can (w5m L n) ∧ ∀ x y z, inS (w5m L n) x y z ↔ ∀ s, cel n x ≤ s → s < cel n x + n → ∀ t, cel n y ≤ t → t < cel n y + n → ∀ u, cel n z ≤ u → u < cel n z + n → inS L s t u := by
 have hc := z1y R6.c R6.f n L
 have hb := h.bc
 have one : ∀ j, j + 1 < (rnC R6.c R6.f n L).length → y6i.can (x5b L n (rd (rnC R6.c R6.f n L) j) (rd (rnC R6.c R6.f n L) (j + 1))) ∧ ∀ x y, ptL y6i.inB (x5b L n (rd (rnC R6.c R6.f n L) j) (rd (rnC R6.c R6.f n L) (j + 1))) (x, y) ↔ ∀ u, rd (rnC R6.c R6.f n L) j ≤ u → u < rd (rnC R6.c R6.f n L) (j + 1) → ∀ s, cel n x ≤ s → s < cel n x + n → ∀ t, cel n y ≤ t → t < cel n y + n → inS L s t u := fun j hj => by
  obtain ⟨m1, a1, a2⟩ := z1m hn hb (z8c (show j < (rnC R6.c R6.f n L).length by omega))
  obtain ⟨m2, b1, b2⟩ := z1m hn hb (z8c hj)
  have hlt : rd (rnC R6.c R6.f n L) j < rd (rnC R6.c R6.f n L) (j + 1) := z2h hc (Nat.lt_succ_self j) hj
  obtain ⟨k1, k2⟩ := v7n (h.sub (y5h R6.c R6.f L (rd (rnC R6.c R6.f n L) j) (rd (rnC R6.c R6.f n L) (j + 1)))) hn (a := rd (rnC R6.c R6.f n L) j) (b := rd (rnC R6.c R6.f n L) (j + 1)) (by omega)
  refine ⟨k1, fun x y => (k2 x y).trans ?_⟩
  constructor
  ·intro k u u1 u2 s s1 s2 t t1 t2
   exact (y3a (t := u) (fun r hr => hr.2.2) u1 u2).1 (k s s1 s2 t t1 t2 u u1 u2)
  ·intro k s s1 s2 t t1 t2 u u1 u2
   exact (y3a (t := u) (fun r hr => hr.2.2) u1 u2).2 (k u u1 u2 s s1 s2 t t1 t2)
 obtain ⟨r1, r2⟩ := w3s y5y y6k y6i (S := x5b L n) hc fun j hj => (one j hj).1
 refine ⟨r1, fun x y z => ?_⟩
 rw [x1p, show ptL v1k.inB (w5m L n) (z, x, y) ↔ _ from r2 z (x, y)]
 have cst : ∀ y1 y2, (∀ r ∈ L, (R6.c r ≤ y1 ∧ y1 < R6.f r) ↔ (R6.c r ≤ y2 ∧ y2 < R6.f r)) → ((∀ s, cel n x ≤ s → s < cel n x + n → ∀ t, cel n y ≤ t → t < cel n y + n → inS L s t y1) → ∀ s, cel n x ≤ s → s < cel n x + n → ∀ t, cel n y ≤ t → t < cel n y + n → inS L s t y2) := fun y1 y2 hh k s s1 s2 t t1 t2 => by
  obtain ⟨r, hr, p1, p2, p3⟩ := k s s1 s2 t t1 t2
  exact ⟨r, hr, p1, p2, (hh r hr).1 p3⟩
 constructor
 ·rintro ⟨j, j1, j2, j3, j4⟩
  have k := (z0b hn hb j1 j2 j3 (Q := fun u => ∀ s, cel n x ≤ s → s < cel n x + n → ∀ t, cel n y ≤ t → t < cel n y + n → inS L s t u) cst).1 (((one j j1).2 x y).1 j4)
  exact fun s s1 s2 t t1 t2 u u1 u2 => k u u1 u2 s s1 s2 t t1 t2
 ·intro k
  obtain ⟨m, c1, c2⟩ := Uw hn.1 x
  obtain ⟨m', d1, d2⟩ := Uw hn.1 y
  obtain ⟨m'', e1, e2⟩ := Uw hn.1 z
  obtain ⟨r, hr, p1, p2, p3⟩ := k x c1 c2 y d1 d2 z e1 e2
  obtain ⟨j, j1, j4, j5⟩ := w1b (lo := R6.c) (hi := R6.f) hn hb hr p3.1 p3.2
  exact ⟨j, j1, j4, j5, ((one j j1).2 x y).2 ((z0b hn hb j1 j4 j5 (Q := fun u => ∀ s, cel n x ≤ s → s < cel n x + n → ∀ t, cel n y ≤ t → t < cel n y + n → inS L s t u) cst).2 fun u u1 u2 s s1 s2 t t1 t2 => k s s1 s2 t t1 t2 u u1 u2)⟩
theorem v7c {L : List R6} (h : Sml L) {n : Int} (hn : 1 ≤ n ∧ n ≤ 1000) (x y z : Int) : inS (L.map (oB n)) x y z ↔ ∃ s t u, (cel n x ≤ s ∧ s < cel n x + n) ∧ (cel n y ≤ t ∧ t < cel n y + n) ∧ (cel n z ≤ u ∧ u < cel n z + n) ∧ inS L s t u := by
 have lo1 : ∀ a d t : Int, (-900000 ≤ a ∧ a ≤ 900000) → (-900000 ≤ d ∧ d ≤ 900000) → a < d → ((Ym a n ≤ t ∧ t < upV d n) ↔ ∃ s, (cel n t ≤ s ∧ s < cel n t + n) ∧ a ≤ s ∧ s < d) := fun a d t ha hd had => by
  obtain ⟨m1, a1, a2⟩ := Ux (x := a) hn (by omega)
  obtain ⟨m3, d1, d2⟩ := z3s (x := d) hn (by omega)
  obtain ⟨m, c1, c2⟩ := Uw hn.1 t
  constructor
  ·intro hh
   have ht : -1000000 ≤ t ∧ t ≤ 1000000 := by omega
   have k := (out1 hn ha hd ht).1 hh
   rw [x2k hn (by omega)] at k
   by_cases q : a ≤ cel n t
   ·exact ⟨cel n t, by omega, by omega⟩
   ·exact ⟨a, by omega, by omega⟩
  ·rintro ⟨s, s1, s2, s3⟩
   have ht : -1000000 ≤ t ∧ t ≤ 1000000 := by omega
   refine (out1 hn ha hd ht).2 ?_
   rw [x2k hn (by omega)]
   omega
 constructor
 ·rintro ⟨r, hr, p1, p2, p3⟩
  obtain ⟨q, hq, rfl⟩ := List.mem_map.1 hr
  have v := Wu (h.sol.val q hq)
  obtain ⟨s, s1, s2⟩ := (lo1 q.a q.d x (h.ba q hq).1 (h.ba q hq).2 v.1).1 p1
  obtain ⟨t, t1, t2⟩ := (lo1 q.b q.e y (h.bb q hq).1 (h.bb q hq).2 v.2.1).1 p2
  obtain ⟨u, u1, u2⟩ := (lo1 q.c q.f z (h.bc q hq).1 (h.bc q hq).2 v.2.2.1).1 p3
  exact ⟨s, t, u, s1, t1, u1, q, hq, s2, t2, u2⟩
 ·rintro ⟨s, t, u, s1, t1, u1, q, hq, s2, t2, u2⟩
  have v := Wu (h.sol.val q hq)
  exact ⟨oB n q, List.mem_map_of_mem hq, (lo1 q.a q.d x (h.ba q hq).1 (h.ba q hq).2 v.1).2 ⟨s, s1, s2⟩, (lo1 q.b q.e y (h.bb q hq).1 (h.bb q hq).2 v.2.1).2 ⟨t, t1, t2⟩, (lo1 q.c q.f z (h.bc q hq).1 (h.bc q hq).2 v.2.2.1).2 ⟨u, u1, u2⟩⟩
end Go.Am
namespace Go.Am
open Go.Proofs
end Go.Am
namespace Go.Am
open Go.Proofs Go.Sort Go.Shelf Go.RowKit Go.Lib
theorem x5i {L : List R6} (h : x9e L = true) : L.length ≤ 6 ∧ Yc L = 0 ∧ ∀ r ∈ L, Jo r = true := by
 simp only [x9e, Bool.and_eq_true, decide_eq_true_eq] at h
 have hk := w0g (eq_of_beq h.2.2)
 exact ⟨by omega, hk, (Qm hk).2.1⟩
end Go.Am
namespace Go.Am
open Go.Proofs Go.Sort Go.Shelf Go.RowKit Go.Lib
theorem u0k {a : Int} (h : (a != 0) = false) : a = 0 := by simpa using h
theorem out_ok {L : List R6} {n : Int} (h : Ub L n = 0) : Yc L = 0 ∧ (1 ≤ n ∧ n ≤ 1000) ∧ Yd L n = Kc (L.map (oB n)) ∧ Uh (L.map (oB n)) = 0 := by
 unfold Ub at h
 rcases Yy (Yc L != 0) with a | a
 ·rw [a, cond_true] at h; rw [h] at a; cases a
 rw [a, cond_false] at h
 rcases Yy (decide (n < 1)) with b | b
 ·rw [b] at h; cases h
 rcases Yy (decide (n > 1000)) with c | c
 ·rw [b, c] at h; cases h
 rw [b, c, Bool.or_false, cond_false] at h
 rcases Yy (L.all (oOk n)) with d | d
 ·rw [d, cond_true] at h
  have hb := of_decide_eq_false b
  have hc := of_decide_eq_false c
  refine ⟨u0k a, by omega, ?_, h⟩
  unfold Yd v7d
  rw [u0k a, b, c, d]; rfl
 ·rw [d] at h; cases h
theorem inn_ok {L : List R6} {n : Int} (h : Vg L n = 0) : Yc L = 0 ∧ (1 ≤ n ∧ n ≤ 1000) ∧ Wx L n = w5m L n ∧ (w5m L n).length ≤ 400 := by
 have h0 := h
 unfold Vg at h
 rcases Yy (Yc L != 0) with a | a
 ·rw [a, cond_true] at h; rw [h] at a; cases a
 rw [a, cond_false] at h
 rcases Yy (decide (n < 1)) with b | b
 ·rw [b] at h; cases h
 rcases Yy (decide (n > 1000)) with c | c
 ·rw [b, c] at h; cases h
 rw [b, c, Bool.or_false, cond_false] at h
 rcases Yy (okX (x5b L n) (rnC R6.c R6.f n L) ((rnC R6.c R6.f n L).length - 1) 0) with d | d
 ·rw [d, cond_true] at h
  have hb := of_decide_eq_false b
  have hc := of_decide_eq_false c
  refine ⟨u0k a, by omega, ?_, y1m h⟩
  unfold Wx w9j
  rw [h0]; rfl
 ·rw [d] at h; cases h
def tou (L : List R6) (n x y z : Int) : Prop := ∃ s t u, (cel n x ≤ s ∧ s < cel n x + n) ∧ (cel n y ≤ t ∧ t < cel n y + n) ∧ (cel n z ≤ u ∧ u < cel n z + n) ∧ inS L s t u
def wit (L : List R6) (n x y z : Int) : Prop := ∀ s, cel n x ≤ s → s < cel n x + n → ∀ t, cel n y ≤ t → t < cel n y + n → ∀ u, cel n z ≤ u → u < cel n z + n → inS L s t u
theorem w2h {L : List R6} {n : Int} (h : Ub L n = 0) (hr : ∀ r ∈ L, nrR r) : v1k.can (Yd L n) ∧ (Yd L n).length ≤ 400 ∧ ∀ x y z, inS (Yd L n) x y z ↔ tou L n x y z := by
 obtain ⟨h1, h2, h3, h4⟩ := out_ok h
 obtain ⟨k1, k2⟩ := v5i h4
 rw [h3]
 exact ⟨k1, by rw [y9p h4]; exact (x3t h4).2.2.2, fun x y z => (k2 x y z).trans (v7c ⟨Sol.of h1, hr⟩ h2 x y z)⟩
theorem w3m {L : List R6} {n : Int} (h : Vg L n = 0) (hr : ∀ r ∈ L, nrR r) : v1k.can (Wx L n) ∧ (Wx L n).length ≤ 400 ∧ ∀ x y z, inS (Wx L n) x y z ↔ wit L n x y z := by
 obtain ⟨h1, h2, h3, h4⟩ := inn_ok h
 rw [h3]
 obtain ⟨k1, k2⟩ := v7u ⟨Sol.of h1, hr⟩ h2
 exact ⟨k1, h4, k2⟩
theorem w2p {L : List R6} (h : x9e L = true) : ∀ r ∈ L, (-12 ≤ r.a ∧ r.d ≤ 12) ∧ (-12 ≤ r.b ∧ r.e ≤ 12) ∧ -12 ≤ r.c ∧ r.f ≤ 12 := fun r hr => by
 have hl := (x5i h).1
 simp only [x9e, Bool.and_eq_true] at h
 have hn := h.2.1
 unfold x1c at hn
 rw [Xw (by omega), cond_false, Bool.and_eq_true] at hn
 have q := List.all_eq_true.1 hn.1 r hr
 unfold w7r at q
 simp only [Bool.and_eq_true, Bool.not_eq_true', decide_eq_false_iff_not] at q
 have s1 := Uc (Wn r.a r.b) r.c
 have s2 := Uc r.a r.b
 have s3 := Vi (Xm r.d r.e) r.f
 have s4 := Vi r.d r.e
 omega
theorem x5j {L : List R6} (h : x9e L = true) : ∀ r ∈ L, nrR r := fun r hr => by
 have := w2p h r hr
 unfold nrR; omega
end Go.Am
namespace Go.Am
section
variable {P : Program} {w : World} {base : Nat}
theorem v0o {u : TypeId} {k : IntKind} {v : Value} (hu : P.underlying u = some (.int k)) (h : Cell.okWide P w .any base u v) : ∃ n, v = .int k n ∧ k.has n = true := by
 simp only [Cell.okWide, hu] at h
 cases v <;> simp_all [Cell.ok]
theorem x4b : ∀ (us : List TypeId) (ks : List IntKind) (cs : List Value), cs.length = us.length → us.map P.underlying = ks.map (fun k => some (.int k)) →
  (∀ (i : Nat) (v : Value), cs[i]? = some v → ∃ u, us[i]? = some u ∧ Cell.okWide P w .any base u v) →
  ∃ ns : List Int, ns.length = ks.length ∧ cs = List.zipWith Value.int ks ns ∧ ∀ p ∈ List.zip ks ns, p.1.has p.2 = true
 | [], [], [], _, _, _ => ⟨[], rfl, rfl, fun p hp => by cases hp⟩
 | u :: us, k :: ks, c :: cs, hl, hk, h => by
  simp only [List.map_cons, List.cons.injEq] at hk
  obtain ⟨u', hu', hc⟩ := h 0 c rfl
  obtain rfl : u = u' := Option.some.inj hu'
  obtain ⟨n, rfl, hn⟩ := v0o hk.1 hc
  obtain ⟨ns, h1, h2, h3⟩ := x4b us ks cs (by simpa using hl) hk.2 fun i v hi => h (i + 1) v hi
  refine ⟨n :: ns, by simp [h1], by rw [h2]; rfl, fun p hp => ?_⟩
  rw [List.zip_cons_cons, List.mem_cons] at hp
  rcases hp with rfl | hp
  ·exact hn
  ·exact h3 p hp
 | [], _ :: _, _, _, hk, _ => by simp at hk
 | _ :: _, [], _, _, hk, _ => by simp at hk
 | _ :: _, _ :: _, [], hl, _, _ => by simp at hl
 | [], [], _ :: _, hl, _, _ => by simp at hl
def aggT (P : Program) (t : TypeId) : Bool := match P.underlying t with | some (.struct _) | some (.array _ _) => true | _ => false
theorem open_agg_ints {t : TypeId} {us : List TypeId} {ks : List IntKind} {v : Value} (hs : aggT P t = true) (hc : P.cellTypes P.depth t = some us) (hn : P.cellsOf t = us.length)
  (hk : us.map P.underlying = ks.map (fun k => some (.int k))) (hv : Value.okWide P w .any base t v) :
  ∃ ns : List Int, ns.length = ks.length ∧ v = .agg (List.zipWith Value.int ks ns).toArray ∧ ∀ p ∈ List.zip ks ns, p.1.has p.2 = true := by
 have h : ∃ cs, v = .agg cs ∧ cs.size = P.cellsOf t ∧ Row.okWide P w .any base t cs := by
  unfold Value.okWide at hv
  unfold aggT at hs
  split at hv
  ·exact hv
  ·exact hv
  ·rename_i h1 h2
   split at hs
   ·rename_i fs h; exact absurd h (h1 fs)
   ·rename_i a b h; exact absurd h (h2 a b)
   ·cases hs
 obtain ⟨cs, rfl, hsz, ts, hts, _, hrow⟩ := h
 obtain rfl : us = ts := Option.some.inj (hc.symm.trans hts)
 have hl : cs.toList.length = us.length := by simpa using hsz.trans hn
 obtain ⟨ns, h1, h2, h3⟩ := x4b us ks cs.toList hl hk fun i v hi => by
  have hi' : cs[i]? = some v := by simpa using hi
  obtain ⟨u, hu, hc⟩ := hrow i v hi'
  have hlt : i < us.length := by
   have := (Array.getElem?_eq_some_iff.mp hi').1
   simpa [← hl] using this
  rw [Nat.mod_eq_of_lt hlt] at hu
  exact ⟨u, hu, hc⟩
 exact ⟨ns, h1, by rw [← h2], h3⟩
theorem vrel_ints {ρ : Rho} (ks : List IntKind) (ns : List Int) : VRel ρ (.agg (List.zipWith AVal.int ks ns)) (.agg (List.zipWith Value.int ks ns).toArray) := by
 refine .agg _ _ (by simp) fun i h1 h2 => ?_
 simp only [List.getElem_zipWith, List.getElem_toArray]
 exact .int _ _
end
end Go.Am
namespace Go.Am
open Go.Proofs Go.Sort Go.Shelf Go.RowKit Go.Lib
theorem x2a {n x : Int} (hn : 1 ≤ n ∧ n ≤ 1000) (hx : -2000000 ≤ x ∧ x ≤ 2000000) : z5m x n = cel n x := by
 have h1 : n * Int.tdiv x n + Int.tmod x n = x := Int.mul_tdiv_add_tmod x n
 have h2 : Int.tdiv x n * n = x - Int.tmod x n := by rw [Int.mul_comm]; omega
 have h3 : -n < Int.tmod x n ∧ Int.tmod x n < n := ⟨by have := Int.lt_tmod_of_pos x (show 0 < n by omega); omega, Int.tmod_lt_of_pos x (by omega)⟩
 have h5 : (Int.tdiv x n - 1) * n = x - Int.tmod x n - n := by rw [Int.sub_mul, Int.one_mul, h2]
 obtain ⟨m2, c1, c2⟩ := Uw hn.1 x
 unfold z5m
 by_cases h : Int.tmod x n < 0
 ·rw [Zo h, cond_true, Zj (n := Int.tmod x n + n) (by omega), Zj (by omega)]
  have m1 : v0u n (x - (Int.tmod x n + n)) := ⟨Int.tdiv x n - 1, by omega⟩
  have := Jk hn.1 m1 m2 (by omega)
  have := Jk hn.1 m2 m1 (by omega)
  omega
 ·rw [Zt h, cond_false, Zj (by omega)]
  have m1 : v0u n (x - Int.tmod x n) := ⟨Int.tdiv x n, by omega⟩
  have := Jk hn.1 m1 m2 (by omega)
  have := Jk hn.1 m2 m1 (by omega)
  omega
theorem pa1_cg {r B : R6} : Cg (pa1 r B) (ov B r) := by
 rw [v7a]
 have e1 := Uc r.d B.d
 have e2 := Vi r.a B.a
 have e3 := Uc r.e B.e
 have e4 := Vi r.b B.b
 have e5 := Uc r.f B.f
 have e6 := Vi r.c B.c
 unfold pa1
 by_cases h1 : Xm r.a B.a ≥ Wn r.d B.d
 ·rw [x2p h1, cond_true, show ov r B = 0 by
   unfold ov
   rw [show ovl r.a r.d B.a B.d = 0 by unfold ovl; omega, Int.zero_mul, Int.zero_mul]]
  exact Cg.refl 0
 ·rw [u0b h1, cond_false]
  by_cases h2 : Xm r.b B.b ≥ Wn r.e B.e
  ·rw [x2p h2, cond_true, show ov r B = 0 by
    unfold ov
    rw [show ovl r.b r.e B.b B.e = 0 by unfold ovl; omega, Int.mul_zero, Int.zero_mul]]
   exact Cg.refl 0
  ·rw [u0b h2, cond_false]
   by_cases h3 : Xm r.c B.c ≥ Wn r.f B.f
   ·rw [x2p h3, cond_true, show ov r B = 0 by
     unfold ov
     rw [show ovl r.c r.f B.c B.f = 0 by unfold ovl; omega, Int.mul_zero]]
    exact Cg.refl 0
   ·rw [u0b h3, cond_false]
    unfold ov
    rw [show ovl r.a r.d B.a B.d = Wn r.d B.d - Xm r.a B.a by unfold ovl; omega, show ovl r.b r.e B.b B.e = Wn r.e B.e - Xm r.b B.b by unfold ovl; omega, show ovl r.c r.f B.c B.f = Wn r.f B.f - Xm r.c B.c by unfold ovl; omega]
    exact ((Cg.mul (Cg.wrap _) (Cg.wrap _)).w.mul (Cg.wrap _)).w
theorem v2t {B : R6} : ∀ (L : List R6) (s s' : Int), Cg s s' → Cg (paF B L s) (s' + sm L fun r => ov B r)
 | [], s, s', h => by rw [z1x, Int.add_zero]; exact h
 | r :: L, s, s', h => by
  have := v2t (B := B) L _ _ (h.add (pa1_cg (r := r) (B := B))).w
  rw [Wd, ← Int.add_assoc]
  exact this
theorem v2s {B : R6} : ∀ (L : List R6) (s : Int), (-9223372036854775808 ≤ s ∧ s ≤ 9223372036854775807) → -9223372036854775808 ≤ paF B L s ∧ paF B L s ≤ 9223372036854775807
 | [], s, h => h
 | r :: L, s, _ => v2s L _ (y3t _)
theorem par_eq {L : List R6} (hL : Sol L) {B : R6} (hB : Jo B = true) : parV L B.a B.b B.c B.d B.e B.f = S2 [B] L := by
 have hb := bx_le hB
 have hm := w5h (z0w hB) hL
 rw [Wd, z1x, Int.add_zero] at hm
 have hnn : 0 ≤ S2 [B] L := y2b _ _
 have hc := v2t (B := B) L 0 0 (Cg.refl 0)
 rw [Int.zero_add, show (sm L fun r => ov B r) = S2 [B] L by unfold S2; rw [Wd, z1x, Int.add_zero]] at hc
 exact hc.is (v2s L 0 (by omega)) (by omega)
theorem y4r {B : R6} {x y z : Int} : inS [B] x y z ↔ pin B x y z := ⟨fun ⟨r, hr, h⟩ => by rw [List.mem_singleton.1 hr] at h; exact h, fun h => ⟨B, List.mem_singleton_self _, h⟩⟩
theorem y3y {L : List R6} {x y z : Int} : w0f L x y z = true ↔ inS L x y z := by
 unfold w0f
 rw [List.any_eq_true]
 constructor
 ·rintro ⟨r, hr, h⟩
  simp only [shR, Bool.and_eq_true, decide_eq_true_eq] at h
  exact ⟨r, hr, by omega, by omega, by omega⟩
 ·rintro ⟨r, hr, p1, p2, p3⟩
  refine ⟨r, hr, ?_⟩
  simp only [shR, Bool.and_eq_true, decide_eq_true_eq]
  exact ⟨p1.1, p1.2, p2.1, p2.2, p3.1, p3.2⟩
theorem x2z (n : Nat) : x8s n = 0 ∨ x8s n = 4 := by
 unfold x8s
 cases decide ((n : Int) > 400)
 ·exact .inl rfl
 ·exact .inr rfl
theorem slm_04 {M : List R6} (hl : M.length ≤ 400) (hv : ∀ r ∈ M, Jo r = true) : Uh M = 0 ∨ Uh M = 4 := by
 have one : ∀ x, Wp (D6.inn M x) = 0 ∨ Wp (D6.inn M x) = 4 := fun x => by
  have h1 := D6.inn_length M x
  unfold Wp
  rw [decide_eq_false (by omega), List.all_eq_true.2 (u0l hv x), cond_false, cond_true]
  exact x2z _
 have all : ∀ k i, eF M k i = 0 ∨ eF M k i = 4 := fun k => by
  induction k with
  | zero => exact fun _ => .inl rfl
  | succ k ih =>
   intro i
   unfold eF
   cases x9h M (rd (D6.cuts M) i)
   ·exact ih (i + 1)
   ·exact one _
 unfold Uh
 rw [decide_eq_false (by omega), List.all_eq_true.2 hv, cond_false, cond_true]
 cases okF M ((D6.cuts M).length - 1) 0
 ·exact all _ _
 ·exact x2z _
theorem out_04 {L : List R6} (hf : x9e L = true) {n : Int} (hn : 1 ≤ n ∧ n ≤ 1000) : Ub L n = 0 ∨ Ub L n = 4 := by
 obtain ⟨f1, f2, f3⟩ := x5i hf
 have ob : ∀ r ∈ L, (-100000 ≤ (oB n r).a ∧ (oB n r).d ≤ 100000 ∧ (oB n r).a < (oB n r).d) ∧ (-100000 ≤ (oB n r).b ∧ (oB n r).e ≤ 100000 ∧ (oB n r).b < (oB n r).e) ∧ -100000 ≤ (oB n r).c ∧ (oB n r).f ≤ 100000 ∧ (oB n r).c < (oB n r).f := fun r hr => by
  have h1 := w2p hf r hr
  obtain ⟨v1, v2, v3, _⟩ := Wu (f3 r hr)
  have one : ∀ a d : Int, -12 ≤ a → d ≤ 12 → a < d → -100000 ≤ Ym a n ∧ upV d n ≤ 100000 ∧ Ym a n < upV d n := fun a d h1 h2 h3 => by
   obtain ⟨_, q1, q2⟩ := Ux (x := a) hn (by omega)
   obtain ⟨_, q3, q4⟩ := z3s (x := d) hn (by omega)
   omega
  exact ⟨one _ _ h1.1.1 h1.1.2 v1, one _ _ h1.2.1.1 h1.2.1.2 v2, one _ _ h1.2.2.1 h1.2.2.2 v3⟩
 have ho : L.all (oOk n) = true := List.all_eq_true.2 fun r hr => by
  obtain ⟨h1, h2, h3⟩ := ob r hr
  simp only [oB] at h1 h2 h3
  have s1 := Uc (Wn (Ym r.a n) (Ym r.b n)) (Ym r.c n)
  have s2 := Uc (Ym r.a n) (Ym r.b n)
  have s3 := Vi (Xm (upV r.d n) (upV r.e n)) (upV r.f n)
  have s4 := Vi (upV r.d n) (upV r.e n)
  unfold oOk
  rw [decide_eq_false (by omega), decide_eq_false (by omega)]; rfl
 unfold Ub
 rw [f2, decide_eq_false (by omega), decide_eq_false (by omega), ho]
 refine slm_04 (by rw [List.length_map]; omega) fun q hq => ?_
 obtain ⟨r, hr, rfl⟩ := List.mem_map.1 hq
 obtain ⟨h1, h2, h3⟩ := ob r hr
 have s1 := Uc (Wn (oB n r).a (oB n r).b) (oB n r).c
 have s2 := Uc (oB n r).a (oB n r).b
 have s3 := Vi (Xm (oB n r).a (oB n r).b) (oB n r).c
 have s4 := Vi (oB n r).a (oB n r).b
 have s5 := Uc (Wn (oB n r).d (oB n r).e) (oB n r).f
 have s6 := Uc (oB n r).d (oB n r).e
 have s7 := Vi (Xm (oB n r).d (oB n r).e) (oB n r).f
 have s8 := Vi (oB n r).d (oB n r).e
 unfold Jo
 simp only [Bool.and_eq_true, decide_eq_true_eq]
 refine ⟨by omega, by omega, by omega, by omega, by omega, by omega, by omega⟩
theorem inn_04 {L : List R6} (hf : x9e L = true) {n : Int} (hn : 1 ≤ n ∧ n ≤ 1000) : Vg L n = 0 ∨ Vg L n = 4 := by
 unfold Vg
 rw [(x5i hf).2.1, decide_eq_false (by omega), decide_eq_false (by omega)]
 cases okX (x5b L n) (rnC R6.c R6.f n L) ((rnC R6.c R6.f n L).length - 1) 0
 ·exact .inr rfl
 ·exact x2z _
theorem dpt_run (L : List R6) (n x y z : Int) : ∃ N, Yx (x2n L n x y z) N (z9o L n x y z) = .ret [.bool true] := ⟨0, by
 unfold z9o
 simp only [Zb, show ∀ l, z5n l = true from fun _ => rfl, show ∀ l n, z2d l n = true from fun _ _ => rfl, show ∀ l n, z2j l n = true from fun _ _ => rfl, cond_true]
 rcases (Yy (x9e L)).symm with f | f
 ·rw [f]; rfl
 rcases Yy (decide (n < 1)) with c1 | c1
 ·rw [f, c1]; rfl
 rcases Yy (decide (n > 40)) with c2 | c2
 ·rw [f, c1, c2]; rfl
 rcases (Yy (decide (x ≥ -100))).symm with c3 | c3
 ·rw [f, c1, c2, c3]; rfl
 rcases (Yy (decide (y ≥ -100))).symm with c4 | c4
 ·rw [f, c1, c2, c3, c4]; rfl
 rcases (Yy (decide (z ≥ -100))).symm with c5 | c5
 ·rw [f, c1, c2, c3, c4, c5]; rfl
 rcases (Yy (decide (x ≤ 1000000))).symm with c6 | c6
 ·rw [f, c1, c2, c3, c4, c5, c6]; rfl
 rcases (Yy (decide (y ≤ 1000000))).symm with c7 | c7
 ·rw [f, c1, c2, c3, c4, c5, c6, c7]; rfl
 rcases (Yy (decide (z ≤ 1000000))).symm with c8 | c8
 ·rw [f, c1, c2, c3, c4, c5, c6, c7, c8]; rfl
 rcases Yy (decide (Xm (Xm x y) z > 100)) with c9 | c9
 ·rw [f, c1, c2, c3, c4, c5, c6, c7, c8, c9]; rfl
 have hn : 1 ≤ n ∧ n ≤ 40 := by
  have := of_decide_eq_false c1
  have := of_decide_eq_false c2
  omega
 have hn' : 1 ≤ n ∧ n ≤ 1000 := by omega
 have hx : (-100 ≤ x ∧ x ≤ 100) ∧ (-100 ≤ y ∧ y ≤ 100) ∧ -100 ≤ z ∧ z ≤ 100 := by
  have := of_decide_eq_true c3
  have := of_decide_eq_true c4
  have := of_decide_eq_true c5
  have := of_decide_eq_false c9
  have := Vi (Xm x y) z
  have := Vi x y
  omega
 obtain ⟨f1, f2, f3⟩ := x5i f
 have hs := Sol.of f2
 obtain ⟨_, a1, a2⟩ := Uw hn.1 x
 obtain ⟨_, b1, b2⟩ := Uw hn.1 y
 obtain ⟨_, g1, g2⟩ := Uw hn.1 z
 have w1 : IntKind.wrap .i64 (cel n x + n) = cel n x + n := Zj (by omega)
 have w2 : IntKind.wrap .i64 (cel n y + n) = cel n y + n := Zj (by omega)
 have w3 : IntKind.wrap .i64 (cel n z + n) = cel n z + n := Zj (by omega)
 have hq1 : n * n ≤ 40 * 40 := Int.mul_le_mul (by omega) (by omega) (by omega) (by omega)
 have hq0 : 0 ≤ n * n := Int.mul_nonneg (by omega) (by omega)
 have hq2 : n * n * n ≤ 40 * 40 * 40 := Int.mul_le_mul hq1 (by omega) (by omega) (by omega)
 have hq3 : 0 ≤ n * n * n := Int.mul_nonneg hq0 (by omega)
 have w4 : IntKind.wrap .i64 (IntKind.wrap .i64 (n * n) * n) = n * n * n := by rw [Zj (n := n * n) (by omega), Zj (by omega)]
 have of : ∀ t, Kn t n = true := fun t => by unfold Kn; rw [decide_eq_false (by omega)]; rfl
 have op : ∀ a b c d e g, z5a L a b c d e g = true := fun _ _ _ _ _ _ => decide_eq_true (by omega)
 have hB : Jo ⟨cel n x, cel n y, cel n z, cel n x + n, cel n y + n, cel n z + n⟩ = true := by
  have s1 := Uc (Wn (cel n x) (cel n y)) (cel n z)
  have s2 := Uc (cel n x) (cel n y)
  have s3 := Vi (Xm (cel n x) (cel n y)) (cel n z)
  have s4 := Vi (cel n x) (cel n y)
  have s5 := Uc (Wn (cel n x + n) (cel n y + n)) (cel n z + n)
  have s6 := Uc (cel n x + n) (cel n y + n)
  have s7 := Vi (Xm (cel n x + n) (cel n y + n)) (cel n z + n)
  have s8 := Vi (cel n x + n) (cel n y + n)
  unfold Jo
  simp only [Bool.and_eq_true, decide_eq_true_eq]
  refine ⟨by omega, by omega, by omega, by omega, by omega, by omega, by omega⟩
 have hp := par_eq hs hB
 simp only at hp
 have hbx : bxV ⟨cel n x, cel n y, cel n z, cel n x + n, cel n y + n, cel n z + n⟩ = n * n * n := by
  unfold bxV
  simp only
  rw [show cel n x + n - cel n x = n by omega, show cel n y + n - cel n y = n by omega, show cel n z + n - cel n z = n by omega]
 obtain ⟨p, hpp⟩ := y7c
 have hvol : v0y [⟨cel n x, cel n y, cel n z, cel n x + n, cel n y + n, cel n z + n⟩] = n * n * n := by
  rw [y9a hpp (z0w hB), ← x3q hpp (z0w hB), Wd, z1x, Int.add_zero, hbx]
 have hnn : 0 ≤ S2 [⟨cel n x, cel n y, cel n z, cel n x + n, cel n y + n, cel n z + n⟩] L := y2b _ _
 have k1 : Ub L n = 0 → w0f (Yd L n) x y z = decide (S2 [⟨cel n x, cel n y, cel n z, cel n x + n, cel n y + n, cel n z + n⟩] L > 0) := fun h => by
  have hm := (w2h h (x5j f)).2.2 x y z
  have hno := u0t (z0w hB) hs
  by_cases q : tou L n x y z
  ·rw [y3y.2 (hm.2 q)]
   refine (decide_eq_true ?_).symm
   refine Classical.byContradiction fun hh => ?_
   obtain ⟨s, t, u, hs1, ht1, hu1, hin⟩ := q
   exact hno.1 (by omega) s t u ⟨y4r.2 ⟨hs1, ht1, hu1⟩, hin⟩
  ·rw [show w0f (Yd L n) x y z = false from Bool.eq_false_iff.2 fun hh => q (hm.1 (y3y.1 hh))]
   refine (decide_eq_false ?_).symm
   have := hno.2 fun s t u ⟨h1, h2⟩ => q (by
    obtain ⟨q1, q2, q3⟩ := y4r.1 h1
    exact ⟨s, t, u, q1, q2, q3, h2⟩)
   omega
 have k2 : Vg L n = 0 → w0f (Wx L n) x y z = (S2 [⟨cel n x, cel n y, cel n z, cel n x + n, cel n y + n, cel n z + n⟩] L == n * n * n) := fun h => by
  have hm := (w3m h (x5j f)).2.2 x y z
  have hal := v4q (z0w hB) hs
  rw [hvol] at hal
  by_cases q : wit L n x y z
  ·rw [y3y.2 (hm.2 q)]
   refine (v4l ?_).symm
   exact hal.2 fun s t u hh => by
    obtain ⟨q1, q2, q3⟩ := y4r.1 hh
    exact q s q1.1 q1.2 t q2.1 q2.2 u q3.1 q3.2
  ·rw [show w0f (Wx L n) x y z = false from Bool.eq_false_iff.2 fun hh => q (hm.1 (y3y.1 hh))]
   refine (v4m fun hh => q ?_).symm
   have := hal.1 hh
   exact fun s s1 s2 t t1 t2 u u1 u2 => this s t u (y4r.2 ⟨⟨s1, s2⟩, ⟨t1, t2⟩, u1, u2⟩)
 have l1 : Ub L n = 0 → Kd (Yd L n) x y z = true := fun h => decide_eq_true (by have := (w2h h (x5j f)).2.1; omega)
 have l2 : Vg L n = 0 → Kd (Wx L n) x y z = true := fun h => decide_eq_true (by have := (w3m h (x5j f)).2.1; omega)
 rw [f, c1, c2, c3, c4, c5, c6, c7, c8, c9, x2a hn' (by omega), x2a hn' (by omega), x2a hn' (by omega), w1, w2, w3, w4, of, of, of, op, hp]
 simp only [Bool.not_true, cond_true, cond_false]
 rcases out_04 f hn' with o | o <;> rcases inn_04 f hn' with i | i
 ·rw [l1 o, l2 i, k1 o, k2 i, o, i]
  simp only [beq_self_eq_true, Bool.not_true, cond_true, cond_false]; rfl
 ·rw [l1 o, k1 o, o, i]
  simp only [beq_self_eq_true, Bool.not_true, cond_true, cond_false]; rfl
 ·rw [l2 i, k2 i, o, i]
  simp only [beq_self_eq_true, Bool.not_true, cond_true, cond_false]; rfl
 ·rw [o, i]; rfl⟩
end Go.Am
end
