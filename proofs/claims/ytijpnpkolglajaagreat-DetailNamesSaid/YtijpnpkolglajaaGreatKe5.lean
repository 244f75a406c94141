/- A part of a proof: several texts in one. -/
import Derived.Test.YtijpnpkolglajaaGreatKe4
set_option maxRecDepth 1000000
set_option maxHeartbeats 8000000
set_option linter.unusedVariables false
set_option linter.unusedSimpArgs false
noncomputable section
namespace Go.Am
open Go.Proofs.Tryz
open Go.Proofs
inductive innS where
 | h0 (v14 : Int) (aA : List Int)
 | h1 (v5 : Int) (aC : List R6) (bF : List R4) (aE : Int) (aK : Int) (aT : Nat) (aN : List Int)
 | h2 (v5 : Int) (v6 : List R6) (v19 : Int) (aC : List R6) (bF : List R4) (aE : Int) (aK : Int) (aT : Nat) (aN : List Int)
 | h3 (v70 : List R4) (v71 : Int) (v72 : Int) (bV : Int) (aL : Int) (aI : Int) (bO : List R6) (aC : List R6) (aE : Int) (cB : Nat) (cC : List Int)
 | h4 (v14 : Int) (bV : Int) (aL : Int) (aI : Int) (bO : List R6) (aC : List R6) (aE : List R4) (aK : Int) (dN : Int) (cM : Nat) (cV : List Int)
def innC (l0 : List R6) (x1 : Int) : innS → Cfg
 | .h0 v14 aA => ⟨⟨45, 0, true⟩, none, (Zg prog 80 [1, 1, 0, 1, 0, 0] 0), none, (Zy prog 4), ⟨Yj [(2, (ii x1)), (3, (.ptr 0 0)), (4, (.ptr 1 0)), (7, (.ptr 2 0)), (12, (.dat l0.length (Zz l0))), (13, (ii (l0.length : Int))), (14, (ii v14))], Vf [⟨[(.dat l0.length (Zz l0))], 22, none⟩, ⟨[(ii 2)], 3, none⟩, ⟨[(.sla 10 1 0 aA.length (.un 1))], 47, none⟩, ⟨[(ii x1)], 3, none⟩, ⟨[.nils], 30, none⟩, ⟨[(ii 0)], 24, none⟩, ⟨[.nils], 30, none⟩, ⟨[.nils], 106, none⟩, ⟨[(ii 0)], 3, none⟩, ⟨[(ii 0)], 3, none⟩, ⟨rows aA.length (Zz aA), 3, some ⟨1, aA.length, (Zz aA)⟩⟩] 0, 11, [], true⟩, [⟨⟨99, 0, true⟩, (Vv prog 36 [1, 1, 1, 1, 1, 0, 0] 2), (Zg prog 36 [1, 1, 1, 1, 1, 0, 0] 1), none, (Zy prog 36), Yj [(3, (.ptr 3 0)), (4, (.ptr 4 0)), (5, (.ptr 5 0)), (7, (.ptr 6 0)), (8, (.ptr 7 0)), (9, (.ptr 8 0)), (10, (.ptr 9 0)), (23, (.dat l0.length (Zz l0))), (24, (ii x1))]⟩], .leaf⟩
 | .h1 v5 aC bF aE aK aT aN => ⟨⟨63, 0, true⟩, none, (Zg prog 121 [1, 0, 0] 0), none, [], ⟨Yj [(0, (.yld 0)), (1, (.ptr 8 0)), (2, (.ptr 10 0)), (3, (.ptr 11 0)), (5, (ii v5))], z4r [(1, ⟨[(ii x1)], 3, none⟩), (2, ⟨[.nils], 30, none⟩), (3, ⟨[(ii 0)], 24, none⟩), (4, ⟨[(.sla 12 6 0 aC.length (.un 6))], 30, none⟩), (5, ⟨[(.dat bF.length (Zz bF))], 106, none⟩), (6, ⟨[(ii aE)], 3, none⟩), (7, ⟨[(ii aK)], 3, none⟩), (8, ⟨[(.sla 9 1 0 aT (.un 1))], 47, none⟩), (9, ⟨rows aN.length (Zz aN), 3, some ⟨1, aN.length, (Zz aN)⟩⟩), (10, ⟨[(.dat l0.length (Zz l0))], 22, none⟩), (11, ⟨[(ii 2)], 3, none⟩), (12, ⟨rows aC.length (Zz aC), 68, some ⟨6, aC.length, (Zz aC)⟩⟩)], 13, [], true⟩, [⟨⟨99, 0, true⟩, none, (.inRangeFunc 0 :: (Zg prog 36 [1, 1, 1, 1, 1, 0, 1, 0] 1)), none, (Zy prog 36), Yj [(4, (.ptr 2 0)), (5, (.ptr 3 0)), (7, (.ptr 4 0))]⟩], (z4t [(0, ⟨.ready, none, 99, Yj [(3, (.ptr 1 0)), (4, (.ptr 2 0)), (5, (.ptr 3 0)), (7, (.ptr 4 0)), (8, (.ptr 5 0)), (9, (.ptr 6 0)), (10, (.ptr 7 0))], [26, 27], (Xn prog 36 [1, 1, 1, 1, 1, 0, 1, 0, 0]), (Xn prog 36 [1, 1, 1, 1, 1, 0, 1, 0, 1])⟩)])⟩
 | .h2 v5 v6 v19 aC bF aE aK aT aN => ⟨⟨63, 0, true⟩, none, (Zg prog 121 [1, 0, 0, 1, 0, 0, 1, 0, 1, 0, 0] 0), none, [], ⟨Yj [(0, (.yld 0)), (1, (.ptr 8 0)), (2, (.ptr 10 0)), (3, (.ptr 11 0)), (5, (ii v5)), (6, (.sla 12 6 0 v6.length (.un 6))), (17, (.dat l0.length (Zz l0))), (18, (ii (l0.length : Int))), (19, (ii v19))], z4r [(1, ⟨[(ii x1)], 3, none⟩), (2, ⟨[.nils], 30, none⟩), (3, ⟨[(ii 0)], 24, none⟩), (4, ⟨[(.sla 13 6 0 aC.length (.un 6))], 30, none⟩), (5, ⟨[(.dat bF.length (Zz bF))], 106, none⟩), (6, ⟨[(ii aE)], 3, none⟩), (7, ⟨[(ii aK)], 3, none⟩), (8, ⟨[(.sla 9 1 0 aT (.un 1))], 47, none⟩), (9, ⟨rows aN.length (Zz aN), 3, some ⟨1, aN.length, (Zz aN)⟩⟩), (10, ⟨[(.dat l0.length (Zz l0))], 22, none⟩), (11, ⟨[(ii 2)], 3, none⟩), (12, ⟨rows v6.length (Zz v6), 68, some ⟨6, v6.length, (Zz v6)⟩⟩), (13, ⟨rows aC.length (Zz aC), 68, some ⟨6, aC.length, (Zz aC)⟩⟩)], 14, [], true⟩, [⟨⟨99, 0, true⟩, none, (.inRangeFunc 0 :: (Zg prog 36 [1, 1, 1, 1, 1, 0, 1, 0] 1)), none, (Zy prog 36), Yj [(4, (.ptr 2 0)), (5, (.ptr 3 0)), (7, (.ptr 4 0))]⟩], (z4t [(0, ⟨.ready, none, 99, Yj [(3, (.ptr 1 0)), (4, (.ptr 2 0)), (5, (.ptr 3 0)), (7, (.ptr 4 0)), (8, (.ptr 5 0)), (9, (.ptr 6 0)), (10, (.ptr 7 0))], [26, 27], (Xn prog 36 [1, 1, 1, 1, 1, 0, 1, 0, 0]), (Xn prog 36 [1, 1, 1, 1, 1, 0, 1, 0, 1])⟩)])⟩
 | .h3 v70 v71 v72 bV aL aI bO aC aE cB cC => ⟨⟨99, 0, true⟩, none, (Zg prog 36 [1, 1, 1, 1, 1, 0, 1, 0, 1, 0, 1, 1, 1, 1, 1, 0, 0] 0), (some 0), [], ⟨Yj [(7, (.ptr 4 0)), (11, (.ptr 8 0)), (70, (.dat v70.length (Zz v70))), (71, (ii v71)), (72, (ii v72))], z4r [(1, ⟨[(ii x1)], 3, none⟩), (2, ⟨[.nils], 30, none⟩), (3, ⟨[(ii 0)], 24, none⟩), (4, ⟨[(.sla 13 6 0 aC.length (.un 6))], 30, none⟩), (5, ⟨[(.dat v70.length (Zz v70))], 106, none⟩), (6, ⟨[(ii aE)], 3, none⟩), (7, ⟨[(ii aI)], 3, none⟩), (8, ⟨[(ii aL), (ii aI)], 110, none⟩), (9, ⟨[(.sla 10 1 0 cB (.un 1))], 47, none⟩), (10, ⟨rows cC.length (Zz cC), 3, some ⟨1, cC.length, (Zz cC)⟩⟩), (11, ⟨[(.dat l0.length (Zz l0))], 22, none⟩), (12, ⟨[(ii 2)], 3, none⟩), (13, ⟨rows aC.length (Zz aC), 68, some ⟨6, aC.length, (Zz aC)⟩⟩)], 14, [], true⟩, [⟨⟨63, 0, true⟩, (Vv prog 121 [1, 0, 0, 1, 0, 0, 1, 1, 0] 12), (Zg prog 121 [1, 0, 0, 1, 0, 0, 1, 1, 0] 1), none, [], Yj [(0, (.yld 0)), (1, (.ptr 9 0)), (2, (.ptr 11 0)), (3, (.ptr 12 0)), (5, (ii bV)), (49, (.yld 0)), (59, (.agg [(ii aL), (ii aI)])), (60, (.dat bO.length (Zz bO)))]⟩, ⟨⟨99, 0, true⟩, none, (.inRangeFunc 0 :: (Zg prog 36 [1, 1, 1, 1, 1, 0, 1, 0] 1)), none, (Zy prog 36), Yj [(4, (.ptr 2 0)), (5, (.ptr 3 0)), (7, (.ptr 4 0))]⟩], (z4t [(0, ⟨.busy, none, 99, Yj [(3, (.ptr 1 0)), (4, (.ptr 2 0)), (5, (.ptr 3 0)), (7, (.ptr 4 0)), (8, (.ptr 5 0)), (9, (.ptr 6 0)), (10, (.ptr 7 0))], [26, 27], (Xn prog 36 [1, 1, 1, 1, 1, 0, 1, 0, 0]), (Xn prog 36 [1, 1, 1, 1, 1, 0, 1, 0, 1])⟩)])⟩
 | .h4 v14 bV aL aI bO aC aE aK dN cM cV => ⟨⟨99, 0, true⟩, none, (Zg prog 36 [1, 1, 1, 1, 1, 0, 1, 0, 1, 0, 1, 1, 0, 1, 0, 0, 1, 0, 0] 0), (some 0), [], ⟨Yj [(7, (.ptr 4 0)), (10, (.ptr 8 0)), (11, (.ptr 9 0)), (14, (ii v14))], z4r [(1, ⟨[(ii x1)], 3, none⟩), (2, ⟨[.nils], 30, none⟩), (3, ⟨[(ii 0)], 24, none⟩), (4, ⟨[(.sla 5 6 0 aC.length (.un 6))], 30, none⟩), (5, ⟨rows aC.length (Zz aC), 68, some ⟨6, aC.length, (Zz aC)⟩⟩), (6, ⟨[(.dat aE.length (Zz aE))], 106, none⟩), (7, ⟨[(ii aK)], 3, none⟩), (8, ⟨[(ii dN)], 3, none⟩), (9, ⟨[(ii aL), (ii aI)], 110, none⟩), (10, ⟨[(.sla 11 1 0 cM (.un 1))], 47, none⟩), (11, ⟨rows cV.length (Zz cV), 3, some ⟨1, cV.length, (Zz cV)⟩⟩), (12, ⟨[(.dat l0.length (Zz l0))], 22, none⟩), (13, ⟨[(ii 2)], 3, none⟩)], 14, [], true⟩, [⟨⟨63, 0, true⟩, (Vv prog 121 [1, 0, 0, 1, 0, 0, 1, 1, 0] 12), (Zg prog 121 [1, 0, 0, 1, 0, 0, 1, 1, 0] 1), none, [], Yj [(0, (.yld 0)), (1, (.ptr 10 0)), (2, (.ptr 12 0)), (3, (.ptr 13 0)), (5, (ii bV)), (49, (.yld 0)), (59, (.agg [(ii aL), (ii aI)])), (60, (.dat bO.length (Zz bO)))]⟩, ⟨⟨99, 0, true⟩, none, (.inRangeFunc 0 :: (Zg prog 36 [1, 1, 1, 1, 1, 0, 1, 0] 1)), none, (Zy prog 36), Yj [(4, (.ptr 2 0)), (5, (.ptr 3 0)), (7, (.ptr 4 0))]⟩], (z4t [(0, ⟨.busy, none, 99, Yj [(3, (.ptr 1 0)), (4, (.ptr 2 0)), (5, (.ptr 3 0)), (7, (.ptr 4 0)), (8, (.ptr 6 0)), (9, (.ptr 7 0)), (10, (.ptr 8 0))], [26, 27], (Xn prog 36 [1, 1, 1, 1, 1, 0, 1, 0, 0]), (Xn prog 36 [1, 1, 1, 1, 1, 0, 1, 0, 1])⟩)])⟩
def innN0 : List (Option (List Nat)) := [some [2, 3, 4, 7, 12, 13, 14], some [3, 4, 5, 7, 8, 9, 10, 23, 24]]
def innM0 : List (Option (List Nat)) := []
def v3i : List (Option (List Nat)) := [some [0, 1, 2, 3, 5], some [4, 5, 7]]
def v3j : List (Option (List Nat)) := [some [3, 4, 5, 7, 8, 9, 10], none, none, none, none, none, none, none, none, none, none, none, none]
def w4v : List (Option (List Nat)) := [some [0, 1, 2, 3, 5, 6, 17, 18, 19], some [4, 5, 7]]
def w4x : List (Option (List Nat)) := [some [3, 4, 5, 7, 8, 9, 10], none, none, none, none, none, none, none, none, none, none, none, none, none]
def w4u : List (Option (List Nat)) := [some [7, 11, 70, 71, 72], some [0, 1, 2, 3, 5, 49, 59, 60], some [4, 5, 7]]
def w4w : List (Option (List Nat)) := [some [3, 4, 5, 7, 8, 9, 10], none, none, none, none, none, none, none, none, none, none, none, none, none]
def innN4 : List (Option (List Nat)) := [some [7, 10, 11, 14], some [0, 1, 2, 3, 5, 49, 59, 60], some [4, 5, 7]]
def innM4 : List (Option (List Nat)) := [some [3, 4, 5, 7, 8, 9, 10], none, none, none, none, none, none, none, none, none, none, none, none, none]
def Xm (l0 : List R6) (x1 : Int) : innS → Xd innS
 | .h0 v14 aA => (bif (decide (v14 < (l0.length : Int))) then (bif ((decide (0 ≤ v14 ∧ v14 < (l0.length : Int))) && true) then (bif (Xj (rd l0 v14.toNat).c x1) then (bif (Xj (IntKind.wrap .i64 (0 - (rd l0 v14.toNat).c)) x1) then (bif (Xj (rd l0 v14.toNat).f x1) then (bif (Xj (IntKind.wrap .i64 (0 - (rd l0 v14.toNat).f)) x1) then (bif (Nat.beq 1 1 && ((decide (0 + aA.length = aA.length)) && decide ((aA.length + 4 + 1) * (8 + 1) ≤ Jb))) then (.to (.h0 (IntKind.wrap .i64 (v14 + 1)) (aA ++ [(Ye (rd l0 v14.toNat).c x1), (IntKind.wrap .i64 (0 - (Ye (IntKind.wrap .i64 (0 - (rd l0 v14.toNat).c)) x1))), (Ye (rd l0 v14.toNat).f x1), (IntKind.wrap .i64 (0 - (Ye (IntKind.wrap .i64 (0 - (rd l0 v14.toNat).f)) x1)))]))) else .stuck) else .stuck) else .stuck) else .stuck) else .stuck) else .stuck) else (bif (decide (aA.length < 4611686018427387904)) then (bif (decide (aA.length = aA.length)) then (.to (.h1 1 ([] : List R6) ([] : List R4) 0 0 (w6q (Za aA.length (cOf (Zz (Yo (Za aA.length (cOf (Zz aA)))))))) (Xv (Za aA.length (cOf (Zz (Yo (Za aA.length (cOf (Zz aA)))))))))) else .stuck) else .stuck))
 | .h1 v5 aC bF aE aK aT aN => (bif (decide (v5 < ((aT : Nat) : Int))) then (.to (.h2 v5 ([] : List R6) 0 aC bF aE aK aT aN)) else (bif (decide ((aC.length : Int) > 400)) then (.ret [.nils, (.int .i64 4)]) else (.ret [(.dat aC.length (Zz aC)), (.int .i64 0)])))
 | .h2 v5 v6 v19 aC bF aE aK aT aN => (bif (decide (v19 < (l0.length : Int))) then (bif ((decide (0 ≤ v19 ∧ v19 < (l0.length : Int))) && true) then (bif ((decide (0 ≤ v5 ∧ v5 < ((aT : Nat) : Int))) && true) then (bif (decide ((0 + v5.toNat) < aN.length)) then (bif (decide ((rd l0 v19.toNat).c < (rd aN (0 + v5.toNat)))) then (bif ((decide (0 ≤ (IntKind.wrap .i64 (v5 - 1)) ∧ (IntKind.wrap .i64 (v5 - 1)) < ((aT : Nat) : Int))) && true) then (bif (decide ((0 + (Int.toNat (IntKind.wrap .i64 (v5 - 1)))) < aN.length)) then (bif (decide ((rd aN (0 + (Int.toNat (IntKind.wrap .i64 (v5 - 1))))) < (rd l0 v19.toNat).f)) then (bif (Nat.beq 6 6 && ((decide (0 + v6.length = v6.length)) && decide ((v6.length + 1 + 1) * (48 + 1) ≤ Jb))) then (.to (.h2 v5 (v6 ++ [(R6.mk (rd l0 v19.toNat).a (rd l0 v19.toNat).b (rd l0 v19.toNat).c (rd l0 v19.toNat).d (rd l0 v19.toNat).e (rd l0 v19.toNat).f)]) (IntKind.wrap .i64 (v19 + 1)) aC bF aE aK aT aN)) else .stuck) else (.to (.h2 v5 v6 (IntKind.wrap .i64 (v19 + 1)) aC bF aE aK aT aN))) else .stuck) else .stuck) else (.to (.h2 v5 v6 (IntKind.wrap .i64 (v19 + 1)) aC bF aE aK aT aN))) else .stuck) else .stuck) else .stuck) else (bif ((decide (0 ≤ (IntKind.wrap .i64 (v5 - 1)) ∧ (IntKind.wrap .i64 (v5 - 1)) < ((aT : Nat) : Int))) && true) then (bif (decide ((0 + (Int.toNat (IntKind.wrap .i64 (v5 - 1)))) < aN.length)) then (bif ((decide (0 ≤ v5 ∧ v5 < ((aT : Nat) : Int))) && true) then (bif (decide ((0 + v5.toNat) < aN.length)) then (bif (z0c (cvT v6) (rd aN (0 + (Int.toNat (IntKind.wrap .i64 (v5 - 1))))) (rd aN (0 + v5.toNat)) x1) then (bif (decide ((((Qh (cvT v6) (rd aN (0 + (Int.toNat (IntKind.wrap .i64 (v5 - 1))))) (rd aN (0 + v5.toNat)) x1).length : Nat) : Int) > 400)) then (.ret [.nils, (.int .i64 4)]) else (bif (decide ((((Qh (cvT v6) (rd aN (0 + (Int.toNat (IntKind.wrap .i64 (v5 - 1))))) (rd aN (0 + v5.toNat)) x1).length : Nat) : Int) > 0)) then (bif (aK == (rd aN (0 + (Int.toNat (IntKind.wrap .i64 (v5 - 1)))))) then (bif (Wc (cvT bF) (cvT (Qh (cvT v6) (rd aN (0 + (Int.toNat (IntKind.wrap .i64 (v5 - 1))))) (rd aN (0 + v5.toNat)) x1))) then (bif (Ua (cvT bF) (cvT (Qh (cvT v6) (rd aN (0 + (Int.toNat (IntKind.wrap .i64 (v5 - 1))))) (rd aN (0 + v5.toNat)) x1))) then (.to (.h4 aE v5 (rd aN (0 + (Int.toNat (IntKind.wrap .i64 (v5 - 1))))) (rd aN (0 + v5.toNat)) v6 aC bF aE aK aT aN)) else (.to (.h3 (Qh (cvT v6) (rd aN (0 + (Int.toNat (IntKind.wrap .i64 (v5 - 1))))) (rd aN (0 + v5.toNat)) x1) (((Qh (cvT v6) (rd aN (0 + (Int.toNat (IntKind.wrap .i64 (v5 - 1))))) (rd aN (0 + v5.toNat)) x1).length : Nat) : Int) 0 v5 (rd aN (0 + (Int.toNat (IntKind.wrap .i64 (v5 - 1))))) (rd aN (0 + v5.toNat)) v6 aC (aC.length : Int) aT aN))) else .stuck) else (.to (.h3 (Qh (cvT v6) (rd aN (0 + (Int.toNat (IntKind.wrap .i64 (v5 - 1))))) (rd aN (0 + v5.toNat)) x1) (((Qh (cvT v6) (rd aN (0 + (Int.toNat (IntKind.wrap .i64 (v5 - 1))))) (rd aN (0 + v5.toNat)) x1).length : Nat) : Int) 0 v5 (rd aN (0 + (Int.toNat (IntKind.wrap .i64 (v5 - 1))))) (rd aN (0 + v5.toNat)) v6 aC (aC.length : Int) aT aN))) else (.to (.h3 (Qh (cvT v6) (rd aN (0 + (Int.toNat (IntKind.wrap .i64 (v5 - 1))))) (rd aN (0 + v5.toNat)) x1) (((Qh (cvT v6) (rd aN (0 + (Int.toNat (IntKind.wrap .i64 (v5 - 1))))) (rd aN (0 + v5.toNat)) x1).length : Nat) : Int) 0 v5 (rd aN (0 + (Int.toNat (IntKind.wrap .i64 (v5 - 1))))) (rd aN (0 + v5.toNat)) v6 aC (aC.length : Int) aT aN)))) else .stuck) else .stuck) else .stuck) else .stuck) else .stuck))
 | .h3 v70 v71 v72 bV aL aI bO aC aE cB cC => (bif (decide (v72 < v71)) then (bif ((decide (0 ≤ v72 ∧ v72 < (v70.length : Int))) && true) then (bif (Nat.beq 6 6 && ((decide (0 + aC.length = aC.length)) && decide ((aC.length + 1 + 1) * (48 + 1) ≤ Jb))) then (.to (.h3 v70 v71 (IntKind.wrap .i64 (v72 + 1)) bV aL aI bO (aC ++ [(R6.mk (rd v70 v72.toNat).a (rd v70 v72.toNat).b aL (rd v70 v72.toNat).c (rd v70 v72.toNat).d aI)]) aE cB cC)) else .stuck) else .stuck) else (.to (.h1 (IntKind.wrap .i64 (bV + 1)) aC v70 aE aI cB cC)))
 | .h4 v14 bV aL aI bO aC aE aK dN cM cV => (bif (decide (v14 < (aC.length : Int))) then (bif ((decide (0 ≤ v14 ∧ v14 < (aC.length : Int))) && true) then (bif (decide ((0 + v14.toNat) < aC.length)) then (.to (.h4 (IntKind.wrap .i64 (v14 + 1)) bV aL aI bO (aC.set (0 + v14.toNat) (R6.mk (rd aC (0 + v14.toNat)).a (rd aC (0 + v14.toNat)).b (rd aC (0 + v14.toNat)).c (rd aC (0 + v14.toNat)).d (rd aC (0 + v14.toNat)).e aI)) aE aK dN cM cV)) else .stuck) else .stuck) else (.to (.h1 (IntKind.wrap .i64 (bV + 1)) aC aE aK aI cM cV)))
def z8k (l0 : List R6) (x1 : Int) : Xd innS := (bif (Vj (cvT l0)) then (bif ((Zr (cvT l0)) != 0) then (.ret [.nils, (.int .i64 (Zr (cvT l0)))]) else (bif (decide (x1 < 1)) then (.ret [.nils, (.int .i64 2)]) else (bif (decide (x1 > 1000)) then (.ret [.nils, (.int .i64 2)]) else (.to (.h0 0 ([] : List Int)))))) else .stuck)
theorem x5c (l0 : List R6) (x1 : Int) : ∀ s, Wj prog (Zy prog 36) (innC l0 x1) (innC l0 x1 s) (Xm l0 x1 s)
 | .h0 v14 aA => (lb (fun k0 => (lo fun o0 => (lo fun o1 => (lo fun o2 => (lo fun o3 => (lo fun o4 => (lo fun o5 => (sl Kr 45 [] ⟨[0, 1, 2, 3, 4, 5, 6, 7, 8, 9, 16], [], innN0, innM0⟩ ⟨[], [.keep, .keep, .cells [.len (aA ++ [(Ye (rd l0 (tn v14)).c x1), (wr (0 - (Ye (wr (0 - (rd l0 (tn v14)).c)) x1))), (Ye (rd l0 (tn v14)).f x1), (wr (0 - (Ye (wr (0 - (rd l0 (tn v14)).f)) x1)))]).length], .keep, .keep, .keep, .keep, .keep, .keep, .keep, .rowed 1 (aA ++ [(Ye (rd l0 (tn v14)).c x1), (wr (0 - (Ye (wr (0 - (rd l0 (tn v14)).c)) x1))), (Ye (rd l0 (tn v14)).f x1), (wr (0 - (Ye (wr (0 - (rd l0 (tn v14)).f)) x1)))]).length (Zz (aA ++ [(Ye (rd l0 (tn v14)).c x1), (wr (0 - (Ye (wr (0 - (rd l0 (tn v14)).c)) x1))), (Ye (rd l0 (tn v14)).f x1), (wr (0 - (Ye (wr (0 - (rd l0 (tn v14)).f)) x1)))]))], []⟩ (trs 3 [false, true, true, false]) (pp (xL (aA.length + 4) (aA ++ [(Ye (rd l0 (tn v14)).c x1), (wr (0 - (Ye (wr (0 - (rd l0 (tn v14)).c)) x1))), (Ye (rd l0 (tn v14)).f x1), (wr (0 - (Ye (wr (0 - (rd l0 (tn v14)).f)) x1)))]).length) (pp (xL (aA.length + 4) (aA ++ [(Ye (rd l0 (tn v14)).c x1), (wr (0 - (Ye (wr (0 - (rd l0 (tn v14)).c)) x1))), (Ye (rd l0 (tn v14)).f x1), (wr (0 - (Ye (wr (0 - (rd l0 (tn v14)).f)) x1)))]).length) (pp (xS (aA.length + 4) (Ze (Zz aA) 0 aA.length 1 [(ii (Ye (rd l0 (tn v14)).c x1)), (ii (wr (0 - (Ye (wr (0 - (rd l0 (tn v14)).c)) x1)))), (ii (Ye (rd l0 (tn v14)).f x1)), (ii (wr (0 - (Ye (wr (0 - (rd l0 (tn v14)).f)) x1))))]) (Zz (aA ++ [(Ye (rd l0 (tn v14)).c x1), (wr (0 - (Ye (wr (0 - (rd l0 (tn v14)).c)) x1))), (Ye (rd l0 (tn v14)).f x1), (wr (0 - (Ye (wr (0 - (rd l0 (tn v14)).f)) x1)))]))) (pp (pp (xF (Ze (Zz aA) 0 aA.length 1 [(ii (Ye (rd l0 (tn v14)).c x1)), (ii (wr (0 - (Ye (wr (0 - (rd l0 (tn v14)).c)) x1)))), (ii (Ye (rd l0 (tn v14)).f x1)), (ii (wr (0 - (Ye (wr (0 - (rd l0 (tn v14)).f)) x1))))])) nn) (ww o5 (ww o4 (ww o3 (ww o2 (ww o1 (ww o0 (tt k0 nn))))))))))))))))))) (fun k0 => (lo fun o0 => (lo fun o1 => (sl Kr 33 [(68, 6, Zz ([] : List R6))] ⟨[11, 3, 4, 5, 6, 7, 8, 9, 2, 10, 0, 1, 12], [], v3i, v3j⟩ ⟨[], (kpB 4 [.cells [.grow 12 6], .cells [.list 0 (Zz ([] : List R4))], .keep, .keep, .keep, .rowed 1 (Xv (Za aA.length (cOf (Zz (Yo (Za aA.length (cOf (Zz aA)))))))).length (Zz (Xv (Za aA.length (cOf (Zz (Yo (Za aA.length (cOf (Zz aA))))))))), .keep, .keep, .keep]), []⟩ [false] (pp (xL aA.length (Xv (Za aA.length (cOf (Zz (Yo (Za aA.length (cOf (Zz aA)))))))).length (by first | exact z0b _ _ | exact Uv rfl)) (pp (xS aA.length (Zz (Xv (Za aA.length (cOf (Zz (Yo (Za aA.length (cOf (Zz aA))))))))) (Zz (Xv (Za aA.length (cOf (Zz (Yo (Za aA.length (cOf (Zz aA)))))))))) (pp (fl (Xv (Za aA.length (cOf (Zz (Yo (Za aA.length (cOf (Zz aA)))))))) (fl ([] : List R6) nn)) (pp (pp (xG (Nat.beq 1 1)) (pp (xG (Nat.beq 1 1)) (pp (xG (Nat.beq 0 0)) (pp (xG (decide (aA.length = aA.length))) (pp (xG (isI (Zz (Yo (Za aA.length (cOf (Zz aA))))))) (xG (decide (aA.length < 4611686018427387904)))))))) (pp (pp (xG (Nat.beq 1 1)) (pp (xG (Nat.beq 1 1)) (pp (xG (Nat.beq 0 0)) (pp (xG (decide (aA.length = aA.length))) (pp (xG (isI (Zz aA))) (xG (decide (aA.length < 4611686018427387904)))))))) (tt k0 nn)))))))))))
 | .h1 v5 aC bF aE aK aT aN => (lb (fun k0 => (sl Kr 25 [(68, 6, Zz ([] : List R6))] ⟨[0, 1, 2, 3, 4, 5, 6, 7, 8, 9, 10, 11, 13, 12], [], w4v, w4x⟩ ⟨[(6, .grow 12 6)], [], []⟩ [true] (pp (fl aN (fl ([] : List R6) (fl aC nn))) (tt k0 nn)))) (fun k0 => (lb (fun k1 => (z0v ⟨⟨99, 0, true⟩, none, (Zg prog 36 [1, 1, 1, 1, 1, 1, 0, 1, 0, 0] 1), none, (Zy prog 36), ⟨Yj [(4, (.ptr 0 0)), (5, (.ptr 1 0))], Vf [⟨[.nils], 30, none⟩, ⟨[(ii 4)], 24, none⟩] 0, 2, [], true⟩, [], .leaf⟩ (sl Kr 26 [] ⟨[2, 3], [], [some [4, 5]], []⟩ ⟨[], [], []⟩ [false, true] (tt k1 (tt k0 nn))) rfl (by kernel_rfl))) (fun k1 => (z0v ⟨⟨99, 0, true⟩, none, (Zg prog 3 [1, 1, 1, 1, 1, 1, 0] 1), none, (Zy prog 36), ⟨Yj [(4, (.ptr 0 0)), (5, (.ptr 1 0))], Vf [⟨[(.dat aC.length (Zz aC))], 30, none⟩, ⟨[(ii 0)], 24, none⟩] 0, 2, [], true⟩, [], .leaf⟩ (sl Kr 28 [] ⟨[2, 3], [12], [some [4, 5]], []⟩ ⟨[], [.cells [.frz aC.length aC.length (Zz aC) (Zz aC)], .keep], []⟩ [false, false] (pp (xZ (z4w 6 6 0 aC.length aC.length (Zz aC)) aC.length (Zz aC)) (pp (xL aC.length aC.length) (pp (xS aC.length (Zz aC) (Zz aC)) (pp (fl aC nn) (tt k1 (tt k0 nn))))))) rfl (by kernel_rfl))))))
 | .h2 v5 v6 v19 aC bF aE aK aT aN => (lb (fun k0 => (lo fun aH => (lo fun bG => (lo fun cF => (lb (fun k1 => (lo fun cL => (lo fun dK => (lb (fun k2 => (lo fun o0 => (sl Kr 70 [] ⟨[0, 1, 2, 3, 4, 5, 6, 7, 8, 9, 10, 11, 19, 13], [], w4v, w4x⟩ ⟨[(6, .len (v6 ++ [(R6.mk (rd l0 (tn v19)).a (rd l0 (tn v19)).b (rd l0 (tn v19)).c (rd l0 (tn v19)).d (rd l0 (tn v19)).e (rd l0 (tn v19)).f)]).length)], (kpB 12 [.rowed 6 (v6 ++ [(R6.mk (rd l0 (tn v19)).a (rd l0 (tn v19)).b (rd l0 (tn v19)).c (rd l0 (tn v19)).d (rd l0 (tn v19)).e (rd l0 (tn v19)).f)]).length (Zz (v6 ++ [(R6.mk (rd l0 (tn v19)).a (rd l0 (tn v19)).b (rd l0 (tn v19)).c (rd l0 (tn v19)).d (rd l0 (tn v19)).e (rd l0 (tn v19)).f)])), .keep]), []⟩ (trs 3 [false, true, true, false, true, true, true, true, true, true, true, true]) (pp (xL (v6.length + 1) (v6 ++ [(R6.mk (rd l0 (tn v19)).a (rd l0 (tn v19)).b (rd l0 (tn v19)).c (rd l0 (tn v19)).d (rd l0 (tn v19)).e (rd l0 (tn v19)).f)]).length) (pp (xL (v6.length + 1) (v6 ++ [(R6.mk (rd l0 (tn v19)).a (rd l0 (tn v19)).b (rd l0 (tn v19)).c (rd l0 (tn v19)).d (rd l0 (tn v19)).e (rd l0 (tn v19)).f)]).length) (pp (xS (v6.length + 1) (Ze (Zz v6) 0 v6.length 6 [(ii (rd l0 (tn v19)).a), (ii (rd l0 (tn v19)).b), (ii (rd l0 (tn v19)).c), (ii (rd l0 (tn v19)).d), (ii (rd l0 (tn v19)).e), (ii (rd l0 (tn v19)).f)]) (Zz (v6 ++ [(R6.mk (rd l0 (tn v19)).a (rd l0 (tn v19)).b (rd l0 (tn v19)).c (rd l0 (tn v19)).d (rd l0 (tn v19)).e (rd l0 (tn v19)).f)]))) (pp (fl aN (pp (xF (Ze (Zz v6) 0 v6.length 6 [(ii (rd l0 (tn v19)).a), (ii (rd l0 (tn v19)).b), (ii (rd l0 (tn v19)).c), (ii (rd l0 (tn v19)).d), (ii (rd l0 (tn v19)).e), (ii (rd l0 (tn v19)).f)])) (fl aC nn))) (ww o0 (tt k2 (ww dK (ww cL (tt k1 (ww cF (ww bG (ww aH (tt k0 nn)))))))))))))))) (fun k2 => (sl Kr 64 [] ⟨(List.range 14), [], w4v, w4x⟩ ⟨[], [], []⟩ (trs 3 [false, true, true, false, true, true, true, true, true, true, true, false]) (pp (fl aN (fl v6 (fl aC nn))) (tt k2 (ww dK (ww cL (tt k1 (ww cF (ww bG (ww aH (tt k0 nn))))))))))))))) (fun k1 => (sl Kr 64 [] ⟨(List.range 14), [], w4v, w4x⟩ ⟨[], [], []⟩ (trs 3 [false, true, true, false, false, false, false, false, false, false, false, false]) (pp (fl aN (fl v6 (fl aC nn))) (tt k1 (ww cF (ww bG (ww aH (tt k0 nn))))))))))))) (fun k0 => (lo fun q1_0 => (lo fun q1_1 => (lo fun q1_2 => (lo fun q1_3 => (Xi (sl Kr (C' := ⟨⟨99, 0, true⟩, (Vv prog 36 [1, 1, 1, 1, 1, 0, 1, 0, 1, 0, 0] 3), (Zg prog 36 [1, 1, 1, 1, 1, 0, 1, 0, 1, 0, 0] 1), (some 0), [], ⟨Yj [(4, (.ptr 2 0)), (5, (.ptr 3 0)), (7, (.ptr 4 0)), (8, (.ptr 6 0)), (9, (.ptr 7 0)), (10, (.ptr 8 0)), (11, (.ptr 9 0)), (28, (.dat v6.length (Zz v6))), (29, (.agg [(ii (rd aN (0 + (tn (wr (v5 - 1)))))), (ii (rd aN (0 + (tn v5))))])), (30, (ii x1))], z4r [(1, ⟨[(ii x1)], 3, none⟩), (2, ⟨[.nils], 30, none⟩), (3, ⟨[(ii 0)], 24, none⟩), (4, ⟨[(.sla 5 6 0 aC.length (.un 6))], 30, none⟩), (5, ⟨rows aC.length (Zz aC), 68, some ⟨6, aC.length, (Zz aC)⟩⟩), (6, ⟨[(.dat bF.length (Zz bF))], 106, none⟩), (7, ⟨[(ii aE)], 3, none⟩), (8, ⟨[(ii aK)], 3, none⟩), (9, ⟨[(ii (rd aN (0 + (tn (wr (v5 - 1)))))), (ii (rd aN (0 + (tn v5))))], 110, none⟩), (10, ⟨[(.sla 11 1 0 aT (.un 1))], 47, none⟩), (11, ⟨rows aN.length (Zz aN), 3, some ⟨1, aN.length, (Zz aN)⟩⟩), (12, ⟨[(.dat l0.length (Zz l0))], 22, none⟩), (13, ⟨[(ii 2)], 3, none⟩)], 14, [], true⟩, [⟨⟨63, 0, true⟩, (Vv prog 121 [1, 0, 0, 1, 0, 0, 1, 1, 0] 12), (Zg prog 121 [1, 0, 0, 1, 0, 0, 1, 1, 0] 1), none, [], Yj [(0, (.yld 0)), (1, (.ptr 10 0)), (2, (.ptr 12 0)), (3, (.ptr 13 0)), (5, (ii v5)), (49, (.yld 0)), (59, (.agg [(ii (rd aN (0 + (tn (wr (v5 - 1)))))), (ii (rd aN (0 + (tn v5))))])), (60, (.dat v6.length (Zz v6)))]⟩, ⟨⟨99, 0, true⟩, none, (.inRangeFunc 0 :: (Zg prog 36 [1, 1, 1, 1, 1, 0, 1, 0] 1)), none, (Zy prog 36), Yj [(4, (.ptr 2 0)), (5, (.ptr 3 0)), (7, (.ptr 4 0))]⟩], (z4t [(0, ⟨.busy, none, 99, Yj [(3, (.ptr 1 0)), (4, (.ptr 2 0)), (5, (.ptr 3 0)), (7, (.ptr 4 0)), (8, (.ptr 6 0)), (9, (.ptr 7 0)), (10, (.ptr 8 0))], [26, 27], (Xn prog 36 [1, 1, 1, 1, 1, 0, 1, 0, 0]), (Xn prog 36 [1, 1, 1, 1, 1, 0, 1, 0, 1])⟩)])⟩) 25 [] ⟨[0, 1, 2, 3, 4, 13, 5, 6, 7, 14, 8, 9, 10, 11], [12], [some [4, 5, 7, 8, 9, 10, 11, 28, 29, 30], some [0, 1, 2, 3, 5, 49, 59, 60], some [4, 5, 7]], [some [3, 4, 5, 7, 8, 9, 10], none, none, none, none, none, none, none, none, none, none, none, none, none]⟩ ⟨[(28, .frz v6.length v6.length (Zz v6) (Zz v6))], [], [[(60, .frz v6.length v6.length (Zz v6) (Zz v6))], []]⟩ [false] (pp (xZ (z4w 6 6 0 v6.length v6.length (Zz v6)) v6.length (Zz v6)) (pp (xL v6.length v6.length) (pp (xS v6.length (Zz v6) (Zz v6)) (pp (xZ (z4w 6 6 0 v6.length v6.length (Zz v6)) v6.length (Zz v6)) (pp (xL v6.length v6.length) (pp (xS v6.length (Zz v6) (Zz v6)) (pp (fl aC (fl aN nn)) (pp (fl v6 nn) (ww q1_3 (ww q1_2 (ww q1_1 (ww q1_0 (tt k0 nn)))))))))))))) (lo fun aH => (lb (fun k1 => (z0v ⟨⟨99, 0, true⟩, none, (.code .ret :: (Zg prog 36 [1, 1, 1, 1, 1, 0, 1, 0] 1)), none, (Zy prog 36), ⟨Yj [(4, (.ptr 0 0)), (5, (.ptr 1 0))], Vf [⟨[.nils], 30, none⟩, ⟨[(ii 4)], 24, none⟩] 0, 2, [], true⟩, [], .leaf⟩ (sl Kr 22 [] ⟨[2, 3], [], [some [4, 5]], []⟩ ⟨[], [], []⟩ [true, true] (tt k1 (pp (pp (xr v6) (xw aH)) nn))) rfl (by kernel_rfl))) (fun k1 => (lb (fun k2 => (lb (fun k3 => (lo fun cD => (lb (fun k4 => (sl Kr 39 [] ⟨(List.range 14), [], innN4, innM4⟩ ⟨[], [], []⟩ [false, true, true, true, true, true, true, true, true] (pp (fl aC (fl aN nn)) (tt k4 (pp (pp (xr bF) (pp (xI R4 (Qh (cvT v6) (rd aN (0 + (tn (wr (v5 - 1))))) (rd aN (0 + (tn v5))) x1).length (Zz (Qh (cvT v6) (rd aN (0 + (tn (wr (v5 - 1))))) (rd aN (0 + (tn v5))) x1))) (xw cD))) (tt k3 (tt k2 (tt k1 (pp (pp (xr v6) (xw aH)) nn))))))))) (fun k4 => (sl Kr 42 [] ⟨[0, 1, 2, 3, 4, 6, 7, 8, 9, 10, 11, 12, 13, 5], [], w4u, w4w⟩ ⟨[], [], []⟩ [false, true, true, true, true, true, true, true, false] (pp (fl aN (fl aC nn)) (tt k4 (pp (pp (xr bF) (pp (xI R4 (Qh (cvT v6) (rd aN (0 + (tn (wr (v5 - 1))))) (rd aN (0 + (tn v5))) x1).length (Zz (Qh (cvT v6) (rd aN (0 + (tn (wr (v5 - 1))))) (rd aN (0 + (tn v5))) x1))) (xw cD))) (tt k3 (tt k2 (tt k1 (pp (pp (xr v6) (xw aH)) nn)))))))))))) (fun k3 => (sl Kr 42 [] ⟨[0, 1, 2, 3, 4, 6, 7, 8, 9, 10, 11, 12, 13, 5], [], w4u, w4w⟩ ⟨[], [], []⟩ [false, true, true, true, true, false, false, false, false] (pp (fl aN (fl aC nn)) (tt k3 (tt k2 (tt k1 (pp (pp (xr v6) (xw aH)) nn))))))))) (fun k2 => (sl Kr 42 [] ⟨[0, 1, 2, 3, 4, 6, 7, 8, 9, 10, 11, 12, 13, 5], [], w4u, w4w⟩ ⟨[], [], []⟩ [false, false, false, false, false, false, false, false, false] (pp (fl aN (fl aC nn)) (tt k2 (tt k1 (pp (pp (xr v6) (xw aH)) nn)))))))))))))))))
 | .h3 v70 v71 v72 bV aL aI bO aC aE cB cC => (lb (fun k0 => (lo fun o0 => (lo fun o1 => (sl Kr 43 [] ⟨[0, 1, 2, 3, 4, 5, 6, 7, 8, 9, 10, 11, 12, 16], [], w4u, w4w⟩ ⟨[], (kpB 4 [.cells [.len (aC ++ [(R6.mk (rd v70 (tn v72)).a (rd v70 (tn v72)).b aL (rd v70 (tn v72)).c (rd v70 (tn v72)).d aI)]).length], .keep, .keep, .keep, .keep, .keep, .keep, .keep, .keep, .rowed 6 (aC ++ [(R6.mk (rd v70 (tn v72)).a (rd v70 (tn v72)).b aL (rd v70 (tn v72)).c (rd v70 (tn v72)).d aI)]).length (Zz (aC ++ [(R6.mk (rd v70 (tn v72)).a (rd v70 (tn v72)).b aL (rd v70 (tn v72)).c (rd v70 (tn v72)).d aI)]))]), []⟩ [true] (pp (xL (aC.length + 1) (aC ++ [(R6.mk (rd v70 (tn v72)).a (rd v70 (tn v72)).b aL (rd v70 (tn v72)).c (rd v70 (tn v72)).d aI)]).length) (pp (xL (aC.length + 1) (aC ++ [(R6.mk (rd v70 (tn v72)).a (rd v70 (tn v72)).b aL (rd v70 (tn v72)).c (rd v70 (tn v72)).d aI)]).length) (pp (xS (aC.length + 1) (Ze (Zz aC) 0 aC.length 6 [(ii (rd v70 (tn v72)).a), (ii (rd v70 (tn v72)).b), (ii aL), (ii (rd v70 (tn v72)).c), (ii (rd v70 (tn v72)).d), (ii aI)]) (Zz (aC ++ [(R6.mk (rd v70 (tn v72)).a (rd v70 (tn v72)).b aL (rd v70 (tn v72)).c (rd v70 (tn v72)).d aI)]))) (pp (fl cC (pp (xF (Ze (Zz aC) 0 aC.length 6 [(ii (rd v70 (tn v72)).a), (ii (rd v70 (tn v72)).b), (ii aL), (ii (rd v70 (tn v72)).c), (ii (rd v70 (tn v72)).d), (ii aI)])) nn)) (ww o1 (ww o0 (tt k0 nn))))))))))) (fun k0 => (sl Kr 20 [] ⟨[0, 1, 2, 3, 4, 5, 6, 7, 9, 10, 11, 12, 13], [], v3i, v3j⟩ ⟨[], [], []⟩ [false, false] (pp (fl cC (fl aC nn)) (tt k0 nn)))))
 | .h4 v14 bV aL aI bO aC aE aK dN cM cV => (lb (fun k0 => (lo fun o0 => (lo fun o1 => (sl Kr 29 [] ⟨(List.range 14), [], innN4, innM4⟩ ⟨[], (kpB 4 [.cells [.len (aC.set (0 + (tn v14)) (R6.mk (rd aC (0 + (tn v14))).a (rd aC (0 + (tn v14))).b (rd aC (0 + (tn v14))).c (rd aC (0 + (tn v14))).d (rd aC (0 + (tn v14))).e aI)).length], .rowed 6 (aC.set (0 + (tn v14)) (R6.mk (rd aC (0 + (tn v14))).a (rd aC (0 + (tn v14))).b (rd aC (0 + (tn v14))).c (rd aC (0 + (tn v14))).d (rd aC (0 + (tn v14))).e aI)).length (Zz (aC.set (0 + (tn v14)) (R6.mk (rd aC (0 + (tn v14))).a (rd aC (0 + (tn v14))).b (rd aC (0 + (tn v14))).c (rd aC (0 + (tn v14))).d (rd aC (0 + (tn v14))).e aI))), .keep, .keep, .keep, .keep, .keep, .keep, .keep, .keep]), []⟩ [true] (pp (xL aC.length (aC.set (0 + (tn v14)) (R6.mk (rd aC (0 + (tn v14))).a (rd aC (0 + (tn v14))).b (rd aC (0 + (tn v14))).c (rd aC (0 + (tn v14))).d (rd aC (0 + (tn v14))).e aI)).length) (pp (xL aC.length (aC.set (0 + (tn v14)) (R6.mk (rd aC (0 + (tn v14))).a (rd aC (0 + (tn v14))).b (rd aC (0 + (tn v14))).c (rd aC (0 + (tn v14))).d (rd aC (0 + (tn v14))).e aI)).length) (pp (xS aC.length (Xf (Zz aC) (0 + (tn v14)) 5 [(ii aI)]) (Zz (aC.set (0 + (tn v14)) (R6.mk (rd aC (0 + (tn v14))).a (rd aC (0 + (tn v14))).b (rd aC (0 + (tn v14))).c (rd aC (0 + (tn v14))).d (rd aC (0 + (tn v14))).e aI)))) (pp (pp (xF (Xf (Zz aC) (0 + (tn v14)) 5 [(ii aI)])) (fl cV nn)) (ww o1 (ww o0 (tt k0 nn))))))))))) (fun k0 => (sl Kr 29 [] ⟨[0, 1, 2, 3, 4, 6, 7, 8, 10, 11, 12, 13, 5], [], v3i, v3j⟩ ⟨[], [], []⟩ [false, false] (pp (fl cV (fl aC nn)) (tt k0 nn)))))
theorem y9p (l0 : List R6) (x1 : Int) : Wj prog (Zy prog 36) (innC l0 x1) (Zf prog 36 [(.dat l0.length (Zz l0)), (.int .i64 x1)] true []) (z8k l0 x1) := (lo fun bB => (lb (fun k0 => (z0v ⟨⟨99, 0, true⟩, none, (Zg prog 36 [1, 0, 1, 1, 0, 0] 1), none, (Zy prog 36), ⟨Yj [(4, (.ptr 0 0)), (5, (.ptr 1 0))], Vf [⟨[.nils], 30, none⟩, ⟨[(ii (Zr (cvT l0)))], 24, none⟩] 0, 2, [], true⟩, [], .leaf⟩ (sl Kr 49 [] ⟨[1, 2], [], [some [4, 5]], []⟩ ⟨[], [], []⟩ [true, true] (tt k0 (tt k0 (pp (pp (xr l0) (xw bB)) nn)))) rfl (by kernel_rfl))) (fun k0 => (lb (fun k1 => (z0v ⟨⟨99, 0, true⟩, none, (Zg prog 36 [1, 0, 1, 1, 0, 0] 1), none, (Zy prog 36), ⟨Yj [(4, (.ptr 0 0)), (5, (.ptr 1 0))], Vf [⟨[.nils], 30, none⟩, ⟨[(ii 2)], 24, none⟩] 0, 2, [], true⟩, [], .leaf⟩ (sl Kr 60 [] ⟨[1, 2], [], [some [4, 5]], []⟩ ⟨[], [], []⟩ [false, true, true, true, true] (tt k1 (tt k0 (pp (pp (xr l0) (xw bB)) nn)))) rfl (by kernel_rfl))) (fun k1 => (lb (fun k2 => (z0v ⟨⟨99, 0, true⟩, none, (Zg prog 36 [1, 0, 1, 1, 0, 0] 1), none, (Zy prog 36), ⟨Yj [(4, (.ptr 0 0)), (5, (.ptr 1 0))], Vf [⟨[.nils], 30, none⟩, ⟨[(ii 2)], 24, none⟩] 0, 2, [], true⟩, [], .leaf⟩ (sl Kr 60 [] ⟨[1, 2], [], [some [4, 5]], []⟩ ⟨[], [], []⟩ [false, false, false, true, true] (tt k2 (tt k1 (tt k0 (pp (pp (xr l0) (xw bB)) nn))))) rfl (by kernel_rfl))) (fun k2 => (sl Kr 96 [(3, 1, Zz ([] : List Int))] ⟨[7, 8, 9, 0, 1, 2, 3, 4, 5, 6, 10], [], innN0, innM0⟩ ⟨[], [.keep, .keep, .cells [.grow 10 1], .keep, .keep, .keep, .keep, .keep, .keep, .keep, .keep], []⟩ [false, false, false, false, false] (pp (fl ([] : List Int) nn) (tt k2 (tt k1 (tt k0 (pp (pp (xr l0) (xw bB)) nn)))))))))))))
theorem w4s (l0 : List R6) (x1 : Int) (n : Nat) (vs : List AVal) (h : Yv (Xm l0 x1) n (z8k l0 x1) = .ret vs) : Jo prog (Zy prog 36) (Zf prog 36 [(.dat l0.length (Zz l0)), (.int .i64 x1)] true []) vs := by
 have := Zo (x5c l0 x1) n _ (y9p l0 x1)
 rwa [h] at this
end Go.Am
namespace Go.Am
open Go.Proofs.Tryz
open Go.Proofs Go.Sort Go.Shelf Go.RowKit Go.Lib
theorem w9q {L : List R6} {n : Int} (hl : L.length ≤ 400) {i : Nat} (hi : i + 1 < (rnC R6.c R6.f n L).length) (out : List R6) (last : List R4) (first fin : Int) : ∀ (k j : Nat) (acc : List R6), j + k = L.length → acc.length ≤ j →
  ∃ N, ∀ M, Yv (Xm L n) (M + N) (.to (.h2 ((i + 1 : Nat) : Int) acc (j : Int) out last first fin (rnC R6.c R6.f n L).length (Xv (Yo (rnE R6.c R6.f n L))))) = Yv (Xm L n) M (.to (.h2 ((i + 1 : Nat) : Int) (acc ++ crS R6.c R6.f (L.drop j) (rd (rnC R6.c R6.f n L) i) (rd (rnC R6.c R6.f n L) (i + 1))) (L.length : Int) out last first fin (rnC R6.c R6.f n L).length (Xv (Yo (rnE R6.c R6.f n L)))))
 | 0, j, acc, h, ha => by
  refine ⟨0, fun M => ?_⟩
  rw [List.drop_eq_nil_of_le (by omega), show crS R6.c R6.f ([] : List R6) (rd (rnC R6.c R6.f n L) i) (rd (rnC R6.c R6.f n L) (i + 1)) = [] from rfl, List.append_nil, Nat.add_zero, show j = L.length by omega]
 | k + 1, j, acc, h, ha => by
  have hj : j < L.length := by omega
  have hc := Vd R6.c R6.f n L
  have hpl : (Xv (Yo (rnE R6.c R6.f n L))).length = 4 * L.length := by rw [Wr, Wb, Wk]
  have r0 : rd (Xv (Yo (rnE R6.c R6.f n L))) i = rd (rnC R6.c R6.f n L) i := Jv _ _ (by show i < (rnC R6.c R6.f n L).length; omega)
  have r1 : rd (Xv (Yo (rnE R6.c R6.f n L))) (i + 1) = rd (rnC R6.c R6.f n L) (i + 1) := Jv _ _ (by show i + 1 < (rnC R6.c R6.f n L).length; omega)
  have e1 : IntKind.wrap .i64 (((i + 1 : Nat) : Int) - 1) = (i : Int) := by rw [Zd]; exact Zq (by omega)
  have hw : IntKind.wrap .i64 ((j : Int) + 1) = ((j + 1 : Nat) : Int) := Zq (by omega)
  obtain ⟨N, hN⟩ := w9q hl hi out last first fin k (j + 1) (acc ++ crS R6.c R6.f [rd L j] (rd (rnC R6.c R6.f n L) i) (rd (rnC R6.c R6.f n L) (i + 1))) (by omega) (by have := Kb R6.c R6.f [rd L j] (rd (rnC R6.c R6.f n L) i) (rd (rnC R6.c R6.f n L) (i + 1)); simp only [List.length_append, List.length_singleton] at *; omega)
  refine ⟨N + 1, fun M => ?_⟩
  have e : crS R6.c R6.f (L.drop j) (rd (rnC R6.c R6.f n L) i) (rd (rnC R6.c R6.f n L) (i + 1)) = crS R6.c R6.f [rd L j] (rd (rnC R6.c R6.f n L) i) (rd (rnC R6.c R6.f n L) (i + 1)) ++ crS R6.c R6.f (L.drop (j + 1)) (rd (rnC R6.c R6.f n L) i) (rd (rnC R6.c R6.f n L) (i + 1)) := by
   rw [Yf hj, ← z6d]; rfl
  rw [e, ← Nat.add_assoc, Zv, ← List.append_assoc, ← hN M]
  by_cases h1 : (rd L j).c < rd (rnC R6.c R6.f n L) (i + 1)
  ·by_cases h2 : rd (rnC R6.c R6.f n L) i < (rd L j).f
   ·rw [v5l h1 h2]
    simp (disch := omega) only [Xm, e1, r0, r1, hw, Zb, Zk, Zs, Zt, Yx, Yq, Yp, Zh, Zq, Zx, Ya, Zj, Nat.zero_add, decide_true, Bool.and_true, Bool.true_and, cond_true, cond_false]
   ·rw [w0w h2, List.append_nil]
    simp (disch := omega) only [Xm, Yz, e1, r0, r1, hw, Zb, Zk, Zs, Zt, Yx, Yq, Yp, Zh, Zq, Zx, Ya, Zj, Nat.zero_add, decide_true, Bool.and_true, Bool.true_and, cond_true, cond_false]
  ·rw [w0x h1, List.append_nil]
   simp (disch := omega) only [Xm, Yz, e1, r0, r1, hw, Zb, Zk, Zs, Zt, Yx, Yq, Yp, Zh, Zq, Zx, Ya, Zj, Nat.zero_add, decide_true, Bool.and_true, Bool.true_and, cond_true, cond_false]
theorem w9r {L : List R6} {n : Int} (hl : L.length ≤ 400) (hn : n ≠ 0) {R : List AVal} (hR : ∃ N, Yv (Xm L n) N (.to (.h1 1 [] [] 0 0 (rnC R6.c R6.f n L).length (Xv (Yo (rnE R6.c R6.f n L))))) = .ret R) : ∀ (k i : Nat) (acc : List Int), i + k = L.length → acc = rnE R6.c R6.f n (L.take i) → ∃ N, Yv (Xm L n) N (.to (.h0 (i : Int) acc)) = .ret R
 | 0, i, acc, h, ha => by
  have e : acc = (rnE R6.c R6.f n L) := by rw [ha, List.take_of_length_le (by omega)]
  subst e
  have hle := Wk R6.c R6.f n L
  obtain ⟨N, hN⟩ := hR
  refine ⟨N + 1, ?_⟩
  rw [Zv]
  simp (disch := omega) only [Xm, Uu, Kg, z6e, Yz, Yq, Yp, decide_true, cond_true, cond_false]
  exact hN
 | k + 1, i, acc, h, ha => by
  have hle := Wk R6.c R6.f n (L.take i)
  have fK : acc.length ≤ 4 * i := by rw [ha, hle]; simp; omega
  obtain ⟨N, hN⟩ := w9r hl hn hR k (i + 1) (acc ++ rnE R6.c R6.f n [rd L i]) (by omega) (by
   rw [ha, List.take_add_one]
   have : L[i]? = some (rd L i) := by rw [Ww (show i < L.length by omega)]; exact List.getElem?_eq_getElem _
   rw [this, z5q]; rfl)
  refine ⟨N + 1, ?_⟩
  rw [Zv]
  simp (disch := omega) only [Xm, w5s hn, Zb, Zk, Zs, Zt, Yx, Yq, Yp, Zh, Zq, Zx, Ya, Zj, Nat.zero_add, decide_true, Bool.and_true, Bool.true_and, cond_true, cond_false]
  exact hN
def w4t (L : List R6) (n : Int) (x x' : Int) : List R4 := (Qh (crS R6.c R6.f L x x') x x' n)
theorem w9p {L : List R6} {n : Int} (hl : L.length ≤ 400) (i : Nat) (hi : i ≤ 2000) (x x' : Int) (q : List R4) (first : Int) (inn : List R6) (hq : q.length ≤ 2000) : ∀ (k j : Nat) (out : List R6), j + k = q.length → out.length ≤ 10000000 + j →
  ∃ N, ∀ M, Yv (Xm L n) (M + N) (.to (.h3 q (q.length : Int) (j : Int) (i : Int) x x' inn out first (rnC R6.c R6.f n L).length (Xv (Yo (rnE R6.c R6.f n L))))) = Yv (Xm L n) M (.to (.h1 ((i + 1 : Nat) : Int) (out ++ (q.drop j).map (D6.put x x')) q first x' (rnC R6.c R6.f n L).length (Xv (Yo (rnE R6.c R6.f n L)))))
 | 0, j, out, h, ho => by
  refine ⟨1, fun M => ?_⟩
  rw [List.drop_eq_nil_of_le (by omega), Zv]
  simp (disch := omega) only [Xm, Yz, Zq, Zx, cond_false, List.map_nil, List.append_nil]
 | k + 1, j, out, h, ho => by
  obtain ⟨N, hN⟩ := w9p hl i hi x x' q first inn hq k (j + 1) (out ++ [D6.put x x' (rd q j)]) (by omega) (by simp; omega)
  refine ⟨N + 1, fun M => ?_⟩
  have := hN M
  rw [Yf (show j < q.length by omega), List.map_cons, ← Nat.add_assoc, Zv]
  simp (disch := omega) only [Xm, Zb, Zk, Zs, Zt, Yx, Yq, Yp, Zh, Zq, Zx, Ya, Zj, Nat.zero_add, decide_true, Bool.and_true, Bool.true_and, cond_true, cond_false]
  rw [List.append_assoc] at this
  exact this
theorem w9o {L : List R6} {n : Int} (hl : L.length ≤ 400) (i : Nat) (hi : i ≤ 2000) (x x' fin : Int) (last : List R4) (first : Int) (inn : List R6) : ∀ (k j : Nat) (out : List R6), j + k = out.length → out.length ≤ 10000000 →
  ∃ N, ∀ M, Yv (Xm L n) (M + N) (.to (.h4 (j : Int) (i : Int) x x' inn out last first fin (rnC R6.c R6.f n L).length (Xv (Yo (rnE R6.c R6.f n L))))) = Yv (Xm L n) M (.to (.h1 ((i + 1 : Nat) : Int) (D6.grow out j x') last first x' (rnC R6.c R6.f n L).length (Xv (Yo (rnE R6.c R6.f n L)))))
 | 0, j, out, h, ho => by
  refine ⟨1, fun M => ?_⟩
  rw [D6.grow_nil _ _ _ (by omega), Zv]
  simp (disch := omega) only [Xm, Yz, Zq, Zx, cond_false]
 | k + 1, j, out, h, ho => by
  obtain ⟨N, hN⟩ := w9o hl i hi x x' fin last first inn k (j + 1) (out.set j (D6.ext x' (rd out j))) (by simp; omega) (by simpa using ho)
  refine ⟨N + 1, fun M => ?_⟩
  have := hN M
  rw [D6.grow_set out j _ (by omega)] at this
  rw [← Nat.add_assoc, Zv]
  simp (disch := omega) only [Xm, Zb, Zk, Zs, Zt, Yx, Yq, Yp, Zh, Zq, Zx, Ya, Zj, Nat.zero_add, decide_true, Bool.and_true, Bool.true_and, cond_true, cond_false]
  exact this
theorem w0c {L : List R6} {n : Int} (hl : L.length ≤ 400) (hn : n ≠ 0) : ∀ (k i : Nat) (s : Sw R6 R4), k = (rnC R6.c R6.f n L).length - 1 - i → i ≤ (rnC R6.c R6.f n L).length → s.out.length ≤ i * 2000 → s.last.length ≤ 2000 → s.first ≤ s.out.length → ∃ N, Yv (Xm L n) N (.to (.h1 ((i + 1 : Nat) : Int) s.out s.last (s.first : Int) s.fin (rnC R6.c R6.f n L).length (Xv (Yo (rnE R6.c R6.f n L))))) = .ret (bif okX (w4t L n) (rnC R6.c R6.f n L) k i then z1j (D6.goX (w4t L n) (rnC R6.c R6.f n L) k i s).out else [.nils, .int .i64 4])
 | 0, i, s, h, hi, ho, hla, hf => by
  have hc := Vd R6.c R6.f n L
  refine ⟨1, ?_⟩
  rw [Zv]
  rw [show okX (w4t L n) (rnC R6.c R6.f n L) 0 i = true from rfl, cond_true, show D6.goX (w4t L n) (rnC R6.c R6.f n L) 0 i s = s from rfl]
  unfold z1j
  by_cases q : (s.out.length : Int) > 400
  ·simp (disch := omega) only [Xm, Yz, Yr, cond_true, cond_false, Zm]
  ·simp (disch := omega) only [Xm, Yz, Xk, cond_true, cond_false, Zm]
 | k + 1, i, s, h, hi, ho, hla, hf => by
  have hc := Vd R6.c R6.f n L
  have hi1 : i + 1 < (rnC R6.c R6.f n L).length := by omega
  have hpl : (Xv (Yo (rnE R6.c R6.f n L))).length = 4 * L.length := by rw [Wr, Wb, Wk]
  have r0 : rd (Xv (Yo (rnE R6.c R6.f n L))) i = rd (rnC R6.c R6.f n L) i := Jv _ _ (by show i < (rnC R6.c R6.f n L).length; omega)
  have r1 : rd (Xv (Yo (rnE R6.c R6.f n L))) (i + 1) = rd (rnC R6.c R6.f n L) (i + 1) := Jv _ _ (by show i + 1 < (rnC R6.c R6.f n L).length; omega)
  have e1 : IntKind.wrap .i64 (((i + 1 : Nat) : Int) - 1) = (i : Int) := by rw [Zd]; exact Zq (by omega)
  have hbig : i * 2000 ≤ 1600 * 2000 := Nat.mul_le_mul_right _ (by omega)
  obtain ⟨N2, h2⟩ := w9q (n := n) hl hi1 s.out s.last (s.first : Int) s.fin L.length 0 [] (Nat.zero_add _) (Nat.le_refl _)
  rw [List.drop_zero, List.nil_append, z0y] at h2
  have hin := Kb R6.c R6.f L (rd (rnC R6.c R6.f n L) i) (rd (rnC R6.c R6.f n L) (i + 1))
  have w1 : z0c (crS R6.c R6.f L (rd (rnC R6.c R6.f n L) i) (rd (rnC R6.c R6.f n L) (i + 1))) (rd (rnC R6.c R6.f n L) i) (rd (rnC R6.c R6.f n L) (i + 1)) n = true := by
   unfold z0c
   rw [Yx (by omega), decide_eq_false hn]; rfl
  have st0 : ∀ M, Yv (Xm L n) (M + N2 + 1) (.to (.h1 ((i + 1 : Nat) : Int) s.out s.last (s.first : Int) s.fin (rnC R6.c R6.f n L).length (Xv (Yo (rnE R6.c R6.f n L))))) = Yv (Xm L n) M (.to (.h2 ((i + 1 : Nat) : Int) (crS R6.c R6.f L (rd (rnC R6.c R6.f n L) i) (rd (rnC R6.c R6.f n L) (i + 1))) (L.length : Int) s.out s.last (s.first : Int) s.fin (rnC R6.c R6.f n L).length (Xv (Yo (rnE R6.c R6.f n L))))) := fun M => by
   rw [← h2 M, Zv]
   simp (disch := omega) only [Xm, Zs, cond_true]
  have hq : (w4t L n) (rd (rnC R6.c R6.f n L) i) (rd (rnC R6.c R6.f n L) (i + 1)) = (Qh (crS R6.c R6.f L (rd (rnC R6.c R6.f n L) i) (rd (rnC R6.c R6.f n L) (i + 1))) (rd (rnC R6.c R6.f n L) i) (rd (rnC R6.c R6.f n L) (i + 1)) n) := rfl
  rcases Yg (decide (((Qh (crS R6.c R6.f L (rd (rnC R6.c R6.f n L) i) (rd (rnC R6.c R6.f n L) (i + 1))) (rd (rnC R6.c R6.f n L) i) (rd (rnC R6.c R6.f n L) (i + 1)) n).length : Int) > 400)) with q0 | q0
  ·refine ⟨1 + N2 + 1, ?_⟩
   rw [st0 1, Zv]
   unfold okX
   rw [hq, q0, cond_true, cond_false]
   simp (disch := omega) only [Xm, Yz, e1, r0, r1, w1, q0, Zb, Zk, Zs, Zt, Yx, Yq, Yp, Zh, Zq, Zx, Ya, Zj, Nat.zero_add, decide_true, Bool.and_true, Bool.true_and, cond_true, cond_false, Zm]
  have hsl : (Qh (crS R6.c R6.f L (rd (rnC R6.c R6.f n L) i) (rd (rnC R6.c R6.f n L) (i + 1))) (rd (rnC R6.c R6.f n L) i) (rd (rnC R6.c R6.f n L) (i + 1)) n).length ≤ 2000 := by have := of_decide_eq_false q0; omega
  have w2 : Wc s.last (Qh (crS R6.c R6.f L (rd (rnC R6.c R6.f n L) i) (rd (rnC R6.c R6.f n L) (i + 1))) (rd (rnC R6.c R6.f n L) i) (rd (rnC R6.c R6.f n L) (i + 1)) n) = true := decide_eq_true (by omega)
  have ol := D6.oneS_length (Qh (crS R6.c R6.f L (rd (rnC R6.c R6.f n L) i) (rd (rnC R6.c R6.f n L) (i + 1))) (rd (rnC R6.c R6.f n L) i) (rd (rnC R6.c R6.f n L) (i + 1)) n) (rd (rnC R6.c R6.f n L) i) (rd (rnC R6.c R6.f n L) (i + 1)) s
  rcases Yg (decide (0 < (Qh (crS R6.c R6.f L (rd (rnC R6.c R6.f n L) i) (rd (rnC R6.c R6.f n L) (i + 1))) (rd (rnC R6.c R6.f n L) i) (rd (rnC R6.c R6.f n L) (i + 1)) n).length) && ((s.fin == (rd (rnC R6.c R6.f n L) i)) && D6.same s.last (Qh (crS R6.c R6.f L (rd (rnC R6.c R6.f n L) i) (rd (rnC R6.c R6.f n L) (i + 1))) (rd (rnC R6.c R6.f n L) i) (rd (rnC R6.c R6.f n L) (i + 1)) n))) with q | q
  ·obtain ⟨N4, h4⟩ := w9o (n := n) hl (i + 1) (by omega) (rd (rnC R6.c R6.f n L) i) (rd (rnC R6.c R6.f n L) (i + 1)) s.fin s.last (s.first : Int) (crS R6.c R6.f L (rd (rnC R6.c R6.f n L) i) (rd (rnC R6.c R6.f n L) (i + 1))) (s.out.length - s.first) s.first s.out (by omega) (by omega)
   have e : D6.oneS (Qh (crS R6.c R6.f L (rd (rnC R6.c R6.f n L) i) (rd (rnC R6.c R6.f n L) (i + 1))) (rd (rnC R6.c R6.f n L) i) (rd (rnC R6.c R6.f n L) (i + 1)) n) (rd (rnC R6.c R6.f n L) i) (rd (rnC R6.c R6.f n L) (i + 1)) s = ⟨D6.grow s.out s.first (rd (rnC R6.c R6.f n L) (i + 1)), s.last, s.first, (rd (rnC R6.c R6.f n L) (i + 1))⟩ := by unfold Dim.oneS; rw [q]; rfl
   obtain ⟨N0, h0⟩ := w0c hl hn k (i + 1) (D6.oneS (Qh (crS R6.c R6.f L (rd (rnC R6.c R6.f n L) i) (rd (rnC R6.c R6.f n L) (i + 1))) (rd (rnC R6.c R6.f n L) i) (rd (rnC R6.c R6.f n L) (i + 1)) n) (rd (rnC R6.c R6.f n L) i) (rd (rnC R6.c R6.f n L) (i + 1)) s) (by omega) (by omega) (by omega) (by rw [e]; exact hla) (by rw [e]; simpa [Dim.grow_length] using hf)
   refine ⟨N0 + N4 + 1 + N2 + 1, ?_⟩
   rw [st0 (N0 + N4 + 1), Zv]
   simp only [Bool.and_eq_true, decide_eq_true_eq] at q
   obtain ⟨q1, q2, q3⟩ := q
   have q3' : Ua s.last (Qh (crS R6.c R6.f L (rd (rnC R6.c R6.f n L) i) (rd (rnC R6.c R6.f n L) (i + 1))) (rd (rnC R6.c R6.f n L) i) (rd (rnC R6.c R6.f n L) (i + 1)) n) = true := q3
   simp (disch := omega) only [Xm, Yz, Yr, e1, r0, r1, q0, q2, q3', w1, w2, Zb, Zk, Zs, Zt, Yx, Yq, Yp, Zh, Zq, Zx, Ya, Zj, Nat.zero_add, decide_true, Bool.and_true, Bool.true_and, cond_true, cond_false]
   rw [h4 N0]
   unfold okX; rw [hq, q0, cond_false]; unfold Dim.goX
   rw [hq]
   rw [e] at h0 ⊢
   exact h0
  ·obtain ⟨N3, h3⟩ := w9p (n := n) hl (i + 1) (by omega) (rd (rnC R6.c R6.f n L) i) (rd (rnC R6.c R6.f n L) (i + 1)) (Qh (crS R6.c R6.f L (rd (rnC R6.c R6.f n L) i) (rd (rnC R6.c R6.f n L) (i + 1))) (rd (rnC R6.c R6.f n L) i) (rd (rnC R6.c R6.f n L) (i + 1)) n) (s.out.length : Int) (crS R6.c R6.f L (rd (rnC R6.c R6.f n L) i) (rd (rnC R6.c R6.f n L) (i + 1))) hsl (Qh (crS R6.c R6.f L (rd (rnC R6.c R6.f n L) i) (rd (rnC R6.c R6.f n L) (i + 1))) (rd (rnC R6.c R6.f n L) i) (rd (rnC R6.c R6.f n L) (i + 1)) n).length 0 s.out (Nat.zero_add _) (by omega)
   simp only [List.drop_zero, z0y] at h3
   have e : D6.oneS (Qh (crS R6.c R6.f L (rd (rnC R6.c R6.f n L) i) (rd (rnC R6.c R6.f n L) (i + 1))) (rd (rnC R6.c R6.f n L) i) (rd (rnC R6.c R6.f n L) (i + 1)) n) (rd (rnC R6.c R6.f n L) i) (rd (rnC R6.c R6.f n L) (i + 1)) s = ⟨s.out ++ (Qh (crS R6.c R6.f L (rd (rnC R6.c R6.f n L) i) (rd (rnC R6.c R6.f n L) (i + 1))) (rd (rnC R6.c R6.f n L) i) (rd (rnC R6.c R6.f n L) (i + 1)) n).map (D6.put (rd (rnC R6.c R6.f n L) i) (rd (rnC R6.c R6.f n L) (i + 1))), (Qh (crS R6.c R6.f L (rd (rnC R6.c R6.f n L) i) (rd (rnC R6.c R6.f n L) (i + 1))) (rd (rnC R6.c R6.f n L) i) (rd (rnC R6.c R6.f n L) (i + 1)) n), s.out.length, (rd (rnC R6.c R6.f n L) (i + 1))⟩ := by unfold Dim.oneS; rw [q]; rfl
   obtain ⟨N0, h0⟩ := w0c hl hn k (i + 1) (D6.oneS (Qh (crS R6.c R6.f L (rd (rnC R6.c R6.f n L) i) (rd (rnC R6.c R6.f n L) (i + 1))) (rd (rnC R6.c R6.f n L) i) (rd (rnC R6.c R6.f n L) (i + 1)) n) (rd (rnC R6.c R6.f n L) i) (rd (rnC R6.c R6.f n L) (i + 1)) s) (by omega) (by omega) (by omega) (by rw [e]; exact hsl) (by rw [e]; simp)
   have hg : Xm L n (.h2 ((i + 1 : Nat) : Int) (crS R6.c R6.f L (rd (rnC R6.c R6.f n L) i) (rd (rnC R6.c R6.f n L) (i + 1))) (L.length : Int) s.out s.last (s.first : Int) s.fin (rnC R6.c R6.f n L).length (Xv (Yo (rnE R6.c R6.f n L)))) = .to (.h3 (Qh (crS R6.c R6.f L (rd (rnC R6.c R6.f n L) i) (rd (rnC R6.c R6.f n L) (i + 1))) (rd (rnC R6.c R6.f n L) i) (rd (rnC R6.c R6.f n L) (i + 1)) n) ((Qh (crS R6.c R6.f L (rd (rnC R6.c R6.f n L) i) (rd (rnC R6.c R6.f n L) (i + 1))) (rd (rnC R6.c R6.f n L) i) (rd (rnC R6.c R6.f n L) (i + 1)) n).length : Int) 0 ((i + 1 : Nat) : Int) (rd (rnC R6.c R6.f n L) i) (rd (rnC R6.c R6.f n L) (i + 1)) (crS R6.c R6.f L (rd (rnC R6.c R6.f n L) i) (rd (rnC R6.c R6.f n L) (i + 1))) s.out (s.out.length : Int) (rnC R6.c R6.f n L).length (Xv (Yo (rnE R6.c R6.f n L)))) := by
    have e3 : D6.same s.last (Qh (crS R6.c R6.f L (rd (rnC R6.c R6.f n L) i) (rd (rnC R6.c R6.f n L) (i + 1))) (rd (rnC R6.c R6.f n L) i) (rd (rnC R6.c R6.f n L) (i + 1)) n) = Ua s.last (Qh (crS R6.c R6.f L (rd (rnC R6.c R6.f n L) i) (rd (rnC R6.c R6.f n L) (i + 1))) (rd (rnC R6.c R6.f n L) i) (rd (rnC R6.c R6.f n L) (i + 1)) n) := rfl
    rw [e3] at q
    by_cases q1 : 0 < (Qh (crS R6.c R6.f L (rd (rnC R6.c R6.f n L) i) (rd (rnC R6.c R6.f n L) (i + 1))) (rd (rnC R6.c R6.f n L) i) (rd (rnC R6.c R6.f n L) (i + 1)) n).length
    ·rw [decide_eq_true q1, Bool.true_and] at q
     rcases Yg (s.fin == (rd (rnC R6.c R6.f n L) i)) with q2 | q2
     ·rw [q2, Bool.true_and] at q
      simp (disch := omega) only [Xm, Yz, Yr, e1, r0, r1, q0, q2, q, w1, w2, Zb, Zk, Zs, Zt, Yx, Yq, Yp, Zh, Zq, Zx, Ya, Zj, Nat.zero_add, decide_true, Bool.and_true, Bool.true_and, cond_true, cond_false]
     ·simp (disch := omega) only [Xm, Yz, Yr, e1, r0, r1, q0, q2, w1, w2, Zb, Zk, Zs, Zt, Yx, Yq, Yp, Zh, Zq, Zx, Ya, Zj, Nat.zero_add, decide_true, Bool.and_true, Bool.true_and, cond_true, cond_false]
    ·simp (disch := omega) only [Xm, Yz, Xk, e1, r0, r1, q0, w1, w2, Zb, Zk, Zs, Zt, Yx, Yq, Yp, Zh, Zq, Zx, Ya, Zj, Nat.zero_add, decide_true, Bool.and_true, Bool.true_and, cond_true, cond_false]
   refine ⟨N0 + N3 + 1 + N2 + 1, ?_⟩
   rw [st0 (N0 + N3 + 1), Zv, hg, h3 N0]
   unfold okX; rw [hq, q0, cond_false]; unfold Dim.goX
   rw [hq]
   rw [e] at h0 ⊢
   exact h0
def v3h (L : List R6) (n : Int) : List R6 := (D6.goX (w4t L n) (rnC R6.c R6.f n L) ((rnC R6.c R6.f n L).length - 1) 0 ⟨[], [], 0, 0⟩).out
def Uy (L : List R6) (n : Int) : Int := bif Zr L != 0 then Zr L else bif decide (n < 1) || decide (n > 1000) then 2 else bif okX (w4t L n) (rnC R6.c R6.f n L) ((rnC R6.c R6.f n L).length - 1) 0 then v0f (v3h L n).length else 4
def Uc (L : List R6) (n : Int) : List R6 := w9w (Uy L n) (v3h L n)
def z0d (L : List R6) (n : Int) : Bool := true
theorem v3g (L : List R6) (n : Int) : ∃ N, Yv (Xm L n) N (z8k L n) = .ret (x6j (Uy L n) (v3h L n)) := by
 have hk : (Zr L != 0) = !(Zr L == 0) := rfl
 unfold z8k Uy
 simp only [Zb, z2c, cond_true, hk]
 rcases Yg (Zr L == 0) with a | a
 ·rcases Yg (decide (n < 1)) with b | b
  ·refine ⟨0, ?_⟩
   rw [a, b]; rfl
  ·rcases Yg (decide (n > 1000)) with c | c
   ·refine ⟨0, ?_⟩
    rw [a, b, c]; rfl
   ·have hb := of_decide_eq_false b
    have hl := (z0n (eq_of_beq a)).1
    obtain ⟨N, hN⟩ := w9r (L := L) (n := n) hl (by omega) (w0c hl (by omega) ((rnC R6.c R6.f n L).length - 1) 0 ⟨[], [], 0, 0⟩ (by omega) (Nat.zero_le _) (Nat.zero_le _) (Nat.zero_le _) (Nat.le_refl _)) L.length 0 [] (Nat.zero_add _) rfl
    refine ⟨N, ?_⟩
    rw [a, b, c]
    simp only [Bool.not_true, Bool.not_false, Bool.true_and, Bool.or_false, cond_true, cond_false]
    rw [z0y] at hN
    rw [hN]
    rcases Yg (okX (w4t L n) (rnC R6.c R6.f n L) ((rnC R6.c R6.f n L).length - 1) 0) with q | q
    ·rw [q, cond_true, cond_true, y0m]; rfl
    ·rw [q]; rfl
 ·refine ⟨0, ?_⟩
  rw [a]
  simp only [Bool.not_false, cond_true]
  rw [x1s _ (show (Zr L != 0) = true by rw [hk, a]; rfl)]; rfl
def fInn : List AVal → Option (AVal × Bool)
 | [a0, .int .i64 x1] => match asL R6 a0 with
  | some (L0, g0, n0) => some (.tup [.dat (Uc L0 x1).length (Zz (Uc L0 x1)), .int .i64 (Uy L0 x1)], isT R6 n0 g0 && z0d L0 x1)
  | _ => none
 | _ => none
theorem v4l {S : Specs} (hS : Zu prog S) : Zu prog (S.with x9q fInn) := by
 refine w9v hS (by kernel_rfl) fun args v h => ?_
 unfold fInn at h
 split at h
 ·rename_i a0 x1
  split at h
  ·rename_i L0 g0 n0 e0
   simp only [Option.some.injEq, Prod.mk.injEq, Bool.and_eq_true] at h
   obtain ⟨rfl, ho0, hw⟩ := h
   obtain ⟨N, hN⟩ := v3g L0 x1
   exact ⟨_, _, (.cons (Yh e0 ho0) (.cons (.refl _) .nil)), y3a _ _, w4s L0 x1 N _ hN, 3, y8o _ _⟩
  ·cases h
 ·cases h
def Dh : Specs := (Dg.with x9q fInn)
theorem z1n : Zu prog Dh := (v4l Kr)
end Go.Am
namespace Go.Am
open Go.Proofs.Tryz
open Go.Proofs
inductive al39S where
def v5t : al39S → Cfg
 := nofun
def y4d : al39S → Xd al39S
 := nofun
def z5k : Xd al39S := (bif (Uo (cvT ([(R6.mk 1 1 1 3 3 3)] : List R6)) 2) then (bif (z0d (cvT ([(R6.mk 1 1 1 3 3 3)] : List R6)) 2) then (bif (Vb (cvT ([(R6.mk 1 1 1 3 3 3)] : List R6)) (cvT (Zc (cvT ([(R6.mk 1 1 1 3 3 3)] : List R6)) 2))) then (bif (Ur (cvT ([(R6.mk 0 0 0 5 1 1)] : List R6)) (cvT ([(R6.mk 0 0 0 1 1 1)] : List R6))) then (bif (Ur (cvT ([(R6.mk 0 0 0 1 1 1)] : List R6)) (cvT ([(R6.mk 0 0 0 5 1 1)] : List R6))) then (bif ((Xt (cvT ([(R6.mk 1 1 1 3 3 3)] : List R6)) 2) == 0) then (bif (Vk (cvT (Zc (cvT ([(R6.mk 1 1 1 3 3 3)] : List R6)) 2)) (cvT ([(R6.mk 0 0 0 4 4 4)] : List R6))) then (bif (Jw (cvT (Zc (cvT ([(R6.mk 1 1 1 3 3 3)] : List R6)) 2)) (cvT ([(R6.mk 0 0 0 4 4 4)] : List R6))) then (bif ((Uy (cvT ([(R6.mk 1 1 1 3 3 3)] : List R6)) 2) == 0) then (bif ((((Uc (cvT ([(R6.mk 1 1 1 3 3 3)] : List R6)) 2).length : Nat) : Int) == 0) then (bif ((Yi (cvT ([(R6.mk 1 1 1 3 3 3)] : List R6)) (cvT (Zc (cvT ([(R6.mk 1 1 1 3 3 3)] : List R6)) 2))) == 0) then (bif ((Xe (cvT ([(R6.mk 1 1 1 3 3 3)] : List R6)) (cvT (Zc (cvT ([(R6.mk 1 1 1 3 3 3)] : List R6)) 2))) == 1) then (bif ((Vz (cvT ([(R6.mk 0 0 0 5 1 1)] : List R6)) (cvT ([(R6.mk 0 0 0 1 1 1)] : List R6))) == 0) then (bif ((Us (cvT ([(R6.mk 0 0 0 5 1 1)] : List R6)) (cvT ([(R6.mk 0 0 0 1 1 1)] : List R6))) == 4) then (bif ((Vz (cvT ([(R6.mk 0 0 0 1 1 1)] : List R6)) (cvT ([(R6.mk 0 0 0 5 1 1)] : List R6))) == 0) then (.ret [(.bool ((Us (cvT ([(R6.mk 0 0 0 1 1 1)] : List R6)) (cvT ([(R6.mk 0 0 0 5 1 1)] : List R6))) == 0))]) else (.ret [(.bool false)])) else (.ret [(.bool false)])) else (.ret [(.bool false)])) else (.ret [(.bool false)])) else (.ret [(.bool false)])) else (.ret [(.bool false)])) else (.ret [(.bool false)])) else (.ret [(.bool false)])) else .stuck) else (.ret [(.bool false)])) else .stuck) else .stuck) else .stuck) else .stuck) else .stuck)
theorem x0z : ∀ s, Wj prog (Zy prog 41) (v5t) (v5t s) (y4d s)
 := nofun
theorem y6r : Wj prog (Zy prog 41) (v5t) (Zf prog 41 [] true []) (z5k) := (Xi (sl z1n (C' := ⟨⟨87, 0, true⟩, (Vv prog 41 [1, 1, 0] 1), (Zg prog 41 [1, 1, 0] 1), none, (Zy prog 13), ⟨Yj [(1, (.dat ([(R6.mk 1 1 1 3 3 3)] : List R6).length (Zz ([(R6.mk 1 1 1 3 3 3)] : List R6)))), (15, (.dat ([(R6.mk 1 1 1 3 3 3)] : List R6).length (Zz ([(R6.mk 1 1 1 3 3 3)] : List R6))))], Vf [] 0, 0, [], true⟩, [], .leaf⟩) 31 [] ⟨[], [1], [some [1, 15]], []⟩ ⟨[(1, .frz 1 ([(R6.mk 1 1 1 3 3 3)] : List R6).length (Xq [(ii 1), (ii 1), (ii 1), (ii 3), (ii 3), (ii 3)] 0 6) (Zz ([(R6.mk 1 1 1 3 3 3)] : List R6))), (15, .frz 1 ([(R6.mk 1 1 1 3 3 3)] : List R6).length (Xq [(ii 1), (ii 1), (ii 1), (ii 3), (ii 3), (ii 3)] 0 6) (Zz ([(R6.mk 1 1 1 3 3 3)] : List R6)))], [], []⟩ [] (pp (xZ (.dat 1 (Xq [(ii 1), (ii 1), (ii 1), (ii 3), (ii 3), (ii 3)] 0 6)) 1 (Xq [(ii 1), (ii 1), (ii 1), (ii 3), (ii 3), (ii 3)] 0 6)) (pp (xL 1 ([(R6.mk 1 1 1 3 3 3)] : List R6).length) (pp (xS 1 (Xq [(ii 1), (ii 1), (ii 1), (ii 3), (ii 3), (ii 3)] 0 6) (Zz ([(R6.mk 1 1 1 3 3 3)] : List R6))) (pp (xZ (.dat 1 (Xq [(ii 1), (ii 1), (ii 1), (ii 3), (ii 3), (ii 3)] 0 6)) 1 (Xq [(ii 1), (ii 1), (ii 1), (ii 3), (ii 3), (ii 3)] 0 6)) (pp (xL 1 ([(R6.mk 1 1 1 3 3 3)] : List R6).length) (pp (xS 1 (Xq [(ii 1), (ii 1), (ii 1), (ii 3), (ii 3), (ii 3)] 0 6) (Zz ([(R6.mk 1 1 1 3 3 3)] : List R6))) nn))))))) (lo fun q0_0 => (lo fun q0_1 => (lo fun q0_2 => (Xi (sl z1n (C' := ⟨⟨87, 0, true⟩, (Vv prog 41 [1, 1, 1, 1, 1, 0] 4), (Zg prog 41 [1, 1, 1, 1, 1, 0] 1), none, (Zy prog 13), ⟨Yj [(2, (.dat (Zc (cvT ([(R6.mk 1 1 1 3 3 3)] : List R6)) 2).length (Zz (Zc (cvT ([(R6.mk 1 1 1 3 3 3)] : List R6)) 2)))), (3, (ii (Xt (cvT ([(R6.mk 1 1 1 3 3 3)] : List R6)) 2))), (4, (.dat (Uc (cvT ([(R6.mk 1 1 1 3 3 3)] : List R6)) 2).length (Zz (Uc (cvT ([(R6.mk 1 1 1 3 3 3)] : List R6)) 2)))), (5, (ii (Uy (cvT ([(R6.mk 1 1 1 3 3 3)] : List R6)) 2))), (6, (ii (Xe (cvT ([(R6.mk 1 1 1 3 3 3)] : List R6)) (cvT (Zc (cvT ([(R6.mk 1 1 1 3 3 3)] : List R6)) 2))))), (7, (ii (Yi (cvT ([(R6.mk 1 1 1 3 3 3)] : List R6)) (cvT (Zc (cvT ([(R6.mk 1 1 1 3 3 3)] : List R6)) 2))))), (32, (.dat ([(R6.mk 0 0 0 5 1 1)] : List R6).length (Zz ([(R6.mk 0 0 0 5 1 1)] : List R6)))), (34, (.dat ([(R6.mk 0 0 0 1 1 1)] : List R6).length (Zz ([(R6.mk 0 0 0 1 1 1)] : List R6))))], Vf [] 0, 0, [], true⟩, [], .leaf⟩) 70 [] ⟨[], [1, 3], [some [2, 3, 4, 5, 6, 7, 32, 34]], []⟩ ⟨[(32, .frz 1 ([(R6.mk 0 0 0 5 1 1)] : List R6).length (Xq [(ii 0), (ii 0), (ii 0), (ii 5), (ii 1), (ii 1)] 0 6) (Zz ([(R6.mk 0 0 0 5 1 1)] : List R6))), (34, .frz 1 ([(R6.mk 0 0 0 1 1 1)] : List R6).length (Xq [(ii 0), (ii 0), (ii 0), (ii 1), (ii 1), (ii 1)] 0 6) (Zz ([(R6.mk 0 0 0 1 1 1)] : List R6)))], [], []⟩ [] (pp (xZ (.dat 1 (Xq [(ii 0), (ii 0), (ii 0), (ii 5), (ii 1), (ii 1)] 0 6)) 1 (Xq [(ii 0), (ii 0), (ii 0), (ii 5), (ii 1), (ii 1)] 0 6)) (pp (xL 1 ([(R6.mk 0 0 0 5 1 1)] : List R6).length) (pp (xS 1 (Xq [(ii 0), (ii 0), (ii 0), (ii 5), (ii 1), (ii 1)] 0 6) (Zz ([(R6.mk 0 0 0 5 1 1)] : List R6))) (pp (xZ (.dat 1 (Xq [(ii 0), (ii 0), (ii 0), (ii 1), (ii 1), (ii 1)] 0 6)) 1 (Xq [(ii 0), (ii 0), (ii 0), (ii 1), (ii 1), (ii 1)] 0 6)) (pp (xL 1 ([(R6.mk 0 0 0 1 1 1)] : List R6).length) (pp (xS 1 (Xq [(ii 0), (ii 0), (ii 0), (ii 1), (ii 1), (ii 1)] 0 6) (Zz ([(R6.mk 0 0 0 1 1 1)] : List R6))) (pp (pp (xI R6 ([(R6.mk 1 1 1 3 3 3)] : List R6).length (Zz ([(R6.mk 1 1 1 3 3 3)] : List R6))) (pp (xI R6 (Zc (cvT ([(R6.mk 1 1 1 3 3 3)] : List R6)) 2).length (Zz (Zc (cvT ([(R6.mk 1 1 1 3 3 3)] : List R6)) 2))) (xw q0_2))) (pp (pp (xI R6 ([(R6.mk 1 1 1 3 3 3)] : List R6).length (Zz ([(R6.mk 1 1 1 3 3 3)] : List R6))) (xw q0_1)) (pp (pp (xI R6 ([(R6.mk 1 1 1 3 3 3)] : List R6).length (Zz ([(R6.mk 1 1 1 3 3 3)] : List R6))) (xw q0_0)) nn)))))))))) (lo fun q0_0 => (Xi (sl z1n (C' := ⟨⟨87, 0, true⟩, (Vv prog 41 [1, 1, 1, 1, 1, 1, 0] 4), (Zg prog 41 [1, 1, 1, 1, 1, 1, 0] 1), none, (Zy prog 13), ⟨Yj [(2, (.dat (Zc (cvT ([(R6.mk 1 1 1 3 3 3)] : List R6)) 2).length (Zz (Zc (cvT ([(R6.mk 1 1 1 3 3 3)] : List R6)) 2)))), (3, (ii (Xt (cvT ([(R6.mk 1 1 1 3 3 3)] : List R6)) 2))), (4, (.dat (Uc (cvT ([(R6.mk 1 1 1 3 3 3)] : List R6)) 2).length (Zz (Uc (cvT ([(R6.mk 1 1 1 3 3 3)] : List R6)) 2)))), (5, (ii (Uy (cvT ([(R6.mk 1 1 1 3 3 3)] : List R6)) 2))), (6, (ii (Xe (cvT ([(R6.mk 1 1 1 3 3 3)] : List R6)) (cvT (Zc (cvT ([(R6.mk 1 1 1 3 3 3)] : List R6)) 2))))), (7, (ii (Yi (cvT ([(R6.mk 1 1 1 3 3 3)] : List R6)) (cvT (Zc (cvT ([(R6.mk 1 1 1 3 3 3)] : List R6)) 2))))), (8, (ii (Us (cvT ([(R6.mk 0 0 0 5 1 1)] : List R6)) (cvT ([(R6.mk 0 0 0 1 1 1)] : List R6))))), (9, (ii (Vz (cvT ([(R6.mk 0 0 0 5 1 1)] : List R6)) (cvT ([(R6.mk 0 0 0 1 1 1)] : List R6))))), (40, (.dat ([(R6.mk 0 0 0 1 1 1)] : List R6).length (Zz ([(R6.mk 0 0 0 1 1 1)] : List R6)))), (42, (.dat ([(R6.mk 0 0 0 5 1 1)] : List R6).length (Zz ([(R6.mk 0 0 0 5 1 1)] : List R6))))], Vf [] 0, 0, [], true⟩, [], .leaf⟩) 49 [] ⟨[], [1, 3], [some [2, 3, 4, 5, 6, 7, 8, 9, 40, 42]], []⟩ ⟨[(40, .frz 1 ([(R6.mk 0 0 0 1 1 1)] : List R6).length (Xq [(ii 0), (ii 0), (ii 0), (ii 1), (ii 1), (ii 1)] 0 6) (Zz ([(R6.mk 0 0 0 1 1 1)] : List R6))), (42, .frz 1 ([(R6.mk 0 0 0 5 1 1)] : List R6).length (Xq [(ii 0), (ii 0), (ii 0), (ii 5), (ii 1), (ii 1)] 0 6) (Zz ([(R6.mk 0 0 0 5 1 1)] : List R6)))], [], []⟩ [] (pp (xZ (.dat 1 (Xq [(ii 0), (ii 0), (ii 0), (ii 1), (ii 1), (ii 1)] 0 6)) 1 (Xq [(ii 0), (ii 0), (ii 0), (ii 1), (ii 1), (ii 1)] 0 6)) (pp (xL 1 ([(R6.mk 0 0 0 1 1 1)] : List R6).length) (pp (xS 1 (Xq [(ii 0), (ii 0), (ii 0), (ii 1), (ii 1), (ii 1)] 0 6) (Zz ([(R6.mk 0 0 0 1 1 1)] : List R6))) (pp (xZ (.dat 1 (Xq [(ii 0), (ii 0), (ii 0), (ii 5), (ii 1), (ii 1)] 0 6)) 1 (Xq [(ii 0), (ii 0), (ii 0), (ii 5), (ii 1), (ii 1)] 0 6)) (pp (xL 1 ([(R6.mk 0 0 0 5 1 1)] : List R6).length) (pp (xS 1 (Xq [(ii 0), (ii 0), (ii 0), (ii 5), (ii 1), (ii 1)] 0 6) (Zz ([(R6.mk 0 0 0 5 1 1)] : List R6))) (pp (pp (xI R6 ([(R6.mk 0 0 0 5 1 1)] : List R6).length (Zz ([(R6.mk 0 0 0 5 1 1)] : List R6))) (pp (xI R6 ([(R6.mk 0 0 0 1 1 1)] : List R6).length (Zz ([(R6.mk 0 0 0 1 1 1)] : List R6))) (xw q0_0))) nn)))))))) (lo fun bB => (lb (fun k0 => (Xi (sl z1n (C' := ⟨⟨87, 0, true⟩, (Vv prog 41 [1, 1, 1, 1, 1, 1, 1, 0] 6), (Zg prog 41 [1, 1, 1, 1, 1, 1, 1, 0] 1), none, (Zy prog 13), ⟨Yj [(4, (.dat (Uc (cvT ([(R6.mk 1 1 1 3 3 3)] : List R6)) 2).length (Zz (Uc (cvT ([(R6.mk 1 1 1 3 3 3)] : List R6)) 2)))), (5, (ii (Uy (cvT ([(R6.mk 1 1 1 3 3 3)] : List R6)) 2))), (6, (ii (Xe (cvT ([(R6.mk 1 1 1 3 3 3)] : List R6)) (cvT (Zc (cvT ([(R6.mk 1 1 1 3 3 3)] : List R6)) 2))))), (7, (ii (Yi (cvT ([(R6.mk 1 1 1 3 3 3)] : List R6)) (cvT (Zc (cvT ([(R6.mk 1 1 1 3 3 3)] : List R6)) 2))))), (8, (ii (Us (cvT ([(R6.mk 0 0 0 5 1 1)] : List R6)) (cvT ([(R6.mk 0 0 0 1 1 1)] : List R6))))), (9, (ii (Vz (cvT ([(R6.mk 0 0 0 5 1 1)] : List R6)) (cvT ([(R6.mk 0 0 0 1 1 1)] : List R6))))), (10, (ii (Us (cvT ([(R6.mk 0 0 0 1 1 1)] : List R6)) (cvT ([(R6.mk 0 0 0 5 1 1)] : List R6))))), (11, (ii (Vz (cvT ([(R6.mk 0 0 0 1 1 1)] : List R6)) (cvT ([(R6.mk 0 0 0 5 1 1)] : List R6))))), (48, (.bool true)), (49, (.dat (Zc (cvT ([(R6.mk 1 1 1 3 3 3)] : List R6)) 2).length (Zz (Zc (cvT ([(R6.mk 1 1 1 3 3 3)] : List R6)) 2)))), (51, (.dat ([(R6.mk 0 0 0 4 4 4)] : List R6).length (Zz ([(R6.mk 0 0 0 4 4 4)] : List R6))))], Vf [] 0, 0, [], true⟩, [], .leaf⟩) 33 [] ⟨[], [1], [some [4, 5, 6, 7, 8, 9, 10, 11, 48, 49, 51]], []⟩ ⟨[(51, .frz 1 ([(R6.mk 0 0 0 4 4 4)] : List R6).length (Xq [(ii 0), (ii 0), (ii 0), (ii 4), (ii 4), (ii 4)] 0 6) (Zz ([(R6.mk 0 0 0 4 4 4)] : List R6)))], [], []⟩ (trs 3 []) (pp (xZ (.dat 1 (Xq [(ii 0), (ii 0), (ii 0), (ii 4), (ii 4), (ii 4)] 0 6)) 1 (Xq [(ii 0), (ii 0), (ii 0), (ii 4), (ii 4), (ii 4)] 0 6)) (pp (xL 1 ([(R6.mk 0 0 0 4 4 4)] : List R6).length) (pp (xS 1 (Xq [(ii 0), (ii 0), (ii 0), (ii 4), (ii 4), (ii 4)] 0 6) (Zz ([(R6.mk 0 0 0 4 4 4)] : List R6))) (tt k0 (pp (pp (xI R6 ([(R6.mk 0 0 0 1 1 1)] : List R6).length (Zz ([(R6.mk 0 0 0 1 1 1)] : List R6))) (pp (xI R6 ([(R6.mk 0 0 0 5 1 1)] : List R6).length (Zz ([(R6.mk 0 0 0 5 1 1)] : List R6))) (xw bB))) nn)))))) (lo fun aH => (lb (fun k1 => (lb (fun k2 => (lb (fun k3 => (lb (fun k4 => (lb (fun k5 => (lb (fun k6 => (lb (fun k7 => (lb (fun k8 => (lr 87 3 [1, 1, 1, 1, 1, 1, 0] 1 13 [(0, (.bool ((Us (cvT ([(R6.mk 0 0 0 1 1 1)] : List R6)) (cvT ([(R6.mk 0 0 0 5 1 1)] : List R6))) == 0)))] (sl z1n 37 [] ⟨[], [], [some [0]], []⟩ ⟨[], [], []⟩ (trs 18 []) (tt k8 (tt k7 (tt k6 (tt k5 (tt k4 (tt k3 (tt k2 (tt k1 (pp (pp (xI R6 (Zc (cvT ([(R6.mk 1 1 1 3 3 3)] : List R6)) 2).length (Zz (Zc (cvT ([(R6.mk 1 1 1 3 3 3)] : List R6)) 2))) (pp (xI R6 ([(R6.mk 0 0 0 4 4 4)] : List R6).length (Zz ([(R6.mk 0 0 0 4 4 4)] : List R6))) (xw aH))) nn)))))))))))) (fun k8 => (lr 87 3 [1, 1, 1, 1, 1, 1, 0] 1 13 [(0, (.bool false))] (sl z1n 37 [] ⟨[], [], [some [0]], []⟩ ⟨[], [], []⟩ (trs 16 [false, false]) (tt k8 (tt k7 (tt k6 (tt k5 (tt k4 (tt k3 (tt k2 (tt k1 (pp (pp (xI R6 (Zc (cvT ([(R6.mk 1 1 1 3 3 3)] : List R6)) 2).length (Zz (Zc (cvT ([(R6.mk 1 1 1 3 3 3)] : List R6)) 2))) (pp (xI R6 ([(R6.mk 0 0 0 4 4 4)] : List R6).length (Zz ([(R6.mk 0 0 0 4 4 4)] : List R6))) (xw aH))) nn)))))))))))))) (fun k7 => (lr 87 3 [1, 1, 1, 1, 1, 1, 0] 1 13 [(0, (.bool false))] (sl z1n 37 [] ⟨[], [], [some [0]], []⟩ ⟨[], [], []⟩ (trs 14 [false, false, false, false]) (tt k7 (tt k6 (tt k5 (tt k4 (tt k3 (tt k2 (tt k1 (pp (pp (xI R6 (Zc (cvT ([(R6.mk 1 1 1 3 3 3)] : List R6)) 2).length (Zz (Zc (cvT ([(R6.mk 1 1 1 3 3 3)] : List R6)) 2))) (pp (xI R6 ([(R6.mk 0 0 0 4 4 4)] : List R6).length (Zz ([(R6.mk 0 0 0 4 4 4)] : List R6))) (xw aH))) nn))))))))))))) (fun k6 => (lr 87 3 [1, 1, 1, 1, 1, 1, 0] 1 13 [(0, (.bool false))] (sl z1n 37 [] ⟨[], [], [some [0]], []⟩ ⟨[], [], []⟩ (trs 12 [false, false, false, false, false, false]) (tt k6 (tt k5 (tt k4 (tt k3 (tt k2 (tt k1 (pp (pp (xI R6 (Zc (cvT ([(R6.mk 1 1 1 3 3 3)] : List R6)) 2).length (Zz (Zc (cvT ([(R6.mk 1 1 1 3 3 3)] : List R6)) 2))) (pp (xI R6 ([(R6.mk 0 0 0 4 4 4)] : List R6).length (Zz ([(R6.mk 0 0 0 4 4 4)] : List R6))) (xw aH))) nn)))))))))))) (fun k5 => (lr 87 3 [1, 1, 1, 1, 1, 1, 0] 1 13 [(0, (.bool false))] (sl z1n 37 [] ⟨[], [], [some [0]], []⟩ ⟨[], [], []⟩ (trs 10 [false, false, false, false, false, false, false, false]) (tt k5 (tt k4 (tt k3 (tt k2 (tt k1 (pp (pp (xI R6 (Zc (cvT ([(R6.mk 1 1 1 3 3 3)] : List R6)) 2).length (Zz (Zc (cvT ([(R6.mk 1 1 1 3 3 3)] : List R6)) 2))) (pp (xI R6 ([(R6.mk 0 0 0 4 4 4)] : List R6).length (Zz ([(R6.mk 0 0 0 4 4 4)] : List R6))) (xw aH))) nn))))))))))) (fun k4 => (lr 87 3 [1, 1, 1, 1, 1, 1, 0] 1 13 [(0, (.bool false))] (sl z1n 37 [] ⟨[], [], [some [0]], []⟩ ⟨[], [], []⟩ (trs 8 [false, false, false, false, false, false, false, false, false, false]) (tt k4 (tt k3 (tt k2 (tt k1 (pp (pp (xI R6 (Zc (cvT ([(R6.mk 1 1 1 3 3 3)] : List R6)) 2).length (Zz (Zc (cvT ([(R6.mk 1 1 1 3 3 3)] : List R6)) 2))) (pp (xI R6 ([(R6.mk 0 0 0 4 4 4)] : List R6).length (Zz ([(R6.mk 0 0 0 4 4 4)] : List R6))) (xw aH))) nn)))))))))) (fun k3 => (lr 87 3 [1, 1, 1, 1, 1, 1, 0] 1 13 [(0, (.bool false))] (sl z1n 37 [] ⟨[], [], [some [0]], []⟩ ⟨[], [], []⟩ (trs 6 [false, false, false, false, false, false, false, false, false, false, false, false]) (tt k3 (tt k2 (tt k1 (pp (pp (xI R6 (Zc (cvT ([(R6.mk 1 1 1 3 3 3)] : List R6)) 2).length (Zz (Zc (cvT ([(R6.mk 1 1 1 3 3 3)] : List R6)) 2))) (pp (xI R6 ([(R6.mk 0 0 0 4 4 4)] : List R6).length (Zz ([(R6.mk 0 0 0 4 4 4)] : List R6))) (xw aH))) nn))))))))) (fun k2 => (lr 87 3 [1, 1, 1, 1, 1, 1, 0] 1 13 [(0, (.bool false))] (sl z1n 37 [] ⟨[], [], [some [0]], []⟩ ⟨[], [], []⟩ (trs 3 [false, false, false, false, false, false, false, false, false, false, false, false, false, false, false]) (tt k2 (tt k1 (pp (pp (xI R6 (Zc (cvT ([(R6.mk 1 1 1 3 3 3)] : List R6)) 2).length (Zz (Zc (cvT ([(R6.mk 1 1 1 3 3 3)] : List R6)) 2))) (pp (xI R6 ([(R6.mk 0 0 0 4 4 4)] : List R6).length (Zz ([(R6.mk 0 0 0 4 4 4)] : List R6))) (xw aH))) nn)))))))) (fun k1 => (lr 87 3 [1, 1, 1, 1, 1, 1, 0] 1 13 [(0, (.bool false))] (sl z1n 37 [] ⟨[], [], [some [0]], []⟩ ⟨[], [], []⟩ [true, false, false, false, false, false, false, false, false, false, false, false, false, false, false, false, false, false] (tt k1 (pp (pp (xI R6 (Zc (cvT ([(R6.mk 1 1 1 3 3 3)] : List R6)) 2).length (Zz (Zc (cvT ([(R6.mk 1 1 1 3 3 3)] : List R6)) 2))) (pp (xI R6 ([(R6.mk 0 0 0 4 4 4)] : List R6).length (Zz ([(R6.mk 0 0 0 4 4 4)] : List R6))) (xw aH))) nn))))))))) (fun k0 => (lr 87 3 [1, 1, 1, 1, 1, 1, 0] 1 13 [(0, (.bool false))] (sl z1n 52 [] ⟨[], [], [some [0]], []⟩ ⟨[], [], []⟩ [false, false, false, false, false, false, false, false, false, false, false, false, false, false, false, false, false, false, false, false, false] (tt k0 (pp (pp (xI R6 ([(R6.mk 0 0 0 1 1 1)] : List R6).length (Zz ([(R6.mk 0 0 0 1 1 1)] : List R6))) (pp (xI R6 ([(R6.mk 0 0 0 5 1 1)] : List R6).length (Zz ([(R6.mk 0 0 0 5 1 1)] : List R6))) (xw bB))) nn))))))))))))))
theorem w1i (n : Nat) (vs : List AVal) (h : Yv (y4d) n (z5k) = .ret vs) : Jo prog (Zy prog 41) (Zf prog 41 [] true []) vs := by
 have := Zo (x0z) n _ (y6r)
 rwa [h] at this
inductive fitS where
def fitC (l0 : List R6) : fitS → Cfg
 := nofun
def x0a (l0 : List R6) : fitS → Xd fitS
 := nofun
def z8o (l0 : List R6) : Xd fitS := (bif (decide ((l0.length : Int) ≤ 6)) then (bif (z2m (cvT l0)) then (bif (x4p (cvT l0)) then (bif (Jk (cvT l0)) then (.ret [(.bool ((Wv (cvT l0)) == 0))]) else .stuck) else (.ret [(.bool false)])) else .stuck) else (.ret [(.bool false)]))
theorem x5k (l0 : List R6) : ∀ s, Wj prog (Zy prog 42) (fitC l0) (fitC l0 s) (x0a l0 s)
 := nofun
theorem x0b (l0 : List R6) : Wj prog (Zy prog 42) (fitC l0) (Zf prog 42 [(.dat l0.length (Zz l0))] true []) (z8o l0) := (lb (fun k0 => (lo fun aH => (lb (fun k1 => (lo fun o0 => (lr 15 3 [1, 1, 1, 1, 1, 1, 0] 1 15 [(2, (.bool ((Wv (cvT l0)) == 0)))] (sl z1n 20 [] ⟨[], [], [some [2]], []⟩ ⟨[], [], []⟩ (trs 5 []) (pp (pp (xr l0) (xw o0)) (tt k1 (pp (pp (xr l0) (xw aH)) (tt k0 nn)))))))) (fun k1 => (lr 15 3 [1, 1, 1, 1, 1, 1, 0] 1 15 [(2, (.bool false))] (sl z1n 20 [] ⟨[], [], [some [2]], []⟩ ⟨[], [], []⟩ [true, true, false, false, false] (tt k1 (pp (pp (xr l0) (xw aH)) (tt k0 nn))))))))) (fun k0 => (lr 15 3 [1, 1, 1, 1, 1, 1, 0] 1 15 [(2, (.bool false))] (sl z1n 20 [] ⟨[], [], [some [2]], []⟩ ⟨[], [], []⟩ [false, false, false, false, false] (tt k0 nn)))))
theorem w5h (l0 : List R6) (n : Nat) (vs : List AVal) (h : Yv (x0a l0) n (z8o l0) = .ret vs) : Jo prog (Zy prog 42) (Zf prog 42 [(.dat l0.length (Zz l0))] true []) vs := by
 have := Zo (x5k l0) n _ (x0b l0)
 rwa [h] at this
end Go.Am
namespace Go.Am
open Go.Proofs Go.Sort Go.Shelf Go.RowKit Go.Lib
namespace Dim
variable {α β : Type} {D : Dim α β}
end Dim
end Go.Am
namespace Go.Am
open Go.Proofs Go.Sort Go.Shelf Go.RowKit Go.Lib
def ind (a b t : Int) : Int := if a ≤ t ∧ t < b then 1 else 0
def Pts (p : List Int) : Prop := (∀ a b, -1000005 ≤ a ∧ b ≤ 1000005 → sm p (ind a b) = max 0 (b - a)) ∧ p.length = 2000010
def inR (r : R6) (x y z : Int) : Int := ind r.a r.d x * ind r.b r.e y * ind r.c r.f z
end Go.Am
namespace Go.Am
open Go.Proofs Go.Sort Go.Shelf Go.RowKit Go.Lib
theorem sm_pos {α : Type} {l : List α} {f : α → Int} (h : sm l f ≠ 0) : ∃ x ∈ l, f x ≠ 0 := Classical.byContradiction fun hn => h (by
 have : sm l f = sm l fun _ => 0 := w2c fun x hx => Classical.byContradiction fun e => hn ⟨x, hx, e⟩
 rw [this, v0y])
theorem y8x {p : List Int} (hp : Pts p) {t : Int} (h : -1000005 ≤ t ∧ t < 1000005) : t ∈ p := by
 have h1 := hp.1 t (t + 1) (by omega)
 have h2 : sm p (ind t (t + 1)) ≠ 0 := by rw [h1]; omega
 obtain ⟨x, hx, hn⟩ := sm_pos h2
 unfold ind at hn
 split at hn
 ·have : x = t := by omega
  rwa [← this]
 ·exact absurd rfl hn
def inS (X : List R6) (x y z : Int) : Prop := ∃ r ∈ X, (r.a ≤ x ∧ x < r.d) ∧ (r.b ≤ y ∧ y < r.e) ∧ (r.c ≤ z ∧ z < r.f)
structure Sol (X : List R6) : Prop where
 len : X.length ≤ 400
 val : ∀ r ∈ X, z2x r = true
 ap : X.Pairwise Ap6
theorem Sol.of {X : List R6} (h : Zr X = 0) : Sol X := ⟨(z0n h).1, (z0n h).2.1, (z0n h).2.2.2⟩
theorem Sol.bnd {X : List R6} (h : Sol X) {x y z : Int} (hp : inS X x y z) : (-1000000 ≤ x ∧ x < 1000000) ∧ (-1000000 ≤ y ∧ y < 1000000) ∧ (-1000000 ≤ z ∧ z < 1000000) := by
 obtain ⟨r, hr, h1, h2, h3⟩ := hp
 have := y4t (h.val r hr)
 omega
theorem Sol.pts {p : List Int} (hp : Pts p) {X : List R6} (h : Sol X) {x y z : Int} (hq : inS X x y z) : x ∈ p ∧ y ∈ p ∧ z ∈ p := by
 have := h.bnd hq
 exact ⟨y8x hp (by omega), y8x hp (by omega), y8x hp (by omega)⟩
end Go.Am
namespace Go.Am
open Go.Proofs Go.Sort Go.Shelf Go.RowKit Go.Lib
theorem v1a {l : List R6} (h : z1h l = 0) : z1i l = D6.out l := by
 unfold z1i w9w; rw [h]; rfl
theorem Xo {L : List R6} (h : Zr L = 0) : z1h L = 0 ∧ z1i L = L := by
 have hs := z0n h
 have key : z1h L = 0 := by
  unfold Zr at h
  unfold z1h
  cases g1 : decide (400 < L.length) with
  | true => rw [g1] at h; cases h
  | false =>
   cases g2 : L.all z2x with
   | false => rw [g1, g2] at h; cases h
   | true =>
    rw [g1, g2, cond_false, cond_true] at h
    cases g3 : okF L ((D6.cuts L).length - 1) 0 with
    | false => rw [g3] at h; cases h
    | true =>
     rw [cond_false, cond_true, cond_true]
     unfold v0f
     rw [← hs.2.2.1, Xk (by have := hs.1; omega)]; rfl
 exact ⟨key, (v1a key).trans hs.2.2.1.symm⟩
end Go.Am
namespace Go.Am
open Go.Proofs.Tryz
open Go.Proofs Go.Sort Go.Shelf Go.RowKit Go.Lib
theorem Qo {l : List R6} (h : Wv l = 0) : Zr l = 0 := (x2z l).trans h
theorem lA : Zr ([(R6.mk 1 1 1 3 3 3)] : List R6) = 0 := Qo (by kernel_rfl)
theorem lB : Zr ([(R6.mk 0 0 0 4 4 4)] : List R6) = 0 := Qo (by kernel_rfl)
theorem lC : Zr ([(R6.mk 0 0 0 5 1 1)] : List R6) = 0 := Qo (by kernel_rfl)
theorem lE : Zr ([(R6.mk 0 0 0 1 1 1)] : List R6) = 0 := Qo (by kernel_rfl)
theorem aO0 : Zc ([(R6.mk 1 1 1 3 3 3)] : List R6) 2 = [(R6.mk 0 0 0 4 4 4)] := by
 unfold Zc y7i
 rw [lA, show ([(R6.mk 1 1 1 3 3 3)] : List R6).map (oB 2) = [(R6.mk 0 0 0 4 4 4)] by kernel_rfl, (Xo lB).2]
 kernel_rfl
theorem aO1 : Xt ([(R6.mk 1 1 1 3 3 3)] : List R6) 2 = 0 := by
 unfold Xt
 rw [lA, show ([(R6.mk 1 1 1 3 3 3)] : List R6).map (oB 2) = [(R6.mk 0 0 0 4 4 4)] by kernel_rfl, (Xo lB).1]
 kernel_rfl
def rnK (lo hi : R6 → Int) (n : Int) (L : List R6) : List Int := z0l (rnE lo hi n L)
theorem y1u (lo hi : R6 → Int) (n : Int) (L : List R6) : rnC lo hi n L = rnK lo hi n L := y3v _
def colK (L : List R6) (a b e f n : Int) : List R2 := v5o L a b e f (rnK R6.b R6.e n L) ((rnK R6.b R6.e n L).length - 1) 0 []
theorem v5n (L : List R6) (a b e f n : Int) : Qi L a b e f n = colK L a b e f n := by unfold Qi colK; rw [y1u]
def layK (L : List R6) (a b n : Int) : List R4 := (D4.goX (fun x x' => colK (crS R6.a R6.d L x x') x x' a b n) (rnK R6.a R6.d n L) ((rnK R6.a R6.d n L).length - 1) 0 ⟨[], [], 0, 0⟩).out
theorem v3b (L : List R6) (a b n : Int) : Qh L a b n = layK L a b n := by
 unfold Qh layK
 rw [y1u, show layQ L a b n = fun x x' => colK (crS R6.a R6.d L x x') x x' a b n from funext fun x => funext fun x' => v5n _ _ _ _ _ _]
theorem y3o (L : List R6) (n : Int) : w4t L n = fun x x' => layK (crS R6.c R6.f L x x') x x' n := funext fun x => funext fun x' => v3b _ _ _ _
theorem aIO : v3h ([(R6.mk 1 1 1 3 3 3)] : List R6) 2 = [] := by
 unfold v3h
 rw [y1u, y3o]
 kernel_rfl
theorem aI1 : Uy ([(R6.mk 1 1 1 3 3 3)] : List R6) 2 = 0 := by
 unfold Uy
 rw [lA, y1u, y3o, aIO]
 kernel_rfl
theorem aI0 : Uc ([(R6.mk 1 1 1 3 3 3)] : List R6) 2 = [] := by
 unfold Uc
 rw [aI1, aIO]; rfl
theorem aD1 : Yi ([(R6.mk 1 1 1 3 3 3)] : List R6) ([(R6.mk 0 0 0 4 4 4)] : List R6) = 0 := by
 unfold Yi eDi
 rw [lA, lB]; kernel_rfl
theorem aD0 : Xe ([(R6.mk 1 1 1 3 3 3)] : List R6) ([(R6.mk 0 0 0 4 4 4)] : List R6) = 1 := by
 unfold Xe eDi
 rw [lA, lB]; kernel_rfl
theorem aR1 : Vz ([(R6.mk 0 0 0 5 1 1)] : List R6) ([(R6.mk 0 0 0 1 1 1)] : List R6) = 0 := by
 unfold Vz eRe
 rw [lC, lE]; kernel_rfl
theorem aR0 : Us ([(R6.mk 0 0 0 5 1 1)] : List R6) ([(R6.mk 0 0 0 1 1 1)] : List R6) = 4 := by
 unfold Us eRe
 rw [lC, lE]; kernel_rfl
theorem aS1 : Vz ([(R6.mk 0 0 0 1 1 1)] : List R6) ([(R6.mk 0 0 0 5 1 1)] : List R6) = 0 := by
 unfold Vz eRe
 rw [lE, lC]; kernel_rfl
theorem aS0 : Us ([(R6.mk 0 0 0 1 1 1)] : List R6) ([(R6.mk 0 0 0 5 1 1)] : List R6) = 0 := by
 unfold Us eRe
 rw [lE, lC]; kernel_rfl
theorem w6u : ∃ N, Yv y4d N z5k = .ret [.bool true] := ⟨0, by
 unfold z5k
 simp only [Zb, show ∀ l n, Uo l n = true from fun _ _ => rfl, show ∀ l n, z0d l n = true from fun _ _ => rfl, show ∀ l m, Ur l m = true from fun _ _ => rfl, show ∀ l m, Vb l m = true from fun _ _ => rfl, aO0, aO1, aI0, aI1, aD0, aD1, aR0, aR1, aS0, aS1, cond_true]
 kernel_rfl⟩
def v4y : List AVal → Option (AVal × Bool)
 | [] => some (.bool true, true)
 | _ => none
theorem w5l {S : Specs} (hS : Zu prog S) : Zu prog (S.with x2h v4y) := by
 refine z1m hS (by kernel_rfl) fun args v h => ?_
 unfold v4y at h
 split at h
 ·simp only [Option.some.injEq, Prod.mk.injEq, and_true] at h
  subst h
  obtain ⟨N, hN⟩ := w6u
  exact ⟨_, _, .nil, rfl, w1i N _ hN, 3, rfl⟩
 ·cases h
def fitV (L : List R6) : Bool := decide ((L.length : Int) ≤ 6) && (x4p L && (Wv L == 0))
def y6l (L : List R6) : Bool := true
theorem v3s (L : List R6) (h : y6l L = true) : ∃ N, Yv (x0a L) N (z8o L) = .ret [.bool (fitV L)] := ⟨0, by
 unfold z8o fitV
 simp only [Zb, show ∀ l, z2m l = true from fun _ => rfl, y3d, cond_true]
 cases decide ((L.length : Int) ≤ 6) <;> cases x4p L <;> rfl⟩
def fFit : List AVal → Option (AVal × Bool)
 | [a0] => match asL R6 a0 with
  | some (L0, g0, n0) => some (.bool (fitV L0), isT R6 n0 g0 && (y6l L0))
  | _ => none
 | _ => none
theorem v4q {S : Specs} (hS : Zu prog S) : Zu prog (S.with w9b fFit) := by
 refine z1m hS (by kernel_rfl) fun args v h => ?_
 unfold fFit at h
 split at h
 ·rename_i a0
  split at h
  ·rename_i L0 g0 n0 e0
   simp only [Option.some.injEq, Prod.mk.injEq, Bool.and_eq_true] at h
   obtain ⟨rfl, ho0, hw⟩ := h
   obtain ⟨N, hN⟩ := v3s L0 hw
   exact ⟨_, _, (.cons (Yh e0 ho0) .nil), rfl, w5h L0 N _ hN, 3, rfl⟩
  ·cases h
 ·cases h
def Di : Specs := ((Dh.with x2h v4y).with w9b fFit)
theorem w1r : Zu prog Di := (v4q (w5l z1n))
end Go.Am
namespace Go.Am
open Go.Proofs.Tryz
open Go.Proofs
inductive pikS where
def pikC (l0 : List R6) (x1 : Int) : pikS → Cfg
 := nofun
def y8z (l0 : List R6) (x1 : Int) : pikS → Xd pikS
 := nofun
def z8e (l0 : List R6) (x1 : Int) : Xd pikS := (bif (Vj (cvT l0)) then (bif ((Zr (cvT l0)) != 0) then (.ret [.nils, (.int .i64 (Zr (cvT l0)))]) else (bif (decide (x1 < 0)) then (.ret [.nils, (.int .i64 2)]) else (bif (decide (x1 > 9)) then (.ret [.nils, (.int .i64 2)]) else (bif (!decide (x1 < 0)) then (bif (Uo (cvT l0) (IntKind.wrap .i64 ((1 : Int) * 2 ^ (min x1.toNat 64)))) then (.ret [(.dat (Zc (cvT l0) (IntKind.wrap .i64 ((1 : Int) * 2 ^ (min x1.toNat 64)))).length (Zz (Zc (cvT l0) (IntKind.wrap .i64 ((1 : Int) * 2 ^ (min x1.toNat 64)))))), (.int .i64 (Xt (cvT l0) (IntKind.wrap .i64 ((1 : Int) * 2 ^ (min x1.toNat 64)))))]) else .stuck) else .stuck)))) else .stuck)
theorem x4o (l0 : List R6) (x1 : Int) : ∀ s, Wj prog (Zy prog 38) (pikC l0 x1) (pikC l0 x1 s) (y8z l0 x1 s)
 := nofun
theorem y9a (l0 : List R6) (x1 : Int) : Wj prog (Zy prog 38) (pikC l0 x1) (Zf prog 38 [(.dat l0.length (Zz l0)), (.int .i64 x1)] true []) (z8e l0 x1) := (lo fun bB => (lb (fun k0 => (lr 24 38 [1, 0, 1, 1, 0, 0] 1 16 [(4, .nils), (5, (ii (Zr (cvT l0))))] (sl w1r 24 [] ⟨[], [], [some [4, 5]], []⟩ ⟨[], [], []⟩ [true] (tt k0 (pp (pp (xr l0) (xw bB)) nn))))) (fun k0 => (lb (fun k1 => (lr 24 38 [1, 1, 0, 1, 0, 0] 1 16 [(4, .nils), (5, (ii 2))] (sl w1r 35 [] ⟨[], [], [some [4, 5]], []⟩ ⟨[], [], []⟩ [false, true, true, true] (tt k1 (tt k0 (pp (pp (xr l0) (xw bB)) nn)))))) (fun k1 => (lb (fun k2 => (lr 24 38 [1, 1, 0, 1, 0, 0] 1 16 [(4, .nils), (5, (ii 2))] (sl w1r 35 [] ⟨[], [], [some [4, 5]], []⟩ ⟨[], [], []⟩ [false, false, false, true] (tt k2 (tt k1 (tt k0 (pp (pp (xr l0) (xw bB)) nn))))))) (fun k2 => (lo fun o0 => (lo fun o1 => (lr 24 3 [1, 1, 1, 1, 1, 1, 0] 1 16 [(4, (.dat (Zc (cvT l0) (wr ((1 : Int) * 2 ^ (min (tn x1) 64)))).length (Zz (Zc (cvT l0) (wr ((1 : Int) * 2 ^ (min (tn x1) 64))))))), (5, (ii (Xt (cvT l0) (wr ((1 : Int) * 2 ^ (min (tn x1) 64))))))] (sl w1r 42 [] ⟨[], [], [some [4, 5]], []⟩ ⟨[], [], []⟩ [false, false, false, false] (pp (pp (xr l0) (xw o1)) (ww o0 (tt k2 (tt k1 (tt k0 (pp (pp (xr l0) (xw bB)) nn)))))))))))))))))
theorem w3q (l0 : List R6) (x1 : Int) (n : Nat) (vs : List AVal) (h : Yv (y8z l0 x1) n (z8e l0 x1) = .ret vs) : Jo prog (Zy prog 38) (Zf prog 38 [(.dat l0.length (Zz l0)), (.int .i64 x1)] true []) vs := by
 have := Zo (x4o l0 x1) n _ (y9a l0 x1)
 rwa [h] at this
end Go.Am
namespace Go.Am
open Go.Proofs.Tryz
open Go.Proofs Go.Sort Go.Shelf Go.RowKit Go.Lib
def x8v (k : Int) : Int := IntKind.wrap .i64 ((1 : Int) * 2 ^ (min k.toNat 64))
def x1y (L : List R6) (k : Int) : Bool := (Zr L == 0) && (!decide (k < 0) && !decide (k > 9))
def Xs (L : List R6) (k : Int) : List R6 := bif x1y L k then Zc L (x8v k) else []
def We (L : List R6) (k : Int) : Int := bif Zr L != 0 then Zr L else bif decide (k < 0) || decide (k > 9) then 2 else Xt L (x8v k)
def z1s (L : List R6) (k : Int) : Bool := true
def pikW (L : List R6) (k : Int) : List AVal := bif x1y L k then [.dat (Xs L k).length (Zz (Xs L k)), .int .i64 (We L k)] else [.nils, .int .i64 (We L k)]
theorem v2o (L : List R6) (k : Int) : ∃ N, Yv (y8z L k) N (z8e L k) = .ret (pikW L k) := ⟨0, by
 have hk : (Zr L != 0) = !(Zr L == 0) := rfl
 unfold z8e pikW Xs We x1y
 simp only [Zb, z2c, cond_true, hk, show ∀ l n, Uo l n = true from fun _ _ => rfl]
 cases (Zr L == 0) <;> cases decide (k < 0) <;> cases decide (k > 9) <;> rfl⟩
def fPik : List AVal → Option (AVal × Bool)
 | [a0, .int .i64 x1] => match asL R6 a0 with
  | some (L0, g0, n0) => some (.tup [.dat (Xs L0 x1).length (Zz (Xs L0 x1)), .int .i64 (We L0 x1)], isT R6 n0 g0 && z1s L0 x1)
  | _ => none
 | _ => none
theorem v4f {S : Specs} (hS : Zu prog S) : Zu prog (S.with w9c fPik) := by
 refine w9v hS (by kernel_rfl) fun args v h => ?_
 unfold fPik at h
 split at h
 ·rename_i a0 x1
  split at h
  ·rename_i L0 g0 n0 e0
   simp only [Option.some.injEq, Prod.mk.injEq, Bool.and_eq_true] at h
   obtain ⟨rfl, ho0, hw⟩ := h
   obtain ⟨N, hN⟩ := v2o L0 x1
   refine ⟨_, pikW L0 x1, (.cons (Yh e0 ho0) (.cons (.refl _) .nil)), ?_, w3q L0 x1 N _ hN, 3, ?_⟩
   ·unfold pikW
    rcases Yg (x1y L0 x1) with q | q
    ·rw [q]; exact fun ρ u hu => hu
    ·rw [q]
     unfold Xs
     rw [q]
     exact fun ρ u hu => z3y (.cons (z0u R6) (RLe.refl _)) ρ u hu
   ·unfold pikW
    cases x1y L0 x1 <;> rfl
  ·cases h
 ·cases h
def Dj : Specs := (Di.with w9c fPik)
theorem z7l : Zu prog Dj := (v4f w1r)
end Go.Am
namespace Go.Am
open Go.Proofs.Tryz
open Go.Proofs
inductive levS where
 | h0 (v7 : Int)
def levC (l0 : List R6) (x1 : Int) : levS → Cfg
 | .h0 v7 => ⟨⟨55, 0, true⟩, none, (Zg prog 31 [1, 1, 1, 1, 1, 0, 1, 0, 0] 0), none, (Zy prog 16), ⟨Yj [(0, (.dat l0.length (Zz l0))), (1, (ii x1)), (7, (ii v7))], Vf [] 0, 0, [], true⟩, [], .leaf⟩
def w4g : List (Option (List Nat)) := [some [0, 1, 7]]
def w4h : List (Option (List Nat)) := []
def z3o (l0 : List R6) (x1 : Int) : levS → Xd levS
 | .h0 v7 => (bif (decide (v7 > 0)) then (bif (z1s (cvT l0) v7) then (bif ((We (cvT l0) v7) == 0) then (bif (Vb (cvT l0) (cvT (Xs (cvT l0) v7))) then (bif ((Yi (cvT l0) (cvT (Xs (cvT l0) v7))) == 0) then (bif (decide ((Xe (cvT l0) (cvT (Xs (cvT l0) v7))) ≤ x1)) then (.ret [(.int .i64 v7), (.int .i64 0)]) else (.to (.h0 (IntKind.wrap .i64 (v7 - 1))))) else (.to (.h0 (IntKind.wrap .i64 (v7 - 1))))) else .stuck) else (.to (.h0 (IntKind.wrap .i64 (v7 - 1))))) else .stuck) else (.ret [(.int .i64 0), (.int .i64 0)]))
def z8h (l0 : List R6) (x1 : Int) : Xd levS := (bif (Vj (cvT l0)) then (bif ((Zr (cvT l0)) != 0) then (.ret [(.int .i64 0), (.int .i64 (Zr (cvT l0)))]) else (bif (decide (x1 < 0)) then (.ret [(.int .i64 0), (.int .i64 2)]) else (bif (decide (x1 > 1000)) then (.ret [(.int .i64 0), (.int .i64 2)]) else (bif ((l0.length : Int) == 0) then (.ret [(.int .i64 0), (.int .i64 6)]) else (bif (decide ((l0.length : Int) > 40)) then (.ret [(.int .i64 0), (.int .i64 4)]) else (.to (.h0 9))))))) else .stuck)
theorem x4t (l0 : List R6) (x1 : Int) : ∀ s, Wj prog (Zy prog 31) (levC l0 x1) (levC l0 x1 s) (z3o l0 x1 s)
 | .h0 v7 => (lb (fun k0 => (lo fun aH => (lb (fun k1 => (lo fun cL => (lb (fun k2 => (lb (fun k3 => (lr 55 31 [1, 1, 1, 1, 1, 0, 1, 0, 0, 1, 0, 0, 1, 1, 0, 1, 1, 0, 0] 1 16 [(4, (ii v7)), (5, (ii 0))] (sl z7l 55 [] ⟨[], [], [some [4, 5]], []⟩ ⟨[], [], []⟩ (trs 6 []) (tt k3 (tt k2 (pp (pp (xr l0) (pp (xI R6 (Xs (cvT l0) v7).length (Zz (Xs (cvT l0) v7))) (xw cL))) (tt k1 (pp (pp (xr l0) (xw aH)) (tt k0 nn))))))))) (fun k3 => (sl z7l 57 [] ⟨[], [], w4g, w4h⟩ ⟨[], [], []⟩ (trs 5 [false]) (tt k3 (tt k2 (pp (pp (xr l0) (pp (xI R6 (Xs (cvT l0) v7).length (Zz (Xs (cvT l0) v7))) (xw cL))) (tt k1 (pp (pp (xr l0) (xw aH)) (tt k0 nn)))))))))) (fun k2 => (sl z7l 57 [] ⟨[], [], w4g, w4h⟩ ⟨[], [], []⟩ [true, true, false, false, false, false] (tt k2 (pp (pp (xr l0) (pp (xI R6 (Xs (cvT l0) v7).length (Zz (Xs (cvT l0) v7))) (xw cL))) (tt k1 (pp (pp (xr l0) (xw aH)) (tt k0 nn)))))))))) (fun k1 => (sl z7l 35 [] ⟨[], [], w4g, w4h⟩ ⟨[], [], []⟩ [true, false] (tt k1 (pp (pp (xr l0) (xw aH)) (tt k0 nn)))))))) (fun k0 => (lr 55 3 [1, 1, 1, 1, 1, 1, 0] 1 16 [(4, (ii 0)), (5, (ii 0))] (sl z7l 13 [] ⟨[], [], [some [4, 5]], []⟩ ⟨[], [], []⟩ [false] (tt k0 nn)))))
theorem y9f (l0 : List R6) (x1 : Int) : Wj prog (Zy prog 31) (levC l0 x1) (Zf prog 31 [(.dat l0.length (Zz l0)), (.int .i64 x1)] true []) (z8h l0 x1) := (lo fun bB => (lb (fun k0 => (lr 55 31 [1, 0, 1, 1, 0, 0] 1 16 [(4, (ii 0)), (5, (ii (Zr (cvT l0))))] (sl z7l 24 [] ⟨[], [], [some [4, 5]], []⟩ ⟨[], [], []⟩ [true] (tt k0 (pp (pp (xr l0) (xw bB)) nn))))) (fun k0 => (lb (fun k1 => (lr 55 31 [1, 1, 0, 1, 0, 0] 1 16 [(4, (ii 0)), (5, (ii 2))] (sl z7l 35 [] ⟨[], [], [some [4, 5]], []⟩ ⟨[], [], []⟩ [false, true, true, true] (tt k1 (tt k0 (pp (pp (xr l0) (xw bB)) nn)))))) (fun k1 => (lb (fun k2 => (lr 55 31 [1, 1, 0, 1, 0, 0] 1 16 [(4, (ii 0)), (5, (ii 2))] (sl z7l 35 [] ⟨[], [], [some [4, 5]], []⟩ ⟨[], [], []⟩ [false, false, false, true] (tt k2 (tt k1 (tt k0 (pp (pp (xr l0) (xw bB)) nn))))))) (fun k2 => (lb (fun k3 => (lr 55 31 [1, 1, 1, 0, 1, 0, 0] 1 16 [(4, (ii 0)), (5, (ii 6))] (sl z7l 44 [] ⟨[], [], [some [4, 5]], []⟩ ⟨[], [], []⟩ [false, false, false, false, true] (tt k3 (tt k2 (tt k1 (tt k0 (pp (pp (xr l0) (xw bB)) nn)))))))) (fun k3 => (lb (fun k4 => (lr 55 31 [1, 1, 1, 1, 0, 1, 0, 0] 1 16 [(4, (ii 0)), (5, (ii 4))] (sl z7l 53 [] ⟨[], [], [some [4, 5]], []⟩ ⟨[], [], []⟩ [false, false, false, false, false, true] (tt k4 (tt k3 (tt k2 (tt k1 (tt k0 (pp (pp (xr l0) (xw bB)) nn))))))))) (fun k4 => (sl z7l 56 [] ⟨[], [], w4g, w4h⟩ ⟨[], [], []⟩ [false, false, false, false, false, false] (tt k4 (tt k3 (tt k2 (tt k1 (tt k0 (pp (pp (xr l0) (xw bB)) nn))))))))))))))))))
theorem w4f (l0 : List R6) (x1 : Int) (n : Nat) (vs : List AVal) (h : Yv (z3o l0 x1) n (z8h l0 x1) = .ret vs) : Jo prog (Zy prog 31) (Zf prog 31 [(.dat l0.length (Zz l0)), (.int .i64 x1)] true []) vs := by
 have := Zo (x4t l0 x1) n _ (y9f l0 x1)
 rwa [h] at this
end Go.Am
namespace Go.Am
open Go.Proofs.Tryz
open Go.Proofs Go.Sort Go.Shelf Go.RowKit Go.Lib
def z2z (L : List R6) (d k : Int) : Bool := (We L k == 0) && ((Yi L (Xs L k) == 0) && decide (Xe L (Xs L k) ≤ d))
def levF (L : List R6) (d : Int) : Nat → Int
 | 0 => 0
 | k + 1 => bif z2z L d ((k + 1 : Nat) : Int) then ((k + 1 : Nat) : Int) else levF L d k
def Wa (L : List R6) (d : Int) : Int := bif Zr L != 0 then Zr L else bif decide (d < 0) || decide (d > 1000) then 2 else bif ((L.length : Int) == 0) then 6 else bif decide ((L.length : Int) > 40) then 4 else 0
def Kh (L : List R6) (d : Int) : Int := bif Wa L d == 0 then levF L d 9 else 0
def Jh (L : List R6) (d : Int) : Bool := true
theorem w9j {L : List R6} {d : Int} : ∀ (k : Nat), k ≤ 9 → ∃ N, Yv (z3o L d) N (.to (.h0 (k : Int))) = .ret [.int .i64 (levF L d k), .int .i64 0]
 | 0, h => by
  refine ⟨1, ?_⟩
  rw [Zv]
  simp (disch := omega) only [z3o, Xk, cond_false]; rfl
 | k + 1, h => by
  obtain ⟨N, hN⟩ := w9j (L := L) (d := d) k (by omega)
  have hw : IntKind.wrap .i64 (((k + 1 : Nat) : Int) - 1) = (k : Int) := by rw [Zd]; exact Zq (by omega)
  refine ⟨N + 1, ?_⟩
  have e : z3o L d (.h0 ((k + 1 : Nat) : Int)) = bif z2z L d ((k + 1 : Nat) : Int) then .ret [.int .i64 ((k + 1 : Nat) : Int), .int .i64 0] else .to (.h0 (k : Int)) := by
   simp (disch := omega) only [z3o, Zb, Yr, hw, show ∀ l k, z1s l k = true from fun _ _ => rfl, show ∀ l m, Vb l m = true from fun _ _ => rfl, cond_true]
   unfold z2z
   cases (We L ((k + 1 : Nat) : Int) == 0) <;> cases (Yi L (Xs L ((k + 1 : Nat) : Int)) == 0) <;> cases decide (Xe L (Xs L ((k + 1 : Nat) : Int)) ≤ d) <;> rfl
  rw [Zv, e]
  unfold levF
  rcases Yg (z2z L d ((k + 1 : Nat) : Int)) with q | q
  ·rw [q]; exact Zm _ _ _
  ·rw [q]; exact hN
theorem v2y (L : List R6) (d : Int) (h : Jh L d = true) : ∃ N, Yv (z3o L d) N (z8h L d) = .ret [.int .i64 (Kh L d), .int .i64 (Wa L d)] := by
 obtain ⟨N, hN⟩ := w9j (L := L) (d := d) 9 (Nat.le_refl _)
 refine ⟨N, ?_⟩
 have hk : (Zr L != 0) = !(Zr L == 0) := rfl
 unfold z8h Kh Wa
 simp only [Zb, z2c, cond_true, hk]
 rcases Yg (Zr L == 0) with a | a <;> rcases Yg (decide (d < 0)) with b | b <;> rcases Yg (decide (d > 1000)) with c | c <;> rcases Yg ((L.length : Int) == 0) with e | e <;> rcases Yg (decide ((L.length : Int) > 40)) with f | f <;> rw [a, b, c, e, f] <;>
  simp only [Bool.not_true, Bool.not_false, Bool.or_true, Bool.or_false, Bool.true_or, cond_true, cond_false, a] <;> first | exact hN | exact Zm _ _ _
def fLev : List AVal → Option (AVal × Bool)
 | [a0, .int .i64 x1] => match asL R6 a0 with
  | some (L0, g0, n0) => some (.tup [.int .i64 (Kh L0 x1), .int .i64 (Wa L0 x1)], isT R6 n0 g0 && (Jh L0 x1))
  | _ => none
 | _ => none
theorem v4j {S : Specs} (hS : Zu prog S) : Zu prog (S.with x9p fLev) := by
 refine z1m hS (by kernel_rfl) fun args v h => ?_
 unfold fLev at h
 split at h
 ·rename_i a0 x1
  split at h
  ·rename_i L0 g0 n0 e0
   simp only [Option.some.injEq, Prod.mk.injEq, Bool.and_eq_true] at h
   obtain ⟨rfl, ho0, hw⟩ := h
   obtain ⟨N, hN⟩ := v2y L0 x1 hw
   exact ⟨_, _, (.cons (Yh e0 ho0) (.cons (.refl _) .nil)), rfl, w4f L0 x1 N _ hN, 3, rfl⟩
  ·cases h
 ·cases h
def Dk : Specs := (Dj.with x9p fLev)
theorem Up : Zu prog Dk := (v4j z7l)
end Go.Am
namespace Go.Am
open Go.Proofs.Tryz
open Go.Proofs
abbrev M1 : List R6 := [⟨0, 0, 0, 1, 1, 1⟩]
abbrev MF : List R6 := [⟨999999, 0, 0, 1000000, 1, 1⟩]
abbrev MG : List R6 := [⟨999000, 0, 0, 1000000, 1000, 1000⟩]
abbrev MN : List R6 := [⟨-1000000, 0, 0, -999999, 1, 1⟩]
abbrev M41 : List R6 := [⟨0, 0, 0, 1, 1, 1⟩, ⟨0, 0, 2, 1, 1, 3⟩, ⟨0, 0, 4, 1, 1, 5⟩, ⟨0, 0, 6, 1, 1, 7⟩, ⟨0, 0, 8, 1, 1, 9⟩, ⟨0, 0, 10, 1, 1, 11⟩, ⟨0, 0, 12, 1, 1, 13⟩, ⟨0, 0, 14, 1, 1, 15⟩, ⟨0, 0, 16, 1, 1, 17⟩, ⟨0, 0, 18, 1, 1, 19⟩, ⟨0, 0, 20, 1, 1, 21⟩, ⟨0, 0, 22, 1, 1, 23⟩, ⟨0, 0, 24, 1, 1, 25⟩, ⟨0, 0, 26, 1, 1, 27⟩, ⟨0, 0, 28, 1, 1, 29⟩, ⟨0, 0, 30, 1, 1, 31⟩, ⟨0, 0, 32, 1, 1, 33⟩, ⟨0, 0, 34, 1, 1, 35⟩, ⟨0, 0, 36, 1, 1, 37⟩, ⟨0, 0, 38, 1, 1, 39⟩, ⟨0, 0, 40, 1, 1, 41⟩, ⟨0, 0, 42, 1, 1, 43⟩, ⟨0, 0, 44, 1, 1, 45⟩, ⟨0, 0, 46, 1, 1, 47⟩, ⟨0, 0, 48, 1, 1, 49⟩, ⟨0, 0, 50, 1, 1, 51⟩, ⟨0, 0, 52, 1, 1, 53⟩, ⟨0, 0, 54, 1, 1, 55⟩, ⟨0, 0, 56, 1, 1, 57⟩, ⟨0, 0, 58, 1, 1, 59⟩, ⟨0, 0, 60, 1, 1, 61⟩, ⟨0, 0, 62, 1, 1, 63⟩, ⟨0, 0, 64, 1, 1, 65⟩, ⟨0, 0, 66, 1, 1, 67⟩, ⟨0, 0, 68, 1, 1, 69⟩, ⟨0, 0, 70, 1, 1, 71⟩, ⟨0, 0, 72, 1, 1, 73⟩, ⟨0, 0, 74, 1, 1, 75⟩, ⟨0, 0, 76, 1, 1, 77⟩, ⟨0, 0, 78, 1, 1, 79⟩, ⟨0, 0, 80, 1, 1, 81⟩]
inductive dnmS where
def dnmC : dnmS → Cfg
 := nofun
def x0k : dnmS → Xd dnmS
 := nofun
def z8r : Xd dnmS := (bif (Uo (cvT M1) 0) then (bif (z0d (cvT M1) 1001) then (bif (Uo (cvT MF) 3) then (bif (Uo (cvT MF) 1000) then (bif (z0d (cvT MF) 3) then (bif (Ur (cvT M1) ([] : List R6)) then (bif (Ur ([] : List R6) (cvT M1)) then (bif (Vb (cvT M1) ([] : List R6)) then (bif (Vb ([] : List R6) (cvT M1)) then (bif (z1s (cvT M1) 10) then (bif (Jh ([] : List R6) 1) then (bif (Jh (cvT M1) 1001) then (bif (Jh (cvT M1) 1000) then (bif (Jh (cvT M1) 1) then (bif (Vb (cvT MF) (cvT MN)) then (bif (Ur (cvT M41) (cvT M1)) then (bif (Vb (cvT M1) (cvT M41)) then (bif (Jh (cvT M41) 0) then (bif (decide (0 ≤ 40)) then (bif (decide (40 ≤ M41.length)) then (bif (Vb (lst R6 40 (fun k => (Zz M41) (0 + k))) (cvT M1)) then (bif ((Xt (cvT M1) 0) == 2) then (bif ((Uy (cvT M1) 1001) == 2) then (bif ((Xt (cvT MF) 3) == 16) then (bif ((Xt (cvT MF) 1000) == 0) then (bif (Vk (cvT (Zc (cvT MF) 1000)) (cvT MG)) then (bif (Jw (cvT (Zc (cvT MF) 1000)) (cvT MG)) then (bif ((Uy (cvT MF) 3) == 0) then (bif ((((Uc (cvT MF) 3).length : Nat) : Int) == 0) then (bif ((Vz (cvT M1) ([] : List R6)) == 6) then (bif ((Vz ([] : List R6) (cvT M1)) == 0) then (bif ((Us ([] : List R6) (cvT M1)) == 0) then (bif ((Yi (cvT M1) ([] : List R6)) == 6) then (bif ((Yi ([] : List R6) (cvT M1)) == 6) then (bif ((We (cvT M1) 10) == 2) then (bif ((Wa ([] : List R6) 1) == 6) then (bif ((Wa (cvT M1) 1001) == 2) then (bif ((Wa (cvT M1) 1000) == 0) then (bif ((Kh (cvT M1) 1000) == 9) then (bif ((Wa (cvT M1) 1) == 0) then (bif ((Kh (cvT M1) 1) == 1) then (bif ((Yi (cvT MF) (cvT MN)) == 0) then (bif ((Xe (cvT MF) (cvT MN)) == 1999999) then (bif ((Vz (cvT M41) (cvT M1)) == 4) then (bif ((Yi (cvT M1) (cvT M41)) == 4) then (bif ((Wa (cvT M41) 0) == 4) then (bif ((Yi (lst R6 40 (fun k => (Zz M41) (0 + k))) (cvT M1)) == 0) then (.ret [(.bool ((Xe (lst R6 40 (fun k => (Zz M41) (0 + k))) (cvT M1)) == 78))]) else (.ret [(.bool false)])) else (.ret [(.bool false)])) else (.ret [(.bool false)])) else (.ret [(.bool false)])) else (.ret [(.bool false)])) else (.ret [(.bool false)])) else (.ret [(.bool false)])) else (.ret [(.bool false)])) else (.ret [(.bool false)])) else (.ret [(.bool false)])) else (.ret [(.bool false)])) else (.ret [(.bool false)])) else (.ret [(.bool false)])) else (.ret [(.bool false)])) else (.ret [(.bool false)])) else (.ret [(.bool false)])) else (.ret [(.bool false)])) else (.ret [(.bool false)])) else (.ret [(.bool false)])) else (.ret [(.bool false)])) else (.ret [(.bool false)])) else .stuck) else (.ret [(.bool false)])) else (.ret [(.bool false)])) else (.ret [(.bool false)])) else (.ret [(.bool false)])) else .stuck) else .stuck) else .stuck) else .stuck) else .stuck) else .stuck) else .stuck) else .stuck) else .stuck) else .stuck) else .stuck) else .stuck) else .stuck) else .stuck) else .stuck) else .stuck) else .stuck) else .stuck) else .stuck) else .stuck) else .stuck)
theorem x5t : ∀ s, Wj prog (Zy prog 13) (dnmC) (dnmC s) (x0k s)
 := nofun
theorem x0l : Wj prog (Zy prog 13) (dnmC) (Zf prog 13 [] true []) (z8r) := (Xi (sl Up (C' := ⟨⟨270, 0, true⟩, (Vv prog 13 [1, 1, 1, 0] 1), (Zg prog 13 [1, 1, 1, 0] 1), none, (Zy prog 13), ⟨Yj [(1, (.dat M1.length (Zz M1))), (2, (.sl 0 0 1 (.un 6))), (48, (.dat M1.length (Zz M1)))], Vf [⟨[(ii 999999), (ii 0), (ii 0), (ii 1000000), (ii 1), (ii 1)], 68, none⟩] 0, 1, [], true⟩, [], .leaf⟩) 55 [] ⟨[3], [1], [some [1, 2, 48]], []⟩ ⟨[(1, .frz 1 M1.length (Xq [(ii 0), (ii 0), (ii 0), (ii 1), (ii 1), (ii 1)] 0 6) (Zz M1)), (48, .frz 1 M1.length (Xq [(ii 0), (ii 0), (ii 0), (ii 1), (ii 1), (ii 1)] 0 6) (Zz M1))], [], []⟩ [] (pp (xZ (.dat 1 (Xq [(ii 0), (ii 0), (ii 0), (ii 1), (ii 1), (ii 1)] 0 6)) 1 (Xq [(ii 0), (ii 0), (ii 0), (ii 1), (ii 1), (ii 1)] 0 6)) (pp (xL 1 M1.length) (pp (xS 1 (Xq [(ii 0), (ii 0), (ii 0), (ii 1), (ii 1), (ii 1)] 0 6) (Zz M1)) (pp (xZ (.dat 1 (Xq [(ii 0), (ii 0), (ii 0), (ii 1), (ii 1), (ii 1)] 0 6)) 1 (Xq [(ii 0), (ii 0), (ii 0), (ii 1), (ii 1), (ii 1)] 0 6)) (pp (xL 1 M1.length) (pp (xS 1 (Xq [(ii 0), (ii 0), (ii 0), (ii 1), (ii 1), (ii 1)] 0 6) (Zz M1)) nn))))))) (lo fun q0_0 => (lo fun q0_1 => (Xi (sl Up (C' := ⟨⟨270, 0, true⟩, (Vv prog 13 [1, 1, 1, 1, 1, 0] 1), (Zg prog 13 [1, 1, 1, 1, 1, 0] 1), none, (Zy prog 13), ⟨Yj [(1, (.dat M1.length (Zz M1))), (2, (.dat MF.length (Zz MF))), (4, (ii (Xt (cvT M1) 0))), (6, (ii (Uy (cvT M1) 1001))), (58, (.dat MF.length (Zz MF)))], Vf [] 0, 0, [], true⟩, [], .leaf⟩) 20 [] ⟨[], [0], [some [1, 2, 4, 6, 58]], []⟩ ⟨[(2, .frz 1 MF.length (Xq [(ii 999999), (ii 0), (ii 0), (ii 1000000), (ii 1), (ii 1)] 0 6) (Zz MF)), (58, .frz 1 MF.length (Xq [(ii 999999), (ii 0), (ii 0), (ii 1000000), (ii 1), (ii 1)] 0 6) (Zz MF))], [], []⟩ [] (pp (xZ (.dat 1 (Xq [(ii 999999), (ii 0), (ii 0), (ii 1000000), (ii 1), (ii 1)] 0 6)) 1 (Xq [(ii 999999), (ii 0), (ii 0), (ii 1000000), (ii 1), (ii 1)] 0 6)) (pp (xL 1 MF.length) (pp (xS 1 (Xq [(ii 999999), (ii 0), (ii 0), (ii 1000000), (ii 1), (ii 1)] 0 6) (Zz MF)) (pp (xZ (.dat 1 (Xq [(ii 999999), (ii 0), (ii 0), (ii 1000000), (ii 1), (ii 1)] 0 6)) 1 (Xq [(ii 999999), (ii 0), (ii 0), (ii 1000000), (ii 1), (ii 1)] 0 6)) (pp (xL 1 MF.length) (pp (xS 1 (Xq [(ii 999999), (ii 0), (ii 0), (ii 1000000), (ii 1), (ii 1)] 0 6) (Zz MF)) (pp (pp (xI R6 M1.length (Zz M1)) (xw q0_1)) (pp (pp (xI R6 M1.length (Zz M1)) (xw q0_0)) nn))))))))) (lo fun q0_0 => (lo fun q0_1 => (lo fun q0_2 => (lo fun q0_3 => (lo fun q0_4 => (lo fun q0_5 => (lo fun q0_6 => (lo fun q0_7 => (lo fun q0_8 => (lo fun q0_9 => (lo fun q0_10 => (lo fun q0_11 => (Xi (sl Up (C' := ⟨⟨270, 0, true⟩, (Vv prog 13 [1, 1, 1, 1, 1, 1, 1, 1, 1, 1, 1, 1, 1, 1, 1, 1, 1, 0] 3), (Zg prog 13 [1, 1, 1, 1, 1, 1, 1, 1, 1, 1, 1, 1, 1, 1, 1, 1, 1, 0] 1), none, (Zy prog 13), ⟨Yj [(1, (.dat M1.length (Zz M1))), (4, (ii (Xt (cvT M1) 0))), (6, (ii (Uy (cvT M1) 1001))), (8, (ii (Xt (cvT MF) 3))), (9, (.dat (Zc (cvT MF) 1000).length (Zz (Zc (cvT MF) 1000)))), (10, (ii (Xt (cvT MF) 1000))), (11, (.dat (Uc (cvT MF) 3).length (Zz (Uc (cvT MF) 3)))), (12, (ii (Uy (cvT MF) 3))), (14, (ii (Vz (cvT M1) ([] : List R6)))), (15, (ii (Us ([] : List R6) (cvT M1)))), (16, (ii (Vz ([] : List R6) (cvT M1)))), (18, (ii (Yi (cvT M1) ([] : List R6)))), (20, (ii (Yi ([] : List R6) (cvT M1)))), (22, (ii (We (cvT M1) 10))), (24, (ii (Wa ([] : List R6) 1))), (26, (ii (Wa (cvT M1) 1001))), (27, (ii (Kh (cvT M1) 1000))), (28, (ii (Wa (cvT M1) 1000))), (29, (ii (Kh (cvT M1) 1))), (30, (ii (Wa (cvT M1) 1))), (117, (.dat MF.length (Zz MF))), (119, (.dat MN.length (Zz MN)))], Vf [] 0, 0, [], true⟩, [], .leaf⟩) 139 [] ⟨[], [1], [some [1, 4, 6, 8, 9, 10, 11, 12, 14, 15, 16, 18, 20, 22, 24, 26, 27, 28, 29, 30, 117, 119]], []⟩ ⟨[(119, .frz 1 MN.length (Xq [(ii (-1000000)), (ii 0), (ii 0), (ii (-999999)), (ii 1), (ii 1)] 0 6) (Zz MN))], [], []⟩ [] (pp (xZ (.dat 1 (Xq [(ii (-1000000)), (ii 0), (ii 0), (ii (-999999)), (ii 1), (ii 1)] 0 6)) 1 (Xq [(ii (-1000000)), (ii 0), (ii 0), (ii (-999999)), (ii 1), (ii 1)] 0 6)) (pp (xL 1 MN.length) (pp (xS 1 (Xq [(ii (-1000000)), (ii 0), (ii 0), (ii (-999999)), (ii 1), (ii 1)] 0 6) (Zz MN)) (pp (pp (xI R6 M1.length (Zz M1)) (xw q0_11)) (pp (pp (xI R6 M1.length (Zz M1)) (xw q0_10)) (pp (pp (xI R6 M1.length (Zz M1)) (xw q0_9)) (pp (pp (xI R6 0 (fun _ => [])) (xw q0_8)) (pp (pp (xI R6 M1.length (Zz M1)) (xw q0_7)) (pp (pp (xI R6 0 (fun _ => [])) (pp (xI R6 M1.length (Zz M1)) (xw q0_6))) (pp (pp (xI R6 M1.length (Zz M1)) (pp (xI R6 0 (fun _ => [])) (xw q0_5))) (pp (pp (xI R6 0 (fun _ => [])) (pp (xI R6 M1.length (Zz M1)) (xw q0_4))) (pp (pp (xI R6 M1.length (Zz M1)) (pp (xI R6 0 (fun _ => [])) (xw q0_3))) (pp (pp (xI R6 MF.length (Zz MF)) (xw q0_2)) (pp (pp (xI R6 MF.length (Zz MF)) (xw q0_1)) (pp (pp (xI R6 MF.length (Zz MF)) (xw q0_0)) nn)))))))))))))))) (lo fun q0_0 => (Xi (sl Up (C' := ⟨⟨270, 0, true⟩, (Vv prog 13 [1, 1, 1, 1, 1, 1, 1, 1, 1, 1, 1, 1, 1, 1, 1, 1, 1, 1, 1, 1, 0] 2), (Zg prog 13 [1, 1, 1, 1, 1, 1, 1, 1, 1, 1, 1, 1, 1, 1, 1, 1, 1, 1, 1, 1, 0] 1), none, (Zy prog 13), ⟨Yj [(1, (.dat M1.length (Zz M1))), (4, (ii (Xt (cvT M1) 0))), (6, (ii (Uy (cvT M1) 1001))), (8, (ii (Xt (cvT MF) 3))), (9, (.dat (Zc (cvT MF) 1000).length (Zz (Zc (cvT MF) 1000)))), (10, (ii (Xt (cvT MF) 1000))), (11, (.dat (Uc (cvT MF) 3).length (Zz (Uc (cvT MF) 3)))), (12, (ii (Uy (cvT MF) 3))), (14, (ii (Vz (cvT M1) ([] : List R6)))), (15, (ii (Us ([] : List R6) (cvT M1)))), (16, (ii (Vz ([] : List R6) (cvT M1)))), (18, (ii (Yi (cvT M1) ([] : List R6)))), (20, (ii (Yi ([] : List R6) (cvT M1)))), (22, (ii (We (cvT M1) 10))), (24, (ii (Wa ([] : List R6) 1))), (26, (ii (Wa (cvT M1) 1001))), (27, (ii (Kh (cvT M1) 1000))), (28, (ii (Wa (cvT M1) 1000))), (29, (ii (Kh (cvT M1) 1))), (30, (ii (Wa (cvT M1) 1))), (31, (ii (Xe (cvT MF) (cvT MN)))), (32, (ii (Yi (cvT MF) (cvT MN)))), (33, (.dat M41.length (Zz M41))), (137, (.dat M41.length (Zz M41))), (138, (.dat M1.length (Zz M1)))], Vf [] 0, 0, [], true⟩, [], .leaf⟩) 1957 [] ⟨[], [122], [some [1, 4, 6, 8, 9, 10, 11, 12, 14, 15, 16, 18, 20, 22, 24, 26, 27, 28, 29, 30, 31, 32, 33, 137, 138]], []⟩ ⟨[(33, .frz 41 M41.length (Xq [(ii 0), (ii 0), (ii 0), (ii 1), (ii 1), (ii 1), (ii 0), (ii 0), (ii 2), (ii 1), (ii 1), (ii 3), (ii 0), (ii 0), (ii 4), (ii 1), (ii 1), (ii 5), (ii 0), (ii 0), (ii 6), (ii 1), (ii 1), (ii 7), (ii 0), (ii 0), (ii 8), (ii 1), (ii 1), (ii 9), (ii 0), (ii 0), (ii 10), (ii 1), (ii 1), (ii 11), (ii 0), (ii 0), (ii 12), (ii 1), (ii 1), (ii 13), (ii 0), (ii 0), (ii 14), (ii 1), (ii 1), (ii 15), (ii 0), (ii 0), (ii 16), (ii 1), (ii 1), (ii 17), (ii 0), (ii 0), (ii 18), (ii 1), (ii 1), (ii 19), (ii 0), (ii 0), (ii 20), (ii 1), (ii 1), (ii 21), (ii 0), (ii 0), (ii 22), (ii 1), (ii 1), (ii 23), (ii 0), (ii 0), (ii 24), (ii 1), (ii 1), (ii 25), (ii 0), (ii 0), (ii 26), (ii 1), (ii 1), (ii 27), (ii 0), (ii 0), (ii 28), (ii 1), (ii 1), (ii 29), (ii 0), (ii 0), (ii 30), (ii 1), (ii 1), (ii 31), (ii 0), (ii 0), (ii 32), (ii 1), (ii 1), (ii 33), (ii 0), (ii 0), (ii 34), (ii 1), (ii 1), (ii 35), (ii 0), (ii 0), (ii 36), (ii 1), (ii 1), (ii 37), (ii 0), (ii 0), (ii 38), (ii 1), (ii 1), (ii 39), (ii 0), (ii 0), (ii 40), (ii 1), (ii 1), (ii 41), (ii 0), (ii 0), (ii 42), (ii 1), (ii 1), (ii 43), (ii 0), (ii 0), (ii 44), (ii 1), (ii 1), (ii 45), (ii 0), (ii 0), (ii 46), (ii 1), (ii 1), (ii 47), (ii 0), (ii 0), (ii 48), (ii 1), (ii 1), (ii 49), (ii 0), (ii 0), (ii 50), (ii 1), (ii 1), (ii 51), (ii 0), (ii 0), (ii 52), (ii 1), (ii 1), (ii 53), (ii 0), (ii 0), (ii 54), (ii 1), (ii 1), (ii 55), (ii 0), (ii 0), (ii 56), (ii 1), (ii 1), (ii 57), (ii 0), (ii 0), (ii 58), (ii 1), (ii 1), (ii 59), (ii 0), (ii 0), (ii 60), (ii 1), (ii 1), (ii 61), (ii 0), (ii 0), (ii 62), (ii 1), (ii 1), (ii 63), (ii 0), (ii 0), (ii 64), (ii 1), (ii 1), (ii 65), (ii 0), (ii 0), (ii 66), (ii 1), (ii 1), (ii 67), (ii 0), (ii 0), (ii 68), (ii 1), (ii 1), (ii 69), (ii 0), (ii 0), (ii 70), (ii 1), (ii 1), (ii 71), (ii 0), (ii 0), (ii 72), (ii 1), (ii 1), (ii 73), (ii 0), (ii 0), (ii 74), (ii 1), (ii 1), (ii 75), (ii 0), (ii 0), (ii 76), (ii 1), (ii 1), (ii 77), (ii 0), (ii 0), (ii 78), (ii 1), (ii 1), (ii 79), (ii 0), (ii 0), (ii 80), (ii 1), (ii 1), (ii 81)] 0 6) (Zz M41)), (137, .frz 41 M41.length (Xq [(ii 0), (ii 0), (ii 0), (ii 1), (ii 1), (ii 1), (ii 0), (ii 0), (ii 2), (ii 1), (ii 1), (ii 3), (ii 0), (ii 0), (ii 4), (ii 1), (ii 1), (ii 5), (ii 0), (ii 0), (ii 6), (ii 1), (ii 1), (ii 7), (ii 0), (ii 0), (ii 8), (ii 1), (ii 1), (ii 9), (ii 0), (ii 0), (ii 10), (ii 1), (ii 1), (ii 11), (ii 0), (ii 0), (ii 12), (ii 1), (ii 1), (ii 13), (ii 0), (ii 0), (ii 14), (ii 1), (ii 1), (ii 15), (ii 0), (ii 0), (ii 16), (ii 1), (ii 1), (ii 17), (ii 0), (ii 0), (ii 18), (ii 1), (ii 1), (ii 19), (ii 0), (ii 0), (ii 20), (ii 1), (ii 1), (ii 21), (ii 0), (ii 0), (ii 22), (ii 1), (ii 1), (ii 23), (ii 0), (ii 0), (ii 24), (ii 1), (ii 1), (ii 25), (ii 0), (ii 0), (ii 26), (ii 1), (ii 1), (ii 27), (ii 0), (ii 0), (ii 28), (ii 1), (ii 1), (ii 29), (ii 0), (ii 0), (ii 30), (ii 1), (ii 1), (ii 31), (ii 0), (ii 0), (ii 32), (ii 1), (ii 1), (ii 33), (ii 0), (ii 0), (ii 34), (ii 1), (ii 1), (ii 35), (ii 0), (ii 0), (ii 36), (ii 1), (ii 1), (ii 37), (ii 0), (ii 0), (ii 38), (ii 1), (ii 1), (ii 39), (ii 0), (ii 0), (ii 40), (ii 1), (ii 1), (ii 41), (ii 0), (ii 0), (ii 42), (ii 1), (ii 1), (ii 43), (ii 0), (ii 0), (ii 44), (ii 1), (ii 1), (ii 45), (ii 0), (ii 0), (ii 46), (ii 1), (ii 1), (ii 47), (ii 0), (ii 0), (ii 48), (ii 1), (ii 1), (ii 49), (ii 0), (ii 0), (ii 50), (ii 1), (ii 1), (ii 51), (ii 0), (ii 0), (ii 52), (ii 1), (ii 1), (ii 53), (ii 0), (ii 0), (ii 54), (ii 1), (ii 1), (ii 55), (ii 0), (ii 0), (ii 56), (ii 1), (ii 1), (ii 57), (ii 0), (ii 0), (ii 58), (ii 1), (ii 1), (ii 59), (ii 0), (ii 0), (ii 60), (ii 1), (ii 1), (ii 61), (ii 0), (ii 0), (ii 62), (ii 1), (ii 1), (ii 63), (ii 0), (ii 0), (ii 64), (ii 1), (ii 1), (ii 65), (ii 0), (ii 0), (ii 66), (ii 1), (ii 1), (ii 67), (ii 0), (ii 0), (ii 68), (ii 1), (ii 1), (ii 69), (ii 0), (ii 0), (ii 70), (ii 1), (ii 1), (ii 71), (ii 0), (ii 0), (ii 72), (ii 1), (ii 1), (ii 73), (ii 0), (ii 0), (ii 74), (ii 1), (ii 1), (ii 75), (ii 0), (ii 0), (ii 76), (ii 1), (ii 1), (ii 77), (ii 0), (ii 0), (ii 78), (ii 1), (ii 1), (ii 79), (ii 0), (ii 0), (ii 80), (ii 1), (ii 1), (ii 81)] 0 6) (Zz M41))], [], []⟩ (trs 41 [false]) (pp (xZ (.dat 41 (Xq [(ii 0), (ii 0), (ii 0), (ii 1), (ii 1), (ii 1), (ii 0), (ii 0), (ii 2), (ii 1), (ii 1), (ii 3), (ii 0), (ii 0), (ii 4), (ii 1), (ii 1), (ii 5), (ii 0), (ii 0), (ii 6), (ii 1), (ii 1), (ii 7), (ii 0), (ii 0), (ii 8), (ii 1), (ii 1), (ii 9), (ii 0), (ii 0), (ii 10), (ii 1), (ii 1), (ii 11), (ii 0), (ii 0), (ii 12), (ii 1), (ii 1), (ii 13), (ii 0), (ii 0), (ii 14), (ii 1), (ii 1), (ii 15), (ii 0), (ii 0), (ii 16), (ii 1), (ii 1), (ii 17), (ii 0), (ii 0), (ii 18), (ii 1), (ii 1), (ii 19), (ii 0), (ii 0), (ii 20), (ii 1), (ii 1), (ii 21), (ii 0), (ii 0), (ii 22), (ii 1), (ii 1), (ii 23), (ii 0), (ii 0), (ii 24), (ii 1), (ii 1), (ii 25), (ii 0), (ii 0), (ii 26), (ii 1), (ii 1), (ii 27), (ii 0), (ii 0), (ii 28), (ii 1), (ii 1), (ii 29), (ii 0), (ii 0), (ii 30), (ii 1), (ii 1), (ii 31), (ii 0), (ii 0), (ii 32), (ii 1), (ii 1), (ii 33), (ii 0), (ii 0), (ii 34), (ii 1), (ii 1), (ii 35), (ii 0), (ii 0), (ii 36), (ii 1), (ii 1), (ii 37), (ii 0), (ii 0), (ii 38), (ii 1), (ii 1), (ii 39), (ii 0), (ii 0), (ii 40), (ii 1), (ii 1), (ii 41), (ii 0), (ii 0), (ii 42), (ii 1), (ii 1), (ii 43), (ii 0), (ii 0), (ii 44), (ii 1), (ii 1), (ii 45), (ii 0), (ii 0), (ii 46), (ii 1), (ii 1), (ii 47), (ii 0), (ii 0), (ii 48), (ii 1), (ii 1), (ii 49), (ii 0), (ii 0), (ii 50), (ii 1), (ii 1), (ii 51), (ii 0), (ii 0), (ii 52), (ii 1), (ii 1), (ii 53), (ii 0), (ii 0), (ii 54), (ii 1), (ii 1), (ii 55), (ii 0), (ii 0), (ii 56), (ii 1), (ii 1), (ii 57), (ii 0), (ii 0), (ii 58), (ii 1), (ii 1), (ii 59), (ii 0), (ii 0), (ii 60), (ii 1), (ii 1), (ii 61), (ii 0), (ii 0), (ii 62), (ii 1), (ii 1), (ii 63), (ii 0), (ii 0), (ii 64), (ii 1), (ii 1), (ii 65), (ii 0), (ii 0), (ii 66), (ii 1), (ii 1), (ii 67), (ii 0), (ii 0), (ii 68), (ii 1), (ii 1), (ii 69), (ii 0), (ii 0), (ii 70), (ii 1), (ii 1), (ii 71), (ii 0), (ii 0), (ii 72), (ii 1), (ii 1), (ii 73), (ii 0), (ii 0), (ii 74), (ii 1), (ii 1), (ii 75), (ii 0), (ii 0), (ii 76), (ii 1), (ii 1), (ii 77), (ii 0), (ii 0), (ii 78), (ii 1), (ii 1), (ii 79), (ii 0), (ii 0), (ii 80), (ii 1), (ii 1), (ii 81)] 0 6)) 41 (Xq [(ii 0), (ii 0), (ii 0), (ii 1), (ii 1), (ii 1), (ii 0), (ii 0), (ii 2), (ii 1), (ii 1), (ii 3), (ii 0), (ii 0), (ii 4), (ii 1), (ii 1), (ii 5), (ii 0), (ii 0), (ii 6), (ii 1), (ii 1), (ii 7), (ii 0), (ii 0), (ii 8), (ii 1), (ii 1), (ii 9), (ii 0), (ii 0), (ii 10), (ii 1), (ii 1), (ii 11), (ii 0), (ii 0), (ii 12), (ii 1), (ii 1), (ii 13), (ii 0), (ii 0), (ii 14), (ii 1), (ii 1), (ii 15), (ii 0), (ii 0), (ii 16), (ii 1), (ii 1), (ii 17), (ii 0), (ii 0), (ii 18), (ii 1), (ii 1), (ii 19), (ii 0), (ii 0), (ii 20), (ii 1), (ii 1), (ii 21), (ii 0), (ii 0), (ii 22), (ii 1), (ii 1), (ii 23), (ii 0), (ii 0), (ii 24), (ii 1), (ii 1), (ii 25), (ii 0), (ii 0), (ii 26), (ii 1), (ii 1), (ii 27), (ii 0), (ii 0), (ii 28), (ii 1), (ii 1), (ii 29), (ii 0), (ii 0), (ii 30), (ii 1), (ii 1), (ii 31), (ii 0), (ii 0), (ii 32), (ii 1), (ii 1), (ii 33), (ii 0), (ii 0), (ii 34), (ii 1), (ii 1), (ii 35), (ii 0), (ii 0), (ii 36), (ii 1), (ii 1), (ii 37), (ii 0), (ii 0), (ii 38), (ii 1), (ii 1), (ii 39), (ii 0), (ii 0), (ii 40), (ii 1), (ii 1), (ii 41), (ii 0), (ii 0), (ii 42), (ii 1), (ii 1), (ii 43), (ii 0), (ii 0), (ii 44), (ii 1), (ii 1), (ii 45), (ii 0), (ii 0), (ii 46), (ii 1), (ii 1), (ii 47), (ii 0), (ii 0), (ii 48), (ii 1), (ii 1), (ii 49), (ii 0), (ii 0), (ii 50), (ii 1), (ii 1), (ii 51), (ii 0), (ii 0), (ii 52), (ii 1), (ii 1), (ii 53), (ii 0), (ii 0), (ii 54), (ii 1), (ii 1), (ii 55), (ii 0), (ii 0), (ii 56), (ii 1), (ii 1), (ii 57), (ii 0), (ii 0), (ii 58), (ii 1), (ii 1), (ii 59), (ii 0), (ii 0), (ii 60), (ii 1), (ii 1), (ii 61), (ii 0), (ii 0), (ii 62), (ii 1), (ii 1), (ii 63), (ii 0), (ii 0), (ii 64), (ii 1), (ii 1), (ii 65), (ii 0), (ii 0), (ii 66), (ii 1), (ii 1), (ii 67), (ii 0), (ii 0), (ii 68), (ii 1), (ii 1), (ii 69), (ii 0), (ii 0), (ii 70), (ii 1), (ii 1), (ii 71), (ii 0), (ii 0), (ii 72), (ii 1), (ii 1), (ii 73), (ii 0), (ii 0), (ii 74), (ii 1), (ii 1), (ii 75), (ii 0), (ii 0), (ii 76), (ii 1), (ii 1), (ii 77), (ii 0), (ii 0), (ii 78), (ii 1), (ii 1), (ii 79), (ii 0), (ii 0), (ii 80), (ii 1), (ii 1), (ii 81)] 0 6)) (pp (xL 41 M41.length) (pp (xS 41 (Xq [(ii 0), (ii 0), (ii 0), (ii 1), (ii 1), (ii 1), (ii 0), (ii 0), (ii 2), (ii 1), (ii 1), (ii 3), (ii 0), (ii 0), (ii 4), (ii 1), (ii 1), (ii 5), (ii 0), (ii 0), (ii 6), (ii 1), (ii 1), (ii 7), (ii 0), (ii 0), (ii 8), (ii 1), (ii 1), (ii 9), (ii 0), (ii 0), (ii 10), (ii 1), (ii 1), (ii 11), (ii 0), (ii 0), (ii 12), (ii 1), (ii 1), (ii 13), (ii 0), (ii 0), (ii 14), (ii 1), (ii 1), (ii 15), (ii 0), (ii 0), (ii 16), (ii 1), (ii 1), (ii 17), (ii 0), (ii 0), (ii 18), (ii 1), (ii 1), (ii 19), (ii 0), (ii 0), (ii 20), (ii 1), (ii 1), (ii 21), (ii 0), (ii 0), (ii 22), (ii 1), (ii 1), (ii 23), (ii 0), (ii 0), (ii 24), (ii 1), (ii 1), (ii 25), (ii 0), (ii 0), (ii 26), (ii 1), (ii 1), (ii 27), (ii 0), (ii 0), (ii 28), (ii 1), (ii 1), (ii 29), (ii 0), (ii 0), (ii 30), (ii 1), (ii 1), (ii 31), (ii 0), (ii 0), (ii 32), (ii 1), (ii 1), (ii 33), (ii 0), (ii 0), (ii 34), (ii 1), (ii 1), (ii 35), (ii 0), (ii 0), (ii 36), (ii 1), (ii 1), (ii 37), (ii 0), (ii 0), (ii 38), (ii 1), (ii 1), (ii 39), (ii 0), (ii 0), (ii 40), (ii 1), (ii 1), (ii 41), (ii 0), (ii 0), (ii 42), (ii 1), (ii 1), (ii 43), (ii 0), (ii 0), (ii 44), (ii 1), (ii 1), (ii 45), (ii 0), (ii 0), (ii 46), (ii 1), (ii 1), (ii 47), (ii 0), (ii 0), (ii 48), (ii 1), (ii 1), (ii 49), (ii 0), (ii 0), (ii 50), (ii 1), (ii 1), (ii 51), (ii 0), (ii 0), (ii 52), (ii 1), (ii 1), (ii 53), (ii 0), (ii 0), (ii 54), (ii 1), (ii 1), (ii 55), (ii 0), (ii 0), (ii 56), (ii 1), (ii 1), (ii 57), (ii 0), (ii 0), (ii 58), (ii 1), (ii 1), (ii 59), (ii 0), (ii 0), (ii 60), (ii 1), (ii 1), (ii 61), (ii 0), (ii 0), (ii 62), (ii 1), (ii 1), (ii 63), (ii 0), (ii 0), (ii 64), (ii 1), (ii 1), (ii 65), (ii 0), (ii 0), (ii 66), (ii 1), (ii 1), (ii 67), (ii 0), (ii 0), (ii 68), (ii 1), (ii 1), (ii 69), (ii 0), (ii 0), (ii 70), (ii 1), (ii 1), (ii 71), (ii 0), (ii 0), (ii 72), (ii 1), (ii 1), (ii 73), (ii 0), (ii 0), (ii 74), (ii 1), (ii 1), (ii 75), (ii 0), (ii 0), (ii 76), (ii 1), (ii 1), (ii 77), (ii 0), (ii 0), (ii 78), (ii 1), (ii 1), (ii 79), (ii 0), (ii 0), (ii 80), (ii 1), (ii 1), (ii 81)] 0 6) (Zz M41)) (pp (xZ (.dat 41 (Xq [(ii 0), (ii 0), (ii 0), (ii 1), (ii 1), (ii 1), (ii 0), (ii 0), (ii 2), (ii 1), (ii 1), (ii 3), (ii 0), (ii 0), (ii 4), (ii 1), (ii 1), (ii 5), (ii 0), (ii 0), (ii 6), (ii 1), (ii 1), (ii 7), (ii 0), (ii 0), (ii 8), (ii 1), (ii 1), (ii 9), (ii 0), (ii 0), (ii 10), (ii 1), (ii 1), (ii 11), (ii 0), (ii 0), (ii 12), (ii 1), (ii 1), (ii 13), (ii 0), (ii 0), (ii 14), (ii 1), (ii 1), (ii 15), (ii 0), (ii 0), (ii 16), (ii 1), (ii 1), (ii 17), (ii 0), (ii 0), (ii 18), (ii 1), (ii 1), (ii 19), (ii 0), (ii 0), (ii 20), (ii 1), (ii 1), (ii 21), (ii 0), (ii 0), (ii 22), (ii 1), (ii 1), (ii 23), (ii 0), (ii 0), (ii 24), (ii 1), (ii 1), (ii 25), (ii 0), (ii 0), (ii 26), (ii 1), (ii 1), (ii 27), (ii 0), (ii 0), (ii 28), (ii 1), (ii 1), (ii 29), (ii 0), (ii 0), (ii 30), (ii 1), (ii 1), (ii 31), (ii 0), (ii 0), (ii 32), (ii 1), (ii 1), (ii 33), (ii 0), (ii 0), (ii 34), (ii 1), (ii 1), (ii 35), (ii 0), (ii 0), (ii 36), (ii 1), (ii 1), (ii 37), (ii 0), (ii 0), (ii 38), (ii 1), (ii 1), (ii 39), (ii 0), (ii 0), (ii 40), (ii 1), (ii 1), (ii 41), (ii 0), (ii 0), (ii 42), (ii 1), (ii 1), (ii 43), (ii 0), (ii 0), (ii 44), (ii 1), (ii 1), (ii 45), (ii 0), (ii 0), (ii 46), (ii 1), (ii 1), (ii 47), (ii 0), (ii 0), (ii 48), (ii 1), (ii 1), (ii 49), (ii 0), (ii 0), (ii 50), (ii 1), (ii 1), (ii 51), (ii 0), (ii 0), (ii 52), (ii 1), (ii 1), (ii 53), (ii 0), (ii 0), (ii 54), (ii 1), (ii 1), (ii 55), (ii 0), (ii 0), (ii 56), (ii 1), (ii 1), (ii 57), (ii 0), (ii 0), (ii 58), (ii 1), (ii 1), (ii 59), (ii 0), (ii 0), (ii 60), (ii 1), (ii 1), (ii 61), (ii 0), (ii 0), (ii 62), (ii 1), (ii 1), (ii 63), (ii 0), (ii 0), (ii 64), (ii 1), (ii 1), (ii 65), (ii 0), (ii 0), (ii 66), (ii 1), (ii 1), (ii 67), (ii 0), (ii 0), (ii 68), (ii 1), (ii 1), (ii 69), (ii 0), (ii 0), (ii 70), (ii 1), (ii 1), (ii 71), (ii 0), (ii 0), (ii 72), (ii 1), (ii 1), (ii 73), (ii 0), (ii 0), (ii 74), (ii 1), (ii 1), (ii 75), (ii 0), (ii 0), (ii 76), (ii 1), (ii 1), (ii 77), (ii 0), (ii 0), (ii 78), (ii 1), (ii 1), (ii 79), (ii 0), (ii 0), (ii 80), (ii 1), (ii 1), (ii 81)] 0 6)) 41 (Xq [(ii 0), (ii 0), (ii 0), (ii 1), (ii 1), (ii 1), (ii 0), (ii 0), (ii 2), (ii 1), (ii 1), (ii 3), (ii 0), (ii 0), (ii 4), (ii 1), (ii 1), (ii 5), (ii 0), (ii 0), (ii 6), (ii 1), (ii 1), (ii 7), (ii 0), (ii 0), (ii 8), (ii 1), (ii 1), (ii 9), (ii 0), (ii 0), (ii 10), (ii 1), (ii 1), (ii 11), (ii 0), (ii 0), (ii 12), (ii 1), (ii 1), (ii 13), (ii 0), (ii 0), (ii 14), (ii 1), (ii 1), (ii 15), (ii 0), (ii 0), (ii 16), (ii 1), (ii 1), (ii 17), (ii 0), (ii 0), (ii 18), (ii 1), (ii 1), (ii 19), (ii 0), (ii 0), (ii 20), (ii 1), (ii 1), (ii 21), (ii 0), (ii 0), (ii 22), (ii 1), (ii 1), (ii 23), (ii 0), (ii 0), (ii 24), (ii 1), (ii 1), (ii 25), (ii 0), (ii 0), (ii 26), (ii 1), (ii 1), (ii 27), (ii 0), (ii 0), (ii 28), (ii 1), (ii 1), (ii 29), (ii 0), (ii 0), (ii 30), (ii 1), (ii 1), (ii 31), (ii 0), (ii 0), (ii 32), (ii 1), (ii 1), (ii 33), (ii 0), (ii 0), (ii 34), (ii 1), (ii 1), (ii 35), (ii 0), (ii 0), (ii 36), (ii 1), (ii 1), (ii 37), (ii 0), (ii 0), (ii 38), (ii 1), (ii 1), (ii 39), (ii 0), (ii 0), (ii 40), (ii 1), (ii 1), (ii 41), (ii 0), (ii 0), (ii 42), (ii 1), (ii 1), (ii 43), (ii 0), (ii 0), (ii 44), (ii 1), (ii 1), (ii 45), (ii 0), (ii 0), (ii 46), (ii 1), (ii 1), (ii 47), (ii 0), (ii 0), (ii 48), (ii 1), (ii 1), (ii 49), (ii 0), (ii 0), (ii 50), (ii 1), (ii 1), (ii 51), (ii 0), (ii 0), (ii 52), (ii 1), (ii 1), (ii 53), (ii 0), (ii 0), (ii 54), (ii 1), (ii 1), (ii 55), (ii 0), (ii 0), (ii 56), (ii 1), (ii 1), (ii 57), (ii 0), (ii 0), (ii 58), (ii 1), (ii 1), (ii 59), (ii 0), (ii 0), (ii 60), (ii 1), (ii 1), (ii 61), (ii 0), (ii 0), (ii 62), (ii 1), (ii 1), (ii 63), (ii 0), (ii 0), (ii 64), (ii 1), (ii 1), (ii 65), (ii 0), (ii 0), (ii 66), (ii 1), (ii 1), (ii 67), (ii 0), (ii 0), (ii 68), (ii 1), (ii 1), (ii 69), (ii 0), (ii 0), (ii 70), (ii 1), (ii 1), (ii 71), (ii 0), (ii 0), (ii 72), (ii 1), (ii 1), (ii 73), (ii 0), (ii 0), (ii 74), (ii 1), (ii 1), (ii 75), (ii 0), (ii 0), (ii 76), (ii 1), (ii 1), (ii 77), (ii 0), (ii 0), (ii 78), (ii 1), (ii 1), (ii 79), (ii 0), (ii 0), (ii 80), (ii 1), (ii 1), (ii 81)] 0 6)) (pp (xL 41 M41.length) (pp (xS 41 (Xq [(ii 0), (ii 0), (ii 0), (ii 1), (ii 1), (ii 1), (ii 0), (ii 0), (ii 2), (ii 1), (ii 1), (ii 3), (ii 0), (ii 0), (ii 4), (ii 1), (ii 1), (ii 5), (ii 0), (ii 0), (ii 6), (ii 1), (ii 1), (ii 7), (ii 0), (ii 0), (ii 8), (ii 1), (ii 1), (ii 9), (ii 0), (ii 0), (ii 10), (ii 1), (ii 1), (ii 11), (ii 0), (ii 0), (ii 12), (ii 1), (ii 1), (ii 13), (ii 0), (ii 0), (ii 14), (ii 1), (ii 1), (ii 15), (ii 0), (ii 0), (ii 16), (ii 1), (ii 1), (ii 17), (ii 0), (ii 0), (ii 18), (ii 1), (ii 1), (ii 19), (ii 0), (ii 0), (ii 20), (ii 1), (ii 1), (ii 21), (ii 0), (ii 0), (ii 22), (ii 1), (ii 1), (ii 23), (ii 0), (ii 0), (ii 24), (ii 1), (ii 1), (ii 25), (ii 0), (ii 0), (ii 26), (ii 1), (ii 1), (ii 27), (ii 0), (ii 0), (ii 28), (ii 1), (ii 1), (ii 29), (ii 0), (ii 0), (ii 30), (ii 1), (ii 1), (ii 31), (ii 0), (ii 0), (ii 32), (ii 1), (ii 1), (ii 33), (ii 0), (ii 0), (ii 34), (ii 1), (ii 1), (ii 35), (ii 0), (ii 0), (ii 36), (ii 1), (ii 1), (ii 37), (ii 0), (ii 0), (ii 38), (ii 1), (ii 1), (ii 39), (ii 0), (ii 0), (ii 40), (ii 1), (ii 1), (ii 41), (ii 0), (ii 0), (ii 42), (ii 1), (ii 1), (ii 43), (ii 0), (ii 0), (ii 44), (ii 1), (ii 1), (ii 45), (ii 0), (ii 0), (ii 46), (ii 1), (ii 1), (ii 47), (ii 0), (ii 0), (ii 48), (ii 1), (ii 1), (ii 49), (ii 0), (ii 0), (ii 50), (ii 1), (ii 1), (ii 51), (ii 0), (ii 0), (ii 52), (ii 1), (ii 1), (ii 53), (ii 0), (ii 0), (ii 54), (ii 1), (ii 1), (ii 55), (ii 0), (ii 0), (ii 56), (ii 1), (ii 1), (ii 57), (ii 0), (ii 0), (ii 58), (ii 1), (ii 1), (ii 59), (ii 0), (ii 0), (ii 60), (ii 1), (ii 1), (ii 61), (ii 0), (ii 0), (ii 62), (ii 1), (ii 1), (ii 63), (ii 0), (ii 0), (ii 64), (ii 1), (ii 1), (ii 65), (ii 0), (ii 0), (ii 66), (ii 1), (ii 1), (ii 67), (ii 0), (ii 0), (ii 68), (ii 1), (ii 1), (ii 69), (ii 0), (ii 0), (ii 70), (ii 1), (ii 1), (ii 71), (ii 0), (ii 0), (ii 72), (ii 1), (ii 1), (ii 73), (ii 0), (ii 0), (ii 74), (ii 1), (ii 1), (ii 75), (ii 0), (ii 0), (ii 76), (ii 1), (ii 1), (ii 77), (ii 0), (ii 0), (ii 78), (ii 1), (ii 1), (ii 79), (ii 0), (ii 0), (ii 80), (ii 1), (ii 1), (ii 81)] 0 6) (Zz M41)) (pp (pp (xI R6 MF.length (Zz MF)) (pp (xI R6 MN.length (Zz MN)) (xw q0_0))) nn)))))))) (lo fun bB => (lo fun dQ => (lo fun dR => (lo fun dU => (lo fun dV => (lo fun dS => (lb (fun k0 => (lb (fun k1 => (lb (fun k2 => (lb (fun k3 => (Xi (sl Up (C' := ⟨⟨270, 0, true⟩, (Vv prog 13 [1, 1, 1, 1, 1, 1, 1, 1, 1, 1, 1, 1, 1, 1, 1, 1, 1, 1, 1, 1, 1, 1, 1, 1, 0] 23), (Zg prog 13 [1, 1, 1, 1, 1, 1, 1, 1, 1, 1, 1, 1, 1, 1, 1, 1, 1, 1, 1, 1, 1, 1, 1, 1, 0] 1), none, (Zy prog 13), ⟨Yj [(11, (.dat (Uc (cvT MF) 3).length (Zz (Uc (cvT MF) 3)))), (12, (ii (Uy (cvT MF) 3))), (14, (ii (Vz (cvT M1) ([] : List R6)))), (15, (ii (Us ([] : List R6) (cvT M1)))), (16, (ii (Vz ([] : List R6) (cvT M1)))), (18, (ii (Yi (cvT M1) ([] : List R6)))), (20, (ii (Yi ([] : List R6) (cvT M1)))), (22, (ii (We (cvT M1) 10))), (24, (ii (Wa ([] : List R6) 1))), (26, (ii (Wa (cvT M1) 1001))), (27, (ii (Kh (cvT M1) 1000))), (28, (ii (Wa (cvT M1) 1000))), (29, (ii (Kh (cvT M1) 1))), (30, (ii (Wa (cvT M1) 1))), (31, (ii (Xe (cvT MF) (cvT MN)))), (32, (ii (Yi (cvT MF) (cvT MN)))), (36, (ii (Vz (cvT M41) (cvT M1)))), (38, (ii (Yi (cvT M1) (cvT M41)))), (40, (ii (Wa (cvT M41) 0))), (41, (ii (Xe (lst R6 40 (fun k => (Zz M41) (0 + k))) (cvT M1)))), (42, (ii (Yi (lst R6 40 (fun k => (Zz M41) (0 + k))) (cvT M1)))), (179, (.bool true)), (180, (.dat (Zc (cvT MF) 1000).length (Zz (Zc (cvT MF) 1000)))), (182, (.dat MG.length (Zz MG)))], Vf [] 0, 0, [], true⟩, [], .leaf⟩) 83 [] ⟨[], [1], [some [11, 12, 14, 15, 16, 18, 20, 22, 24, 26, 27, 28, 29, 30, 31, 32, 36, 38, 40, 41, 42, 179, 180, 182]], []⟩ ⟨[(182, .frz 1 MG.length (Xq [(ii 999000), (ii 0), (ii 0), (ii 1000000), (ii 1000), (ii 1000)] 0 6) (Zz MG))], [], []⟩ (trs 12 []) (pp (xZ (.dat 1 (Xq [(ii 999000), (ii 0), (ii 0), (ii 1000000), (ii 1000), (ii 1000)] 0 6)) 1 (Xq [(ii 999000), (ii 0), (ii 0), (ii 1000000), (ii 1000), (ii 1000)] 0 6)) (pp (xL 1 MG.length) (pp (xS 1 (Xq [(ii 999000), (ii 0), (ii 0), (ii 1000000), (ii 1000), (ii 1000)] 0 6) (Zz MG)) (tt k3 (tt k2 (tt k1 (tt k0 (pp (pp (xI R6 40 (fun k => (Zz M41) (0 + k))) (pp (xI R6 M1.length (Zz M1)) (xw dS))) (pp (pp nn (pp nn (pp (xG (decide (40 ≤ M41.length))) (pp (xG (decide (0 ≤ 40))) (xG (y4o M41.length (Zz M41) 6)))))) (pp (pp (xI R6 M41.length (Zz M41)) (xw dR)) (pp (pp (xI R6 M1.length (Zz M1)) (pp (xI R6 M41.length (Zz M41)) (xw dQ))) (pp (pp (xI R6 M41.length (Zz M41)) (pp (xI R6 M1.length (Zz M1)) (xw bB))) nn))))))))))))) (lo fun cD => (lb (fun k4 => (lb (fun k5 => (lb (fun k6 => (lb (fun k7 => (lb (fun k8 => (lb (fun k9 => (lb (fun k10 => (lb (fun k11 => (lb (fun k12 => (lb (fun k13 => (lb (fun k14 => (lb (fun k15 => (lb (fun k16 => (lb (fun k17 => (lb (fun k18 => (lb (fun k19 => (lb (fun k20 => (lb (fun k21 => (lb (fun k22 => (lb (fun k23 => (lb (fun k24 => (lr 270 3 [1, 1, 1, 1, 1, 1, 0] 1 13 [(0, (.bool ((Xe (lst R6 40 (fun k => (Zz M41) (0 + k))) (cvT M1)) == 78)))] (sl Up 89 [] ⟨[], [], [some [0]], []⟩ ⟨[], [], []⟩ (trs 44 []) (tt k24 (tt k23 (tt k22 (tt k21 (tt k20 (tt k19 (tt k18 (tt k17 (tt k16 (tt k15 (tt k14 (tt k13 (tt k12 (tt k11 (tt k10 (tt k9 (tt k8 (tt k7 (tt k6 (tt k5 (tt k4 (pp (pp (xI R6 (Zc (cvT MF) 1000).length (Zz (Zc (cvT MF) 1000))) (pp (xI R6 MG.length (Zz MG)) (xw cD))) nn))))))))))))))))))))))))) (fun k24 => (lr 270 3 [1, 1, 1, 1, 1, 1, 0] 1 13 [(0, (.bool false))] (sl Up 89 [] ⟨[], [], [some [0]], []⟩ ⟨[], [], []⟩ (trs 42 [false, false]) (tt k24 (tt k23 (tt k22 (tt k21 (tt k20 (tt k19 (tt k18 (tt k17 (tt k16 (tt k15 (tt k14 (tt k13 (tt k12 (tt k11 (tt k10 (tt k9 (tt k8 (tt k7 (tt k6 (tt k5 (tt k4 (pp (pp (xI R6 (Zc (cvT MF) 1000).length (Zz (Zc (cvT MF) 1000))) (pp (xI R6 MG.length (Zz MG)) (xw cD))) nn))))))))))))))))))))))))))) (fun k23 => (lr 270 3 [1, 1, 1, 1, 1, 1, 0] 1 13 [(0, (.bool false))] (sl Up 89 [] ⟨[], [], [some [0]], []⟩ ⟨[], [], []⟩ (trs 40 [false, false, false, false]) (tt k23 (tt k22 (tt k21 (tt k20 (tt k19 (tt k18 (tt k17 (tt k16 (tt k15 (tt k14 (tt k13 (tt k12 (tt k11 (tt k10 (tt k9 (tt k8 (tt k7 (tt k6 (tt k5 (tt k4 (pp (pp (xI R6 (Zc (cvT MF) 1000).length (Zz (Zc (cvT MF) 1000))) (pp (xI R6 MG.length (Zz MG)) (xw cD))) nn)))))))))))))))))))))))))) (fun k22 => (lr 270 3 [1, 1, 1, 1, 1, 1, 0] 1 13 [(0, (.bool false))] (sl Up 89 [] ⟨[], [], [some [0]], []⟩ ⟨[], [], []⟩ (trs 38 [false, false, false, false, false, false]) (tt k22 (tt k21 (tt k20 (tt k19 (tt k18 (tt k17 (tt k16 (tt k15 (tt k14 (tt k13 (tt k12 (tt k11 (tt k10 (tt k9 (tt k8 (tt k7 (tt k6 (tt k5 (tt k4 (pp (pp (xI R6 (Zc (cvT MF) 1000).length (Zz (Zc (cvT MF) 1000))) (pp (xI R6 MG.length (Zz MG)) (xw cD))) nn))))))))))))))))))))))))) (fun k21 => (lr 270 3 [1, 1, 1, 1, 1, 1, 0] 1 13 [(0, (.bool false))] (sl Up 89 [] ⟨[], [], [some [0]], []⟩ ⟨[], [], []⟩ (trs 36 [false, false, false, false, false, false, false, false]) (tt k21 (tt k20 (tt k19 (tt k18 (tt k17 (tt k16 (tt k15 (tt k14 (tt k13 (tt k12 (tt k11 (tt k10 (tt k9 (tt k8 (tt k7 (tt k6 (tt k5 (tt k4 (pp (pp (xI R6 (Zc (cvT MF) 1000).length (Zz (Zc (cvT MF) 1000))) (pp (xI R6 MG.length (Zz MG)) (xw cD))) nn)))))))))))))))))))))))) (fun k20 => (lr 270 3 [1, 1, 1, 1, 1, 1, 0] 1 13 [(0, (.bool false))] (sl Up 89 [] ⟨[], [], [some [0]], []⟩ ⟨[], [], []⟩ (trs 34 [false, false, false, false, false, false, false, false, false, false]) (tt k20 (tt k19 (tt k18 (tt k17 (tt k16 (tt k15 (tt k14 (tt k13 (tt k12 (tt k11 (tt k10 (tt k9 (tt k8 (tt k7 (tt k6 (tt k5 (tt k4 (pp (pp (xI R6 (Zc (cvT MF) 1000).length (Zz (Zc (cvT MF) 1000))) (pp (xI R6 MG.length (Zz MG)) (xw cD))) nn))))))))))))))))))))))) (fun k19 => (lr 270 3 [1, 1, 1, 1, 1, 1, 0] 1 13 [(0, (.bool false))] (sl Up 89 [] ⟨[], [], [some [0]], []⟩ ⟨[], [], []⟩ (trs 32 [false, false, false, false, false, false, false, false, false, false, false, false]) (tt k19 (tt k18 (tt k17 (tt k16 (tt k15 (tt k14 (tt k13 (tt k12 (tt k11 (tt k10 (tt k9 (tt k8 (tt k7 (tt k6 (tt k5 (tt k4 (pp (pp (xI R6 (Zc (cvT MF) 1000).length (Zz (Zc (cvT MF) 1000))) (pp (xI R6 MG.length (Zz MG)) (xw cD))) nn)))))))))))))))))))))) (fun k18 => (lr 270 3 [1, 1, 1, 1, 1, 1, 0] 1 13 [(0, (.bool false))] (sl Up 89 [] ⟨[], [], [some [0]], []⟩ ⟨[], [], []⟩ (trs 30 [false, false, false, false, false, false, false, false, false, false, false, false, false, false]) (tt k18 (tt k17 (tt k16 (tt k15 (tt k14 (tt k13 (tt k12 (tt k11 (tt k10 (tt k9 (tt k8 (tt k7 (tt k6 (tt k5 (tt k4 (pp (pp (xI R6 (Zc (cvT MF) 1000).length (Zz (Zc (cvT MF) 1000))) (pp (xI R6 MG.length (Zz MG)) (xw cD))) nn))))))))))))))))))))) (fun k17 => (lr 270 3 [1, 1, 1, 1, 1, 1, 0] 1 13 [(0, (.bool false))] (sl Up 89 [] ⟨[], [], [some [0]], []⟩ ⟨[], [], []⟩ (trs 28 [false, false, false, false, false, false, false, false, false, false, false, false, false, false, false, false]) (tt k17 (tt k16 (tt k15 (tt k14 (tt k13 (tt k12 (tt k11 (tt k10 (tt k9 (tt k8 (tt k7 (tt k6 (tt k5 (tt k4 (pp (pp (xI R6 (Zc (cvT MF) 1000).length (Zz (Zc (cvT MF) 1000))) (pp (xI R6 MG.length (Zz MG)) (xw cD))) nn)))))))))))))))))))) (fun k16 => (lr 270 3 [1, 1, 1, 1, 1, 1, 0] 1 13 [(0, (.bool false))] (sl Up 89 [] ⟨[], [], [some [0]], []⟩ ⟨[], [], []⟩ (trs 26 [false, false, false, false, false, false, false, false, false, false, false, false, false, false, false, false, false, false]) (tt k16 (tt k15 (tt k14 (tt k13 (tt k12 (tt k11 (tt k10 (tt k9 (tt k8 (tt k7 (tt k6 (tt k5 (tt k4 (pp (pp (xI R6 (Zc (cvT MF) 1000).length (Zz (Zc (cvT MF) 1000))) (pp (xI R6 MG.length (Zz MG)) (xw cD))) nn))))))))))))))))))) (fun k15 => (lr 270 3 [1, 1, 1, 1, 1, 1, 0] 1 13 [(0, (.bool false))] (sl Up 89 [] ⟨[], [], [some [0]], []⟩ ⟨[], [], []⟩ (trs 24 [false, false, false, false, false, false, false, false, false, false, false, false, false, false, false, false, false, false, false, false]) (tt k15 (tt k14 (tt k13 (tt k12 (tt k11 (tt k10 (tt k9 (tt k8 (tt k7 (tt k6 (tt k5 (tt k4 (pp (pp (xI R6 (Zc (cvT MF) 1000).length (Zz (Zc (cvT MF) 1000))) (pp (xI R6 MG.length (Zz MG)) (xw cD))) nn)))))))))))))))))) (fun k14 => (lr 270 3 [1, 1, 1, 1, 1, 1, 0] 1 13 [(0, (.bool false))] (sl Up 89 [] ⟨[], [], [some [0]], []⟩ ⟨[], [], []⟩ (trs 22 [false, false, false, false, false, false, false, false, false, false, false, false, false, false, false, false, false, false, false, false, false, false]) (tt k14 (tt k13 (tt k12 (tt k11 (tt k10 (tt k9 (tt k8 (tt k7 (tt k6 (tt k5 (tt k4 (pp (pp (xI R6 (Zc (cvT MF) 1000).length (Zz (Zc (cvT MF) 1000))) (pp (xI R6 MG.length (Zz MG)) (xw cD))) nn))))))))))))))))) (fun k13 => (lr 270 3 [1, 1, 1, 1, 1, 1, 0] 1 13 [(0, (.bool false))] (sl Up 89 [] ⟨[], [], [some [0]], []⟩ ⟨[], [], []⟩ (trs 20 [false, false, false, false, false, false, false, false, false, false, false, false, false, false, false, false, false, false, false, false, false, false, false, false]) (tt k13 (tt k12 (tt k11 (tt k10 (tt k9 (tt k8 (tt k7 (tt k6 (tt k5 (tt k4 (pp (pp (xI R6 (Zc (cvT MF) 1000).length (Zz (Zc (cvT MF) 1000))) (pp (xI R6 MG.length (Zz MG)) (xw cD))) nn)))))))))))))))) (fun k12 => (lr 270 3 [1, 1, 1, 1, 1, 1, 0] 1 13 [(0, (.bool false))] (sl Up 89 [] ⟨[], [], [some [0]], []⟩ ⟨[], [], []⟩ (trs 18 [false, false, false, false, false, false, false, false, false, false, false, false, false, false, false, false, false, false, false, false, false, false, false, false, false, false]) (tt k12 (tt k11 (tt k10 (tt k9 (tt k8 (tt k7 (tt k6 (tt k5 (tt k4 (pp (pp (xI R6 (Zc (cvT MF) 1000).length (Zz (Zc (cvT MF) 1000))) (pp (xI R6 MG.length (Zz MG)) (xw cD))) nn))))))))))))))) (fun k11 => (lr 270 3 [1, 1, 1, 1, 1, 1, 0] 1 13 [(0, (.bool false))] (sl Up 89 [] ⟨[], [], [some [0]], []⟩ ⟨[], [], []⟩ (trs 16 [false, false, false, false, false, false, false, false, false, false, false, false, false, false, false, false, false, false, false, false, false, false, false, false, false, false, false, false]) (tt k11 (tt k10 (tt k9 (tt k8 (tt k7 (tt k6 (tt k5 (tt k4 (pp (pp (xI R6 (Zc (cvT MF) 1000).length (Zz (Zc (cvT MF) 1000))) (pp (xI R6 MG.length (Zz MG)) (xw cD))) nn)))))))))))))) (fun k10 => (lr 270 3 [1, 1, 1, 1, 1, 1, 0] 1 13 [(0, (.bool false))] (sl Up 89 [] ⟨[], [], [some [0]], []⟩ ⟨[], [], []⟩ (trs 14 [false, false, false, false, false, false, false, false, false, false, false, false, false, false, false, false, false, false, false, false, false, false, false, false, false, false, false, false, false, false]) (tt k10 (tt k9 (tt k8 (tt k7 (tt k6 (tt k5 (tt k4 (pp (pp (xI R6 (Zc (cvT MF) 1000).length (Zz (Zc (cvT MF) 1000))) (pp (xI R6 MG.length (Zz MG)) (xw cD))) nn))))))))))))) (fun k9 => (lr 270 3 [1, 1, 1, 1, 1, 1, 0] 1 13 [(0, (.bool false))] (sl Up 89 [] ⟨[], [], [some [0]], []⟩ ⟨[], [], []⟩ (trs 12 [false, false, false, false, false, false, false, false, false, false, false, false, false, false, false, false, false, false, false, false, false, false, false, false, false, false, false, false, false, false, false, false]) (tt k9 (tt k8 (tt k7 (tt k6 (tt k5 (tt k4 (pp (pp (xI R6 (Zc (cvT MF) 1000).length (Zz (Zc (cvT MF) 1000))) (pp (xI R6 MG.length (Zz MG)) (xw cD))) nn)))))))))))) (fun k8 => (lr 270 3 [1, 1, 1, 1, 1, 1, 0] 1 13 [(0, (.bool false))] (sl Up 89 [] ⟨[], [], [some [0]], []⟩ ⟨[], [], []⟩ (trs 10 [false, false, false, false, false, false, false, false, false, false, false, false, false, false, false, false, false, false, false, false, false, false, false, false, false, false, false, false, false, false, false, false, false, false]) (tt k8 (tt k7 (tt k6 (tt k5 (tt k4 (pp (pp (xI R6 (Zc (cvT MF) 1000).length (Zz (Zc (cvT MF) 1000))) (pp (xI R6 MG.length (Zz MG)) (xw cD))) nn))))))))))) (fun k7 => (lr 270 3 [1, 1, 1, 1, 1, 1, 0] 1 13 [(0, (.bool false))] (sl Up 89 [] ⟨[], [], [some [0]], []⟩ ⟨[], [], []⟩ (trs 8 [false, false, false, false, false, false, false, false, false, false, false, false, false, false, false, false, false, false, false, false, false, false, false, false, false, false, false, false, false, false, false, false, false, false, false, false]) (tt k7 (tt k6 (tt k5 (tt k4 (pp (pp (xI R6 (Zc (cvT MF) 1000).length (Zz (Zc (cvT MF) 1000))) (pp (xI R6 MG.length (Zz MG)) (xw cD))) nn)))))))))) (fun k6 => (lr 270 3 [1, 1, 1, 1, 1, 1, 0] 1 13 [(0, (.bool false))] (sl Up 89 [] ⟨[], [], [some [0]], []⟩ ⟨[], [], []⟩ (trs 6 [false, false, false, false, false, false, false, false, false, false, false, false, false, false, false, false, false, false, false, false, false, false, false, false, false, false, false, false, false, false, false, false, false, false, false, false, false, false]) (tt k6 (tt k5 (tt k4 (pp (pp (xI R6 (Zc (cvT MF) 1000).length (Zz (Zc (cvT MF) 1000))) (pp (xI R6 MG.length (Zz MG)) (xw cD))) nn))))))))) (fun k5 => (lr 270 3 [1, 1, 1, 1, 1, 1, 0] 1 13 [(0, (.bool false))] (sl Up 89 [] ⟨[], [], [some [0]], []⟩ ⟨[], [], []⟩ (trs 3 [false, false, false, false, false, false, false, false, false, false, false, false, false, false, false, false, false, false, false, false, false, false, false, false, false, false, false, false, false, false, false, false, false, false, false, false, false, false, false, false, false]) (tt k5 (tt k4 (pp (pp (xI R6 (Zc (cvT MF) 1000).length (Zz (Zc (cvT MF) 1000))) (pp (xI R6 MG.length (Zz MG)) (xw cD))) nn)))))))) (fun k4 => (lr 270 3 [1, 1, 1, 1, 1, 1, 0] 1 13 [(0, (.bool false))] (sl Up 89 [] ⟨[], [], [some [0]], []⟩ ⟨[], [], []⟩ [true, false, false, false, false, false, false, false, false, false, false, false, false, false, false, false, false, false, false, false, false, false, false, false, false, false, false, false, false, false, false, false, false, false, false, false, false, false, false, false, false, false, false, false] (tt k4 (pp (pp (xI R6 (Zc (cvT MF) 1000).length (Zz (Zc (cvT MF) 1000))) (pp (xI R6 MG.length (Zz MG)) (xw cD))) nn))))))))) (fun k3 => (lr 270 3 [1, 1, 1, 1, 1, 1, 0] 1 13 [(0, (.bool false))] (sl Up 154 [] ⟨[], [], [some [0]], []⟩ ⟨[], [], []⟩ (trs 9 [false, false, false, false, false, false, false, false, false, false, false, false, false, false, false, false, false, false, false, false, false, false, false, false, false, false, false, false, false, false, false, false, false, false, false, false, false, false, false, false, false, false, false, false, false, false, false]) (tt k3 (tt k2 (tt k1 (tt k0 (pp (pp (xI R6 40 (fun k => (Zz M41) (0 + k))) (pp (xI R6 M1.length (Zz M1)) (xw dS))) (pp (pp nn (pp nn (pp (xG (decide (40 ≤ M41.length))) (pp (xG (decide (0 ≤ 40))) (xG (y4o M41.length (Zz M41) 6)))))) (pp (pp (xI R6 M41.length (Zz M41)) (xw dR)) (pp (pp (xI R6 M1.length (Zz M1)) (pp (xI R6 M41.length (Zz M41)) (xw dQ))) (pp (pp (xI R6 M41.length (Zz M41)) (pp (xI R6 M1.length (Zz M1)) (xw bB))) nn)))))))))))))) (fun k2 => (lr 270 3 [1, 1, 1, 1, 1, 1, 0] 1 13 [(0, (.bool false))] (sl Up 154 [] ⟨[], [], [some [0]], []⟩ ⟨[], [], []⟩ (trs 7 [false, false, false, false, false, false, false, false, false, false, false, false, false, false, false, false, false, false, false, false, false, false, false, false, false, false, false, false, false, false, false, false, false, false, false, false, false, false, false, false, false, false, false, false, false, false, false, false, false]) (tt k2 (tt k1 (tt k0 (pp (pp (xI R6 40 (fun k => (Zz M41) (0 + k))) (pp (xI R6 M1.length (Zz M1)) (xw dS))) (pp (pp nn (pp nn (pp (xG (decide (40 ≤ M41.length))) (pp (xG (decide (0 ≤ 40))) (xG (y4o M41.length (Zz M41) 6)))))) (pp (pp (xI R6 M41.length (Zz M41)) (xw dR)) (pp (pp (xI R6 M1.length (Zz M1)) (pp (xI R6 M41.length (Zz M41)) (xw dQ))) (pp (pp (xI R6 M41.length (Zz M41)) (pp (xI R6 M1.length (Zz M1)) (xw bB))) nn))))))))))))) (fun k1 => (lr 270 3 [1, 1, 1, 1, 1, 1, 0] 1 13 [(0, (.bool false))] (sl Up 154 [] ⟨[], [], [some [0]], []⟩ ⟨[], [], []⟩ (trs 5 [false, false, false, false, false, false, false, false, false, false, false, false, false, false, false, false, false, false, false, false, false, false, false, false, false, false, false, false, false, false, false, false, false, false, false, false, false, false, false, false, false, false, false, false, false, false, false, false, false, false, false]) (tt k1 (tt k0 (pp (pp (xI R6 40 (fun k => (Zz M41) (0 + k))) (pp (xI R6 M1.length (Zz M1)) (xw dS))) (pp (pp nn (pp nn (pp (xG (decide (40 ≤ M41.length))) (pp (xG (decide (0 ≤ 40))) (xG (y4o M41.length (Zz M41) 6)))))) (pp (pp (xI R6 M41.length (Zz M41)) (xw dR)) (pp (pp (xI R6 M1.length (Zz M1)) (pp (xI R6 M41.length (Zz M41)) (xw dQ))) (pp (pp (xI R6 M41.length (Zz M41)) (pp (xI R6 M1.length (Zz M1)) (xw bB))) nn)))))))))))) (fun k0 => (lr 270 3 [1, 1, 1, 1, 1, 1, 0] 1 13 [(0, (.bool false))] (sl Up 154 [] ⟨[], [], [some [0]], []⟩ ⟨[], [], []⟩ (trs 3 [false, false, false, false, false, false, false, false, false, false, false, false, false, false, false, false, false, false, false, false, false, false, false, false, false, false, false, false, false, false, false, false, false, false, false, false, false, false, false, false, false, false, false, false, false, false, false, false, false, false, false, false, false]) (tt k0 (pp (pp (xI R6 40 (fun k => (Zz M41) (0 + k))) (pp (xI R6 M1.length (Zz M1)) (xw dS))) (pp (pp nn (pp nn (pp (xG (decide (40 ≤ M41.length))) (pp (xG (decide (0 ≤ 40))) (xG (y4o M41.length (Zz M41) 6)))))) (pp (pp (xI R6 M41.length (Zz M41)) (xw dR)) (pp (pp (xI R6 M1.length (Zz M1)) (pp (xI R6 M41.length (Zz M41)) (xw dQ))) (pp (pp (xI R6 M41.length (Zz M41)) (pp (xI R6 M1.length (Zz M1)) (xw bB))) nn)))))))))))))))))))))))))))))))))))
theorem dnm_ends (n : Nat) (vs : List AVal) (h : Yv (x0k) n (z8r) = .ret vs) : Jo prog (Zy prog 13) (Zf prog 13 [] true []) vs := by
 have := Zo (x5t) n _ (x0l)
 rwa [h] at this
end Go.Am
namespace Go.Am
open Go.Proofs Go.Sort Go.Shelf Go.RowKit Go.Lib
abbrev M40 : List R6 := M41.take 40
theorem n1 : Zr M1 = 0 := Qo (by kernel_rfl)
theorem nF : Zr MF = 0 := Qo (by kernel_rfl)
theorem nG : Zr MG = 0 := Qo (by kernel_rfl)
theorem nN : Zr MN = 0 := Qo (by kernel_rfl)
theorem n0 : Zr [] = 0 := Qo (by kernel_rfl)
theorem n41 : Zr M41 = 0 := Qo (by kernel_rfl)
theorem n40 : Zr M40 = 0 := Qo (by kernel_rfl)
theorem e40 : lst R6 40 (fun k => (Zz M41) (0 + k)) = M40 := x2i M41 (off := 0) (n := 40) (by decide)
theorem qz1 : Xt M1 0 = 2 := by
 unfold Xt
 rw [n1]
 kernel_rfl
theorem qz2 : Uy M1 1001 = 2 := by
 unfold Uy
 rw [n1]
 kernel_rfl
theorem qz3 : Xt MF 3 = 16 := by
 unfold Xt
 rw [nF]
 kernel_rfl
theorem mFG : MF.map (oB 1000) = MG := by kernel_rfl
theorem qz4 : Xt MF 1000 = 0 := by
 unfold Xt
 rw [nF, mFG, (Xo nG).1]
 kernel_rfl
theorem qz5 : Zc MF 1000 = MG := by
 unfold Zc y7i
 rw [nF, mFG, (Xo nG).2]
 kernel_rfl
theorem iFO : v3h MF 3 = [] := by
 unfold v3h
 rw [y1u, y3o]
 kernel_rfl
theorem qz6 : Uy MF 3 = 0 := by
 unfold Uy
 rw [nF, y1u, y3o, iFO]
 kernel_rfl
theorem qz7 : Uc MF 3 = [] := by
 unfold Uc
 rw [qz6, iFO]; rfl
theorem qz8 : Vz M1 [] = 6 := by
 unfold Vz eRe
 rw [n1, n0]
 kernel_rfl
theorem qz9 : Vz [] M1 = 0 := by
 unfold Vz eRe
 rw [n0, n1]
 kernel_rfl
theorem qz10 : Us [] M1 = 0 := by
 unfold Us eRe
 rw [n0, n1]
 kernel_rfl
theorem qz11 : Yi M1 [] = 6 := by
 unfold Yi eDi
 rw [n1, n0]
 kernel_rfl
theorem qz12 : Yi [] M1 = 6 := by
 unfold Yi eDi
 rw [n0, n1]
 kernel_rfl
theorem qz13 : We M1 10 = 2 := by
 unfold We
 rw [n1]
 kernel_rfl
theorem qz14 : Wa [] 1 = 6 := by
 unfold Wa
 rw [n0]
 kernel_rfl
theorem qz15 : Wa M1 1001 = 2 := by
 unfold Wa
 rw [n1]
 kernel_rfl
theorem qz16 : Wa M1 1000 = 0 := by
 unfold Wa
 rw [n1]
 kernel_rfl
theorem qz17 : Wa M1 1 = 0 := by
 unfold Wa
 rw [n1]
 kernel_rfl
theorem qz18 : Yi MF MN = 0 := by
 unfold Yi eDi
 rw [nF, nN]
 kernel_rfl
theorem qz19 : Xe MF MN = 1999999 := by
 unfold Xe eDi
 rw [nF, nN]
 kernel_rfl
theorem qz20 : Vz M41 M1 = 4 := by
 unfold Vz eRe
 rw [n41, n1]
 kernel_rfl
theorem qz21 : Yi M1 M41 = 4 := by
 unfold Yi eDi
 rw [n1, n41]
 kernel_rfl
theorem qz22 : Wa M41 0 = 4 := by
 unfold Wa
 rw [n41]
 kernel_rfl
theorem qz23 : Yi M40 M1 = 0 := by
 unfold Yi eDi
 rw [n40, n1]
 kernel_rfl
theorem qz24 : Xe M40 M1 = 78 := by
 unfold Xe eDi
 rw [n40, n1]
 kernel_rfl
theorem s1 : Zr ([⟨0, 0, 0, 2, 2, 2⟩] : List R6) = 0 := Qo (by kernel_rfl)
theorem m1 : M1.map (oB (x8v 1)) = [⟨0, 0, 0, 2, 2, 2⟩] := by kernel_rfl
theorem p1 : We M1 1 = 0 := by
 unfold We Xt
 rw [n1, m1, (Xo s1).1]
 kernel_rfl
theorem r1 : Xs M1 1 = [⟨0, 0, 0, 2, 2, 2⟩] := by
 unfold Xs x1y Zc y7i
 rw [n1, m1, (Xo s1).2]
 kernel_rfl
theorem d1 : Yi M1 ([⟨0, 0, 0, 2, 2, 2⟩] : List R6) = 0 := by
 unfold Yi eDi
 rw [n1, s1]
 kernel_rfl
theorem v1 : Xe M1 ([⟨0, 0, 0, 2, 2, 2⟩] : List R6) = 1 := by
 unfold Xe eDi
 rw [n1, s1]
 kernel_rfl
theorem l1 (d : Int) : z2z M1 d 1 = decide ((1 : Int) ≤ d) := by
 unfold z2z
 rw [p1, r1, d1, v1]; rfl
theorem s2 : Zr ([⟨0, 0, 0, 4, 4, 4⟩] : List R6) = 0 := Qo (by kernel_rfl)
theorem m2 : M1.map (oB (x8v 2)) = [⟨0, 0, 0, 4, 4, 4⟩] := by kernel_rfl
theorem p2 : We M1 2 = 0 := by
 unfold We Xt
 rw [n1, m2, (Xo s2).1]
 kernel_rfl
theorem r2 : Xs M1 2 = [⟨0, 0, 0, 4, 4, 4⟩] := by
 unfold Xs x1y Zc y7i
 rw [n1, m2, (Xo s2).2]
 kernel_rfl
theorem d2 : Yi M1 ([⟨0, 0, 0, 4, 4, 4⟩] : List R6) = 0 := by
 unfold Yi eDi
 rw [n1, s2]
 kernel_rfl
theorem v2 : Xe M1 ([⟨0, 0, 0, 4, 4, 4⟩] : List R6) = 3 := by
 unfold Xe eDi
 rw [n1, s2]
 kernel_rfl
theorem l2 (d : Int) : z2z M1 d 2 = decide ((3 : Int) ≤ d) := by
 unfold z2z
 rw [p2, r2, d2, v2]; rfl
theorem s3 : Zr ([⟨0, 0, 0, 8, 8, 8⟩] : List R6) = 0 := Qo (by kernel_rfl)
theorem m3 : M1.map (oB (x8v 3)) = [⟨0, 0, 0, 8, 8, 8⟩] := by kernel_rfl
theorem p3 : We M1 3 = 0 := by
 unfold We Xt
 rw [n1, m3, (Xo s3).1]
 kernel_rfl
theorem r3 : Xs M1 3 = [⟨0, 0, 0, 8, 8, 8⟩] := by
 unfold Xs x1y Zc y7i
 rw [n1, m3, (Xo s3).2]
 kernel_rfl
theorem d3 : Yi M1 ([⟨0, 0, 0, 8, 8, 8⟩] : List R6) = 0 := by
 unfold Yi eDi
 rw [n1, s3]
 kernel_rfl
theorem v3 : Xe M1 ([⟨0, 0, 0, 8, 8, 8⟩] : List R6) = 7 := by
 unfold Xe eDi
 rw [n1, s3]
 kernel_rfl
theorem l3 (d : Int) : z2z M1 d 3 = decide ((7 : Int) ≤ d) := by
 unfold z2z
 rw [p3, r3, d3, v3]; rfl
theorem s4 : Zr ([⟨0, 0, 0, 16, 16, 16⟩] : List R6) = 0 := Qo (by kernel_rfl)
theorem m4 : M1.map (oB (x8v 4)) = [⟨0, 0, 0, 16, 16, 16⟩] := by kernel_rfl
theorem p4 : We M1 4 = 0 := by
 unfold We Xt
 rw [n1, m4, (Xo s4).1]
 kernel_rfl
theorem r4 : Xs M1 4 = [⟨0, 0, 0, 16, 16, 16⟩] := by
 unfold Xs x1y Zc y7i
 rw [n1, m4, (Xo s4).2]
 kernel_rfl
theorem d4 : Yi M1 ([⟨0, 0, 0, 16, 16, 16⟩] : List R6) = 0 := by
 unfold Yi eDi
 rw [n1, s4]
 kernel_rfl
theorem v4 : Xe M1 ([⟨0, 0, 0, 16, 16, 16⟩] : List R6) = 15 := by
 unfold Xe eDi
 rw [n1, s4]
 kernel_rfl
theorem l4 (d : Int) : z2z M1 d 4 = decide ((15 : Int) ≤ d) := by
 unfold z2z
 rw [p4, r4, d4, v4]; rfl
theorem s5 : Zr ([⟨0, 0, 0, 32, 32, 32⟩] : List R6) = 0 := Qo (by kernel_rfl)
theorem m5 : M1.map (oB (x8v 5)) = [⟨0, 0, 0, 32, 32, 32⟩] := by kernel_rfl
theorem p5 : We M1 5 = 0 := by
 unfold We Xt
 rw [n1, m5, (Xo s5).1]
 kernel_rfl
theorem r5 : Xs M1 5 = [⟨0, 0, 0, 32, 32, 32⟩] := by
 unfold Xs x1y Zc y7i
 rw [n1, m5, (Xo s5).2]
 kernel_rfl
theorem d5 : Yi M1 ([⟨0, 0, 0, 32, 32, 32⟩] : List R6) = 0 := by
 unfold Yi eDi
 rw [n1, s5]
 kernel_rfl
theorem v5 : Xe M1 ([⟨0, 0, 0, 32, 32, 32⟩] : List R6) = 31 := by
 unfold Xe eDi
 rw [n1, s5]
 kernel_rfl
theorem l5 (d : Int) : z2z M1 d 5 = decide ((31 : Int) ≤ d) := by
 unfold z2z
 rw [p5, r5, d5, v5]; rfl
theorem s6 : Zr ([⟨0, 0, 0, 64, 64, 64⟩] : List R6) = 0 := Qo (by kernel_rfl)
theorem m6 : M1.map (oB (x8v 6)) = [⟨0, 0, 0, 64, 64, 64⟩] := by kernel_rfl
theorem p6 : We M1 6 = 0 := by
 unfold We Xt
 rw [n1, m6, (Xo s6).1]
 kernel_rfl
theorem r6 : Xs M1 6 = [⟨0, 0, 0, 64, 64, 64⟩] := by
 unfold Xs x1y Zc y7i
 rw [n1, m6, (Xo s6).2]
 kernel_rfl
theorem d6 : Yi M1 ([⟨0, 0, 0, 64, 64, 64⟩] : List R6) = 0 := by
 unfold Yi eDi
 rw [n1, s6]
 kernel_rfl
theorem v6 : Xe M1 ([⟨0, 0, 0, 64, 64, 64⟩] : List R6) = 63 := by
 unfold Xe eDi
 rw [n1, s6]
 kernel_rfl
theorem l6 (d : Int) : z2z M1 d 6 = decide ((63 : Int) ≤ d) := by
 unfold z2z
 rw [p6, r6, d6, v6]; rfl
theorem s7 : Zr ([⟨0, 0, 0, 128, 128, 128⟩] : List R6) = 0 := Qo (by kernel_rfl)
theorem m7 : M1.map (oB (x8v 7)) = [⟨0, 0, 0, 128, 128, 128⟩] := by kernel_rfl
theorem p7 : We M1 7 = 0 := by
 unfold We Xt
 rw [n1, m7, (Xo s7).1]
 kernel_rfl
theorem r7 : Xs M1 7 = [⟨0, 0, 0, 128, 128, 128⟩] := by
 unfold Xs x1y Zc y7i
 rw [n1, m7, (Xo s7).2]
 kernel_rfl
theorem d7 : Yi M1 ([⟨0, 0, 0, 128, 128, 128⟩] : List R6) = 0 := by
 unfold Yi eDi
 rw [n1, s7]
 kernel_rfl
theorem v7 : Xe M1 ([⟨0, 0, 0, 128, 128, 128⟩] : List R6) = 127 := by
 unfold Xe eDi
 rw [n1, s7]
 kernel_rfl
theorem l7 (d : Int) : z2z M1 d 7 = decide ((127 : Int) ≤ d) := by
 unfold z2z
 rw [p7, r7, d7, v7]; rfl
theorem s8 : Zr ([⟨0, 0, 0, 256, 256, 256⟩] : List R6) = 0 := Qo (by kernel_rfl)
theorem m8 : M1.map (oB (x8v 8)) = [⟨0, 0, 0, 256, 256, 256⟩] := by kernel_rfl
theorem p8 : We M1 8 = 0 := by
 unfold We Xt
 rw [n1, m8, (Xo s8).1]
 kernel_rfl
theorem r8 : Xs M1 8 = [⟨0, 0, 0, 256, 256, 256⟩] := by
 unfold Xs x1y Zc y7i
 rw [n1, m8, (Xo s8).2]
 kernel_rfl
theorem d8 : Yi M1 ([⟨0, 0, 0, 256, 256, 256⟩] : List R6) = 0 := by
 unfold Yi eDi
 rw [n1, s8]
 kernel_rfl
theorem v8 : Xe M1 ([⟨0, 0, 0, 256, 256, 256⟩] : List R6) = 255 := by
 unfold Xe eDi
 rw [n1, s8]
 kernel_rfl
theorem l8 (d : Int) : z2z M1 d 8 = decide ((255 : Int) ≤ d) := by
 unfold z2z
 rw [p8, r8, d8, v8]; rfl
theorem s9 : Zr ([⟨0, 0, 0, 512, 512, 512⟩] : List R6) = 0 := Qo (by kernel_rfl)
theorem m9 : M1.map (oB (x8v 9)) = [⟨0, 0, 0, 512, 512, 512⟩] := by kernel_rfl
theorem p9 : We M1 9 = 0 := by
 unfold We Xt
 rw [n1, m9, (Xo s9).1]
 kernel_rfl
theorem r9 : Xs M1 9 = [⟨0, 0, 0, 512, 512, 512⟩] := by
 unfold Xs x1y Zc y7i
 rw [n1, m9, (Xo s9).2]
 kernel_rfl
theorem d9 : Yi M1 ([⟨0, 0, 0, 512, 512, 512⟩] : List R6) = 0 := by
 unfold Yi eDi
 rw [n1, s9]
 kernel_rfl
theorem v9 : Xe M1 ([⟨0, 0, 0, 512, 512, 512⟩] : List R6) = 511 := by
 unfold Xe eDi
 rw [n1, s9]
 kernel_rfl
theorem l9 (d : Int) : z2z M1 d 9 = decide ((511 : Int) ≤ d) := by
 unfold z2z
 rw [p9, r9, d9, v9]; rfl
theorem qz25 : Kh M1 1000 = 9 := by
 unfold Kh
 rw [qz16]
 show (bif z2z M1 1000 9 then (9 : Int) else _) = 9
 rw [l9]; rfl
theorem qz26 : Kh M1 1 = 1 := by
 unfold Kh
 rw [qz17]
 show (bif z2z M1 1 9 then (9 : Int) else bif z2z M1 1 8 then 8 else bif z2z M1 1 7 then 7 else bif z2z M1 1 6 then 6 else bif z2z M1 1 5 then 5 else bif z2z M1 1 4 then 4 else bif z2z M1 1 3 then 3 else bif z2z M1 1 2 then 2 else bif z2z M1 1 1 then 1 else 0) = 1
 rw [l9, l8, l7, l6, l5, l4, l3, l2, l1]; rfl
theorem dnm_run : ∃ N, Yv x0k N z8r = .ret [.bool true] := ⟨0, by
 unfold z8r
 rw [e40]
 simp only [Zb, show ∀ l n, Uo l n = true from fun _ _ => rfl, show ∀ l n, z0d l n = true from fun _ _ => rfl, show ∀ l m, Ur l m = true from fun _ _ => rfl, show ∀ l m, Vb l m = true from fun _ _ => rfl, show ∀ l k, z1s l k = true from fun _ _ => rfl, show ∀ l k, Jh l k = true from fun _ _ => rfl, cond_true]
 rw [qz1, qz2, qz3, qz4, qz5, qz6, qz7, qz8, qz9, qz10, qz11, qz12, qz13, qz14, qz15, qz16, qz17, qz18, qz19, qz20, qz21, qz22, qz23, qz24, qz25, qz26]
 kernel_rfl⟩
end Go.Am
end
