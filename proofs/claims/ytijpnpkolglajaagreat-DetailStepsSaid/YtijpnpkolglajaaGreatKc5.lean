/- A part of a proof: several texts in one. -/
import Derived.Test.YtijpnpkolglajaaGreatKc4
set_option maxRecDepth 1000000
set_option maxHeartbeats 8000000
set_option linter.unusedVariables false
set_option linter.unusedSimpArgs false
noncomputable section
namespace Go.Am
open Go.Proofs.Tryz
open Go.Proofs
inductive innS where
 | h0 (v14 : Int) (aA : List Int)
 | h1 (v5 : Int) (aC : List R6) (bF : List R4) (aE : Int) (aK : Int) (aT : Nat) (aN : List Int)
 | h2 (v5 : Int) (v6 : List R6) (v19 : Int) (aC : List R6) (bF : List R4) (aE : Int) (aK : Int) (aT : Nat) (aN : List Int)
 | h3 (v70 : List R4) (v71 : Int) (v72 : Int) (bV : Int) (aL : Int) (aI : Int) (bO : List R6) (aC : List R6) (aE : Int) (cB : Nat) (cC : List Int)
 | h4 (v14 : Int) (bV : Int) (aL : Int) (aI : Int) (bO : List R6) (aC : List R6) (aE : List R4) (aK : Int) (dR : Int) (cK : Nat) (cV : List Int)
def innC (l0 : List R6) (x1 : Int) : innS → Cfg
 | .h0 v14 aA => ⟨⟨45, 0, true⟩, none, (Zc prog 80 [1, 1, 0, 1, 0, 0] 0), none, (Zy prog 4), ⟨Yg [(2, (ii x1)), (3, (.ptr 0 0)), (4, (.ptr 1 0)), (7, (.ptr 2 0)), (12, (.dat l0.length (Zz l0))), (13, (ii (l0.length : Int))), (14, (ii v14))], Vr [⟨[(.dat l0.length (Zz l0))], 22, none⟩, ⟨[(ii 2)], 3, none⟩, ⟨[(.sla 10 1 0 aA.length (.un 1))], 47, none⟩, ⟨[(ii x1)], 3, none⟩, ⟨[.nils], 30, none⟩, ⟨[(ii 0)], 24, none⟩, ⟨[.nils], 30, none⟩, ⟨[.nils], 106, none⟩, ⟨[(ii 0)], 3, none⟩, ⟨[(ii 0)], 3, none⟩, ⟨rows aA.length (Zz aA), 3, some ⟨1, aA.length, (Zz aA)⟩⟩] 0, 11, [], true⟩, [⟨⟨99, 0, true⟩, (Vb prog 36 [1, 1, 1, 1, 1, 0, 0] 2), (Zc prog 36 [1, 1, 1, 1, 1, 0, 0] 1), none, (Zy prog 36), Yg [(3, (.ptr 3 0)), (4, (.ptr 4 0)), (5, (.ptr 5 0)), (7, (.ptr 6 0)), (8, (.ptr 7 0)), (9, (.ptr 8 0)), (10, (.ptr 9 0)), (23, (.dat l0.length (Zz l0))), (24, (ii x1))]⟩], .leaf⟩
 | .h1 v5 aC bF aE aK aT aN => ⟨⟨63, 0, true⟩, none, (Zc prog 121 [1, 0, 0] 0), none, [], ⟨Yg [(0, (.yld 0)), (1, (.ptr 8 0)), (2, (.ptr 10 0)), (3, (.ptr 11 0)), (5, (ii v5))], z4x [(1, ⟨[(ii x1)], 3, none⟩), (2, ⟨[.nils], 30, none⟩), (3, ⟨[(ii 0)], 24, none⟩), (4, ⟨[(.sla 12 6 0 aC.length (.un 6))], 30, none⟩), (5, ⟨[(.dat bF.length (Zz bF))], 106, none⟩), (6, ⟨[(ii aE)], 3, none⟩), (7, ⟨[(ii aK)], 3, none⟩), (8, ⟨[(.sla 9 1 0 aT (.un 1))], 47, none⟩), (9, ⟨rows aN.length (Zz aN), 3, some ⟨1, aN.length, (Zz aN)⟩⟩), (10, ⟨[(.dat l0.length (Zz l0))], 22, none⟩), (11, ⟨[(ii 2)], 3, none⟩), (12, ⟨rows aC.length (Zz aC), 68, some ⟨6, aC.length, (Zz aC)⟩⟩)], 13, [], true⟩, [⟨⟨99, 0, true⟩, none, (.inRangeFunc 0 :: (Zc prog 36 [1, 1, 1, 1, 1, 0, 1, 0] 1)), none, (Zy prog 36), Yg [(4, (.ptr 2 0)), (5, (.ptr 3 0)), (7, (.ptr 4 0))]⟩], (z4z [(0, ⟨.ready, none, 99, Yg [(3, (.ptr 1 0)), (4, (.ptr 2 0)), (5, (.ptr 3 0)), (7, (.ptr 4 0)), (8, (.ptr 5 0)), (9, (.ptr 6 0)), (10, (.ptr 7 0))], [26, 27], (Xh prog 36 [1, 1, 1, 1, 1, 0, 1, 0, 0]), (Xh prog 36 [1, 1, 1, 1, 1, 0, 1, 0, 1])⟩)])⟩
 | .h2 v5 v6 v19 aC bF aE aK aT aN => ⟨⟨63, 0, true⟩, none, (Zc prog 121 [1, 0, 0, 1, 0, 0, 1, 0, 1, 0, 0] 0), none, [], ⟨Yg [(0, (.yld 0)), (1, (.ptr 8 0)), (2, (.ptr 10 0)), (3, (.ptr 11 0)), (5, (ii v5)), (6, (.sla 12 6 0 v6.length (.un 6))), (17, (.dat l0.length (Zz l0))), (18, (ii (l0.length : Int))), (19, (ii v19))], z4x [(1, ⟨[(ii x1)], 3, none⟩), (2, ⟨[.nils], 30, none⟩), (3, ⟨[(ii 0)], 24, none⟩), (4, ⟨[(.sla 13 6 0 aC.length (.un 6))], 30, none⟩), (5, ⟨[(.dat bF.length (Zz bF))], 106, none⟩), (6, ⟨[(ii aE)], 3, none⟩), (7, ⟨[(ii aK)], 3, none⟩), (8, ⟨[(.sla 9 1 0 aT (.un 1))], 47, none⟩), (9, ⟨rows aN.length (Zz aN), 3, some ⟨1, aN.length, (Zz aN)⟩⟩), (10, ⟨[(.dat l0.length (Zz l0))], 22, none⟩), (11, ⟨[(ii 2)], 3, none⟩), (12, ⟨rows v6.length (Zz v6), 68, some ⟨6, v6.length, (Zz v6)⟩⟩), (13, ⟨rows aC.length (Zz aC), 68, some ⟨6, aC.length, (Zz aC)⟩⟩)], 14, [], true⟩, [⟨⟨99, 0, true⟩, none, (.inRangeFunc 0 :: (Zc prog 36 [1, 1, 1, 1, 1, 0, 1, 0] 1)), none, (Zy prog 36), Yg [(4, (.ptr 2 0)), (5, (.ptr 3 0)), (7, (.ptr 4 0))]⟩], (z4z [(0, ⟨.ready, none, 99, Yg [(3, (.ptr 1 0)), (4, (.ptr 2 0)), (5, (.ptr 3 0)), (7, (.ptr 4 0)), (8, (.ptr 5 0)), (9, (.ptr 6 0)), (10, (.ptr 7 0))], [26, 27], (Xh prog 36 [1, 1, 1, 1, 1, 0, 1, 0, 0]), (Xh prog 36 [1, 1, 1, 1, 1, 0, 1, 0, 1])⟩)])⟩
 | .h3 v70 v71 v72 bV aL aI bO aC aE cB cC => ⟨⟨99, 0, true⟩, none, (Zc prog 36 [1, 1, 1, 1, 1, 0, 1, 0, 1, 0, 1, 1, 1, 1, 1, 0, 0] 0), (some 0), [], ⟨Yg [(7, (.ptr 4 0)), (11, (.ptr 8 0)), (70, (.dat v70.length (Zz v70))), (71, (ii v71)), (72, (ii v72))], z4x [(1, ⟨[(ii x1)], 3, none⟩), (2, ⟨[.nils], 30, none⟩), (3, ⟨[(ii 0)], 24, none⟩), (4, ⟨[(.sla 13 6 0 aC.length (.un 6))], 30, none⟩), (5, ⟨[(.dat v70.length (Zz v70))], 106, none⟩), (6, ⟨[(ii aE)], 3, none⟩), (7, ⟨[(ii aI)], 3, none⟩), (8, ⟨[(ii aL), (ii aI)], 110, none⟩), (9, ⟨[(.sla 10 1 0 cB (.un 1))], 47, none⟩), (10, ⟨rows cC.length (Zz cC), 3, some ⟨1, cC.length, (Zz cC)⟩⟩), (11, ⟨[(.dat l0.length (Zz l0))], 22, none⟩), (12, ⟨[(ii 2)], 3, none⟩), (13, ⟨rows aC.length (Zz aC), 68, some ⟨6, aC.length, (Zz aC)⟩⟩)], 14, [], true⟩, [⟨⟨63, 0, true⟩, (Vb prog 121 [1, 0, 0, 1, 0, 0, 1, 1, 0] 12), (Zc prog 121 [1, 0, 0, 1, 0, 0, 1, 1, 0] 1), none, [], Yg [(0, (.yld 0)), (1, (.ptr 9 0)), (2, (.ptr 11 0)), (3, (.ptr 12 0)), (5, (ii bV)), (49, (.yld 0)), (59, (.agg [(ii aL), (ii aI)])), (60, (.dat bO.length (Zz bO)))]⟩, ⟨⟨99, 0, true⟩, none, (.inRangeFunc 0 :: (Zc prog 36 [1, 1, 1, 1, 1, 0, 1, 0] 1)), none, (Zy prog 36), Yg [(4, (.ptr 2 0)), (5, (.ptr 3 0)), (7, (.ptr 4 0))]⟩], (z4z [(0, ⟨.busy, none, 99, Yg [(3, (.ptr 1 0)), (4, (.ptr 2 0)), (5, (.ptr 3 0)), (7, (.ptr 4 0)), (8, (.ptr 5 0)), (9, (.ptr 6 0)), (10, (.ptr 7 0))], [26, 27], (Xh prog 36 [1, 1, 1, 1, 1, 0, 1, 0, 0]), (Xh prog 36 [1, 1, 1, 1, 1, 0, 1, 0, 1])⟩)])⟩
 | .h4 v14 bV aL aI bO aC aE aK dR cK cV => ⟨⟨99, 0, true⟩, none, (Zc prog 36 [1, 1, 1, 1, 1, 0, 1, 0, 1, 0, 1, 1, 0, 1, 0, 0, 1, 0, 0] 0), (some 0), [], ⟨Yg [(7, (.ptr 4 0)), (10, (.ptr 8 0)), (11, (.ptr 9 0)), (14, (ii v14))], z4x [(1, ⟨[(ii x1)], 3, none⟩), (2, ⟨[.nils], 30, none⟩), (3, ⟨[(ii 0)], 24, none⟩), (4, ⟨[(.sla 5 6 0 aC.length (.un 6))], 30, none⟩), (5, ⟨rows aC.length (Zz aC), 68, some ⟨6, aC.length, (Zz aC)⟩⟩), (6, ⟨[(.dat aE.length (Zz aE))], 106, none⟩), (7, ⟨[(ii aK)], 3, none⟩), (8, ⟨[(ii dR)], 3, none⟩), (9, ⟨[(ii aL), (ii aI)], 110, none⟩), (10, ⟨[(.sla 11 1 0 cK (.un 1))], 47, none⟩), (11, ⟨rows cV.length (Zz cV), 3, some ⟨1, cV.length, (Zz cV)⟩⟩), (12, ⟨[(.dat l0.length (Zz l0))], 22, none⟩), (13, ⟨[(ii 2)], 3, none⟩)], 14, [], true⟩, [⟨⟨63, 0, true⟩, (Vb prog 121 [1, 0, 0, 1, 0, 0, 1, 1, 0] 12), (Zc prog 121 [1, 0, 0, 1, 0, 0, 1, 1, 0] 1), none, [], Yg [(0, (.yld 0)), (1, (.ptr 10 0)), (2, (.ptr 12 0)), (3, (.ptr 13 0)), (5, (ii bV)), (49, (.yld 0)), (59, (.agg [(ii aL), (ii aI)])), (60, (.dat bO.length (Zz bO)))]⟩, ⟨⟨99, 0, true⟩, none, (.inRangeFunc 0 :: (Zc prog 36 [1, 1, 1, 1, 1, 0, 1, 0] 1)), none, (Zy prog 36), Yg [(4, (.ptr 2 0)), (5, (.ptr 3 0)), (7, (.ptr 4 0))]⟩], (z4z [(0, ⟨.busy, none, 99, Yg [(3, (.ptr 1 0)), (4, (.ptr 2 0)), (5, (.ptr 3 0)), (7, (.ptr 4 0)), (8, (.ptr 6 0)), (9, (.ptr 7 0)), (10, (.ptr 8 0))], [26, 27], (Xh prog 36 [1, 1, 1, 1, 1, 0, 1, 0, 0]), (Xh prog 36 [1, 1, 1, 1, 1, 0, 1, 0, 1])⟩)])⟩
def innN0 : List (Option (List Nat)) := [some [2, 3, 4, 7, 12, 13, 14], some [3, 4, 5, 7, 8, 9, 10, 23, 24]]
def innM0 : List (Option (List Nat)) := []
def v6q : List (Option (List Nat)) := [some [0, 1, 2, 3, 5], some [4, 5, 7]]
def v6r : List (Option (List Nat)) := [some [3, 4, 5, 7, 8, 9, 10], none, none, none, none, none, none, none, none, none, none, none, none]
def w7q : List (Option (List Nat)) := [some [0, 1, 2, 3, 5, 6, 17, 18, 19], some [4, 5, 7]]
def w7s : List (Option (List Nat)) := [some [3, 4, 5, 7, 8, 9, 10], none, none, none, none, none, none, none, none, none, none, none, none, none]
def w7p : List (Option (List Nat)) := [some [7, 11, 70, 71, 72], some [0, 1, 2, 3, 5, 49, 59, 60], some [4, 5, 7]]
def w7r : List (Option (List Nat)) := [some [3, 4, 5, 7, 8, 9, 10], none, none, none, none, none, none, none, none, none, none, none, none, none]
def innN4 : List (Option (List Nat)) := [some [7, 10, 11, 14], some [0, 1, 2, 3, 5, 49, 59, 60], some [4, 5, 7]]
def innM4 : List (Option (List Nat)) := [some [3, 4, 5, 7, 8, 9, 10], none, none, none, none, none, none, none, none, none, none, none, none, none]
def Xp (l0 : List R6) (x1 : Int) : innS → Xd innS
 | .h0 v14 aA => (bif (decide (v14 < (l0.length : Int))) then (bif ((decide (0 ≤ v14 ∧ v14 < (l0.length : Int))) && true) then (bif (Xu (rd l0 v14.toNat).c x1) then (bif (Xu (IntKind.wrap .i64 (0 - (rd l0 v14.toNat).c)) x1) then (bif (Xu (rd l0 v14.toNat).f x1) then (bif (Xu (IntKind.wrap .i64 (0 - (rd l0 v14.toNat).f)) x1) then (bif (Nat.beq 1 1 && ((decide (0 + aA.length = aA.length)) && decide ((aA.length + 4 + 1) * (8 + 1) ≤ Jg))) then (.to (.h0 (IntKind.wrap .i64 (v14 + 1)) (aA ++ [(Yb (rd l0 v14.toNat).c x1), (IntKind.wrap .i64 (0 - (Yb (IntKind.wrap .i64 (0 - (rd l0 v14.toNat).c)) x1))), (Yb (rd l0 v14.toNat).f x1), (IntKind.wrap .i64 (0 - (Yb (IntKind.wrap .i64 (0 - (rd l0 v14.toNat).f)) x1)))]))) else .stuck) else .stuck) else .stuck) else .stuck) else .stuck) else .stuck) else (bif (decide (aA.length < 4611686018427387904)) then (bif (decide (aA.length = aA.length)) then (.to (.h1 1 ([] : List R6) ([] : List R4) 0 0 (w9o (Za aA.length (cOf (Zz (Yn (Za aA.length (cOf (Zz aA)))))))) (Xw (Za aA.length (cOf (Zz (Yn (Za aA.length (cOf (Zz aA)))))))))) else .stuck) else .stuck))
 | .h1 v5 aC bF aE aK aT aN => (bif (decide (v5 < ((aT : Nat) : Int))) then (.to (.h2 v5 ([] : List R6) 0 aC bF aE aK aT aN)) else (bif (decide ((aC.length : Int) > 400)) then (.ret [.nils, (.int .i64 4)]) else (.ret [(.dat aC.length (Zz aC)), (.int .i64 0)])))
 | .h2 v5 v6 v19 aC bF aE aK aT aN => (bif (decide (v19 < (l0.length : Int))) then (bif ((decide (0 ≤ v19 ∧ v19 < (l0.length : Int))) && true) then (bif ((decide (0 ≤ v5 ∧ v5 < ((aT : Nat) : Int))) && true) then (bif (decide ((0 + v5.toNat) < aN.length)) then (bif (decide ((rd l0 v19.toNat).c < (rd aN (0 + v5.toNat)))) then (bif ((decide (0 ≤ (IntKind.wrap .i64 (v5 - 1)) ∧ (IntKind.wrap .i64 (v5 - 1)) < ((aT : Nat) : Int))) && true) then (bif (decide ((0 + (Int.toNat (IntKind.wrap .i64 (v5 - 1)))) < aN.length)) then (bif (decide ((rd aN (0 + (Int.toNat (IntKind.wrap .i64 (v5 - 1))))) < (rd l0 v19.toNat).f)) then (bif (Nat.beq 6 6 && ((decide (0 + v6.length = v6.length)) && decide ((v6.length + 1 + 1) * (48 + 1) ≤ Jg))) then (.to (.h2 v5 (v6 ++ [(R6.mk (rd l0 v19.toNat).a (rd l0 v19.toNat).b (rd l0 v19.toNat).c (rd l0 v19.toNat).d (rd l0 v19.toNat).e (rd l0 v19.toNat).f)]) (IntKind.wrap .i64 (v19 + 1)) aC bF aE aK aT aN)) else .stuck) else (.to (.h2 v5 v6 (IntKind.wrap .i64 (v19 + 1)) aC bF aE aK aT aN))) else .stuck) else .stuck) else (.to (.h2 v5 v6 (IntKind.wrap .i64 (v19 + 1)) aC bF aE aK aT aN))) else .stuck) else .stuck) else .stuck) else (bif ((decide (0 ≤ (IntKind.wrap .i64 (v5 - 1)) ∧ (IntKind.wrap .i64 (v5 - 1)) < ((aT : Nat) : Int))) && true) then (bif (decide ((0 + (Int.toNat (IntKind.wrap .i64 (v5 - 1)))) < aN.length)) then (bif ((decide (0 ≤ v5 ∧ v5 < ((aT : Nat) : Int))) && true) then (bif (decide ((0 + v5.toNat) < aN.length)) then (bif (z0e (cvT v6) (rd aN (0 + (Int.toNat (IntKind.wrap .i64 (v5 - 1))))) (rd aN (0 + v5.toNat)) x1) then (bif (decide ((((Qz (cvT v6) (rd aN (0 + (Int.toNat (IntKind.wrap .i64 (v5 - 1))))) (rd aN (0 + v5.toNat)) x1).length : Nat) : Int) > 400)) then (.ret [.nils, (.int .i64 4)]) else (bif (decide ((((Qz (cvT v6) (rd aN (0 + (Int.toNat (IntKind.wrap .i64 (v5 - 1))))) (rd aN (0 + v5.toNat)) x1).length : Nat) : Int) > 0)) then (bif (aK == (rd aN (0 + (Int.toNat (IntKind.wrap .i64 (v5 - 1)))))) then (bif (Wp (cvT bF) (cvT (Qz (cvT v6) (rd aN (0 + (Int.toNat (IntKind.wrap .i64 (v5 - 1))))) (rd aN (0 + v5.toNat)) x1))) then (bif (Ug (cvT bF) (cvT (Qz (cvT v6) (rd aN (0 + (Int.toNat (IntKind.wrap .i64 (v5 - 1))))) (rd aN (0 + v5.toNat)) x1))) then (.to (.h4 aE v5 (rd aN (0 + (Int.toNat (IntKind.wrap .i64 (v5 - 1))))) (rd aN (0 + v5.toNat)) v6 aC bF aE aK aT aN)) else (.to (.h3 (Qz (cvT v6) (rd aN (0 + (Int.toNat (IntKind.wrap .i64 (v5 - 1))))) (rd aN (0 + v5.toNat)) x1) (((Qz (cvT v6) (rd aN (0 + (Int.toNat (IntKind.wrap .i64 (v5 - 1))))) (rd aN (0 + v5.toNat)) x1).length : Nat) : Int) 0 v5 (rd aN (0 + (Int.toNat (IntKind.wrap .i64 (v5 - 1))))) (rd aN (0 + v5.toNat)) v6 aC (aC.length : Int) aT aN))) else .stuck) else (.to (.h3 (Qz (cvT v6) (rd aN (0 + (Int.toNat (IntKind.wrap .i64 (v5 - 1))))) (rd aN (0 + v5.toNat)) x1) (((Qz (cvT v6) (rd aN (0 + (Int.toNat (IntKind.wrap .i64 (v5 - 1))))) (rd aN (0 + v5.toNat)) x1).length : Nat) : Int) 0 v5 (rd aN (0 + (Int.toNat (IntKind.wrap .i64 (v5 - 1))))) (rd aN (0 + v5.toNat)) v6 aC (aC.length : Int) aT aN))) else (.to (.h3 (Qz (cvT v6) (rd aN (0 + (Int.toNat (IntKind.wrap .i64 (v5 - 1))))) (rd aN (0 + v5.toNat)) x1) (((Qz (cvT v6) (rd aN (0 + (Int.toNat (IntKind.wrap .i64 (v5 - 1))))) (rd aN (0 + v5.toNat)) x1).length : Nat) : Int) 0 v5 (rd aN (0 + (Int.toNat (IntKind.wrap .i64 (v5 - 1))))) (rd aN (0 + v5.toNat)) v6 aC (aC.length : Int) aT aN)))) else .stuck) else .stuck) else .stuck) else .stuck) else .stuck))
 | .h3 v70 v71 v72 bV aL aI bO aC aE cB cC => (bif (decide (v72 < v71)) then (bif ((decide (0 ≤ v72 ∧ v72 < (v70.length : Int))) && true) then (bif (Nat.beq 6 6 && ((decide (0 + aC.length = aC.length)) && decide ((aC.length + 1 + 1) * (48 + 1) ≤ Jg))) then (.to (.h3 v70 v71 (IntKind.wrap .i64 (v72 + 1)) bV aL aI bO (aC ++ [(R6.mk (rd v70 v72.toNat).a (rd v70 v72.toNat).b aL (rd v70 v72.toNat).c (rd v70 v72.toNat).d aI)]) aE cB cC)) else .stuck) else .stuck) else (.to (.h1 (IntKind.wrap .i64 (bV + 1)) aC v70 aE aI cB cC)))
 | .h4 v14 bV aL aI bO aC aE aK dR cK cV => (bif (decide (v14 < (aC.length : Int))) then (bif ((decide (0 ≤ v14 ∧ v14 < (aC.length : Int))) && true) then (bif (decide ((0 + v14.toNat) < aC.length)) then (.to (.h4 (IntKind.wrap .i64 (v14 + 1)) bV aL aI bO (aC.set (0 + v14.toNat) (R6.mk (rd aC (0 + v14.toNat)).a (rd aC (0 + v14.toNat)).b (rd aC (0 + v14.toNat)).c (rd aC (0 + v14.toNat)).d (rd aC (0 + v14.toNat)).e aI)) aE aK dR cK cV)) else .stuck) else .stuck) else (.to (.h1 (IntKind.wrap .i64 (bV + 1)) aC aE aK aI cK cV)))
def z8y (l0 : List R6) (x1 : Int) : Xd innS := (bif (Uv (cvT l0)) then (bif ((Ye (cvT l0)) != 0) then (.ret [.nils, (.int .i64 (Ye (cvT l0)))]) else (bif (decide (x1 < 1)) then (.ret [.nils, (.int .i64 2)]) else (bif (decide (x1 > 1000)) then (.ret [.nils, (.int .i64 2)]) else (.to (.h0 0 ([] : List Int)))))) else .stuck)
theorem x6r (l0 : List R6) (x1 : Int) : ∀ s, Wu prog (Zy prog 36) (innC l0 x1) (innC l0 x1 s) (Xp l0 x1 s)
 | .h0 v14 aA => (lb (fun k0 => (lo fun o0 => (lo fun o1 => (lo fun o2 => (lo fun o3 => (lo fun o4 => (lo fun o5 => (sl Kr 45 [] ⟨[0, 1, 2, 3, 4, 5, 6, 7, 8, 9, 16], [], innN0, innM0⟩ ⟨[], [.keep, .keep, .cells [.len (aA ++ [(Yb (rd l0 (tn v14)).c x1), (wr (0 - (Yb (wr (0 - (rd l0 (tn v14)).c)) x1))), (Yb (rd l0 (tn v14)).f x1), (wr (0 - (Yb (wr (0 - (rd l0 (tn v14)).f)) x1)))]).length], .keep, .keep, .keep, .keep, .keep, .keep, .keep, .rowed 1 (aA ++ [(Yb (rd l0 (tn v14)).c x1), (wr (0 - (Yb (wr (0 - (rd l0 (tn v14)).c)) x1))), (Yb (rd l0 (tn v14)).f x1), (wr (0 - (Yb (wr (0 - (rd l0 (tn v14)).f)) x1)))]).length (Zz (aA ++ [(Yb (rd l0 (tn v14)).c x1), (wr (0 - (Yb (wr (0 - (rd l0 (tn v14)).c)) x1))), (Yb (rd l0 (tn v14)).f x1), (wr (0 - (Yb (wr (0 - (rd l0 (tn v14)).f)) x1)))]))], []⟩ (trs 3 [false, true, true, false]) (pp (xL (aA.length + 4) (aA ++ [(Yb (rd l0 (tn v14)).c x1), (wr (0 - (Yb (wr (0 - (rd l0 (tn v14)).c)) x1))), (Yb (rd l0 (tn v14)).f x1), (wr (0 - (Yb (wr (0 - (rd l0 (tn v14)).f)) x1)))]).length) (pp (xL (aA.length + 4) (aA ++ [(Yb (rd l0 (tn v14)).c x1), (wr (0 - (Yb (wr (0 - (rd l0 (tn v14)).c)) x1))), (Yb (rd l0 (tn v14)).f x1), (wr (0 - (Yb (wr (0 - (rd l0 (tn v14)).f)) x1)))]).length) (pp (xS (aA.length + 4) (Zf (Zz aA) 0 aA.length 1 [(ii (Yb (rd l0 (tn v14)).c x1)), (ii (wr (0 - (Yb (wr (0 - (rd l0 (tn v14)).c)) x1)))), (ii (Yb (rd l0 (tn v14)).f x1)), (ii (wr (0 - (Yb (wr (0 - (rd l0 (tn v14)).f)) x1))))]) (Zz (aA ++ [(Yb (rd l0 (tn v14)).c x1), (wr (0 - (Yb (wr (0 - (rd l0 (tn v14)).c)) x1))), (Yb (rd l0 (tn v14)).f x1), (wr (0 - (Yb (wr (0 - (rd l0 (tn v14)).f)) x1)))]))) (pp (pp (xF (Zf (Zz aA) 0 aA.length 1 [(ii (Yb (rd l0 (tn v14)).c x1)), (ii (wr (0 - (Yb (wr (0 - (rd l0 (tn v14)).c)) x1)))), (ii (Yb (rd l0 (tn v14)).f x1)), (ii (wr (0 - (Yb (wr (0 - (rd l0 (tn v14)).f)) x1))))])) nn) (ww o5 (ww o4 (ww o3 (ww o2 (ww o1 (ww o0 (tt k0 nn))))))))))))))))))) (fun k0 => (lo fun o0 => (lo fun o1 => (sl Kr 33 [(68, 6, Zz ([] : List R6))] ⟨[11, 3, 4, 5, 6, 7, 8, 9, 2, 10, 0, 1, 12], [], v6q, v6r⟩ ⟨[], (kpB 4 [.cells [.grow 12 6], .cells [.list 0 (Zz ([] : List R4))], .keep, .keep, .keep, .rowed 1 (Xw (Za aA.length (cOf (Zz (Yn (Za aA.length (cOf (Zz aA)))))))).length (Zz (Xw (Za aA.length (cOf (Zz (Yn (Za aA.length (cOf (Zz aA))))))))), .keep, .keep, .keep]), []⟩ [false] (pp (xL aA.length (Xw (Za aA.length (cOf (Zz (Yn (Za aA.length (cOf (Zz aA)))))))).length (by first | exact z0d _ _ | exact Uw rfl)) (pp (xS aA.length (Zz (Xw (Za aA.length (cOf (Zz (Yn (Za aA.length (cOf (Zz aA))))))))) (Zz (Xw (Za aA.length (cOf (Zz (Yn (Za aA.length (cOf (Zz aA)))))))))) (pp (fl (Xw (Za aA.length (cOf (Zz (Yn (Za aA.length (cOf (Zz aA)))))))) (fl ([] : List R6) nn)) (pp (pp (xG (Nat.beq 1 1)) (pp (xG (Nat.beq 1 1)) (pp (xG (Nat.beq 0 0)) (pp (xG (decide (aA.length = aA.length))) (pp (xG (isI (Zz (Yn (Za aA.length (cOf (Zz aA))))))) (xG (decide (aA.length < 4611686018427387904)))))))) (pp (pp (xG (Nat.beq 1 1)) (pp (xG (Nat.beq 1 1)) (pp (xG (Nat.beq 0 0)) (pp (xG (decide (aA.length = aA.length))) (pp (xG (isI (Zz aA))) (xG (decide (aA.length < 4611686018427387904)))))))) (tt k0 nn)))))))))))
 | .h1 v5 aC bF aE aK aT aN => (lb (fun k0 => (sl Kr 25 [(68, 6, Zz ([] : List R6))] ⟨[0, 1, 2, 3, 4, 5, 6, 7, 8, 9, 10, 11, 13, 12], [], w7q, w7s⟩ ⟨[(6, .grow 12 6)], [], []⟩ [true] (pp (fl aN (fl ([] : List R6) (fl aC nn))) (tt k0 nn)))) (fun k0 => (lb (fun k1 => (z0v ⟨⟨99, 0, true⟩, none, (Zc prog 36 [1, 1, 1, 1, 1, 1, 0, 1, 0, 0] 1), none, (Zy prog 36), ⟨Yg [(4, (.ptr 0 0)), (5, (.ptr 1 0))], Vr [⟨[.nils], 30, none⟩, ⟨[(ii 4)], 24, none⟩] 0, 2, [], true⟩, [], .leaf⟩ (sl Kr 26 [] ⟨[2, 3], [], [some [4, 5]], []⟩ ⟨[], [], []⟩ [false, true] (tt k1 (tt k0 nn))) rfl (by kernel_rfl))) (fun k1 => (z0v ⟨⟨99, 0, true⟩, none, (Zc prog 3 [1, 1, 1, 1, 1, 1, 0] 1), none, (Zy prog 36), ⟨Yg [(4, (.ptr 0 0)), (5, (.ptr 1 0))], Vr [⟨[(.dat aC.length (Zz aC))], 30, none⟩, ⟨[(ii 0)], 24, none⟩] 0, 2, [], true⟩, [], .leaf⟩ (sl Kr 28 [] ⟨[2, 3], [12], [some [4, 5]], []⟩ ⟨[], [.cells [.frz aC.length aC.length (Zz aC) (Zz aC)], .keep], []⟩ [false, false] (pp (xZ (z5c 6 6 0 aC.length aC.length (Zz aC)) aC.length (Zz aC)) (pp (xL aC.length aC.length) (pp (xS aC.length (Zz aC) (Zz aC)) (pp (fl aC nn) (tt k1 (tt k0 nn))))))) rfl (by kernel_rfl))))))
 | .h2 v5 v6 v19 aC bF aE aK aT aN => (lb (fun k0 => (lo fun aH => (lo fun bG => (lo fun cE => (lb (fun k1 => (lo fun cT => (lo fun dN => (lb (fun k2 => (lo fun o0 => (sl Kr 70 [] ⟨[0, 1, 2, 3, 4, 5, 6, 7, 8, 9, 10, 11, 19, 13], [], w7q, w7s⟩ ⟨[(6, .len (v6 ++ [(R6.mk (rd l0 (tn v19)).a (rd l0 (tn v19)).b (rd l0 (tn v19)).c (rd l0 (tn v19)).d (rd l0 (tn v19)).e (rd l0 (tn v19)).f)]).length)], (kpB 12 [.rowed 6 (v6 ++ [(R6.mk (rd l0 (tn v19)).a (rd l0 (tn v19)).b (rd l0 (tn v19)).c (rd l0 (tn v19)).d (rd l0 (tn v19)).e (rd l0 (tn v19)).f)]).length (Zz (v6 ++ [(R6.mk (rd l0 (tn v19)).a (rd l0 (tn v19)).b (rd l0 (tn v19)).c (rd l0 (tn v19)).d (rd l0 (tn v19)).e (rd l0 (tn v19)).f)])), .keep]), []⟩ (trs 3 [false, true, true, false, true, true, true, true, true, true, true, true]) (pp (xL (v6.length + 1) (v6 ++ [(R6.mk (rd l0 (tn v19)).a (rd l0 (tn v19)).b (rd l0 (tn v19)).c (rd l0 (tn v19)).d (rd l0 (tn v19)).e (rd l0 (tn v19)).f)]).length) (pp (xL (v6.length + 1) (v6 ++ [(R6.mk (rd l0 (tn v19)).a (rd l0 (tn v19)).b (rd l0 (tn v19)).c (rd l0 (tn v19)).d (rd l0 (tn v19)).e (rd l0 (tn v19)).f)]).length) (pp (xS (v6.length + 1) (Zf (Zz v6) 0 v6.length 6 [(ii (rd l0 (tn v19)).a), (ii (rd l0 (tn v19)).b), (ii (rd l0 (tn v19)).c), (ii (rd l0 (tn v19)).d), (ii (rd l0 (tn v19)).e), (ii (rd l0 (tn v19)).f)]) (Zz (v6 ++ [(R6.mk (rd l0 (tn v19)).a (rd l0 (tn v19)).b (rd l0 (tn v19)).c (rd l0 (tn v19)).d (rd l0 (tn v19)).e (rd l0 (tn v19)).f)]))) (pp (fl aN (pp (xF (Zf (Zz v6) 0 v6.length 6 [(ii (rd l0 (tn v19)).a), (ii (rd l0 (tn v19)).b), (ii (rd l0 (tn v19)).c), (ii (rd l0 (tn v19)).d), (ii (rd l0 (tn v19)).e), (ii (rd l0 (tn v19)).f)])) (fl aC nn))) (ww o0 (tt k2 (ww dN (ww cT (tt k1 (ww cE (ww bG (ww aH (tt k0 nn)))))))))))))))) (fun k2 => (sl Kr 64 [] ⟨(List.range 14), [], w7q, w7s⟩ ⟨[], [], []⟩ (trs 3 [false, true, true, false, true, true, true, true, true, true, true, false]) (pp (fl aN (fl v6 (fl aC nn))) (tt k2 (ww dN (ww cT (tt k1 (ww cE (ww bG (ww aH (tt k0 nn))))))))))))))) (fun k1 => (sl Kr 64 [] ⟨(List.range 14), [], w7q, w7s⟩ ⟨[], [], []⟩ (trs 3 [false, true, true, false, false, false, false, false, false, false, false, false]) (pp (fl aN (fl v6 (fl aC nn))) (tt k1 (ww cE (ww bG (ww aH (tt k0 nn))))))))))))) (fun k0 => (lo fun q1_0 => (lo fun q1_1 => (lo fun q1_2 => (lo fun q1_3 => (Wf (sl Kr (C' := ⟨⟨99, 0, true⟩, (Vb prog 36 [1, 1, 1, 1, 1, 0, 1, 0, 1, 0, 0] 3), (Zc prog 36 [1, 1, 1, 1, 1, 0, 1, 0, 1, 0, 0] 1), (some 0), [], ⟨Yg [(4, (.ptr 2 0)), (5, (.ptr 3 0)), (7, (.ptr 4 0)), (8, (.ptr 6 0)), (9, (.ptr 7 0)), (10, (.ptr 8 0)), (11, (.ptr 9 0)), (28, (.dat v6.length (Zz v6))), (29, (.agg [(ii (rd aN (0 + (tn (wr (v5 - 1)))))), (ii (rd aN (0 + (tn v5))))])), (30, (ii x1))], z4x [(1, ⟨[(ii x1)], 3, none⟩), (2, ⟨[.nils], 30, none⟩), (3, ⟨[(ii 0)], 24, none⟩), (4, ⟨[(.sla 5 6 0 aC.length (.un 6))], 30, none⟩), (5, ⟨rows aC.length (Zz aC), 68, some ⟨6, aC.length, (Zz aC)⟩⟩), (6, ⟨[(.dat bF.length (Zz bF))], 106, none⟩), (7, ⟨[(ii aE)], 3, none⟩), (8, ⟨[(ii aK)], 3, none⟩), (9, ⟨[(ii (rd aN (0 + (tn (wr (v5 - 1)))))), (ii (rd aN (0 + (tn v5))))], 110, none⟩), (10, ⟨[(.sla 11 1 0 aT (.un 1))], 47, none⟩), (11, ⟨rows aN.length (Zz aN), 3, some ⟨1, aN.length, (Zz aN)⟩⟩), (12, ⟨[(.dat l0.length (Zz l0))], 22, none⟩), (13, ⟨[(ii 2)], 3, none⟩)], 14, [], true⟩, [⟨⟨63, 0, true⟩, (Vb prog 121 [1, 0, 0, 1, 0, 0, 1, 1, 0] 12), (Zc prog 121 [1, 0, 0, 1, 0, 0, 1, 1, 0] 1), none, [], Yg [(0, (.yld 0)), (1, (.ptr 10 0)), (2, (.ptr 12 0)), (3, (.ptr 13 0)), (5, (ii v5)), (49, (.yld 0)), (59, (.agg [(ii (rd aN (0 + (tn (wr (v5 - 1)))))), (ii (rd aN (0 + (tn v5))))])), (60, (.dat v6.length (Zz v6)))]⟩, ⟨⟨99, 0, true⟩, none, (.inRangeFunc 0 :: (Zc prog 36 [1, 1, 1, 1, 1, 0, 1, 0] 1)), none, (Zy prog 36), Yg [(4, (.ptr 2 0)), (5, (.ptr 3 0)), (7, (.ptr 4 0))]⟩], (z4z [(0, ⟨.busy, none, 99, Yg [(3, (.ptr 1 0)), (4, (.ptr 2 0)), (5, (.ptr 3 0)), (7, (.ptr 4 0)), (8, (.ptr 6 0)), (9, (.ptr 7 0)), (10, (.ptr 8 0))], [26, 27], (Xh prog 36 [1, 1, 1, 1, 1, 0, 1, 0, 0]), (Xh prog 36 [1, 1, 1, 1, 1, 0, 1, 0, 1])⟩)])⟩) 25 [] ⟨[0, 1, 2, 3, 4, 13, 5, 6, 7, 14, 8, 9, 10, 11], [12], [some [4, 5, 7, 8, 9, 10, 11, 28, 29, 30], some [0, 1, 2, 3, 5, 49, 59, 60], some [4, 5, 7]], [some [3, 4, 5, 7, 8, 9, 10], none, none, none, none, none, none, none, none, none, none, none, none, none]⟩ ⟨[(28, .frz v6.length v6.length (Zz v6) (Zz v6))], [], [[(60, .frz v6.length v6.length (Zz v6) (Zz v6))], []]⟩ [false] (pp (xZ (z5c 6 6 0 v6.length v6.length (Zz v6)) v6.length (Zz v6)) (pp (xL v6.length v6.length) (pp (xS v6.length (Zz v6) (Zz v6)) (pp (xZ (z5c 6 6 0 v6.length v6.length (Zz v6)) v6.length (Zz v6)) (pp (xL v6.length v6.length) (pp (xS v6.length (Zz v6) (Zz v6)) (pp (fl aC (fl aN nn)) (pp (fl v6 nn) (ww q1_3 (ww q1_2 (ww q1_1 (ww q1_0 (tt k0 nn)))))))))))))) (lo fun aH => (lb (fun k1 => (z0v ⟨⟨99, 0, true⟩, none, (.code .ret :: (Zc prog 36 [1, 1, 1, 1, 1, 0, 1, 0] 1)), none, (Zy prog 36), ⟨Yg [(4, (.ptr 0 0)), (5, (.ptr 1 0))], Vr [⟨[.nils], 30, none⟩, ⟨[(ii 4)], 24, none⟩] 0, 2, [], true⟩, [], .leaf⟩ (sl Kr 22 [] ⟨[2, 3], [], [some [4, 5]], []⟩ ⟨[], [], []⟩ [true, true] (tt k1 (pp (pp (xr v6) (xw aH)) nn))) rfl (by kernel_rfl))) (fun k1 => (lb (fun k2 => (lb (fun k3 => (lo fun cZ => (lb (fun k4 => (sl Kr 39 [] ⟨(List.range 14), [], innN4, innM4⟩ ⟨[], [], []⟩ [false, true, true, true, true, true, true, true, true] (pp (fl aC (fl aN nn)) (tt k4 (pp (pp (xr bF) (pp (xI R4 (Qz (cvT v6) (rd aN (0 + (tn (wr (v5 - 1))))) (rd aN (0 + (tn v5))) x1).length (Zz (Qz (cvT v6) (rd aN (0 + (tn (wr (v5 - 1))))) (rd aN (0 + (tn v5))) x1))) (xw cZ))) (tt k3 (tt k2 (tt k1 (pp (pp (xr v6) (xw aH)) nn))))))))) (fun k4 => (sl Kr 42 [] ⟨[0, 1, 2, 3, 4, 6, 7, 8, 9, 10, 11, 12, 13, 5], [], w7p, w7r⟩ ⟨[], [], []⟩ [false, true, true, true, true, true, true, true, false] (pp (fl aN (fl aC nn)) (tt k4 (pp (pp (xr bF) (pp (xI R4 (Qz (cvT v6) (rd aN (0 + (tn (wr (v5 - 1))))) (rd aN (0 + (tn v5))) x1).length (Zz (Qz (cvT v6) (rd aN (0 + (tn (wr (v5 - 1))))) (rd aN (0 + (tn v5))) x1))) (xw cZ))) (tt k3 (tt k2 (tt k1 (pp (pp (xr v6) (xw aH)) nn)))))))))))) (fun k3 => (sl Kr 42 [] ⟨[0, 1, 2, 3, 4, 6, 7, 8, 9, 10, 11, 12, 13, 5], [], w7p, w7r⟩ ⟨[], [], []⟩ [false, true, true, true, true, false, false, false, false] (pp (fl aN (fl aC nn)) (tt k3 (tt k2 (tt k1 (pp (pp (xr v6) (xw aH)) nn))))))))) (fun k2 => (sl Kr 42 [] ⟨[0, 1, 2, 3, 4, 6, 7, 8, 9, 10, 11, 12, 13, 5], [], w7p, w7r⟩ ⟨[], [], []⟩ [false, false, false, false, false, false, false, false, false] (pp (fl aN (fl aC nn)) (tt k2 (tt k1 (pp (pp (xr v6) (xw aH)) nn)))))))))))))))))
 | .h3 v70 v71 v72 bV aL aI bO aC aE cB cC => (lb (fun k0 => (lo fun o0 => (lo fun o1 => (sl Kr 43 [] ⟨[0, 1, 2, 3, 4, 5, 6, 7, 8, 9, 10, 11, 12, 16], [], w7p, w7r⟩ ⟨[], (kpB 4 [.cells [.len (aC ++ [(R6.mk (rd v70 (tn v72)).a (rd v70 (tn v72)).b aL (rd v70 (tn v72)).c (rd v70 (tn v72)).d aI)]).length], .keep, .keep, .keep, .keep, .keep, .keep, .keep, .keep, .rowed 6 (aC ++ [(R6.mk (rd v70 (tn v72)).a (rd v70 (tn v72)).b aL (rd v70 (tn v72)).c (rd v70 (tn v72)).d aI)]).length (Zz (aC ++ [(R6.mk (rd v70 (tn v72)).a (rd v70 (tn v72)).b aL (rd v70 (tn v72)).c (rd v70 (tn v72)).d aI)]))]), []⟩ [true] (pp (xL (aC.length + 1) (aC ++ [(R6.mk (rd v70 (tn v72)).a (rd v70 (tn v72)).b aL (rd v70 (tn v72)).c (rd v70 (tn v72)).d aI)]).length) (pp (xL (aC.length + 1) (aC ++ [(R6.mk (rd v70 (tn v72)).a (rd v70 (tn v72)).b aL (rd v70 (tn v72)).c (rd v70 (tn v72)).d aI)]).length) (pp (xS (aC.length + 1) (Zf (Zz aC) 0 aC.length 6 [(ii (rd v70 (tn v72)).a), (ii (rd v70 (tn v72)).b), (ii aL), (ii (rd v70 (tn v72)).c), (ii (rd v70 (tn v72)).d), (ii aI)]) (Zz (aC ++ [(R6.mk (rd v70 (tn v72)).a (rd v70 (tn v72)).b aL (rd v70 (tn v72)).c (rd v70 (tn v72)).d aI)]))) (pp (fl cC (pp (xF (Zf (Zz aC) 0 aC.length 6 [(ii (rd v70 (tn v72)).a), (ii (rd v70 (tn v72)).b), (ii aL), (ii (rd v70 (tn v72)).c), (ii (rd v70 (tn v72)).d), (ii aI)])) nn)) (ww o1 (ww o0 (tt k0 nn))))))))))) (fun k0 => (sl Kr 20 [] ⟨[0, 1, 2, 3, 4, 5, 6, 7, 9, 10, 11, 12, 13], [], v6q, v6r⟩ ⟨[], [], []⟩ [false, false] (pp (fl cC (fl aC nn)) (tt k0 nn)))))
 | .h4 v14 bV aL aI bO aC aE aK dR cK cV => (lb (fun k0 => (lo fun o0 => (lo fun o1 => (sl Kr 29 [] ⟨(List.range 14), [], innN4, innM4⟩ ⟨[], (kpB 4 [.cells [.len (aC.set (0 + (tn v14)) (R6.mk (rd aC (0 + (tn v14))).a (rd aC (0 + (tn v14))).b (rd aC (0 + (tn v14))).c (rd aC (0 + (tn v14))).d (rd aC (0 + (tn v14))).e aI)).length], .rowed 6 (aC.set (0 + (tn v14)) (R6.mk (rd aC (0 + (tn v14))).a (rd aC (0 + (tn v14))).b (rd aC (0 + (tn v14))).c (rd aC (0 + (tn v14))).d (rd aC (0 + (tn v14))).e aI)).length (Zz (aC.set (0 + (tn v14)) (R6.mk (rd aC (0 + (tn v14))).a (rd aC (0 + (tn v14))).b (rd aC (0 + (tn v14))).c (rd aC (0 + (tn v14))).d (rd aC (0 + (tn v14))).e aI))), .keep, .keep, .keep, .keep, .keep, .keep, .keep, .keep]), []⟩ [true] (pp (xL aC.length (aC.set (0 + (tn v14)) (R6.mk (rd aC (0 + (tn v14))).a (rd aC (0 + (tn v14))).b (rd aC (0 + (tn v14))).c (rd aC (0 + (tn v14))).d (rd aC (0 + (tn v14))).e aI)).length) (pp (xL aC.length (aC.set (0 + (tn v14)) (R6.mk (rd aC (0 + (tn v14))).a (rd aC (0 + (tn v14))).b (rd aC (0 + (tn v14))).c (rd aC (0 + (tn v14))).d (rd aC (0 + (tn v14))).e aI)).length) (pp (xS aC.length (Xe (Zz aC) (0 + (tn v14)) 5 [(ii aI)]) (Zz (aC.set (0 + (tn v14)) (R6.mk (rd aC (0 + (tn v14))).a (rd aC (0 + (tn v14))).b (rd aC (0 + (tn v14))).c (rd aC (0 + (tn v14))).d (rd aC (0 + (tn v14))).e aI)))) (pp (pp (xF (Xe (Zz aC) (0 + (tn v14)) 5 [(ii aI)])) (fl cV nn)) (ww o1 (ww o0 (tt k0 nn))))))))))) (fun k0 => (sl Kr 29 [] ⟨[0, 1, 2, 3, 4, 6, 7, 8, 10, 11, 12, 13, 5], [], v6q, v6r⟩ ⟨[], [], []⟩ [false, false] (pp (fl cV (fl aC nn)) (tt k0 nn)))))
theorem x1a (l0 : List R6) (x1 : Int) : Wu prog (Zy prog 36) (innC l0 x1) (Zn prog 36 [(.dat l0.length (Zz l0)), (.int .i64 x1)] true []) (z8y l0 x1) := (lo fun aZ => (lb (fun k0 => (z0v ⟨⟨99, 0, true⟩, none, (Zc prog 36 [1, 0, 1, 1, 0, 0] 1), none, (Zy prog 36), ⟨Yg [(4, (.ptr 0 0)), (5, (.ptr 1 0))], Vr [⟨[.nils], 30, none⟩, ⟨[(ii (Ye (cvT l0)))], 24, none⟩] 0, 2, [], true⟩, [], .leaf⟩ (sl Kr 49 [] ⟨[1, 2], [], [some [4, 5]], []⟩ ⟨[], [], []⟩ [true, true] (tt k0 (tt k0 (pp (pp (xr l0) (xw aZ)) nn)))) rfl (by kernel_rfl))) (fun k0 => (lb (fun k1 => (z0v ⟨⟨99, 0, true⟩, none, (Zc prog 36 [1, 0, 1, 1, 0, 0] 1), none, (Zy prog 36), ⟨Yg [(4, (.ptr 0 0)), (5, (.ptr 1 0))], Vr [⟨[.nils], 30, none⟩, ⟨[(ii 2)], 24, none⟩] 0, 2, [], true⟩, [], .leaf⟩ (sl Kr 60 [] ⟨[1, 2], [], [some [4, 5]], []⟩ ⟨[], [], []⟩ [false, true, true, true, true] (tt k1 (tt k0 (pp (pp (xr l0) (xw aZ)) nn)))) rfl (by kernel_rfl))) (fun k1 => (lb (fun k2 => (z0v ⟨⟨99, 0, true⟩, none, (Zc prog 36 [1, 0, 1, 1, 0, 0] 1), none, (Zy prog 36), ⟨Yg [(4, (.ptr 0 0)), (5, (.ptr 1 0))], Vr [⟨[.nils], 30, none⟩, ⟨[(ii 2)], 24, none⟩] 0, 2, [], true⟩, [], .leaf⟩ (sl Kr 60 [] ⟨[1, 2], [], [some [4, 5]], []⟩ ⟨[], [], []⟩ [false, false, false, true, true] (tt k2 (tt k1 (tt k0 (pp (pp (xr l0) (xw aZ)) nn))))) rfl (by kernel_rfl))) (fun k2 => (sl Kr 96 [(3, 1, Zz ([] : List Int))] ⟨[7, 8, 9, 0, 1, 2, 3, 4, 5, 6, 10], [], innN0, innM0⟩ ⟨[], [.keep, .keep, .cells [.grow 10 1], .keep, .keep, .keep, .keep, .keep, .keep, .keep, .keep], []⟩ [false, false, false, false, false] (pp (fl ([] : List Int) nn) (tt k2 (tt k1 (tt k0 (pp (pp (xr l0) (xw aZ)) nn)))))))))))))
theorem w7o (l0 : List R6) (x1 : Int) (n : Nat) (vs : List AVal) (h : Yj (Xp l0 x1) n (z8y l0 x1) = .ret vs) : Jn prog (Zy prog 36) (Zn prog 36 [(.dat l0.length (Zz l0)), (.int .i64 x1)] true []) vs := by
 have := Zr (x6r l0 x1) n _ (x1a l0 x1)
 rwa [h] at this
end Go.Am
namespace Go.Am
open Go.Proofs.Tryz
open Go.Proofs Go.Sort Go.Shelf Go.RowKit Go.Lib
theorem v2s {L : List R6} {n : Int} (hl : L.length ≤ 400) {i : Nat} (hi : i + 1 < (rnC R6.c R6.f n L).length) (out : List R6) (last : List R4) (first fin : Int) : ∀ (k j : Nat) (acc : List R6), j + k = L.length → acc.length ≤ j →
  ∃ N, ∀ M, Yj (Xp L n) (M + N) (.to (.h2 ((i + 1 : Nat) : Int) acc (j : Int) out last first fin (rnC R6.c R6.f n L).length (Xw (Yn (rnE R6.c R6.f n L))))) = Yj (Xp L n) M (.to (.h2 ((i + 1 : Nat) : Int) (acc ++ crS R6.c R6.f (L.drop j) (rd (rnC R6.c R6.f n L) i) (rd (rnC R6.c R6.f n L) (i + 1))) (L.length : Int) out last first fin (rnC R6.c R6.f n L).length (Xw (Yn (rnE R6.c R6.f n L)))))
 | 0, j, acc, h, ha => by
  refine ⟨0, fun M => ?_⟩
  rw [List.drop_eq_nil_of_le (by omega), show crS R6.c R6.f ([] : List R6) (rd (rnC R6.c R6.f n L) i) (rd (rnC R6.c R6.f n L) (i + 1)) = [] from rfl, List.append_nil, Nat.add_zero, show j = L.length by omega]
 | k + 1, j, acc, h, ha => by
  have hj : j < L.length := by omega
  have hc := Vp R6.c R6.f n L
  have hpl : (Xw (Yn (rnE R6.c R6.f n L))).length = 4 * L.length := by rw [Wn, Wq, Wz]
  have r0 : rd (Xw (Yn (rnE R6.c R6.f n L))) i = rd (rnC R6.c R6.f n L) i := Jy _ _ (by show i < (rnC R6.c R6.f n L).length; omega)
  have r1 : rd (Xw (Yn (rnE R6.c R6.f n L))) (i + 1) = rd (rnC R6.c R6.f n L) (i + 1) := Jy _ _ (by show i + 1 < (rnC R6.c R6.f n L).length; omega)
  have e1 : IntKind.wrap .i64 (((i + 1 : Nat) : Int) - 1) = (i : Int) := by rw [Ze]; exact Zk (by omega)
  have hw : IntKind.wrap .i64 ((j : Int) + 1) = ((j + 1 : Nat) : Int) := Zk (by omega)
  obtain ⟨N, hN⟩ := v2s hl hi out last first fin k (j + 1) (acc ++ crS R6.c R6.f [rd L j] (rd (rnC R6.c R6.f n L) i) (rd (rnC R6.c R6.f n L) (i + 1))) (by omega) (by have := Km R6.c R6.f [rd L j] (rd (rnC R6.c R6.f n L) i) (rd (rnC R6.c R6.f n L) (i + 1)); simp only [List.length_append, List.length_singleton] at *; omega)
  refine ⟨N + 1, fun M => ?_⟩
  have e : crS R6.c R6.f (L.drop j) (rd (rnC R6.c R6.f n L) i) (rd (rnC R6.c R6.f n L) (i + 1)) = crS R6.c R6.f [rd L j] (rd (rnC R6.c R6.f n L) i) (rd (rnC R6.c R6.f n L) (i + 1)) ++ crS R6.c R6.f (L.drop (j + 1)) (rd (rnC R6.c R6.f n L) i) (rd (rnC R6.c R6.f n L) (i + 1)) := by
   rw [Yh hj, ← z6p]; rfl
  rw [e, ← Nat.add_assoc, Zv, ← List.append_assoc, ← hN M]
  by_cases h1 : (rd L j).c < rd (rnC R6.c R6.f n L) (i + 1)
  ·by_cases h2 : rd (rnC R6.c R6.f n L) i < (rd L j).f
   ·rw [v8u h1 h2]
    simp (disch := omega) only [Xp, e1, r0, r1, hw, Zd, Zq, Zt, Yz, Yx, Yq, Ym, Zh, Zk, Zx, Yc, Zj, Nat.zero_add, decide_true, Bool.and_true, Bool.true_and, cond_true, cond_false]
   ·rw [w3i h2, List.append_nil]
    simp (disch := omega) only [Xp, Yy, e1, r0, r1, hw, Zd, Zq, Zt, Yz, Yx, Yq, Ym, Zh, Zk, Zx, Yc, Zj, Nat.zero_add, decide_true, Bool.and_true, Bool.true_and, cond_true, cond_false]
  ·rw [w3j h1, List.append_nil]
   simp (disch := omega) only [Xp, Yy, e1, r0, r1, hw, Zd, Zq, Zt, Yz, Yx, Yq, Ym, Zh, Zk, Zx, Yc, Zj, Nat.zero_add, decide_true, Bool.and_true, Bool.true_and, cond_true, cond_false]
theorem v2t {L : List R6} {n : Int} (hl : L.length ≤ 400) (hn : n ≠ 0) {R : List AVal} (hR : ∃ N, Yj (Xp L n) N (.to (.h1 1 [] [] 0 0 (rnC R6.c R6.f n L).length (Xw (Yn (rnE R6.c R6.f n L))))) = .ret R) : ∀ (k i : Nat) (acc : List Int), i + k = L.length → acc = rnE R6.c R6.f n (L.take i) → ∃ N, Yj (Xp L n) N (.to (.h0 (i : Int) acc)) = .ret R
 | 0, i, acc, h, ha => by
  have e : acc = (rnE R6.c R6.f n L) := by rw [ha, List.take_of_length_le (by omega)]
  subst e
  have hle := Wz R6.c R6.f n L
  obtain ⟨N, hN⟩ := hR
  refine ⟨N + 1, ?_⟩
  rw [Zv]
  simp (disch := omega) only [Xp, Uu, Kq, z6q, Yy, Yq, Ym, decide_true, cond_true, cond_false]
  exact hN
 | k + 1, i, acc, h, ha => by
  have hle := Wz R6.c R6.f n (L.take i)
  have fV : acc.length ≤ 4 * i := by rw [ha, hle]; simp; omega
  obtain ⟨N, hN⟩ := v2t hl hn hR k (i + 1) (acc ++ rnE R6.c R6.f n [rd L i]) (by omega) (by
   rw [ha, List.take_add_one]
   have : L[i]? = some (rd L i) := by rw [Xm (show i < L.length by omega)]; exact List.getElem?_eq_getElem _
   rw [this, z6a]; rfl)
  refine ⟨N + 1, ?_⟩
  rw [Zv]
  simp (disch := omega) only [Xp, w8o hn, Zd, Zq, Zt, Yz, Yx, Yq, Ym, Zh, Zk, Zx, Yc, Zj, Nat.zero_add, decide_true, Bool.and_true, Bool.true_and, cond_true, cond_false]
  exact hN
def x6s (L : List R6) (n : Int) (x x' : Int) : List R4 := (Qz (crS R6.c R6.f L x x') x x' n)
theorem v2r {L : List R6} {n : Int} (hl : L.length ≤ 400) (i : Nat) (hi : i ≤ 2000) (x x' : Int) (q : List R4) (first : Int) (inn : List R6) (hq : q.length ≤ 2000) : ∀ (k j : Nat) (out : List R6), j + k = q.length → out.length ≤ 10000000 + j →
  ∃ N, ∀ M, Yj (Xp L n) (M + N) (.to (.h3 q (q.length : Int) (j : Int) (i : Int) x x' inn out first (rnC R6.c R6.f n L).length (Xw (Yn (rnE R6.c R6.f n L))))) = Yj (Xp L n) M (.to (.h1 ((i + 1 : Nat) : Int) (out ++ (q.drop j).map (D6.put x x')) q first x' (rnC R6.c R6.f n L).length (Xw (Yn (rnE R6.c R6.f n L)))))
 | 0, j, out, h, ho => by
  refine ⟨1, fun M => ?_⟩
  rw [List.drop_eq_nil_of_le (by omega), Zv]
  simp (disch := omega) only [Xp, Yy, Zk, Zx, cond_false, List.map_nil, List.append_nil]
 | k + 1, j, out, h, ho => by
  obtain ⟨N, hN⟩ := v2r hl i hi x x' q first inn hq k (j + 1) (out ++ [D6.put x x' (rd q j)]) (by omega) (by simp; omega)
  refine ⟨N + 1, fun M => ?_⟩
  have := hN M
  rw [Yh (show j < q.length by omega), List.map_cons, ← Nat.add_assoc, Zv]
  simp (disch := omega) only [Xp, Zd, Zq, Zt, Yz, Yx, Yq, Ym, Zh, Zk, Zx, Yc, Zj, Nat.zero_add, decide_true, Bool.and_true, Bool.true_and, cond_true, cond_false]
  rw [List.append_assoc] at this
  exact this
theorem v2q {L : List R6} {n : Int} (hl : L.length ≤ 400) (i : Nat) (hi : i ≤ 2000) (x x' fin : Int) (last : List R4) (first : Int) (inn : List R6) : ∀ (k j : Nat) (out : List R6), j + k = out.length → out.length ≤ 10000000 →
  ∃ N, ∀ M, Yj (Xp L n) (M + N) (.to (.h4 (j : Int) (i : Int) x x' inn out last first fin (rnC R6.c R6.f n L).length (Xw (Yn (rnE R6.c R6.f n L))))) = Yj (Xp L n) M (.to (.h1 ((i + 1 : Nat) : Int) (D6.grow out j x') last first x' (rnC R6.c R6.f n L).length (Xw (Yn (rnE R6.c R6.f n L)))))
 | 0, j, out, h, ho => by
  refine ⟨1, fun M => ?_⟩
  rw [D6.grow_nil _ _ _ (by omega), Zv]
  simp (disch := omega) only [Xp, Yy, Zk, Zx, cond_false]
 | k + 1, j, out, h, ho => by
  obtain ⟨N, hN⟩ := v2q hl i hi x x' fin last first inn k (j + 1) (out.set j (D6.ext x' (rd out j))) (by simp; omega) (by simpa using ho)
  refine ⟨N + 1, fun M => ?_⟩
  have := hN M
  rw [D6.grow_set out j _ (by omega)] at this
  rw [← Nat.add_assoc, Zv]
  simp (disch := omega) only [Xp, Zd, Zq, Zt, Yz, Yx, Yq, Ym, Zh, Zk, Zx, Yc, Zj, Nat.zero_add, decide_true, Bool.and_true, Bool.true_and, cond_true, cond_false]
  exact this
theorem w2j {L : List R6} {n : Int} (hl : L.length ≤ 400) (hn : n ≠ 0) : ∀ (k i : Nat) (s : Sw R6 R4), k = (rnC R6.c R6.f n L).length - 1 - i → i ≤ (rnC R6.c R6.f n L).length → s.out.length ≤ i * 2000 → s.last.length ≤ 2000 → s.first ≤ s.out.length → ∃ N, Yj (Xp L n) N (.to (.h1 ((i + 1 : Nat) : Int) s.out s.last (s.first : Int) s.fin (rnC R6.c R6.f n L).length (Xw (Yn (rnE R6.c R6.f n L))))) = .ret (bif okX (x6s L n) (rnC R6.c R6.f n L) k i then z1j (D6.goX (x6s L n) (rnC R6.c R6.f n L) k i s).out else [.nils, .int .i64 4])
 | 0, i, s, h, hi, ho, hla, hf => by
  have hc := Vp R6.c R6.f n L
  refine ⟨1, ?_⟩
  rw [Zv]
  rw [show okX (x6s L n) (rnC R6.c R6.f n L) 0 i = true from rfl, cond_true, show D6.goX (x6s L n) (rnC R6.c R6.f n L) 0 i s = s from rfl]
  unfold z1j
  by_cases q : (s.out.length : Int) > 400
  ·simp (disch := omega) only [Xp, Yy, Yo, cond_true, cond_false, Zb]
  ·simp (disch := omega) only [Xp, Yy, Xv, cond_true, cond_false, Zb]
 | k + 1, i, s, h, hi, ho, hla, hf => by
  have hc := Vp R6.c R6.f n L
  have hi1 : i + 1 < (rnC R6.c R6.f n L).length := by omega
  have hpl : (Xw (Yn (rnE R6.c R6.f n L))).length = 4 * L.length := by rw [Wn, Wq, Wz]
  have r0 : rd (Xw (Yn (rnE R6.c R6.f n L))) i = rd (rnC R6.c R6.f n L) i := Jy _ _ (by show i < (rnC R6.c R6.f n L).length; omega)
  have r1 : rd (Xw (Yn (rnE R6.c R6.f n L))) (i + 1) = rd (rnC R6.c R6.f n L) (i + 1) := Jy _ _ (by show i + 1 < (rnC R6.c R6.f n L).length; omega)
  have e1 : IntKind.wrap .i64 (((i + 1 : Nat) : Int) - 1) = (i : Int) := by rw [Ze]; exact Zk (by omega)
  have hbig : i * 2000 ≤ 1600 * 2000 := Nat.mul_le_mul_right _ (by omega)
  obtain ⟨N2, h2⟩ := v2s (n := n) hl hi1 s.out s.last (s.first : Int) s.fin L.length 0 [] (Nat.zero_add _) (Nat.le_refl _)
  rw [List.drop_zero, List.nil_append, z0y] at h2
  have hin := Km R6.c R6.f L (rd (rnC R6.c R6.f n L) i) (rd (rnC R6.c R6.f n L) (i + 1))
  have w1 : z0e (crS R6.c R6.f L (rd (rnC R6.c R6.f n L) i) (rd (rnC R6.c R6.f n L) (i + 1))) (rd (rnC R6.c R6.f n L) i) (rd (rnC R6.c R6.f n L) (i + 1)) n = true := by
   unfold z0e
   rw [Yx (by omega), decide_eq_false hn]; rfl
  have st0 : ∀ M, Yj (Xp L n) (M + N2 + 1) (.to (.h1 ((i + 1 : Nat) : Int) s.out s.last (s.first : Int) s.fin (rnC R6.c R6.f n L).length (Xw (Yn (rnE R6.c R6.f n L))))) = Yj (Xp L n) M (.to (.h2 ((i + 1 : Nat) : Int) (crS R6.c R6.f L (rd (rnC R6.c R6.f n L) i) (rd (rnC R6.c R6.f n L) (i + 1))) (L.length : Int) s.out s.last (s.first : Int) s.fin (rnC R6.c R6.f n L).length (Xw (Yn (rnE R6.c R6.f n L))))) := fun M => by
   rw [← h2 M, Zv]
   simp (disch := omega) only [Xp, Zt, cond_true]
  have hq : (x6s L n) (rd (rnC R6.c R6.f n L) i) (rd (rnC R6.c R6.f n L) (i + 1)) = (Qz (crS R6.c R6.f L (rd (rnC R6.c R6.f n L) i) (rd (rnC R6.c R6.f n L) (i + 1))) (rd (rnC R6.c R6.f n L) i) (rd (rnC R6.c R6.f n L) (i + 1)) n) := rfl
  rcases Yv (decide (((Qz (crS R6.c R6.f L (rd (rnC R6.c R6.f n L) i) (rd (rnC R6.c R6.f n L) (i + 1))) (rd (rnC R6.c R6.f n L) i) (rd (rnC R6.c R6.f n L) (i + 1)) n).length : Int) > 400)) with q0 | q0
  ·refine ⟨1 + N2 + 1, ?_⟩
   rw [st0 1, Zv]
   unfold okX
   rw [hq, q0, cond_true, cond_false]
   simp (disch := omega) only [Xp, Yy, e1, r0, r1, w1, q0, Zd, Zq, Zt, Yz, Yx, Yq, Ym, Zh, Zk, Zx, Yc, Zj, Nat.zero_add, decide_true, Bool.and_true, Bool.true_and, cond_true, cond_false, Zb]
  have hsl : (Qz (crS R6.c R6.f L (rd (rnC R6.c R6.f n L) i) (rd (rnC R6.c R6.f n L) (i + 1))) (rd (rnC R6.c R6.f n L) i) (rd (rnC R6.c R6.f n L) (i + 1)) n).length ≤ 2000 := by have := of_decide_eq_false q0; omega
  have w2 : Wp s.last (Qz (crS R6.c R6.f L (rd (rnC R6.c R6.f n L) i) (rd (rnC R6.c R6.f n L) (i + 1))) (rd (rnC R6.c R6.f n L) i) (rd (rnC R6.c R6.f n L) (i + 1)) n) = true := decide_eq_true (by omega)
  have ol := D6.oneS_length (Qz (crS R6.c R6.f L (rd (rnC R6.c R6.f n L) i) (rd (rnC R6.c R6.f n L) (i + 1))) (rd (rnC R6.c R6.f n L) i) (rd (rnC R6.c R6.f n L) (i + 1)) n) (rd (rnC R6.c R6.f n L) i) (rd (rnC R6.c R6.f n L) (i + 1)) s
  rcases Yv (decide (0 < (Qz (crS R6.c R6.f L (rd (rnC R6.c R6.f n L) i) (rd (rnC R6.c R6.f n L) (i + 1))) (rd (rnC R6.c R6.f n L) i) (rd (rnC R6.c R6.f n L) (i + 1)) n).length) && ((s.fin == (rd (rnC R6.c R6.f n L) i)) && D6.same s.last (Qz (crS R6.c R6.f L (rd (rnC R6.c R6.f n L) i) (rd (rnC R6.c R6.f n L) (i + 1))) (rd (rnC R6.c R6.f n L) i) (rd (rnC R6.c R6.f n L) (i + 1)) n))) with q | q
  ·obtain ⟨N4, h4⟩ := v2q (n := n) hl (i + 1) (by omega) (rd (rnC R6.c R6.f n L) i) (rd (rnC R6.c R6.f n L) (i + 1)) s.fin s.last (s.first : Int) (crS R6.c R6.f L (rd (rnC R6.c R6.f n L) i) (rd (rnC R6.c R6.f n L) (i + 1))) (s.out.length - s.first) s.first s.out (by omega) (by omega)
   have e : D6.oneS (Qz (crS R6.c R6.f L (rd (rnC R6.c R6.f n L) i) (rd (rnC R6.c R6.f n L) (i + 1))) (rd (rnC R6.c R6.f n L) i) (rd (rnC R6.c R6.f n L) (i + 1)) n) (rd (rnC R6.c R6.f n L) i) (rd (rnC R6.c R6.f n L) (i + 1)) s = ⟨D6.grow s.out s.first (rd (rnC R6.c R6.f n L) (i + 1)), s.last, s.first, (rd (rnC R6.c R6.f n L) (i + 1))⟩ := by unfold Dim.oneS; rw [q]; rfl
   obtain ⟨N0, h0⟩ := w2j hl hn k (i + 1) (D6.oneS (Qz (crS R6.c R6.f L (rd (rnC R6.c R6.f n L) i) (rd (rnC R6.c R6.f n L) (i + 1))) (rd (rnC R6.c R6.f n L) i) (rd (rnC R6.c R6.f n L) (i + 1)) n) (rd (rnC R6.c R6.f n L) i) (rd (rnC R6.c R6.f n L) (i + 1)) s) (by omega) (by omega) (by omega) (by rw [e]; exact hla) (by rw [e]; simpa [Dim.grow_length] using hf)
   refine ⟨N0 + N4 + 1 + N2 + 1, ?_⟩
   rw [st0 (N0 + N4 + 1), Zv]
   simp only [Bool.and_eq_true, decide_eq_true_eq] at q
   obtain ⟨q1, q2, q3⟩ := q
   have q3' : Ug s.last (Qz (crS R6.c R6.f L (rd (rnC R6.c R6.f n L) i) (rd (rnC R6.c R6.f n L) (i + 1))) (rd (rnC R6.c R6.f n L) i) (rd (rnC R6.c R6.f n L) (i + 1)) n) = true := q3
   simp (disch := omega) only [Xp, Yy, Yo, e1, r0, r1, q0, q2, q3', w1, w2, Zd, Zq, Zt, Yz, Yx, Yq, Ym, Zh, Zk, Zx, Yc, Zj, Nat.zero_add, decide_true, Bool.and_true, Bool.true_and, cond_true, cond_false]
   rw [h4 N0]
   unfold okX; rw [hq, q0, cond_false]; unfold Dim.goX
   rw [hq]
   rw [e] at h0 ⊢
   exact h0
  ·obtain ⟨N3, h3⟩ := v2r (n := n) hl (i + 1) (by omega) (rd (rnC R6.c R6.f n L) i) (rd (rnC R6.c R6.f n L) (i + 1)) (Qz (crS R6.c R6.f L (rd (rnC R6.c R6.f n L) i) (rd (rnC R6.c R6.f n L) (i + 1))) (rd (rnC R6.c R6.f n L) i) (rd (rnC R6.c R6.f n L) (i + 1)) n) (s.out.length : Int) (crS R6.c R6.f L (rd (rnC R6.c R6.f n L) i) (rd (rnC R6.c R6.f n L) (i + 1))) hsl (Qz (crS R6.c R6.f L (rd (rnC R6.c R6.f n L) i) (rd (rnC R6.c R6.f n L) (i + 1))) (rd (rnC R6.c R6.f n L) i) (rd (rnC R6.c R6.f n L) (i + 1)) n).length 0 s.out (Nat.zero_add _) (by omega)
   simp only [List.drop_zero, z0y] at h3
   have e : D6.oneS (Qz (crS R6.c R6.f L (rd (rnC R6.c R6.f n L) i) (rd (rnC R6.c R6.f n L) (i + 1))) (rd (rnC R6.c R6.f n L) i) (rd (rnC R6.c R6.f n L) (i + 1)) n) (rd (rnC R6.c R6.f n L) i) (rd (rnC R6.c R6.f n L) (i + 1)) s = ⟨s.out ++ (Qz (crS R6.c R6.f L (rd (rnC R6.c R6.f n L) i) (rd (rnC R6.c R6.f n L) (i + 1))) (rd (rnC R6.c R6.f n L) i) (rd (rnC R6.c R6.f n L) (i + 1)) n).map (D6.put (rd (rnC R6.c R6.f n L) i) (rd (rnC R6.c R6.f n L) (i + 1))), (Qz (crS R6.c R6.f L (rd (rnC R6.c R6.f n L) i) (rd (rnC R6.c R6.f n L) (i + 1))) (rd (rnC R6.c R6.f n L) i) (rd (rnC R6.c R6.f n L) (i + 1)) n), s.out.length, (rd (rnC R6.c R6.f n L) (i + 1))⟩ := by unfold Dim.oneS; rw [q]; rfl
   obtain ⟨N0, h0⟩ := w2j hl hn k (i + 1) (D6.oneS (Qz (crS R6.c R6.f L (rd (rnC R6.c R6.f n L) i) (rd (rnC R6.c R6.f n L) (i + 1))) (rd (rnC R6.c R6.f n L) i) (rd (rnC R6.c R6.f n L) (i + 1)) n) (rd (rnC R6.c R6.f n L) i) (rd (rnC R6.c R6.f n L) (i + 1)) s) (by omega) (by omega) (by omega) (by rw [e]; exact hsl) (by rw [e]; simp)
   have hg : Xp L n (.h2 ((i + 1 : Nat) : Int) (crS R6.c R6.f L (rd (rnC R6.c R6.f n L) i) (rd (rnC R6.c R6.f n L) (i + 1))) (L.length : Int) s.out s.last (s.first : Int) s.fin (rnC R6.c R6.f n L).length (Xw (Yn (rnE R6.c R6.f n L)))) = .to (.h3 (Qz (crS R6.c R6.f L (rd (rnC R6.c R6.f n L) i) (rd (rnC R6.c R6.f n L) (i + 1))) (rd (rnC R6.c R6.f n L) i) (rd (rnC R6.c R6.f n L) (i + 1)) n) ((Qz (crS R6.c R6.f L (rd (rnC R6.c R6.f n L) i) (rd (rnC R6.c R6.f n L) (i + 1))) (rd (rnC R6.c R6.f n L) i) (rd (rnC R6.c R6.f n L) (i + 1)) n).length : Int) 0 ((i + 1 : Nat) : Int) (rd (rnC R6.c R6.f n L) i) (rd (rnC R6.c R6.f n L) (i + 1)) (crS R6.c R6.f L (rd (rnC R6.c R6.f n L) i) (rd (rnC R6.c R6.f n L) (i + 1))) s.out (s.out.length : Int) (rnC R6.c R6.f n L).length (Xw (Yn (rnE R6.c R6.f n L)))) := by
    have e3 : D6.same s.last (Qz (crS R6.c R6.f L (rd (rnC R6.c R6.f n L) i) (rd (rnC R6.c R6.f n L) (i + 1))) (rd (rnC R6.c R6.f n L) i) (rd (rnC R6.c R6.f n L) (i + 1)) n) = Ug s.last (Qz (crS R6.c R6.f L (rd (rnC R6.c R6.f n L) i) (rd (rnC R6.c R6.f n L) (i + 1))) (rd (rnC R6.c R6.f n L) i) (rd (rnC R6.c R6.f n L) (i + 1)) n) := rfl
    rw [e3] at q
    by_cases q1 : 0 < (Qz (crS R6.c R6.f L (rd (rnC R6.c R6.f n L) i) (rd (rnC R6.c R6.f n L) (i + 1))) (rd (rnC R6.c R6.f n L) i) (rd (rnC R6.c R6.f n L) (i + 1)) n).length
    ·rw [decide_eq_true q1, Bool.true_and] at q
     rcases Yv (s.fin == (rd (rnC R6.c R6.f n L) i)) with q2 | q2
     ·rw [q2, Bool.true_and] at q
      simp (disch := omega) only [Xp, Yy, Yo, e1, r0, r1, q0, q2, q, w1, w2, Zd, Zq, Zt, Yz, Yx, Yq, Ym, Zh, Zk, Zx, Yc, Zj, Nat.zero_add, decide_true, Bool.and_true, Bool.true_and, cond_true, cond_false]
     ·simp (disch := omega) only [Xp, Yy, Yo, e1, r0, r1, q0, q2, w1, w2, Zd, Zq, Zt, Yz, Yx, Yq, Ym, Zh, Zk, Zx, Yc, Zj, Nat.zero_add, decide_true, Bool.and_true, Bool.true_and, cond_true, cond_false]
    ·simp (disch := omega) only [Xp, Yy, Xv, e1, r0, r1, q0, w1, w2, Zd, Zq, Zt, Yz, Yx, Yq, Ym, Zh, Zk, Zx, Yc, Zj, Nat.zero_add, decide_true, Bool.and_true, Bool.true_and, cond_true, cond_false]
   refine ⟨N0 + N3 + 1 + N2 + 1, ?_⟩
   rw [st0 (N0 + N3 + 1), Zv, hg, h3 N0]
   unfold okX; rw [hq, q0, cond_false]; unfold Dim.goX
   rw [hq]
   rw [e] at h0 ⊢
   exact h0
def w4n (L : List R6) (n : Int) : List R6 := (D6.goX (x6s L n) (rnC R6.c R6.f n L) ((rnC R6.c R6.f n L).length - 1) 0 ⟨[], [], 0, 0⟩).out
def Wy (L : List R6) (n : Int) : Int := bif Ye L != 0 then Ye L else bif decide (n < 1) || decide (n > 1000) then 2 else bif okX (x6s L n) (rnC R6.c R6.f n L) ((rnC R6.c R6.f n L).length - 1) 0 then w4q (w4n L n).length else 4
def Zm (L : List R6) (n : Int) : List R6 := w8j (Wy L n) (w4n L n)
def Wj (L : List R6) (n : Int) : Bool := true
theorem v6o (L : List R6) (n : Int) : ∃ N, Yj (Xp L n) N (z8y L n) = .ret (x8a (Wy L n) (w4n L n)) := by
 have hk : (Ye L != 0) = !(Ye L == 0) := rfl
 unfold z8y Wy
 simp only [Zd, z8l, cond_true, hk]
 rcases Yv (Ye L == 0) with a | a
 ·rcases Yv (decide (n < 1)) with b | b
  ·refine ⟨0, ?_⟩
   rw [a, b]; rfl
  ·rcases Yv (decide (n > 1000)) with c | c
   ·refine ⟨0, ?_⟩
    rw [a, b, c]; rfl
   ·have hb := of_decide_eq_false b
    have hl := (Jm (eq_of_beq a)).1
    obtain ⟨N, hN⟩ := v2t (L := L) (n := n) hl (by omega) (w2j hl (by omega) ((rnC R6.c R6.f n L).length - 1) 0 ⟨[], [], 0, 0⟩ (by omega) (Nat.zero_le _) (Nat.zero_le _) (Nat.zero_le _) (Nat.le_refl _)) L.length 0 [] (Nat.zero_add _) rfl
    refine ⟨N, ?_⟩
    rw [a, b, c]
    simp only [Bool.not_true, Bool.not_false, Bool.true_and, Bool.or_false, cond_true, cond_false]
    rw [z0y] at hN
    rw [hN]
    rcases Yv (okX (x6s L n) (rnC R6.c R6.f n L) ((rnC R6.c R6.f n L).length - 1) 0) with q | q
    ·rw [q, cond_true, cond_true, y1e]; rfl
    ·rw [q]; rfl
 ·refine ⟨0, ?_⟩
  rw [a]
  simp only [Bool.not_false, cond_true]
  rw [x3i _ (show (Ye L != 0) = true by rw [hk, a]; rfl)]; rfl
def fInn : List AVal → Option (AVal × Bool)
 | [a0, .int .i64 x1] => match asL R6 a0 with
  | some (L0, g0, n0) => some (.tup [.dat (Zm L0 x1).length (Zz (Zm L0 x1)), .int .i64 (Wy L0 x1)], isT R6 n0 g0 && Wj L0 x1)
  | _ => none
 | _ => none
theorem v7t {S : Specs} (hS : Zu prog S) : Zu prog (S.with w1w fInn) := by
 refine v7e hS (by kernel_rfl) fun args v h => ?_
 unfold fInn at h
 split at h
 ·rename_i a0 x1
  split at h
  ·rename_i L0 g0 n0 e0
   simp only [Option.some.injEq, Prod.mk.injEq, Bool.and_eq_true] at h
   obtain ⟨rfl, ho0, hw⟩ := h
   obtain ⟨N, hN⟩ := v6o L0 x1
   exact ⟨_, _, (.cons (asL_le e0 ho0) (.cons (.refl _) .nil)), y3w _ _, w7o L0 x1 N _ hN, 3, x0b _ _⟩
  ·cases h
 ·cases h
def Dh : Specs := (Dg.with w1w fInn)
theorem z1m : Zu prog Dh := (v7t Kr)
end Go.Am
namespace Go.Am
open Go.Proofs.Tryz
open Go.Proofs
inductive al39S where
def v9c : al39S → Cfg
 := nofun
def y5g : al39S → Xd al39S
 := nofun
def z5t : Xd al39S := (bif (Kf (cvT ([(R6.mk 1 1 1 3 3 3)] : List R6)) 2) then (bif (Wj (cvT ([(R6.mk 1 1 1 3 3 3)] : List R6)) 2) then (bif (z5l (cvT ([(R6.mk 1 1 1 3 3 3)] : List R6)) (cvT (Zg (cvT ([(R6.mk 1 1 1 3 3 3)] : List R6)) 2))) then (bif (z2f (cvT ([(R6.mk 0 0 0 5 1 1)] : List R6)) (cvT ([(R6.mk 0 0 0 1 1 1)] : List R6))) then (bif (z2f (cvT ([(R6.mk 0 0 0 1 1 1)] : List R6)) (cvT ([(R6.mk 0 0 0 5 1 1)] : List R6))) then (bif ((Uy (cvT ([(R6.mk 1 1 1 3 3 3)] : List R6)) 2) == 0) then (bif (Xj (cvT (Zg (cvT ([(R6.mk 1 1 1 3 3 3)] : List R6)) 2)) (cvT ([(R6.mk 0 0 0 4 4 4)] : List R6))) then (bif (Wd (cvT (Zg (cvT ([(R6.mk 1 1 1 3 3 3)] : List R6)) 2)) (cvT ([(R6.mk 0 0 0 4 4 4)] : List R6))) then (bif ((Wy (cvT ([(R6.mk 1 1 1 3 3 3)] : List R6)) 2) == 0) then (bif ((((Zm (cvT ([(R6.mk 1 1 1 3 3 3)] : List R6)) 2).length : Nat) : Int) == 0) then (bif ((z5m (cvT ([(R6.mk 1 1 1 3 3 3)] : List R6)) (cvT (Zg (cvT ([(R6.mk 1 1 1 3 3 3)] : List R6)) 2))) == 0) then (bif ((z5n (cvT ([(R6.mk 1 1 1 3 3 3)] : List R6)) (cvT (Zg (cvT ([(R6.mk 1 1 1 3 3 3)] : List R6)) 2))) == 1) then (bif ((z1i (cvT ([(R6.mk 0 0 0 5 1 1)] : List R6)) (cvT ([(R6.mk 0 0 0 1 1 1)] : List R6))) == 0) then (bif ((z0i (cvT ([(R6.mk 0 0 0 5 1 1)] : List R6)) (cvT ([(R6.mk 0 0 0 1 1 1)] : List R6))) == 4) then (bif ((z1i (cvT ([(R6.mk 0 0 0 1 1 1)] : List R6)) (cvT ([(R6.mk 0 0 0 5 1 1)] : List R6))) == 0) then (.ret [(.bool ((z0i (cvT ([(R6.mk 0 0 0 1 1 1)] : List R6)) (cvT ([(R6.mk 0 0 0 5 1 1)] : List R6))) == 0))]) else (.ret [(.bool false)])) else (.ret [(.bool false)])) else (.ret [(.bool false)])) else (.ret [(.bool false)])) else (.ret [(.bool false)])) else (.ret [(.bool false)])) else (.ret [(.bool false)])) else (.ret [(.bool false)])) else .stuck) else (.ret [(.bool false)])) else .stuck) else .stuck) else .stuck) else .stuck) else .stuck)
theorem x2m : ∀ s, Wu prog (Zy prog 41) (v9c) (v9c s) (y5g s)
 := nofun
theorem y8a : Wu prog (Zy prog 41) (v9c) (Zn prog 41 [] true []) (z5t) := (Wf (sl z1m (C' := ⟨⟨87, 0, true⟩, (Vb prog 41 [1, 1, 0] 1), (Zc prog 41 [1, 1, 0] 1), none, (Zy prog 13), ⟨Yg [(1, (.dat ([(R6.mk 1 1 1 3 3 3)] : List R6).length (Zz ([(R6.mk 1 1 1 3 3 3)] : List R6)))), (15, (.dat ([(R6.mk 1 1 1 3 3 3)] : List R6).length (Zz ([(R6.mk 1 1 1 3 3 3)] : List R6))))], Vr [] 0, 0, [], true⟩, [], .leaf⟩) 31 [] ⟨[], [1], [some [1, 15]], []⟩ ⟨[(1, .frz 1 ([(R6.mk 1 1 1 3 3 3)] : List R6).length (Vt [(ii 1), (ii 1), (ii 1), (ii 3), (ii 3), (ii 3)] 0 6) (Zz ([(R6.mk 1 1 1 3 3 3)] : List R6))), (15, .frz 1 ([(R6.mk 1 1 1 3 3 3)] : List R6).length (Vt [(ii 1), (ii 1), (ii 1), (ii 3), (ii 3), (ii 3)] 0 6) (Zz ([(R6.mk 1 1 1 3 3 3)] : List R6)))], [], []⟩ [] (pp (xZ (.dat 1 (Vt [(ii 1), (ii 1), (ii 1), (ii 3), (ii 3), (ii 3)] 0 6)) 1 (Vt [(ii 1), (ii 1), (ii 1), (ii 3), (ii 3), (ii 3)] 0 6)) (pp (xL 1 ([(R6.mk 1 1 1 3 3 3)] : List R6).length) (pp (xS 1 (Vt [(ii 1), (ii 1), (ii 1), (ii 3), (ii 3), (ii 3)] 0 6) (Zz ([(R6.mk 1 1 1 3 3 3)] : List R6))) (pp (xZ (.dat 1 (Vt [(ii 1), (ii 1), (ii 1), (ii 3), (ii 3), (ii 3)] 0 6)) 1 (Vt [(ii 1), (ii 1), (ii 1), (ii 3), (ii 3), (ii 3)] 0 6)) (pp (xL 1 ([(R6.mk 1 1 1 3 3 3)] : List R6).length) (pp (xS 1 (Vt [(ii 1), (ii 1), (ii 1), (ii 3), (ii 3), (ii 3)] 0 6) (Zz ([(R6.mk 1 1 1 3 3 3)] : List R6))) nn))))))) (lo fun q0_0 => (lo fun q0_1 => (lo fun q0_2 => (Wf (sl z1m (C' := ⟨⟨87, 0, true⟩, (Vb prog 41 [1, 1, 1, 1, 1, 0] 4), (Zc prog 41 [1, 1, 1, 1, 1, 0] 1), none, (Zy prog 13), ⟨Yg [(2, (.dat (Zg (cvT ([(R6.mk 1 1 1 3 3 3)] : List R6)) 2).length (Zz (Zg (cvT ([(R6.mk 1 1 1 3 3 3)] : List R6)) 2)))), (3, (ii (Uy (cvT ([(R6.mk 1 1 1 3 3 3)] : List R6)) 2))), (4, (.dat (Zm (cvT ([(R6.mk 1 1 1 3 3 3)] : List R6)) 2).length (Zz (Zm (cvT ([(R6.mk 1 1 1 3 3 3)] : List R6)) 2)))), (5, (ii (Wy (cvT ([(R6.mk 1 1 1 3 3 3)] : List R6)) 2))), (6, (ii (z5n (cvT ([(R6.mk 1 1 1 3 3 3)] : List R6)) (cvT (Zg (cvT ([(R6.mk 1 1 1 3 3 3)] : List R6)) 2))))), (7, (ii (z5m (cvT ([(R6.mk 1 1 1 3 3 3)] : List R6)) (cvT (Zg (cvT ([(R6.mk 1 1 1 3 3 3)] : List R6)) 2))))), (32, (.dat ([(R6.mk 0 0 0 5 1 1)] : List R6).length (Zz ([(R6.mk 0 0 0 5 1 1)] : List R6)))), (34, (.dat ([(R6.mk 0 0 0 1 1 1)] : List R6).length (Zz ([(R6.mk 0 0 0 1 1 1)] : List R6))))], Vr [] 0, 0, [], true⟩, [], .leaf⟩) 70 [] ⟨[], [1, 3], [some [2, 3, 4, 5, 6, 7, 32, 34]], []⟩ ⟨[(32, .frz 1 ([(R6.mk 0 0 0 5 1 1)] : List R6).length (Vt [(ii 0), (ii 0), (ii 0), (ii 5), (ii 1), (ii 1)] 0 6) (Zz ([(R6.mk 0 0 0 5 1 1)] : List R6))), (34, .frz 1 ([(R6.mk 0 0 0 1 1 1)] : List R6).length (Vt [(ii 0), (ii 0), (ii 0), (ii 1), (ii 1), (ii 1)] 0 6) (Zz ([(R6.mk 0 0 0 1 1 1)] : List R6)))], [], []⟩ [] (pp (xZ (.dat 1 (Vt [(ii 0), (ii 0), (ii 0), (ii 5), (ii 1), (ii 1)] 0 6)) 1 (Vt [(ii 0), (ii 0), (ii 0), (ii 5), (ii 1), (ii 1)] 0 6)) (pp (xL 1 ([(R6.mk 0 0 0 5 1 1)] : List R6).length) (pp (xS 1 (Vt [(ii 0), (ii 0), (ii 0), (ii 5), (ii 1), (ii 1)] 0 6) (Zz ([(R6.mk 0 0 0 5 1 1)] : List R6))) (pp (xZ (.dat 1 (Vt [(ii 0), (ii 0), (ii 0), (ii 1), (ii 1), (ii 1)] 0 6)) 1 (Vt [(ii 0), (ii 0), (ii 0), (ii 1), (ii 1), (ii 1)] 0 6)) (pp (xL 1 ([(R6.mk 0 0 0 1 1 1)] : List R6).length) (pp (xS 1 (Vt [(ii 0), (ii 0), (ii 0), (ii 1), (ii 1), (ii 1)] 0 6) (Zz ([(R6.mk 0 0 0 1 1 1)] : List R6))) (pp (pp (xI R6 ([(R6.mk 1 1 1 3 3 3)] : List R6).length (Zz ([(R6.mk 1 1 1 3 3 3)] : List R6))) (pp (xI R6 (Zg (cvT ([(R6.mk 1 1 1 3 3 3)] : List R6)) 2).length (Zz (Zg (cvT ([(R6.mk 1 1 1 3 3 3)] : List R6)) 2))) (xw q0_2))) (pp (pp (xI R6 ([(R6.mk 1 1 1 3 3 3)] : List R6).length (Zz ([(R6.mk 1 1 1 3 3 3)] : List R6))) (xw q0_1)) (pp (pp (xI R6 ([(R6.mk 1 1 1 3 3 3)] : List R6).length (Zz ([(R6.mk 1 1 1 3 3 3)] : List R6))) (xw q0_0)) nn)))))))))) (lo fun q0_0 => (Wf (sl z1m (C' := ⟨⟨87, 0, true⟩, (Vb prog 41 [1, 1, 1, 1, 1, 1, 0] 4), (Zc prog 41 [1, 1, 1, 1, 1, 1, 0] 1), none, (Zy prog 13), ⟨Yg [(2, (.dat (Zg (cvT ([(R6.mk 1 1 1 3 3 3)] : List R6)) 2).length (Zz (Zg (cvT ([(R6.mk 1 1 1 3 3 3)] : List R6)) 2)))), (3, (ii (Uy (cvT ([(R6.mk 1 1 1 3 3 3)] : List R6)) 2))), (4, (.dat (Zm (cvT ([(R6.mk 1 1 1 3 3 3)] : List R6)) 2).length (Zz (Zm (cvT ([(R6.mk 1 1 1 3 3 3)] : List R6)) 2)))), (5, (ii (Wy (cvT ([(R6.mk 1 1 1 3 3 3)] : List R6)) 2))), (6, (ii (z5n (cvT ([(R6.mk 1 1 1 3 3 3)] : List R6)) (cvT (Zg (cvT ([(R6.mk 1 1 1 3 3 3)] : List R6)) 2))))), (7, (ii (z5m (cvT ([(R6.mk 1 1 1 3 3 3)] : List R6)) (cvT (Zg (cvT ([(R6.mk 1 1 1 3 3 3)] : List R6)) 2))))), (8, (ii (z0i (cvT ([(R6.mk 0 0 0 5 1 1)] : List R6)) (cvT ([(R6.mk 0 0 0 1 1 1)] : List R6))))), (9, (ii (z1i (cvT ([(R6.mk 0 0 0 5 1 1)] : List R6)) (cvT ([(R6.mk 0 0 0 1 1 1)] : List R6))))), (40, (.dat ([(R6.mk 0 0 0 1 1 1)] : List R6).length (Zz ([(R6.mk 0 0 0 1 1 1)] : List R6)))), (42, (.dat ([(R6.mk 0 0 0 5 1 1)] : List R6).length (Zz ([(R6.mk 0 0 0 5 1 1)] : List R6))))], Vr [] 0, 0, [], true⟩, [], .leaf⟩) 49 [] ⟨[], [1, 3], [some [2, 3, 4, 5, 6, 7, 8, 9, 40, 42]], []⟩ ⟨[(40, .frz 1 ([(R6.mk 0 0 0 1 1 1)] : List R6).length (Vt [(ii 0), (ii 0), (ii 0), (ii 1), (ii 1), (ii 1)] 0 6) (Zz ([(R6.mk 0 0 0 1 1 1)] : List R6))), (42, .frz 1 ([(R6.mk 0 0 0 5 1 1)] : List R6).length (Vt [(ii 0), (ii 0), (ii 0), (ii 5), (ii 1), (ii 1)] 0 6) (Zz ([(R6.mk 0 0 0 5 1 1)] : List R6)))], [], []⟩ [] (pp (xZ (.dat 1 (Vt [(ii 0), (ii 0), (ii 0), (ii 1), (ii 1), (ii 1)] 0 6)) 1 (Vt [(ii 0), (ii 0), (ii 0), (ii 1), (ii 1), (ii 1)] 0 6)) (pp (xL 1 ([(R6.mk 0 0 0 1 1 1)] : List R6).length) (pp (xS 1 (Vt [(ii 0), (ii 0), (ii 0), (ii 1), (ii 1), (ii 1)] 0 6) (Zz ([(R6.mk 0 0 0 1 1 1)] : List R6))) (pp (xZ (.dat 1 (Vt [(ii 0), (ii 0), (ii 0), (ii 5), (ii 1), (ii 1)] 0 6)) 1 (Vt [(ii 0), (ii 0), (ii 0), (ii 5), (ii 1), (ii 1)] 0 6)) (pp (xL 1 ([(R6.mk 0 0 0 5 1 1)] : List R6).length) (pp (xS 1 (Vt [(ii 0), (ii 0), (ii 0), (ii 5), (ii 1), (ii 1)] 0 6) (Zz ([(R6.mk 0 0 0 5 1 1)] : List R6))) (pp (pp (xI R6 ([(R6.mk 0 0 0 5 1 1)] : List R6).length (Zz ([(R6.mk 0 0 0 5 1 1)] : List R6))) (pp (xI R6 ([(R6.mk 0 0 0 1 1 1)] : List R6).length (Zz ([(R6.mk 0 0 0 1 1 1)] : List R6))) (xw q0_0))) nn)))))))) (lo fun aZ => (lb (fun k0 => (Wf (sl z1m (C' := ⟨⟨87, 0, true⟩, (Vb prog 41 [1, 1, 1, 1, 1, 1, 1, 0] 6), (Zc prog 41 [1, 1, 1, 1, 1, 1, 1, 0] 1), none, (Zy prog 13), ⟨Yg [(4, (.dat (Zm (cvT ([(R6.mk 1 1 1 3 3 3)] : List R6)) 2).length (Zz (Zm (cvT ([(R6.mk 1 1 1 3 3 3)] : List R6)) 2)))), (5, (ii (Wy (cvT ([(R6.mk 1 1 1 3 3 3)] : List R6)) 2))), (6, (ii (z5n (cvT ([(R6.mk 1 1 1 3 3 3)] : List R6)) (cvT (Zg (cvT ([(R6.mk 1 1 1 3 3 3)] : List R6)) 2))))), (7, (ii (z5m (cvT ([(R6.mk 1 1 1 3 3 3)] : List R6)) (cvT (Zg (cvT ([(R6.mk 1 1 1 3 3 3)] : List R6)) 2))))), (8, (ii (z0i (cvT ([(R6.mk 0 0 0 5 1 1)] : List R6)) (cvT ([(R6.mk 0 0 0 1 1 1)] : List R6))))), (9, (ii (z1i (cvT ([(R6.mk 0 0 0 5 1 1)] : List R6)) (cvT ([(R6.mk 0 0 0 1 1 1)] : List R6))))), (10, (ii (z0i (cvT ([(R6.mk 0 0 0 1 1 1)] : List R6)) (cvT ([(R6.mk 0 0 0 5 1 1)] : List R6))))), (11, (ii (z1i (cvT ([(R6.mk 0 0 0 1 1 1)] : List R6)) (cvT ([(R6.mk 0 0 0 5 1 1)] : List R6))))), (48, (.bool true)), (49, (.dat (Zg (cvT ([(R6.mk 1 1 1 3 3 3)] : List R6)) 2).length (Zz (Zg (cvT ([(R6.mk 1 1 1 3 3 3)] : List R6)) 2)))), (51, (.dat ([(R6.mk 0 0 0 4 4 4)] : List R6).length (Zz ([(R6.mk 0 0 0 4 4 4)] : List R6))))], Vr [] 0, 0, [], true⟩, [], .leaf⟩) 33 [] ⟨[], [1], [some [4, 5, 6, 7, 8, 9, 10, 11, 48, 49, 51]], []⟩ ⟨[(51, .frz 1 ([(R6.mk 0 0 0 4 4 4)] : List R6).length (Vt [(ii 0), (ii 0), (ii 0), (ii 4), (ii 4), (ii 4)] 0 6) (Zz ([(R6.mk 0 0 0 4 4 4)] : List R6)))], [], []⟩ (trs 3 []) (pp (xZ (.dat 1 (Vt [(ii 0), (ii 0), (ii 0), (ii 4), (ii 4), (ii 4)] 0 6)) 1 (Vt [(ii 0), (ii 0), (ii 0), (ii 4), (ii 4), (ii 4)] 0 6)) (pp (xL 1 ([(R6.mk 0 0 0 4 4 4)] : List R6).length) (pp (xS 1 (Vt [(ii 0), (ii 0), (ii 0), (ii 4), (ii 4), (ii 4)] 0 6) (Zz ([(R6.mk 0 0 0 4 4 4)] : List R6))) (tt k0 (pp (pp (xI R6 ([(R6.mk 0 0 0 1 1 1)] : List R6).length (Zz ([(R6.mk 0 0 0 1 1 1)] : List R6))) (pp (xI R6 ([(R6.mk 0 0 0 5 1 1)] : List R6).length (Zz ([(R6.mk 0 0 0 5 1 1)] : List R6))) (xw aZ))) nn)))))) (lo fun aH => (lb (fun k1 => (lb (fun k2 => (lb (fun k3 => (lb (fun k4 => (lb (fun k5 => (lb (fun k6 => (lb (fun k7 => (lb (fun k8 => (lr 87 3 [1, 1, 1, 1, 1, 1, 0] 1 13 [(0, (.bool ((z0i (cvT ([(R6.mk 0 0 0 1 1 1)] : List R6)) (cvT ([(R6.mk 0 0 0 5 1 1)] : List R6))) == 0)))] (sl z1m 37 [] ⟨[], [], [some [0]], []⟩ ⟨[], [], []⟩ (trs 18 []) (tt k8 (tt k7 (tt k6 (tt k5 (tt k4 (tt k3 (tt k2 (tt k1 (pp (pp (xI R6 (Zg (cvT ([(R6.mk 1 1 1 3 3 3)] : List R6)) 2).length (Zz (Zg (cvT ([(R6.mk 1 1 1 3 3 3)] : List R6)) 2))) (pp (xI R6 ([(R6.mk 0 0 0 4 4 4)] : List R6).length (Zz ([(R6.mk 0 0 0 4 4 4)] : List R6))) (xw aH))) nn)))))))))))) (fun k8 => (lr 87 3 [1, 1, 1, 1, 1, 1, 0] 1 13 [(0, (.bool false))] (sl z1m 37 [] ⟨[], [], [some [0]], []⟩ ⟨[], [], []⟩ (trs 16 [false, false]) (tt k8 (tt k7 (tt k6 (tt k5 (tt k4 (tt k3 (tt k2 (tt k1 (pp (pp (xI R6 (Zg (cvT ([(R6.mk 1 1 1 3 3 3)] : List R6)) 2).length (Zz (Zg (cvT ([(R6.mk 1 1 1 3 3 3)] : List R6)) 2))) (pp (xI R6 ([(R6.mk 0 0 0 4 4 4)] : List R6).length (Zz ([(R6.mk 0 0 0 4 4 4)] : List R6))) (xw aH))) nn)))))))))))))) (fun k7 => (lr 87 3 [1, 1, 1, 1, 1, 1, 0] 1 13 [(0, (.bool false))] (sl z1m 37 [] ⟨[], [], [some [0]], []⟩ ⟨[], [], []⟩ (trs 14 [false, false, false, false]) (tt k7 (tt k6 (tt k5 (tt k4 (tt k3 (tt k2 (tt k1 (pp (pp (xI R6 (Zg (cvT ([(R6.mk 1 1 1 3 3 3)] : List R6)) 2).length (Zz (Zg (cvT ([(R6.mk 1 1 1 3 3 3)] : List R6)) 2))) (pp (xI R6 ([(R6.mk 0 0 0 4 4 4)] : List R6).length (Zz ([(R6.mk 0 0 0 4 4 4)] : List R6))) (xw aH))) nn))))))))))))) (fun k6 => (lr 87 3 [1, 1, 1, 1, 1, 1, 0] 1 13 [(0, (.bool false))] (sl z1m 37 [] ⟨[], [], [some [0]], []⟩ ⟨[], [], []⟩ (trs 12 [false, false, false, false, false, false]) (tt k6 (tt k5 (tt k4 (tt k3 (tt k2 (tt k1 (pp (pp (xI R6 (Zg (cvT ([(R6.mk 1 1 1 3 3 3)] : List R6)) 2).length (Zz (Zg (cvT ([(R6.mk 1 1 1 3 3 3)] : List R6)) 2))) (pp (xI R6 ([(R6.mk 0 0 0 4 4 4)] : List R6).length (Zz ([(R6.mk 0 0 0 4 4 4)] : List R6))) (xw aH))) nn)))))))))))) (fun k5 => (lr 87 3 [1, 1, 1, 1, 1, 1, 0] 1 13 [(0, (.bool false))] (sl z1m 37 [] ⟨[], [], [some [0]], []⟩ ⟨[], [], []⟩ (trs 10 [false, false, false, false, false, false, false, false]) (tt k5 (tt k4 (tt k3 (tt k2 (tt k1 (pp (pp (xI R6 (Zg (cvT ([(R6.mk 1 1 1 3 3 3)] : List R6)) 2).length (Zz (Zg (cvT ([(R6.mk 1 1 1 3 3 3)] : List R6)) 2))) (pp (xI R6 ([(R6.mk 0 0 0 4 4 4)] : List R6).length (Zz ([(R6.mk 0 0 0 4 4 4)] : List R6))) (xw aH))) nn))))))))))) (fun k4 => (lr 87 3 [1, 1, 1, 1, 1, 1, 0] 1 13 [(0, (.bool false))] (sl z1m 37 [] ⟨[], [], [some [0]], []⟩ ⟨[], [], []⟩ (trs 8 [false, false, false, false, false, false, false, false, false, false]) (tt k4 (tt k3 (tt k2 (tt k1 (pp (pp (xI R6 (Zg (cvT ([(R6.mk 1 1 1 3 3 3)] : List R6)) 2).length (Zz (Zg (cvT ([(R6.mk 1 1 1 3 3 3)] : List R6)) 2))) (pp (xI R6 ([(R6.mk 0 0 0 4 4 4)] : List R6).length (Zz ([(R6.mk 0 0 0 4 4 4)] : List R6))) (xw aH))) nn)))))))))) (fun k3 => (lr 87 3 [1, 1, 1, 1, 1, 1, 0] 1 13 [(0, (.bool false))] (sl z1m 37 [] ⟨[], [], [some [0]], []⟩ ⟨[], [], []⟩ (trs 6 [false, false, false, false, false, false, false, false, false, false, false, false]) (tt k3 (tt k2 (tt k1 (pp (pp (xI R6 (Zg (cvT ([(R6.mk 1 1 1 3 3 3)] : List R6)) 2).length (Zz (Zg (cvT ([(R6.mk 1 1 1 3 3 3)] : List R6)) 2))) (pp (xI R6 ([(R6.mk 0 0 0 4 4 4)] : List R6).length (Zz ([(R6.mk 0 0 0 4 4 4)] : List R6))) (xw aH))) nn))))))))) (fun k2 => (lr 87 3 [1, 1, 1, 1, 1, 1, 0] 1 13 [(0, (.bool false))] (sl z1m 37 [] ⟨[], [], [some [0]], []⟩ ⟨[], [], []⟩ (trs 3 [false, false, false, false, false, false, false, false, false, false, false, false, false, false, false]) (tt k2 (tt k1 (pp (pp (xI R6 (Zg (cvT ([(R6.mk 1 1 1 3 3 3)] : List R6)) 2).length (Zz (Zg (cvT ([(R6.mk 1 1 1 3 3 3)] : List R6)) 2))) (pp (xI R6 ([(R6.mk 0 0 0 4 4 4)] : List R6).length (Zz ([(R6.mk 0 0 0 4 4 4)] : List R6))) (xw aH))) nn)))))))) (fun k1 => (lr 87 3 [1, 1, 1, 1, 1, 1, 0] 1 13 [(0, (.bool false))] (sl z1m 37 [] ⟨[], [], [some [0]], []⟩ ⟨[], [], []⟩ [true, false, false, false, false, false, false, false, false, false, false, false, false, false, false, false, false, false] (tt k1 (pp (pp (xI R6 (Zg (cvT ([(R6.mk 1 1 1 3 3 3)] : List R6)) 2).length (Zz (Zg (cvT ([(R6.mk 1 1 1 3 3 3)] : List R6)) 2))) (pp (xI R6 ([(R6.mk 0 0 0 4 4 4)] : List R6).length (Zz ([(R6.mk 0 0 0 4 4 4)] : List R6))) (xw aH))) nn))))))))) (fun k0 => (lr 87 3 [1, 1, 1, 1, 1, 1, 0] 1 13 [(0, (.bool false))] (sl z1m 52 [] ⟨[], [], [some [0]], []⟩ ⟨[], [], []⟩ [false, false, false, false, false, false, false, false, false, false, false, false, false, false, false, false, false, false, false, false, false] (tt k0 (pp (pp (xI R6 ([(R6.mk 0 0 0 1 1 1)] : List R6).length (Zz ([(R6.mk 0 0 0 1 1 1)] : List R6))) (pp (xI R6 ([(R6.mk 0 0 0 5 1 1)] : List R6).length (Zz ([(R6.mk 0 0 0 5 1 1)] : List R6))) (xw aZ))) nn))))))))))))))
theorem w3v (n : Nat) (vs : List AVal) (h : Yj (y5g) n (z5t) = .ret vs) : Jn prog (Zy prog 41) (Zn prog 41 [] true []) vs := by
 have := Zr (x2m) n _ (y8a)
 rwa [h] at this
inductive fitS where
def fitC (l0 : List R6) : fitS → Cfg
 := nofun
def x1l (l0 : List R6) : fitS → Xd fitS
 := nofun
def z9c (l0 : List R6) : Xd fitS := (bif (decide ((l0.length : Int) ≤ 6)) then (bif (z2s (cvT l0)) then (bif (x0p (cvT l0)) then (bif (Jv (cvT l0)) then (.ret [(.bool ((Xs (cvT l0)) == 0))]) else .stuck) else (.ret [(.bool false)])) else .stuck) else (.ret [(.bool false)]))
theorem x7a (l0 : List R6) : ∀ s, Wu prog (Zy prog 42) (fitC l0) (fitC l0 s) (x1l l0 s)
 := nofun
theorem x1m (l0 : List R6) : Wu prog (Zy prog 42) (fitC l0) (Zn prog 42 [(.dat l0.length (Zz l0))] true []) (z9c l0) := (lb (fun k0 => (lo fun aH => (lb (fun k1 => (lo fun o0 => (lr 15 3 [1, 1, 1, 1, 1, 1, 0] 1 15 [(2, (.bool ((Xs (cvT l0)) == 0)))] (sl z1m 20 [] ⟨[], [], [some [2]], []⟩ ⟨[], [], []⟩ (trs 5 []) (pp (pp (xr l0) (xw o0)) (tt k1 (pp (pp (xr l0) (xw aH)) (tt k0 nn)))))))) (fun k1 => (lr 15 3 [1, 1, 1, 1, 1, 1, 0] 1 15 [(2, (.bool false))] (sl z1m 20 [] ⟨[], [], [some [2]], []⟩ ⟨[], [], []⟩ [true, true, false, false, false] (tt k1 (pp (pp (xr l0) (xw aH)) (tt k0 nn))))))))) (fun k0 => (lr 15 3 [1, 1, 1, 1, 1, 1, 0] 1 15 [(2, (.bool false))] (sl z1m 20 [] ⟨[], [], [some [2]], []⟩ ⟨[], [], []⟩ [false, false, false, false, false] (tt k0 nn)))))
theorem w8c (l0 : List R6) (n : Nat) (vs : List AVal) (h : Yj (x1l l0) n (z9c l0) = .ret vs) : Jn prog (Zy prog 42) (Zn prog 42 [(.dat l0.length (Zz l0))] true []) vs := by
 have := Zr (x7a l0) n _ (x1m l0)
 rwa [h] at this
end Go.Am
namespace Go.Am
open Go.Proofs Go.Sort Go.Shelf Go.RowKit Go.Lib
def w4m : Sem R2 Int where
 can := Can
 inB s y := s.a ≤ y ∧ y < s.b
 uniq := w3n
 some s hs hn := by
  cases s with
  | nil => exact absurd rfl hn
  | cons r l => exact ⟨r.a, r, by simp, Int.le_refl _, hs.pos r (by simp)⟩
 nil := .nil
def y5z : Sem R4 (Int × Int) := Dim.sem y5q w4m
def w4l : Sem R6 (Int × Int × Int) := Dim.sem y5p y5z
namespace Dim
variable {α β : Type} {D : Dim α β}
theorem inn_slab (l m : List α) (hl : ∀ r ∈ m, r ∈ l) {j : Nat} (hj : j + 1 < (D.cuts l).length) {x : Int} (h1 : rd (D.cuts l) j ≤ x) (h2 : x < rd (D.cuts l) (j + 1)) : D.inn m (rd (D.cuts l) j) = D.inn m x := by
 have hc : (D.cuts l).Pairwise (· < ·) := by
  show (Uo (D.ends l)).Pairwise (· < ·)
  rw [Jh]; exact (Vz _).1
 have gE : ∀ r ∈ m, D.lo r ∈ D.cuts l ∧ D.hi r ∈ D.cuts l := fun r hr => by
  show D.lo r ∈ Uo (D.ends l) ∧ D.hi r ∈ Uo (D.ends l)
  rw [Jh, (Vz _).2, (Vz _).2]
  exact ⟨List.mem_flatMap.2 ⟨r, hl r hr, by simp⟩, List.mem_flatMap.2 ⟨r, hl r hr, by simp⟩⟩
 have side : ∀ c, c ∈ D.cuts l → (c ≤ rd (D.cuts l) j ↔ c ≤ x) := fun c hcm => by
  obtain ⟨i, hi, rfl⟩ := List.getElem_of_mem hcm
  rw [← Xm hi]
  rcases Nat.lt_or_ge j i with h | h
  ·have : rd (D.cuts l) (j + 1) ≤ rd (D.cuts l) i := by
    rcases Nat.eq_or_lt_of_le (show j + 1 ≤ i from h) with e | e
    ·rw [e]; exact Int.le_refl _
    ·exact Int.le_of_lt (z2b hc e hi)
   have := z2b hc (Nat.lt_succ_self j) hj
   constructor <;> intro <;> omega
  ·have : rd (D.cuts l) i ≤ rd (D.cuts l) j := by
    rcases Nat.eq_or_lt_of_le h with e | e
    ·rw [e]; exact Int.le_refl _
    ·exact Int.le_of_lt (z2b hc e (by omega))
   constructor <;> intro <;> omega
 unfold inn
 congr 1
 refine List.filter_congr fun r hr => ?_
 obtain ⟨m1, m2⟩ := gE r hr
 have s1 := side _ m1
 have s2 := side _ m2
 have e1 : decide (D.lo r ≤ rd (D.cuts l) j) = decide (D.lo r ≤ x) := decide_eq_decide.2 s1
 have e2 : decide (rd (D.cuts l) j < D.hi r) = decide (x < D.hi r) := decide_eq_decide.2 (by constructor <;> intro <;> omega)
 rw [e1, e2]
theorem inn_out (l m : List α) (hl : ∀ r ∈ m, r ∈ l) {x : Int} (h : ∀ j, j + 1 < (D.cuts l).length → ¬ (rd (D.cuts l) j ≤ x ∧ x < rd (D.cuts l) (j + 1))) : D.inn m x = [] := by
 unfold inn
 rw [List.map_eq_nil_iff, List.filter_eq_nil_iff]
 intro r hr hb
 simp only [Bool.and_eq_true, decide_eq_true_eq] at hb
 have gE : D.lo r ∈ D.cuts l ∧ D.hi r ∈ D.cuts l := by
  show D.lo r ∈ Uo (D.ends l) ∧ D.hi r ∈ Uo (D.ends l)
  rw [Jh, (Vz _).2, (Vz _).2]
  exact ⟨List.mem_flatMap.2 ⟨r, hl r hr, by simp⟩, List.mem_flatMap.2 ⟨r, hl r hr, by simp⟩⟩
 have hc : (D.cuts l).Pairwise (· < ·) := by
  show (Uo (D.ends l)).Pairwise (· < ·)
  rw [Jh]; exact (Vz _).1
 obtain ⟨i, hi, e1⟩ := List.getElem_of_mem gE.1
 obtain ⟨k, hk, e2⟩ := List.getElem_of_mem gE.2
 rw [← Xm hi] at e1
 rw [← Xm hk] at e2
 have h0 : rd (D.cuts l) 0 ≤ rd (D.cuts l) i := by
  rcases Nat.eq_or_lt_of_le (Nat.zero_le i) with e | e
  ·rw [← e]; exact Int.le_refl _
  ·exact Int.le_of_lt (z2b hc e hi)
 obtain ⟨j, j1, j2, j3⟩ := y5b k hk x (by omega) (by omega)
 exact h j (by omega) ⟨j2, j3⟩
theorem goJ_can (hD : D.Fair) (hs : ∀ a b, D.same a b = true ↔ a = b) {γ : Type} (M : Sem β γ) (a b : List α) (J : List β → List β → List β) (hJ : ∀ x, M.can (J (D.inn a x) (D.inn b x))) (h0 : J [] [] = []) :
  (D.sem hD M).can (D.goS (fun x => J (D.inn a x) (D.inn b x)) (D.cuts (a ++ b)) ((D.cuts (a ++ b)).length - 1) 0 ⟨[], [], 0, 0⟩).out ∧
  ∀ x q, ptL (D.sem hD M).inB (D.goS (fun x => J (D.inn a x) (D.inn b x)) (D.cuts (a ++ b)) ((D.cuts (a ++ b)).length - 1) 0 ⟨[], [], 0, 0⟩).out (x, q) ↔ ptL M.inB (J (D.inn a x) (D.inn b x)) q := by
 have hc : (D.cuts (a ++ b)).Pairwise (· < ·) := by
  show (Uo (D.ends (a ++ b))).Pairwise (· < ·)
  rw [Jh]; exact (Vz _).1
 obtain ⟨h1, h2⟩ := goS_can hD hs M (cs := D.cuts (a ++ b)) hc hJ
 refine ⟨h1, fun x q => ?_⟩
 rw [h2]
 constructor
 ·rintro ⟨j, j1, j2, j3, j4⟩
  rwa [inn_slab (a ++ b) a (fun r hr => List.mem_append.2 (.inl hr)) j1 j2 j3, inn_slab (a ++ b) b (fun r hr => List.mem_append.2 (.inr hr)) j1 j2 j3] at j4
 ·intro hp
  by_cases hx : ∃ j, j + 1 < (D.cuts (a ++ b)).length ∧ rd (D.cuts (a ++ b)) j ≤ x ∧ x < rd (D.cuts (a ++ b)) (j + 1)
  ·obtain ⟨j, j1, j2, j3⟩ := hx
   refine ⟨j, j1, j2, j3, ?_⟩
   rwa [inn_slab (a ++ b) a (fun r hr => List.mem_append.2 (.inl hr)) j1 j2 j3, inn_slab (a ++ b) b (fun r hr => List.mem_append.2 (.inr hr)) j1 j2 j3]
  ·have hx' : ∀ j, j + 1 < (D.cuts (a ++ b)).length → ¬ (rd (D.cuts (a ++ b)) j ≤ x ∧ x < rd (D.cuts (a ++ b)) (j + 1)) := fun j j1 j2 => hx ⟨j, j1, j2⟩
   rw [inn_out (a ++ b) a (fun r hr => List.mem_append.2 (.inl hr)) hx', inn_out (a ++ b) b (fun r hr => List.mem_append.2 (.inr hr)) hx', h0] at hp
   exact absurd hp (y4c _ _)
theorem pt_inn {γ : Type} (inB : β → γ → Prop) (l : List α) (x : Int) (q : γ) : ptL inB (D.inn l x) q ↔ ptL (D.inA inB) l (x, q) := by
 constructor
 ·rintro ⟨b, hb, h⟩
  obtain ⟨r, hr, rfl⟩ := List.mem_map.1 hb
  obtain ⟨h1, h2⟩ := List.mem_filter.1 hr
  simp only [Bool.and_eq_true, decide_eq_true_eq] at h2
  exact ⟨r, h1, h2.1, h2.2, h⟩
 ·rintro ⟨r, hr, h1, h2, h3⟩
  refine ⟨D.pr r, List.mem_map.2 ⟨r, List.mem_filter.2 ⟨hr, ?_⟩, rfl⟩, h3⟩
  simp only [Bool.and_eq_true, decide_eq_true_eq]
  exact ⟨h1, h2⟩
theorem out_goJ (l : List α) : D.out l = (D.goS (fun x => D.mak (D.inn l x)) (D.cuts (l ++ [])) ((D.cuts (l ++ [])).length - 1) 0 ⟨[], [], 0, 0⟩).out := by
 rw [List.append_nil]
 unfold out
 rw [go_goS]
 rfl
end Dim
theorem y6b (a b : List R4) : D6.same a b = true ↔ a = b := decide_eq_true_iff
theorem y6c (a b : List R2) : D4.same a b = true ↔ a = b := decide_eq_true_iff
theorem w7n {l : List R4} (h : ∀ r ∈ l, z3m r = true) (x : Int) : (D4.inn l x).all z7s = true := List.all_eq_true.2 fun s hs => by
 obtain ⟨r, hr, _, _, rfl⟩ := y4q hs
 have := h r hr
 simp only [z3m, z7s, Bool.and_eq_true, decide_eq_true_eq] at this ⊢
 omega
theorem x8s {l : List R2} (hv : l.all z7s = true) (hl : l.length ≤ 400) : w4m.can (Xa l) ∧ ∀ y, ptL w4m.inB (Xa l) y ↔ ptL w4m.inB l y := by
 obtain ⟨c1, c2⟩ := y8y l hv
 have e : Xa l = swV l := by unfold Xa; rw [decide_eq_false (by omega), hv]; rfl
 rw [e]
 exact ⟨c1, c2⟩
theorem x6f {β γ : Type} (M : Sem β γ) {l : List β} (h : M.can l) (hp : ∀ q, ¬ ptL M.inB l q) : l = [] := Classical.byContradiction fun hn => by
 obtain ⟨q, hq⟩ := M.some l h hn
 exact hp q hq
theorem v4f : Xa [] = [] := by
 obtain ⟨h1, h2⟩ := x8s (l := []) rfl (Nat.zero_le _)
 exact x6f w4m h1 fun q hq => y4c _ _ ((h2 q).1 hq)
theorem w0d {l : List R4} (hv : ∀ r ∈ l, z3m r = true) (hl : l.length ≤ 400) : y5z.can (D4.out l) ∧ ∀ p, ptL y5z.inB (D4.out l) p ↔ ptL y5z.inB l p := by
 rw [Dim.out_goJ]
 have hs : ∀ x, w4m.can (D4.mak (D4.inn l x)) ∧ ∀ y, ptL w4m.inB (D4.mak (D4.inn l x)) y ↔ ptL w4m.inB (D4.inn l x) y := fun x => x8s (w7n hv x) (Nat.le_trans (D4.inn_length l x) hl)
 obtain ⟨h1, h2⟩ := Dim.goJ_can y5q y6c w4m l [] (fun s _ => D4.mak s) (fun x => (hs x).1) v4f
 refine ⟨h1, fun ⟨x, y⟩ => ?_⟩
 rw [show ptL y5z.inB _ (x, y) ↔ _ from h2 x y, (hs x).2, Dim.pt_inn]
 rfl
theorem w5x {l : List R4} (hv : ∀ r ∈ l, z3m r = true) (hl : l.length ≤ 400) (h : (D4.out l).length ≤ 400) : Yp l = D4.out l ∧ Wr l = 0 := by
 have hv' : l.all z3m = true := List.all_eq_true.2 hv
 unfold Yp Wr
 rw [decide_eq_false (by omega), hv', decide_eq_false (by omega)]
 exact ⟨rfl, rfl⟩
end Go.Am
namespace Go.Am
open Go.Proofs Go.Sort Go.Shelf Go.RowKit Go.Lib
def ind (a b t : Int) : Int := if a ≤ t ∧ t < b then 1 else 0
def ptsN (lo : Int) (n : Nat) : List Int := (List.range n).map fun (k : Nat) => lo + (k : Int)
theorem w2l (a b lo : Int) : ∀ n : Nat, sm (ptsN lo n) (ind a b) = ovl a b lo (lo + n)
 | 0 => by show (0 : Int) = _; unfold ovl; omega
 | n + 1 => by
  unfold ptsN
  rw [List.range_succ, List.map_append, x9b]
  have := w2l a b lo n
  unfold ptsN at this
  rw [this, List.map_cons, List.map_nil, Ve, z9s]
  unfold ind ovl
  split <;> omega
theorem x1b (a b c d t : Int) : ind a b t * ind c d t = ind (max a c) (min b d) t := by
 unfold ind
 by_cases h1 : a ≤ t ∧ t < b
 ·by_cases h2 : c ≤ t ∧ t < d
  ·rw [if_pos h1, if_pos h2, if_pos (by omega)]; rfl
  ·rw [if_pos h1, if_neg h2, if_neg (by omega)]; rfl
 ·rw [if_neg h1, Int.zero_mul, if_neg (by omega)]
theorem z6i (a b t : Int) : 0 ≤ ind a b t := by unfold ind; split <;> omega
theorem ind_le (a b t : Int) : ind a b t ≤ 1 := by unfold ind; split <;> omega
def Pts (p : List Int) : Prop := (∀ a b, -1000005 ≤ a ∧ b ≤ 1000005 → sm p (ind a b) = max 0 (b - a)) ∧ p.length = 2000010
theorem w0y : ∃ p, Pts p := by
 refine ⟨ptsN (-1000005) 2000010, fun a b h => ?_, by simp only [ptsN, List.length_map, List.length_range]⟩
 rw [w2l]
 show ovl a b (-1000005) (-1000005 + 2000010) = _
 unfold ovl; omega
def S3 (p : List Int) (f : Int → Int → Int → Int) : Int := sm p fun x => sm p fun y => sm p fun z => f x y z
theorem v9h {p : List Int} {α : Type} (l : List α) (f : α → Int → Int → Int → Int) : S3 p (fun x y z => sm l fun a => f a x y z) = sm l fun a => S3 p (f a) := by
 unfold S3
 rw [y9e l p]
 refine Vs fun x _ => ?_
 rw [y9e l p]
 exact Vs fun y _ => y9e _ _ _
theorem S3_sub {p : List Int} (f g : Int → Int → Int → Int) : S3 p (fun x y z => f x y z - g x y z) = S3 p f - S3 p g := by
 unfold S3; simp only [sm_sub]
theorem w4g {p : List Int} {f g : Int → Int → Int → Int} (h : ∀ x y z, f x y z ≤ g x y z) : S3 p f ≤ S3 p g :=
 y3n fun x _ => y3n fun y _ => y3n fun z _ => h x y z
theorem w4e {p : List Int} {f : Int → Int → Int → Int} (h : ∀ x y z, 0 ≤ f x y z) : 0 ≤ S3 p f :=
 Vd fun x _ => Vd fun y _ => Vd fun z _ => h x y z
theorem w4f {p : List Int} (f g h : Int → Int) : S3 p (fun x y z => f x * g y * h z) = sm p f * sm p g * sm p h := by
 unfold S3
 simp only [x8z, Int.mul_assoc]
 rw [← x9a]
 refine Vs fun x _ => ?_
 rw [← x9a]
theorem S3_one {p : List Int} (hp : Pts p) : S3 p (fun _ _ _ => 1) ≤ 8000120000600001000 := by
 have h : sm p (fun _ => 1) ≤ (p.length : Int) * 1 := sm_le fun _ _ => Int.le_refl _
 have hl := hp.2
 have h0 : 0 ≤ sm p (fun _ => 1) := Vd fun _ _ => by omega
 have e : S3 p (fun _ _ _ => 1) = sm p (fun _ => 1) * sm p (fun _ => 1) * sm p (fun _ => 1) := w4f (fun _ => 1) (fun _ => 1) (fun _ => 1)
 rw [e]
 have h1 : sm p (fun _ => 1) ≤ 2000010 := by omega
 have h2 := Int.mul_le_mul (Int.mul_le_mul h1 h1 h0 (by omega)) h1 h0 (by omega)
 have h3 : (2000010 : Int) * 2000010 * 2000010 = 8000120000600001000 := by decide
 rw [h3] at h2
 exact h2
def inR (r : R6) (x y z : Int) : Int := ind r.a r.d x * ind r.b r.e y * ind r.c r.f z
theorem y2t (r : R6) (x y z : Int) : 0 ≤ inR r x y z := Int.mul_nonneg (Int.mul_nonneg (z6i ..) (z6i ..)) (z6i ..)
theorem x4f (r : R6) (x y z : Int) : inR r x y z = if (r.a ≤ x ∧ x < r.d) ∧ (r.b ≤ y ∧ y < r.e) ∧ (r.c ≤ z ∧ z < r.f) then 1 else 0 := by
 unfold inR ind
 by_cases h1 : r.a ≤ x ∧ x < r.d <;> by_cases h2 : r.b ≤ y ∧ y < r.e <;> by_cases h3 : r.c ≤ z ∧ z < r.f <;> simp [h1, h2, h3]
def w1m (r : R6) : Prop := -1000002 ≤ r.a ∧ r.d ≤ 1000002 ∧ -1000002 ≤ r.b ∧ r.e ≤ 1000002 ∧ -1000002 ≤ r.c ∧ r.f ≤ 1000002
theorem ov_S3 {p : List Int} (hp : Pts p) (r s : R6) (hr : w1m r) : S3 p (fun x y z => inR r x y z * inR s x y z) = ov r s := by
 obtain ⟨h1, h2, h3, h4, h5, h6⟩ := hr
 have e : (fun x y z => inR r x y z * inR s x y z) = fun x y z => ind (max r.a s.a) (min r.d s.d) x * ind (max r.b s.b) (min r.e s.e) y * ind (max r.c s.c) (min r.f s.f) z := by
  funext x y z
  rw [← x1b, ← x1b, ← x1b]
  unfold inR
  simp only [Int.mul_comm, Int.mul_left_comm, Int.mul_assoc]
 rw [e, w4f, hp.1 _ _ (by omega), hp.1 _ _ (by omega), hp.1 _ _ (by omega)]
 rfl
def cnt (X : List R6) (x y z : Int) : Int := sm X fun r => inR r x y z
theorem z2y (X : List R6) (x y z : Int) : 0 ≤ cnt X x y z := Vd fun r _ => y2t r x y z
theorem y7w : ∀ (X : List R6), X.Pairwise Ap6 → ∀ x y z, cnt X x y z ≤ 1
 | [], _, x, y, z => by show (0 : Int) ≤ 1; omega
 | r :: X, h, x, y, z => by
  obtain ⟨h1, h2⟩ := List.pairwise_cons.1 h
  have ih := y7w X h2 x y z
  have e : cnt (r :: X) x y z = inR r x y z + cnt X x y z := Ve _ _ _
  rw [e, x4f]
  split
  ·rename_i hp
   have : cnt X x y z = 0 := by
    have : cnt X x y z = sm X fun _ => 0 := Vs fun s hs => by
     rw [x4f]
     refine if_neg fun hq => ?_
     have := h1 s hs
     unfold Ap6 at this
     omega
    rw [this, z1r]
   omega
  ·omega
theorem S2_S3 {p : List Int} (hp : Pts p) (X Y : List R6) (hX : ∀ r ∈ X, w1m r) : S2 X Y = S3 p fun x y z => cnt X x y z * cnt Y x y z := by
 have e : (fun x y z => cnt X x y z * cnt Y x y z) = fun x y z => sm X fun r => sm Y fun s => inR r x y z * inR s x y z := by
  funext x y z
  unfold cnt
  rw [← x9a]
  exact Vs fun r _ => (x8z _ _ _).symm
 rw [e, v9h]
 unfold S2
 refine Vs fun r hr => ?_
 rw [v9h]
 exact Vs fun s _ => (ov_S3 hp r s (hX r hr)).symm
theorem w4h (X Y : List R6) : 0 ≤ S2 X Y := Vd fun r _ => Vd fun s _ => w1a r s
theorem w6q {r : R6} (h : Kg r = true) : w1m r := by
 have := Wc h
 unfold w1m; omega
end Go.Am
namespace Go.Am
open Go.Proofs Go.Sort Go.Shelf Go.RowKit Go.Lib
theorem sm_pos {α : Type} {l : List α} {f : α → Int} (h : sm l f ≠ 0) : ∃ x ∈ l, f x ≠ 0 := Classical.byContradiction fun hn => h (by
 have : sm l f = sm l fun _ => 0 := Vs fun x hx => Classical.byContradiction fun e => hn ⟨x, hx, e⟩
 rw [this, z1r])
theorem x0k {p : List Int} (hp : Pts p) {t : Int} (h : -1000005 ≤ t ∧ t < 1000005) : t ∈ p := by
 have h1 := hp.1 t (t + 1) (by omega)
 have h2 : sm p (ind t (t + 1)) ≠ 0 := by rw [h1]; omega
 obtain ⟨x, hx, hn⟩ := sm_pos h2
 unfold ind at hn
 split at hn
 ·have : x = t := by omega
  rwa [← this]
 ·exact absurd rfl hn
def inS (X : List R6) (x y z : Int) : Prop := ∃ r ∈ X, (r.a ≤ x ∧ x < r.d) ∧ (r.b ≤ y ∧ y < r.e) ∧ (r.c ≤ z ∧ z < r.f)
theorem z3v (X : List R6) (x y z : Int) : inS X x y z ↔ ptL w4l.inB X (z, x, y) := by
 constructor
 ·rintro ⟨r, hr, h1, h2, h3⟩
  exact ⟨r, hr, h3.1, h3.2, h1.1, h1.2, h2.1, h2.2⟩
 ·rintro ⟨r, hr, h1, h2, h3, h4, h5, h6⟩
  exact ⟨r, hr, ⟨h3, h4⟩, ⟨h5, h6⟩, h1, h2⟩
theorem y7x (X : List R6) (hX : X.Pairwise Ap6) (x y z : Int) : (inS X x y z → cnt X x y z = 1) ∧ (¬ inS X x y z → cnt X x y z = 0) := by
 have h0 := z2y X x y z
 have h1 := y7w X hX x y z
 constructor
 ·rintro ⟨r, hr, hp⟩
  have : cnt X x y z ≠ 0 := fun e => by
   have := z2i (fun r _ => y2t r x y z) e r hr
   rw [x4f, if_pos hp] at this
   cases this
  omega
 ·intro hn
  have : cnt X x y z = sm X fun _ => 0 := Vs fun r hr => by
   rw [x4f]
   exact if_neg fun hp => hn ⟨r, hr, hp⟩
  rw [this, z1r]
structure Sol (X : List R6) : Prop where
 len : X.length ≤ 400
 val : ∀ r ∈ X, Kg r = true
 ap : X.Pairwise Ap6
theorem Sol.of {X : List R6} (h : Ye X = 0) : Sol X := ⟨(Jm h).1, (Jm h).2.1, (Jm h).2.2.2⟩
theorem Sol.near {X : List R6} (h : Sol X) : ∀ r ∈ X, w1m r := fun r hr => w6q (h.val r hr)
theorem Sol.bnd {X : List R6} (h : Sol X) {x y z : Int} (hp : inS X x y z) : (-1000000 ≤ x ∧ x < 1000000) ∧ (-1000000 ≤ y ∧ y < 1000000) ∧ (-1000000 ≤ z ∧ z < 1000000) := by
 obtain ⟨r, hr, h1, h2, h3⟩ := hp
 have := Wc (h.val r hr)
 omega
theorem bx_S3 {p : List Int} (hp : Pts p) (r : R6) (hr : Kg r = true) : S3 p (inR r) = bxV r := by
 have hv := Wc hr
 show S3 p (fun x y z => ind r.a r.d x * ind r.b r.e y * ind r.c r.f z) = _
 rw [w4f, hp.1 _ _ (by omega), hp.1 _ _ (by omega), hp.1 _ _ (by omega)]
 unfold bxV
 rw [show max 0 (r.d - r.a) = r.d - r.a by omega, show max 0 (r.e - r.b) = r.e - r.b by omega, show max 0 (r.f - r.c) = r.f - r.c by omega]
theorem x8i {p : List Int} (hp : Pts p) {X : List R6} (h : Sol X) : sm X bxV = S3 p (cnt X) := by
 show _ = S3 p (fun x y z => sm X fun r => inR r x y z)
 rw [v9h]
 exact Vs fun r hr => (bx_S3 hp r (h.val r hr)).symm
theorem cnt_S3 {p : List Int} (hp : Pts p) {X : List R6} (h : Sol X) : 0 ≤ S3 p (cnt X) ∧ S3 p (cnt X) ≤ 8000120000600001000 :=
 ⟨w4e fun x y z => z2y X x y z, Int.le_trans (w4g (g := fun _ _ _ => 1) fun x y z => y7w X h.ap x y z) (S3_one hp)⟩
theorem x8j {p : List Int} (hp : Pts p) {X : List R6} (h : Sol X) : v3t X = S3 p (cnt X) := by
 have := cnt_S3 hp h
 exact v3r (x8i hp h) (by omega)
theorem w4d {p : List Int} {f : Int → Int → Int → Int} (h0 : ∀ x y z, 0 ≤ f x y z) : S3 p f = 0 ↔ ∀ x ∈ p, ∀ y ∈ p, ∀ z ∈ p, f x y z = 0 := by
 constructor
 ·intro h x hx y hy z hz
  have h1 := z2i (fun x _ => Vd fun y _ => Vd fun z _ => h0 x y z) h x hx
  have h2 := z2i (fun y _ => Vd fun z _ => h0 x y z) h1 y hy
  exact z2i (fun z _ => h0 x y z) h2 z hz
 ·intro h
  have : S3 p f = sm p fun _ => 0 := Vs fun x hx => by
   have : sm p (fun y => sm p fun z => f x y z) = sm p fun _ => 0 := Vs fun y hy => by
    have : sm p (fun z => f x y z) = sm p fun _ => 0 := Vs fun z hz => h x hx y hy z hz
    rw [this, z1r]
   rw [this, z1r]
  rw [this, z1r]
theorem Sol.pts {p : List Int} (hp : Pts p) {X : List R6} (h : Sol X) {x y z : Int} (hq : inS X x y z) : x ∈ p ∧ y ∈ p ∧ z ∈ p := by
 have := h.bnd hq
 exact ⟨x0k hp (by omega), x0k hp (by omega), x0k hp (by omega)⟩
theorem S2_all {X Y : List R6} (hX : Sol X) (hY : Sol Y) : S2 X Y = v3t X ↔ ∀ x y z, inS X x y z → inS Y x y z := by
 obtain ⟨p, hp⟩ := w0y
 have e : S3 p (cnt X) - S2 X Y = S3 p fun x y z => cnt X x y z - cnt X x y z * cnt Y x y z := by
  rw [S3_sub, ← S2_S3 hp X Y hX.near]
 have h0 : ∀ x y z, 0 ≤ cnt X x y z - cnt X x y z * cnt Y x y z := fun x y z => by
  have h1 := z2y X x y z
  have h2 := y7w Y hY.ap x y z
  have := Int.mul_le_mul_of_nonneg_left h2 h1
  omega
 rw [x8j hp hX]
 constructor
 ·intro h x y z h1
  obtain ⟨q1, q2, q3⟩ := hX.pts hp h1
  have h2 := (w4d h0).1 (by rw [← e]; omega) x q1 y q2 z q3
  rw [(y7x X hX.ap x y z).1 h1] at h2
  exact Classical.byContradiction fun h3 => by
   rw [(y7x Y hY.ap x y z).2 h3] at h2
   cases h2
 ·intro h
  have := (w4d (p := p) h0).2 fun x _ y _ z _ => by
   by_cases h1 : inS X x y z
   ·rw [(y7x X hX.ap x y z).1 h1, (y7x Y hY.ap x y z).1 (h x y z h1)]; rfl
   ·rw [(y7x X hX.ap x y z).2 h1, Int.zero_mul]; rfl
  omega
end Go.Am
namespace Go.Am
open Go.Proofs Go.Sort Go.Shelf Go.RowKit Go.Lib
theorem Dim.goS_cg {α β : Type} (D : Dim α β) (f g : Int → List β) (cs : List Int) : ∀ (k i : Nat) (s : Sw α β), (∀ j, i ≤ j → j < i + k → f (rd cs j) = g (rd cs j)) → D.goS f cs k i s = D.goS g cs k i s
 | 0, i, s, _ => rfl
 | k + 1, i, s, h => by
  show D.goS f cs k (i + 1) (D.oneS (f (rd cs i)) _ _ s) = D.goS g cs k (i + 1) (D.oneS (g (rd cs i)) _ _ s)
  rw [h i (Nat.le_refl _) (by omega)]
  exact goS_cg D f g cs k (i + 1) _ fun j h1 h2 => h j (by omega) (by omega)
theorem y1f {n : Nat} (h : w4q n = 0) : n ≤ 400 := by
 unfold w4q at h
 by_cases q : (n : Int) > 400
 ·rw [decide_eq_true q] at h; cases h
 ·omega
theorem w0e {l : List R4} (h : Wr l = 0) : l.length ≤ 400 ∧ (∀ r ∈ l, z3m r = true) ∧ Yp l = D4.out l := by
 unfold Wr at h
 cases g1 : decide (400 < l.length) with
 | true => rw [g1] at h; cases h
 | false =>
  cases g2 : l.all z3m with
  | false => rw [g1, g2] at h; cases h
  | true =>
   rw [g1, g2, cond_false, cond_true] at h
   have hl : l.length ≤ 400 := by have := of_decide_eq_false g1; omega
   refine ⟨hl, List.all_eq_true.1 g2, ?_⟩
   exact (w5x (List.all_eq_true.1 g2) hl (y1f h)).1
theorem x3n {l : List R6} : ∀ (k i : Nat), okF l k i = true → ∀ j, i ≤ j → j < i + k → Wr (D6.inn l (rd (D6.cuts l) j)) = 0
 | 0, i, h, j, h1, h2 => by omega
 | k + 1, i, h, j, h1, h2 => by
  unfold okF at h
  rcases Yv (w3q l (rd (D6.cuts l) i)) with q | q
  ·rw [q] at h; cases h
  ·rw [q, cond_false] at h
   rcases Nat.eq_or_lt_of_le h1 with e | e
   ·rw [← e]
    unfold w3q at q
    simpa using q
   ·exact x3n k (i + 1) h j e (by omega)
theorem x2z {l : List R6} (h : Jo l = 0) : l.length ≤ 400 ∧ (∀ r ∈ l, Kg r = true) ∧ okF l ((D6.cuts l).length - 1) 0 = true ∧ (D6.out l).length ≤ 400 := by
 unfold Jo at h
 cases g1 : decide (400 < l.length) with
 | true => rw [g1] at h; cases h
 | false =>
  cases g2 : l.all Kg with
  | false => rw [g1, g2] at h; cases h
  | true =>
   rw [g1, g2, cond_false, cond_true] at h
   cases g3 : okF l ((D6.cuts l).length - 1) 0 with
   | false =>
    rw [g3, cond_false] at h
    have := v8o _ _ g3
    rw [h] at this; cases this
   | true =>
    rw [g3, cond_true] at h
    exact ⟨by have := of_decide_eq_false g1; omega, List.all_eq_true.1 g2, rfl, y1f h⟩
theorem y9g {l : List R6} (h : Jo l = 0) : Ka l = D6.out l := by
 unfold Ka w8j; rw [h]; rfl
theorem v4g {l : List R6} (h : Jo l = 0) : w4l.can (Ka l) ∧ ∀ x y z, inS (Ka l) x y z ↔ inS l x y z := by
 obtain ⟨hl, hv, hok, ho⟩ := x2z h
 have hf := x3n _ _ hok
 rw [y9g h]
 have hc : (D6.cuts l).Pairwise (· < ·) := by
  show (Uo (D6.ends l)).Pairwise (· < ·)
  rw [Jh]; exact (Vz _).1
 have eS : D6.out l = (D6.goS (fun x => bif Wr (D6.inn l x) != 0 then [] else Yp (D6.inn l x)) (D6.cuts l) ((D6.cuts l).length - 1) 0 ⟨[], [], 0, 0⟩).out := by
  unfold Dim.out
  rw [D6.go_goS, D6.goS_cg (D6.sec l) (fun x => bif Wr (D6.inn l x) != 0 then [] else Yp (D6.inn l x))]
  intro j h1 h2
  show _ = bif Wr (D6.inn l _) != 0 then _ else _
  rw [hf j h1 h2]; rfl
 have hs : ∀ x, y5z.can (bif Wr (D6.inn l x) != 0 then [] else Yp (D6.inn l x)) := fun x => by
  cases g : (Wr (D6.inn l x) != 0) with
  | true => exact y5z.nil
  | false =>
   obtain ⟨m1, m2, m3⟩ := w0e (show Wr (D6.inn l x) = 0 by simpa using g)
   rw [cond_false, m3]; exact (w0d m2 m1).1
 obtain ⟨h1, h2⟩ := Dim.goS_can y5p y6b y5z (cs := D6.cuts l) hc hs
 rw [eS]
 refine ⟨h1, fun x y z => ?_⟩
 rw [z3v, z3v, show ptL w4l.inB _ (z, x, y) ↔ _ from h2 z (x, y)]
 have ia : ∀ j, j + 1 < (D6.cuts l).length → rd (D6.cuts l) j ≤ z → z < rd (D6.cuts l) (j + 1) → (ptL y5z.inB (bif Wr (D6.inn l (rd (D6.cuts l) j)) != 0 then [] else Yp (D6.inn l (rd (D6.cuts l) j))) (x, y) ↔ ptL w4l.inB l (z, x, y)) := fun j j1 j2 j3 => by
  have q := hf j (Nat.zero_le _) (by omega)
  obtain ⟨m1, m2, m3⟩ := w0e q
  rw [q, show ((0 : Int) != 0) = false from rfl, cond_false, m3, (w0d m2 m1).2, Dim.inn_slab l l (fun r hr => hr) j1 j2 j3]
  exact Dim.pt_inn (D := D6) y5z.inB l z (x, y)
 constructor
 ·rintro ⟨j, j1, j2, j3, j4⟩
  exact (ia j j1 j2 j3).1 j4
 ·intro hp
  refine Classical.byContradiction fun hn => ?_
  have hx : ∀ j, j + 1 < (D6.cuts l).length → ¬ (rd (D6.cuts l) j ≤ z ∧ z < rd (D6.cuts l) (j + 1)) := fun j j1 j2 => hn ⟨j, j1, j2.1, j2.2, (ia j j1 j2.1 j2.2).2 hp⟩
  have g := (Dim.pt_inn (D := D6) y5z.inB l z (x, y)).2 hp
  rw [Dim.inn_out l l (fun r hr => hr) hx] at g
  exact y4c _ _ g
theorem x3a {L : List R6} (h : Ye L = 0) : Jo L = 0 ∧ Ka L = L := by
 have hs := Jm h
 have key : Jo L = 0 := by
  unfold Ye at h
  unfold Jo
  cases g1 : decide (400 < L.length) with
  | true => rw [g1] at h; cases h
  | false =>
   cases g2 : L.all Kg with
   | false => rw [g1, g2] at h; cases h
   | true =>
    rw [g1, g2, cond_false, cond_true] at h
    cases g3 : okF L ((D6.cuts L).length - 1) 0 with
    | false => rw [g3] at h; cases h
    | true =>
     rw [cond_false, cond_true, cond_true]
     unfold w4q
     rw [← hs.2.2.1, Xv (by have := hs.1; omega)]; rfl
 exact ⟨key, (y9g key).trans hs.2.2.1.symm⟩
end Go.Am
namespace Go.Am
open Go.Proofs.Tryz
open Go.Proofs Go.Sort Go.Shelf Go.RowKit Go.Lib
theorem x9d {l : List R6} (h : Xs l = 0) : Ye l = 0 := (x4o l).trans h
theorem lA : Ye ([(R6.mk 1 1 1 3 3 3)] : List R6) = 0 := x9d (by kernel_rfl)
theorem lB : Ye ([(R6.mk 0 0 0 4 4 4)] : List R6) = 0 := x9d (by kernel_rfl)
theorem lC : Ye ([(R6.mk 0 0 0 5 1 1)] : List R6) = 0 := x9d (by kernel_rfl)
theorem lE : Ye ([(R6.mk 0 0 0 1 1 1)] : List R6) = 0 := x9d (by kernel_rfl)
theorem aO0 : Zg ([(R6.mk 1 1 1 3 3 3)] : List R6) 2 = [(R6.mk 0 0 0 4 4 4)] := by
 unfold Zg v5y
 rw [lA, show ([(R6.mk 1 1 1 3 3 3)] : List R6).map (oB 2) = [(R6.mk 0 0 0 4 4 4)] by kernel_rfl, (x3a lB).2]
 kernel_rfl
theorem aO1 : Uy ([(R6.mk 1 1 1 3 3 3)] : List R6) 2 = 0 := by
 unfold Uy
 rw [lA, show ([(R6.mk 1 1 1 3 3 3)] : List R6).map (oB 2) = [(R6.mk 0 0 0 4 4 4)] by kernel_rfl, (x3a lB).1]
 kernel_rfl
def rnK (lo hi : R6 → Int) (n : Int) (L : List R6) : List Int := z0n (rnE lo hi n L)
theorem x3h (lo hi : R6 → Int) (n : Int) (L : List R6) : rnC lo hi n L = rnK lo hi n L := Jh _
def colK (L : List R6) (a b e f n : Int) : List R2 := w9m L a b e f (rnK R6.b R6.e n L) ((rnK R6.b R6.e n L).length - 1) 0 []
theorem v8x (L : List R6) (a b e f n : Int) : Qy L a b e f n = colK L a b e f n := by unfold Qy colK; rw [x3h]
def layK (L : List R6) (a b n : Int) : List R4 := (D4.goX (fun x x' => colK (crS R6.a R6.d L x x') x x' a b n) (rnK R6.a R6.d n L) ((rnK R6.a R6.d n L).length - 1) 0 ⟨[], [], 0, 0⟩).out
theorem v6j (L : List R6) (a b n : Int) : Qz L a b n = layK L a b n := by
 unfold Qz layK
 rw [x3h, show v2n L a b n = fun x x' => colK (crS R6.a R6.d L x x') x x' a b n from funext fun x => funext fun x' => v8x _ _ _ _ _ _]
theorem w2k (L : List R6) (n : Int) : x6s L n = fun x x' => layK (crS R6.c R6.f L x x') x x' n := funext fun x => funext fun x' => v6j _ _ _ _
theorem aIO : w4n ([(R6.mk 1 1 1 3 3 3)] : List R6) 2 = [] := by
 unfold w4n
 rw [x3h, w2k]
 kernel_rfl
theorem aI1 : Wy ([(R6.mk 1 1 1 3 3 3)] : List R6) 2 = 0 := by
 unfold Wy
 rw [lA, x3h, w2k, aIO]
 kernel_rfl
theorem aI0 : Zm ([(R6.mk 1 1 1 3 3 3)] : List R6) 2 = [] := by
 unfold Zm
 rw [aI1, aIO]; rfl
theorem aD1 : z5m ([(R6.mk 1 1 1 3 3 3)] : List R6) ([(R6.mk 0 0 0 4 4 4)] : List R6) = 0 := by
 unfold z5m eDi
 rw [lA, lB]; kernel_rfl
theorem aD0 : z5n ([(R6.mk 1 1 1 3 3 3)] : List R6) ([(R6.mk 0 0 0 4 4 4)] : List R6) = 1 := by
 unfold z5n eDi
 rw [lA, lB]; kernel_rfl
theorem aR1 : z1i ([(R6.mk 0 0 0 5 1 1)] : List R6) ([(R6.mk 0 0 0 1 1 1)] : List R6) = 0 := by
 unfold z1i eRe
 rw [lC, lE]; kernel_rfl
theorem aR0 : z0i ([(R6.mk 0 0 0 5 1 1)] : List R6) ([(R6.mk 0 0 0 1 1 1)] : List R6) = 4 := by
 unfold z0i eRe
 rw [lC, lE]; kernel_rfl
theorem aS1 : z1i ([(R6.mk 0 0 0 1 1 1)] : List R6) ([(R6.mk 0 0 0 5 1 1)] : List R6) = 0 := by
 unfold z1i eRe
 rw [lE, lC]; kernel_rfl
theorem aS0 : z0i ([(R6.mk 0 0 0 1 1 1)] : List R6) ([(R6.mk 0 0 0 5 1 1)] : List R6) = 0 := by
 unfold z0i eRe
 rw [lE, lC]; kernel_rfl
theorem w9r : ∃ N, Yj y5g N z5t = .ret [.bool true] := ⟨0, by
 unfold z5t
 simp only [Zd, show ∀ l n, Kf l n = true from fun _ _ => rfl, show ∀ l n, Wj l n = true from fun _ _ => rfl, show ∀ l m, z2f l m = true from fun _ _ => rfl, show ∀ l m, z5l l m = true from fun _ _ => rfl, aO0, aO1, aI0, aI1, aD0, aD1, aR0, aR1, aS0, aS1, cond_true]
 kernel_rfl⟩
def v8g : List AVal → Option (AVal × Bool)
 | [] => some (.bool true, true)
 | _ => none
theorem w8g {S : Specs} (hS : Zu prog S) : Zu prog (S.with x3w v8g) := by
 refine z1p hS (by kernel_rfl) fun args v h => ?_
 unfold v8g at h
 split at h
 ·simp only [Option.some.injEq, Prod.mk.injEq, and_true] at h
  subst h
  obtain ⟨N, hN⟩ := w9r
  exact ⟨_, _, .nil, rfl, w3v N _ hN, 3, rfl⟩
 ·cases h
def x7b (L : List R6) : Bool := decide ((L.length : Int) ≤ 6) && (x0p L && (Xs L == 0))
def z5e (L : List R6) : Bool := true
theorem v7b (L : List R6) (h : z5e L = true) : ∃ N, Yj (x1l L) N (z9c L) = .ret [.bool (x7b L)] := ⟨0, by
 unfold z9c x7b
 simp only [Zd, show ∀ l, z2s l = true from fun _ => rfl, y3z, cond_true]
 cases decide ((L.length : Int) ≤ 6) <;> cases x0p L <;> rfl⟩
def fFit : List AVal → Option (AVal × Bool)
 | [a0] => match asL R6 a0 with
  | some (L0, g0, n0) => some (.bool (x7b L0), isT R6 n0 g0 && (z5e L0))
  | _ => none
 | _ => none
theorem v7y {S : Specs} (hS : Zu prog S) : Zu prog (S.with v2c fFit) := by
 refine z1p hS (by kernel_rfl) fun args v h => ?_
 unfold fFit at h
 split at h
 ·rename_i a0
  split at h
  ·rename_i L0 g0 n0 e0
   simp only [Option.some.injEq, Prod.mk.injEq, Bool.and_eq_true] at h
   obtain ⟨rfl, ho0, hw⟩ := h
   obtain ⟨N, hN⟩ := v7b L0 hw
   exact ⟨_, _, (.cons (asL_le e0 ho0) .nil), rfl, w8c L0 N _ hN, 3, rfl⟩
  ·cases h
 ·cases h
def Di : Specs := ((Dh.with x3w v8g).with v2c fFit)
theorem Qw : Zu prog Di := (v7y (w8g z1m))
end Go.Am
namespace Go.Am
open Go.Proofs.Tryz
open Go.Proofs
inductive dstS where
def dstC (l0 : List R6) (x1 : Int) (x2 : Int) : dstS → Cfg
 := nofun
def x1u (l0 : List R6) (x1 : Int) (x2 : Int) : dstS → Xd dstS
 := nofun
def z9e (l0 : List R6) (x1 : Int) (x2 : Int) : Xd dstS := (bif (z5e (cvT l0)) then (bif (!(x7b (cvT l0))) then (.ret [(.bool true)]) else (bif (decide (x1 < 1)) then (.ret [(.bool true)]) else (bif (decide (x1 > 12)) then (.ret [(.bool true)]) else (bif (decide (x2 < 1)) then (.ret [(.bool true)]) else (bif (decide (x2 > 12)) then (.ret [(.bool true)]) else (bif (Kf (cvT l0) x1) then (bif (Kf (cvT (Zg (cvT l0) x1)) (IntKind.wrap .i64 (x1 * x2))) then (bif (Kf (cvT l0) (IntKind.wrap .i64 (x1 * x2))) then (bif ((Uy (cvT l0) x1) == 0) then (bif ((Uy (cvT (Zg (cvT l0) x1)) (IntKind.wrap .i64 (x1 * x2))) == 0) then (bif ((Uy (cvT l0) (IntKind.wrap .i64 (x1 * x2))) == 0) then (bif (Xj (cvT (Zg (cvT (Zg (cvT l0) x1)) (IntKind.wrap .i64 (x1 * x2)))) (cvT (Zg (cvT l0) (IntKind.wrap .i64 (x1 * x2))))) then (bif (!(Wd (cvT (Zg (cvT (Zg (cvT l0) x1)) (IntKind.wrap .i64 (x1 * x2)))) (cvT (Zg (cvT l0) (IntKind.wrap .i64 (x1 * x2)))))) then (.ret [(.bool false)]) else (bif (Wj (cvT l0) x1) then (bif (Wj (cvT (Zm (cvT l0) x1)) (IntKind.wrap .i64 (x1 * x2))) then (bif (Wj (cvT l0) (IntKind.wrap .i64 (x1 * x2))) then (bif ((Wy (cvT l0) x1) != 0) then (.ret [(.bool true)]) else (bif ((Wy (cvT (Zm (cvT l0) x1)) (IntKind.wrap .i64 (x1 * x2))) != 0) then (.ret [(.bool true)]) else (bif ((Wy (cvT l0) (IntKind.wrap .i64 (x1 * x2))) != 0) then (.ret [(.bool true)]) else (bif (Xj (cvT (Zm (cvT (Zm (cvT l0) x1)) (IntKind.wrap .i64 (x1 * x2)))) (cvT (Zm (cvT l0) (IntKind.wrap .i64 (x1 * x2))))) then (.ret [(.bool (Wd (cvT (Zm (cvT (Zm (cvT l0) x1)) (IntKind.wrap .i64 (x1 * x2)))) (cvT (Zm (cvT l0) (IntKind.wrap .i64 (x1 * x2))))))]) else .stuck)))) else .stuck) else .stuck) else .stuck)) else .stuck) else (bif (Wj (cvT l0) x1) then (bif (Wj (cvT (Zm (cvT l0) x1)) (IntKind.wrap .i64 (x1 * x2))) then (bif (Wj (cvT l0) (IntKind.wrap .i64 (x1 * x2))) then (bif ((Wy (cvT l0) x1) != 0) then (.ret [(.bool true)]) else (bif ((Wy (cvT (Zm (cvT l0) x1)) (IntKind.wrap .i64 (x1 * x2))) != 0) then (.ret [(.bool true)]) else (bif ((Wy (cvT l0) (IntKind.wrap .i64 (x1 * x2))) != 0) then (.ret [(.bool true)]) else (bif (Xj (cvT (Zm (cvT (Zm (cvT l0) x1)) (IntKind.wrap .i64 (x1 * x2)))) (cvT (Zm (cvT l0) (IntKind.wrap .i64 (x1 * x2))))) then (.ret [(.bool (Wd (cvT (Zm (cvT (Zm (cvT l0) x1)) (IntKind.wrap .i64 (x1 * x2)))) (cvT (Zm (cvT l0) (IntKind.wrap .i64 (x1 * x2))))))]) else .stuck)))) else .stuck) else .stuck) else .stuck)) else (bif (Wj (cvT l0) x1) then (bif (Wj (cvT (Zm (cvT l0) x1)) (IntKind.wrap .i64 (x1 * x2))) then (bif (Wj (cvT l0) (IntKind.wrap .i64 (x1 * x2))) then (bif ((Wy (cvT l0) x1) != 0) then (.ret [(.bool true)]) else (bif ((Wy (cvT (Zm (cvT l0) x1)) (IntKind.wrap .i64 (x1 * x2))) != 0) then (.ret [(.bool true)]) else (bif ((Wy (cvT l0) (IntKind.wrap .i64 (x1 * x2))) != 0) then (.ret [(.bool true)]) else (bif (Xj (cvT (Zm (cvT (Zm (cvT l0) x1)) (IntKind.wrap .i64 (x1 * x2)))) (cvT (Zm (cvT l0) (IntKind.wrap .i64 (x1 * x2))))) then (.ret [(.bool (Wd (cvT (Zm (cvT (Zm (cvT l0) x1)) (IntKind.wrap .i64 (x1 * x2)))) (cvT (Zm (cvT l0) (IntKind.wrap .i64 (x1 * x2))))))]) else .stuck)))) else .stuck) else .stuck) else .stuck)) else (bif (Wj (cvT l0) x1) then (bif (Wj (cvT (Zm (cvT l0) x1)) (IntKind.wrap .i64 (x1 * x2))) then (bif (Wj (cvT l0) (IntKind.wrap .i64 (x1 * x2))) then (bif ((Wy (cvT l0) x1) != 0) then (.ret [(.bool true)]) else (bif ((Wy (cvT (Zm (cvT l0) x1)) (IntKind.wrap .i64 (x1 * x2))) != 0) then (.ret [(.bool true)]) else (bif ((Wy (cvT l0) (IntKind.wrap .i64 (x1 * x2))) != 0) then (.ret [(.bool true)]) else (bif (Xj (cvT (Zm (cvT (Zm (cvT l0) x1)) (IntKind.wrap .i64 (x1 * x2)))) (cvT (Zm (cvT l0) (IntKind.wrap .i64 (x1 * x2))))) then (.ret [(.bool (Wd (cvT (Zm (cvT (Zm (cvT l0) x1)) (IntKind.wrap .i64 (x1 * x2)))) (cvT (Zm (cvT l0) (IntKind.wrap .i64 (x1 * x2))))))]) else .stuck)))) else .stuck) else .stuck) else .stuck)) else .stuck) else .stuck) else .stuck)))))) else .stuck)
theorem x7j (l0 : List R6) (x1 : Int) (x2 : Int) : ∀ s, Wu prog (Zy prog 9) (dstC l0 x1 x2) (dstC l0 x1 x2 s) (x1u l0 x1 x2 s)
 := nofun
theorem x1v (l0 : List R6) (x1 : Int) (x2 : Int) : Wu prog (Zy prog 9) (dstC l0 x1 x2) (Zn prog 9 [(.dat l0.length (Zz l0)), (.int .i64 x1), (.int .i64 x2)] true []) (z9e l0 x1 x2) := (lo fun aZ => (lb (fun k0 => (lr 123 9 [1, 1, 0, 1, 0, 0] 1 4 [(6, (.bool true))] (sl Qw 42 [] ⟨[], [], [some [6]], []⟩ ⟨[], [], []⟩ (trs 11 []) (tt k0 (pp (pp (xr l0) (xw aZ)) nn))))) (fun k0 => (lb (fun k1 => (lr 123 9 [1, 1, 0, 1, 0, 0] 1 4 [(6, (.bool true))] (sl Qw 42 [] ⟨[], [], [some [6]], []⟩ ⟨[], [], []⟩ [false, false, true, true, true, true, true, true, true, true, true] (tt k1 (tt k0 (pp (pp (xr l0) (xw aZ)) nn)))))) (fun k1 => (lb (fun k2 => (lr 123 9 [1, 1, 0, 1, 0, 0] 1 4 [(6, (.bool true))] (sl Qw 42 [] ⟨[], [], [some [6]], []⟩ ⟨[], [], []⟩ [false, false, false, false, true, true, true, true, true, true, true] (tt k2 (tt k1 (tt k0 (pp (pp (xr l0) (xw aZ)) nn))))))) (fun k2 => (lb (fun k3 => (lr 123 9 [1, 1, 0, 1, 0, 0] 1 4 [(6, (.bool true))] (sl Qw 42 [] ⟨[], [], [some [6]], []⟩ ⟨[], [], []⟩ [false, false, false, false, false, false, true, true, true, true, true] (tt k3 (tt k2 (tt k1 (tt k0 (pp (pp (xr l0) (xw aZ)) nn)))))))) (fun k3 => (lb (fun k4 => (lr 123 9 [1, 1, 0, 1, 0, 0] 1 4 [(6, (.bool true))] (sl Qw 42 [] ⟨[], [], [some [6]], []⟩ ⟨[], [], []⟩ [false, false, false, false, false, false, false, false, true, true, true] (tt k4 (tt k3 (tt k2 (tt k1 (tt k0 (pp (pp (xr l0) (xw aZ)) nn))))))))) (fun k4 => (lo fun cU => (lo fun dC => (lo fun dD => (lb (fun k5 => (lb (fun k6 => (lb (fun k7 => (lo fun dO => (lb (fun k8 => (lr 123 9 [1, 1, 1, 1, 1, 1, 0, 1, 0, 0] 1 4 [(6, (.bool false))] (sl Qw 100 [] ⟨[], [], [some [6]], []⟩ ⟨[], [], []⟩ [false, false, false, false, false, false, false, false, false, false, false, true, true, true, true, true, true, true, true, true] (tt k8 (pp (pp (xI R6 (Zg (cvT (Zg (cvT l0) x1)) (wr (x1 * x2))).length (Zz (Zg (cvT (Zg (cvT l0) x1)) (wr (x1 * x2))))) (pp (xI R6 (Zg (cvT l0) (wr (x1 * x2))).length (Zz (Zg (cvT l0) (wr (x1 * x2))))) (xw dO))) (tt k7 (tt k6 (tt k5 (pp (pp (xr l0) (xw dD)) (pp (pp (xI R6 (Zg (cvT l0) x1).length (Zz (Zg (cvT l0) x1))) (xw dC)) (pp (pp (xr l0) (xw cU)) (tt k4 (tt k3 (tt k2 (tt k1 (tt k0 (pp (pp (xr l0) (xw aZ)) nn))))))))))))))))) (fun k8 => (lo fun dT => (lo fun dU => (lo fun dV => (lb (fun k9 => (lr 123 3 [1, 1, 1, 1, 1, 1, 0] 1 4 [(6, (.bool true))] (sl Qw 156 [] ⟨[], [], [some [6]], []⟩ ⟨[], [], []⟩ [false, false, false, false, false, false, false, false, false, false, false, true, true, true, true, true, true, true, true, false, true, true, true, true, true, true, true, true, true, true, true, true, true, true, true] (tt k9 (pp (pp (xr l0) (xw dV)) (pp (pp (xI R6 (Zm (cvT l0) x1).length (Zz (Zm (cvT l0) x1))) (xw dU)) (pp (pp (xr l0) (xw dT)) (tt k8 (pp (pp (xI R6 (Zg (cvT (Zg (cvT l0) x1)) (wr (x1 * x2))).length (Zz (Zg (cvT (Zg (cvT l0) x1)) (wr (x1 * x2))))) (pp (xI R6 (Zg (cvT l0) (wr (x1 * x2))).length (Zz (Zg (cvT l0) (wr (x1 * x2))))) (xw dO))) (tt k7 (tt k6 (tt k5 (pp (pp (xr l0) (xw dD)) (pp (pp (xI R6 (Zg (cvT l0) x1).length (Zz (Zg (cvT l0) x1))) (xw dC)) (pp (pp (xr l0) (xw cU)) (tt k4 (tt k3 (tt k2 (tt k1 (tt k0 (pp (pp (xr l0) (xw aZ)) nn))))))))))))))))))))) (fun k9 => (lb (fun k10 => (lr 123 3 [1, 1, 1, 1, 1, 1, 0] 1 4 [(6, (.bool true))] (sl Qw 156 [] ⟨[], [], [some [6]], []⟩ ⟨[], [], []⟩ [false, false, false, false, false, false, false, false, false, false, false, true, true, true, true, true, true, true, true, false, true, true, true, false, false, true, true, true, true, true, true, true, true, true, true] (tt k10 (tt k9 (pp (pp (xr l0) (xw dV)) (pp (pp (xI R6 (Zm (cvT l0) x1).length (Zz (Zm (cvT l0) x1))) (xw dU)) (pp (pp (xr l0) (xw dT)) (tt k8 (pp (pp (xI R6 (Zg (cvT (Zg (cvT l0) x1)) (wr (x1 * x2))).length (Zz (Zg (cvT (Zg (cvT l0) x1)) (wr (x1 * x2))))) (pp (xI R6 (Zg (cvT l0) (wr (x1 * x2))).length (Zz (Zg (cvT l0) (wr (x1 * x2))))) (xw dO))) (tt k7 (tt k6 (tt k5 (pp (pp (xr l0) (xw dD)) (pp (pp (xI R6 (Zg (cvT l0) x1).length (Zz (Zg (cvT l0) x1))) (xw dC)) (pp (pp (xr l0) (xw cU)) (tt k4 (tt k3 (tt k2 (tt k1 (tt k0 (pp (pp (xr l0) (xw aZ)) nn)))))))))))))))))))))) (fun k10 => (lb (fun k11 => (lr 123 3 [1, 1, 1, 1, 1, 1, 0] 1 4 [(6, (.bool true))] (sl Qw 156 [] ⟨[], [], [some [6]], []⟩ ⟨[], [], []⟩ [false, false, false, false, false, false, false, false, false, false, false, true, true, true, true, true, true, true, true, false, true, true, true, false, false, true, true, false, false, true, true, true, true, true, true] (tt k11 (tt k10 (tt k9 (pp (pp (xr l0) (xw dV)) (pp (pp (xI R6 (Zm (cvT l0) x1).length (Zz (Zm (cvT l0) x1))) (xw dU)) (pp (pp (xr l0) (xw dT)) (tt k8 (pp (pp (xI R6 (Zg (cvT (Zg (cvT l0) x1)) (wr (x1 * x2))).length (Zz (Zg (cvT (Zg (cvT l0) x1)) (wr (x1 * x2))))) (pp (xI R6 (Zg (cvT l0) (wr (x1 * x2))).length (Zz (Zg (cvT l0) (wr (x1 * x2))))) (xw dO))) (tt k7 (tt k6 (tt k5 (pp (pp (xr l0) (xw dD)) (pp (pp (xI R6 (Zg (cvT l0) x1).length (Zz (Zg (cvT l0) x1))) (xw dC)) (pp (pp (xr l0) (xw cU)) (tt k4 (tt k3 (tt k2 (tt k1 (tt k0 (pp (pp (xr l0) (xw aZ)) nn))))))))))))))))))))))) (fun k11 => (lo fun o0 => (lr 123 3 [1, 1, 1, 1, 1, 1, 0] 1 4 [(6, (.bool (Wd (cvT (Zm (cvT (Zm (cvT l0) x1)) (wr (x1 * x2)))) (cvT (Zm (cvT l0) (wr (x1 * x2)))))))] (sl Qw 156 [] ⟨[], [], [some [6]], []⟩ ⟨[], [], []⟩ [false, false, false, false, false, false, false, false, false, false, false, true, true, true, true, true, true, true, true, false, true, true, true, false, false, true, true, false, false, true, true, false, false, false, true] (pp (pp (xI R6 (Zm (cvT (Zm (cvT l0) x1)) (wr (x1 * x2))).length (Zz (Zm (cvT (Zm (cvT l0) x1)) (wr (x1 * x2))))) (pp (xI R6 (Zm (cvT l0) (wr (x1 * x2))).length (Zz (Zm (cvT l0) (wr (x1 * x2))))) (xw o0))) (tt k11 (tt k10 (tt k9 (pp (pp (xr l0) (xw dV)) (pp (pp (xI R6 (Zm (cvT l0) x1).length (Zz (Zm (cvT l0) x1))) (xw dU)) (pp (pp (xr l0) (xw dT)) (tt k8 (pp (pp (xI R6 (Zg (cvT (Zg (cvT l0) x1)) (wr (x1 * x2))).length (Zz (Zg (cvT (Zg (cvT l0) x1)) (wr (x1 * x2))))) (pp (xI R6 (Zg (cvT l0) (wr (x1 * x2))).length (Zz (Zg (cvT l0) (wr (x1 * x2))))) (xw dO))) (tt k7 (tt k6 (tt k5 (pp (pp (xr l0) (xw dD)) (pp (pp (xI R6 (Zg (cvT l0) x1).length (Zz (Zg (cvT l0) x1))) (xw dC)) (pp (pp (xr l0) (xw cU)) (tt k4 (tt k3 (tt k2 (tt k1 (tt k0 (pp (pp (xr l0) (xw aZ)) nn))))))))))))))))))))))))))))))))))))) (fun k7 => (lo fun dO => (lo fun dW => (lo fun dX => (lb (fun k8 => (lr 123 3 [1, 1, 1, 1, 1, 1, 0] 1 4 [(6, (.bool true))] (sl Qw 156 [] ⟨[], [], [some [6]], []⟩ ⟨[], [], []⟩ [false, false, false, false, false, false, false, false, false, false, false, true, true, true, true, false, false, false, false, false, true, true, true, true, true, true, true, true, true, true, true, true, true, true, true] (tt k8 (pp (pp (xr l0) (xw dX)) (pp (pp (xI R6 (Zm (cvT l0) x1).length (Zz (Zm (cvT l0) x1))) (xw dW)) (pp (pp (xr l0) (xw dO)) (tt k7 (tt k6 (tt k5 (pp (pp (xr l0) (xw dD)) (pp (pp (xI R6 (Zg (cvT l0) x1).length (Zz (Zg (cvT l0) x1))) (xw dC)) (pp (pp (xr l0) (xw cU)) (tt k4 (tt k3 (tt k2 (tt k1 (tt k0 (pp (pp (xr l0) (xw aZ)) nn))))))))))))))))))) (fun k8 => (lb (fun k9 => (lr 123 3 [1, 1, 1, 1, 1, 1, 0] 1 4 [(6, (.bool true))] (sl Qw 156 [] ⟨[], [], [some [6]], []⟩ ⟨[], [], []⟩ [false, false, false, false, false, false, false, false, false, false, false, true, true, true, true, false, false, false, false, false, true, true, true, false, false, true, true, true, true, true, true, true, true, true, true] (tt k9 (tt k8 (pp (pp (xr l0) (xw dX)) (pp (pp (xI R6 (Zm (cvT l0) x1).length (Zz (Zm (cvT l0) x1))) (xw dW)) (pp (pp (xr l0) (xw dO)) (tt k7 (tt k6 (tt k5 (pp (pp (xr l0) (xw dD)) (pp (pp (xI R6 (Zg (cvT l0) x1).length (Zz (Zg (cvT l0) x1))) (xw dC)) (pp (pp (xr l0) (xw cU)) (tt k4 (tt k3 (tt k2 (tt k1 (tt k0 (pp (pp (xr l0) (xw aZ)) nn)))))))))))))))))))) (fun k9 => (lb (fun k10 => (lr 123 3 [1, 1, 1, 1, 1, 1, 0] 1 4 [(6, (.bool true))] (sl Qw 156 [] ⟨[], [], [some [6]], []⟩ ⟨[], [], []⟩ [false, false, false, false, false, false, false, false, false, false, false, true, true, true, true, false, false, false, false, false, true, true, true, false, false, true, true, false, false, true, true, true, true, true, true] (tt k10 (tt k9 (tt k8 (pp (pp (xr l0) (xw dX)) (pp (pp (xI R6 (Zm (cvT l0) x1).length (Zz (Zm (cvT l0) x1))) (xw dW)) (pp (pp (xr l0) (xw dO)) (tt k7 (tt k6 (tt k5 (pp (pp (xr l0) (xw dD)) (pp (pp (xI R6 (Zg (cvT l0) x1).length (Zz (Zg (cvT l0) x1))) (xw dC)) (pp (pp (xr l0) (xw cU)) (tt k4 (tt k3 (tt k2 (tt k1 (tt k0 (pp (pp (xr l0) (xw aZ)) nn))))))))))))))))))))) (fun k10 => (lo fun o0 => (lr 123 3 [1, 1, 1, 1, 1, 1, 0] 1 4 [(6, (.bool (Wd (cvT (Zm (cvT (Zm (cvT l0) x1)) (wr (x1 * x2)))) (cvT (Zm (cvT l0) (wr (x1 * x2)))))))] (sl Qw 156 [] ⟨[], [], [some [6]], []⟩ ⟨[], [], []⟩ [false, false, false, false, false, false, false, false, false, false, false, true, true, true, true, false, false, false, false, false, true, true, true, false, false, true, true, false, false, true, true, false, false, false, true] (pp (pp (xI R6 (Zm (cvT (Zm (cvT l0) x1)) (wr (x1 * x2))).length (Zz (Zm (cvT (Zm (cvT l0) x1)) (wr (x1 * x2))))) (pp (xI R6 (Zm (cvT l0) (wr (x1 * x2))).length (Zz (Zm (cvT l0) (wr (x1 * x2))))) (xw o0))) (tt k10 (tt k9 (tt k8 (pp (pp (xr l0) (xw dX)) (pp (pp (xI R6 (Zm (cvT l0) x1).length (Zz (Zm (cvT l0) x1))) (xw dW)) (pp (pp (xr l0) (xw dO)) (tt k7 (tt k6 (tt k5 (pp (pp (xr l0) (xw dD)) (pp (pp (xI R6 (Zg (cvT l0) x1).length (Zz (Zg (cvT l0) x1))) (xw dC)) (pp (pp (xr l0) (xw cU)) (tt k4 (tt k3 (tt k2 (tt k1 (tt k0 (pp (pp (xr l0) (xw aZ)) nn)))))))))))))))))))))))))))))))))) (fun k6 => (lo fun dY => (lo fun dZ => (lo fun eA => (lb (fun k7 => (lr 123 3 [1, 1, 1, 1, 1, 1, 0] 1 4 [(6, (.bool true))] (sl Qw 156 [] ⟨[], [], [some [6]], []⟩ ⟨[], [], []⟩ [false, false, false, false, false, false, false, false, false, false, false, true, true, false, false, false, false, false, false, false, true, true, true, true, true, true, true, true, true, true, true, true, true, true, true] (tt k7 (pp (pp (xr l0) (xw eA)) (pp (pp (xI R6 (Zm (cvT l0) x1).length (Zz (Zm (cvT l0) x1))) (xw dZ)) (pp (pp (xr l0) (xw dY)) (tt k6 (tt k5 (pp (pp (xr l0) (xw dD)) (pp (pp (xI R6 (Zg (cvT l0) x1).length (Zz (Zg (cvT l0) x1))) (xw dC)) (pp (pp (xr l0) (xw cU)) (tt k4 (tt k3 (tt k2 (tt k1 (tt k0 (pp (pp (xr l0) (xw aZ)) nn)))))))))))))))))) (fun k7 => (lb (fun k8 => (lr 123 3 [1, 1, 1, 1, 1, 1, 0] 1 4 [(6, (.bool true))] (sl Qw 156 [] ⟨[], [], [some [6]], []⟩ ⟨[], [], []⟩ [false, false, false, false, false, false, false, false, false, false, false, true, true, false, false, false, false, false, false, false, true, true, true, false, false, true, true, true, true, true, true, true, true, true, true] (tt k8 (tt k7 (pp (pp (xr l0) (xw eA)) (pp (pp (xI R6 (Zm (cvT l0) x1).length (Zz (Zm (cvT l0) x1))) (xw dZ)) (pp (pp (xr l0) (xw dY)) (tt k6 (tt k5 (pp (pp (xr l0) (xw dD)) (pp (pp (xI R6 (Zg (cvT l0) x1).length (Zz (Zg (cvT l0) x1))) (xw dC)) (pp (pp (xr l0) (xw cU)) (tt k4 (tt k3 (tt k2 (tt k1 (tt k0 (pp (pp (xr l0) (xw aZ)) nn))))))))))))))))))) (fun k8 => (lb (fun k9 => (lr 123 3 [1, 1, 1, 1, 1, 1, 0] 1 4 [(6, (.bool true))] (sl Qw 156 [] ⟨[], [], [some [6]], []⟩ ⟨[], [], []⟩ [false, false, false, false, false, false, false, false, false, false, false, true, true, false, false, false, false, false, false, false, true, true, true, false, false, true, true, false, false, true, true, true, true, true, true] (tt k9 (tt k8 (tt k7 (pp (pp (xr l0) (xw eA)) (pp (pp (xI R6 (Zm (cvT l0) x1).length (Zz (Zm (cvT l0) x1))) (xw dZ)) (pp (pp (xr l0) (xw dY)) (tt k6 (tt k5 (pp (pp (xr l0) (xw dD)) (pp (pp (xI R6 (Zg (cvT l0) x1).length (Zz (Zg (cvT l0) x1))) (xw dC)) (pp (pp (xr l0) (xw cU)) (tt k4 (tt k3 (tt k2 (tt k1 (tt k0 (pp (pp (xr l0) (xw aZ)) nn)))))))))))))))))))) (fun k9 => (lo fun o0 => (lr 123 3 [1, 1, 1, 1, 1, 1, 0] 1 4 [(6, (.bool (Wd (cvT (Zm (cvT (Zm (cvT l0) x1)) (wr (x1 * x2)))) (cvT (Zm (cvT l0) (wr (x1 * x2)))))))] (sl Qw 156 [] ⟨[], [], [some [6]], []⟩ ⟨[], [], []⟩ [false, false, false, false, false, false, false, false, false, false, false, true, true, false, false, false, false, false, false, false, true, true, true, false, false, true, true, false, false, true, true, false, false, false, true] (pp (pp (xI R6 (Zm (cvT (Zm (cvT l0) x1)) (wr (x1 * x2))).length (Zz (Zm (cvT (Zm (cvT l0) x1)) (wr (x1 * x2))))) (pp (xI R6 (Zm (cvT l0) (wr (x1 * x2))).length (Zz (Zm (cvT l0) (wr (x1 * x2))))) (xw o0))) (tt k9 (tt k8 (tt k7 (pp (pp (xr l0) (xw eA)) (pp (pp (xI R6 (Zm (cvT l0) x1).length (Zz (Zm (cvT l0) x1))) (xw dZ)) (pp (pp (xr l0) (xw dY)) (tt k6 (tt k5 (pp (pp (xr l0) (xw dD)) (pp (pp (xI R6 (Zg (cvT l0) x1).length (Zz (Zg (cvT l0) x1))) (xw dC)) (pp (pp (xr l0) (xw cU)) (tt k4 (tt k3 (tt k2 (tt k1 (tt k0 (pp (pp (xr l0) (xw aZ)) nn))))))))))))))))))))))))))))))))) (fun k5 => (lo fun eB => (lo fun eC => (lo fun eD => (lb (fun k6 => (lr 123 3 [1, 1, 1, 1, 1, 1, 0] 1 4 [(6, (.bool true))] (sl Qw 156 [] ⟨[], [], [some [6]], []⟩ ⟨[], [], []⟩ [false, false, false, false, false, false, false, false, false, false, false, false, false, false, false, false, false, false, false, false, true, true, true, true, true, true, true, true, true, true, true, true, true, true, true] (tt k6 (pp (pp (xr l0) (xw eD)) (pp (pp (xI R6 (Zm (cvT l0) x1).length (Zz (Zm (cvT l0) x1))) (xw eC)) (pp (pp (xr l0) (xw eB)) (tt k5 (pp (pp (xr l0) (xw dD)) (pp (pp (xI R6 (Zg (cvT l0) x1).length (Zz (Zg (cvT l0) x1))) (xw dC)) (pp (pp (xr l0) (xw cU)) (tt k4 (tt k3 (tt k2 (tt k1 (tt k0 (pp (pp (xr l0) (xw aZ)) nn))))))))))))))))) (fun k6 => (lb (fun k7 => (lr 123 3 [1, 1, 1, 1, 1, 1, 0] 1 4 [(6, (.bool true))] (sl Qw 156 [] ⟨[], [], [some [6]], []⟩ ⟨[], [], []⟩ [false, false, false, false, false, false, false, false, false, false, false, false, false, false, false, false, false, false, false, false, true, true, true, false, false, true, true, true, true, true, true, true, true, true, true] (tt k7 (tt k6 (pp (pp (xr l0) (xw eD)) (pp (pp (xI R6 (Zm (cvT l0) x1).length (Zz (Zm (cvT l0) x1))) (xw eC)) (pp (pp (xr l0) (xw eB)) (tt k5 (pp (pp (xr l0) (xw dD)) (pp (pp (xI R6 (Zg (cvT l0) x1).length (Zz (Zg (cvT l0) x1))) (xw dC)) (pp (pp (xr l0) (xw cU)) (tt k4 (tt k3 (tt k2 (tt k1 (tt k0 (pp (pp (xr l0) (xw aZ)) nn)))))))))))))))))) (fun k7 => (lb (fun k8 => (lr 123 3 [1, 1, 1, 1, 1, 1, 0] 1 4 [(6, (.bool true))] (sl Qw 156 [] ⟨[], [], [some [6]], []⟩ ⟨[], [], []⟩ [false, false, false, false, false, false, false, false, false, false, false, false, false, false, false, false, false, false, false, false, true, true, true, false, false, true, true, false, false, true, true, true, true, true, true] (tt k8 (tt k7 (tt k6 (pp (pp (xr l0) (xw eD)) (pp (pp (xI R6 (Zm (cvT l0) x1).length (Zz (Zm (cvT l0) x1))) (xw eC)) (pp (pp (xr l0) (xw eB)) (tt k5 (pp (pp (xr l0) (xw dD)) (pp (pp (xI R6 (Zg (cvT l0) x1).length (Zz (Zg (cvT l0) x1))) (xw dC)) (pp (pp (xr l0) (xw cU)) (tt k4 (tt k3 (tt k2 (tt k1 (tt k0 (pp (pp (xr l0) (xw aZ)) nn))))))))))))))))))) (fun k8 => (lo fun o0 => (lr 123 3 [1, 1, 1, 1, 1, 1, 0] 1 4 [(6, (.bool (Wd (cvT (Zm (cvT (Zm (cvT l0) x1)) (wr (x1 * x2)))) (cvT (Zm (cvT l0) (wr (x1 * x2)))))))] (sl Qw 156 [] ⟨[], [], [some [6]], []⟩ ⟨[], [], []⟩ [false, false, false, false, false, false, false, false, false, false, false, false, false, false, false, false, false, false, false, false, true, true, true, false, false, true, true, false, false, true, true, false, false, false, true] (pp (pp (xI R6 (Zm (cvT (Zm (cvT l0) x1)) (wr (x1 * x2))).length (Zz (Zm (cvT (Zm (cvT l0) x1)) (wr (x1 * x2))))) (pp (xI R6 (Zm (cvT l0) (wr (x1 * x2))).length (Zz (Zm (cvT l0) (wr (x1 * x2))))) (xw o0))) (tt k8 (tt k7 (tt k6 (pp (pp (xr l0) (xw eD)) (pp (pp (xI R6 (Zm (cvT l0) x1).length (Zz (Zm (cvT l0) x1))) (xw eC)) (pp (pp (xr l0) (xw eB)) (tt k5 (pp (pp (xr l0) (xw dD)) (pp (pp (xI R6 (Zg (cvT l0) x1).length (Zz (Zg (cvT l0) x1))) (xw dC)) (pp (pp (xr l0) (xw cU)) (tt k4 (tt k3 (tt k2 (tt k1 (tt k0 (pp (pp (xr l0) (xw aZ)) nn)))))))))))))))))))))))))))))))))))))))))))))
theorem dst_ends (l0 : List R6) (x1 : Int) (x2 : Int) (n : Nat) (vs : List AVal) (h : Yj (x1u l0 x1 x2) n (z9e l0 x1 x2) = .ret vs) : Jn prog (Zy prog 9) (Zn prog 9 [(.dat l0.length (Zz l0)), (.int .i64 x1), (.int .i64 x2)] true []) vs := by
 have := Zr (x7j l0 x1 x2) n _ (x1v l0 x1 x2)
 rwa [h] at this
end Go.Am
namespace Go.Am
open Go.Proofs Go.Sort Go.Shelf Go.RowKit Go.Lib
instance ptDec (l : List R2) (y : Int) : Decidable (pt l y) := Classical.propDecidable _
end Go.Am
namespace Go.Am
open Go.Proofs
def pin (r : R6) (x y z : Int) : Prop := (r.a ≤ x ∧ x < r.d) ∧ (r.b ≤ y ∧ y < r.e) ∧ r.c ≤ z ∧ z < r.f
theorem z7j (x y : Int) : x ≤ Wg x y ∧ y ≤ Wg x y ∧ (Wg x y = x ∨ Wg x y = y) := by
 unfold Wg; split <;> omega
theorem y0o (x y : Int) : Ui x y ≤ x ∧ Ui x y ≤ y ∧ (Ui x y = x ∨ Ui x y = y) := by
 unfold Ui; split <;> omega
end Go.Am
namespace Go.Am
open Go.Proofs Go.Sort Go.Shelf Go.RowKit Go.Lib
def w9u (n t : Int) : Prop := ∃ k, t = k * n
theorem Kh {n s t : Int} (hn : 1 ≤ n) (hs : w9u n s) (ht : w9u n t) (h : s < t + n) : s ≤ t := by
 obtain ⟨k, rfl⟩ := hs
 obtain ⟨j, rfl⟩ := ht
 have e : j * n + n = (j + 1) * n := by rw [Int.add_mul, Int.one_mul]
 rw [e] at h
 have := Int.lt_of_mul_lt_mul_right h (by omega)
 exact Int.mul_le_mul_of_nonneg_right (by omega) (by omega)
theorem Un {x n : Int} (hn : 1 ≤ n ∧ n ≤ 1000) (hx : -2000000 ≤ x ∧ x ≤ 2000000) : w9u n (Yb x n) ∧ Yb x n ≤ x ∧ x < Yb x n + n := by
 have h1 : n * Int.tdiv x n + Int.tmod x n = x := Int.mul_tdiv_add_tmod x n
 have h2 : Int.tdiv x n * n = x - Int.tmod x n := by rw [Int.mul_comm]; omega
 have h3 : -n < Int.tmod x n ∧ Int.tmod x n < n ∧ (0 ≤ x → 0 ≤ Int.tmod x n) ∧ (x ≤ 0 → Int.tmod x n ≤ 0) := by
  refine ⟨?_, Int.tmod_lt_of_pos x (by omega), fun h => Int.tmod_nonneg n h, fun h => ?_⟩
  ·have := Int.lt_tmod_of_pos x (show 0 < n by omega); omega
  ·have := Int.tmod_nonneg n (show 0 ≤ -x by omega)
   rw [Int.neg_tmod] at this; omega
 have h4 : -2000000 ≤ Int.tdiv x n ∧ Int.tdiv x n ≤ 2000000 := by
  generalize Int.tdiv x n = q at h2
  generalize Int.tmod x n = m at h2 h3
  rcases Int.lt_trichotomy q 0 with hq | hq | hq
  ·have : q * n ≤ q * 1 := Int.mul_le_mul_of_nonpos_left (by omega) (by omega)
   omega
  ·omega
  ·have : q * 1 ≤ q * n := Int.mul_le_mul_of_nonneg_left (by omega) (by omega)
   omega
 have h5 : (Int.tdiv x n - 1) * n = x - Int.tmod x n - n := by rw [Int.sub_mul, Int.one_mul, h2]
 unfold Yb
 rw [Zk (n := Int.tdiv x n) (by omega), Zk (n := Int.tdiv x n * n) (by omega), Zk (n := Int.tdiv x n - 1) (by omega), Zk (n := (Int.tdiv x n - 1) * n) (by omega)]
 by_cases h : Int.tdiv x n * n > x
 ·rw [Yo h, cond_true]
  exact ⟨⟨_, rfl⟩, by omega, by omega⟩
 ·rw [Xv h, cond_false]
  exact ⟨⟨_, rfl⟩, by omega, by omega⟩
theorem z5y {x n : Int} (hn : 1 ≤ n ∧ n ≤ 1000) (hx : -1900000 ≤ x ∧ x ≤ 1900000) : w9u n (upV x n) ∧ x ≤ upV x n ∧ upV x n < x + n := by
 unfold upV
 rw [Zk (n := 0 - x) (by omega)]
 obtain ⟨⟨k, hk⟩, h1, h2⟩ := Un (x := 0 - x) hn (by omega)
 rw [Zk (n := 0 - Yb (0 - x) n) (by omega)]
 exact ⟨⟨-k, by rw [Int.neg_mul, ← hk]; omega⟩, by omega, by omega⟩
def nrR (r : R6) : Prop := (-900000 ≤ r.a ∧ r.d ≤ 900000) ∧ (-900000 ≤ r.b ∧ r.e ≤ 900000) ∧ -900000 ≤ r.c ∧ r.f ≤ 900000
structure Sml (L : List R6) : Prop where
 sol : Sol L
 nr : ∀ r ∈ L, nrR r
theorem out1 {n a d t : Int} (hn : 1 ≤ n ∧ n ≤ 1000) (ha : -900000 ≤ a ∧ a ≤ 900000) (hd : -900000 ≤ d ∧ d ≤ 900000) (ht : -1000000 ≤ t ∧ t ≤ 1000000) : (Yb a n ≤ t ∧ t < upV d n) ↔ a < Yb t n + n ∧ Yb t n < d := by
 obtain ⟨m1, a1, a2⟩ := Un (x := a) hn (by omega)
 obtain ⟨m2, t1, t2⟩ := Un (x := t) hn (by omega)
 obtain ⟨m3, d1, d2⟩ := z5y (x := d) hn (by omega)
 constructor
 ·rintro ⟨h1, h2⟩
  have := Kh hn.1 m1 m2 (by omega)
  refine ⟨by omega, ?_⟩
  refine Classical.byContradiction fun h => ?_
  have := Kh hn.1 m3 m2 (by omega)
  omega
 ·rintro ⟨h1, h2⟩
  have k1 := Kh hn.1 m1 m2 (by omega)
  refine ⟨by omega, ?_⟩
  refine Classical.byContradiction fun h => ?_
  have := Kh hn.1 m3 m2 (by omega)
  omega
theorem Sol.sub {L M : List R6} (h : Sol L) (hs : M.Sublist L) : Sol M := ⟨Nat.le_trans hs.length_le h.len, fun r hr => h.val r (hs.subset hr), h.ap.sublist hs⟩
theorem Sml.sub {L M : List R6} (h : Sml L) (hs : M.Sublist L) : Sml M := ⟨h.sol.sub hs, fun r hr => h.nr r (hs.subset hr)⟩
theorem y4y (lo hi : R6 → Int) (L : List R6) (x x' : Int) : (crS lo hi L x x').Sublist L := List.filter_sublist
theorem x8w {lo hi a b : Int} (h1 : -1000000 ≤ lo ∧ lo ≤ 1000000) (h2 : -1000000 ≤ hi ∧ hi ≤ 1000000) (h3 : -1000000 ≤ a ∧ a ≤ 1000000) (h4 : -1000000 ≤ b ∧ b ≤ 1000000) : spC lo hi a b = ovl lo hi a b := by
 have e1 := y0o hi b
 have e2 := z7j lo a
 unfold spC ovl
 rw [Zk (by omega)]
 have := z7j (Ui hi b - Wg lo a) 0
 omega
theorem fu1_cg {r : R6} (hr : Kg r = true) {B : R6} (hB : Kg B = true) : Cg (fu1 r B.a B.d B.b B.e B.c B.f) (ov B r) := by
 have v := Wc hr
 have w := Wc hB
 unfold fu1 ov
 rw [x8w (by omega) (by omega) (by omega) (by omega), x8w (by omega) (by omega) (by omega) (by omega), x8w (by omega) (by omega) (by omega) (by omega), y4e r.a, y4e r.b, y4e r.c]
 refine ((Cg.mul ?_ (Cg.refl _)).w.mul (Cg.refl _)).w
 rw [Int.one_mul]
 exact Cg.wrap _
theorem v2x {B : R6} (hB : Kg B = true) : ∀ (L : List R6) (s s' : Int), (∀ r ∈ L, Kg r = true) → Cg s s' → Cg (fuF B.a B.d B.b B.e B.c B.f L s) (s' - sm L fun r => ov B r)
 | [], s, s', _, h => by rw [z9s, Int.sub_zero]; exact h
 | r :: L, s, s', hL, h => by
  have := v2x hB L _ _ (fun q hq => hL q (List.mem_cons_of_mem _ hq)) (h.sub (fu1_cg (hL r (List.mem_cons_self ..)) hB)).w
  rw [Ve]
  rw [show s' - (ov B r + sm L fun r => ov B r) = s' - ov B r - sm L fun r => ov B r by omega]
  exact this
theorem v2w {a b c d e f : Int} : ∀ (L : List R6) (s : Int), (-9223372036854775808 ≤ s ∧ s ≤ 9223372036854775807) → -9223372036854775808 ≤ fuF a b c d e f L s ∧ fuF a b c d e f L s ≤ 9223372036854775807
 | [], s, h => h
 | r :: L, s, _ => v2w L _ (y8r _)
theorem bx_le {B : R6} (hB : Kg B = true) : 0 ≤ bxV B ∧ bxV B ≤ 8000000000000000000 := by
 have w := Wc hB
 unfold bxV
 have h1 : (B.d - B.a) * (B.e - B.b) ≤ 2000000 * 2000000 := Int.mul_le_mul (by omega) (by omega) (by omega) (by omega)
 have h0 : 0 ≤ (B.d - B.a) * (B.e - B.b) := Int.mul_nonneg (by omega) (by omega)
 have h2 : (B.d - B.a) * (B.e - B.b) * (B.f - B.c) ≤ 2000000 * 2000000 * 2000000 := Int.mul_le_mul h1 (by omega) (by omega) (by omega)
 exact ⟨Int.mul_nonneg h0 (by omega), h2⟩
theorem v9i {X Y : List R6} (hX : Sol X) (hY : Sol Y) : S2 X Y ≤ sm X bxV := by
 obtain ⟨p, hp⟩ := w0y
 rw [x8i hp hX, S2_S3 hp X Y hX.near]
 refine w4g fun x y z => ?_
 have h1 := z2y X x y z
 have h2 := y7w Y hY.ap x y z
 have := Int.mul_le_mul_of_nonneg_left h2 h1
 omega
theorem y4h {B : R6} (hB : Kg B = true) : Sol [B] := ⟨by simp, fun r hr => by rw [List.mem_singleton.1 hr]; exact hB, List.pairwise_singleton _ _⟩
theorem v6w {L : List R6} (hL : Sol L) {B : R6} (hB : Kg B = true) : y2v L B.a B.d B.b B.e B.c B.f = true ↔ ∀ x y z, pin B x y z → inS L x y z := by
 have w := Wc hB
 have hb := bx_le hB
 have h0 : Cg (fu0 B.a B.d B.b B.e B.c B.f) (bxV B) := by
  unfold fu0 bxV
  exact ((Cg.mul (Cg.wrap _) (Cg.wrap _)).w.mul (Cg.wrap _)).w
 have hc := v2x hB L _ _ hL.val h0
 have e2 : (sm L fun r => ov B r) = S2 [B] L := by unfold S2; rw [Ve, z9s, Int.add_zero]
 have hm := v9i (y4h hB) hL
 rw [Ve, z9s, Int.add_zero] at hm
 have hnn : 0 ≤ S2 [B] L := w4h _ _
 have hin := v2w (a := B.a) (b := B.d) (c := B.b) (d := B.e) (e := B.c) (f := B.f) L (fu0 B.a B.d B.b B.e B.c B.f) (y8r _)
 rw [e2] at hc
 have he := hc.is hin (by omega)
 obtain ⟨p, hp⟩ := w0y
 have hv : v3t [B] = bxV B := by
  rw [x8j hp (y4h hB), ← x8i hp (y4h hB), Ve, z9s, Int.add_zero]
 have ha := S2_all (y4h hB) hL
 rw [hv] at ha
 have hpin : ∀ x y z, inS [B] x y z ↔ pin B x y z := fun x y z => ⟨fun ⟨r, hr, h⟩ => by rw [List.mem_singleton.1 hr] at h; exact h, fun h => ⟨B, List.mem_singleton_self _, h⟩⟩
 unfold y2v
 rw [he, beq_iff_eq]
 constructor
 ·intro h x y z k
  exact ha.1 (by omega) x y z ((hpin x y z).2 k)
 ·intro h
  have := ha.2 fun x y z k => h x y z ((hpin x y z).1 k)
  omega
section
variable {lo hi : R6 → Int} {n : Int} {L : List R6} (hn : 1 ≤ n ∧ n ≤ 1000) (hb : ∀ r ∈ L, (-900000 ≤ lo r ∧ lo r ≤ 900000) ∧ -900000 ≤ hi r ∧ hi r ≤ 900000)
theorem z1s (lo hi : R6 → Int) (n : Int) (L : List R6) : (rnC lo hi n L).Pairwise (· < ·) := by
 show (Uo (rnE lo hi n L)).Pairwise (· < ·)
 rw [Jh]; exact (Vz _).1
theorem z9t {c : Int} : c ∈ rnC lo hi n L ↔ ∃ r ∈ L, c = Yb (lo r) n ∨ c = upV (lo r) n ∨ c = Yb (hi r) n ∨ c = upV (hi r) n := by
 show c ∈ Uo (rnE lo hi n L) ↔ _
 rw [Jh, (Vz _).2]
 unfold rnE
 rw [List.mem_flatMap]
 constructor
 ·rintro ⟨r, hr, h⟩
  exact ⟨r, hr, by simpa using h⟩
 ·rintro ⟨r, hr, h⟩
  exact ⟨r, hr, by simpa using h⟩
theorem z7u {c : List Int} {i : Nat} (h : i < c.length) : rd c i ∈ c := by rw [Xm h]; exact List.getElem_mem h
theorem z1h (hn : 1 ≤ n ∧ n ≤ 1000) (hb : ∀ r ∈ L, (-900000 ≤ lo r ∧ lo r ≤ 900000) ∧ -900000 ≤ hi r ∧ hi r ≤ 900000) {c : Int} (h : c ∈ rnC lo hi n L) : w9u n c ∧ -901000 ≤ c ∧ c ≤ 901000 := by
 obtain ⟨r, hr, h⟩ := z9t.1 h
 obtain ⟨b1, b2⟩ := hb r hr
 rcases h with rfl | rfl | rfl | rfl
 ·obtain ⟨m, h1, h2⟩ := Un (x := lo r) hn (by omega); exact ⟨m, by omega, by omega⟩
 ·obtain ⟨m, h1, h2⟩ := z5y (x := lo r) hn (by omega); exact ⟨m, by omega, by omega⟩
 ·obtain ⟨m, h1, h2⟩ := Un (x := hi r) hn (by omega); exact ⟨m, by omega, by omega⟩
 ·obtain ⟨m, h1, h2⟩ := z5y (x := hi r) hn (by omega); exact ⟨m, by omega, by omega⟩
theorem rn_gap {cs : List Int} (hc : cs.Pairwise (· < ·)) {i : Nat} (hi : i + 1 < cs.length) {c : Int} (h : c ∈ cs) : c ≤ rd cs i ∨ rd cs (i + 1) ≤ c := by
 obtain ⟨j, hj, rfl⟩ := List.getElem_of_mem h
 rw [← Xm hj]
 rcases Nat.lt_or_ge i j with k | k
 ·right
  rcases Nat.eq_or_lt_of_le (show i + 1 ≤ j from k) with e | e
  ·rw [e]; exact Int.le_refl _
  ·exact Int.le_of_lt (z2b hc e hj)
 ·left
  rcases Nat.eq_or_lt_of_le k with e | e
  ·rw [e]; exact Int.le_refl _
  ·exact Int.le_of_lt (z2b hc e (by omega))
theorem v5b (hn : 1 ≤ n ∧ n ≤ 1000) (hb : ∀ r ∈ L, (-900000 ≤ lo r ∧ lo r ≤ 900000) ∧ -900000 ≤ hi r ∧ hi r ≤ 900000) {i : Nat} (hi' : i + 1 < (rnC lo hi n L).length) {y : Int} (h1 : rd (rnC lo hi n L) i ≤ y) (h2 : y < rd (rnC lo hi n L) (i + 1)) :
  (rd (rnC lo hi n L) i ≤ Yb y n ∧ Yb y n + n ≤ rd (rnC lo hi n L) (i + 1)) ∧ ((rd (rnC lo hi n L) i = Yb y n ∧ rd (rnC lo hi n L) (i + 1) = Yb y n + n) ∨ ∀ r ∈ L, (lo r ≤ rd (rnC lo hi n L) i ∨ rd (rnC lo hi n L) (i + 1) ≤ lo r) ∧ (hi r ≤ rd (rnC lo hi n L) i ∨ rd (rnC lo hi n L) (i + 1) ≤ hi r)) := by
 obtain ⟨m1, a1, a2⟩ := z1h hn hb (z7u (show i < (rnC lo hi n L).length by omega))
 obtain ⟨m2, b1, b2⟩ := z1h hn hb (z7u hi')
 obtain ⟨m3, c1, c2⟩ := Un (x := y) hn (by omega)
 have k1 := Kh hn.1 m1 m3 (by omega)
 have k2 : Yb y n + n ≤ rd (rnC lo hi n L) (i + 1) := by
  refine Classical.byContradiction fun h => ?_
  have := Kh hn.1 m2 m3 (by omega)
  omega
 refine ⟨⟨k1, k2⟩, ?_⟩
 refine Classical.byContradiction fun h => ?_
 rw [not_or] at h
 obtain ⟨h3, h4⟩ := h
 refine h4 fun r hr => ?_
 have gap := @rn_gap _ (z1s lo hi n L) i hi'
 obtain ⟨p1, p2⟩ := hb r hr
 have one : ∀ e : Int, -900000 ≤ e ∧ e ≤ 900000 → Yb e n ∈ rnC lo hi n L → upV e n ∈ rnC lo hi n L → e ≤ rd (rnC lo hi n L) i ∨ rd (rnC lo hi n L) (i + 1) ≤ e := fun e he g1 g2 => by
  refine Classical.byContradiction fun hh => h3 ?_
  obtain ⟨n1, d1, d2⟩ := Un (x := e) hn (by omega)
  obtain ⟨n2, u1, u2⟩ := z5y (x := e) hn (by omega)
  have q1 := gap g1
  have q2 := gap g2
  have n3 : w9u n (upV e n - n) := by
   obtain ⟨k, hk⟩ := n2
   exact ⟨k - 1, by rw [Int.sub_mul, Int.one_mul, ← hk]⟩
  have q3 := Kh hn.1 n3 n1 (by omega)
  omega
 exact ⟨one _ p1 (z9t.2 ⟨r, hr, .inl rfl⟩) (z9t.2 ⟨r, hr, .inr (.inl rfl)⟩), one _ p2 (z9t.2 ⟨r, hr, .inr (.inr (.inl rfl))⟩) (z9t.2 ⟨r, hr, .inr (.inr (.inr rfl))⟩)⟩
theorem w5r (hn : 1 ≤ n ∧ n ≤ 1000) (hb : ∀ r ∈ L, (-900000 ≤ lo r ∧ lo r ≤ 900000) ∧ -900000 ≤ hi r ∧ hi r ≤ 900000) {i : Nat} (hi' : i + 1 < (rnC lo hi n L).length) {y : Int} (h1 : rd (rnC lo hi n L) i ≤ y) (h2 : y < rd (rnC lo hi n L) (i + 1))
  {Q : Int → Prop} (hQ : ∀ y1 y2, (∀ r ∈ L, (lo r ≤ y1 ∧ y1 < hi r) ↔ (lo r ≤ y2 ∧ y2 < hi r)) → (Q y1 → Q y2)) : (∀ t, rd (rnC lo hi n L) i ≤ t → t < rd (rnC lo hi n L) (i + 1) → Q t) ↔ ∀ t, Yb y n ≤ t → t < Yb y n + n → Q t := by
 obtain ⟨⟨k1, k2⟩, k3⟩ := v5b hn hb hi' h1 h2
 obtain ⟨m1, a1, a2⟩ := z1h hn hb (z7u (show i < (rnC lo hi n L).length by omega))
 obtain ⟨m2, b1, b2⟩ := z1h hn hb (z7u hi')
 obtain ⟨m3, c1, c2⟩ := Un (x := y) hn (by omega)
 constructor
 ·intro h t t1 t2
  exact h t (by omega) (by omega)
 ·intro h t t1 t2
  rcases k3 with ⟨e1, e2⟩ | k3
  ·exact h t (by omega) (by omega)
  ·refine hQ y t (fun r hr => ?_) (h y (by omega) (by omega))
   obtain ⟨q1, q2⟩ := k3 r hr
   omega
theorem x9y (hn : 1 ≤ n ∧ n ≤ 1000) (hb : ∀ r ∈ L, (-900000 ≤ lo r ∧ lo r ≤ 900000) ∧ -900000 ≤ hi r ∧ hi r ≤ 900000) {r : R6} (hr : r ∈ L) {y : Int} (h1 : lo r ≤ y) (h2 : y < hi r) : ∃ j, j + 1 < (rnC lo hi n L).length ∧ rd (rnC lo hi n L) j ≤ y ∧ y < rd (rnC lo hi n L) (j + 1) := by
 obtain ⟨p1, p2⟩ := hb r hr
 obtain ⟨n1, d1, d2⟩ := Un (x := lo r) hn (by omega)
 obtain ⟨n2, u1, u2⟩ := z5y (x := hi r) hn (by omega)
 obtain ⟨i, hi1, e1⟩ := List.getElem_of_mem (z9t.2 ⟨r, hr, .inl rfl⟩ : Yb (lo r) n ∈ rnC lo hi n L)
 obtain ⟨j, hj1, e2⟩ := List.getElem_of_mem (z9t.2 ⟨r, hr, .inr (.inr (.inr rfl))⟩ : upV (hi r) n ∈ rnC lo hi n L)
 rw [← Xm hi1] at e1
 rw [← Xm hj1] at e2
 have h0 : rd (rnC lo hi n L) 0 ≤ rd (rnC lo hi n L) i := by
  rcases Nat.eq_zero_or_pos i with e | e
  ·rw [e]; exact Int.le_refl _
  ·exact Int.le_of_lt (z2b (z1s lo hi n L) e hi1)
 obtain ⟨k, q1, q2, q3⟩ := y5b (cuts := rnC lo hi n L) j hj1 y (by omega) (by omega)
 exact ⟨k, by omega, q2, q3⟩
end
theorem Sml.ba {L : List R6} (h : Sml L) : ∀ r ∈ L, (-900000 ≤ R6.a r ∧ R6.a r ≤ 900000) ∧ -900000 ≤ R6.d r ∧ R6.d r ≤ 900000 := fun r hr => by
 have := Wc (h.sol.val r hr)
 obtain ⟨h1, h2, h3⟩ := h.nr r hr; omega
theorem Sml.bb {L : List R6} (h : Sml L) : ∀ r ∈ L, (-900000 ≤ R6.b r ∧ R6.b r ≤ 900000) ∧ -900000 ≤ R6.e r ∧ R6.e r ≤ 900000 := fun r hr => by
 have := Wc (h.sol.val r hr)
 obtain ⟨h1, h2, h3⟩ := h.nr r hr; omega
theorem Sml.bc {L : List R6} (h : Sml L) : ∀ r ∈ L, (-900000 ≤ R6.c r ∧ R6.c r ≤ 900000) ∧ -900000 ≤ R6.f r ∧ R6.f r ≤ 900000 := fun r hr => by
 have := Wc (h.sol.val r hr)
 obtain ⟨h1, h2, h3⟩ := h.nr r hr; omega
def v4m {β : Type} (S : Int → Int → List β) (cs : List Int) (x : Int) : List β :=
 @dite _ (∃ i, i + 1 < cs.length ∧ rd cs i = x) (Classical.propDecidable _) (fun h => S x (rd cs (Classical.choose h + 1))) fun _ => []
theorem y9h {β : Type} {S : Int → Int → List β} {cs : List Int} (hc : cs.Pairwise (· < ·)) {i : Nat} (hi : i + 1 < cs.length) : v4m S cs (rd cs i) = S (rd cs i) (rd cs (i + 1)) := by
 have h : ∃ j, j + 1 < cs.length ∧ rd cs j = rd cs i := ⟨i, hi, rfl⟩
 unfold v4m
 rw [dif_pos h]
 obtain ⟨h1, h2⟩ := Classical.choose_spec h
 have e : Classical.choose h = i := by
  rcases Nat.lt_trichotomy (Classical.choose h) i with k | k | k
  ·have := z2b hc k (by omega); omega
  ·exact k
  ·have := z2b hc k (by omega); omega
 rw [e]
theorem w2n {α β : Type} (D : Dim α β) {S : Int → Int → List β} {cs : List Int} (hc : cs.Pairwise (· < ·)) : ∀ (k i : Nat) (s : Sw α β), i + k < cs.length ∨ k = 0 → D.goX S cs k i s = D.goS (v4m S cs) cs k i s
 | 0, i, s, _ => rfl
 | k + 1, i, s, h => by
  show D.goX S cs k (i + 1) (D.oneS (S (rd cs i) (rd cs (i + 1))) _ _ s) = D.goS (v4m S cs) cs k (i + 1) (D.oneS (v4m S cs (rd cs i)) _ _ s)
  rw [y9h hc (by omega)]
  exact w2n D hc k (i + 1) _ (by omega)
theorem w2o {α β γ : Type} {D : Dim α β} (hD : D.Fair) (hs : ∀ a b, D.same a b = true ↔ a = b) (M : Sem β γ) {S : Int → Int → List β} {cs : List Int} (hc : cs.Pairwise (· < ·)) (hS : ∀ i, i + 1 < cs.length → M.can (S (rd cs i) (rd cs (i + 1)))) :
  (D.sem hD M).can (D.goX S cs (cs.length - 1) 0 ⟨[], [], 0, 0⟩).out ∧ ∀ x q, ptL (D.sem hD M).inB (D.goX S cs (cs.length - 1) 0 ⟨[], [], 0, 0⟩).out (x, q) ↔ ∃ j, j + 1 < cs.length ∧ rd cs j ≤ x ∧ x < rd cs (j + 1) ∧ ptL M.inB (S (rd cs j) (rd cs (j + 1))) q := by
 rw [w2n D hc _ _ _ (by omega)]
 obtain ⟨h1, h2⟩ := Dim.goS_can hD hs M (sec := v4m S cs) hc (fun x => by
  unfold v4m
  by_cases h : ∃ i, i + 1 < cs.length ∧ rd cs i = x
  ·rw [dif_pos h]
   have := hS _ (Classical.choose_spec h).1
   rwa [(Classical.choose_spec h).2] at this
  ·rw [dif_neg h]; exact M.nil)
 refine ⟨h1, fun x q => ?_⟩
 rw [h2]
 constructor
 ·rintro ⟨j, j1, j2, j3, j4⟩
  exact ⟨j, j1, j2, j3, by rw [← y9h (S := S) hc j1]; exact j4⟩
 ·rintro ⟨j, j1, j2, j3, j4⟩
  exact ⟨j, j1, j2, j3, by rw [y9h (S := S) hc j1]; exact j4⟩
end Go.Am
namespace Go.Am
open Go.Proofs Go.Sort Go.Shelf Go.RowKit Go.Lib
def cel (n y : Int) : Int := y / n * n
theorem Xr {n : Int} (hn : 1 ≤ n) (y : Int) : w9u n (cel n y) ∧ cel n y ≤ y ∧ y < cel n y + n := by
 have h1 := Int.mul_ediv_add_emod y n
 have h2 := Int.emod_nonneg y (show n ≠ 0 by omega)
 have h3 := Int.emod_lt_of_pos y (show 0 < n by omega)
 have h4 : cel n y = n * (y / n) := by unfold cel; rw [Int.mul_comm]
 exact ⟨⟨_, rfl⟩, by omega, by omega⟩
theorem x1t {n y : Int} (hn : 1 ≤ n ∧ n ≤ 1000) (hy : -2000000 ≤ y ∧ y ≤ 2000000) : Yb y n = cel n y := by
 obtain ⟨m1, h1, h2⟩ := Un hn hy
 obtain ⟨m2, h3, h4⟩ := Xr hn.1 y
 have := Kh hn.1 m1 m2 (by omega)
 have := Kh hn.1 m2 m1 (by omega)
 omega
theorem Qt {lo hi : R6 → Int} {n : Int} {L : List R6} (hn : 1 ≤ n ∧ n ≤ 1000) (hb : ∀ r ∈ L, (-900000 ≤ lo r ∧ lo r ≤ 900000) ∧ -900000 ≤ hi r ∧ hi r ≤ 900000) {i : Nat} (hi' : i + 1 < (rnC lo hi n L).length) {y : Int} (h1 : rd (rnC lo hi n L) i ≤ y) (h2 : y < rd (rnC lo hi n L) (i + 1))
  {Q : Int → Prop} (hQ : ∀ y1 y2, (∀ r ∈ L, (lo r ≤ y1 ∧ y1 < hi r) ↔ (lo r ≤ y2 ∧ y2 < hi r)) → (Q y1 → Q y2)) : (∀ t, rd (rnC lo hi n L) i ≤ t → t < rd (rnC lo hi n L) (i + 1) → Q t) ↔ ∀ t, cel n y ≤ t → t < cel n y + n → Q t := by
 obtain ⟨m1, a1, a2⟩ := z1h hn hb (z7u (show i < (rnC lo hi n L).length by omega))
 obtain ⟨m2, b1, b2⟩ := z1h hn hb (z7u hi')
 rw [w5r hn hb hi' h1 h2 hQ, x1t hn (by omega)]
theorem y2s {lo hi : R6 → Int} {L : List R6} {x x' t u v w : Int} (hp : ∀ r : R6, pin r u v w → lo r ≤ t ∧ t < hi r) (h1 : x ≤ t) (h2 : t < x') : inS (crS lo hi L x x') u v w ↔ inS L u v w := by
 constructor
 ·rintro ⟨r, hr, h⟩
  exact ⟨r, (y4y lo hi L x x').subset hr, h⟩
 ·rintro ⟨r, hr, h⟩
  have := hp r h
  exact ⟨r, List.mem_filter.2 ⟨hr, by rw [decide_eq_true (show lo r < x' by omega), decide_eq_true (show x < hi r by omega)]; rfl⟩, h⟩
theorem y7v (L : List R6) (a b e f : Int) (cs : List Int) : ∀ (k i : Nat) (o : List R2), i + k ≤ cs.length → w9m L a b e f cs k i o = x4p cs ((List.range cs.length).map fun i => y2v (crS R6.b R6.e L (rd cs i) (rd cs (i + 1))) a b (rd cs i) (rd cs (i + 1)) e f) k i o
 | 0, i, o, h => rfl
 | k + 1, i, o, h => by
  have e1 : rd ((List.range cs.length).map fun i => y2v (crS R6.b R6.e L (rd cs i) (rd cs (i + 1))) a b (rd cs i) (rd cs (i + 1)) e f) i = y2v (crS R6.b R6.e L (rd cs i) (rd cs (i + 1))) a b (rd cs i) (rd cs (i + 1)) e f := by
   rw [Xm (by simp; omega)]; simp
  unfold w9m
  rw [y7v L a b e f cs k (i + 1) _ (by omega)]
  conv => rhs; unfold x4p
  rw [e1]
  rfl
theorem v8w {L : List R6} (h : Sml L) {n : Int} (hn : 1 ≤ n ∧ n ≤ 1000) {a b e f : Int} (hab : -1000000 ≤ a ∧ a < b ∧ b ≤ 1000000) (hef : -1000000 ≤ e ∧ e < f ∧ f ≤ 1000000) :
  Can (Qy L a b e f n) ∧ ∀ y, pt (Qy L a b e f n) y ↔ ∀ t, cel n y ≤ t → t < cel n y + n → ∀ x z, a ≤ x → x < b → e ≤ z → z < f → inS L x t z := by
 have hc := z1s R6.b R6.e n L
 have hb := h.bb
 unfold Qy
 rw [y7v _ _ _ _ _ _ _ _ _ (by omega)]
 obtain ⟨r1, r2⟩ := z9h (rnC R6.b R6.e n L) ((List.range (rnC R6.b R6.e n L).length).map fun i => y2v (crS R6.b R6.e L (rd (rnC R6.b R6.e n L) i) (rd (rnC R6.b R6.e n L) (i + 1))) a b (rd (rnC R6.b R6.e n L) i) (rd (rnC R6.b R6.e n L) (i + 1)) e f) hc ((rnC R6.b R6.e n L).length - 1) 0 [] (by omega) .nil (by simp)
 refine ⟨r1, fun y => ?_⟩
 rw [r2]
 have full : ∀ j, j + 1 < (rnC R6.b R6.e n L).length → (rd ((List.range (rnC R6.b R6.e n L).length).map fun i => y2v (crS R6.b R6.e L (rd (rnC R6.b R6.e n L) i) (rd (rnC R6.b R6.e n L) (i + 1))) a b (rd (rnC R6.b R6.e n L) i) (rd (rnC R6.b R6.e n L) (i + 1)) e f) j = true ↔ ∀ t, rd (rnC R6.b R6.e n L) j ≤ t → t < rd (rnC R6.b R6.e n L) (j + 1) → ∀ x z, a ≤ x → x < b → e ≤ z → z < f → inS L x t z) := fun j hj => by
  obtain ⟨m1, a1, a2⟩ := z1h hn hb (z7u (show j < (rnC R6.b R6.e n L).length by omega))
  obtain ⟨m2, b1, b2⟩ := z1h hn hb (z7u hj)
  have hlt := z2b hc (Nat.lt_succ_self j) hj
  have hv : Kg ⟨a, rd (rnC R6.b R6.e n L) j, e, b, rd (rnC R6.b R6.e n L) (j + 1), f⟩ = true := by
   have s1 := y0o (Ui a (rd (rnC R6.b R6.e n L) j)) e
   have s2 := y0o a (rd (rnC R6.b R6.e n L) j)
   have s3 := z7j (Wg a (rd (rnC R6.b R6.e n L) j)) e
   have s4 := z7j a (rd (rnC R6.b R6.e n L) j)
   have s5 := y0o (Ui b (rd (rnC R6.b R6.e n L) (j + 1))) f
   have s6 := y0o b (rd (rnC R6.b R6.e n L) (j + 1))
   have s7 := z7j (Wg b (rd (rnC R6.b R6.e n L) (j + 1))) f
   have s8 := z7j b (rd (rnC R6.b R6.e n L) (j + 1))
   unfold Kg
   simp only [Bool.and_eq_true, decide_eq_true_eq]
   refine ⟨by omega, hlt, by omega, by omega, by omega, by omega, by omega⟩
  have e1 : rd ((List.range (rnC R6.b R6.e n L).length).map fun i => y2v (crS R6.b R6.e L (rd (rnC R6.b R6.e n L) i) (rd (rnC R6.b R6.e n L) (i + 1))) a b (rd (rnC R6.b R6.e n L) i) (rd (rnC R6.b R6.e n L) (i + 1)) e f) j = y2v (crS R6.b R6.e L (rd (rnC R6.b R6.e n L) j) (rd (rnC R6.b R6.e n L) (j + 1))) a b (rd (rnC R6.b R6.e n L) j) (rd (rnC R6.b R6.e n L) (j + 1)) e f := by
   rw [Xm (by simp; omega)]; simp
  rw [e1]
  rw [show y2v (crS R6.b R6.e L (rd (rnC R6.b R6.e n L) j) (rd (rnC R6.b R6.e n L) (j + 1))) a b (rd (rnC R6.b R6.e n L) j) (rd (rnC R6.b R6.e n L) (j + 1)) e f = true ↔ _ from v6w (h.sol.sub (y4y R6.b R6.e L _ _)) hv]
  constructor
  ·intro k t t1 t2 x z x1 x2 z1 z2
   exact (y2s (t := t) (fun r hr => hr.2.1) t1 t2).1 (k x t z ⟨⟨x1, x2⟩, ⟨t1, t2⟩, z1, z2⟩)
  ·rintro k x t z ⟨⟨x1, x2⟩, ⟨t1, t2⟩, z1, z2⟩
   exact (y2s (t := t) (fun r hr => hr.2.1) t1 t2).2 (k t t1 t2 x z x1 x2 z1 z2)
 have cst : ∀ y1 y2, (∀ r ∈ L, (R6.b r ≤ y1 ∧ y1 < R6.e r) ↔ (R6.b r ≤ y2 ∧ y2 < R6.e r)) → ((∀ x z, a ≤ x → x < b → e ≤ z → z < f → inS L x y1 z) → ∀ x z, a ≤ x → x < b → e ≤ z → z < f → inS L x y2 z) := fun y1 y2 hh k x z x1 x2 z1 z2 => by
  obtain ⟨r, hr, p1, p2, p3⟩ := k x z x1 x2 z1 z2
  exact ⟨r, hr, p1, (hh r hr).1 p2, p3⟩
 constructor
 ·rintro (⟨s, hs, _⟩ | ⟨j, j1, j2, j3, j4, j5⟩)
  ·cases hs
  ·exact (Qt hn hb (by omega) j4 j5 (Q := fun t => ∀ x z, a ≤ x → x < b → e ≤ z → z < f → inS L x t z) cst).1 ((full j (by omega)).1 j3)
 ·intro k
  right
  obtain ⟨m, c1, c2⟩ := Xr hn.1 y
  obtain ⟨r, hr, p1, p2, p3⟩ := k y c1 c2 a e (Int.le_refl _) hab.2.1 (Int.le_refl _) hef.2.1
  obtain ⟨j, j1, j4, j5⟩ := x9y (lo := R6.b) (hi := R6.e) hn hb hr p2.1 p2.2
  exact ⟨j, Nat.zero_le _, by omega, (full j j1).2 ((Qt hn hb j1 j4 j5 (Q := fun t => ∀ x z, a ≤ x → x < b → e ≤ z → z < f → inS L x t z) cst).2 k), j4, j5⟩
theorem v6i {L : List R6} (h : Sml L) {n : Int} (hn : 1 ≤ n ∧ n ≤ 1000) {a b : Int} (hab : -1000000 ≤ a ∧ a < b ∧ b ≤ 1000000) :
  y5z.can (Qz L a b n) ∧ ∀ x y, ptL y5z.inB (Qz L a b n) (x, y) ↔ ∀ s, cel n x ≤ s → s < cel n x + n → ∀ t, cel n y ≤ t → t < cel n y + n → ∀ z, a ≤ z → z < b → inS L s t z := by
 have hc := z1s R6.a R6.d n L
 have hb := h.ba
 have one : ∀ j, j + 1 < (rnC R6.a R6.d n L).length → Can (v2n L a b n (rd (rnC R6.a R6.d n L) j) (rd (rnC R6.a R6.d n L) (j + 1))) ∧ ∀ y, pt (v2n L a b n (rd (rnC R6.a R6.d n L) j) (rd (rnC R6.a R6.d n L) (j + 1))) y ↔ ∀ s, rd (rnC R6.a R6.d n L) j ≤ s → s < rd (rnC R6.a R6.d n L) (j + 1) → ∀ t, cel n y ≤ t → t < cel n y + n → ∀ z, a ≤ z → z < b → inS L s t z := fun j hj => by
  obtain ⟨m1, a1, a2⟩ := z1h hn hb (z7u (show j < (rnC R6.a R6.d n L).length by omega))
  obtain ⟨m2, b1, b2⟩ := z1h hn hb (z7u hj)
  have hlt : rd (rnC R6.a R6.d n L) j < rd (rnC R6.a R6.d n L) (j + 1) := z2b hc (Nat.lt_succ_self j) hj
  obtain ⟨k1, k2⟩ := v8w (h.sub (y4y R6.a R6.d L (rd (rnC R6.a R6.d n L) j) (rd (rnC R6.a R6.d n L) (j + 1)))) hn (a := rd (rnC R6.a R6.d n L) j) (b := rd (rnC R6.a R6.d n L) (j + 1)) (by omega) hab
  refine ⟨k1, fun y => (k2 y).trans ?_⟩
  constructor
  ·intro k s s1 s2 t t1 t2 z z1 z2
   exact (y2s (t := s) (fun r hr => hr.1) s1 s2).1 (k t t1 t2 s z s1 s2 z1 z2)
  ·intro k t t1 t2 s z s1 s2 z1 z2
   exact (y2s (t := s) (fun r hr => hr.1) s1 s2).2 (k s s1 s2 t t1 t2 z z1 z2)
 obtain ⟨r1, r2⟩ := w2o y5q y6c w4m (S := v2n L a b n) hc fun j hj => (one j hj).1
 refine ⟨r1, fun x y => ?_⟩
 rw [show ptL y5z.inB (Qz L a b n) (x, y) ↔ _ from r2 x y]
 have cst : ∀ y1 y2, (∀ r ∈ L, (R6.a r ≤ y1 ∧ y1 < R6.d r) ↔ (R6.a r ≤ y2 ∧ y2 < R6.d r)) → ((∀ t, cel n y ≤ t → t < cel n y + n → ∀ z, a ≤ z → z < b → inS L y1 t z) → ∀ t, cel n y ≤ t → t < cel n y + n → ∀ z, a ≤ z → z < b → inS L y2 t z) := fun y1 y2 hh k t t1 t2 z z1 z2 => by
  obtain ⟨r, hr, p1, p2⟩ := k t t1 t2 z z1 z2
  exact ⟨r, hr, (hh r hr).1 p1, p2⟩
 constructor
 ·rintro ⟨j, j1, j2, j3, j4⟩
  exact (Qt hn hb j1 j2 j3 (Q := fun s => ∀ t, cel n y ≤ t → t < cel n y + n → ∀ z, a ≤ z → z < b → inS L s t z) cst).1 (((one j j1).2 y).1 j4)
 ·intro k
  obtain ⟨m, c1, c2⟩ := Xr hn.1 x
  obtain ⟨m', d1, d2⟩ := Xr hn.1 y
  obtain ⟨r, hr, p1, p2, p3⟩ := k x c1 c2 y d1 d2 a (Int.le_refl _) hab.2.1
  obtain ⟨j, j1, j4, j5⟩ := x9y (lo := R6.a) (hi := R6.d) hn hb hr p1.1 p1.2
  exact ⟨j, j1, j4, j5, ((one j j1).2 y).2 ((Qt hn hb j1 j4 j5 (Q := fun s => ∀ t, cel n y ≤ t → t < cel n y + n → ∀ z, a ≤ z → z < b → inS L s t z) cst).2 k)⟩
theorem v6p {L : List R6} (h : Sml L) {n : Int} (hn : 1 ≤ n ∧ n ≤ 1000) :
  w4l.can (w4n L n) ∧ ∀ x y z, inS (w4n L n) x y z ↔ ∀ s, cel n x ≤ s → s < cel n x + n → ∀ t, cel n y ≤ t → t < cel n y + n → ∀ u, cel n z ≤ u → u < cel n z + n → inS L s t u := by
 have hc := z1s R6.c R6.f n L
 have hb := h.bc
 have one : ∀ j, j + 1 < (rnC R6.c R6.f n L).length → y5z.can (x6s L n (rd (rnC R6.c R6.f n L) j) (rd (rnC R6.c R6.f n L) (j + 1))) ∧ ∀ x y, ptL y5z.inB (x6s L n (rd (rnC R6.c R6.f n L) j) (rd (rnC R6.c R6.f n L) (j + 1))) (x, y) ↔ ∀ u, rd (rnC R6.c R6.f n L) j ≤ u → u < rd (rnC R6.c R6.f n L) (j + 1) → ∀ s, cel n x ≤ s → s < cel n x + n → ∀ t, cel n y ≤ t → t < cel n y + n → inS L s t u := fun j hj => by
  obtain ⟨m1, a1, a2⟩ := z1h hn hb (z7u (show j < (rnC R6.c R6.f n L).length by omega))
  obtain ⟨m2, b1, b2⟩ := z1h hn hb (z7u hj)
  have hlt : rd (rnC R6.c R6.f n L) j < rd (rnC R6.c R6.f n L) (j + 1) := z2b hc (Nat.lt_succ_self j) hj
  obtain ⟨k1, k2⟩ := v6i (h.sub (y4y R6.c R6.f L (rd (rnC R6.c R6.f n L) j) (rd (rnC R6.c R6.f n L) (j + 1)))) hn (a := rd (rnC R6.c R6.f n L) j) (b := rd (rnC R6.c R6.f n L) (j + 1)) (by omega)
  refine ⟨k1, fun x y => (k2 x y).trans ?_⟩
  constructor
  ·intro k u u1 u2 s s1 s2 t t1 t2
   exact (y2s (t := u) (fun r hr => hr.2.2) u1 u2).1 (k s s1 s2 t t1 t2 u u1 u2)
  ·intro k s s1 s2 t t1 t2 u u1 u2
   exact (y2s (t := u) (fun r hr => hr.2.2) u1 u2).2 (k u u1 u2 s s1 s2 t t1 t2)
 obtain ⟨r1, r2⟩ := w2o y5p y6b y5z (S := x6s L n) hc fun j hj => (one j hj).1
 refine ⟨r1, fun x y z => ?_⟩
 rw [z3v, show ptL w4l.inB (w4n L n) (z, x, y) ↔ _ from r2 z (x, y)]
 have cst : ∀ y1 y2, (∀ r ∈ L, (R6.c r ≤ y1 ∧ y1 < R6.f r) ↔ (R6.c r ≤ y2 ∧ y2 < R6.f r)) → ((∀ s, cel n x ≤ s → s < cel n x + n → ∀ t, cel n y ≤ t → t < cel n y + n → inS L s t y1) → ∀ s, cel n x ≤ s → s < cel n x + n → ∀ t, cel n y ≤ t → t < cel n y + n → inS L s t y2) := fun y1 y2 hh k s s1 s2 t t1 t2 => by
  obtain ⟨r, hr, p1, p2, p3⟩ := k s s1 s2 t t1 t2
  exact ⟨r, hr, p1, p2, (hh r hr).1 p3⟩
 constructor
 ·rintro ⟨j, j1, j2, j3, j4⟩
  have k := (Qt hn hb j1 j2 j3 (Q := fun u => ∀ s, cel n x ≤ s → s < cel n x + n → ∀ t, cel n y ≤ t → t < cel n y + n → inS L s t u) cst).1 (((one j j1).2 x y).1 j4)
  exact fun s s1 s2 t t1 t2 u u1 u2 => k u u1 u2 s s1 s2 t t1 t2
 ·intro k
  obtain ⟨m, c1, c2⟩ := Xr hn.1 x
  obtain ⟨m', d1, d2⟩ := Xr hn.1 y
  obtain ⟨m'', e1, e2⟩ := Xr hn.1 z
  obtain ⟨r, hr, p1, p2, p3⟩ := k x c1 c2 y d1 d2 z e1 e2
  obtain ⟨j, j1, j4, j5⟩ := x9y (lo := R6.c) (hi := R6.f) hn hb hr p3.1 p3.2
  exact ⟨j, j1, j4, j5, ((one j j1).2 x y).2 ((Qt hn hb j1 j4 j5 (Q := fun u => ∀ s, cel n x ≤ s → s < cel n x + n → ∀ t, cel n y ≤ t → t < cel n y + n → inS L s t u) cst).2 fun u u1 u2 s s1 s2 t t1 t2 => k s s1 s2 t t1 t2 u u1 u2)⟩
theorem v5x {L : List R6} (h : Sml L) {n : Int} (hn : 1 ≤ n ∧ n ≤ 1000) (x y z : Int) : inS (L.map (oB n)) x y z ↔ ∃ s t u, (cel n x ≤ s ∧ s < cel n x + n) ∧ (cel n y ≤ t ∧ t < cel n y + n) ∧ (cel n z ≤ u ∧ u < cel n z + n) ∧ inS L s t u := by
 have lo1 : ∀ a d t : Int, (-900000 ≤ a ∧ a ≤ 900000) → (-900000 ≤ d ∧ d ≤ 900000) → a < d → ((Yb a n ≤ t ∧ t < upV d n) ↔ ∃ s, (cel n t ≤ s ∧ s < cel n t + n) ∧ a ≤ s ∧ s < d) := fun a d t ha hd had => by
  obtain ⟨m1, a1, a2⟩ := Un (x := a) hn (by omega)
  obtain ⟨m3, d1, d2⟩ := z5y (x := d) hn (by omega)
  obtain ⟨m, c1, c2⟩ := Xr hn.1 t
  constructor
  ·intro hh
   have ht : -1000000 ≤ t ∧ t ≤ 1000000 := by omega
   have k := (out1 hn ha hd ht).1 hh
   rw [x1t hn (by omega)] at k
   by_cases q : a ≤ cel n t
   ·exact ⟨cel n t, by omega, by omega⟩
   ·exact ⟨a, by omega, by omega⟩
  ·rintro ⟨s, s1, s2, s3⟩
   have ht : -1000000 ≤ t ∧ t ≤ 1000000 := by omega
   refine (out1 hn ha hd ht).2 ?_
   rw [x1t hn (by omega)]
   omega
 constructor
 ·rintro ⟨r, hr, p1, p2, p3⟩
  obtain ⟨q, hq, rfl⟩ := List.mem_map.1 hr
  have v := Wc (h.sol.val q hq)
  obtain ⟨s, s1, s2⟩ := (lo1 q.a q.d x (h.ba q hq).1 (h.ba q hq).2 v.1).1 p1
  obtain ⟨t, t1, t2⟩ := (lo1 q.b q.e y (h.bb q hq).1 (h.bb q hq).2 v.2.1).1 p2
  obtain ⟨u, u1, u2⟩ := (lo1 q.c q.f z (h.bc q hq).1 (h.bc q hq).2 v.2.2.1).1 p3
  exact ⟨s, t, u, s1, t1, u1, q, hq, s2, t2, u2⟩
 ·rintro ⟨s, t, u, s1, t1, u1, q, hq, s2, t2, u2⟩
  have v := Wc (h.sol.val q hq)
  exact ⟨oB n q, List.mem_map_of_mem hq, (lo1 q.a q.d x (h.ba q hq).1 (h.ba q hq).2 v.1).2 ⟨s, s1, s2⟩, (lo1 q.b q.e y (h.bb q hq).1 (h.bb q hq).2 v.2.1).2 ⟨t, t1, t2⟩, (lo1 q.c q.f z (h.bc q hq).1 (h.bc q hq).2 v.2.2.1).2 ⟨u, u1, u2⟩⟩
end Go.Am
namespace Go.Am
open Go.Proofs
end Go.Am
namespace Go.Am
open Go.Proofs Go.Sort Go.Shelf Go.RowKit Go.Lib
theorem fit_ok {L : List R6} (h : x7b L = true) : L.length ≤ 6 ∧ Ye L = 0 ∧ ∀ r ∈ L, Kg r = true := by
 simp only [x7b, Bool.and_eq_true, decide_eq_true_eq] at h
 have hk := x9d (eq_of_beq h.2.2)
 exact ⟨by omega, hk, (Jm hk).2.1⟩
end Go.Am
namespace Go.Am
open Go.Proofs Go.Sort Go.Shelf Go.RowKit Go.Lib
theorem x2j {a : Int} (h : (a != 0) = false) : a = 0 := by simpa using h
theorem v1q {L : List R6} {n : Int} (h : Uy L n = 0) : Ye L = 0 ∧ (1 ≤ n ∧ n ≤ 1000) ∧ Zg L n = Ka (L.map (oB n)) ∧ Jo (L.map (oB n)) = 0 := by
 unfold Uy at h
 rcases Yv (Ye L != 0) with a | a
 ·rw [a, cond_true] at h; rw [h] at a; cases a
 rw [a, cond_false] at h
 rcases Yv (decide (n < 1)) with b | b
 ·rw [b] at h; cases h
 rcases Yv (decide (n > 1000)) with c | c
 ·rw [b, c] at h; cases h
 rw [b, c, Bool.or_false, cond_false] at h
 rcases Yv (L.all (oOk n)) with d | d
 ·rw [d, cond_true] at h
  have hb := of_decide_eq_false b
  have hc := of_decide_eq_false c
  refine ⟨x2j a, by omega, ?_, h⟩
  unfold Zg v5y
  rw [x2j a, b, c, d]; rfl
 ·rw [d] at h; cases h
theorem v2p {L : List R6} {n : Int} (h : Wy L n = 0) : Ye L = 0 ∧ (1 ≤ n ∧ n ≤ 1000) ∧ Zm L n = w4n L n ∧ (w4n L n).length ≤ 400 := by
 have h0 := h
 unfold Wy at h
 rcases Yv (Ye L != 0) with a | a
 ·rw [a, cond_true] at h; rw [h] at a; cases a
 rw [a, cond_false] at h
 rcases Yv (decide (n < 1)) with b | b
 ·rw [b] at h; cases h
 rcases Yv (decide (n > 1000)) with c | c
 ·rw [b, c] at h; cases h
 rw [b, c, Bool.or_false, cond_false] at h
 rcases Yv (okX (x6s L n) (rnC R6.c R6.f n L) ((rnC R6.c R6.f n L).length - 1) 0) with d | d
 ·rw [d, cond_true] at h
  have hb := of_decide_eq_false b
  have hc := of_decide_eq_false c
  refine ⟨x2j a, by omega, ?_, y1f h⟩
  unfold Zm w8j
  rw [h0]; rfl
 ·rw [d] at h; cases h
def tou (L : List R6) (n x y z : Int) : Prop := ∃ s t u, (cel n x ≤ s ∧ s < cel n x + n) ∧ (cel n y ≤ t ∧ t < cel n y + n) ∧ (cel n z ≤ u ∧ u < cel n z + n) ∧ inS L s t u
def wit (L : List R6) (n x y z : Int) : Prop := ∀ s, cel n x ≤ s → s < cel n x + n → ∀ t, cel n y ≤ t → t < cel n y + n → ∀ u, cel n z ≤ u → u < cel n z + n → inS L s t u
theorem y4f {L : List R6} {n : Int} (h : Uy L n = 0) (hr : ∀ r ∈ L, nrR r) : w4l.can (Zg L n) ∧ (Zg L n).length ≤ 400 ∧ ∀ x y z, inS (Zg L n) x y z ↔ tou L n x y z := by
 obtain ⟨h1, h2, h3, h4⟩ := v1q h
 obtain ⟨k1, k2⟩ := v4g h4
 rw [h3]
 exact ⟨k1, by rw [y9g h4]; exact (x2z h4).2.2.2, fun x y z => (k2 x y z).trans (v5x ⟨Sol.of h1, hr⟩ h2 x y z)⟩
theorem y4p {L : List R6} {n : Int} (h : Wy L n = 0) (hr : ∀ r ∈ L, nrR r) : w4l.can (Zm L n) ∧ (Zm L n).length ≤ 400 ∧ ∀ x y z, inS (Zm L n) x y z ↔ wit L n x y z := by
 obtain ⟨h1, h2, h3, h4⟩ := v2p h
 rw [h3]
 obtain ⟨k1, k2⟩ := v6p ⟨Sol.of h1, hr⟩ h2
 exact ⟨k1, h4, k2⟩
theorem w1l {L : List R6} (h : x7b L = true) : ∀ r ∈ L, (-12 ≤ r.a ∧ r.d ≤ 12) ∧ (-12 ≤ r.b ∧ r.e ≤ 12) ∧ -12 ≤ r.c ∧ r.f ≤ 12 := fun r hr => by
 have hl := (fit_ok h).1
 simp only [x7b, Bool.and_eq_true] at h
 have hn := h.2.1
 unfold x0p at hn
 rw [Xv (by omega), cond_false, Bool.and_eq_true] at hn
 have q := List.all_eq_true.1 hn.1 r hr
 unfold w6r at q
 simp only [Bool.and_eq_true, Bool.not_eq_true', decide_eq_false_iff_not] at q
 have s1 := y0o (Ui r.a r.b) r.c
 have s2 := y0o r.a r.b
 have s3 := z7j (Wg r.d r.e) r.f
 have s4 := z7j r.d r.e
 omega
theorem y2x {L : List R6} (h : x7b L = true) : ∀ r ∈ L, nrR r := fun r hr => by
 have := w1l h r hr
 unfold nrR; omega
theorem z2z {n m x t : Int} (hn : 1 ≤ n) (hm : 1 ≤ m) (h : cel (n * m) x ≤ t ∧ t < cel (n * m) x + n * m) : cel (n * m) x ≤ cel n t ∧ cel n t + n ≤ cel (n * m) x + n * m := by
 obtain ⟨m1, h1, h2⟩ := Xr hn t
 have m2 : w9u n (cel (n * m) x) := ⟨x / (n * m) * m, by unfold cel; rw [Int.mul_assoc, Int.mul_comm m n]⟩
 have m3 : w9u n (cel (n * m) x + n * m) := by
  obtain ⟨k, hk⟩ := m2
  exact ⟨k + m, by rw [hk, Int.add_mul, Int.mul_comm m n]⟩
 have := Kh hn m2 m1 (by omega)
 refine ⟨this, ?_⟩
 refine Classical.byContradiction fun hh => ?_
 have := Kh hn m3 m1 (by omega)
 omega
theorem w6u {n m : Int} (hn : 1 ≤ n) (hm : 1 ≤ m) : 1 ≤ n * m := by
 have := Int.mul_le_mul hn hm (by omega) (by omega)
 omega
theorem v3z {L A : List R6} {n m : Int} (hn : 1 ≤ n) (hm : 1 ≤ m) (hA : ∀ x y z, inS A x y z ↔ tou L n x y z) (x y z : Int) : tou A (n * m) x y z ↔ tou L (n * m) x y z := by
 constructor
 ·rintro ⟨s, t, u, hs, ht, hu, h⟩
  obtain ⟨s', t', u', hs', ht', hu', h'⟩ := (hA s t u).1 h
  have e1 := z2z hn hm hs
  have e2 := z2z hn hm ht
  have e3 := z2z hn hm hu
  exact ⟨s', t', u', by omega, by omega, by omega, h'⟩
 ·rintro ⟨s, t, u, hs, ht, hu, h⟩
  obtain ⟨_, a1, a2⟩ := Xr hn s
  obtain ⟨_, b1, b2⟩ := Xr hn t
  obtain ⟨_, c1, c2⟩ := Xr hn u
  exact ⟨s, t, u, hs, ht, hu, (hA s t u).2 ⟨s, t, u, ⟨a1, a2⟩, ⟨b1, b2⟩, ⟨c1, c2⟩, h⟩⟩
theorem v3p {L A : List R6} {n m : Int} (hn : 1 ≤ n) (hm : 1 ≤ m) (hA : ∀ x y z, inS A x y z ↔ wit L n x y z) (x y z : Int) : wit A (n * m) x y z ↔ wit L (n * m) x y z := by
 constructor
 ·intro h s s1 s2 t t1 t2 u u1 u2
  obtain ⟨_, a1, a2⟩ := Xr hn s
  obtain ⟨_, b1, b2⟩ := Xr hn t
  obtain ⟨_, c1, c2⟩ := Xr hn u
  exact (hA s t u).1 (h s s1 s2 t t1 t2 u u1 u2) s a1 a2 t b1 b2 u c1 c2
 ·intro h s s1 s2 t t1 t2 u u1 u2
  refine (hA s t u).2 fun s' a1 a2 t' b1 b2 u' c1 c2 => ?_
  have e1 := z2z hn hm ⟨s1, s2⟩
  have e2 := z2z hn hm ⟨t1, t2⟩
  have e3 := z2z hn hm ⟨u1, u2⟩
  exact h s' (by omega) (by omega) t' (by omega) (by omega) u' (by omega) (by omega)
theorem v1r {A : List R6} (hv : ∀ r ∈ A, Kg r = true) (h : ∀ x y z, inS A x y z → (-900000 ≤ x ∧ x < 900000) ∧ (-900000 ≤ y ∧ y < 900000) ∧ -900000 ≤ z ∧ z < 900000) : ∀ r ∈ A, nrR r := fun r hr => by
 obtain ⟨v1, v2, v3, _⟩ := Wc (hv r hr)
 have h1 := h r.a r.b r.c ⟨r, hr, by omega, by omega, by omega⟩
 have h2 := h (r.d - 1) (r.e - 1) (r.f - 1) ⟨r, hr, by omega, by omega, by omega⟩
 unfold nrR; omega
theorem w2w {L : List R6} (h : x7b L = true) {x y z : Int} (k : inS L x y z) : (-12 ≤ x ∧ x < 12) ∧ (-12 ≤ y ∧ y < 12) ∧ -12 ≤ z ∧ z < 12 := by
 obtain ⟨r, hr, p1, p2, p3⟩ := k
 have := w1l h r hr
 omega
theorem w1d {L : List R6} (hf : x7b L = true) {n m : Int} (hn : 1 ≤ n ∧ n ≤ 12) (hm : 1 ≤ m ∧ m ≤ 12) (h1 : Uy L n = 0) (h2 : Uy (Zg L n) (n * m) = 0) (h3 : Uy L (n * m) = 0) : Zg (Zg L n) (n * m) = Zg L (n * m) := by
 obtain ⟨a1, _, a3⟩ := y4f h1 (y2x hf)
 have hk := (v1q h2).1
 obtain ⟨b1, _, b3⟩ := y4f h2 (v1r (Jm hk).2.1 fun x y z k => by
  obtain ⟨s, t, u, hs, ht, hu, q⟩ := (a3 x y z).1 k
  have := w2w hf q
  obtain ⟨_, e1, e2⟩ := Xr hn.1 x
  obtain ⟨_, e3, e4⟩ := Xr hn.1 y
  obtain ⟨_, e5, e6⟩ := Xr hn.1 z
  omega)
 obtain ⟨c1, _, c3⟩ := y4f h3 (y2x hf)
 exact w4l.uniq _ _ b1 c1 fun ⟨z, x, y⟩ => by
  rw [← z3v, ← z3v, b3, c3]
  exact v3z hn.1 hm.1 a3 x y z
theorem w2i {L : List R6} (hf : x7b L = true) {n m : Int} (hn : 1 ≤ n ∧ n ≤ 12) (hm : 1 ≤ m ∧ m ≤ 12) (h1 : Wy L n = 0) (h2 : Wy (Zm L n) (n * m) = 0) (h3 : Wy L (n * m) = 0) : Zm (Zm L n) (n * m) = Zm L (n * m) := by
 obtain ⟨a1, _, a3⟩ := y4p h1 (y2x hf)
 have hk := (v2p h2).1
 obtain ⟨b1, _, b3⟩ := y4p h2 (v1r (Jm hk).2.1 fun x y z k => by
  obtain ⟨_, e1, e2⟩ := Xr hn.1 x
  obtain ⟨_, e3, e4⟩ := Xr hn.1 y
  obtain ⟨_, e5, e6⟩ := Xr hn.1 z
  have := w2w hf ((a3 x y z).1 k x e1 e2 y e3 e4 z e5 e6)
  omega)
 obtain ⟨c1, _, c3⟩ := y4p h3 (y2x hf)
 exact w4l.uniq _ _ b1 c1 fun ⟨z, x, y⟩ => by
  rw [← z3v, ← z3v, b3, c3]
  exact v3p hn.1 hm.1 a3 x y z
theorem dst_run (L : List R6) (n m : Int) : ∃ N, Yj (x1u L n m) N (z9e L n m) = .ret [.bool true] := ⟨0, by
 unfold z9e
 simp only [Zd, show ∀ l, z5e l = true from fun _ => rfl, show ∀ l n, Kf l n = true from fun _ _ => rfl, show ∀ l n, Wj l n = true from fun _ _ => rfl, cond_true]
 rcases (Yv (x7b L)).symm with f | f
 ·rw [f]; rfl
 rcases Yv (decide (n < 1)) with c1 | c1
 ·rw [f, c1]; rfl
 rcases Yv (decide (n > 12)) with c2 | c2
 ·rw [f, c1, c2]; rfl
 rcases Yv (decide (m < 1)) with c3 | c3
 ·rw [f, c1, c2, c3]; rfl
 rcases Yv (decide (m > 12)) with c4 | c4
 ·rw [f, c1, c2, c3, c4]; rfl
 have d1 := of_decide_eq_false c1
 have d2 := of_decide_eq_false c2
 have d3 := of_decide_eq_false c3
 have d4 := of_decide_eq_false c4
 have hn : 1 ≤ n ∧ n ≤ 12 := by omega
 have hm : 1 ≤ m ∧ m ≤ 12 := by omega
 have hnm : n * m ≤ 12 * 12 := Int.mul_le_mul (by omega) (by omega) (by omega) (by omega)
 have hnm0 := w6u hn.1 hm.1
 have hw : IntKind.wrap .i64 (n * m) = n * m := Zk (by omega)
 have hk : ∀ a : Int, (a != 0) = !(a == 0) := fun _ => rfl
 have inner : ∀ {X : Xd dstS}, X = (bif Wy L n != 0 then .ret [.bool true] else bif Wy (Zm L n) (n * m) != 0 then .ret [.bool true] else bif Wy L (n * m) != 0 then .ret [.bool true] else bif Xj (Zm (Zm L n) (n * m)) (Zm L (n * m)) then .ret [.bool (Wd (Zm (Zm L n) (n * m)) (Zm L (n * m)))] else .stuck) → X = .ret [.bool true] := fun {X} e => by
  rw [e]
  rcases Yv (Wy L n != 0) with a | a
  ·rw [a]; rfl
  rcases Yv (Wy (Zm L n) (n * m) != 0) with b | b
  ·rw [a, b]; rfl
  rcases Yv (Wy L (n * m) != 0) with c | c
  ·rw [a, b, c]; rfl
  have e2 := w2i f hn hm (x2j a) (x2j b) (x2j c)
  have hl := (y4p (x2j c) (y2x f)).2.1
  rw [a, b, c, e2, show Xj (Zm L (n * m)) (Zm L (n * m)) = true from decide_eq_true (by omega), show Wd (Zm L (n * m)) (Zm L (n * m)) = true from decide_eq_true rfl]; rfl
 rw [f, c1, c2, c3, c4, hw]
 simp only [Bool.not_true, cond_true, cond_false]
 rcases Yv (Uy L n == 0) with a | a
 ·rcases Yv (Uy (Zg L n) (n * m) == 0) with b | b
  ·rcases Yv (Uy L (n * m) == 0) with c | c
   ·have e2 := w1d f hn hm (eq_of_beq a) (eq_of_beq b) (eq_of_beq c)
    have hl := (y4f (eq_of_beq c) (y2x f)).2.1
    rw [a, b, c, e2, show Xj (Zg L (n * m)) (Zg L (n * m)) = true from decide_eq_true (by omega), show Wd (Zg L (n * m)) (Zg L (n * m)) = true from decide_eq_true rfl]
    exact inner rfl
   ·rw [a, b, c]; exact inner rfl
  ·rw [a, b]; exact inner rfl
 ·rw [a]; exact inner rfl⟩
end Go.Am
end
