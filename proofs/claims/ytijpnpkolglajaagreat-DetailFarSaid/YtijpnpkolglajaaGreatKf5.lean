/- A part of a proof: several texts in one. -/
import Derived.Test.YtijpnpkolglajaaGreatKf4
import Derived.WideShapes
import Derived.ChangeShapes
set_option maxRecDepth 1000000
set_option maxHeartbeats 8000000
set_option linter.unusedVariables false
set_option linter.unusedSimpArgs false
noncomputable section
namespace Go.Am
open Go.Proofs.Tryz
open Go.Proofs
inductive outeS where
 | h0 (v7 : List R6) (v19 : Int)
def v4o (l0 : List R6) (x1 : Int) : outeS → Cfg
 | .h0 v7 v19 => ⟨⟨89, 0, true⟩, none, (Za prog 34 [1, 1, 1, 0, 1, 0, 0] 0), none, (Zy prog 16), ⟨Yk [(1, (ii x1)), (7, (.sla 0 6 0 v7.length (.un 6))), (17, (.dat l0.length (Zz l0))), (18, (ii (l0.length : Int))), (19, (ii v19))], Vn [⟨rows v7.length (Zz v7), 68, some ⟨6, v7.length, (Zz v7)⟩⟩] 0, 1, [], true⟩, [], .leaf⟩
def v0l : List (Option (List Nat)) := [some [1, 7, 17, 18, 19]]
def v0m : List (Option (List Nat)) := []
def z0h (l0 : List R6) (x1 : Int) : outeS → Xn outeS
 | .h0 v7 v19 => (bif (decide (v19 < (l0.length : Int))) then (bif ((decide (0 ≤ v19 ∧ v19 < (l0.length : Int))) && true) then (bif (Xw (rd l0 v19.toNat).a x1) then (bif (Xw (rd l0 v19.toNat).b x1) then (bif (Xw (rd l0 v19.toNat).c x1) then (bif (Xw (IntKind.wrap .i64 (0 - (rd l0 v19.toNat).d)) x1) then (bif (Xw (IntKind.wrap .i64 (0 - (rd l0 v19.toNat).e)) x1) then (bif (Xw (IntKind.wrap .i64 (0 - (rd l0 v19.toNat).f)) x1) then (bif (decide ((Uw (Uw (Yb (rd l0 v19.toNat).a x1) (Yb (rd l0 v19.toNat).b x1)) (Yb (rd l0 v19.toNat).c x1)) < (-1000000))) then (.ret [.nils, (.int .i64 16)]) else (bif (decide ((Wg (Wg (IntKind.wrap .i64 (0 - (Yb (IntKind.wrap .i64 (0 - (rd l0 v19.toNat).d)) x1))) (IntKind.wrap .i64 (0 - (Yb (IntKind.wrap .i64 (0 - (rd l0 v19.toNat).e)) x1)))) (IntKind.wrap .i64 (0 - (Yb (IntKind.wrap .i64 (0 - (rd l0 v19.toNat).f)) x1)))) > 1000000)) then (.ret [.nils, (.int .i64 16)]) else (bif (Nat.beq 6 6 && ((decide (0 + v7.length = v7.length)) && decide ((v7.length + 1 + 1) * (48 + 1) ≤ Jp))) then (.to (.h0 (v7 ++ [(R6.mk (Yb (rd l0 v19.toNat).a x1) (Yb (rd l0 v19.toNat).b x1) (Yb (rd l0 v19.toNat).c x1) (IntKind.wrap .i64 (0 - (Yb (IntKind.wrap .i64 (0 - (rd l0 v19.toNat).d)) x1))) (IntKind.wrap .i64 (0 - (Yb (IntKind.wrap .i64 (0 - (rd l0 v19.toNat).e)) x1))) (IntKind.wrap .i64 (0 - (Yb (IntKind.wrap .i64 (0 - (rd l0 v19.toNat).f)) x1))))]) (IntKind.wrap .i64 (v19 + 1)))) else .stuck))) else .stuck) else .stuck) else .stuck) else .stuck) else .stuck) else .stuck) else .stuck) else (bif (z3p (cvT v7)) then (.ret [(.dat (z0z (cvT v7)).length (Zz (z0z (cvT v7)))), (.int .i64 (z0y (cvT v7)))]) else .stuck))
def z4f (l0 : List R6) (x1 : Int) : Xn outeS := (bif (Wf (cvT l0)) then (bif ((Yg (cvT l0)) != 0) then (.ret [.nils, (.int .i64 (Yg (cvT l0)))]) else (bif (decide (x1 < 1)) then (.ret [.nils, (.int .i64 2)]) else (bif (decide (x1 > 1000)) then (.ret [.nils, (.int .i64 2)]) else (.to (.h0 ([] : List R6) 0))))) else .stuck)
theorem y9t (l0 : List R6) (x1 : Int) : ∀ s, Ww prog (Zy prog 34) (v4o l0 x1) (v4o l0 x1 s) (z0h l0 x1 s)
 | .h0 v7 v19 => (lb (fun k0 => (lo fun aH => (lo fun bK => (lo fun cJ => (lo fun dG => (lo fun dP => (lo fun dQ => (lo fun dX => (lb (fun k1 => (lr 89 34 [1, 1, 1, 0, 1, 0, 0, 1, 1, 0, 0, 1, 1, 0, 1, 0, 0] 1 16 [(4, .nils), (5, (ii 16))] (sl Kc 52 [] ⟨[], [], [some [4, 5]], []⟩ ⟨[], [], []⟩ (trs 13 []) (tt k1 (ww dX (ww dQ (ww dP (ww dG (ww cJ (ww bK (ww aH (tt k0 nn)))))))))))) (fun k1 => (lb (fun k2 => (lr 89 34 [1, 1, 1, 0, 1, 0, 0, 1, 1, 0, 0, 1, 1, 0, 1, 0, 0] 1 16 [(4, .nils), (5, (ii 16))] (sl Kc 52 [] ⟨[], [], [some [4, 5]], []⟩ ⟨[], [], []⟩ [true, false, false, false, false, false, false, false, false, false, false, false, true] (tt k2 (tt k1 (ww dX (ww dQ (ww dP (ww dG (ww cJ (ww bK (ww aH (tt k0 nn))))))))))))) (fun k2 => (lo fun o0 => (sl Kc 61 [] ⟨[4], [], v0l, v0m⟩ ⟨[(7, .len (v7 ++ [(R6.mk (Yb (rd l0 (tn v19)).a x1) (Yb (rd l0 (tn v19)).b x1) (Yb (rd l0 (tn v19)).c x1) (wr (0 - (Yb (wr (0 - (rd l0 (tn v19)).d)) x1))) (wr (0 - (Yb (wr (0 - (rd l0 (tn v19)).e)) x1))) (wr (0 - (Yb (wr (0 - (rd l0 (tn v19)).f)) x1))))]).length)], [.rowed 6 (v7 ++ [(R6.mk (Yb (rd l0 (tn v19)).a x1) (Yb (rd l0 (tn v19)).b x1) (Yb (rd l0 (tn v19)).c x1) (wr (0 - (Yb (wr (0 - (rd l0 (tn v19)).d)) x1))) (wr (0 - (Yb (wr (0 - (rd l0 (tn v19)).e)) x1))) (wr (0 - (Yb (wr (0 - (rd l0 (tn v19)).f)) x1))))]).length (Zz (v7 ++ [(R6.mk (Yb (rd l0 (tn v19)).a x1) (Yb (rd l0 (tn v19)).b x1) (Yb (rd l0 (tn v19)).c x1) (wr (0 - (Yb (wr (0 - (rd l0 (tn v19)).d)) x1))) (wr (0 - (Yb (wr (0 - (rd l0 (tn v19)).e)) x1))) (wr (0 - (Yb (wr (0 - (rd l0 (tn v19)).f)) x1))))]))], []⟩ [true, false, false, false, false, false, false, false, false, false, false, false, false] (pp (xL (v7.length + 1) (v7 ++ [(R6.mk (Yb (rd l0 (tn v19)).a x1) (Yb (rd l0 (tn v19)).b x1) (Yb (rd l0 (tn v19)).c x1) (wr (0 - (Yb (wr (0 - (rd l0 (tn v19)).d)) x1))) (wr (0 - (Yb (wr (0 - (rd l0 (tn v19)).e)) x1))) (wr (0 - (Yb (wr (0 - (rd l0 (tn v19)).f)) x1))))]).length) (pp (xL (v7.length + 1) (v7 ++ [(R6.mk (Yb (rd l0 (tn v19)).a x1) (Yb (rd l0 (tn v19)).b x1) (Yb (rd l0 (tn v19)).c x1) (wr (0 - (Yb (wr (0 - (rd l0 (tn v19)).d)) x1))) (wr (0 - (Yb (wr (0 - (rd l0 (tn v19)).e)) x1))) (wr (0 - (Yb (wr (0 - (rd l0 (tn v19)).f)) x1))))]).length) (pp (xS (v7.length + 1) (Zd (Zz v7) 0 v7.length 6 [(ii (Yb (rd l0 (tn v19)).a x1)), (ii (Yb (rd l0 (tn v19)).b x1)), (ii (Yb (rd l0 (tn v19)).c x1)), (ii (wr (0 - (Yb (wr (0 - (rd l0 (tn v19)).d)) x1)))), (ii (wr (0 - (Yb (wr (0 - (rd l0 (tn v19)).e)) x1)))), (ii (wr (0 - (Yb (wr (0 - (rd l0 (tn v19)).f)) x1))))]) (Zz (v7 ++ [(R6.mk (Yb (rd l0 (tn v19)).a x1) (Yb (rd l0 (tn v19)).b x1) (Yb (rd l0 (tn v19)).c x1) (wr (0 - (Yb (wr (0 - (rd l0 (tn v19)).d)) x1))) (wr (0 - (Yb (wr (0 - (rd l0 (tn v19)).e)) x1))) (wr (0 - (Yb (wr (0 - (rd l0 (tn v19)).f)) x1))))]))) (pp (pp (xF (Zd (Zz v7) 0 v7.length 6 [(ii (Yb (rd l0 (tn v19)).a x1)), (ii (Yb (rd l0 (tn v19)).b x1)), (ii (Yb (rd l0 (tn v19)).c x1)), (ii (wr (0 - (Yb (wr (0 - (rd l0 (tn v19)).d)) x1)))), (ii (wr (0 - (Yb (wr (0 - (rd l0 (tn v19)).e)) x1)))), (ii (wr (0 - (Yb (wr (0 - (rd l0 (tn v19)).f)) x1))))])) nn) (ww o0 (tt k2 (tt k1 (ww dX (ww dQ (ww dP (ww dG (ww cJ (ww bK (ww aH (tt k0 nn))))))))))))))))))))))))))))) (fun k0 => (Wb (sl Kc (C' := ⟨⟨89, 0, true⟩, (Vk prog 34 [1, 1, 1, 1, 0] 1), (Za prog 34 [1, 1, 1, 1, 0] 1), none, (Zy prog 16), ⟨Yk [(85, (.dat v7.length (Zz v7)))], Vn [] 0, 0, [], true⟩, [], .leaf⟩) 10 [] ⟨[], [0], [some [85]], []⟩ ⟨[(85, .frz v7.length v7.length (Zz v7) (Zz v7))], [], []⟩ [false] (pp (xZ (z4q 6 6 0 v7.length v7.length (Zz v7)) v7.length (Zz v7)) (pp (xL v7.length v7.length) (pp (xS v7.length (Zz v7) (Zz v7)) (pp (fl v7 nn) (tt k0 nn)))))) (lo fun o0 => (lr 89 3 [1, 1, 1, 1, 1, 1, 0] 1 16 [(4, (.dat (z0z (cvT v7)).length (Zz (z0z (cvT v7))))), (5, (ii (z0y (cvT v7))))] (sl Kc 6 [] ⟨[], [], [some [4, 5]], []⟩ ⟨[], [], []⟩ [] (pp (pp (xr v7) (xw o0)) nn)))))))
theorem y6j (l0 : List R6) (x1 : Int) : Ww prog (Zy prog 34) (v4o l0 x1) (Zn prog 34 [(.dat l0.length (Zz l0)), (.int .i64 x1)] true []) (z4f l0 x1) := (lo fun cH => (lb (fun k0 => (lr 89 34 [1, 0, 1, 1, 0, 0] 1 16 [(4, .nils), (5, (ii (Yg (cvT l0))))] (sl Kc 48 [] ⟨[], [], [some [4, 5]], []⟩ ⟨[], [], []⟩ [true, true] (tt k0 (tt k0 (pp (pp (xr l0) (xw cH)) nn)))))) (fun k0 => (lb (fun k1 => (lr 89 34 [1, 0, 1, 1, 0, 0] 1 16 [(4, .nils), (5, (ii 2))] (sl Kc 59 [] ⟨[], [], [some [4, 5]], []⟩ ⟨[], [], []⟩ [false, true, true, true, true] (tt k1 (tt k0 (pp (pp (xr l0) (xw cH)) nn)))))) (fun k1 => (lb (fun k2 => (lr 89 34 [1, 0, 1, 1, 0, 0] 1 16 [(4, .nils), (5, (ii 2))] (sl Kc 59 [] ⟨[], [], [some [4, 5]], []⟩ ⟨[], [], []⟩ [false, false, false, true, true] (tt k2 (tt k1 (tt k0 (pp (pp (xr l0) (xw cH)) nn))))))) (fun k2 => (sl Kc 68 [(68, 6, Zz ([] : List R6))] ⟨[0], [], v0l, v0m⟩ ⟨[(7, .grow 0 6)], [], []⟩ [false, false, false, false, false] (pp (fl ([] : List R6) nn) (tt k2 (tt k1 (tt k0 (pp (pp (xr l0) (xw cH)) nn)))))))))))))
theorem x9y (l0 : List R6) (x1 : Int) (n : Nat) (vs : List AVal) (h : Yv (z0h l0 x1) n (z4f l0 x1) = .ret vs) : Kz prog (Zy prog 34) (Zn prog 34 [(.dat l0.length (Zz l0)), (.int .i64 x1)] true []) vs := by
 have := Zr (y9t l0 x1) n _ (y6j l0 x1)
 rwa [h] at this
inductive colS where
 | h0 (v14 : Int) (aA : List Int)
 | h1 (v5 : Int) (aB : List R2) (bL : Nat) (aS : List Int)
 | h2 (v5 : Int) (v6 : List R6) (v19 : Int) (aB : List R2) (bL : Nat) (aS : List Int)
def colC (l0 : List R6) (aV : Int) (aW : Int) (bO : Int) (bP : Int) (x3 : Int) : colS → Cfg
 | .h0 v14 aA => ⟨⟨45, 0, true⟩, none, (Za prog 80 [1, 1, 0, 1, 0, 0] 0), none, (Zy prog 4), ⟨Yk [(2, (ii x3)), (3, (.ptr 0 0)), (4, (.ptr 1 0)), (7, (.ptr 2 0)), (12, (.dat l0.length (Zz l0))), (13, (ii (l0.length : Int))), (14, (ii v14))], Vn [⟨[(.dat l0.length (Zz l0))], 22, none⟩, ⟨[(ii 1)], 3, none⟩, ⟨[(.sla 6 1 0 aA.length (.un 1))], 47, none⟩, ⟨[(ii aV), (ii aW)], 110, none⟩, ⟨[(ii bO), (ii bP)], 110, none⟩, ⟨[.nils], 158, none⟩, ⟨rows aA.length (Zz aA), 3, some ⟨1, aA.length, (Zz aA)⟩⟩] 0, 7, [], true⟩, [⟨⟨51, 0, true⟩, (Vk prog 122 [1, 1, 0, 0] 2), (Za prog 122 [1, 1, 0, 0] 1), none, (Zy prog 102), Yk [(5, (.ptr 3 0)), (6, (.ptr 4 0)), (8, .nils), (9, (.ptr 5 0)), (13, (.dat l0.length (Zz l0))), (14, (ii x3))]⟩], .leaf⟩
 | .h1 v5 aB bL aS => ⟨⟨63, 0, true⟩, none, (Za prog 121 [1, 0, 0] 0), none, [], ⟨Yk [(0, (.yld 0)), (1, (.ptr 4 0)), (2, (.ptr 6 0)), (3, (.ptr 7 0)), (5, (ii v5))], z4j [(1, ⟨[(ii aV), (ii aW)], 110, none⟩), (2, ⟨[(ii bO), (ii bP)], 110, none⟩), (3, ⟨[(.sla 8 2 0 aB.length (.un 2))], 158, none⟩), (4, ⟨[(.sla 5 1 0 bL (.un 1))], 47, none⟩), (5, ⟨rows aS.length (Zz aS), 3, some ⟨1, aS.length, (Zz aS)⟩⟩), (6, ⟨[(.dat l0.length (Zz l0))], 22, none⟩), (7, ⟨[(ii 1)], 3, none⟩), (8, ⟨rows aB.length (Zz aB), 110, some ⟨2, aB.length, (Zz aB)⟩⟩)], 9, [], true⟩, [⟨⟨51, 0, true⟩, none, (.inRangeFunc 0 :: (Za prog 122 [1, 1, 0, 1, 0] 1)), none, (Zy prog 102), Yk [(8, .nils), (9, (.ptr 3 0))]⟩], (z4l [(0, ⟨.ready, none, 51, Yk [(5, (.ptr 1 0)), (6, (.ptr 2 0)), (9, (.ptr 3 0))], [16, 17], (Xi prog 122 [1, 1, 0, 1, 0, 0]), (Xi prog 122 [1, 1, 0, 1, 0, 1])⟩)])⟩
 | .h2 v5 v6 v19 aB bL aS => ⟨⟨63, 0, true⟩, none, (Za prog 121 [1, 0, 0, 1, 0, 0, 1, 0, 1, 0, 0] 0), none, [], ⟨Yk [(0, (.yld 0)), (1, (.ptr 4 0)), (2, (.ptr 6 0)), (3, (.ptr 7 0)), (5, (ii v5)), (6, (.sla 8 6 0 v6.length (.un 6))), (17, (.dat l0.length (Zz l0))), (18, (ii (l0.length : Int))), (19, (ii v19))], z4j [(1, ⟨[(ii aV), (ii aW)], 110, none⟩), (2, ⟨[(ii bO), (ii bP)], 110, none⟩), (3, ⟨[(.sla 9 2 0 aB.length (.un 2))], 158, none⟩), (4, ⟨[(.sla 5 1 0 bL (.un 1))], 47, none⟩), (5, ⟨rows aS.length (Zz aS), 3, some ⟨1, aS.length, (Zz aS)⟩⟩), (6, ⟨[(.dat l0.length (Zz l0))], 22, none⟩), (7, ⟨[(ii 1)], 3, none⟩), (8, ⟨rows v6.length (Zz v6), 68, some ⟨6, v6.length, (Zz v6)⟩⟩), (9, ⟨rows aB.length (Zz aB), 110, some ⟨2, aB.length, (Zz aB)⟩⟩)], 10, [], true⟩, [⟨⟨51, 0, true⟩, none, (.inRangeFunc 0 :: (Za prog 122 [1, 1, 0, 1, 0] 1)), none, (Zy prog 102), Yk [(8, .nils), (9, (.ptr 3 0))]⟩], (z4l [(0, ⟨.ready, none, 51, Yk [(5, (.ptr 1 0)), (6, (.ptr 2 0)), (9, (.ptr 3 0))], [16, 17], (Xi prog 122 [1, 1, 0, 1, 0, 0]), (Xi prog 122 [1, 1, 0, 1, 0, 1])⟩)])⟩
def colN0 : List (Option (List Nat)) := [some [2, 3, 4, 7, 12, 13, 14], some [5, 6, 8, 9, 13, 14]]
def colM0 : List (Option (List Nat)) := []
def w2d : List (Option (List Nat)) := [some [0, 1, 2, 3, 5], some [8, 9]]
def w2e : List (Option (List Nat)) := [some [5, 6, 9], none, none, none, none, none, none, none, none]
def w8f : List (Option (List Nat)) := [some [0, 1, 2, 3, 5, 6, 17, 18, 19], some [8, 9]]
def w8g : List (Option (List Nat)) := [some [5, 6, 9], none, none, none, none, none, none, none, none, none]
def Vy (l0 : List R6) (aV : Int) (aW : Int) (bO : Int) (bP : Int) (x3 : Int) : colS → Xn colS
 | .h0 v14 aA => (bif (decide (v14 < (l0.length : Int))) then (bif ((decide (0 ≤ v14 ∧ v14 < (l0.length : Int))) && true) then (bif (Xw (rd l0 v14.toNat).b x3) then (bif (Xw (IntKind.wrap .i64 (0 - (rd l0 v14.toNat).b)) x3) then (bif (Xw (rd l0 v14.toNat).e x3) then (bif (Xw (IntKind.wrap .i64 (0 - (rd l0 v14.toNat).e)) x3) then (bif (Nat.beq 1 1 && ((decide (0 + aA.length = aA.length)) && decide ((aA.length + 4 + 1) * (8 + 1) ≤ Jp))) then (.to (.h0 (IntKind.wrap .i64 (v14 + 1)) (aA ++ [(Yb (rd l0 v14.toNat).b x3), (IntKind.wrap .i64 (0 - (Yb (IntKind.wrap .i64 (0 - (rd l0 v14.toNat).b)) x3))), (Yb (rd l0 v14.toNat).e x3), (IntKind.wrap .i64 (0 - (Yb (IntKind.wrap .i64 (0 - (rd l0 v14.toNat).e)) x3)))]))) else .stuck) else .stuck) else .stuck) else .stuck) else .stuck) else .stuck) else (bif (decide (aA.length < 4611686018427387904)) then (bif (decide (aA.length = aA.length)) then (.to (.h1 1 ([] : List R2) (w8i (Zg aA.length (cOf (Zz (Ye (Zg aA.length (cOf (Zz aA)))))))) (Xy (Zg aA.length (cOf (Zz (Ye (Zg aA.length (cOf (Zz aA)))))))))) else .stuck) else .stuck))
 | .h1 v5 aB bL aS => (bif (decide (v5 < ((bL : Nat) : Int))) then (.to (.h2 v5 ([] : List R6) 0 aB bL aS)) else (.ret [(.dat aB.length (Zz aB))]))
 | .h2 v5 v6 v19 aB bL aS => (bif (decide (v19 < (l0.length : Int))) then (bif ((decide (0 ≤ v19 ∧ v19 < (l0.length : Int))) && true) then (bif ((decide (0 ≤ v5 ∧ v5 < ((bL : Nat) : Int))) && true) then (bif (decide ((0 + v5.toNat) < aS.length)) then (bif (decide ((rd l0 v19.toNat).b < (rd aS (0 + v5.toNat)))) then (bif ((decide (0 ≤ (IntKind.wrap .i64 (v5 - 1)) ∧ (IntKind.wrap .i64 (v5 - 1)) < ((bL : Nat) : Int))) && true) then (bif (decide ((0 + (Int.toNat (IntKind.wrap .i64 (v5 - 1)))) < aS.length)) then (bif (decide ((rd aS (0 + (Int.toNat (IntKind.wrap .i64 (v5 - 1))))) < (rd l0 v19.toNat).e)) then (bif (Nat.beq 6 6 && ((decide (0 + v6.length = v6.length)) && decide ((v6.length + 1 + 1) * (48 + 1) ≤ Jp))) then (.to (.h2 v5 (v6 ++ [(R6.mk (rd l0 v19.toNat).a (rd l0 v19.toNat).b (rd l0 v19.toNat).c (rd l0 v19.toNat).d (rd l0 v19.toNat).e (rd l0 v19.toNat).f)]) (IntKind.wrap .i64 (v19 + 1)) aB bL aS)) else .stuck) else (.to (.h2 v5 v6 (IntKind.wrap .i64 (v19 + 1)) aB bL aS))) else .stuck) else .stuck) else (.to (.h2 v5 v6 (IntKind.wrap .i64 (v19 + 1)) aB bL aS))) else .stuck) else .stuck) else .stuck) else (bif ((decide (0 ≤ (IntKind.wrap .i64 (v5 - 1)) ∧ (IntKind.wrap .i64 (v5 - 1)) < ((bL : Nat) : Int))) && true) then (bif (decide ((0 + (Int.toNat (IntKind.wrap .i64 (v5 - 1)))) < aS.length)) then (bif ((decide (0 ≤ v5 ∧ v5 < ((bL : Nat) : Int))) && true) then (bif (decide ((0 + v5.toNat) < aS.length)) then (bif (Nat.beq 6 6 && (decide (0 + v6.length ≤ v6.length) && Qu (Zz v6))) then (bif (z4p (lst R6 (v6.length) (fun k => (Zz v6) (0 + k))) aV aW (rd aS (0 + (Int.toNat (IntKind.wrap .i64 (v5 - 1))))) (rd aS (0 + v5.toNat)) bO bP) then (bif (!(w3a (lst R6 (v6.length) (fun k => (Zz v6) (0 + k))) aV aW (rd aS (0 + (Int.toNat (IntKind.wrap .i64 (v5 - 1))))) (rd aS (0 + v5.toNat)) bO bP)) then (.to (.h1 (IntKind.wrap .i64 (v5 + 1)) aB bL aS)) else (bif (decide ((aB.length : Int) > 0)) then (bif ((decide (0 ≤ (IntKind.wrap .i64 ((aB.length : Int) - 1)) ∧ (IntKind.wrap .i64 ((aB.length : Int) - 1)) < (aB.length : Int))) && true) then (bif (decide ((0 + (Int.toNat (IntKind.wrap .i64 ((aB.length : Int) - 1)))) < aB.length)) then (bif ((rd aB (0 + (Int.toNat (IntKind.wrap .i64 ((aB.length : Int) - 1))))).b == (rd aS (0 + (Int.toNat (IntKind.wrap .i64 (v5 - 1)))))) then (.to (.h1 (IntKind.wrap .i64 (v5 + 1)) (aB.set (0 + (Int.toNat (IntKind.wrap .i64 ((aB.length : Int) - 1)))) (R2.mk (rd aB (0 + (Int.toNat (IntKind.wrap .i64 ((aB.length : Int) - 1))))).a (rd aS (0 + v5.toNat)))) bL aS)) else (bif (Nat.beq 2 2 && ((decide (0 + aB.length = aB.length)) && decide ((aB.length + 1 + 1) * (16 + 1) ≤ Jp))) then (.to (.h1 (IntKind.wrap .i64 (v5 + 1)) (aB ++ [(R2.mk (rd aS (0 + (Int.toNat (IntKind.wrap .i64 (v5 - 1))))) (rd aS (0 + v5.toNat)))]) bL aS)) else .stuck)) else .stuck) else .stuck) else (bif (Nat.beq 2 2 && ((decide (0 + aB.length = aB.length)) && decide ((aB.length + 1 + 1) * (16 + 1) ≤ Jp))) then (.to (.h1 (IntKind.wrap .i64 (v5 + 1)) (aB ++ [(R2.mk (rd aS (0 + (Int.toNat (IntKind.wrap .i64 (v5 - 1))))) (rd aS (0 + v5.toNat)))]) bL aS)) else .stuck))) else .stuck) else .stuck) else .stuck) else .stuck) else .stuck) else .stuck))
def y4n (l0 : List R6) (aV : Int) (aW : Int) (bO : Int) (bP : Int) (x3 : Int) : Xn colS := (.to (.h0 0 ([] : List Int)))
theorem x6v (l0 : List R6) (aV : Int) (aW : Int) (bO : Int) (bP : Int) (x3 : Int) : ∀ s, Ww prog (Zy prog 122) (colC l0 aV aW bO bP x3) (colC l0 aV aW bO bP x3 s) (Vy l0 aV aW bO bP x3 s)
 | .h0 v14 aA => (lb (fun k0 => (lo fun o0 => (lo fun o1 => (lo fun o2 => (lo fun o3 => (lo fun o4 => (lo fun o5 => (sl Kc 45 [] ⟨[0, 1, 2, 3, 4, 5, 12], [], colN0, colM0⟩ ⟨[], [.keep, .keep, .cells [.len (aA ++ [(Yb (rd l0 (tn v14)).b x3), (wr (0 - (Yb (wr (0 - (rd l0 (tn v14)).b)) x3))), (Yb (rd l0 (tn v14)).e x3), (wr (0 - (Yb (wr (0 - (rd l0 (tn v14)).e)) x3)))]).length], .keep, .keep, .keep, .rowed 1 (aA ++ [(Yb (rd l0 (tn v14)).b x3), (wr (0 - (Yb (wr (0 - (rd l0 (tn v14)).b)) x3))), (Yb (rd l0 (tn v14)).e x3), (wr (0 - (Yb (wr (0 - (rd l0 (tn v14)).e)) x3)))]).length (Zz (aA ++ [(Yb (rd l0 (tn v14)).b x3), (wr (0 - (Yb (wr (0 - (rd l0 (tn v14)).b)) x3))), (Yb (rd l0 (tn v14)).e x3), (wr (0 - (Yb (wr (0 - (rd l0 (tn v14)).e)) x3)))]))], []⟩ [true, true, false, true, false] (pp (xL (aA.length + 4) (aA ++ [(Yb (rd l0 (tn v14)).b x3), (wr (0 - (Yb (wr (0 - (rd l0 (tn v14)).b)) x3))), (Yb (rd l0 (tn v14)).e x3), (wr (0 - (Yb (wr (0 - (rd l0 (tn v14)).e)) x3)))]).length) (pp (xL (aA.length + 4) (aA ++ [(Yb (rd l0 (tn v14)).b x3), (wr (0 - (Yb (wr (0 - (rd l0 (tn v14)).b)) x3))), (Yb (rd l0 (tn v14)).e x3), (wr (0 - (Yb (wr (0 - (rd l0 (tn v14)).e)) x3)))]).length) (pp (xS (aA.length + 4) (Zd (Zz aA) 0 aA.length 1 [(ii (Yb (rd l0 (tn v14)).b x3)), (ii (wr (0 - (Yb (wr (0 - (rd l0 (tn v14)).b)) x3)))), (ii (Yb (rd l0 (tn v14)).e x3)), (ii (wr (0 - (Yb (wr (0 - (rd l0 (tn v14)).e)) x3))))]) (Zz (aA ++ [(Yb (rd l0 (tn v14)).b x3), (wr (0 - (Yb (wr (0 - (rd l0 (tn v14)).b)) x3))), (Yb (rd l0 (tn v14)).e x3), (wr (0 - (Yb (wr (0 - (rd l0 (tn v14)).e)) x3)))]))) (pp (pp (xF (Zd (Zz aA) 0 aA.length 1 [(ii (Yb (rd l0 (tn v14)).b x3)), (ii (wr (0 - (Yb (wr (0 - (rd l0 (tn v14)).b)) x3)))), (ii (Yb (rd l0 (tn v14)).e x3)), (ii (wr (0 - (Yb (wr (0 - (rd l0 (tn v14)).e)) x3))))])) nn) (ww o5 (ww o4 (ww o3 (ww o2 (ww o1 (ww o0 (tt k0 nn))))))))))))))))))) (fun k0 => (lo fun o0 => (lo fun o1 => (sl Kc 33 [(110, 2, Zz ([] : List R2))] ⟨[7, 3, 4, 5, 2, 6, 0, 1, 8], [], w2d, w2e⟩ ⟨[], (kpB 3 [.cells [.grow 8 2], .keep, .rowed 1 (Xy (Zg aA.length (cOf (Zz (Ye (Zg aA.length (cOf (Zz aA)))))))).length (Zz (Xy (Zg aA.length (cOf (Zz (Ye (Zg aA.length (cOf (Zz aA))))))))), .keep, .keep, .keep]), []⟩ [false] (pp (xL aA.length (Xy (Zg aA.length (cOf (Zz (Ye (Zg aA.length (cOf (Zz aA)))))))).length (by first | exact Qc _ _ | exact Uy rfl)) (pp (xS aA.length (Zz (Xy (Zg aA.length (cOf (Zz (Ye (Zg aA.length (cOf (Zz aA))))))))) (Zz (Xy (Zg aA.length (cOf (Zz (Ye (Zg aA.length (cOf (Zz aA)))))))))) (pp (fl (Xy (Zg aA.length (cOf (Zz (Ye (Zg aA.length (cOf (Zz aA)))))))) (fl ([] : List R2) nn)) (pp (pp (xG (Nat.beq 1 1)) (pp (xG (Nat.beq 1 1)) (pp (xG (Nat.beq 0 0)) (pp (xG (decide (aA.length = aA.length))) (pp (xG (isI (Zz (Ye (Zg aA.length (cOf (Zz aA))))))) (xG (decide (aA.length < 4611686018427387904)))))))) (pp (pp (xG (Nat.beq 1 1)) (pp (xG (Nat.beq 1 1)) (pp (xG (Nat.beq 0 0)) (pp (xG (decide (aA.length = aA.length))) (pp (xG (isI (Zz aA))) (xG (decide (aA.length < 4611686018427387904)))))))) (tt k0 nn)))))))))))
 | .h1 v5 aB bL aS => (lb (fun k0 => (sl Kc 25 [(68, 6, Zz ([] : List R6))] ⟨[0, 1, 2, 3, 4, 5, 6, 7, 9, 8], [], w8f, w8g⟩ ⟨[(6, .grow 8 6)], [], []⟩ [true] (pp (fl aS (fl ([] : List R6) (fl aB nn))) (tt k0 nn)))) (fun k0 => (lr 51 3 [1, 1, 1, 1, 1, 1, 0] 1 102 [(8, (.dat aB.length (Zz aB)))] (sl Kc 18 [] ⟨[], [8], [some [8]], []⟩ ⟨[(8, .frz aB.length aB.length (Zz aB) (Zz aB))], [], []⟩ [false] (pp (xZ (z4q 2 2 0 aB.length aB.length (Zz aB)) aB.length (Zz aB)) (pp (xL aB.length aB.length) (pp (xS aB.length (Zz aB) (Zz aB)) (pp (fl aB nn) (tt k0 nn)))))))))
 | .h2 v5 v6 v19 aB bL aS => (lb (fun k0 => (lo fun aH => (lo fun bK => (lo fun cJ => (lb (fun k1 => (lo fun cX => (lo fun dO => (lb (fun k2 => (lo fun o0 => (sl Kc 70 [] ⟨[0, 1, 2, 3, 4, 5, 6, 7, 15, 9], [], w8f, w8g⟩ ⟨[(6, .len (v6 ++ [(R6.mk (rd l0 (tn v19)).a (rd l0 (tn v19)).b (rd l0 (tn v19)).c (rd l0 (tn v19)).d (rd l0 (tn v19)).e (rd l0 (tn v19)).f)]).length)], (kpB 8 [.rowed 6 (v6 ++ [(R6.mk (rd l0 (tn v19)).a (rd l0 (tn v19)).b (rd l0 (tn v19)).c (rd l0 (tn v19)).d (rd l0 (tn v19)).e (rd l0 (tn v19)).f)]).length (Zz (v6 ++ [(R6.mk (rd l0 (tn v19)).a (rd l0 (tn v19)).b (rd l0 (tn v19)).c (rd l0 (tn v19)).d (rd l0 (tn v19)).e (rd l0 (tn v19)).f)])), .keep]), []⟩ [true, true, false, true, false, true, true, true, true, true, true, true, true] (pp (xL (v6.length + 1) (v6 ++ [(R6.mk (rd l0 (tn v19)).a (rd l0 (tn v19)).b (rd l0 (tn v19)).c (rd l0 (tn v19)).d (rd l0 (tn v19)).e (rd l0 (tn v19)).f)]).length) (pp (xL (v6.length + 1) (v6 ++ [(R6.mk (rd l0 (tn v19)).a (rd l0 (tn v19)).b (rd l0 (tn v19)).c (rd l0 (tn v19)).d (rd l0 (tn v19)).e (rd l0 (tn v19)).f)]).length) (pp (xS (v6.length + 1) (Zd (Zz v6) 0 v6.length 6 [(ii (rd l0 (tn v19)).a), (ii (rd l0 (tn v19)).b), (ii (rd l0 (tn v19)).c), (ii (rd l0 (tn v19)).d), (ii (rd l0 (tn v19)).e), (ii (rd l0 (tn v19)).f)]) (Zz (v6 ++ [(R6.mk (rd l0 (tn v19)).a (rd l0 (tn v19)).b (rd l0 (tn v19)).c (rd l0 (tn v19)).d (rd l0 (tn v19)).e (rd l0 (tn v19)).f)]))) (pp (fl aS (pp (xF (Zd (Zz v6) 0 v6.length 6 [(ii (rd l0 (tn v19)).a), (ii (rd l0 (tn v19)).b), (ii (rd l0 (tn v19)).c), (ii (rd l0 (tn v19)).d), (ii (rd l0 (tn v19)).e), (ii (rd l0 (tn v19)).f)])) (fl aB nn))) (ww o0 (tt k2 (ww dO (ww cX (tt k1 (ww cJ (ww bK (ww aH (tt k0 nn)))))))))))))))) (fun k2 => (sl Kc 64 [] ⟨(List.range 10), [], w8f, w8g⟩ ⟨[], [], []⟩ [true, true, false, true, false, true, true, true, true, true, true, true, false] (pp (fl aS (fl v6 (fl aB nn))) (tt k2 (ww dO (ww cX (tt k1 (ww cJ (ww bK (ww aH (tt k0 nn))))))))))))))) (fun k1 => (sl Kc 64 [] ⟨(List.range 10), [], w8f, w8g⟩ ⟨[], [], []⟩ [true, true, false, true, false, false, false, false, false, false, false, false, false] (pp (fl aS (fl v6 (fl aB nn))) (tt k1 (ww cJ (ww bK (ww aH (tt k0 nn))))))))))))) (fun k0 => (lo fun aH => (lo fun bK => (lo fun cJ => (lo fun dG => (lo fun dP => (lo fun dQ => (lb (fun k1 => (sl Kc 44 [] ⟨[0, 1, 2, 3, 4, 5, 6, 7, 9], [], w2d, w2e⟩ ⟨[], [], []⟩ [false, true, false] (pp (fl aS (fl aB nn)) (tt k1 (pp (pp (pp (xw dP) (pp nn (pp nn (pp nn nn)))) (pp (xI R6 (v6.length) (fun k => (Zz v6) (0 + k))) (xw dQ))) (ww dG (ww cJ (ww bK (ww aH (tt k0 nn)))))))))) (fun k1 => (lb (fun k2 => (lo fun cP => (lo fun dN => (lb (fun k3 => (sl Kc 64 [] ⟨[0, 1, 2, 3, 4, 5, 6, 7, 9], [], w2d, w2e⟩ ⟨[], (kpB 3 [.cells [.len (aB.set (0 + (tn (wr ((aB.length : Int) - 1)))) (R2.mk (rd aB (0 + (tn (wr ((aB.length : Int) - 1))))).a (rd aS (0 + (tn v5))))).length], .keep, .keep, .keep, .keep, .rowed 2 (aB.set (0 + (tn (wr ((aB.length : Int) - 1)))) (R2.mk (rd aB (0 + (tn (wr ((aB.length : Int) - 1))))).a (rd aS (0 + (tn v5))))).length (Zz (aB.set (0 + (tn (wr ((aB.length : Int) - 1)))) (R2.mk (rd aB (0 + (tn (wr ((aB.length : Int) - 1))))).a (rd aS (0 + (tn v5))))))]), []⟩ [false, false, true, true, true, true, true, true, true, true, true, true, false] (pp (xL aB.length (aB.set (0 + (tn (wr ((aB.length : Int) - 1)))) (R2.mk (rd aB (0 + (tn (wr ((aB.length : Int) - 1))))).a (rd aS (0 + (tn v5))))).length) (pp (xL aB.length (aB.set (0 + (tn (wr ((aB.length : Int) - 1)))) (R2.mk (rd aB (0 + (tn (wr ((aB.length : Int) - 1))))).a (rd aS (0 + (tn v5))))).length) (pp (xS aB.length (Xc (Zz aB) (0 + (tn (wr ((aB.length : Int) - 1)))) 1 [(ii (rd aS (0 + (tn v5))))]) (Zz (aB.set (0 + (tn (wr ((aB.length : Int) - 1)))) (R2.mk (rd aB (0 + (tn (wr ((aB.length : Int) - 1))))).a (rd aS (0 + (tn v5))))))) (pp (fl aS (pp (xF (Xc (Zz aB) (0 + (tn (wr ((aB.length : Int) - 1)))) 1 [(ii (rd aS (0 + (tn v5))))])) nn)) (ww dN (ww cP (tt k3 (ww dN (ww cP (tt k2 (tt k1 (pp (pp (pp (xw dP) (pp nn (pp nn (pp nn nn)))) (pp (xI R6 (v6.length) (fun k => (Zz v6) (0 + k))) (xw dQ))) (ww dG (ww cJ (ww bK (ww aH (tt k0 nn))))))))))))))))))) (fun k3 => (lo fun o0 => (sl Kc 61 [] ⟨[0, 1, 2, 3, 4, 5, 6, 7, 12], [], w2d, w2e⟩ ⟨[], (kpB 3 [.cells [.len (aB ++ [(R2.mk (rd aS (0 + (tn (wr (v5 - 1))))) (rd aS (0 + (tn v5))))]).length], .keep, .keep, .keep, .keep, .rowed 2 (aB ++ [(R2.mk (rd aS (0 + (tn (wr (v5 - 1))))) (rd aS (0 + (tn v5))))]).length (Zz (aB ++ [(R2.mk (rd aS (0 + (tn (wr (v5 - 1))))) (rd aS (0 + (tn v5))))]))]), []⟩ [false, false, true, true, true, true, true, true, true, true, true, false, false] (pp (xL (aB.length + 1) (aB ++ [(R2.mk (rd aS (0 + (tn (wr (v5 - 1))))) (rd aS (0 + (tn v5))))]).length) (pp (xL (aB.length + 1) (aB ++ [(R2.mk (rd aS (0 + (tn (wr (v5 - 1))))) (rd aS (0 + (tn v5))))]).length) (pp (xS (aB.length + 1) (Zd (Zz aB) 0 aB.length 2 [(ii (rd aS (0 + (tn (wr (v5 - 1)))))), (ii (rd aS (0 + (tn v5))))]) (Zz (aB ++ [(R2.mk (rd aS (0 + (tn (wr (v5 - 1))))) (rd aS (0 + (tn v5))))]))) (pp (fl aS (pp (xF (Zd (Zz aB) 0 aB.length 2 [(ii (rd aS (0 + (tn (wr (v5 - 1)))))), (ii (rd aS (0 + (tn v5))))])) nn)) (ww o0 (tt k3 (ww dN (ww cP (tt k2 (tt k1 (pp (pp (pp (xw dP) (pp nn (pp nn (pp nn nn)))) (pp (xI R6 (v6.length) (fun k => (Zz v6) (0 + k))) (xw dQ))) (ww dG (ww cJ (ww bK (ww aH (tt k0 nn))))))))))))))))))))))) (fun k2 => (lo fun o0 => (sl Kc 61 [] ⟨[0, 1, 2, 3, 4, 5, 6, 7, 12], [], w2d, w2e⟩ ⟨[], (kpB 3 [.cells [.len (aB ++ [(R2.mk (rd aS (0 + (tn (wr (v5 - 1))))) (rd aS (0 + (tn v5))))]).length], .keep, .keep, .keep, .keep, .rowed 2 (aB ++ [(R2.mk (rd aS (0 + (tn (wr (v5 - 1))))) (rd aS (0 + (tn v5))))]).length (Zz (aB ++ [(R2.mk (rd aS (0 + (tn (wr (v5 - 1))))) (rd aS (0 + (tn v5))))]))]), []⟩ [false, false, false, false, false, false, false, false, false, false, false, false, false] (pp (xL (aB.length + 1) (aB ++ [(R2.mk (rd aS (0 + (tn (wr (v5 - 1))))) (rd aS (0 + (tn v5))))]).length) (pp (xL (aB.length + 1) (aB ++ [(R2.mk (rd aS (0 + (tn (wr (v5 - 1))))) (rd aS (0 + (tn v5))))]).length) (pp (xS (aB.length + 1) (Zd (Zz aB) 0 aB.length 2 [(ii (rd aS (0 + (tn (wr (v5 - 1)))))), (ii (rd aS (0 + (tn v5))))]) (Zz (aB ++ [(R2.mk (rd aS (0 + (tn (wr (v5 - 1))))) (rd aS (0 + (tn v5))))]))) (pp (fl aS (pp (xF (Zd (Zz aB) 0 aB.length 2 [(ii (rd aS (0 + (tn (wr (v5 - 1)))))), (ii (rd aS (0 + (tn v5))))])) nn)) (ww o0 (tt k2 (tt k1 (pp (pp (pp (xw dP) (pp nn (pp nn (pp nn nn)))) (pp (xI R6 (v6.length) (fun k => (Zz v6) (0 + k))) (xw dQ))) (ww dG (ww cJ (ww bK (ww aH (tt k0 nn)))))))))))))))))))))))))))
theorem x1m (l0 : List R6) (aV : Int) (aW : Int) (bO : Int) (bP : Int) (x3 : Int) : Ww prog (Zy prog 122) (colC l0 aV aW bO bP x3) (Zn prog 122 [(.dat l0.length (Zz l0)), (.agg [(.int .i64 aV), (.int .i64 aW)]), (.agg [(.int .i64 bO), (.int .i64 bP)]), (.int .i64 x3)] true []) (y4n l0 aV aW bO bP x3) := (sl Kc 35 [(3, 1, Zz ([] : List Int))] ⟨[3, 4, 5, 0, 1, 2, 6], [], colN0, colM0⟩ ⟨[], [.keep, .keep, .cells [.grow 6 1], .keep, .keep, .keep, .keep], []⟩ [] (pp (fl ([] : List Int) nn) nn))
theorem w8e (l0 : List R6) (aV : Int) (aW : Int) (bO : Int) (bP : Int) (x3 : Int) (n : Nat) (vs : List AVal) (h : Yv (Vy l0 aV aW bO bP x3) n (y4n l0 aV aW bO bP x3) = .ret vs) : Kz prog (Zy prog 122) (Zn prog 122 [(.dat l0.length (Zz l0)), (.agg [(.int .i64 aV), (.int .i64 aW)]), (.agg [(.int .i64 bO), (.int .i64 bP)]), (.int .i64 x3)] true []) vs := by
 have := Zr (x6v l0 aV aW bO bP x3) n _ (x1m l0 aV aW bO bP x3)
 rwa [h] at this
end Go.Am
namespace Go.Am
open Go.Proofs.Tryz
open Go.Proofs Go.Sort Go.Shelf Go.RowKit Go.Lib
def upV (x n : Int) : Int := IntKind.wrap .i64 (0 - Yb (IntKind.wrap .i64 (0 - x)) n)
theorem w7j {x n : Int} (h : n ≠ 0) : Xw x n = true := by unfold Xw; rw [decide_eq_false h]; rfl
def oB (n : Int) (r : R6) : R6 := ⟨Yb r.a n, Yb r.b n, Yb r.c n, upV r.d n, upV r.e n, upV r.f n⟩
def oOk (n : Int) (r : R6) : Bool := !decide (Uw (Uw (Yb r.a n) (Yb r.b n)) (Yb r.c n) < (-1000000)) && !decide (Wg (Wg (upV r.d n) (upV r.e n)) (upV r.f n) > 1000000)
def outR (n : Int) (L : List R6) (ok : Bool) : List AVal := bif ok then [.dat (z0z (L.map (oB n))).length (Zz (z0z (L.map (oB n)))), .int .i64 (z0y (L.map (oB n)))] else [.nils, .int .i64 16]
theorem x9x {L : List R6} {n : Int} (hl : L.length ≤ 400) (hn : n ≠ 0) : ∀ (k i : Nat) (acc : List R6), i + k = L.length → acc = (L.take i).map (oB n) → ∃ N, Yv (z0h L n) N (.to (.h0 acc (i : Int))) = .ret (outR n L ((L.drop i).all (oOk n)))
 | 0, i, acc, h, ha => by
  refine ⟨1, ?_⟩
  rw [List.take_of_length_le (by omega)] at ha
  subst ha
  rw [Zv, List.drop_eq_nil_of_le (by omega)]
  simp (disch := omega) only [z0h, Zs, Zb, show ∀ l, z3p l = true from fun _ => rfl, cond_true, cond_false, Zm, outR, List.all_nil]
 | k + 1, i, acc, h, ha => by
  have hi : i < L.length := by omega
  have hla : acc.length = i := by rw [ha, List.length_map, List.length_take]; omega
  obtain ⟨N, hN⟩ := x9x hl hn k (i + 1) (acc ++ [oB n (rd L i)]) (by omega) (by rw [ha, Xe hi, ← List.map_singleton, ← List.map_append, List.take_append_getElem])
  have hw : IntKind.wrap .i64 ((i : Int) + 1) = ((i + 1 : Nat) : Int) := Zj (by omega)
  have hs : z0h L n (.h0 acc (i : Int)) = bif oOk n (rd L i) then .to (.h0 (acc ++ [oB n (rd L i)]) ((i + 1 : Nat) : Int)) else .ret [.nils, .int .i64 16] := by
   simp (disch := omega) only [z0h, Zo, Zt, hw, Zq, w7j hn, Yu, Zf, Yp, Nat.zero_add, decide_true, Bool.and_true, Bool.true_and, cond_true]
   unfold oOk upV oB
   cases decide (Uw (Uw (Yb (rd L i).a n) (Yb (rd L i).b n)) (Yb (rd L i).c n) < (-1000000)) <;> cases decide (Wg (Wg (IntKind.wrap .i64 (0 - Yb (IntKind.wrap .i64 (0 - (rd L i).d)) n)) (IntKind.wrap .i64 (0 - Yb (IntKind.wrap .i64 (0 - (rd L i).e)) n))) (IntKind.wrap .i64 (0 - Yb (IntKind.wrap .i64 (0 - (rd L i).f)) n)) > 1000000) <;> rfl
  refine ⟨N + 1, ?_⟩
  rw [Zv, hs, Yc hi, List.all_cons]
  rcases Ya (oOk n (rd L i)) with q | q
  ·rw [q, cond_true, Bool.true_and]; exact hN
  ·rw [q, cond_false, Bool.false_and]; exact Zm _ _ _
def outP (L : List R6) (n : Int) : Bool := (Yg L == 0) && (!decide (n < 1) && (!decide (n > 1000) && L.all (oOk n)))
def Xx (L : List R6) (n : Int) : List R6 := bif outP L n then z0z (L.map (oB n)) else []
def z4g (L : List R6) (n : Int) : Int := bif Yg L != 0 then Yg L else bif decide (n < 1) || decide (n > 1000) then 2 else bif L.all (oOk n) then z0y (L.map (oB n)) else 16
def outW (L : List R6) (n : Int) : List AVal := bif outP L n then [.dat (Xx L n).length (Zz (Xx L n)), .int .i64 (z4g L n)] else [.nils, .int .i64 (z4g L n)]
theorem w5a (L : List R6) (n : Int) : ∃ N, Yv (z0h L n) N (z4f L n) = .ret (outW L n) := by
 have hk : (Yg L != 0) = !(Yg L == 0) := rfl
 unfold z4f outW Xx z4g outP
 simp only [Zb, z7y, cond_true, hk]
 rcases Ya (Yg L == 0) with a | a
 ·rcases Ya (decide (n < 1)) with b | b
  ·refine ⟨0, ?_⟩
   rw [a, b]; rfl
  ·rcases Ya (decide (n > 1000)) with c | c
   ·refine ⟨0, ?_⟩
    rw [a, b, c]; rfl
   ·have hb := of_decide_eq_false b
    obtain ⟨N, hN⟩ := x9x (L := L) (n := n) (z0c (eq_of_beq a)).1 (by omega) L.length 0 [] (Nat.zero_add _) rfl
    refine ⟨N, ?_⟩
    rw [a, b, c]
    simp only [Bool.not_true, Bool.not_false, Bool.true_and, Bool.or_false, cond_true, cond_false]
    rw [Qn] at hN
    rw [hN, List.drop_zero]
    unfold outR
    cases L.all (oOk n) <;> rfl
 ·refine ⟨0, ?_⟩
  rw [a]; rfl
def z9h (L : List R6) (n : Int) : Bool := true
def fOut : List AVal → Option (AVal × Bool)
 | [a0, .int .i64 x1] => match asL R6 a0 with
  | some (L0, g0, n0) => some (.tup [.dat (Xx L0 x1).length (Zz (Xx L0 x1)), .int .i64 (z4g L0 x1)], isT R6 n0 g0 && z9h L0 x1)
  | _ => none
 | _ => none
theorem v6e {S : Specs} (hS : Zu prog S) : Zu prog (S.with w0o fOut) := by
 refine v5w hS (by kernel_rfl) fun args v h => ?_
 unfold fOut at h
 split at h
 ·rename_i a0 x1
  split at h
  ·rename_i L0 g0 n0 e0
   simp only [Option.some.injEq, Prod.mk.injEq, Bool.and_eq_true] at h
   obtain ⟨rfl, ho0, hw⟩ := h
   obtain ⟨N, hN⟩ := w5a L0 x1
   refine ⟨_, outW L0 x1, (.cons (asL_le e0 ho0) (.cons (.refl _) .nil)), ?_, x9y L0 x1 N _ hN, 3, ?_⟩
   ·unfold outW
    rcases Ya (outP L0 x1) with q | q
    ·rw [q]; exact fun ρ u hu => hu
    ·rw [q]
     unfold Xx
     rw [q]
     exact fun ρ u hu => z6v (.cons (z1k R6) (RLe.refl _)) ρ u hu
   ·unfold outW
    cases outP L0 x1 <;> rfl
  ·cases h
 ·cases h
def crS (lo hi : R6 → Int) (L : List R6) (x x' : Int) : List R6 := L.filter fun r => decide (lo r < x') && decide (x < hi r)
theorem z6i (lo hi : R6 → Int) (L M : List R6) (x x' : Int) : crS lo hi (L ++ M) x x' = crS lo hi L x x' ++ crS lo hi M x x' := by simp [crS]
theorem Kv (lo hi : R6 → Int) (L : List R6) (x x' : Int) : (crS lo hi L x x').length ≤ L.length := List.length_filter_le _ L
theorem v7m {lo hi : R6 → Int} {r : R6} {x x' : Int} (h1 : lo r < x') (h2 : x < hi r) : crS lo hi [r] x x' = [r] := by simp [crS, h1, h2]
theorem w2c {lo hi : R6 → Int} {r : R6} {x x' : Int} (h1 : ¬ lo r < x') : crS lo hi [r] x x' = [] := by simp [crS, h1]
theorem w2b {lo hi : R6 → Int} {r : R6} {x x' : Int} (h2 : ¬ x < hi r) : crS lo hi [r] x x' = [] := by simp [crS, h2]
def rnE (lo hi : R6 → Int) (n : Int) (L : List R6) : List Int := L.flatMap fun r => [Yb (lo r) n, upV (lo r) n, Yb (hi r) n, upV (hi r) n]
theorem z5s (lo hi : R6 → Int) (n : Int) (L M : List R6) : rnE lo hi n (L ++ M) = rnE lo hi n L ++ rnE lo hi n M := by simp [rnE]
theorem Wz (lo hi : R6 → Int) (n : Int) : ∀ (L : List R6), (rnE lo hi n L).length = 4 * L.length
 | [] => rfl
 | r :: L => by
  show (_ :: _ :: _ :: _ :: rnE lo hi n L).length = _
  simp only [List.length_cons, Wz lo hi n L]; omega
def rnC (lo hi : R6 → Int) (n : Int) (L : List R6) : List Int := Jh (rnE lo hi n L)
theorem Vu (lo hi : R6 → Int) (n : Int) (L : List R6) : (rnC lo hi n L).length ≤ 4 * L.length := by
 have := z5d (rnE lo hi n L)
 rw [Wz] at this
 exact this
theorem v2c {L : List R6} {a b e f n : Int} (hl : L.length ≤ 400) {i : Nat} (hi : i + 1 < (rnC R6.b R6.e n L).length) (out : List R2) : ∀ (k j : Nat) (acc : List R6), j + k = L.length → acc.length ≤ j →
  ∃ N, ∀ M, Yv (Vy L a b e f n) (M + N) (.to (.h2 ((i + 1 : Nat) : Int) acc (j : Int) out (rnC R6.b R6.e n L).length (Xy (Ye (rnE R6.b R6.e n L))))) = Yv (Vy L a b e f n) M (.to (.h2 ((i + 1 : Nat) : Int) (acc ++ crS R6.b R6.e (L.drop j) (rd (rnC R6.b R6.e n L) i) (rd (rnC R6.b R6.e n L) (i + 1))) (L.length : Int) out (rnC R6.b R6.e n L).length (Xy (Ye (rnE R6.b R6.e n L)))))
 | 0, j, acc, h, ha => by
  refine ⟨0, fun M => ?_⟩
  rw [List.drop_eq_nil_of_le (by omega), show crS R6.b R6.e ([] : List R6) (rd (rnC R6.b R6.e n L) i) (rd (rnC R6.b R6.e n L) (i + 1)) = [] from rfl, List.append_nil, Nat.add_zero, show j = L.length by omega]
 | k + 1, j, acc, h, ha => by
  have hj : j < L.length := by omega
  have hc := Vu R6.b R6.e n L
  have hpl : (Xy (Ye (rnE R6.b R6.e n L))).length = 4 * L.length := by rw [Wi, Wu, Wz]
  have r0 : rd (Xy (Ye (rnE R6.b R6.e n L))) i = rd (rnC R6.b R6.e n L) i := Us _ _ (by show i < (rnC R6.b R6.e n L).length; omega)
  have r1 : rd (Xy (Ye (rnE R6.b R6.e n L))) (i + 1) = rd (rnC R6.b R6.e n L) (i + 1) := Us _ _ (by show i + 1 < (rnC R6.b R6.e n L).length; omega)
  have e1 : IntKind.wrap .i64 (((i + 1 : Nat) : Int) - 1) = (i : Int) := by rw [Zc]; exact Zj (by omega)
  have hw : IntKind.wrap .i64 ((j : Int) + 1) = ((j + 1 : Nat) : Int) := Zj (by omega)
  obtain ⟨N, hN⟩ := v2c hl hi out k (j + 1) (acc ++ crS R6.b R6.e [rd L j] (rd (rnC R6.b R6.e n L) i) (rd (rnC R6.b R6.e n L) (i + 1))) (by omega) (by have := Kv R6.b R6.e [rd L j] (rd (rnC R6.b R6.e n L) i) (rd (rnC R6.b R6.e n L) (i + 1)); simp only [List.length_append, List.length_singleton] at *; omega)
  refine ⟨N + 1, fun M => ?_⟩
  have e : crS R6.b R6.e (L.drop j) (rd (rnC R6.b R6.e n L) i) (rd (rnC R6.b R6.e n L) (i + 1)) = crS R6.b R6.e [rd L j] (rd (rnC R6.b R6.e n L) i) (rd (rnC R6.b R6.e n L) (i + 1)) ++ crS R6.b R6.e (L.drop (j + 1)) (rd (rnC R6.b R6.e n L) i) (rd (rnC R6.b R6.e n L) (i + 1)) := by
   rw [Yc hj, ← z6i]; rfl
  rw [e, ← Nat.add_assoc, Zv, ← List.append_assoc, ← hN M]
  by_cases h1 : (rd L j).b < rd (rnC R6.b R6.e n L) (i + 1)
  ·by_cases h2 : rd (rnC R6.b R6.e n L) i < (rd L j).e
   ·rw [v7m h1 h2]
    simp (disch := omega) only [Vy, e1, r0, r1, hw, Zb, Zk, Zo, Zt, Yz, Yw, Yu, Zf, Zj, Zw, Yp, Zq, Nat.zero_add, decide_true, Bool.and_true, Bool.true_and, cond_true, cond_false]
   ·rw [w2b h2, List.append_nil]
    simp (disch := omega) only [Vy, Zs, e1, r0, r1, hw, Zb, Zk, Zo, Zt, Yz, Yw, Yu, Zf, Zj, Zw, Yp, Zq, Nat.zero_add, decide_true, Bool.and_true, Bool.true_and, cond_true, cond_false]
  ·rw [w2c h1, List.append_nil]
   simp (disch := omega) only [Vy, Zs, e1, r0, r1, hw, Zb, Zk, Zo, Zt, Yz, Yw, Yu, Zf, Zj, Zw, Yp, Zq, Nat.zero_add, decide_true, Bool.and_true, Bool.true_and, cond_true, cond_false]
theorem v2e {L : List R6} {a b e f n : Int} (hl : L.length ≤ 400) (hn : n ≠ 0) {R : List AVal} (hR : ∃ N, Yv (Vy L a b e f n) N (.to (.h1 1 [] (rnC R6.b R6.e n L).length (Xy (Ye (rnE R6.b R6.e n L))))) = .ret R) : ∀ (k i : Nat) (acc : List Int), i + k = L.length → acc = rnE R6.b R6.e n (L.take i) → ∃ N, Yv (Vy L a b e f n) N (.to (.h0 (i : Int) acc)) = .ret R
 | 0, i, acc, h, ha => by
  have e : acc = (rnE R6.b R6.e n L) := by rw [ha, List.take_of_length_le (by omega)]
  subst e
  have hle := Wz R6.b R6.e n L
  obtain ⟨N, hN⟩ := hR
  refine ⟨N + 1, ?_⟩
  rw [Zv]
  simp (disch := omega) only [Vy, Ux, Kx, z6j, Zs, Yw, Yu, decide_true, cond_true, cond_false]
  exact hN
 | k + 1, i, acc, h, ha => by
  have hle := Wz R6.b R6.e n (L.take i)
  have fP : acc.length ≤ 4 * i := by rw [ha, hle]; simp; omega
  obtain ⟨N, hN⟩ := v2e hl hn hR k (i + 1) (acc ++ rnE R6.b R6.e n [rd L i]) (by omega) (by
   rw [ha, List.take_add_one]
   have : L[i]? = some (rd L i) := by rw [Xe (show i < L.length by omega)]; exact List.getElem?_eq_getElem _
   rw [this, z5s]; rfl)
  refine ⟨N + 1, ?_⟩
  rw [Zv]
  simp (disch := omega) only [Vy, w7j hn, Zb, Zk, Zo, Zt, Yz, Yw, Yu, Zf, Zj, Zw, Yp, Zq, Nat.zero_add, decide_true, Bool.and_true, Bool.true_and, cond_true, cond_false]
  exact hN
def v7r (out : List R2) (x x' : Int) : List R2 := bif decide (0 < out.length) && ((rd out (out.length - 1)).b == x) then out.set (out.length - 1) ⟨(rd out (out.length - 1)).a, x'⟩ else out ++ [⟨x, x'⟩]
def v7p (L : List R6) (a b e f : Int) (cs : List Int) : Nat → Nat → List R2 → List R2
 | 0, _, o => o
 | k + 1, i, o => v7p L a b e f cs k (i + 1) (bif w3a (crS R6.b R6.e L (rd cs i) (rd cs (i + 1))) a b (rd cs i) (rd cs (i + 1)) e f then v7r o (rd cs i) (rd cs (i + 1)) else o)
def Qq (L : List R6) (a b e f n : Int) : List R2 := v7p L a b e f (rnC R6.b R6.e n L) ((rnC R6.b R6.e n L).length - 1) 0 []
def Qi (L : List R6) (a b e f n : Int) : Bool := decide (L.length ≤ 400) && !decide (n = 0)
theorem y0u (out : List R2) (x x' : Int) : (v7r out x x').length ≤ out.length + 1 := by
 unfold v7r
 cases (decide (0 < out.length) && ((rd out (out.length - 1)).b == x)) <;> simp
theorem v2d {L : List R6} {a b e f n : Int} (hl : L.length ≤ 400) : ∀ (k i : Nat) (out : List R2), k = (rnC R6.b R6.e n L).length - 1 - i → i ≤ (rnC R6.b R6.e n L).length → out.length ≤ i → ∃ N, Yv (Vy L a b e f n) N (.to (.h1 ((i + 1 : Nat) : Int) out (rnC R6.b R6.e n L).length (Xy (Ye (rnE R6.b R6.e n L))))) = .ret [.dat (v7p L a b e f (rnC R6.b R6.e n L) k i out).length (Zz (v7p L a b e f (rnC R6.b R6.e n L) k i out))]
 | 0, i, out, h, hi, ho => by
  have hc := Vu R6.b R6.e n L
  refine ⟨1, ?_⟩
  rw [Zv]
  simp (disch := omega) only [Vy, Zs, cond_false, Zm]
  rfl
 | k + 1, i, out, h, hi, ho => by
  have hc := Vu R6.b R6.e n L
  have hi1 : i + 1 < (rnC R6.b R6.e n L).length := by omega
  have hpl : (Xy (Ye (rnE R6.b R6.e n L))).length = 4 * L.length := by rw [Wi, Wu, Wz]
  have r0 : rd (Xy (Ye (rnE R6.b R6.e n L))) i = rd (rnC R6.b R6.e n L) i := Us _ _ (by show i < (rnC R6.b R6.e n L).length; omega)
  have r1 : rd (Xy (Ye (rnE R6.b R6.e n L))) (i + 1) = rd (rnC R6.b R6.e n L) (i + 1) := Us _ _ (by show i + 1 < (rnC R6.b R6.e n L).length; omega)
  have e1 : IntKind.wrap .i64 (((i + 1 : Nat) : Int) - 1) = (i : Int) := by rw [Zc]; exact Zj (by omega)
  have hw : IntKind.wrap .i64 (((i + 1 : Nat) : Int) + 1) = ((i + 1 + 1 : Nat) : Int) := Zj (by omega)
  obtain ⟨N2, h2⟩ := v2c (a := a) (b := b) (e := e) (f := f) (n := n) hl hi1 out L.length 0 [] (Nat.zero_add _) (Nat.le_refl _)
  rw [List.drop_zero, List.nil_append, Qn] at h2
  have hin := Kv R6.b R6.e L (rd (rnC R6.b R6.e n L) i) (rd (rnC R6.b R6.e n L) (i + 1))
  have ew : ∀ (v : List R6), lst R6 v.length (fun k => (Zz v) (0 + k)) = v := x5o
  have fo : z4p (crS R6.b R6.e L (rd (rnC R6.b R6.e n L) i) (rd (rnC R6.b R6.e n L) (i + 1))) a b (rd (rnC R6.b R6.e n L) i) (rd (rnC R6.b R6.e n L) (i + 1)) e f = true := decide_eq_true (by omega)
  have st0 : ∀ M, Yv (Vy L a b e f n) (M + N2 + 1) (.to (.h1 ((i + 1 : Nat) : Int) out (rnC R6.b R6.e n L).length (Xy (Ye (rnE R6.b R6.e n L))))) = Yv (Vy L a b e f n) M (.to (.h2 ((i + 1 : Nat) : Int) (crS R6.b R6.e L (rd (rnC R6.b R6.e n L) i) (rd (rnC R6.b R6.e n L) (i + 1))) (L.length : Int) out (rnC R6.b R6.e n L).length (Xy (Ye (rnE R6.b R6.e n L))))) := fun M => by
   rw [← h2 M, Zv]
   simp (disch := omega) only [Vy, Zo, cond_true]
  have st1 : Vy L a b e f n (.h2 ((i + 1 : Nat) : Int) (crS R6.b R6.e L (rd (rnC R6.b R6.e n L) i) (rd (rnC R6.b R6.e n L) (i + 1))) (L.length : Int) out (rnC R6.b R6.e n L).length (Xy (Ye (rnE R6.b R6.e n L)))) = .to (.h1 ((i + 1 + 1 : Nat) : Int) (bif w3a (crS R6.b R6.e L (rd (rnC R6.b R6.e n L) i) (rd (rnC R6.b R6.e n L) (i + 1))) a b (rd (rnC R6.b R6.e n L) i) (rd (rnC R6.b R6.e n L) (i + 1)) e f then v7r out (rd (rnC R6.b R6.e n L) i) (rd (rnC R6.b R6.e n L) (i + 1)) else out) (rnC R6.b R6.e n L).length (Xy (Ye (rnE R6.b R6.e n L)))) := by
   simp (disch := omega) only [Vy, Zs, e1, r0, r1, hw, ew, fo, Xj, Yz, Zb, Zk, Zo, Zt, Yz, Yw, Yu, Zf, Zj, Zw, Yp, Zq, Nat.zero_add, decide_true, Bool.and_true, Bool.true_and, cond_true, cond_false]
   rcases Ya (w3a (crS R6.b R6.e L (rd (rnC R6.b R6.e n L) i) (rd (rnC R6.b R6.e n L) (i + 1))) a b (rd (rnC R6.b R6.e n L) i) (rd (rnC R6.b R6.e n L) (i + 1)) e f) with q | q
   ·rw [q]
    unfold v7r
    by_cases h0 : 0 < out.length
    ·have e2 : IntKind.wrap .i64 ((out.length : Int) - 1) = ((out.length - 1 : Nat) : Int) := by rw [Zj (by omega)]; omega
     have e3 : Int.toNat ((out.length : Int) - 1) = out.length - 1 := by omega
     rcases Ya ((rd out (out.length - 1)).b == rd (rnC R6.b R6.e n L) i) with q2 | q2 <;>
      simp (disch := omega) only [Bool.not_true, Yi, e2, e3, q2, Zb, Zk, Zo, Zt, Yz, Yw, Yu, Zf, Zj, Zw, Yp, Zq, Nat.zero_add, decide_true, Bool.and_true, Bool.true_and, cond_true, cond_false]
    ·have h1 : out.length = 0 := by omega
     simp (disch := omega) only [Bool.not_true, Xz, decide_eq_false h0, Bool.false_and, Zb, Zk, Zo, Zt, Yz, Yw, Yu, Zf, Zj, Zw, Yp, Zq, Nat.zero_add, decide_true, Bool.and_true, Bool.true_and, cond_true, cond_false]
   ·rw [q]; rfl
  have eA : (bif w3a (crS R6.b R6.e L (rd (rnC R6.b R6.e n L) i) (rd (rnC R6.b R6.e n L) (i + 1))) a b (rd (rnC R6.b R6.e n L) i) (rd (rnC R6.b R6.e n L) (i + 1)) e f then v7r out (rd (rnC R6.b R6.e n L) i) (rd (rnC R6.b R6.e n L) (i + 1)) else out).length ≤ i + 1 := by
   have := y0u out (rd (rnC R6.b R6.e n L) i) (rd (rnC R6.b R6.e n L) (i + 1))
   cases w3a (crS R6.b R6.e L (rd (rnC R6.b R6.e n L) i) (rd (rnC R6.b R6.e n L) (i + 1))) a b (rd (rnC R6.b R6.e n L) i) (rd (rnC R6.b R6.e n L) (i + 1)) e f <;> simp only [cond_true, cond_false] <;> omega
  obtain ⟨N, hN⟩ := v2d (a := a) (b := b) (e := e) (f := f) (n := n) hl k (i + 1) _ (by omega) (by omega) eA
  refine ⟨N + 1 + N2 + 1, ?_⟩
  rw [st0, Zv, st1]
  exact hN
theorem v7n (L : List R6) (a b e f n : Int) (h : Qi L a b e f n = true) : ∃ N, Yv (Vy L a b e f n) N (y4n L a b e f n) = .ret [.dat (Qq L a b e f n).length (Zz (Qq L a b e f n))] := by
 simp only [Qi, Bool.and_eq_true, Bool.not_eq_true', decide_eq_true_eq, decide_eq_false_iff_not] at h
 exact v2e h.1 h.2 (v2d h.1 _ 0 [] (by omega) (Nat.zero_le _) (Nat.le_refl _)) L.length 0 [] (Nat.zero_add _) rfl
def fCol : List AVal → Option (AVal × Bool)
 | [a0, .agg [.int .i64 aV, .int .i64 aW], .agg [.int .i64 bO, .int .i64 bP], .int .i64 x3] => match asL R6 a0 with
  | some (L0, g0, n0) => some (.dat (Qq L0 aV aW bO bP x3).length (Zz (Qq L0 aV aW bO bP x3)), isT R6 n0 g0 && (Qi L0 aV aW bO bP x3))
  | _ => none
 | _ => none
theorem v6u {S : Specs} (hS : Zu prog S) : Zu prog (S.with w0q fCol) := by
 refine z2g hS (by kernel_rfl) fun args v h => ?_
 unfold fCol at h
 split at h
 ·rename_i a0 aV aW bO bP x3
  split at h
  ·rename_i L0 g0 n0 e0
   simp only [Option.some.injEq, Prod.mk.injEq, Bool.and_eq_true] at h
   obtain ⟨rfl, ho0, hw⟩ := h
   obtain ⟨N, hN⟩ := v7n L0 aV aW bO bP x3 hw
   exact ⟨_, _, (.cons (asL_le e0 ho0) (.cons (.refl _) (.cons (.refl _) (.cons (.refl _) .nil)))), rfl, w8e L0 aV aW bO bP x3 N _ hN, 3, rfl⟩
  ·cases h
 ·cases h
def Df : Specs := ((De.with w0o fOut).with w0q fCol)
theorem z1d : Zu prog Df := (v6u (v6e Kc))
end Go.Am
namespace Go.Am
open Go.Proofs.Tryz
open Go.Proofs
inductive layS where
 | h0 (v14 : Int) (aA : List Int)
 | h1 (v5 : Int) (aB : List R4) (aC : List R2) (bJ : Int) (aF : Int) (bI : Nat) (aT : List Int)
 | h2 (v5 : Int) (v6 : List R6) (v19 : Int) (aB : List R4) (aC : List R2) (bJ : Int) (aF : Int) (bI : Nat) (aT : List Int)
 | h3 (v61 : List R2) (v62 : Int) (v63 : Int) (cB : Int) (aL : Int) (aI : Int) (bU : List R6) (aB : List R4) (bJ : Int) (bA : Nat) (aO : List Int)
 | h4 (v14 : Int) (cB : Int) (aL : Int) (aI : Int) (bU : List R6) (aB : List R4) (bJ : List R2) (aF : Int) (aK : Int) (cF : Nat) (cG : List Int)
def layC (l0 : List R6) (aV : Int) (aW : Int) (x2 : Int) : layS → Cfg
 | .h0 v14 aA => ⟨⟨45, 0, true⟩, none, (Za prog 80 [1, 1, 0, 1, 0, 0] 0), none, (Zy prog 4), ⟨Yk [(2, (ii x2)), (3, (.ptr 0 0)), (4, (.ptr 1 0)), (7, (.ptr 2 0)), (12, (.dat l0.length (Zz l0))), (13, (ii (l0.length : Int))), (14, (ii v14))], Vn [⟨[(.dat l0.length (Zz l0))], 22, none⟩, ⟨[(ii 0)], 3, none⟩, ⟨[(.sla 9 1 0 aA.length (.un 1))], 47, none⟩, ⟨[(ii aV), (ii aW)], 110, none⟩, ⟨[(ii x2)], 3, none⟩, ⟨[.nils], 106, none⟩, ⟨[.nils], 158, none⟩, ⟨[(ii 0)], 3, none⟩, ⟨[(ii 0)], 3, none⟩, ⟨rows aA.length (Zz aA), 3, some ⟨1, aA.length, (Zz aA)⟩⟩] 0, 10, [], true⟩, [⟨⟨81, 0, true⟩, (Vk prog 81 [1, 1, 1, 1, 0, 0] 2), (Za prog 81 [1, 1, 1, 1, 0, 0] 1), none, (Zy prog 4), Yk [(4, (.ptr 3 0)), (5, (.ptr 4 0)), (6, .nils), (7, (.ptr 5 0)), (8, (.ptr 6 0)), (9, (.ptr 7 0)), (10, (.ptr 8 0)), (17, (.dat l0.length (Zz l0))), (18, (ii x2))]⟩], .leaf⟩
 | .h1 v5 aB aC bJ aF bI aT => ⟨⟨63, 0, true⟩, none, (Za prog 121 [1, 0, 0] 0), none, [], ⟨Yk [(0, (.yld 0)), (1, (.ptr 7 0)), (2, (.ptr 9 0)), (3, (.ptr 10 0)), (5, (ii v5))], z4j [(1, ⟨[(ii aV), (ii aW)], 110, none⟩), (2, ⟨[(ii x2)], 3, none⟩), (3, ⟨[(.sla 11 4 0 aB.length (.un 4))], 106, none⟩), (4, ⟨[(.dat aC.length (Zz aC))], 158, none⟩), (5, ⟨[(ii bJ)], 3, none⟩), (6, ⟨[(ii aF)], 3, none⟩), (7, ⟨[(.sla 8 1 0 bI (.un 1))], 47, none⟩), (8, ⟨rows aT.length (Zz aT), 3, some ⟨1, aT.length, (Zz aT)⟩⟩), (9, ⟨[(.dat l0.length (Zz l0))], 22, none⟩), (10, ⟨[(ii 0)], 3, none⟩), (11, ⟨rows aB.length (Zz aB), 114, some ⟨4, aB.length, (Zz aB)⟩⟩)], 12, [], true⟩, [⟨⟨81, 0, true⟩, none, (.inRangeFunc 0 :: (Za prog 81 [1, 1, 1, 1, 0, 1, 0] 1)), none, (Zy prog 4), Yk [(6, .nils), (7, (.ptr 3 0))]⟩], (z4l [(0, ⟨.ready, none, 81, Yk [(4, (.ptr 1 0)), (5, (.ptr 2 0)), (7, (.ptr 3 0)), (8, (.ptr 4 0)), (9, (.ptr 5 0)), (10, (.ptr 6 0))], [20, 21], (Xi prog 81 [1, 1, 1, 1, 0, 1, 0, 0]), (Xi prog 81 [1, 1, 1, 1, 0, 1, 0, 1])⟩)])⟩
 | .h2 v5 v6 v19 aB aC bJ aF bI aT => ⟨⟨63, 0, true⟩, none, (Za prog 121 [1, 0, 0, 1, 0, 0, 1, 0, 1, 0, 0] 0), none, [], ⟨Yk [(0, (.yld 0)), (1, (.ptr 7 0)), (2, (.ptr 9 0)), (3, (.ptr 10 0)), (5, (ii v5)), (6, (.sla 11 6 0 v6.length (.un 6))), (17, (.dat l0.length (Zz l0))), (18, (ii (l0.length : Int))), (19, (ii v19))], z4j [(1, ⟨[(ii aV), (ii aW)], 110, none⟩), (2, ⟨[(ii x2)], 3, none⟩), (3, ⟨[(.sla 12 4 0 aB.length (.un 4))], 106, none⟩), (4, ⟨[(.dat aC.length (Zz aC))], 158, none⟩), (5, ⟨[(ii bJ)], 3, none⟩), (6, ⟨[(ii aF)], 3, none⟩), (7, ⟨[(.sla 8 1 0 bI (.un 1))], 47, none⟩), (8, ⟨rows aT.length (Zz aT), 3, some ⟨1, aT.length, (Zz aT)⟩⟩), (9, ⟨[(.dat l0.length (Zz l0))], 22, none⟩), (10, ⟨[(ii 0)], 3, none⟩), (11, ⟨rows v6.length (Zz v6), 68, some ⟨6, v6.length, (Zz v6)⟩⟩), (12, ⟨rows aB.length (Zz aB), 114, some ⟨4, aB.length, (Zz aB)⟩⟩)], 13, [], true⟩, [⟨⟨81, 0, true⟩, none, (.inRangeFunc 0 :: (Za prog 81 [1, 1, 1, 1, 0, 1, 0] 1)), none, (Zy prog 4), Yk [(6, .nils), (7, (.ptr 3 0))]⟩], (z4l [(0, ⟨.ready, none, 81, Yk [(4, (.ptr 1 0)), (5, (.ptr 2 0)), (7, (.ptr 3 0)), (8, (.ptr 4 0)), (9, (.ptr 5 0)), (10, (.ptr 6 0))], [20, 21], (Xi prog 81 [1, 1, 1, 1, 0, 1, 0, 0]), (Xi prog 81 [1, 1, 1, 1, 0, 1, 0, 1])⟩)])⟩
 | .h3 v61 v62 v63 cB aL aI bU aB bJ bA aO => ⟨⟨81, 0, true⟩, none, (Za prog 81 [1, 1, 1, 1, 0, 1, 0, 1, 0, 1, 1, 1, 1, 0, 0] 0), (some 0), [], ⟨Yk [(7, (.ptr 3 0)), (11, (.ptr 7 0)), (61, (.dat v61.length (Zz v61))), (62, (ii v62)), (63, (ii v63))], z4j [(1, ⟨[(ii aV), (ii aW)], 110, none⟩), (2, ⟨[(ii x2)], 3, none⟩), (3, ⟨[(.sla 12 4 0 aB.length (.un 4))], 106, none⟩), (4, ⟨[(.dat v61.length (Zz v61))], 158, none⟩), (5, ⟨[(ii bJ)], 3, none⟩), (6, ⟨[(ii aI)], 3, none⟩), (7, ⟨[(ii aL), (ii aI)], 110, none⟩), (8, ⟨[(.sla 9 1 0 bA (.un 1))], 47, none⟩), (9, ⟨rows aO.length (Zz aO), 3, some ⟨1, aO.length, (Zz aO)⟩⟩), (10, ⟨[(.dat l0.length (Zz l0))], 22, none⟩), (11, ⟨[(ii 0)], 3, none⟩), (12, ⟨rows aB.length (Zz aB), 114, some ⟨4, aB.length, (Zz aB)⟩⟩)], 13, [], true⟩, [⟨⟨63, 0, true⟩, (Vk prog 121 [1, 0, 0, 1, 0, 0, 1, 1, 0] 12), (Za prog 121 [1, 0, 0, 1, 0, 0, 1, 1, 0] 1), none, [], Yk [(0, (.yld 0)), (1, (.ptr 8 0)), (2, (.ptr 10 0)), (3, (.ptr 11 0)), (5, (ii cB)), (49, (.yld 0)), (59, (.agg [(ii aL), (ii aI)])), (60, (.dat bU.length (Zz bU)))]⟩, ⟨⟨81, 0, true⟩, none, (.inRangeFunc 0 :: (Za prog 81 [1, 1, 1, 1, 0, 1, 0] 1)), none, (Zy prog 4), Yk [(6, .nils), (7, (.ptr 3 0))]⟩], (z4l [(0, ⟨.busy, none, 81, Yk [(4, (.ptr 1 0)), (5, (.ptr 2 0)), (7, (.ptr 3 0)), (8, (.ptr 4 0)), (9, (.ptr 5 0)), (10, (.ptr 6 0))], [20, 21], (Xi prog 81 [1, 1, 1, 1, 0, 1, 0, 0]), (Xi prog 81 [1, 1, 1, 1, 0, 1, 0, 1])⟩)])⟩
 | .h4 v14 cB aL aI bU aB bJ aF aK cF cG => ⟨⟨81, 0, true⟩, none, (Za prog 81 [1, 1, 1, 1, 0, 1, 0, 1, 0, 1, 0, 1, 0, 0, 1, 0, 0] 0), (some 0), [], ⟨Yk [(7, (.ptr 3 0)), (10, (.ptr 7 0)), (11, (.ptr 8 0)), (14, (ii v14))], z4j [(1, ⟨[(ii aV), (ii aW)], 110, none⟩), (2, ⟨[(ii x2)], 3, none⟩), (3, ⟨[(.sla 4 4 0 aB.length (.un 4))], 106, none⟩), (4, ⟨rows aB.length (Zz aB), 114, some ⟨4, aB.length, (Zz aB)⟩⟩), (5, ⟨[(.dat bJ.length (Zz bJ))], 158, none⟩), (6, ⟨[(ii aF)], 3, none⟩), (7, ⟨[(ii aK)], 3, none⟩), (8, ⟨[(ii aL), (ii aI)], 110, none⟩), (9, ⟨[(.sla 10 1 0 cF (.un 1))], 47, none⟩), (10, ⟨rows cG.length (Zz cG), 3, some ⟨1, cG.length, (Zz cG)⟩⟩), (11, ⟨[(.dat l0.length (Zz l0))], 22, none⟩), (12, ⟨[(ii 0)], 3, none⟩)], 13, [], true⟩, [⟨⟨63, 0, true⟩, (Vk prog 121 [1, 0, 0, 1, 0, 0, 1, 1, 0] 12), (Za prog 121 [1, 0, 0, 1, 0, 0, 1, 1, 0] 1), none, [], Yk [(0, (.yld 0)), (1, (.ptr 9 0)), (2, (.ptr 11 0)), (3, (.ptr 12 0)), (5, (ii cB)), (49, (.yld 0)), (59, (.agg [(ii aL), (ii aI)])), (60, (.dat bU.length (Zz bU)))]⟩, ⟨⟨81, 0, true⟩, none, (.inRangeFunc 0 :: (Za prog 81 [1, 1, 1, 1, 0, 1, 0] 1)), none, (Zy prog 4), Yk [(6, .nils), (7, (.ptr 3 0))]⟩], (z4l [(0, ⟨.busy, none, 81, Yk [(4, (.ptr 1 0)), (5, (.ptr 2 0)), (7, (.ptr 3 0)), (8, (.ptr 5 0)), (9, (.ptr 6 0)), (10, (.ptr 7 0))], [20, 21], (Xi prog 81 [1, 1, 1, 1, 0, 1, 0, 0]), (Xi prog 81 [1, 1, 1, 1, 0, 1, 0, 1])⟩)])⟩
def layN0 : List (Option (List Nat)) := [some [2, 3, 4, 7, 12, 13, 14], some [4, 5, 6, 7, 8, 9, 10, 17, 18]]
def layM0 : List (Option (List Nat)) := []
def v4z : List (Option (List Nat)) := [some [0, 1, 2, 3, 5], some [6, 7]]
def v5a : List (Option (List Nat)) := [some [4, 5, 7, 8, 9, 10], none, none, none, none, none, none, none, none, none, none, none]
def w5u : List (Option (List Nat)) := [some [0, 1, 2, 3, 5, 6, 17, 18, 19], some [6, 7]]
def w5w : List (Option (List Nat)) := [some [4, 5, 7, 8, 9, 10], none, none, none, none, none, none, none, none, none, none, none, none]
def w5t : List (Option (List Nat)) := [some [7, 11, 61, 62, 63], some [0, 1, 2, 3, 5, 49, 59, 60], some [6, 7]]
def w5v : List (Option (List Nat)) := [some [4, 5, 7, 8, 9, 10], none, none, none, none, none, none, none, none, none, none, none, none]
def layN4 : List (Option (List Nat)) := [some [7, 10, 11, 14], some [0, 1, 2, 3, 5, 49, 59, 60], some [6, 7]]
def layM4 : List (Option (List Nat)) := [some [4, 5, 7, 8, 9, 10], none, none, none, none, none, none, none, none, none, none, none, none]
def Xb (l0 : List R6) (aV : Int) (aW : Int) (x2 : Int) : layS → Xn layS
 | .h0 v14 aA => (bif (decide (v14 < (l0.length : Int))) then (bif ((decide (0 ≤ v14 ∧ v14 < (l0.length : Int))) && true) then (bif (Xw (rd l0 v14.toNat).a x2) then (bif (Xw (IntKind.wrap .i64 (0 - (rd l0 v14.toNat).a)) x2) then (bif (Xw (rd l0 v14.toNat).d x2) then (bif (Xw (IntKind.wrap .i64 (0 - (rd l0 v14.toNat).d)) x2) then (bif (Nat.beq 1 1 && ((decide (0 + aA.length = aA.length)) && decide ((aA.length + 4 + 1) * (8 + 1) ≤ Jp))) then (.to (.h0 (IntKind.wrap .i64 (v14 + 1)) (aA ++ [(Yb (rd l0 v14.toNat).a x2), (IntKind.wrap .i64 (0 - (Yb (IntKind.wrap .i64 (0 - (rd l0 v14.toNat).a)) x2))), (Yb (rd l0 v14.toNat).d x2), (IntKind.wrap .i64 (0 - (Yb (IntKind.wrap .i64 (0 - (rd l0 v14.toNat).d)) x2)))]))) else .stuck) else .stuck) else .stuck) else .stuck) else .stuck) else .stuck) else (bif (decide (aA.length < 4611686018427387904)) then (bif (decide (aA.length = aA.length)) then (.to (.h1 1 ([] : List R4) ([] : List R2) 0 0 (w8i (Zg aA.length (cOf (Zz (Ye (Zg aA.length (cOf (Zz aA)))))))) (Xy (Zg aA.length (cOf (Zz (Ye (Zg aA.length (cOf (Zz aA)))))))))) else .stuck) else .stuck))
 | .h1 v5 aB aC bJ aF bI aT => (bif (decide (v5 < ((bI : Nat) : Int))) then (.to (.h2 v5 ([] : List R6) 0 aB aC bJ aF bI aT)) else (.ret [(.dat aB.length (Zz aB))]))
 | .h2 v5 v6 v19 aB aC bJ aF bI aT => (bif (decide (v19 < (l0.length : Int))) then (bif ((decide (0 ≤ v19 ∧ v19 < (l0.length : Int))) && true) then (bif ((decide (0 ≤ v5 ∧ v5 < ((bI : Nat) : Int))) && true) then (bif (decide ((0 + v5.toNat) < aT.length)) then (bif (decide ((rd l0 v19.toNat).a < (rd aT (0 + v5.toNat)))) then (bif ((decide (0 ≤ (IntKind.wrap .i64 (v5 - 1)) ∧ (IntKind.wrap .i64 (v5 - 1)) < ((bI : Nat) : Int))) && true) then (bif (decide ((0 + (Int.toNat (IntKind.wrap .i64 (v5 - 1)))) < aT.length)) then (bif (decide ((rd aT (0 + (Int.toNat (IntKind.wrap .i64 (v5 - 1))))) < (rd l0 v19.toNat).d)) then (bif (Nat.beq 6 6 && ((decide (0 + v6.length = v6.length)) && decide ((v6.length + 1 + 1) * (48 + 1) ≤ Jp))) then (.to (.h2 v5 (v6 ++ [(R6.mk (rd l0 v19.toNat).a (rd l0 v19.toNat).b (rd l0 v19.toNat).c (rd l0 v19.toNat).d (rd l0 v19.toNat).e (rd l0 v19.toNat).f)]) (IntKind.wrap .i64 (v19 + 1)) aB aC bJ aF bI aT)) else .stuck) else (.to (.h2 v5 v6 (IntKind.wrap .i64 (v19 + 1)) aB aC bJ aF bI aT))) else .stuck) else .stuck) else (.to (.h2 v5 v6 (IntKind.wrap .i64 (v19 + 1)) aB aC bJ aF bI aT))) else .stuck) else .stuck) else .stuck) else (bif ((decide (0 ≤ (IntKind.wrap .i64 (v5 - 1)) ∧ (IntKind.wrap .i64 (v5 - 1)) < ((bI : Nat) : Int))) && true) then (bif (decide ((0 + (Int.toNat (IntKind.wrap .i64 (v5 - 1)))) < aT.length)) then (bif ((decide (0 ≤ v5 ∧ v5 < ((bI : Nat) : Int))) && true) then (bif (decide ((0 + v5.toNat) < aT.length)) then (bif (Qi (cvT v6) (rd aT (0 + (Int.toNat (IntKind.wrap .i64 (v5 - 1))))) (rd aT (0 + v5.toNat)) aV aW x2) then (bif (decide ((((Qq (cvT v6) (rd aT (0 + (Int.toNat (IntKind.wrap .i64 (v5 - 1))))) (rd aT (0 + v5.toNat)) aV aW x2).length : Nat) : Int) > 0)) then (bif (aF == (rd aT (0 + (Int.toNat (IntKind.wrap .i64 (v5 - 1)))))) then (bif (Wt (cvT aC) (cvT (Qq (cvT v6) (rd aT (0 + (Int.toNat (IntKind.wrap .i64 (v5 - 1))))) (rd aT (0 + v5.toNat)) aV aW x2))) then (bif (Jg (cvT aC) (cvT (Qq (cvT v6) (rd aT (0 + (Int.toNat (IntKind.wrap .i64 (v5 - 1))))) (rd aT (0 + v5.toNat)) aV aW x2))) then (.to (.h4 bJ v5 (rd aT (0 + (Int.toNat (IntKind.wrap .i64 (v5 - 1))))) (rd aT (0 + v5.toNat)) v6 aB aC bJ aF bI aT)) else (.to (.h3 (Qq (cvT v6) (rd aT (0 + (Int.toNat (IntKind.wrap .i64 (v5 - 1))))) (rd aT (0 + v5.toNat)) aV aW x2) (((Qq (cvT v6) (rd aT (0 + (Int.toNat (IntKind.wrap .i64 (v5 - 1))))) (rd aT (0 + v5.toNat)) aV aW x2).length : Nat) : Int) 0 v5 (rd aT (0 + (Int.toNat (IntKind.wrap .i64 (v5 - 1))))) (rd aT (0 + v5.toNat)) v6 aB (aB.length : Int) bI aT))) else .stuck) else (.to (.h3 (Qq (cvT v6) (rd aT (0 + (Int.toNat (IntKind.wrap .i64 (v5 - 1))))) (rd aT (0 + v5.toNat)) aV aW x2) (((Qq (cvT v6) (rd aT (0 + (Int.toNat (IntKind.wrap .i64 (v5 - 1))))) (rd aT (0 + v5.toNat)) aV aW x2).length : Nat) : Int) 0 v5 (rd aT (0 + (Int.toNat (IntKind.wrap .i64 (v5 - 1))))) (rd aT (0 + v5.toNat)) v6 aB (aB.length : Int) bI aT))) else (.to (.h3 (Qq (cvT v6) (rd aT (0 + (Int.toNat (IntKind.wrap .i64 (v5 - 1))))) (rd aT (0 + v5.toNat)) aV aW x2) (((Qq (cvT v6) (rd aT (0 + (Int.toNat (IntKind.wrap .i64 (v5 - 1))))) (rd aT (0 + v5.toNat)) aV aW x2).length : Nat) : Int) 0 v5 (rd aT (0 + (Int.toNat (IntKind.wrap .i64 (v5 - 1))))) (rd aT (0 + v5.toNat)) v6 aB (aB.length : Int) bI aT))) else .stuck) else .stuck) else .stuck) else .stuck) else .stuck))
 | .h3 v61 v62 v63 cB aL aI bU aB bJ bA aO => (bif (decide (v63 < v62)) then (bif ((decide (0 ≤ v63 ∧ v63 < (v61.length : Int))) && true) then (bif (Nat.beq 4 4 && ((decide (0 + aB.length = aB.length)) && decide ((aB.length + 1 + 1) * (32 + 1) ≤ Jp))) then (.to (.h3 v61 v62 (IntKind.wrap .i64 (v63 + 1)) cB aL aI bU (aB ++ [(R4.mk aL (rd v61 v63.toNat).a aI (rd v61 v63.toNat).b)]) bJ bA aO)) else .stuck) else .stuck) else (.to (.h1 (IntKind.wrap .i64 (cB + 1)) aB v61 bJ aI bA aO)))
 | .h4 v14 cB aL aI bU aB bJ aF aK cF cG => (bif (decide (v14 < (aB.length : Int))) then (bif ((decide (0 ≤ v14 ∧ v14 < (aB.length : Int))) && true) then (bif (decide ((0 + v14.toNat) < aB.length)) then (.to (.h4 (IntKind.wrap .i64 (v14 + 1)) cB aL aI bU (aB.set (0 + v14.toNat) (R4.mk (rd aB (0 + v14.toNat)).a (rd aB (0 + v14.toNat)).b aI (rd aB (0 + v14.toNat)).d)) bJ aF aK cF cG)) else .stuck) else .stuck) else (.to (.h1 (IntKind.wrap .i64 (cB + 1)) aB bJ aF aI cF cG)))
def y3z (l0 : List R6) (aV : Int) (aW : Int) (x2 : Int) : Xn layS := (.to (.h0 0 ([] : List Int)))
theorem x5w (l0 : List R6) (aV : Int) (aW : Int) (x2 : Int) : ∀ s, Ww prog (Zy prog 81) (layC l0 aV aW x2) (layC l0 aV aW x2 s) (Xb l0 aV aW x2 s)
 | .h0 v14 aA => (lb (fun k0 => (lo fun o0 => (lo fun o1 => (lo fun o2 => (lo fun o3 => (lo fun o4 => (lo fun o5 => (sl z1d 45 [] ⟨[0, 1, 2, 3, 4, 5, 6, 7, 8, 15], [], layN0, layM0⟩ ⟨[], [.keep, .keep, .cells [.len (aA ++ [(Yb (rd l0 (tn v14)).a x2), (wr (0 - (Yb (wr (0 - (rd l0 (tn v14)).a)) x2))), (Yb (rd l0 (tn v14)).d x2), (wr (0 - (Yb (wr (0 - (rd l0 (tn v14)).d)) x2)))]).length], .keep, .keep, .keep, .keep, .keep, .keep, .rowed 1 (aA ++ [(Yb (rd l0 (tn v14)).a x2), (wr (0 - (Yb (wr (0 - (rd l0 (tn v14)).a)) x2))), (Yb (rd l0 (tn v14)).d x2), (wr (0 - (Yb (wr (0 - (rd l0 (tn v14)).d)) x2)))]).length (Zz (aA ++ [(Yb (rd l0 (tn v14)).a x2), (wr (0 - (Yb (wr (0 - (rd l0 (tn v14)).a)) x2))), (Yb (rd l0 (tn v14)).d x2), (wr (0 - (Yb (wr (0 - (rd l0 (tn v14)).d)) x2)))]))], []⟩ [true, false, false] (pp (xL (aA.length + 4) (aA ++ [(Yb (rd l0 (tn v14)).a x2), (wr (0 - (Yb (wr (0 - (rd l0 (tn v14)).a)) x2))), (Yb (rd l0 (tn v14)).d x2), (wr (0 - (Yb (wr (0 - (rd l0 (tn v14)).d)) x2)))]).length) (pp (xL (aA.length + 4) (aA ++ [(Yb (rd l0 (tn v14)).a x2), (wr (0 - (Yb (wr (0 - (rd l0 (tn v14)).a)) x2))), (Yb (rd l0 (tn v14)).d x2), (wr (0 - (Yb (wr (0 - (rd l0 (tn v14)).d)) x2)))]).length) (pp (xS (aA.length + 4) (Zd (Zz aA) 0 aA.length 1 [(ii (Yb (rd l0 (tn v14)).a x2)), (ii (wr (0 - (Yb (wr (0 - (rd l0 (tn v14)).a)) x2)))), (ii (Yb (rd l0 (tn v14)).d x2)), (ii (wr (0 - (Yb (wr (0 - (rd l0 (tn v14)).d)) x2))))]) (Zz (aA ++ [(Yb (rd l0 (tn v14)).a x2), (wr (0 - (Yb (wr (0 - (rd l0 (tn v14)).a)) x2))), (Yb (rd l0 (tn v14)).d x2), (wr (0 - (Yb (wr (0 - (rd l0 (tn v14)).d)) x2)))]))) (pp (pp (xF (Zd (Zz aA) 0 aA.length 1 [(ii (Yb (rd l0 (tn v14)).a x2)), (ii (wr (0 - (Yb (wr (0 - (rd l0 (tn v14)).a)) x2)))), (ii (Yb (rd l0 (tn v14)).d x2)), (ii (wr (0 - (Yb (wr (0 - (rd l0 (tn v14)).d)) x2))))])) nn) (ww o5 (ww o4 (ww o3 (ww o2 (ww o1 (ww o0 (tt k0 nn))))))))))))))))))) (fun k0 => (lo fun o0 => (lo fun o1 => (sl z1d 33 [(114, 4, Zz ([] : List R4))] ⟨[10, 3, 4, 5, 6, 7, 8, 2, 9, 0, 1, 11], [], v4z, v5a⟩ ⟨[], (kpB 3 [.cells [.grow 11 4], .cells [.list 0 (Zz ([] : List R2))], .keep, .keep, .keep, .rowed 1 (Xy (Zg aA.length (cOf (Zz (Ye (Zg aA.length (cOf (Zz aA)))))))).length (Zz (Xy (Zg aA.length (cOf (Zz (Ye (Zg aA.length (cOf (Zz aA))))))))), .keep, .keep, .keep]), []⟩ [false] (pp (xL aA.length (Xy (Zg aA.length (cOf (Zz (Ye (Zg aA.length (cOf (Zz aA)))))))).length (by first | exact Qc _ _ | exact Uy rfl)) (pp (xS aA.length (Zz (Xy (Zg aA.length (cOf (Zz (Ye (Zg aA.length (cOf (Zz aA))))))))) (Zz (Xy (Zg aA.length (cOf (Zz (Ye (Zg aA.length (cOf (Zz aA)))))))))) (pp (fl (Xy (Zg aA.length (cOf (Zz (Ye (Zg aA.length (cOf (Zz aA)))))))) (fl ([] : List R4) nn)) (pp (pp (xG (Nat.beq 1 1)) (pp (xG (Nat.beq 1 1)) (pp (xG (Nat.beq 0 0)) (pp (xG (decide (aA.length = aA.length))) (pp (xG (isI (Zz (Ye (Zg aA.length (cOf (Zz aA))))))) (xG (decide (aA.length < 4611686018427387904)))))))) (pp (pp (xG (Nat.beq 1 1)) (pp (xG (Nat.beq 1 1)) (pp (xG (Nat.beq 0 0)) (pp (xG (decide (aA.length = aA.length))) (pp (xG (isI (Zz aA))) (xG (decide (aA.length < 4611686018427387904)))))))) (tt k0 nn)))))))))))
 | .h1 v5 aB aC bJ aF bI aT => (lb (fun k0 => (sl z1d 25 [(68, 6, Zz ([] : List R6))] ⟨[0, 1, 2, 3, 4, 5, 6, 7, 8, 9, 10, 12, 11], [], w5u, w5w⟩ ⟨[(6, .grow 11 6)], [], []⟩ [true] (pp (fl aT (fl ([] : List R6) (fl aB nn))) (tt k0 nn)))) (fun k0 => (lr 81 3 [1, 1, 1, 1, 1, 1, 0] 1 4 [(6, (.dat aB.length (Zz aB)))] (sl z1d 18 [] ⟨[], [11], [some [6]], []⟩ ⟨[(6, .frz aB.length aB.length (Zz aB) (Zz aB))], [], []⟩ [false] (pp (xZ (z4q 4 4 0 aB.length aB.length (Zz aB)) aB.length (Zz aB)) (pp (xL aB.length aB.length) (pp (xS aB.length (Zz aB) (Zz aB)) (pp (fl aB nn) (tt k0 nn)))))))))
 | .h2 v5 v6 v19 aB aC bJ aF bI aT => (lb (fun k0 => (lo fun aH => (lo fun bK => (lo fun cJ => (lb (fun k1 => (lo fun cX => (lo fun dO => (lb (fun k2 => (lo fun o0 => (sl z1d 70 [] ⟨[0, 1, 2, 3, 4, 5, 6, 7, 8, 9, 10, 18, 12], [], w5u, w5w⟩ ⟨[(6, .len (v6 ++ [(R6.mk (rd l0 (tn v19)).a (rd l0 (tn v19)).b (rd l0 (tn v19)).c (rd l0 (tn v19)).d (rd l0 (tn v19)).e (rd l0 (tn v19)).f)]).length)], (kpB 11 [.rowed 6 (v6 ++ [(R6.mk (rd l0 (tn v19)).a (rd l0 (tn v19)).b (rd l0 (tn v19)).c (rd l0 (tn v19)).d (rd l0 (tn v19)).e (rd l0 (tn v19)).f)]).length (Zz (v6 ++ [(R6.mk (rd l0 (tn v19)).a (rd l0 (tn v19)).b (rd l0 (tn v19)).c (rd l0 (tn v19)).d (rd l0 (tn v19)).e (rd l0 (tn v19)).f)])), .keep]), []⟩ [true, false, false, true, true, true, true, true, true, true, true] (pp (xL (v6.length + 1) (v6 ++ [(R6.mk (rd l0 (tn v19)).a (rd l0 (tn v19)).b (rd l0 (tn v19)).c (rd l0 (tn v19)).d (rd l0 (tn v19)).e (rd l0 (tn v19)).f)]).length) (pp (xL (v6.length + 1) (v6 ++ [(R6.mk (rd l0 (tn v19)).a (rd l0 (tn v19)).b (rd l0 (tn v19)).c (rd l0 (tn v19)).d (rd l0 (tn v19)).e (rd l0 (tn v19)).f)]).length) (pp (xS (v6.length + 1) (Zd (Zz v6) 0 v6.length 6 [(ii (rd l0 (tn v19)).a), (ii (rd l0 (tn v19)).b), (ii (rd l0 (tn v19)).c), (ii (rd l0 (tn v19)).d), (ii (rd l0 (tn v19)).e), (ii (rd l0 (tn v19)).f)]) (Zz (v6 ++ [(R6.mk (rd l0 (tn v19)).a (rd l0 (tn v19)).b (rd l0 (tn v19)).c (rd l0 (tn v19)).d (rd l0 (tn v19)).e (rd l0 (tn v19)).f)]))) (pp (fl aT (pp (xF (Zd (Zz v6) 0 v6.length 6 [(ii (rd l0 (tn v19)).a), (ii (rd l0 (tn v19)).b), (ii (rd l0 (tn v19)).c), (ii (rd l0 (tn v19)).d), (ii (rd l0 (tn v19)).e), (ii (rd l0 (tn v19)).f)])) (fl aB nn))) (ww o0 (tt k2 (ww dO (ww cX (tt k1 (ww cJ (ww bK (ww aH (tt k0 nn)))))))))))))))) (fun k2 => (sl z1d 64 [] ⟨(List.range 13), [], w5u, w5w⟩ ⟨[], [], []⟩ [true, false, false, true, true, true, true, true, true, true, false] (pp (fl aT (fl v6 (fl aB nn))) (tt k2 (ww dO (ww cX (tt k1 (ww cJ (ww bK (ww aH (tt k0 nn))))))))))))))) (fun k1 => (sl z1d 64 [] ⟨(List.range 13), [], w5u, w5w⟩ ⟨[], [], []⟩ [true, false, false, false, false, false, false, false, false, false, false] (pp (fl aT (fl v6 (fl aB nn))) (tt k1 (ww cJ (ww bK (ww aH (tt k0 nn))))))))))))) (fun k0 => (lo fun q1_0 => (lo fun q1_1 => (lo fun q1_2 => (lo fun q1_3 => (Wb (sl z1d (C' := ⟨⟨81, 0, true⟩, (Vk prog 81 [1, 1, 1, 1, 0, 1, 0, 1, 0, 0] 4), (Za prog 81 [1, 1, 1, 1, 0, 1, 0, 1, 0, 0] 1), (some 0), [], ⟨Yk [(7, (.ptr 3 0)), (8, (.ptr 5 0)), (9, (.ptr 6 0)), (10, (.ptr 7 0)), (11, (.ptr 8 0)), (22, (.dat v6.length (Zz v6))), (23, (.agg [(ii (rd aT (0 + (tn (wr (v5 - 1)))))), (ii (rd aT (0 + (tn v5))))])), (24, (.agg [(ii aV), (ii aW)])), (25, (ii x2))], z4j [(1, ⟨[(ii aV), (ii aW)], 110, none⟩), (2, ⟨[(ii x2)], 3, none⟩), (3, ⟨[(.sla 4 4 0 aB.length (.un 4))], 106, none⟩), (4, ⟨rows aB.length (Zz aB), 114, some ⟨4, aB.length, (Zz aB)⟩⟩), (5, ⟨[(.dat aC.length (Zz aC))], 158, none⟩), (6, ⟨[(ii bJ)], 3, none⟩), (7, ⟨[(ii aF)], 3, none⟩), (8, ⟨[(ii (rd aT (0 + (tn (wr (v5 - 1)))))), (ii (rd aT (0 + (tn v5))))], 110, none⟩), (9, ⟨[(.sla 10 1 0 bI (.un 1))], 47, none⟩), (10, ⟨rows aT.length (Zz aT), 3, some ⟨1, aT.length, (Zz aT)⟩⟩), (11, ⟨[(.dat l0.length (Zz l0))], 22, none⟩), (12, ⟨[(ii 0)], 3, none⟩)], 13, [], true⟩, [⟨⟨63, 0, true⟩, (Vk prog 121 [1, 0, 0, 1, 0, 0, 1, 1, 0] 12), (Za prog 121 [1, 0, 0, 1, 0, 0, 1, 1, 0] 1), none, [], Yk [(0, (.yld 0)), (1, (.ptr 9 0)), (2, (.ptr 11 0)), (3, (.ptr 12 0)), (5, (ii v5)), (49, (.yld 0)), (59, (.agg [(ii (rd aT (0 + (tn (wr (v5 - 1)))))), (ii (rd aT (0 + (tn v5))))])), (60, (.dat v6.length (Zz v6)))]⟩, ⟨⟨81, 0, true⟩, none, (.inRangeFunc 0 :: (Za prog 81 [1, 1, 1, 1, 0, 1, 0] 1)), none, (Zy prog 4), Yk [(6, .nils), (7, (.ptr 3 0))]⟩], (z4l [(0, ⟨.busy, none, 81, Yk [(4, (.ptr 1 0)), (5, (.ptr 2 0)), (7, (.ptr 3 0)), (8, (.ptr 5 0)), (9, (.ptr 6 0)), (10, (.ptr 7 0))], [20, 21], (Xi prog 81 [1, 1, 1, 1, 0, 1, 0, 0]), (Xi prog 81 [1, 1, 1, 1, 0, 1, 0, 1])⟩)])⟩) 26 [] ⟨[0, 1, 2, 3, 12, 4, 5, 6, 13, 7, 8, 9, 10], [11], [some [7, 8, 9, 10, 11, 22, 23, 24, 25], some [0, 1, 2, 3, 5, 49, 59, 60], some [6, 7]], [some [4, 5, 7, 8, 9, 10], none, none, none, none, none, none, none, none, none, none, none, none]⟩ ⟨[(22, .frz v6.length v6.length (Zz v6) (Zz v6))], [], [[(60, .frz v6.length v6.length (Zz v6) (Zz v6))], []]⟩ [false] (pp (xZ (z4q 6 6 0 v6.length v6.length (Zz v6)) v6.length (Zz v6)) (pp (xL v6.length v6.length) (pp (xS v6.length (Zz v6) (Zz v6)) (pp (xZ (z4q 6 6 0 v6.length v6.length (Zz v6)) v6.length (Zz v6)) (pp (xL v6.length v6.length) (pp (xS v6.length (Zz v6) (Zz v6)) (pp (fl aB (fl aT nn)) (pp (fl v6 nn) (ww q1_3 (ww q1_2 (ww q1_1 (ww q1_0 (tt k0 nn)))))))))))))) (lo fun aH => (lb (fun k1 => (lb (fun k2 => (lo fun cP => (lb (fun k3 => (sl z1d 30 [] ⟨(List.range 13), [], layN4, layM4⟩ ⟨[], [], []⟩ (trs 8 []) (pp (fl aB (fl aT nn)) (tt k3 (pp (pp (xr aC) (pp (xI R2 (Qq (cvT v6) (rd aT (0 + (tn (wr (v5 - 1))))) (rd aT (0 + (tn v5))) aV aW x2).length (Zz (Qq (cvT v6) (rd aT (0 + (tn (wr (v5 - 1))))) (rd aT (0 + (tn v5))) aV aW x2))) (xw cP))) (tt k2 (tt k1 (pp (pp (xr v6) (xw aH)) nn)))))))) (fun k3 => (sl z1d 33 [] ⟨[0, 1, 2, 3, 5, 6, 7, 8, 9, 10, 11, 12, 4], [], w5t, w5v⟩ ⟨[], [], []⟩ (trs 7 [false]) (pp (fl aT (fl aB nn)) (tt k3 (pp (pp (xr aC) (pp (xI R2 (Qq (cvT v6) (rd aT (0 + (tn (wr (v5 - 1))))) (rd aT (0 + (tn v5))) aV aW x2).length (Zz (Qq (cvT v6) (rd aT (0 + (tn (wr (v5 - 1))))) (rd aT (0 + (tn v5))) aV aW x2))) (xw cP))) (tt k2 (tt k1 (pp (pp (xr v6) (xw aH)) nn))))))))))) (fun k2 => (sl z1d 33 [] ⟨[0, 1, 2, 3, 5, 6, 7, 8, 9, 10, 11, 12, 4], [], w5t, w5v⟩ ⟨[], [], []⟩ (trs 4 [false, false, false, false]) (pp (fl aT (fl aB nn)) (tt k2 (tt k1 (pp (pp (xr v6) (xw aH)) nn)))))))) (fun k1 => (sl z1d 33 [] ⟨[0, 1, 2, 3, 5, 6, 7, 8, 9, 10, 11, 12, 4], [], w5t, w5v⟩ ⟨[], [], []⟩ [false, false, false, false, false, false, false, false] (pp (fl aT (fl aB nn)) (tt k1 (pp (pp (xr v6) (xw aH)) nn))))))))))))))
 | .h3 v61 v62 v63 cB aL aI bU aB bJ bA aO => (lb (fun k0 => (lo fun o0 => (lo fun o1 => (sl z1d 37 [] ⟨[0, 1, 2, 3, 4, 5, 6, 7, 8, 9, 10, 11, 15], [], w5t, w5v⟩ ⟨[], (kpB 3 [.cells [.len (aB ++ [(R4.mk aL (rd v61 (tn v63)).a aI (rd v61 (tn v63)).b)]).length], .keep, .keep, .keep, .keep, .keep, .keep, .keep, .keep, .rowed 4 (aB ++ [(R4.mk aL (rd v61 (tn v63)).a aI (rd v61 (tn v63)).b)]).length (Zz (aB ++ [(R4.mk aL (rd v61 (tn v63)).a aI (rd v61 (tn v63)).b)]))]), []⟩ [true] (pp (xL (aB.length + 1) (aB ++ [(R4.mk aL (rd v61 (tn v63)).a aI (rd v61 (tn v63)).b)]).length) (pp (xL (aB.length + 1) (aB ++ [(R4.mk aL (rd v61 (tn v63)).a aI (rd v61 (tn v63)).b)]).length) (pp (xS (aB.length + 1) (Zd (Zz aB) 0 aB.length 4 [(ii aL), (ii (rd v61 (tn v63)).a), (ii aI), (ii (rd v61 (tn v63)).b)]) (Zz (aB ++ [(R4.mk aL (rd v61 (tn v63)).a aI (rd v61 (tn v63)).b)]))) (pp (fl aO (pp (xF (Zd (Zz aB) 0 aB.length 4 [(ii aL), (ii (rd v61 (tn v63)).a), (ii aI), (ii (rd v61 (tn v63)).b)])) nn)) (ww o1 (ww o0 (tt k0 nn))))))))))) (fun k0 => (sl z1d 20 [] ⟨[0, 1, 2, 3, 4, 5, 6, 8, 9, 10, 11, 12], [], v4z, v5a⟩ ⟨[], [], []⟩ [false, false] (pp (fl aO (fl aB nn)) (tt k0 nn)))))
 | .h4 v14 cB aL aI bU aB bJ aF aK cF cG => (lb (fun k0 => (lo fun o0 => (lo fun o1 => (sl z1d 28 [] ⟨(List.range 13), [], layN4, layM4⟩ ⟨[], (kpB 3 [.cells [.len (aB.set (0 + (tn v14)) (R4.mk (rd aB (0 + (tn v14))).a (rd aB (0 + (tn v14))).b aI (rd aB (0 + (tn v14))).d)).length], .rowed 4 (aB.set (0 + (tn v14)) (R4.mk (rd aB (0 + (tn v14))).a (rd aB (0 + (tn v14))).b aI (rd aB (0 + (tn v14))).d)).length (Zz (aB.set (0 + (tn v14)) (R4.mk (rd aB (0 + (tn v14))).a (rd aB (0 + (tn v14))).b aI (rd aB (0 + (tn v14))).d))), .keep, .keep, .keep, .keep, .keep, .keep, .keep, .keep]), []⟩ [true] (pp (xL aB.length (aB.set (0 + (tn v14)) (R4.mk (rd aB (0 + (tn v14))).a (rd aB (0 + (tn v14))).b aI (rd aB (0 + (tn v14))).d)).length) (pp (xL aB.length (aB.set (0 + (tn v14)) (R4.mk (rd aB (0 + (tn v14))).a (rd aB (0 + (tn v14))).b aI (rd aB (0 + (tn v14))).d)).length) (pp (xS aB.length (Xc (Zz aB) (0 + (tn v14)) 2 [(ii aI)]) (Zz (aB.set (0 + (tn v14)) (R4.mk (rd aB (0 + (tn v14))).a (rd aB (0 + (tn v14))).b aI (rd aB (0 + (tn v14))).d)))) (pp (pp (xF (Xc (Zz aB) (0 + (tn v14)) 2 [(ii aI)])) (fl cG nn)) (ww o1 (ww o0 (tt k0 nn))))))))))) (fun k0 => (sl z1d 29 [] ⟨[0, 1, 2, 3, 5, 6, 7, 9, 10, 11, 12, 4], [], v4z, v5a⟩ ⟨[], [], []⟩ [false, false] (pp (fl cG (fl aB nn)) (tt k0 nn)))))
theorem x0a (l0 : List R6) (aV : Int) (aW : Int) (x2 : Int) : Ww prog (Zy prog 81) (layC l0 aV aW x2) (Zn prog 81 [(.dat l0.length (Zz l0)), (.agg [(.int .i64 aV), (.int .i64 aW)]), (.int .i64 x2)] true []) (y3z l0 aV aW x2) := (sl z1d 46 [(3, 1, Zz ([] : List Int))] ⟨[6, 7, 8, 0, 1, 2, 3, 4, 5, 9], [], layN0, layM0⟩ ⟨[], [.keep, .keep, .cells [.grow 9 1], .keep, .keep, .keep, .keep, .keep, .keep, .keep], []⟩ [] (pp (fl ([] : List Int) nn) nn))
theorem w5s (l0 : List R6) (aV : Int) (aW : Int) (x2 : Int) (n : Nat) (vs : List AVal) (h : Yv (Xb l0 aV aW x2) n (y3z l0 aV aW x2) = .ret vs) : Kz prog (Zy prog 81) (Zn prog 81 [(.dat l0.length (Zz l0)), (.agg [(.int .i64 aV), (.int .i64 aW)]), (.int .i64 x2)] true []) vs := by
 have := Zr (x5w l0 aV aW x2) n _ (x0a l0 aV aW x2)
 rwa [h] at this
end Go.Am
namespace Go.Am
open Go.Proofs Go.Sort Go.Shelf Go.RowKit Go.Lib
structure Qj (β : Type) where
 a : Int
 b : Int
 s : List β
def ptL {β γ : Type} (inB : β → γ → Prop) (s : List β) (q : γ) : Prop := ∃ r ∈ s, inB r q
theorem y9r {β γ : Type} (inB : β → γ → Prop) (q : γ) : ¬ ptL inB [] q := fun ⟨_, h, _⟩ => by cases h
structure Sem (β γ : Type) where
 can : List β → Prop
 inB : β → γ → Prop
 uniq : ∀ s t, can s → can t → (∀ q, ptL inB s q ↔ ptL inB t q) → s = t
 some : ∀ s, can s → s ≠ [] → ∃ q, ptL inB s q
 nil : can []
section
variable {β γ : Type} (M : Sem β γ)
def OkS (g : Qj β) : Prop := g.a < g.b ∧ M.can g.s ∧ g.s ≠ []
def Nxt (g h : Qj β) : Prop := g.b ≤ h.a ∧ (g.b = h.a → g.s ≠ h.s)
inductive z1e : List (Qj β) → Prop
 | nil : z1e []
 | one (g : Qj β) (h : OkS M g) : z1e [g]
 | cons (g h : Qj β) (r : List (Qj β)) (ok : OkS M g) (nx : Nxt g h) (k : z1e (h :: r)) : z1e (g :: h :: r)
def ptG (G : List (Qj β)) (x : Int) (q : γ) : Prop := ∃ g ∈ G, g.a ≤ x ∧ x < g.b ∧ ptL M.inB g.s q
variable {M}
theorem z1e.head {g : Qj β} {r : List (Qj β)} (h : z1e M (g :: r)) : OkS M g := by cases h <;> assumption
theorem z1e.tail {g : Qj β} {r : List (Qj β)} (h : z1e M (g :: r)) : z1e M r := by
 cases h with
 | one => exact .nil
 | cons _ _ _ _ _ k => exact k
theorem z1e.later {g : Qj β} {r : List (Qj β)} (h : z1e M (g :: r)) : ∀ k ∈ r, g.b ≤ k.a := by
 induction r generalizing g with
 | nil => intro k hk; cases hk
 | cons k r ih =>
  cases h with
  | cons _ _ _ ok nx kk =>
   intro m hm
   rcases List.mem_cons.1 hm with rfl | hm
   ·exact nx.1
   ·have h1 := ih kk m hm
    have h2 := kk.head.1
    have h3 := nx.1
    omega
theorem z1e.all {G : List (Qj β)} (h : z1e M G) : ∀ g ∈ G, OkS M g := by
 induction G with
 | nil => intro g hg; cases hg
 | cons k r ih =>
  intro g hg
  rcases List.mem_cons.1 hg with rfl | hg
  ·exact h.head
  ·exact ih h.tail g hg
theorem z1e.before {G : List (Qj β)} {g : Qj β} (k : z1e M (G ++ [g])) : ∀ m ∈ G, m.b ≤ g.a := by
 induction G with
 | nil => intro m hm; cases hm
 | cons m r ih =>
  intro n hn
  rcases List.mem_cons.1 hn with rfl | hn
  ·exact k.later g (by simp)
  ·exact ih k.tail n hn
theorem z1e.snoc {G : List (Qj β)} {g h : Qj β} (k : z1e M (G ++ [g])) (ok : OkS M h) (nx : Nxt g h) : z1e M (G ++ [g] ++ [h]) := by
 induction G with
 | nil => exact .cons g h [] k.head nx (.one h ok)
 | cons m r ih =>
  have i := ih k.tail
  cases r with
  | nil =>
   cases k with
   | cons _ _ _ ok1 nx1 k1 => exact .cons m g [h] ok1 nx1 i
  | cons m2 r =>
   cases k with
   | cons _ _ _ ok1 nx1 k1 => exact .cons m m2 _ ok1 nx1 i
theorem z1e.stretch {G : List (Qj β)} {g : Qj β} {x : Int} (k : z1e M (G ++ [g])) (hx : g.b ≤ x) : z1e M (G ++ [⟨g.a, x, g.s⟩]) := by
 induction G with
 | nil =>
  have := k.head
  exact .one _ ⟨by have := this.1; show g.a < x; omega, this.2⟩
 | cons m r ih =>
  have i := ih k.tail
  cases r with
  | nil =>
   cases k with
   | cons _ _ _ ok1 nx1 k1 => exact .cons m _ [] ok1 nx1 i
  | cons m2 r =>
   cases k with
   | cons _ _ _ ok1 nx1 k1 => exact .cons m m2 _ ok1 nx1 i
theorem z4d (g : Qj β) (G : List (Qj β)) (x : Int) (q : γ) : ptG M (g :: G) x q ↔ (g.a ≤ x ∧ x < g.b ∧ ptL M.inB g.s q) ∨ ptG M G x q := by
 constructor
 ·rintro ⟨k, hk, h⟩
  rcases List.mem_cons.1 hk with rfl | hk
  ·exact .inl h
  ·exact .inr ⟨k, hk, h⟩
 ·rintro (h | ⟨k, hk, h⟩)
  ·exact ⟨g, by simp, h⟩
  ·exact ⟨k, by simp [hk], h⟩
theorem y2g (G H : List (Qj β)) (x : Int) (q : γ) : ptG M (G ++ H) x q ↔ ptG M G x q ∨ ptG M H x q := by
 constructor
 ·rintro ⟨k, hk, h⟩
  rcases List.mem_append.1 hk with hk | hk
  ·exact .inl ⟨k, hk, h⟩
  ·exact .inr ⟨k, hk, h⟩
 ·rintro (⟨k, hk, h⟩ | ⟨k, hk, h⟩)
  ·exact ⟨k, List.mem_append.2 (.inl hk), h⟩
  ·exact ⟨k, List.mem_append.2 (.inr hk), h⟩
theorem z1e.low {g : Qj β} {r : List (Qj β)} (h : z1e M (g :: r)) {x : Int} {q : γ} (hp : ptG M (g :: r) x q) : g.a ≤ x := by
 rcases (z4d g r x q).1 hp with hp | ⟨k, hk, h1, _⟩
 ·exact hp.1
 ·have := h.later k hk
  have := h.head.1
  omega
theorem z1e.rest {g : Qj β} {r : List (Qj β)} (h : z1e M (g :: r)) (x : Int) (q : γ) : ptG M r x q ↔ g.b ≤ x ∧ ptG M (g :: r) x q := by
 constructor
 ·rintro ⟨k, hk, h1, h2⟩
  have := h.later k hk
  exact ⟨by omega, k, by simp [hk], h1, h2⟩
 ·rintro ⟨hx, hp⟩
  rcases (z4d g r x q).1 hp with hp | hp
  ·omega
  ·exact hp
theorem z1e.sec0 {g : Qj β} {r : List (Qj β)} (h : z1e M (g :: r)) {x : Int} (hx : g.a ≤ x ∧ x < g.b) (q : γ) : ptG M (g :: r) x q ↔ ptL M.inB g.s q := by
 rw [z4d]
 constructor
 ·rintro (h1 | ⟨k, hk, h1, _⟩)
  ·exact h1.2.2
  ·have := h.later k hk; omega
 ·exact fun h1 => .inl ⟨hx.1, hx.2, h1⟩
theorem y7j : ∀ (G H : List (Qj β)), z1e M G → z1e M H → (∀ x q, ptG M G x q ↔ ptG M H x q) → G = H
 | [], [], _, _, _ => rfl
 | [], h :: H, _, hH, e => by
  obtain ⟨q, hq⟩ := M.some _ hH.head.2.1 hH.head.2.2
  have := (e h.a q).2 ((hH.sec0 ⟨Int.le_refl _, hH.head.1⟩ q).2 hq)
  obtain ⟨k, hk, _⟩ := this; cases hk
 | g :: G, [], hG, _, e => by
  obtain ⟨q, hq⟩ := M.some _ hG.head.2.1 hG.head.2.2
  have := (e g.a q).1 ((hG.sec0 ⟨Int.le_refl _, hG.head.1⟩ q).2 hq)
  obtain ⟨k, hk, _⟩ := this; cases hk
 | g :: G, h :: H, hG, hH, e => by
  have og := hG.head
  have oh := hH.head
  obtain ⟨q, hq⟩ := M.some _ og.2.1 og.2.2
  obtain ⟨p, hp⟩ := M.some _ oh.2.1 oh.2.2
  have a1 : h.a ≤ g.a := hH.low ((e g.a q).1 ((hG.sec0 ⟨Int.le_refl _, og.1⟩ q).2 hq))
  have a2 : g.a ≤ h.a := hG.low ((e h.a p).2 ((hH.sec0 ⟨Int.le_refl _, oh.1⟩ p).2 hp))
  have a3 : g.a = h.a := by omega
  have s1 : g.s = h.s := M.uniq _ _ og.2.1 oh.2.1 fun q => by
   rw [← hG.sec0 (x := g.a) ⟨Int.le_refl _, og.1⟩, e, hH.sec0 (x := g.a) ⟨by omega, by have := oh.1; omega⟩]
  have key : ∀ (g h : Qj β) (G H : List (Qj β)), z1e M (g :: G) → z1e M (h :: H) → (∀ x q, ptG M (g :: G) x q ↔ ptG M (h :: H) x q) → g.a = h.a → g.s = h.s → ¬ g.b < h.b := fun g h G H hG hH e ea es hlt => by
   have og := hG.head
   have oh := hH.head
   have at_ : ∀ q, ptG M (g :: G) g.b q ↔ ptL M.inB h.s q := fun q => by
    rw [e, hH.sec0 ⟨by have := og.1; omega, hlt⟩]
   obtain ⟨q, hq⟩ := M.some _ oh.2.1 oh.2.2
   have := (hG.rest g.b q).2 ⟨Int.le_refl _, (at_ q).2 hq⟩
   cases hG with
   | one => obtain ⟨k, hk, _⟩ := this; cases hk
   | cons _ k r ok nx kk =>
    have hk : k.a ≤ g.b := kk.low this
    have hk2 : g.b = k.a := by have := nx.1; omega
    refine nx.2 hk2 ?_
    rw [es]
    refine M.uniq _ _ oh.2.1 kk.head.2.1 fun p => ?_
    rw [← at_, ← kk.sec0 (x := g.b) ⟨by omega, by have := kk.head.1; omega⟩]
    constructor
    ·exact fun hp => ((z1e.cons g k r ok nx kk).rest g.b p).2 ⟨Int.le_refl _, hp⟩
    ·exact fun hp => (((z1e.cons g k r ok nx kk).rest g.b p).1 hp).2
  have b1 := key g h G H hG hH e a3 s1
  have b2 := key h g H G hH hG (fun x q => (e x q).symm) a3.symm s1.symm
  have b3 : g.b = h.b := by omega
  have eg : g = h := by
   obtain ⟨ga, gb, gs⟩ := g
   obtain ⟨ha, hb, hs⟩ := h
   simp only at a3 b3 s1
   subst_vars; rfl
  subst eg
  congr 1
  exact y7j G H hG.tail hH.tail fun x q => by rw [hG.rest, hH.rest, e]
end
namespace Dim
variable {α β : Type} (D : Dim α β)
def flat (G : List (Qj β)) : List α := G.flatMap fun g => g.s.map (D.put g.a g.b)
theorem flat_append (G H : List (Qj β)) : D.flat (G ++ H) = D.flat G ++ D.flat H := by simp [flat]
theorem flat_one (g : Qj β) : D.flat [g] = g.s.map (D.put g.a g.b) := by simp [flat]
def inA {γ : Type} (inB : β → γ → Prop) (r : α) (p : Int × γ) : Prop := D.lo r ≤ p.1 ∧ p.1 < D.hi r ∧ inB (D.pr r) p.2
variable {D}
theorem y4h (hD : D.Fair) {γ : Type} (M : Sem β γ) (G : List (Qj β)) (x : Int) (q : γ) : ptL (D.inA M.inB) (D.flat G) (x, q) ↔ ptG M G x q := by
 constructor
 ·rintro ⟨r, hr, h⟩
  obtain ⟨g, hg, hr⟩ := List.mem_flatMap.1 hr
  obtain ⟨b, hb, rfl⟩ := List.mem_map.1 hr
  unfold inA at h
  rw [hD.lo_put, hD.hi_put, hD.pr_put] at h
  exact ⟨g, hg, h.1, h.2.1, b, hb, h.2.2⟩
 ·rintro ⟨g, hg, h1, h2, b, hb, h3⟩
  refine ⟨D.put g.a g.b b, List.mem_flatMap.2 ⟨g, hg, List.mem_map.2 ⟨b, hb, rfl⟩⟩, ?_⟩
  unfold inA
  rw [hD.lo_put, hD.hi_put, hD.pr_put]
  exact ⟨h1, h2, h3⟩
def can {γ : Type} (M : Sem β γ) (l : List α) : Prop := ∃ G, z1e M G ∧ l = D.flat G
def sem (hD : D.Fair) {γ : Type} (M : Sem β γ) : Sem α (Int × γ) where
 can := D.can M
 inB := D.inA M.inB
 uniq := fun s t ⟨G, hG, e1⟩ ⟨H, hH, e2⟩ h => by
  subst e1 e2
  rw [y7j G H hG hH fun x q => by rw [← y4h hD, ← y4h hD]; exact h (x, q)]
 some := fun s ⟨G, hG, e1⟩ hs => by
  subst e1
  cases G with
  | nil => exact absurd rfl hs
  | cons g G =>
   obtain ⟨q, hq⟩ := M.some _ hG.head.2.1 hG.head.2.2
   exact ⟨(g.a, q), (y4h hD M _ _ _).2 ((hG.sec0 ⟨Int.le_refl _, hG.head.1⟩ q).2 hq)⟩
 nil := ⟨[], .nil, rfl⟩
variable (D)
def oneS (sec : List β) (x x' : Int) (s : Sw α β) : Sw α β :=
 bif decide (0 < sec.length) && ((s.fin == x) && D.same s.last sec) then ⟨D.grow s.out s.first x', s.last, s.first, x'⟩
 else ⟨s.out ++ sec.map (D.put x x'), sec, s.out.length, x'⟩
def goS (sec : Int → List β) (cs : List Int) : Nat → Nat → Sw α β → Sw α β
 | 0, _, s => s
 | k + 1, i, s => goS sec cs k (i + 1) (D.oneS (sec (rd cs i)) (rd cs i) (rd cs (i + 1)) s)
theorem v1o (l : List α) : ∀ (k i : Nat) (s : Sw α β), D.go l k i s = D.goS (D.sec l) (D.cuts l) k i s
 | 0, _, _ => rfl
 | k + 1, i, s => v1o l k (i + 1) _
variable {D}
structure Inv {γ : Type} (M : Sem β γ) (sec : Int → List β) (cs : List Int) (i : Nat) (s : Sw α β) (G : List (Qj β)) : Prop where
 can : z1e M G
 out : s.out = D.flat G
 gap : s.last = [] → ∀ g ∈ G, g.b < rd cs i
 end_ : s.last ≠ [] → ∃ Gp g, G = Gp ++ [g] ∧ g.s = s.last ∧ g.b = rd cs i ∧ s.fin = rd cs i ∧ s.first = (D.flat Gp).length
 pts : ∀ x q, ptG M G x q ↔ ∃ j, j < i ∧ rd cs j ≤ x ∧ x < rd cs (j + 1) ∧ ptL M.inB (sec (rd cs j)) q
theorem w6c (hD : D.Fair) (hs : ∀ a b, D.same a b = true ↔ a = b) {γ : Type} (M : Sem β γ) {sec : Int → List β} {cs : List Int} (hc : cs.Pairwise (· < ·)) (fD : ∀ x, M.can (sec x)) {i : Nat} (hi : i + 1 < cs.length) {s : Sw α β} {G : List (Qj β)} (h : Inv (D := D) M sec cs i s G) :
  ∃ G', Inv (D := D) M sec cs (i + 1) (D.oneS (sec (rd cs i)) (rd cs i) (rd cs (i + 1)) s) G' := by
 have hlt : rd cs i < rd cs (i + 1) := y3u hc (Nat.lt_succ_self _) hi
 unfold oneS
 rcases Ya (decide (0 < (sec (rd cs i)).length) && ((s.fin == rd cs i) && D.same s.last (sec (rd cs i)))) with q | q
 ·rw [q, cond_true]
  simp only [Bool.and_eq_true, decide_eq_true_eq] at q
  obtain ⟨q1, q2, q3⟩ := q
  have q3 := (hs _ _).1 q3
  have hne : s.last ≠ [] := fun e => by rw [e] at q3; rw [← q3] at q1; exact Nat.lt_irrefl _ q1
  obtain ⟨Gp, g, e1, e2, e3, e4, e5⟩ := h.end_ hne
  subst e1
  refine ⟨Gp ++ [⟨g.a, rd cs (i + 1), g.s⟩], h.can.stretch (by omega), ?_, fun e => absurd e hne, fun _ => ⟨Gp, _, rfl, e2, rfl, rfl, e5⟩, fun x p => ?_⟩
  ·show D.grow s.out s.first (rd cs (i + 1)) = _
   rw [h.out, e5]
   unfold grow
   rw [D.flat_append, D.flat_append, D.flat_one, D.flat_one, List.take_left, List.drop_left, List.map_map]
   congr 1
   exact List.map_congr_left fun b _ => hD.ext_put _ _ _ _
  ·have hp := h.pts x p
   rw [y2g, z4d] at hp ⊢
   have z : ¬ ptG M ([] : List (Qj β)) x p := fun ⟨_, hk, _⟩ => by cases hk
   constructor
   ·rintro (h1 | h1 | h1)
    ·obtain ⟨j, j1, j2⟩ := hp.1 (.inl h1)
     exact ⟨j, by omega, j2⟩
    ·simp only at h1
     by_cases hx : x < g.b
     ·obtain ⟨j, j1, j2⟩ := hp.1 (.inr (.inl ⟨h1.1, hx, h1.2.2⟩))
      exact ⟨j, by omega, j2⟩
     ·exact ⟨i, Nat.lt_succ_self _, by omega, h1.2.1, by rw [← q3, ← e2]; exact h1.2.2⟩
    ·exact absurd h1 z
   ·rintro ⟨j, j1, j2, j3, j4⟩
    rcases Nat.eq_or_lt_of_le (Nat.le_of_lt_succ j1) with rfl | j1
    ·refine .inr (.inl ⟨?_, j3, ?_⟩)
     ·have := (h.can.all g (by simp)).1; show g.a ≤ x; omega
     ·show ptL M.inB g.s p
      rw [e2, q3]; exact j4
    ·rcases hp.2 ⟨j, j1, j2, j3, j4⟩ with h1 | h1 | h1
     ·exact .inl h1
     ·exact .inr (.inl ⟨h1.1, by show x < rd cs (i + 1); omega, h1.2.2⟩)
     ·exact absurd h1 z
 ·rw [q, cond_false]
  by_cases he : sec (rd cs i) = []
  ·rw [he]
   refine ⟨G, h.can, ?_, fun _ g hg => ?_, fun e => absurd rfl e, fun x p => ?_⟩
   ·show s.out ++ [].map _ = _
    rw [List.map_nil, List.append_nil, h.out]
   ·by_cases hl : s.last = []
    ·have := h.gap hl g hg; omega
    ·obtain ⟨Gp, g', e1, e2, e3, _⟩ := h.end_ hl
     subst e1
     rcases List.mem_append.1 hg with hg | hg
     ·have := h.can.before g hg
      have := (h.can.all g' (by simp)).1
      omega
     ·rw [List.mem_singleton.1 hg]; omega
   ·rw [h.pts]
    constructor
    ·rintro ⟨j, j1, j2⟩; exact ⟨j, by omega, j2⟩
    ·rintro ⟨j, j1, j2, j3, j4⟩
     rcases Nat.eq_or_lt_of_le (Nat.le_of_lt_succ j1) with rfl | j1
     ·rw [he] at j4; exact absurd j4 (y9r _ _)
     ·exact ⟨j, j1, j2, j3, j4⟩
  ·have ok : OkS M (⟨rd cs i, rd cs (i + 1), sec (rd cs i)⟩ : Qj β) := ⟨hlt, fD _, he⟩
   have hcan : z1e M (G ++ [⟨rd cs i, rd cs (i + 1), sec (rd cs i)⟩]) := by
    rcases List.eq_nil_or_concat G with rfl | ⟨Gp, g, rfl⟩
    ·exact .one _ ok
    ·rw [List.concat_eq_append] at *
     refine h.can.snoc ok ?_
     by_cases hl : s.last = []
     ·have := h.gap hl g (by simp)
      exact ⟨by show g.b ≤ rd cs i; omega, fun e => by simp only at e; omega⟩
     ·obtain ⟨Gp', g', e1, e2, e3, e4, _⟩ := h.end_ hl
      obtain ⟨rfl, e⟩ := List.append_inj' e1 rfl
      obtain rfl : g = g' := by simpa using e
      refine ⟨by show g.b ≤ rd cs i; omega, fun _ e => ?_⟩
      rw [decide_eq_true (show 0 < (sec (rd cs i)).length from List.length_pos_iff.2 he), e4, (hs _ _).2 (e2.symm.trans e)] at q
      simp at q
   refine ⟨_, hcan, ?_, fun e => absurd e he, fun _ => ⟨G, _, rfl, rfl, rfl, rfl, by show s.out.length = _; rw [h.out]⟩, fun x p => ?_⟩
   ·show s.out ++ _ = _
    rw [D.flat_append, D.flat_one, h.out]
   ·rw [y2g, z4d, h.pts]
    have z : ¬ ptG M ([] : List (Qj β)) x p := fun ⟨_, hk, _⟩ => by cases hk
    constructor
    ·rintro (⟨j, j1, j2⟩ | h1 | h1)
     ·exact ⟨j, by omega, j2⟩
     ·exact ⟨i, Nat.lt_succ_self _, h1⟩
     ·exact absurd h1 z
    ·rintro ⟨j, j1, j2, j3, j4⟩
     rcases Nat.eq_or_lt_of_le (Nat.le_of_lt_succ j1) with rfl | j1
     ·exact .inr (.inl ⟨j2, j3, j4⟩)
     ·exact .inl ⟨j, j1, j2, j3, j4⟩
theorem v1i (hD : D.Fair) (hs : ∀ a b, D.same a b = true ↔ a = b) {γ : Type} (M : Sem β γ) {sec : Int → List β} {cs : List Int} (hc : cs.Pairwise (· < ·)) (fD : ∀ x, M.can (sec x)) : ∀ (k i : Nat) (s : Sw α β) (G : List (Qj β)), i + k < cs.length ∨ k = 0 → Inv (D := D) M sec cs i s G →
  ∃ G', Inv (D := D) M sec cs (i + k) (D.goS sec cs k i s) G'
 | 0, i, s, G, _, h => ⟨G, h⟩
 | k + 1, i, s, G, hk, h => by
  obtain ⟨G1, h1⟩ := w6c hD hs M hc fD (show i + 1 < cs.length by omega) h
  obtain ⟨G2, h2⟩ := v1i hD hs M hc fD k (i + 1) _ G1 (by omega) h1
  exact ⟨G2, by rw [show i + (k + 1) = i + 1 + k by omega]; exact h2⟩
theorem v5m (hD : D.Fair) (hs : ∀ a b, D.same a b = true ↔ a = b) {γ : Type} (M : Sem β γ) {sec : Int → List β} {cs : List Int} (hc : cs.Pairwise (· < ·)) (fD : ∀ x, M.can (sec x)) :
  (D.sem hD M).can (D.goS sec cs (cs.length - 1) 0 ⟨[], [], 0, 0⟩).out ∧ ∀ x q, ptL (D.sem hD M).inB (D.goS sec cs (cs.length - 1) 0 ⟨[], [], 0, 0⟩).out (x, q) ↔ ∃ j, j + 1 < cs.length ∧ rd cs j ≤ x ∧ x < rd cs (j + 1) ∧ ptL M.inB (sec (rd cs j)) q := by
 obtain ⟨G, h⟩ := v1i hD hs M hc fD (cs.length - 1) 0 ⟨[], [], 0, 0⟩ [] (by omega) ⟨.nil, rfl, fun _ g hg => by (cases hg), fun e => absurd rfl e, fun x q => ⟨fun ⟨_, hg, _⟩ => (by cases hg), fun ⟨j, hj, _⟩ => absurd hj (Nat.not_lt_zero _)⟩⟩
 refine ⟨⟨G, h.can, h.out⟩, fun x q => ?_⟩
 rw [h.out]
 rw [show ptL (D.sem hD M).inB (D.flat G) (x, q) ↔ ptG M G x q from y4h hD M G x q, h.pts]
 constructor
 ·rintro ⟨j, h1, h2⟩; exact ⟨j, by omega, h2⟩
 ·rintro ⟨j, h1, h2⟩; exact ⟨j, by omega, h2⟩
end Dim
end Go.Am
namespace Go.Am
open Go.Proofs.Tryz
open Go.Proofs Go.Sort Go.Shelf Go.RowKit Go.Lib
namespace Dim
variable {α β : Type} (D : Dim α β)
def goX (S : Int → Int → List β) (cs : List Int) : Nat → Nat → Sw α β → Sw α β
 | 0, _, s => s
 | k + 1, i, s => goX S cs k (i + 1) (D.oneS (S (rd cs i) (rd cs (i + 1))) (rd cs i) (rd cs (i + 1)) s)
theorem oneS_length (q : List β) (x x' : Int) (s : Sw α β) : (D.oneS q x x' s).out.length ≤ s.out.length + q.length := by
 unfold oneS
 cases (decide (0 < q.length) && ((s.fin == x) && D.same s.last q)) <;> simp [grow_length]
end Dim
def okX {β : Type} (S : Int → Int → List β) (cs : List Int) : Nat → Nat → Bool
 | 0, _ => true
 | k + 1, i => bif decide (((S (rd cs i) (rd cs (i + 1))).length : Int) > 400) then false else okX S cs k (i + 1)
theorem y0t (L : List R6) (a b e f : Int) (cs : List Int) : ∀ (k i : Nat) (o : List R2), (v7p L a b e f cs k i o).length ≤ o.length + k
 | 0, _, _ => Nat.le_refl _
 | k + 1, i, o => by
  unfold v7p
  have h1 := y0t L a b e f cs k (i + 1) (bif w3a (crS R6.b R6.e L (rd cs i) (rd cs (i + 1))) a b (rd cs i) (rd cs (i + 1)) e f then v7r o (rd cs i) (rd cs (i + 1)) else o)
  have h2 := y0u o (rd cs i) (rd cs (i + 1))
  revert h1
  cases w3a (crS R6.b R6.e L (rd cs i) (rd cs (i + 1))) a b (rd cs i) (rd cs (i + 1)) e f <;> simp only [cond_true, cond_false] <;> omega
theorem x1n (L : List R6) (a b e f n : Int) : (Qq L a b e f n).length ≤ (rnC R6.b R6.e n L).length := by
 have := y0t L a b e f (rnC R6.b R6.e n L) ((rnC R6.b R6.e n L).length - 1) 0 []
 unfold Qq
 simp only [List.length_nil] at this; omega
theorem v1g {L : List R6} {a b n : Int} (hl : L.length ≤ 400) {i : Nat} (hi : i + 1 < (rnC R6.a R6.d n L).length) (out : List R4) (last : List R2) (first fin : Int) : ∀ (k j : Nat) (acc : List R6), j + k = L.length → acc.length ≤ j →
  ∃ N, ∀ M, Yv (Xb L a b n) (M + N) (.to (.h2 ((i + 1 : Nat) : Int) acc (j : Int) out last first fin (rnC R6.a R6.d n L).length (Xy (Ye (rnE R6.a R6.d n L))))) = Yv (Xb L a b n) M (.to (.h2 ((i + 1 : Nat) : Int) (acc ++ crS R6.a R6.d (L.drop j) (rd (rnC R6.a R6.d n L) i) (rd (rnC R6.a R6.d n L) (i + 1))) (L.length : Int) out last first fin (rnC R6.a R6.d n L).length (Xy (Ye (rnE R6.a R6.d n L)))))
 | 0, j, acc, h, ha => by
  refine ⟨0, fun M => ?_⟩
  rw [List.drop_eq_nil_of_le (by omega), show crS R6.a R6.d ([] : List R6) (rd (rnC R6.a R6.d n L) i) (rd (rnC R6.a R6.d n L) (i + 1)) = [] from rfl, List.append_nil, Nat.add_zero, show j = L.length by omega]
 | k + 1, j, acc, h, ha => by
  have hj : j < L.length := by omega
  have hc := Vu R6.a R6.d n L
  have hpl : (Xy (Ye (rnE R6.a R6.d n L))).length = 4 * L.length := by rw [Wi, Wu, Wz]
  have r0 : rd (Xy (Ye (rnE R6.a R6.d n L))) i = rd (rnC R6.a R6.d n L) i := Us _ _ (by show i < (rnC R6.a R6.d n L).length; omega)
  have r1 : rd (Xy (Ye (rnE R6.a R6.d n L))) (i + 1) = rd (rnC R6.a R6.d n L) (i + 1) := Us _ _ (by show i + 1 < (rnC R6.a R6.d n L).length; omega)
  have e1 : IntKind.wrap .i64 (((i + 1 : Nat) : Int) - 1) = (i : Int) := by rw [Zc]; exact Zj (by omega)
  have hw : IntKind.wrap .i64 ((j : Int) + 1) = ((j + 1 : Nat) : Int) := Zj (by omega)
  obtain ⟨N, hN⟩ := v1g hl hi out last first fin k (j + 1) (acc ++ crS R6.a R6.d [rd L j] (rd (rnC R6.a R6.d n L) i) (rd (rnC R6.a R6.d n L) (i + 1))) (by omega) (by have := Kv R6.a R6.d [rd L j] (rd (rnC R6.a R6.d n L) i) (rd (rnC R6.a R6.d n L) (i + 1)); simp only [List.length_append, List.length_singleton] at *; omega)
  refine ⟨N + 1, fun M => ?_⟩
  have e : crS R6.a R6.d (L.drop j) (rd (rnC R6.a R6.d n L) i) (rd (rnC R6.a R6.d n L) (i + 1)) = crS R6.a R6.d [rd L j] (rd (rnC R6.a R6.d n L) i) (rd (rnC R6.a R6.d n L) (i + 1)) ++ crS R6.a R6.d (L.drop (j + 1)) (rd (rnC R6.a R6.d n L) i) (rd (rnC R6.a R6.d n L) (i + 1)) := by
   rw [Yc hj, ← z6i]; rfl
  rw [e, ← Nat.add_assoc, Zv, ← List.append_assoc, ← hN M]
  by_cases h1 : (rd L j).a < rd (rnC R6.a R6.d n L) (i + 1)
  ·by_cases h2 : rd (rnC R6.a R6.d n L) i < (rd L j).d
   ·rw [v7m h1 h2]
    simp (disch := omega) only [Xb, e1, r0, r1, hw, Zb, Zk, Zo, Zt, Yz, Yw, Yu, Zf, Zj, Zw, Yp, Zq, Nat.zero_add, decide_true, Bool.and_true, Bool.true_and, cond_true, cond_false]
   ·rw [w2b h2, List.append_nil]
    simp (disch := omega) only [Xb, Zs, e1, r0, r1, hw, Zb, Zk, Zo, Zt, Yz, Yw, Yu, Zf, Zj, Zw, Yp, Zq, Nat.zero_add, decide_true, Bool.and_true, Bool.true_and, cond_true, cond_false]
  ·rw [w2c h1, List.append_nil]
   simp (disch := omega) only [Xb, Zs, e1, r0, r1, hw, Zb, Zk, Zo, Zt, Yz, Yw, Yu, Zf, Zj, Zw, Yp, Zq, Nat.zero_add, decide_true, Bool.and_true, Bool.true_and, cond_true, cond_false]
theorem v1h {L : List R6} {a b n : Int} (hl : L.length ≤ 400) (hn : n ≠ 0) {R : List AVal} (hR : ∃ N, Yv (Xb L a b n) N (.to (.h1 1 [] [] 0 0 (rnC R6.a R6.d n L).length (Xy (Ye (rnE R6.a R6.d n L))))) = .ret R) : ∀ (k i : Nat) (acc : List Int), i + k = L.length → acc = rnE R6.a R6.d n (L.take i) → ∃ N, Yv (Xb L a b n) N (.to (.h0 (i : Int) acc)) = .ret R
 | 0, i, acc, h, ha => by
  have e : acc = (rnE R6.a R6.d n L) := by rw [ha, List.take_of_length_le (by omega)]
  subst e
  have hle := Wz R6.a R6.d n L
  obtain ⟨N, hN⟩ := hR
  refine ⟨N + 1, ?_⟩
  rw [Zv]
  simp (disch := omega) only [Xb, Ux, Kx, z6j, Zs, Yw, Yu, decide_true, cond_true, cond_false]
  exact hN
 | k + 1, i, acc, h, ha => by
  have hle := Wz R6.a R6.d n (L.take i)
  have fP : acc.length ≤ 4 * i := by rw [ha, hle]; simp; omega
  obtain ⟨N, hN⟩ := v1h hl hn hR k (i + 1) (acc ++ rnE R6.a R6.d n [rd L i]) (by omega) (by
   rw [ha, List.take_add_one]
   have : L[i]? = some (rd L i) := by rw [Xe (show i < L.length by omega)]; exact List.getElem?_eq_getElem _
   rw [this, z5s]; rfl)
  refine ⟨N + 1, ?_⟩
  rw [Zv]
  simp (disch := omega) only [Xb, w7j hn, Zb, Zk, Zo, Zt, Yz, Yw, Yu, Zf, Zj, Zw, Yp, Zq, Nat.zero_add, decide_true, Bool.and_true, Bool.true_and, cond_true, cond_false]
  exact hN
def layQ (L : List R6) (a b n : Int) (x x' : Int) : List R2 := (Qq (crS R6.a R6.d L x x') x x' a b n)
theorem v1f {L : List R6} {a b n : Int} (hl : L.length ≤ 400) (i : Nat) (hi : i ≤ 2000) (x x' : Int) (q : List R2) (first : Int) (inn : List R6) (hq : q.length ≤ 2000) : ∀ (k j : Nat) (out : List R4), j + k = q.length → out.length ≤ 10000000 + j →
  ∃ N, ∀ M, Yv (Xb L a b n) (M + N) (.to (.h3 q (q.length : Int) (j : Int) (i : Int) x x' inn out first (rnC R6.a R6.d n L).length (Xy (Ye (rnE R6.a R6.d n L))))) = Yv (Xb L a b n) M (.to (.h1 ((i + 1 : Nat) : Int) (out ++ (q.drop j).map (D4.put x x')) q first x' (rnC R6.a R6.d n L).length (Xy (Ye (rnE R6.a R6.d n L)))))
 | 0, j, out, h, ho => by
  refine ⟨1, fun M => ?_⟩
  rw [List.drop_eq_nil_of_le (by omega), Zv]
  simp (disch := omega) only [Xb, Zs, Zj, Zw, cond_false, List.map_nil, List.append_nil]
 | k + 1, j, out, h, ho => by
  obtain ⟨N, hN⟩ := v1f hl i hi x x' q first inn hq k (j + 1) (out ++ [D4.put x x' (rd q j)]) (by omega) (by simp; omega)
  refine ⟨N + 1, fun M => ?_⟩
  have := hN M
  rw [Yc (show j < q.length by omega), List.map_cons, ← Nat.add_assoc, Zv]
  simp (disch := omega) only [Xb, Zb, Zk, Zo, Zt, Yz, Yw, Yu, Zf, Zj, Zw, Yp, Zq, Nat.zero_add, decide_true, Bool.and_true, Bool.true_and, cond_true, cond_false]
  rw [List.append_assoc] at this
  exact this
theorem v1e {L : List R6} {a b n : Int} (hl : L.length ≤ 400) (i : Nat) (hi : i ≤ 2000) (x x' fin : Int) (last : List R2) (first : Int) (inn : List R6) : ∀ (k j : Nat) (out : List R4), j + k = out.length → out.length ≤ 10000000 →
  ∃ N, ∀ M, Yv (Xb L a b n) (M + N) (.to (.h4 (j : Int) (i : Int) x x' inn out last first fin (rnC R6.a R6.d n L).length (Xy (Ye (rnE R6.a R6.d n L))))) = Yv (Xb L a b n) M (.to (.h1 ((i + 1 : Nat) : Int) (D4.grow out j x') last first x' (rnC R6.a R6.d n L).length (Xy (Ye (rnE R6.a R6.d n L)))))
 | 0, j, out, h, ho => by
  refine ⟨1, fun M => ?_⟩
  rw [D4.grow_nil _ _ _ (by omega), Zv]
  simp (disch := omega) only [Xb, Zs, Zj, Zw, cond_false]
 | k + 1, j, out, h, ho => by
  obtain ⟨N, hN⟩ := v1e hl i hi x x' fin last first inn k (j + 1) (out.set j (D4.ext x' (rd out j))) (by simp; omega) (by simpa using ho)
  refine ⟨N + 1, fun M => ?_⟩
  have := hN M
  rw [D4.grow_set out j _ (by omega)] at this
  rw [← Nat.add_assoc, Zv]
  simp (disch := omega) only [Xb, Zb, Zk, Zo, Zt, Yz, Yw, Yu, Zf, Zj, Zw, Yp, Zq, Nat.zero_add, decide_true, Bool.and_true, Bool.true_and, cond_true, cond_false]
  exact this
theorem w0t {L : List R6} {a b n : Int} (hl : L.length ≤ 400) (hn : n ≠ 0) : ∀ (k i : Nat) (s : Sw R4 R2), k = (rnC R6.a R6.d n L).length - 1 - i → i ≤ (rnC R6.a R6.d n L).length → s.out.length ≤ i * 2000 → s.last.length ≤ 2000 → s.first ≤ s.out.length → ∃ N, Yv (Xb L a b n) N (.to (.h1 ((i + 1 : Nat) : Int) s.out s.last (s.first : Int) s.fin (rnC R6.a R6.d n L).length (Xy (Ye (rnE R6.a R6.d n L))))) = .ret [.dat (D4.goX (layQ L a b n) (rnC R6.a R6.d n L) k i s).out.length (Zz (D4.goX (layQ L a b n) (rnC R6.a R6.d n L) k i s).out)]
 | 0, i, s, h, hi, ho, hla, hf => by
  have hc := Vu R6.a R6.d n L
  refine ⟨1, ?_⟩
  rw [Zv]
  simp (disch := omega) only [Xb, Zs, cond_false, Zm]
  rfl
 | k + 1, i, s, h, hi, ho, hla, hf => by
  have hc := Vu R6.a R6.d n L
  have hi1 : i + 1 < (rnC R6.a R6.d n L).length := by omega
  have hpl : (Xy (Ye (rnE R6.a R6.d n L))).length = 4 * L.length := by rw [Wi, Wu, Wz]
  have r0 : rd (Xy (Ye (rnE R6.a R6.d n L))) i = rd (rnC R6.a R6.d n L) i := Us _ _ (by show i < (rnC R6.a R6.d n L).length; omega)
  have r1 : rd (Xy (Ye (rnE R6.a R6.d n L))) (i + 1) = rd (rnC R6.a R6.d n L) (i + 1) := Us _ _ (by show i + 1 < (rnC R6.a R6.d n L).length; omega)
  have e1 : IntKind.wrap .i64 (((i + 1 : Nat) : Int) - 1) = (i : Int) := by rw [Zc]; exact Zj (by omega)
  have hbig : i * 2000 ≤ 1600 * 2000 := Nat.mul_le_mul_right _ (by omega)
  obtain ⟨N2, h2⟩ := v1g (a := a) (b := b) (n := n) hl hi1 s.out s.last (s.first : Int) s.fin L.length 0 [] (Nat.zero_add _) (Nat.le_refl _)
  rw [List.drop_zero, List.nil_append, Qn] at h2
  have hin := Kv R6.a R6.d L (rd (rnC R6.a R6.d n L) i) (rd (rnC R6.a R6.d n L) (i + 1))
  have w1 : Qi (crS R6.a R6.d L (rd (rnC R6.a R6.d n L) i) (rd (rnC R6.a R6.d n L) (i + 1))) (rd (rnC R6.a R6.d n L) i) (rd (rnC R6.a R6.d n L) (i + 1)) a b n = true := by
   unfold Qi
   rw [Yz (by omega), decide_eq_false hn]; rfl
  have st0 : ∀ M, Yv (Xb L a b n) (M + N2 + 1) (.to (.h1 ((i + 1 : Nat) : Int) s.out s.last (s.first : Int) s.fin (rnC R6.a R6.d n L).length (Xy (Ye (rnE R6.a R6.d n L))))) = Yv (Xb L a b n) M (.to (.h2 ((i + 1 : Nat) : Int) (crS R6.a R6.d L (rd (rnC R6.a R6.d n L) i) (rd (rnC R6.a R6.d n L) (i + 1))) (L.length : Int) s.out s.last (s.first : Int) s.fin (rnC R6.a R6.d n L).length (Xy (Ye (rnE R6.a R6.d n L))))) := fun M => by
   rw [← h2 M, Zv]
   simp (disch := omega) only [Xb, Zo, cond_true]
  have hq : (layQ L a b n) (rd (rnC R6.a R6.d n L) i) (rd (rnC R6.a R6.d n L) (i + 1)) = (Qq (crS R6.a R6.d L (rd (rnC R6.a R6.d n L) i) (rd (rnC R6.a R6.d n L) (i + 1))) (rd (rnC R6.a R6.d n L) i) (rd (rnC R6.a R6.d n L) (i + 1)) a b n) := rfl
  have hsl : (Qq (crS R6.a R6.d L (rd (rnC R6.a R6.d n L) i) (rd (rnC R6.a R6.d n L) (i + 1))) (rd (rnC R6.a R6.d n L) i) (rd (rnC R6.a R6.d n L) (i + 1)) a b n).length ≤ 2000 := by have := x1n (crS R6.a R6.d L (rd (rnC R6.a R6.d n L) i) (rd (rnC R6.a R6.d n L) (i + 1))) (rd (rnC R6.a R6.d n L) i) (rd (rnC R6.a R6.d n L) (i + 1)) a b n ; have := Vu R6.b R6.e n (crS R6.a R6.d L (rd (rnC R6.a R6.d n L) i) (rd (rnC R6.a R6.d n L) (i + 1))); omega
  have w2 : Wt s.last (Qq (crS R6.a R6.d L (rd (rnC R6.a R6.d n L) i) (rd (rnC R6.a R6.d n L) (i + 1))) (rd (rnC R6.a R6.d n L) i) (rd (rnC R6.a R6.d n L) (i + 1)) a b n) = true := decide_eq_true (by omega)
  have ol := D4.oneS_length (Qq (crS R6.a R6.d L (rd (rnC R6.a R6.d n L) i) (rd (rnC R6.a R6.d n L) (i + 1))) (rd (rnC R6.a R6.d n L) i) (rd (rnC R6.a R6.d n L) (i + 1)) a b n) (rd (rnC R6.a R6.d n L) i) (rd (rnC R6.a R6.d n L) (i + 1)) s
  rcases Ya (decide (0 < (Qq (crS R6.a R6.d L (rd (rnC R6.a R6.d n L) i) (rd (rnC R6.a R6.d n L) (i + 1))) (rd (rnC R6.a R6.d n L) i) (rd (rnC R6.a R6.d n L) (i + 1)) a b n).length) && ((s.fin == (rd (rnC R6.a R6.d n L) i)) && D4.same s.last (Qq (crS R6.a R6.d L (rd (rnC R6.a R6.d n L) i) (rd (rnC R6.a R6.d n L) (i + 1))) (rd (rnC R6.a R6.d n L) i) (rd (rnC R6.a R6.d n L) (i + 1)) a b n))) with q | q
  ·obtain ⟨N4, h4⟩ := v1e (a := a) (b := b) (n := n) hl (i + 1) (by omega) (rd (rnC R6.a R6.d n L) i) (rd (rnC R6.a R6.d n L) (i + 1)) s.fin s.last (s.first : Int) (crS R6.a R6.d L (rd (rnC R6.a R6.d n L) i) (rd (rnC R6.a R6.d n L) (i + 1))) (s.out.length - s.first) s.first s.out (by omega) (by omega)
   have e : D4.oneS (Qq (crS R6.a R6.d L (rd (rnC R6.a R6.d n L) i) (rd (rnC R6.a R6.d n L) (i + 1))) (rd (rnC R6.a R6.d n L) i) (rd (rnC R6.a R6.d n L) (i + 1)) a b n) (rd (rnC R6.a R6.d n L) i) (rd (rnC R6.a R6.d n L) (i + 1)) s = ⟨D4.grow s.out s.first (rd (rnC R6.a R6.d n L) (i + 1)), s.last, s.first, (rd (rnC R6.a R6.d n L) (i + 1))⟩ := by unfold Dim.oneS; rw [q]; rfl
   obtain ⟨N0, h0⟩ := w0t hl hn k (i + 1) (D4.oneS (Qq (crS R6.a R6.d L (rd (rnC R6.a R6.d n L) i) (rd (rnC R6.a R6.d n L) (i + 1))) (rd (rnC R6.a R6.d n L) i) (rd (rnC R6.a R6.d n L) (i + 1)) a b n) (rd (rnC R6.a R6.d n L) i) (rd (rnC R6.a R6.d n L) (i + 1)) s) (by omega) (by omega) (by omega) (by rw [e]; exact hla) (by rw [e]; simpa [Dim.grow_length] using hf)
   refine ⟨N0 + N4 + 1 + N2 + 1, ?_⟩
   rw [st0 (N0 + N4 + 1), Zv]
   simp only [Bool.and_eq_true, decide_eq_true_eq] at q
   obtain ⟨q1, q2, q3⟩ := q
   have q3' : Jg s.last (Qq (crS R6.a R6.d L (rd (rnC R6.a R6.d n L) i) (rd (rnC R6.a R6.d n L) (i + 1))) (rd (rnC R6.a R6.d n L) i) (rd (rnC R6.a R6.d n L) (i + 1)) a b n) = true := q3
   simp (disch := omega) only [Xb, Zs, Yi, e1, r0, r1, q2, q3', w1, w2, Zb, Zk, Zo, Zt, Yz, Yw, Yu, Zf, Zj, Zw, Yp, Zq, Nat.zero_add, decide_true, Bool.and_true, Bool.true_and, cond_true, cond_false]
   rw [h4 N0]
   unfold Dim.goX
   rw [hq]
   rw [e] at h0 ⊢
   exact h0
  ·obtain ⟨N3, h3⟩ := v1f (a := a) (b := b) (n := n) hl (i + 1) (by omega) (rd (rnC R6.a R6.d n L) i) (rd (rnC R6.a R6.d n L) (i + 1)) (Qq (crS R6.a R6.d L (rd (rnC R6.a R6.d n L) i) (rd (rnC R6.a R6.d n L) (i + 1))) (rd (rnC R6.a R6.d n L) i) (rd (rnC R6.a R6.d n L) (i + 1)) a b n) (s.out.length : Int) (crS R6.a R6.d L (rd (rnC R6.a R6.d n L) i) (rd (rnC R6.a R6.d n L) (i + 1))) hsl (Qq (crS R6.a R6.d L (rd (rnC R6.a R6.d n L) i) (rd (rnC R6.a R6.d n L) (i + 1))) (rd (rnC R6.a R6.d n L) i) (rd (rnC R6.a R6.d n L) (i + 1)) a b n).length 0 s.out (Nat.zero_add _) (by omega)
   simp only [List.drop_zero, Qn] at h3
   have e : D4.oneS (Qq (crS R6.a R6.d L (rd (rnC R6.a R6.d n L) i) (rd (rnC R6.a R6.d n L) (i + 1))) (rd (rnC R6.a R6.d n L) i) (rd (rnC R6.a R6.d n L) (i + 1)) a b n) (rd (rnC R6.a R6.d n L) i) (rd (rnC R6.a R6.d n L) (i + 1)) s = ⟨s.out ++ (Qq (crS R6.a R6.d L (rd (rnC R6.a R6.d n L) i) (rd (rnC R6.a R6.d n L) (i + 1))) (rd (rnC R6.a R6.d n L) i) (rd (rnC R6.a R6.d n L) (i + 1)) a b n).map (D4.put (rd (rnC R6.a R6.d n L) i) (rd (rnC R6.a R6.d n L) (i + 1))), (Qq (crS R6.a R6.d L (rd (rnC R6.a R6.d n L) i) (rd (rnC R6.a R6.d n L) (i + 1))) (rd (rnC R6.a R6.d n L) i) (rd (rnC R6.a R6.d n L) (i + 1)) a b n), s.out.length, (rd (rnC R6.a R6.d n L) (i + 1))⟩ := by unfold Dim.oneS; rw [q]; rfl
   obtain ⟨N0, h0⟩ := w0t hl hn k (i + 1) (D4.oneS (Qq (crS R6.a R6.d L (rd (rnC R6.a R6.d n L) i) (rd (rnC R6.a R6.d n L) (i + 1))) (rd (rnC R6.a R6.d n L) i) (rd (rnC R6.a R6.d n L) (i + 1)) a b n) (rd (rnC R6.a R6.d n L) i) (rd (rnC R6.a R6.d n L) (i + 1)) s) (by omega) (by omega) (by omega) (by rw [e]; exact hsl) (by rw [e]; simp)
   have hg : Xb L a b n (.h2 ((i + 1 : Nat) : Int) (crS R6.a R6.d L (rd (rnC R6.a R6.d n L) i) (rd (rnC R6.a R6.d n L) (i + 1))) (L.length : Int) s.out s.last (s.first : Int) s.fin (rnC R6.a R6.d n L).length (Xy (Ye (rnE R6.a R6.d n L)))) = .to (.h3 (Qq (crS R6.a R6.d L (rd (rnC R6.a R6.d n L) i) (rd (rnC R6.a R6.d n L) (i + 1))) (rd (rnC R6.a R6.d n L) i) (rd (rnC R6.a R6.d n L) (i + 1)) a b n) ((Qq (crS R6.a R6.d L (rd (rnC R6.a R6.d n L) i) (rd (rnC R6.a R6.d n L) (i + 1))) (rd (rnC R6.a R6.d n L) i) (rd (rnC R6.a R6.d n L) (i + 1)) a b n).length : Int) 0 ((i + 1 : Nat) : Int) (rd (rnC R6.a R6.d n L) i) (rd (rnC R6.a R6.d n L) (i + 1)) (crS R6.a R6.d L (rd (rnC R6.a R6.d n L) i) (rd (rnC R6.a R6.d n L) (i + 1))) s.out (s.out.length : Int) (rnC R6.a R6.d n L).length (Xy (Ye (rnE R6.a R6.d n L)))) := by
    have e3 : D4.same s.last (Qq (crS R6.a R6.d L (rd (rnC R6.a R6.d n L) i) (rd (rnC R6.a R6.d n L) (i + 1))) (rd (rnC R6.a R6.d n L) i) (rd (rnC R6.a R6.d n L) (i + 1)) a b n) = Jg s.last (Qq (crS R6.a R6.d L (rd (rnC R6.a R6.d n L) i) (rd (rnC R6.a R6.d n L) (i + 1))) (rd (rnC R6.a R6.d n L) i) (rd (rnC R6.a R6.d n L) (i + 1)) a b n) := rfl
    rw [e3] at q
    by_cases q1 : 0 < (Qq (crS R6.a R6.d L (rd (rnC R6.a R6.d n L) i) (rd (rnC R6.a R6.d n L) (i + 1))) (rd (rnC R6.a R6.d n L) i) (rd (rnC R6.a R6.d n L) (i + 1)) a b n).length
    ·rw [decide_eq_true q1, Bool.true_and] at q
     rcases Ya (s.fin == (rd (rnC R6.a R6.d n L) i)) with q2 | q2
     ·rw [q2, Bool.true_and] at q
      simp (disch := omega) only [Xb, Zs, Yi, e1, r0, r1, q2, q, w1, w2, Zb, Zk, Zo, Zt, Yz, Yw, Yu, Zf, Zj, Zw, Yp, Zq, Nat.zero_add, decide_true, Bool.and_true, Bool.true_and, cond_true, cond_false]
     ·simp (disch := omega) only [Xb, Zs, Yi, e1, r0, r1, q2, w1, w2, Zb, Zk, Zo, Zt, Yz, Yw, Yu, Zf, Zj, Zw, Yp, Zq, Nat.zero_add, decide_true, Bool.and_true, Bool.true_and, cond_true, cond_false]
    ·simp (disch := omega) only [Xb, Zs, Xz, e1, r0, r1, w1, w2, Zb, Zk, Zo, Zt, Yz, Yw, Yu, Zf, Zj, Zw, Yp, Zq, Nat.zero_add, decide_true, Bool.and_true, Bool.true_and, cond_true, cond_false]
   refine ⟨N0 + N3 + 1 + N2 + 1, ?_⟩
   rw [st0 (N0 + N3 + 1), Zv, hg, h3 N0]
   unfold Dim.goX
   rw [hq]
   rw [e] at h0 ⊢
   exact h0
def Qd (L : List R6) (a b n : Int) : Bool := decide (L.length ≤ 400) && !decide (n = 0)
def Qk (L : List R6) (a b n : Int) : List R4 := (D4.goX (layQ L a b n) (rnC R6.a R6.d n L) ((rnC R6.a R6.d n L).length - 1) 0 ⟨[], [], 0, 0⟩).out
theorem v4x (L : List R6) (a b n : Int) (h : Qd L a b n = true) : ∃ N, Yv (Xb L a b n) N (y3z L a b n) = .ret [.dat (Qk L a b n).length (Zz (Qk L a b n))] := by
 simp only [Qd, Bool.and_eq_true, Bool.not_eq_true', decide_eq_true_eq, decide_eq_false_iff_not] at h
 exact v1h h.1 h.2 (w0t h.1 h.2 _ 0 ⟨[], [], 0, 0⟩ (by omega) (Nat.zero_le _) (Nat.zero_le _) (Nat.zero_le _) (Nat.le_refl _)) L.length 0 [] (Nat.zero_add _) rfl
def fLay : List AVal → Option (AVal × Bool)
 | [a0, .agg [.int .i64 aV, .int .i64 aW], .int .i64 x2] => match asL R6 a0 with
  | some (L0, g0, n0) => some (.dat (Qk L0 aV aW x2).length (Zz (Qk L0 aV aW x2)), isT R6 n0 g0 && (Qd L0 aV aW x2))
  | _ => none
 | _ => none
theorem v6h {S : Specs} (hS : Zu prog S) : Zu prog (S.with v0t fLay) := by
 refine z2g hS (by kernel_rfl) fun args v h => ?_
 unfold fLay at h
 split at h
 ·rename_i a0 aV aW x2
  split at h
  ·rename_i L0 g0 n0 e0
   simp only [Option.some.injEq, Prod.mk.injEq, Bool.and_eq_true] at h
   obtain ⟨rfl, ho0, hw⟩ := h
   obtain ⟨N, hN⟩ := v4x L0 aV aW x2 hw
   exact ⟨_, _, (.cons (asL_le e0 ho0) (.cons (.refl _) (.cons (.refl _) .nil))), rfl, w5s L0 aV aW x2 N _ hN, 3, rfl⟩
  ·cases h
 ·cases h
def Dg : Specs := (Df.with v0t fLay)
theorem Km : Zu prog Dg := (v6h z1d)
end Go.Am
namespace Go.Am
open Go.Proofs.Tryz
open Go.Proofs
inductive innS where
 | h0 (v14 : Int) (aA : List Int)
 | h1 (v5 : Int) (aC : List R6) (bJ : List R4) (aF : Int) (aK : Int) (bA : Nat) (aO : List Int)
 | h2 (v5 : Int) (v6 : List R6) (v19 : Int) (aC : List R6) (bJ : List R4) (aF : Int) (aK : Int) (bA : Nat) (aO : List Int)
 | h3 (v70 : List R4) (v71 : Int) (v72 : Int) (cB : Int) (aL : Int) (aI : Int) (bU : List R6) (aC : List R6) (aF : Int) (cF : Nat) (cG : List Int)
 | h4 (v14 : Int) (cB : Int) (aL : Int) (aI : Int) (bU : List R6) (aC : List R6) (aF : List R4) (aK : Int) (dR : Int) (cQ : Nat) (cY : List Int)
def innC (l0 : List R6) (x1 : Int) : innS → Cfg
 | .h0 v14 aA => ⟨⟨45, 0, true⟩, none, (Za prog 80 [1, 1, 0, 1, 0, 0] 0), none, (Zy prog 4), ⟨Yk [(2, (ii x1)), (3, (.ptr 0 0)), (4, (.ptr 1 0)), (7, (.ptr 2 0)), (12, (.dat l0.length (Zz l0))), (13, (ii (l0.length : Int))), (14, (ii v14))], Vn [⟨[(.dat l0.length (Zz l0))], 22, none⟩, ⟨[(ii 2)], 3, none⟩, ⟨[(.sla 10 1 0 aA.length (.un 1))], 47, none⟩, ⟨[(ii x1)], 3, none⟩, ⟨[.nils], 30, none⟩, ⟨[(ii 0)], 24, none⟩, ⟨[.nils], 30, none⟩, ⟨[.nils], 106, none⟩, ⟨[(ii 0)], 3, none⟩, ⟨[(ii 0)], 3, none⟩, ⟨rows aA.length (Zz aA), 3, some ⟨1, aA.length, (Zz aA)⟩⟩] 0, 11, [], true⟩, [⟨⟨99, 0, true⟩, (Vk prog 36 [1, 1, 1, 1, 1, 0, 0] 2), (Za prog 36 [1, 1, 1, 1, 1, 0, 0] 1), none, (Zy prog 36), Yk [(3, (.ptr 3 0)), (4, (.ptr 4 0)), (5, (.ptr 5 0)), (7, (.ptr 6 0)), (8, (.ptr 7 0)), (9, (.ptr 8 0)), (10, (.ptr 9 0)), (23, (.dat l0.length (Zz l0))), (24, (ii x1))]⟩], .leaf⟩
 | .h1 v5 aC bJ aF aK bA aO => ⟨⟨63, 0, true⟩, none, (Za prog 121 [1, 0, 0] 0), none, [], ⟨Yk [(0, (.yld 0)), (1, (.ptr 8 0)), (2, (.ptr 10 0)), (3, (.ptr 11 0)), (5, (ii v5))], z4j [(1, ⟨[(ii x1)], 3, none⟩), (2, ⟨[.nils], 30, none⟩), (3, ⟨[(ii 0)], 24, none⟩), (4, ⟨[(.sla 12 6 0 aC.length (.un 6))], 30, none⟩), (5, ⟨[(.dat bJ.length (Zz bJ))], 106, none⟩), (6, ⟨[(ii aF)], 3, none⟩), (7, ⟨[(ii aK)], 3, none⟩), (8, ⟨[(.sla 9 1 0 bA (.un 1))], 47, none⟩), (9, ⟨rows aO.length (Zz aO), 3, some ⟨1, aO.length, (Zz aO)⟩⟩), (10, ⟨[(.dat l0.length (Zz l0))], 22, none⟩), (11, ⟨[(ii 2)], 3, none⟩), (12, ⟨rows aC.length (Zz aC), 68, some ⟨6, aC.length, (Zz aC)⟩⟩)], 13, [], true⟩, [⟨⟨99, 0, true⟩, none, (.inRangeFunc 0 :: (Za prog 36 [1, 1, 1, 1, 1, 0, 1, 0] 1)), none, (Zy prog 36), Yk [(4, (.ptr 2 0)), (5, (.ptr 3 0)), (7, (.ptr 4 0))]⟩], (z4l [(0, ⟨.ready, none, 99, Yk [(3, (.ptr 1 0)), (4, (.ptr 2 0)), (5, (.ptr 3 0)), (7, (.ptr 4 0)), (8, (.ptr 5 0)), (9, (.ptr 6 0)), (10, (.ptr 7 0))], [26, 27], (Xi prog 36 [1, 1, 1, 1, 1, 0, 1, 0, 0]), (Xi prog 36 [1, 1, 1, 1, 1, 0, 1, 0, 1])⟩)])⟩
 | .h2 v5 v6 v19 aC bJ aF aK bA aO => ⟨⟨63, 0, true⟩, none, (Za prog 121 [1, 0, 0, 1, 0, 0, 1, 0, 1, 0, 0] 0), none, [], ⟨Yk [(0, (.yld 0)), (1, (.ptr 8 0)), (2, (.ptr 10 0)), (3, (.ptr 11 0)), (5, (ii v5)), (6, (.sla 12 6 0 v6.length (.un 6))), (17, (.dat l0.length (Zz l0))), (18, (ii (l0.length : Int))), (19, (ii v19))], z4j [(1, ⟨[(ii x1)], 3, none⟩), (2, ⟨[.nils], 30, none⟩), (3, ⟨[(ii 0)], 24, none⟩), (4, ⟨[(.sla 13 6 0 aC.length (.un 6))], 30, none⟩), (5, ⟨[(.dat bJ.length (Zz bJ))], 106, none⟩), (6, ⟨[(ii aF)], 3, none⟩), (7, ⟨[(ii aK)], 3, none⟩), (8, ⟨[(.sla 9 1 0 bA (.un 1))], 47, none⟩), (9, ⟨rows aO.length (Zz aO), 3, some ⟨1, aO.length, (Zz aO)⟩⟩), (10, ⟨[(.dat l0.length (Zz l0))], 22, none⟩), (11, ⟨[(ii 2)], 3, none⟩), (12, ⟨rows v6.length (Zz v6), 68, some ⟨6, v6.length, (Zz v6)⟩⟩), (13, ⟨rows aC.length (Zz aC), 68, some ⟨6, aC.length, (Zz aC)⟩⟩)], 14, [], true⟩, [⟨⟨99, 0, true⟩, none, (.inRangeFunc 0 :: (Za prog 36 [1, 1, 1, 1, 1, 0, 1, 0] 1)), none, (Zy prog 36), Yk [(4, (.ptr 2 0)), (5, (.ptr 3 0)), (7, (.ptr 4 0))]⟩], (z4l [(0, ⟨.ready, none, 99, Yk [(3, (.ptr 1 0)), (4, (.ptr 2 0)), (5, (.ptr 3 0)), (7, (.ptr 4 0)), (8, (.ptr 5 0)), (9, (.ptr 6 0)), (10, (.ptr 7 0))], [26, 27], (Xi prog 36 [1, 1, 1, 1, 1, 0, 1, 0, 0]), (Xi prog 36 [1, 1, 1, 1, 1, 0, 1, 0, 1])⟩)])⟩
 | .h3 v70 v71 v72 cB aL aI bU aC aF cF cG => ⟨⟨99, 0, true⟩, none, (Za prog 36 [1, 1, 1, 1, 1, 0, 1, 0, 1, 0, 1, 1, 1, 1, 1, 0, 0] 0), (some 0), [], ⟨Yk [(7, (.ptr 4 0)), (11, (.ptr 8 0)), (70, (.dat v70.length (Zz v70))), (71, (ii v71)), (72, (ii v72))], z4j [(1, ⟨[(ii x1)], 3, none⟩), (2, ⟨[.nils], 30, none⟩), (3, ⟨[(ii 0)], 24, none⟩), (4, ⟨[(.sla 13 6 0 aC.length (.un 6))], 30, none⟩), (5, ⟨[(.dat v70.length (Zz v70))], 106, none⟩), (6, ⟨[(ii aF)], 3, none⟩), (7, ⟨[(ii aI)], 3, none⟩), (8, ⟨[(ii aL), (ii aI)], 110, none⟩), (9, ⟨[(.sla 10 1 0 cF (.un 1))], 47, none⟩), (10, ⟨rows cG.length (Zz cG), 3, some ⟨1, cG.length, (Zz cG)⟩⟩), (11, ⟨[(.dat l0.length (Zz l0))], 22, none⟩), (12, ⟨[(ii 2)], 3, none⟩), (13, ⟨rows aC.length (Zz aC), 68, some ⟨6, aC.length, (Zz aC)⟩⟩)], 14, [], true⟩, [⟨⟨63, 0, true⟩, (Vk prog 121 [1, 0, 0, 1, 0, 0, 1, 1, 0] 12), (Za prog 121 [1, 0, 0, 1, 0, 0, 1, 1, 0] 1), none, [], Yk [(0, (.yld 0)), (1, (.ptr 9 0)), (2, (.ptr 11 0)), (3, (.ptr 12 0)), (5, (ii cB)), (49, (.yld 0)), (59, (.agg [(ii aL), (ii aI)])), (60, (.dat bU.length (Zz bU)))]⟩, ⟨⟨99, 0, true⟩, none, (.inRangeFunc 0 :: (Za prog 36 [1, 1, 1, 1, 1, 0, 1, 0] 1)), none, (Zy prog 36), Yk [(4, (.ptr 2 0)), (5, (.ptr 3 0)), (7, (.ptr 4 0))]⟩], (z4l [(0, ⟨.busy, none, 99, Yk [(3, (.ptr 1 0)), (4, (.ptr 2 0)), (5, (.ptr 3 0)), (7, (.ptr 4 0)), (8, (.ptr 5 0)), (9, (.ptr 6 0)), (10, (.ptr 7 0))], [26, 27], (Xi prog 36 [1, 1, 1, 1, 1, 0, 1, 0, 0]), (Xi prog 36 [1, 1, 1, 1, 1, 0, 1, 0, 1])⟩)])⟩
 | .h4 v14 cB aL aI bU aC aF aK dR cQ cY => ⟨⟨99, 0, true⟩, none, (Za prog 36 [1, 1, 1, 1, 1, 0, 1, 0, 1, 0, 1, 1, 0, 1, 0, 0, 1, 0, 0] 0), (some 0), [], ⟨Yk [(7, (.ptr 4 0)), (10, (.ptr 8 0)), (11, (.ptr 9 0)), (14, (ii v14))], z4j [(1, ⟨[(ii x1)], 3, none⟩), (2, ⟨[.nils], 30, none⟩), (3, ⟨[(ii 0)], 24, none⟩), (4, ⟨[(.sla 5 6 0 aC.length (.un 6))], 30, none⟩), (5, ⟨rows aC.length (Zz aC), 68, some ⟨6, aC.length, (Zz aC)⟩⟩), (6, ⟨[(.dat aF.length (Zz aF))], 106, none⟩), (7, ⟨[(ii aK)], 3, none⟩), (8, ⟨[(ii dR)], 3, none⟩), (9, ⟨[(ii aL), (ii aI)], 110, none⟩), (10, ⟨[(.sla 11 1 0 cQ (.un 1))], 47, none⟩), (11, ⟨rows cY.length (Zz cY), 3, some ⟨1, cY.length, (Zz cY)⟩⟩), (12, ⟨[(.dat l0.length (Zz l0))], 22, none⟩), (13, ⟨[(ii 2)], 3, none⟩)], 14, [], true⟩, [⟨⟨63, 0, true⟩, (Vk prog 121 [1, 0, 0, 1, 0, 0, 1, 1, 0] 12), (Za prog 121 [1, 0, 0, 1, 0, 0, 1, 1, 0] 1), none, [], Yk [(0, (.yld 0)), (1, (.ptr 10 0)), (2, (.ptr 12 0)), (3, (.ptr 13 0)), (5, (ii cB)), (49, (.yld 0)), (59, (.agg [(ii aL), (ii aI)])), (60, (.dat bU.length (Zz bU)))]⟩, ⟨⟨99, 0, true⟩, none, (.inRangeFunc 0 :: (Za prog 36 [1, 1, 1, 1, 1, 0, 1, 0] 1)), none, (Zy prog 36), Yk [(4, (.ptr 2 0)), (5, (.ptr 3 0)), (7, (.ptr 4 0))]⟩], (z4l [(0, ⟨.busy, none, 99, Yk [(3, (.ptr 1 0)), (4, (.ptr 2 0)), (5, (.ptr 3 0)), (7, (.ptr 4 0)), (8, (.ptr 6 0)), (9, (.ptr 7 0)), (10, (.ptr 8 0))], [26, 27], (Xi prog 36 [1, 1, 1, 1, 1, 0, 1, 0, 0]), (Xi prog 36 [1, 1, 1, 1, 1, 0, 1, 0, 1])⟩)])⟩
def innN0 : List (Option (List Nat)) := [some [2, 3, 4, 7, 12, 13, 14], some [3, 4, 5, 7, 8, 9, 10, 23, 24]]
def innM0 : List (Option (List Nat)) := []
def v5f : List (Option (List Nat)) := [some [0, 1, 2, 3, 5], some [4, 5, 7]]
def v5g : List (Option (List Nat)) := [some [3, 4, 5, 7, 8, 9, 10], none, none, none, none, none, none, none, none, none, none, none, none]
def w6h : List (Option (List Nat)) := [some [0, 1, 2, 3, 5, 6, 17, 18, 19], some [4, 5, 7]]
def w6j : List (Option (List Nat)) := [some [3, 4, 5, 7, 8, 9, 10], none, none, none, none, none, none, none, none, none, none, none, none, none]
def w6g : List (Option (List Nat)) := [some [7, 11, 70, 71, 72], some [0, 1, 2, 3, 5, 49, 59, 60], some [4, 5, 7]]
def w6i : List (Option (List Nat)) := [some [3, 4, 5, 7, 8, 9, 10], none, none, none, none, none, none, none, none, none, none, none, none, none]
def innN4 : List (Option (List Nat)) := [some [7, 10, 11, 14], some [0, 1, 2, 3, 5, 49, 59, 60], some [4, 5, 7]]
def innM4 : List (Option (List Nat)) := [some [3, 4, 5, 7, 8, 9, 10], none, none, none, none, none, none, none, none, none, none, none, none, none]
def Xq (l0 : List R6) (x1 : Int) : innS → Xn innS
 | .h0 v14 aA => (bif (decide (v14 < (l0.length : Int))) then (bif ((decide (0 ≤ v14 ∧ v14 < (l0.length : Int))) && true) then (bif (Xw (rd l0 v14.toNat).c x1) then (bif (Xw (IntKind.wrap .i64 (0 - (rd l0 v14.toNat).c)) x1) then (bif (Xw (rd l0 v14.toNat).f x1) then (bif (Xw (IntKind.wrap .i64 (0 - (rd l0 v14.toNat).f)) x1) then (bif (Nat.beq 1 1 && ((decide (0 + aA.length = aA.length)) && decide ((aA.length + 4 + 1) * (8 + 1) ≤ Jp))) then (.to (.h0 (IntKind.wrap .i64 (v14 + 1)) (aA ++ [(Yb (rd l0 v14.toNat).c x1), (IntKind.wrap .i64 (0 - (Yb (IntKind.wrap .i64 (0 - (rd l0 v14.toNat).c)) x1))), (Yb (rd l0 v14.toNat).f x1), (IntKind.wrap .i64 (0 - (Yb (IntKind.wrap .i64 (0 - (rd l0 v14.toNat).f)) x1)))]))) else .stuck) else .stuck) else .stuck) else .stuck) else .stuck) else .stuck) else (bif (decide (aA.length < 4611686018427387904)) then (bif (decide (aA.length = aA.length)) then (.to (.h1 1 ([] : List R6) ([] : List R4) 0 0 (w8i (Zg aA.length (cOf (Zz (Ye (Zg aA.length (cOf (Zz aA)))))))) (Xy (Zg aA.length (cOf (Zz (Ye (Zg aA.length (cOf (Zz aA)))))))))) else .stuck) else .stuck))
 | .h1 v5 aC bJ aF aK bA aO => (bif (decide (v5 < ((bA : Nat) : Int))) then (.to (.h2 v5 ([] : List R6) 0 aC bJ aF aK bA aO)) else (bif (decide ((aC.length : Int) > 400)) then (.ret [.nils, (.int .i64 4)]) else (.ret [(.dat aC.length (Zz aC)), (.int .i64 0)])))
 | .h2 v5 v6 v19 aC bJ aF aK bA aO => (bif (decide (v19 < (l0.length : Int))) then (bif ((decide (0 ≤ v19 ∧ v19 < (l0.length : Int))) && true) then (bif ((decide (0 ≤ v5 ∧ v5 < ((bA : Nat) : Int))) && true) then (bif (decide ((0 + v5.toNat) < aO.length)) then (bif (decide ((rd l0 v19.toNat).c < (rd aO (0 + v5.toNat)))) then (bif ((decide (0 ≤ (IntKind.wrap .i64 (v5 - 1)) ∧ (IntKind.wrap .i64 (v5 - 1)) < ((bA : Nat) : Int))) && true) then (bif (decide ((0 + (Int.toNat (IntKind.wrap .i64 (v5 - 1)))) < aO.length)) then (bif (decide ((rd aO (0 + (Int.toNat (IntKind.wrap .i64 (v5 - 1))))) < (rd l0 v19.toNat).f)) then (bif (Nat.beq 6 6 && ((decide (0 + v6.length = v6.length)) && decide ((v6.length + 1 + 1) * (48 + 1) ≤ Jp))) then (.to (.h2 v5 (v6 ++ [(R6.mk (rd l0 v19.toNat).a (rd l0 v19.toNat).b (rd l0 v19.toNat).c (rd l0 v19.toNat).d (rd l0 v19.toNat).e (rd l0 v19.toNat).f)]) (IntKind.wrap .i64 (v19 + 1)) aC bJ aF aK bA aO)) else .stuck) else (.to (.h2 v5 v6 (IntKind.wrap .i64 (v19 + 1)) aC bJ aF aK bA aO))) else .stuck) else .stuck) else (.to (.h2 v5 v6 (IntKind.wrap .i64 (v19 + 1)) aC bJ aF aK bA aO))) else .stuck) else .stuck) else .stuck) else (bif ((decide (0 ≤ (IntKind.wrap .i64 (v5 - 1)) ∧ (IntKind.wrap .i64 (v5 - 1)) < ((bA : Nat) : Int))) && true) then (bif (decide ((0 + (Int.toNat (IntKind.wrap .i64 (v5 - 1)))) < aO.length)) then (bif ((decide (0 ≤ v5 ∧ v5 < ((bA : Nat) : Int))) && true) then (bif (decide ((0 + v5.toNat) < aO.length)) then (bif (Qd (cvT v6) (rd aO (0 + (Int.toNat (IntKind.wrap .i64 (v5 - 1))))) (rd aO (0 + v5.toNat)) x1) then (bif (decide ((((Qk (cvT v6) (rd aO (0 + (Int.toNat (IntKind.wrap .i64 (v5 - 1))))) (rd aO (0 + v5.toNat)) x1).length : Nat) : Int) > 400)) then (.ret [.nils, (.int .i64 4)]) else (bif (decide ((((Qk (cvT v6) (rd aO (0 + (Int.toNat (IntKind.wrap .i64 (v5 - 1))))) (rd aO (0 + v5.toNat)) x1).length : Nat) : Int) > 0)) then (bif (aK == (rd aO (0 + (Int.toNat (IntKind.wrap .i64 (v5 - 1)))))) then (bif (Wj (cvT bJ) (cvT (Qk (cvT v6) (rd aO (0 + (Int.toNat (IntKind.wrap .i64 (v5 - 1))))) (rd aO (0 + v5.toNat)) x1))) then (bif (Up (cvT bJ) (cvT (Qk (cvT v6) (rd aO (0 + (Int.toNat (IntKind.wrap .i64 (v5 - 1))))) (rd aO (0 + v5.toNat)) x1))) then (.to (.h4 aF v5 (rd aO (0 + (Int.toNat (IntKind.wrap .i64 (v5 - 1))))) (rd aO (0 + v5.toNat)) v6 aC bJ aF aK bA aO)) else (.to (.h3 (Qk (cvT v6) (rd aO (0 + (Int.toNat (IntKind.wrap .i64 (v5 - 1))))) (rd aO (0 + v5.toNat)) x1) (((Qk (cvT v6) (rd aO (0 + (Int.toNat (IntKind.wrap .i64 (v5 - 1))))) (rd aO (0 + v5.toNat)) x1).length : Nat) : Int) 0 v5 (rd aO (0 + (Int.toNat (IntKind.wrap .i64 (v5 - 1))))) (rd aO (0 + v5.toNat)) v6 aC (aC.length : Int) bA aO))) else .stuck) else (.to (.h3 (Qk (cvT v6) (rd aO (0 + (Int.toNat (IntKind.wrap .i64 (v5 - 1))))) (rd aO (0 + v5.toNat)) x1) (((Qk (cvT v6) (rd aO (0 + (Int.toNat (IntKind.wrap .i64 (v5 - 1))))) (rd aO (0 + v5.toNat)) x1).length : Nat) : Int) 0 v5 (rd aO (0 + (Int.toNat (IntKind.wrap .i64 (v5 - 1))))) (rd aO (0 + v5.toNat)) v6 aC (aC.length : Int) bA aO))) else (.to (.h3 (Qk (cvT v6) (rd aO (0 + (Int.toNat (IntKind.wrap .i64 (v5 - 1))))) (rd aO (0 + v5.toNat)) x1) (((Qk (cvT v6) (rd aO (0 + (Int.toNat (IntKind.wrap .i64 (v5 - 1))))) (rd aO (0 + v5.toNat)) x1).length : Nat) : Int) 0 v5 (rd aO (0 + (Int.toNat (IntKind.wrap .i64 (v5 - 1))))) (rd aO (0 + v5.toNat)) v6 aC (aC.length : Int) bA aO)))) else .stuck) else .stuck) else .stuck) else .stuck) else .stuck))
 | .h3 v70 v71 v72 cB aL aI bU aC aF cF cG => (bif (decide (v72 < v71)) then (bif ((decide (0 ≤ v72 ∧ v72 < (v70.length : Int))) && true) then (bif (Nat.beq 6 6 && ((decide (0 + aC.length = aC.length)) && decide ((aC.length + 1 + 1) * (48 + 1) ≤ Jp))) then (.to (.h3 v70 v71 (IntKind.wrap .i64 (v72 + 1)) cB aL aI bU (aC ++ [(R6.mk (rd v70 v72.toNat).a (rd v70 v72.toNat).b aL (rd v70 v72.toNat).c (rd v70 v72.toNat).d aI)]) aF cF cG)) else .stuck) else .stuck) else (.to (.h1 (IntKind.wrap .i64 (cB + 1)) aC v70 aF aI cF cG)))
 | .h4 v14 cB aL aI bU aC aF aK dR cQ cY => (bif (decide (v14 < (aC.length : Int))) then (bif ((decide (0 ≤ v14 ∧ v14 < (aC.length : Int))) && true) then (bif (decide ((0 + v14.toNat) < aC.length)) then (.to (.h4 (IntKind.wrap .i64 (v14 + 1)) cB aL aI bU (aC.set (0 + v14.toNat) (R6.mk (rd aC (0 + v14.toNat)).a (rd aC (0 + v14.toNat)).b (rd aC (0 + v14.toNat)).c (rd aC (0 + v14.toNat)).d (rd aC (0 + v14.toNat)).e aI)) aF aK dR cQ cY)) else .stuck) else .stuck) else (.to (.h1 (IntKind.wrap .i64 (cB + 1)) aC aF aK aI cQ cY)))
def z8k (l0 : List R6) (x1 : Int) : Xn innS := (bif (Wf (cvT l0)) then (bif ((Yg (cvT l0)) != 0) then (.ret [.nils, (.int .i64 (Yg (cvT l0)))]) else (bif (decide (x1 < 1)) then (.ret [.nils, (.int .i64 2)]) else (bif (decide (x1 > 1000)) then (.ret [.nils, (.int .i64 2)]) else (.to (.h0 0 ([] : List Int)))))) else .stuck)
theorem x5y (l0 : List R6) (x1 : Int) : ∀ s, Ww prog (Zy prog 36) (innC l0 x1) (innC l0 x1 s) (Xq l0 x1 s)
 | .h0 v14 aA => (lb (fun k0 => (lo fun o0 => (lo fun o1 => (lo fun o2 => (lo fun o3 => (lo fun o4 => (lo fun o5 => (sl Km 45 [] ⟨[0, 1, 2, 3, 4, 5, 6, 7, 8, 9, 16], [], innN0, innM0⟩ ⟨[], [.keep, .keep, .cells [.len (aA ++ [(Yb (rd l0 (tn v14)).c x1), (wr (0 - (Yb (wr (0 - (rd l0 (tn v14)).c)) x1))), (Yb (rd l0 (tn v14)).f x1), (wr (0 - (Yb (wr (0 - (rd l0 (tn v14)).f)) x1)))]).length], .keep, .keep, .keep, .keep, .keep, .keep, .keep, .rowed 1 (aA ++ [(Yb (rd l0 (tn v14)).c x1), (wr (0 - (Yb (wr (0 - (rd l0 (tn v14)).c)) x1))), (Yb (rd l0 (tn v14)).f x1), (wr (0 - (Yb (wr (0 - (rd l0 (tn v14)).f)) x1)))]).length (Zz (aA ++ [(Yb (rd l0 (tn v14)).c x1), (wr (0 - (Yb (wr (0 - (rd l0 (tn v14)).c)) x1))), (Yb (rd l0 (tn v14)).f x1), (wr (0 - (Yb (wr (0 - (rd l0 (tn v14)).f)) x1)))]))], []⟩ (trs 3 [false, true, true, false]) (pp (xL (aA.length + 4) (aA ++ [(Yb (rd l0 (tn v14)).c x1), (wr (0 - (Yb (wr (0 - (rd l0 (tn v14)).c)) x1))), (Yb (rd l0 (tn v14)).f x1), (wr (0 - (Yb (wr (0 - (rd l0 (tn v14)).f)) x1)))]).length) (pp (xL (aA.length + 4) (aA ++ [(Yb (rd l0 (tn v14)).c x1), (wr (0 - (Yb (wr (0 - (rd l0 (tn v14)).c)) x1))), (Yb (rd l0 (tn v14)).f x1), (wr (0 - (Yb (wr (0 - (rd l0 (tn v14)).f)) x1)))]).length) (pp (xS (aA.length + 4) (Zd (Zz aA) 0 aA.length 1 [(ii (Yb (rd l0 (tn v14)).c x1)), (ii (wr (0 - (Yb (wr (0 - (rd l0 (tn v14)).c)) x1)))), (ii (Yb (rd l0 (tn v14)).f x1)), (ii (wr (0 - (Yb (wr (0 - (rd l0 (tn v14)).f)) x1))))]) (Zz (aA ++ [(Yb (rd l0 (tn v14)).c x1), (wr (0 - (Yb (wr (0 - (rd l0 (tn v14)).c)) x1))), (Yb (rd l0 (tn v14)).f x1), (wr (0 - (Yb (wr (0 - (rd l0 (tn v14)).f)) x1)))]))) (pp (pp (xF (Zd (Zz aA) 0 aA.length 1 [(ii (Yb (rd l0 (tn v14)).c x1)), (ii (wr (0 - (Yb (wr (0 - (rd l0 (tn v14)).c)) x1)))), (ii (Yb (rd l0 (tn v14)).f x1)), (ii (wr (0 - (Yb (wr (0 - (rd l0 (tn v14)).f)) x1))))])) nn) (ww o5 (ww o4 (ww o3 (ww o2 (ww o1 (ww o0 (tt k0 nn))))))))))))))))))) (fun k0 => (lo fun o0 => (lo fun o1 => (sl Km 33 [(68, 6, Zz ([] : List R6))] ⟨[11, 3, 4, 5, 6, 7, 8, 9, 2, 10, 0, 1, 12], [], v5f, v5g⟩ ⟨[], (kpB 4 [.cells [.grow 12 6], .cells [.list 0 (Zz ([] : List R4))], .keep, .keep, .keep, .rowed 1 (Xy (Zg aA.length (cOf (Zz (Ye (Zg aA.length (cOf (Zz aA)))))))).length (Zz (Xy (Zg aA.length (cOf (Zz (Ye (Zg aA.length (cOf (Zz aA))))))))), .keep, .keep, .keep]), []⟩ [false] (pp (xL aA.length (Xy (Zg aA.length (cOf (Zz (Ye (Zg aA.length (cOf (Zz aA)))))))).length (by first | exact Qc _ _ | exact Uy rfl)) (pp (xS aA.length (Zz (Xy (Zg aA.length (cOf (Zz (Ye (Zg aA.length (cOf (Zz aA))))))))) (Zz (Xy (Zg aA.length (cOf (Zz (Ye (Zg aA.length (cOf (Zz aA)))))))))) (pp (fl (Xy (Zg aA.length (cOf (Zz (Ye (Zg aA.length (cOf (Zz aA)))))))) (fl ([] : List R6) nn)) (pp (pp (xG (Nat.beq 1 1)) (pp (xG (Nat.beq 1 1)) (pp (xG (Nat.beq 0 0)) (pp (xG (decide (aA.length = aA.length))) (pp (xG (isI (Zz (Ye (Zg aA.length (cOf (Zz aA))))))) (xG (decide (aA.length < 4611686018427387904)))))))) (pp (pp (xG (Nat.beq 1 1)) (pp (xG (Nat.beq 1 1)) (pp (xG (Nat.beq 0 0)) (pp (xG (decide (aA.length = aA.length))) (pp (xG (isI (Zz aA))) (xG (decide (aA.length < 4611686018427387904)))))))) (tt k0 nn)))))))))))
 | .h1 v5 aC bJ aF aK bA aO => (lb (fun k0 => (sl Km 25 [(68, 6, Zz ([] : List R6))] ⟨[0, 1, 2, 3, 4, 5, 6, 7, 8, 9, 10, 11, 13, 12], [], w6h, w6j⟩ ⟨[(6, .grow 12 6)], [], []⟩ [true] (pp (fl aO (fl ([] : List R6) (fl aC nn))) (tt k0 nn)))) (fun k0 => (lb (fun k1 => (z0l ⟨⟨99, 0, true⟩, none, (Za prog 36 [1, 1, 1, 1, 1, 1, 0, 1, 0, 0] 1), none, (Zy prog 36), ⟨Yk [(4, (.ptr 0 0)), (5, (.ptr 1 0))], Vn [⟨[.nils], 30, none⟩, ⟨[(ii 4)], 24, none⟩] 0, 2, [], true⟩, [], .leaf⟩ (sl Km 26 [] ⟨[2, 3], [], [some [4, 5]], []⟩ ⟨[], [], []⟩ [false, true] (tt k1 (tt k0 nn))) rfl (by kernel_rfl))) (fun k1 => (z0l ⟨⟨99, 0, true⟩, none, (Za prog 3 [1, 1, 1, 1, 1, 1, 0] 1), none, (Zy prog 36), ⟨Yk [(4, (.ptr 0 0)), (5, (.ptr 1 0))], Vn [⟨[(.dat aC.length (Zz aC))], 30, none⟩, ⟨[(ii 0)], 24, none⟩] 0, 2, [], true⟩, [], .leaf⟩ (sl Km 28 [] ⟨[2, 3], [12], [some [4, 5]], []⟩ ⟨[], [.cells [.frz aC.length aC.length (Zz aC) (Zz aC)], .keep], []⟩ [false, false] (pp (xZ (z4q 6 6 0 aC.length aC.length (Zz aC)) aC.length (Zz aC)) (pp (xL aC.length aC.length) (pp (xS aC.length (Zz aC) (Zz aC)) (pp (fl aC nn) (tt k1 (tt k0 nn))))))) rfl (by kernel_rfl))))))
 | .h2 v5 v6 v19 aC bJ aF aK bA aO => (lb (fun k0 => (lo fun aH => (lo fun bK => (lo fun cJ => (lb (fun k1 => (lo fun cX => (lo fun dO => (lb (fun k2 => (lo fun o0 => (sl Km 70 [] ⟨[0, 1, 2, 3, 4, 5, 6, 7, 8, 9, 10, 11, 19, 13], [], w6h, w6j⟩ ⟨[(6, .len (v6 ++ [(R6.mk (rd l0 (tn v19)).a (rd l0 (tn v19)).b (rd l0 (tn v19)).c (rd l0 (tn v19)).d (rd l0 (tn v19)).e (rd l0 (tn v19)).f)]).length)], (kpB 12 [.rowed 6 (v6 ++ [(R6.mk (rd l0 (tn v19)).a (rd l0 (tn v19)).b (rd l0 (tn v19)).c (rd l0 (tn v19)).d (rd l0 (tn v19)).e (rd l0 (tn v19)).f)]).length (Zz (v6 ++ [(R6.mk (rd l0 (tn v19)).a (rd l0 (tn v19)).b (rd l0 (tn v19)).c (rd l0 (tn v19)).d (rd l0 (tn v19)).e (rd l0 (tn v19)).f)])), .keep]), []⟩ (trs 3 [false, true, true, false, true, true, true, true, true, true, true, true]) (pp (xL (v6.length + 1) (v6 ++ [(R6.mk (rd l0 (tn v19)).a (rd l0 (tn v19)).b (rd l0 (tn v19)).c (rd l0 (tn v19)).d (rd l0 (tn v19)).e (rd l0 (tn v19)).f)]).length) (pp (xL (v6.length + 1) (v6 ++ [(R6.mk (rd l0 (tn v19)).a (rd l0 (tn v19)).b (rd l0 (tn v19)).c (rd l0 (tn v19)).d (rd l0 (tn v19)).e (rd l0 (tn v19)).f)]).length) (pp (xS (v6.length + 1) (Zd (Zz v6) 0 v6.length 6 [(ii (rd l0 (tn v19)).a), (ii (rd l0 (tn v19)).b), (ii (rd l0 (tn v19)).c), (ii (rd l0 (tn v19)).d), (ii (rd l0 (tn v19)).e), (ii (rd l0 (tn v19)).f)]) (Zz (v6 ++ [(R6.mk (rd l0 (tn v19)).a (rd l0 (tn v19)).b (rd l0 (tn v19)).c (rd l0 (tn v19)).d (rd l0 (tn v19)).e (rd l0 (tn v19)).f)]))) (pp (fl aO (pp (xF (Zd (Zz v6) 0 v6.length 6 [(ii (rd l0 (tn v19)).a), (ii (rd l0 (tn v19)).b), (ii (rd l0 (tn v19)).c), (ii (rd l0 (tn v19)).d), (ii (rd l0 (tn v19)).e), (ii (rd l0 (tn v19)).f)])) (fl aC nn))) (ww o0 (tt k2 (ww dO (ww cX (tt k1 (ww cJ (ww bK (ww aH (tt k0 nn)))))))))))))))) (fun k2 => (sl Km 64 [] ⟨(List.range 14), [], w6h, w6j⟩ ⟨[], [], []⟩ (trs 3 [false, true, true, false, true, true, true, true, true, true, true, false]) (pp (fl aO (fl v6 (fl aC nn))) (tt k2 (ww dO (ww cX (tt k1 (ww cJ (ww bK (ww aH (tt k0 nn))))))))))))))) (fun k1 => (sl Km 64 [] ⟨(List.range 14), [], w6h, w6j⟩ ⟨[], [], []⟩ (trs 3 [false, true, true, false, false, false, false, false, false, false, false, false]) (pp (fl aO (fl v6 (fl aC nn))) (tt k1 (ww cJ (ww bK (ww aH (tt k0 nn))))))))))))) (fun k0 => (lo fun q1_0 => (lo fun q1_1 => (lo fun q1_2 => (lo fun q1_3 => (Wb (sl Km (C' := ⟨⟨99, 0, true⟩, (Vk prog 36 [1, 1, 1, 1, 1, 0, 1, 0, 1, 0, 0] 3), (Za prog 36 [1, 1, 1, 1, 1, 0, 1, 0, 1, 0, 0] 1), (some 0), [], ⟨Yk [(4, (.ptr 2 0)), (5, (.ptr 3 0)), (7, (.ptr 4 0)), (8, (.ptr 6 0)), (9, (.ptr 7 0)), (10, (.ptr 8 0)), (11, (.ptr 9 0)), (28, (.dat v6.length (Zz v6))), (29, (.agg [(ii (rd aO (0 + (tn (wr (v5 - 1)))))), (ii (rd aO (0 + (tn v5))))])), (30, (ii x1))], z4j [(1, ⟨[(ii x1)], 3, none⟩), (2, ⟨[.nils], 30, none⟩), (3, ⟨[(ii 0)], 24, none⟩), (4, ⟨[(.sla 5 6 0 aC.length (.un 6))], 30, none⟩), (5, ⟨rows aC.length (Zz aC), 68, some ⟨6, aC.length, (Zz aC)⟩⟩), (6, ⟨[(.dat bJ.length (Zz bJ))], 106, none⟩), (7, ⟨[(ii aF)], 3, none⟩), (8, ⟨[(ii aK)], 3, none⟩), (9, ⟨[(ii (rd aO (0 + (tn (wr (v5 - 1)))))), (ii (rd aO (0 + (tn v5))))], 110, none⟩), (10, ⟨[(.sla 11 1 0 bA (.un 1))], 47, none⟩), (11, ⟨rows aO.length (Zz aO), 3, some ⟨1, aO.length, (Zz aO)⟩⟩), (12, ⟨[(.dat l0.length (Zz l0))], 22, none⟩), (13, ⟨[(ii 2)], 3, none⟩)], 14, [], true⟩, [⟨⟨63, 0, true⟩, (Vk prog 121 [1, 0, 0, 1, 0, 0, 1, 1, 0] 12), (Za prog 121 [1, 0, 0, 1, 0, 0, 1, 1, 0] 1), none, [], Yk [(0, (.yld 0)), (1, (.ptr 10 0)), (2, (.ptr 12 0)), (3, (.ptr 13 0)), (5, (ii v5)), (49, (.yld 0)), (59, (.agg [(ii (rd aO (0 + (tn (wr (v5 - 1)))))), (ii (rd aO (0 + (tn v5))))])), (60, (.dat v6.length (Zz v6)))]⟩, ⟨⟨99, 0, true⟩, none, (.inRangeFunc 0 :: (Za prog 36 [1, 1, 1, 1, 1, 0, 1, 0] 1)), none, (Zy prog 36), Yk [(4, (.ptr 2 0)), (5, (.ptr 3 0)), (7, (.ptr 4 0))]⟩], (z4l [(0, ⟨.busy, none, 99, Yk [(3, (.ptr 1 0)), (4, (.ptr 2 0)), (5, (.ptr 3 0)), (7, (.ptr 4 0)), (8, (.ptr 6 0)), (9, (.ptr 7 0)), (10, (.ptr 8 0))], [26, 27], (Xi prog 36 [1, 1, 1, 1, 1, 0, 1, 0, 0]), (Xi prog 36 [1, 1, 1, 1, 1, 0, 1, 0, 1])⟩)])⟩) 25 [] ⟨[0, 1, 2, 3, 4, 13, 5, 6, 7, 14, 8, 9, 10, 11], [12], [some [4, 5, 7, 8, 9, 10, 11, 28, 29, 30], some [0, 1, 2, 3, 5, 49, 59, 60], some [4, 5, 7]], [some [3, 4, 5, 7, 8, 9, 10], none, none, none, none, none, none, none, none, none, none, none, none, none]⟩ ⟨[(28, .frz v6.length v6.length (Zz v6) (Zz v6))], [], [[(60, .frz v6.length v6.length (Zz v6) (Zz v6))], []]⟩ [false] (pp (xZ (z4q 6 6 0 v6.length v6.length (Zz v6)) v6.length (Zz v6)) (pp (xL v6.length v6.length) (pp (xS v6.length (Zz v6) (Zz v6)) (pp (xZ (z4q 6 6 0 v6.length v6.length (Zz v6)) v6.length (Zz v6)) (pp (xL v6.length v6.length) (pp (xS v6.length (Zz v6) (Zz v6)) (pp (fl aC (fl aO nn)) (pp (fl v6 nn) (ww q1_3 (ww q1_2 (ww q1_1 (ww q1_0 (tt k0 nn)))))))))))))) (lo fun aH => (lb (fun k1 => (z0l ⟨⟨99, 0, true⟩, none, (.code .ret :: (Za prog 36 [1, 1, 1, 1, 1, 0, 1, 0] 1)), none, (Zy prog 36), ⟨Yk [(4, (.ptr 0 0)), (5, (.ptr 1 0))], Vn [⟨[.nils], 30, none⟩, ⟨[(ii 4)], 24, none⟩] 0, 2, [], true⟩, [], .leaf⟩ (sl Km 22 [] ⟨[2, 3], [], [some [4, 5]], []⟩ ⟨[], [], []⟩ [true, true] (tt k1 (pp (pp (xr v6) (xw aH)) nn))) rfl (by kernel_rfl))) (fun k1 => (lb (fun k2 => (lb (fun k3 => (lo fun cO => (lb (fun k4 => (sl Km 39 [] ⟨(List.range 14), [], innN4, innM4⟩ ⟨[], [], []⟩ [false, true, true, true, true, true, true, true, true] (pp (fl aC (fl aO nn)) (tt k4 (pp (pp (xr bJ) (pp (xI R4 (Qk (cvT v6) (rd aO (0 + (tn (wr (v5 - 1))))) (rd aO (0 + (tn v5))) x1).length (Zz (Qk (cvT v6) (rd aO (0 + (tn (wr (v5 - 1))))) (rd aO (0 + (tn v5))) x1))) (xw cO))) (tt k3 (tt k2 (tt k1 (pp (pp (xr v6) (xw aH)) nn))))))))) (fun k4 => (sl Km 42 [] ⟨[0, 1, 2, 3, 4, 6, 7, 8, 9, 10, 11, 12, 13, 5], [], w6g, w6i⟩ ⟨[], [], []⟩ [false, true, true, true, true, true, true, true, false] (pp (fl aO (fl aC nn)) (tt k4 (pp (pp (xr bJ) (pp (xI R4 (Qk (cvT v6) (rd aO (0 + (tn (wr (v5 - 1))))) (rd aO (0 + (tn v5))) x1).length (Zz (Qk (cvT v6) (rd aO (0 + (tn (wr (v5 - 1))))) (rd aO (0 + (tn v5))) x1))) (xw cO))) (tt k3 (tt k2 (tt k1 (pp (pp (xr v6) (xw aH)) nn)))))))))))) (fun k3 => (sl Km 42 [] ⟨[0, 1, 2, 3, 4, 6, 7, 8, 9, 10, 11, 12, 13, 5], [], w6g, w6i⟩ ⟨[], [], []⟩ [false, true, true, true, true, false, false, false, false] (pp (fl aO (fl aC nn)) (tt k3 (tt k2 (tt k1 (pp (pp (xr v6) (xw aH)) nn))))))))) (fun k2 => (sl Km 42 [] ⟨[0, 1, 2, 3, 4, 6, 7, 8, 9, 10, 11, 12, 13, 5], [], w6g, w6i⟩ ⟨[], [], []⟩ [false, false, false, false, false, false, false, false, false] (pp (fl aO (fl aC nn)) (tt k2 (tt k1 (pp (pp (xr v6) (xw aH)) nn)))))))))))))))))
 | .h3 v70 v71 v72 cB aL aI bU aC aF cF cG => (lb (fun k0 => (lo fun o0 => (lo fun o1 => (sl Km 43 [] ⟨[0, 1, 2, 3, 4, 5, 6, 7, 8, 9, 10, 11, 12, 16], [], w6g, w6i⟩ ⟨[], (kpB 4 [.cells [.len (aC ++ [(R6.mk (rd v70 (tn v72)).a (rd v70 (tn v72)).b aL (rd v70 (tn v72)).c (rd v70 (tn v72)).d aI)]).length], .keep, .keep, .keep, .keep, .keep, .keep, .keep, .keep, .rowed 6 (aC ++ [(R6.mk (rd v70 (tn v72)).a (rd v70 (tn v72)).b aL (rd v70 (tn v72)).c (rd v70 (tn v72)).d aI)]).length (Zz (aC ++ [(R6.mk (rd v70 (tn v72)).a (rd v70 (tn v72)).b aL (rd v70 (tn v72)).c (rd v70 (tn v72)).d aI)]))]), []⟩ [true] (pp (xL (aC.length + 1) (aC ++ [(R6.mk (rd v70 (tn v72)).a (rd v70 (tn v72)).b aL (rd v70 (tn v72)).c (rd v70 (tn v72)).d aI)]).length) (pp (xL (aC.length + 1) (aC ++ [(R6.mk (rd v70 (tn v72)).a (rd v70 (tn v72)).b aL (rd v70 (tn v72)).c (rd v70 (tn v72)).d aI)]).length) (pp (xS (aC.length + 1) (Zd (Zz aC) 0 aC.length 6 [(ii (rd v70 (tn v72)).a), (ii (rd v70 (tn v72)).b), (ii aL), (ii (rd v70 (tn v72)).c), (ii (rd v70 (tn v72)).d), (ii aI)]) (Zz (aC ++ [(R6.mk (rd v70 (tn v72)).a (rd v70 (tn v72)).b aL (rd v70 (tn v72)).c (rd v70 (tn v72)).d aI)]))) (pp (fl cG (pp (xF (Zd (Zz aC) 0 aC.length 6 [(ii (rd v70 (tn v72)).a), (ii (rd v70 (tn v72)).b), (ii aL), (ii (rd v70 (tn v72)).c), (ii (rd v70 (tn v72)).d), (ii aI)])) nn)) (ww o1 (ww o0 (tt k0 nn))))))))))) (fun k0 => (sl Km 20 [] ⟨[0, 1, 2, 3, 4, 5, 6, 7, 9, 10, 11, 12, 13], [], v5f, v5g⟩ ⟨[], [], []⟩ [false, false] (pp (fl cG (fl aC nn)) (tt k0 nn)))))
 | .h4 v14 cB aL aI bU aC aF aK dR cQ cY => (lb (fun k0 => (lo fun o0 => (lo fun o1 => (sl Km 29 [] ⟨(List.range 14), [], innN4, innM4⟩ ⟨[], (kpB 4 [.cells [.len (aC.set (0 + (tn v14)) (R6.mk (rd aC (0 + (tn v14))).a (rd aC (0 + (tn v14))).b (rd aC (0 + (tn v14))).c (rd aC (0 + (tn v14))).d (rd aC (0 + (tn v14))).e aI)).length], .rowed 6 (aC.set (0 + (tn v14)) (R6.mk (rd aC (0 + (tn v14))).a (rd aC (0 + (tn v14))).b (rd aC (0 + (tn v14))).c (rd aC (0 + (tn v14))).d (rd aC (0 + (tn v14))).e aI)).length (Zz (aC.set (0 + (tn v14)) (R6.mk (rd aC (0 + (tn v14))).a (rd aC (0 + (tn v14))).b (rd aC (0 + (tn v14))).c (rd aC (0 + (tn v14))).d (rd aC (0 + (tn v14))).e aI))), .keep, .keep, .keep, .keep, .keep, .keep, .keep, .keep]), []⟩ [true] (pp (xL aC.length (aC.set (0 + (tn v14)) (R6.mk (rd aC (0 + (tn v14))).a (rd aC (0 + (tn v14))).b (rd aC (0 + (tn v14))).c (rd aC (0 + (tn v14))).d (rd aC (0 + (tn v14))).e aI)).length) (pp (xL aC.length (aC.set (0 + (tn v14)) (R6.mk (rd aC (0 + (tn v14))).a (rd aC (0 + (tn v14))).b (rd aC (0 + (tn v14))).c (rd aC (0 + (tn v14))).d (rd aC (0 + (tn v14))).e aI)).length) (pp (xS aC.length (Xc (Zz aC) (0 + (tn v14)) 5 [(ii aI)]) (Zz (aC.set (0 + (tn v14)) (R6.mk (rd aC (0 + (tn v14))).a (rd aC (0 + (tn v14))).b (rd aC (0 + (tn v14))).c (rd aC (0 + (tn v14))).d (rd aC (0 + (tn v14))).e aI)))) (pp (pp (xF (Xc (Zz aC) (0 + (tn v14)) 5 [(ii aI)])) (fl cY nn)) (ww o1 (ww o0 (tt k0 nn))))))))))) (fun k0 => (sl Km 29 [] ⟨[0, 1, 2, 3, 4, 6, 7, 8, 10, 11, 12, 13, 5], [], v5f, v5g⟩ ⟨[], [], []⟩ [false, false] (pp (fl cY (fl aC nn)) (tt k0 nn)))))
theorem x0j (l0 : List R6) (x1 : Int) : Ww prog (Zy prog 36) (innC l0 x1) (Zn prog 36 [(.dat l0.length (Zz l0)), (.int .i64 x1)] true []) (z8k l0 x1) := (lo fun cH => (lb (fun k0 => (z0l ⟨⟨99, 0, true⟩, none, (Za prog 36 [1, 0, 1, 1, 0, 0] 1), none, (Zy prog 36), ⟨Yk [(4, (.ptr 0 0)), (5, (.ptr 1 0))], Vn [⟨[.nils], 30, none⟩, ⟨[(ii (Yg (cvT l0)))], 24, none⟩] 0, 2, [], true⟩, [], .leaf⟩ (sl Km 49 [] ⟨[1, 2], [], [some [4, 5]], []⟩ ⟨[], [], []⟩ [true, true] (tt k0 (tt k0 (pp (pp (xr l0) (xw cH)) nn)))) rfl (by kernel_rfl))) (fun k0 => (lb (fun k1 => (z0l ⟨⟨99, 0, true⟩, none, (Za prog 36 [1, 0, 1, 1, 0, 0] 1), none, (Zy prog 36), ⟨Yk [(4, (.ptr 0 0)), (5, (.ptr 1 0))], Vn [⟨[.nils], 30, none⟩, ⟨[(ii 2)], 24, none⟩] 0, 2, [], true⟩, [], .leaf⟩ (sl Km 60 [] ⟨[1, 2], [], [some [4, 5]], []⟩ ⟨[], [], []⟩ [false, true, true, true, true] (tt k1 (tt k0 (pp (pp (xr l0) (xw cH)) nn)))) rfl (by kernel_rfl))) (fun k1 => (lb (fun k2 => (z0l ⟨⟨99, 0, true⟩, none, (Za prog 36 [1, 0, 1, 1, 0, 0] 1), none, (Zy prog 36), ⟨Yk [(4, (.ptr 0 0)), (5, (.ptr 1 0))], Vn [⟨[.nils], 30, none⟩, ⟨[(ii 2)], 24, none⟩] 0, 2, [], true⟩, [], .leaf⟩ (sl Km 60 [] ⟨[1, 2], [], [some [4, 5]], []⟩ ⟨[], [], []⟩ [false, false, false, true, true] (tt k2 (tt k1 (tt k0 (pp (pp (xr l0) (xw cH)) nn))))) rfl (by kernel_rfl))) (fun k2 => (sl Km 96 [(3, 1, Zz ([] : List Int))] ⟨[7, 8, 9, 0, 1, 2, 3, 4, 5, 6, 10], [], innN0, innM0⟩ ⟨[], [.keep, .keep, .cells [.grow 10 1], .keep, .keep, .keep, .keep, .keep, .keep, .keep, .keep], []⟩ [false, false, false, false, false] (pp (fl ([] : List Int) nn) (tt k2 (tt k1 (tt k0 (pp (pp (xr l0) (xw cH)) nn)))))))))))))
theorem w6e (l0 : List R6) (x1 : Int) (n : Nat) (vs : List AVal) (h : Yv (Xq l0 x1) n (z8k l0 x1) = .ret vs) : Kz prog (Zy prog 36) (Zn prog 36 [(.dat l0.length (Zz l0)), (.int .i64 x1)] true []) vs := by
 have := Zr (x5y l0 x1) n _ (x0j l0 x1)
 rwa [h] at this
end Go.Am
namespace Go.Am
open Go.Proofs.Tryz
open Go.Proofs Go.Sort Go.Shelf Go.RowKit Go.Lib
theorem v1l {L : List R6} {n : Int} (hl : L.length ≤ 400) {i : Nat} (hi : i + 1 < (rnC R6.c R6.f n L).length) (out : List R6) (last : List R4) (first fin : Int) : ∀ (k j : Nat) (acc : List R6), j + k = L.length → acc.length ≤ j →
  ∃ N, ∀ M, Yv (Xq L n) (M + N) (.to (.h2 ((i + 1 : Nat) : Int) acc (j : Int) out last first fin (rnC R6.c R6.f n L).length (Xy (Ye (rnE R6.c R6.f n L))))) = Yv (Xq L n) M (.to (.h2 ((i + 1 : Nat) : Int) (acc ++ crS R6.c R6.f (L.drop j) (rd (rnC R6.c R6.f n L) i) (rd (rnC R6.c R6.f n L) (i + 1))) (L.length : Int) out last first fin (rnC R6.c R6.f n L).length (Xy (Ye (rnE R6.c R6.f n L)))))
 | 0, j, acc, h, ha => by
  refine ⟨0, fun M => ?_⟩
  rw [List.drop_eq_nil_of_le (by omega), show crS R6.c R6.f ([] : List R6) (rd (rnC R6.c R6.f n L) i) (rd (rnC R6.c R6.f n L) (i + 1)) = [] from rfl, List.append_nil, Nat.add_zero, show j = L.length by omega]
 | k + 1, j, acc, h, ha => by
  have hj : j < L.length := by omega
  have hc := Vu R6.c R6.f n L
  have hpl : (Xy (Ye (rnE R6.c R6.f n L))).length = 4 * L.length := by rw [Wi, Wu, Wz]
  have r0 : rd (Xy (Ye (rnE R6.c R6.f n L))) i = rd (rnC R6.c R6.f n L) i := Us _ _ (by show i < (rnC R6.c R6.f n L).length; omega)
  have r1 : rd (Xy (Ye (rnE R6.c R6.f n L))) (i + 1) = rd (rnC R6.c R6.f n L) (i + 1) := Us _ _ (by show i + 1 < (rnC R6.c R6.f n L).length; omega)
  have e1 : IntKind.wrap .i64 (((i + 1 : Nat) : Int) - 1) = (i : Int) := by rw [Zc]; exact Zj (by omega)
  have hw : IntKind.wrap .i64 ((j : Int) + 1) = ((j + 1 : Nat) : Int) := Zj (by omega)
  obtain ⟨N, hN⟩ := v1l hl hi out last first fin k (j + 1) (acc ++ crS R6.c R6.f [rd L j] (rd (rnC R6.c R6.f n L) i) (rd (rnC R6.c R6.f n L) (i + 1))) (by omega) (by have := Kv R6.c R6.f [rd L j] (rd (rnC R6.c R6.f n L) i) (rd (rnC R6.c R6.f n L) (i + 1)); simp only [List.length_append, List.length_singleton] at *; omega)
  refine ⟨N + 1, fun M => ?_⟩
  have e : crS R6.c R6.f (L.drop j) (rd (rnC R6.c R6.f n L) i) (rd (rnC R6.c R6.f n L) (i + 1)) = crS R6.c R6.f [rd L j] (rd (rnC R6.c R6.f n L) i) (rd (rnC R6.c R6.f n L) (i + 1)) ++ crS R6.c R6.f (L.drop (j + 1)) (rd (rnC R6.c R6.f n L) i) (rd (rnC R6.c R6.f n L) (i + 1)) := by
   rw [Yc hj, ← z6i]; rfl
  rw [e, ← Nat.add_assoc, Zv, ← List.append_assoc, ← hN M]
  by_cases h1 : (rd L j).c < rd (rnC R6.c R6.f n L) (i + 1)
  ·by_cases h2 : rd (rnC R6.c R6.f n L) i < (rd L j).f
   ·rw [v7m h1 h2]
    simp (disch := omega) only [Xq, e1, r0, r1, hw, Zb, Zk, Zo, Zt, Yz, Yw, Yu, Zf, Zj, Zw, Yp, Zq, Nat.zero_add, decide_true, Bool.and_true, Bool.true_and, cond_true, cond_false]
   ·rw [w2b h2, List.append_nil]
    simp (disch := omega) only [Xq, Zs, e1, r0, r1, hw, Zb, Zk, Zo, Zt, Yz, Yw, Yu, Zf, Zj, Zw, Yp, Zq, Nat.zero_add, decide_true, Bool.and_true, Bool.true_and, cond_true, cond_false]
  ·rw [w2c h1, List.append_nil]
   simp (disch := omega) only [Xq, Zs, e1, r0, r1, hw, Zb, Zk, Zo, Zt, Yz, Yw, Yu, Zf, Zj, Zw, Yp, Zq, Nat.zero_add, decide_true, Bool.and_true, Bool.true_and, cond_true, cond_false]
theorem v1m {L : List R6} {n : Int} (hl : L.length ≤ 400) (hn : n ≠ 0) {R : List AVal} (hR : ∃ N, Yv (Xq L n) N (.to (.h1 1 [] [] 0 0 (rnC R6.c R6.f n L).length (Xy (Ye (rnE R6.c R6.f n L))))) = .ret R) : ∀ (k i : Nat) (acc : List Int), i + k = L.length → acc = rnE R6.c R6.f n (L.take i) → ∃ N, Yv (Xq L n) N (.to (.h0 (i : Int) acc)) = .ret R
 | 0, i, acc, h, ha => by
  have e : acc = (rnE R6.c R6.f n L) := by rw [ha, List.take_of_length_le (by omega)]
  subst e
  have hle := Wz R6.c R6.f n L
  obtain ⟨N, hN⟩ := hR
  refine ⟨N + 1, ?_⟩
  rw [Zv]
  simp (disch := omega) only [Xq, Ux, Kx, z6j, Zs, Yw, Yu, decide_true, cond_true, cond_false]
  exact hN
 | k + 1, i, acc, h, ha => by
  have hle := Wz R6.c R6.f n (L.take i)
  have fP : acc.length ≤ 4 * i := by rw [ha, hle]; simp; omega
  obtain ⟨N, hN⟩ := v1m hl hn hR k (i + 1) (acc ++ rnE R6.c R6.f n [rd L i]) (by omega) (by
   rw [ha, List.take_add_one]
   have : L[i]? = some (rd L i) := by rw [Xe (show i < L.length by omega)]; exact List.getElem?_eq_getElem _
   rw [this, z5s]; rfl)
  refine ⟨N + 1, ?_⟩
  rw [Zv]
  simp (disch := omega) only [Xq, w7j hn, Zb, Zk, Zo, Zt, Yz, Yw, Yu, Zf, Zj, Zw, Yp, Zq, Nat.zero_add, decide_true, Bool.and_true, Bool.true_and, cond_true, cond_false]
  exact hN
def w6f (L : List R6) (n : Int) (x x' : Int) : List R4 := (Qk (crS R6.c R6.f L x x') x x' n)
theorem v1k {L : List R6} {n : Int} (hl : L.length ≤ 400) (i : Nat) (hi : i ≤ 2000) (x x' : Int) (q : List R4) (first : Int) (inn : List R6) (hq : q.length ≤ 2000) : ∀ (k j : Nat) (out : List R6), j + k = q.length → out.length ≤ 10000000 + j →
  ∃ N, ∀ M, Yv (Xq L n) (M + N) (.to (.h3 q (q.length : Int) (j : Int) (i : Int) x x' inn out first (rnC R6.c R6.f n L).length (Xy (Ye (rnE R6.c R6.f n L))))) = Yv (Xq L n) M (.to (.h1 ((i + 1 : Nat) : Int) (out ++ (q.drop j).map (D6.put x x')) q first x' (rnC R6.c R6.f n L).length (Xy (Ye (rnE R6.c R6.f n L)))))
 | 0, j, out, h, ho => by
  refine ⟨1, fun M => ?_⟩
  rw [List.drop_eq_nil_of_le (by omega), Zv]
  simp (disch := omega) only [Xq, Zs, Zj, Zw, cond_false, List.map_nil, List.append_nil]
 | k + 1, j, out, h, ho => by
  obtain ⟨N, hN⟩ := v1k hl i hi x x' q first inn hq k (j + 1) (out ++ [D6.put x x' (rd q j)]) (by omega) (by simp; omega)
  refine ⟨N + 1, fun M => ?_⟩
  have := hN M
  rw [Yc (show j < q.length by omega), List.map_cons, ← Nat.add_assoc, Zv]
  simp (disch := omega) only [Xq, Zb, Zk, Zo, Zt, Yz, Yw, Yu, Zf, Zj, Zw, Yp, Zq, Nat.zero_add, decide_true, Bool.and_true, Bool.true_and, cond_true, cond_false]
  rw [List.append_assoc] at this
  exact this
theorem v1j {L : List R6} {n : Int} (hl : L.length ≤ 400) (i : Nat) (hi : i ≤ 2000) (x x' fin : Int) (last : List R4) (first : Int) (inn : List R6) : ∀ (k j : Nat) (out : List R6), j + k = out.length → out.length ≤ 10000000 →
  ∃ N, ∀ M, Yv (Xq L n) (M + N) (.to (.h4 (j : Int) (i : Int) x x' inn out last first fin (rnC R6.c R6.f n L).length (Xy (Ye (rnE R6.c R6.f n L))))) = Yv (Xq L n) M (.to (.h1 ((i + 1 : Nat) : Int) (D6.grow out j x') last first x' (rnC R6.c R6.f n L).length (Xy (Ye (rnE R6.c R6.f n L)))))
 | 0, j, out, h, ho => by
  refine ⟨1, fun M => ?_⟩
  rw [D6.grow_nil _ _ _ (by omega), Zv]
  simp (disch := omega) only [Xq, Zs, Zj, Zw, cond_false]
 | k + 1, j, out, h, ho => by
  obtain ⟨N, hN⟩ := v1j hl i hi x x' fin last first inn k (j + 1) (out.set j (D6.ext x' (rd out j))) (by simp; omega) (by simpa using ho)
  refine ⟨N + 1, fun M => ?_⟩
  have := hN M
  rw [D6.grow_set out j _ (by omega)] at this
  rw [← Nat.add_assoc, Zv]
  simp (disch := omega) only [Xq, Zb, Zk, Zo, Zt, Yz, Yw, Yu, Zf, Zj, Zw, Yp, Zq, Nat.zero_add, decide_true, Bool.and_true, Bool.true_and, cond_true, cond_false]
  exact this
theorem w1c {L : List R6} {n : Int} (hl : L.length ≤ 400) (hn : n ≠ 0) : ∀ (k i : Nat) (s : Sw R6 R4), k = (rnC R6.c R6.f n L).length - 1 - i → i ≤ (rnC R6.c R6.f n L).length → s.out.length ≤ i * 2000 → s.last.length ≤ 2000 → s.first ≤ s.out.length → ∃ N, Yv (Xq L n) N (.to (.h1 ((i + 1 : Nat) : Int) s.out s.last (s.first : Int) s.fin (rnC R6.c R6.f n L).length (Xy (Ye (rnE R6.c R6.f n L))))) = .ret (bif okX (w6f L n) (rnC R6.c R6.f n L) k i then z1a (D6.goX (w6f L n) (rnC R6.c R6.f n L) k i s).out else [.nils, .int .i64 4])
 | 0, i, s, h, hi, ho, hla, hf => by
  have hc := Vu R6.c R6.f n L
  refine ⟨1, ?_⟩
  rw [Zv]
  rw [show okX (w6f L n) (rnC R6.c R6.f n L) 0 i = true from rfl, cond_true, show D6.goX (w6f L n) (rnC R6.c R6.f n L) 0 i s = s from rfl]
  unfold z1a
  by_cases q : (s.out.length : Int) > 400
  ·simp (disch := omega) only [Xq, Zs, Yi, cond_true, cond_false, Zm]
  ·simp (disch := omega) only [Xq, Zs, Xz, cond_true, cond_false, Zm]
 | k + 1, i, s, h, hi, ho, hla, hf => by
  have hc := Vu R6.c R6.f n L
  have hi1 : i + 1 < (rnC R6.c R6.f n L).length := by omega
  have hpl : (Xy (Ye (rnE R6.c R6.f n L))).length = 4 * L.length := by rw [Wi, Wu, Wz]
  have r0 : rd (Xy (Ye (rnE R6.c R6.f n L))) i = rd (rnC R6.c R6.f n L) i := Us _ _ (by show i < (rnC R6.c R6.f n L).length; omega)
  have r1 : rd (Xy (Ye (rnE R6.c R6.f n L))) (i + 1) = rd (rnC R6.c R6.f n L) (i + 1) := Us _ _ (by show i + 1 < (rnC R6.c R6.f n L).length; omega)
  have e1 : IntKind.wrap .i64 (((i + 1 : Nat) : Int) - 1) = (i : Int) := by rw [Zc]; exact Zj (by omega)
  have hbig : i * 2000 ≤ 1600 * 2000 := Nat.mul_le_mul_right _ (by omega)
  obtain ⟨N2, h2⟩ := v1l (n := n) hl hi1 s.out s.last (s.first : Int) s.fin L.length 0 [] (Nat.zero_add _) (Nat.le_refl _)
  rw [List.drop_zero, List.nil_append, Qn] at h2
  have hin := Kv R6.c R6.f L (rd (rnC R6.c R6.f n L) i) (rd (rnC R6.c R6.f n L) (i + 1))
  have w1 : Qd (crS R6.c R6.f L (rd (rnC R6.c R6.f n L) i) (rd (rnC R6.c R6.f n L) (i + 1))) (rd (rnC R6.c R6.f n L) i) (rd (rnC R6.c R6.f n L) (i + 1)) n = true := by
   unfold Qd
   rw [Yz (by omega), decide_eq_false hn]; rfl
  have st0 : ∀ M, Yv (Xq L n) (M + N2 + 1) (.to (.h1 ((i + 1 : Nat) : Int) s.out s.last (s.first : Int) s.fin (rnC R6.c R6.f n L).length (Xy (Ye (rnE R6.c R6.f n L))))) = Yv (Xq L n) M (.to (.h2 ((i + 1 : Nat) : Int) (crS R6.c R6.f L (rd (rnC R6.c R6.f n L) i) (rd (rnC R6.c R6.f n L) (i + 1))) (L.length : Int) s.out s.last (s.first : Int) s.fin (rnC R6.c R6.f n L).length (Xy (Ye (rnE R6.c R6.f n L))))) := fun M => by
   rw [← h2 M, Zv]
   simp (disch := omega) only [Xq, Zo, cond_true]
  have hq : (w6f L n) (rd (rnC R6.c R6.f n L) i) (rd (rnC R6.c R6.f n L) (i + 1)) = (Qk (crS R6.c R6.f L (rd (rnC R6.c R6.f n L) i) (rd (rnC R6.c R6.f n L) (i + 1))) (rd (rnC R6.c R6.f n L) i) (rd (rnC R6.c R6.f n L) (i + 1)) n) := rfl
  rcases Ya (decide (((Qk (crS R6.c R6.f L (rd (rnC R6.c R6.f n L) i) (rd (rnC R6.c R6.f n L) (i + 1))) (rd (rnC R6.c R6.f n L) i) (rd (rnC R6.c R6.f n L) (i + 1)) n).length : Int) > 400)) with q0 | q0
  ·refine ⟨1 + N2 + 1, ?_⟩
   rw [st0 1, Zv]
   unfold okX
   rw [hq, q0, cond_true, cond_false]
   simp (disch := omega) only [Xq, Zs, e1, r0, r1, w1, q0, Zb, Zk, Zo, Zt, Yz, Yw, Yu, Zf, Zj, Zw, Yp, Zq, Nat.zero_add, decide_true, Bool.and_true, Bool.true_and, cond_true, cond_false, Zm]
  have hsl : (Qk (crS R6.c R6.f L (rd (rnC R6.c R6.f n L) i) (rd (rnC R6.c R6.f n L) (i + 1))) (rd (rnC R6.c R6.f n L) i) (rd (rnC R6.c R6.f n L) (i + 1)) n).length ≤ 2000 := by have := of_decide_eq_false q0; omega
  have w2 : Wj s.last (Qk (crS R6.c R6.f L (rd (rnC R6.c R6.f n L) i) (rd (rnC R6.c R6.f n L) (i + 1))) (rd (rnC R6.c R6.f n L) i) (rd (rnC R6.c R6.f n L) (i + 1)) n) = true := decide_eq_true (by omega)
  have ol := D6.oneS_length (Qk (crS R6.c R6.f L (rd (rnC R6.c R6.f n L) i) (rd (rnC R6.c R6.f n L) (i + 1))) (rd (rnC R6.c R6.f n L) i) (rd (rnC R6.c R6.f n L) (i + 1)) n) (rd (rnC R6.c R6.f n L) i) (rd (rnC R6.c R6.f n L) (i + 1)) s
  rcases Ya (decide (0 < (Qk (crS R6.c R6.f L (rd (rnC R6.c R6.f n L) i) (rd (rnC R6.c R6.f n L) (i + 1))) (rd (rnC R6.c R6.f n L) i) (rd (rnC R6.c R6.f n L) (i + 1)) n).length) && ((s.fin == (rd (rnC R6.c R6.f n L) i)) && D6.same s.last (Qk (crS R6.c R6.f L (rd (rnC R6.c R6.f n L) i) (rd (rnC R6.c R6.f n L) (i + 1))) (rd (rnC R6.c R6.f n L) i) (rd (rnC R6.c R6.f n L) (i + 1)) n))) with q | q
  ·obtain ⟨N4, h4⟩ := v1j (n := n) hl (i + 1) (by omega) (rd (rnC R6.c R6.f n L) i) (rd (rnC R6.c R6.f n L) (i + 1)) s.fin s.last (s.first : Int) (crS R6.c R6.f L (rd (rnC R6.c R6.f n L) i) (rd (rnC R6.c R6.f n L) (i + 1))) (s.out.length - s.first) s.first s.out (by omega) (by omega)
   have e : D6.oneS (Qk (crS R6.c R6.f L (rd (rnC R6.c R6.f n L) i) (rd (rnC R6.c R6.f n L) (i + 1))) (rd (rnC R6.c R6.f n L) i) (rd (rnC R6.c R6.f n L) (i + 1)) n) (rd (rnC R6.c R6.f n L) i) (rd (rnC R6.c R6.f n L) (i + 1)) s = ⟨D6.grow s.out s.first (rd (rnC R6.c R6.f n L) (i + 1)), s.last, s.first, (rd (rnC R6.c R6.f n L) (i + 1))⟩ := by unfold Dim.oneS; rw [q]; rfl
   obtain ⟨N0, h0⟩ := w1c hl hn k (i + 1) (D6.oneS (Qk (crS R6.c R6.f L (rd (rnC R6.c R6.f n L) i) (rd (rnC R6.c R6.f n L) (i + 1))) (rd (rnC R6.c R6.f n L) i) (rd (rnC R6.c R6.f n L) (i + 1)) n) (rd (rnC R6.c R6.f n L) i) (rd (rnC R6.c R6.f n L) (i + 1)) s) (by omega) (by omega) (by omega) (by rw [e]; exact hla) (by rw [e]; simpa [Dim.grow_length] using hf)
   refine ⟨N0 + N4 + 1 + N2 + 1, ?_⟩
   rw [st0 (N0 + N4 + 1), Zv]
   simp only [Bool.and_eq_true, decide_eq_true_eq] at q
   obtain ⟨q1, q2, q3⟩ := q
   have q3' : Up s.last (Qk (crS R6.c R6.f L (rd (rnC R6.c R6.f n L) i) (rd (rnC R6.c R6.f n L) (i + 1))) (rd (rnC R6.c R6.f n L) i) (rd (rnC R6.c R6.f n L) (i + 1)) n) = true := q3
   simp (disch := omega) only [Xq, Zs, Yi, e1, r0, r1, q0, q2, q3', w1, w2, Zb, Zk, Zo, Zt, Yz, Yw, Yu, Zf, Zj, Zw, Yp, Zq, Nat.zero_add, decide_true, Bool.and_true, Bool.true_and, cond_true, cond_false]
   rw [h4 N0]
   unfold okX; rw [hq, q0, cond_false]; unfold Dim.goX
   rw [hq]
   rw [e] at h0 ⊢
   exact h0
  ·obtain ⟨N3, h3⟩ := v1k (n := n) hl (i + 1) (by omega) (rd (rnC R6.c R6.f n L) i) (rd (rnC R6.c R6.f n L) (i + 1)) (Qk (crS R6.c R6.f L (rd (rnC R6.c R6.f n L) i) (rd (rnC R6.c R6.f n L) (i + 1))) (rd (rnC R6.c R6.f n L) i) (rd (rnC R6.c R6.f n L) (i + 1)) n) (s.out.length : Int) (crS R6.c R6.f L (rd (rnC R6.c R6.f n L) i) (rd (rnC R6.c R6.f n L) (i + 1))) hsl (Qk (crS R6.c R6.f L (rd (rnC R6.c R6.f n L) i) (rd (rnC R6.c R6.f n L) (i + 1))) (rd (rnC R6.c R6.f n L) i) (rd (rnC R6.c R6.f n L) (i + 1)) n).length 0 s.out (Nat.zero_add _) (by omega)
   simp only [List.drop_zero, Qn] at h3
   have e : D6.oneS (Qk (crS R6.c R6.f L (rd (rnC R6.c R6.f n L) i) (rd (rnC R6.c R6.f n L) (i + 1))) (rd (rnC R6.c R6.f n L) i) (rd (rnC R6.c R6.f n L) (i + 1)) n) (rd (rnC R6.c R6.f n L) i) (rd (rnC R6.c R6.f n L) (i + 1)) s = ⟨s.out ++ (Qk (crS R6.c R6.f L (rd (rnC R6.c R6.f n L) i) (rd (rnC R6.c R6.f n L) (i + 1))) (rd (rnC R6.c R6.f n L) i) (rd (rnC R6.c R6.f n L) (i + 1)) n).map (D6.put (rd (rnC R6.c R6.f n L) i) (rd (rnC R6.c R6.f n L) (i + 1))), (Qk (crS R6.c R6.f L (rd (rnC R6.c R6.f n L) i) (rd (rnC R6.c R6.f n L) (i + 1))) (rd (rnC R6.c R6.f n L) i) (rd (rnC R6.c R6.f n L) (i + 1)) n), s.out.length, (rd (rnC R6.c R6.f n L) (i + 1))⟩ := by unfold Dim.oneS; rw [q]; rfl
   obtain ⟨N0, h0⟩ := w1c hl hn k (i + 1) (D6.oneS (Qk (crS R6.c R6.f L (rd (rnC R6.c R6.f n L) i) (rd (rnC R6.c R6.f n L) (i + 1))) (rd (rnC R6.c R6.f n L) i) (rd (rnC R6.c R6.f n L) (i + 1)) n) (rd (rnC R6.c R6.f n L) i) (rd (rnC R6.c R6.f n L) (i + 1)) s) (by omega) (by omega) (by omega) (by rw [e]; exact hsl) (by rw [e]; simp)
   have hg : Xq L n (.h2 ((i + 1 : Nat) : Int) (crS R6.c R6.f L (rd (rnC R6.c R6.f n L) i) (rd (rnC R6.c R6.f n L) (i + 1))) (L.length : Int) s.out s.last (s.first : Int) s.fin (rnC R6.c R6.f n L).length (Xy (Ye (rnE R6.c R6.f n L)))) = .to (.h3 (Qk (crS R6.c R6.f L (rd (rnC R6.c R6.f n L) i) (rd (rnC R6.c R6.f n L) (i + 1))) (rd (rnC R6.c R6.f n L) i) (rd (rnC R6.c R6.f n L) (i + 1)) n) ((Qk (crS R6.c R6.f L (rd (rnC R6.c R6.f n L) i) (rd (rnC R6.c R6.f n L) (i + 1))) (rd (rnC R6.c R6.f n L) i) (rd (rnC R6.c R6.f n L) (i + 1)) n).length : Int) 0 ((i + 1 : Nat) : Int) (rd (rnC R6.c R6.f n L) i) (rd (rnC R6.c R6.f n L) (i + 1)) (crS R6.c R6.f L (rd (rnC R6.c R6.f n L) i) (rd (rnC R6.c R6.f n L) (i + 1))) s.out (s.out.length : Int) (rnC R6.c R6.f n L).length (Xy (Ye (rnE R6.c R6.f n L)))) := by
    have e3 : D6.same s.last (Qk (crS R6.c R6.f L (rd (rnC R6.c R6.f n L) i) (rd (rnC R6.c R6.f n L) (i + 1))) (rd (rnC R6.c R6.f n L) i) (rd (rnC R6.c R6.f n L) (i + 1)) n) = Up s.last (Qk (crS R6.c R6.f L (rd (rnC R6.c R6.f n L) i) (rd (rnC R6.c R6.f n L) (i + 1))) (rd (rnC R6.c R6.f n L) i) (rd (rnC R6.c R6.f n L) (i + 1)) n) := rfl
    rw [e3] at q
    by_cases q1 : 0 < (Qk (crS R6.c R6.f L (rd (rnC R6.c R6.f n L) i) (rd (rnC R6.c R6.f n L) (i + 1))) (rd (rnC R6.c R6.f n L) i) (rd (rnC R6.c R6.f n L) (i + 1)) n).length
    ·rw [decide_eq_true q1, Bool.true_and] at q
     rcases Ya (s.fin == (rd (rnC R6.c R6.f n L) i)) with q2 | q2
     ·rw [q2, Bool.true_and] at q
      simp (disch := omega) only [Xq, Zs, Yi, e1, r0, r1, q0, q2, q, w1, w2, Zb, Zk, Zo, Zt, Yz, Yw, Yu, Zf, Zj, Zw, Yp, Zq, Nat.zero_add, decide_true, Bool.and_true, Bool.true_and, cond_true, cond_false]
     ·simp (disch := omega) only [Xq, Zs, Yi, e1, r0, r1, q0, q2, w1, w2, Zb, Zk, Zo, Zt, Yz, Yw, Yu, Zf, Zj, Zw, Yp, Zq, Nat.zero_add, decide_true, Bool.and_true, Bool.true_and, cond_true, cond_false]
    ·simp (disch := omega) only [Xq, Zs, Xz, e1, r0, r1, q0, w1, w2, Zb, Zk, Zo, Zt, Yz, Yw, Yu, Zf, Zj, Zw, Yp, Zq, Nat.zero_add, decide_true, Bool.and_true, Bool.true_and, cond_true, cond_false]
   refine ⟨N0 + N3 + 1 + N2 + 1, ?_⟩
   rw [st0 (N0 + N3 + 1), Zv, hg, h3 N0]
   unfold okX; rw [hq, q0, cond_false]; unfold Dim.goX
   rw [hq]
   rw [e] at h0 ⊢
   exact h0
def innO (L : List R6) (n : Int) : List R6 := (D6.goX (w6f L n) (rnC R6.c R6.f n L) ((rnC R6.c R6.f n L).length - 1) 0 ⟨[], [], 0, 0⟩).out
def z2s (L : List R6) (n : Int) : Int := bif Yg L != 0 then Yg L else bif decide (n < 1) || decide (n > 1000) then 2 else bif okX (w6f L n) (rnC R6.c R6.f n L) ((rnC R6.c R6.f n L).length - 1) 0 then v2f (innO L n).length else 4
def z1n (L : List R6) (n : Int) : List R6 := v1t (z2s L n) (innO L n)
def z9z (L : List R6) (n : Int) : Bool := true
theorem v5d (L : List R6) (n : Int) : ∃ N, Yv (Xq L n) N (z8k L n) = .ret (x7h (z2s L n) (innO L n)) := by
 have hk : (Yg L != 0) = !(Yg L == 0) := rfl
 unfold z8k z2s
 simp only [Zb, z7y, cond_true, hk]
 rcases Ya (Yg L == 0) with a | a
 ·rcases Ya (decide (n < 1)) with b | b
  ·refine ⟨0, ?_⟩
   rw [a, b]; rfl
  ·rcases Ya (decide (n > 1000)) with c | c
   ·refine ⟨0, ?_⟩
    rw [a, b, c]; rfl
   ·have hb := of_decide_eq_false b
    have hl := (z0c (eq_of_beq a)).1
    obtain ⟨N, hN⟩ := v1m (L := L) (n := n) hl (by omega) (w1c hl (by omega) ((rnC R6.c R6.f n L).length - 1) 0 ⟨[], [], 0, 0⟩ (by omega) (Nat.zero_le _) (Nat.zero_le _) (Nat.zero_le _) (Nat.le_refl _)) L.length 0 [] (Nat.zero_add _) rfl
    refine ⟨N, ?_⟩
    rw [a, b, c]
    simp only [Bool.not_true, Bool.not_false, Bool.true_and, Bool.or_false, cond_true, cond_false]
    rw [Qn] at hN
    rw [hN]
    rcases Ya (okX (w6f L n) (rnC R6.c R6.f n L) ((rnC R6.c R6.f n L).length - 1) 0) with q | q
    ·rw [q, cond_true, cond_true, y0v]; rfl
    ·rw [q]; rfl
 ·refine ⟨0, ?_⟩
  rw [a]
  simp only [Bool.not_false, cond_true]
  rw [x2t _ (show (Yg L != 0) = true by rw [hk, a]; rfl)]; rfl
def fInn : List AVal → Option (AVal × Bool)
 | [a0, .int .i64 x1] => match asL R6 a0 with
  | some (L0, g0, n0) => some (.tup [.dat (z1n L0 x1).length (Zz (z1n L0 x1)), .int .i64 (z2s L0 x1)], isT R6 n0 g0 && z9z L0 x1)
  | _ => none
 | _ => none
theorem v6i {S : Specs} (hS : Zu prog S) : Zu prog (S.with w0p fInn) := by
 refine v5w hS (by kernel_rfl) fun args v h => ?_
 unfold fInn at h
 split at h
 ·rename_i a0 x1
  split at h
  ·rename_i L0 g0 n0 e0
   simp only [Option.some.injEq, Prod.mk.injEq, Bool.and_eq_true] at h
   obtain ⟨rfl, ho0, hw⟩ := h
   obtain ⟨N, hN⟩ := v5d L0 x1
   exact ⟨_, _, (.cons (asL_le e0 ho0) (.cons (.refl _) .nil)), y3m _ _, w6e L0 x1 N _ hN, 3, y9j _ _⟩
  ·cases h
 ·cases h
def Dh : Specs := (Dg.with w0p fInn)
theorem Jq : Zu prog Dh := (v6i Km)
end Go.Am
namespace Go.Am
open Go.Proofs.Tryz
open Go.Proofs
inductive al39S where
def v7t : al39S → Cfg
 := nofun
def y4u : al39S → Xn al39S
 := nofun
def z5i : Xn al39S := (bif (z9h (cvT ([(R6.mk 1 1 1 3 3 3)] : List R6)) 2) then (bif (z9z (cvT ([(R6.mk 1 1 1 3 3 3)] : List R6)) 2) then (bif (z4z (cvT ([(R6.mk 1 1 1 3 3 3)] : List R6)) (cvT (Xx (cvT ([(R6.mk 1 1 1 3 3 3)] : List R6)) 2))) then (bif (Wc (cvT ([(R6.mk 0 0 0 5 1 1)] : List R6)) (cvT ([(R6.mk 0 0 0 1 1 1)] : List R6))) then (bif (Wc (cvT ([(R6.mk 0 0 0 1 1 1)] : List R6)) (cvT ([(R6.mk 0 0 0 5 1 1)] : List R6))) then (bif ((z4g (cvT ([(R6.mk 1 1 1 3 3 3)] : List R6)) 2) == 0) then (bif (Vg (cvT (Xx (cvT ([(R6.mk 1 1 1 3 3 3)] : List R6)) 2)) (cvT ([(R6.mk 0 0 0 4 4 4)] : List R6))) then (bif (Ur (cvT (Xx (cvT ([(R6.mk 1 1 1 3 3 3)] : List R6)) 2)) (cvT ([(R6.mk 0 0 0 4 4 4)] : List R6))) then (bif ((z2s (cvT ([(R6.mk 1 1 1 3 3 3)] : List R6)) 2) == 0) then (bif ((((z1n (cvT ([(R6.mk 1 1 1 3 3 3)] : List R6)) 2).length : Nat) : Int) == 0) then (bif ((z5a (cvT ([(R6.mk 1 1 1 3 3 3)] : List R6)) (cvT (Xx (cvT ([(R6.mk 1 1 1 3 3 3)] : List R6)) 2))) == 0) then (bif ((z5b (cvT ([(R6.mk 1 1 1 3 3 3)] : List R6)) (cvT (Xx (cvT ([(R6.mk 1 1 1 3 3 3)] : List R6)) 2))) == 1) then (bif ((Vo (cvT ([(R6.mk 0 0 0 5 1 1)] : List R6)) (cvT ([(R6.mk 0 0 0 1 1 1)] : List R6))) == 0) then (bif ((Wv (cvT ([(R6.mk 0 0 0 5 1 1)] : List R6)) (cvT ([(R6.mk 0 0 0 1 1 1)] : List R6))) == 4) then (bif ((Vo (cvT ([(R6.mk 0 0 0 1 1 1)] : List R6)) (cvT ([(R6.mk 0 0 0 5 1 1)] : List R6))) == 0) then (.ret [(.bool ((Wv (cvT ([(R6.mk 0 0 0 1 1 1)] : List R6)) (cvT ([(R6.mk 0 0 0 5 1 1)] : List R6))) == 0))]) else (.ret [(.bool false)])) else (.ret [(.bool false)])) else (.ret [(.bool false)])) else (.ret [(.bool false)])) else (.ret [(.bool false)])) else (.ret [(.bool false)])) else (.ret [(.bool false)])) else (.ret [(.bool false)])) else .stuck) else (.ret [(.bool false)])) else .stuck) else .stuck) else .stuck) else .stuck) else .stuck)
theorem x1t : ∀ s, Ww prog (Zy prog 41) (v7t) (v7t s) (y4u s)
 := nofun
theorem y7l : Ww prog (Zy prog 41) (v7t) (Zn prog 41 [] true []) (z5i) := (Wb (sl Jq (C' := ⟨⟨87, 0, true⟩, (Vk prog 41 [1, 1, 0] 1), (Za prog 41 [1, 1, 0] 1), none, (Zy prog 13), ⟨Yk [(1, (.dat ([(R6.mk 1 1 1 3 3 3)] : List R6).length (Zz ([(R6.mk 1 1 1 3 3 3)] : List R6)))), (15, (.dat ([(R6.mk 1 1 1 3 3 3)] : List R6).length (Zz ([(R6.mk 1 1 1 3 3 3)] : List R6))))], Vn [] 0, 0, [], true⟩, [], .leaf⟩) 31 [] ⟨[], [1], [some [1, 15]], []⟩ ⟨[(1, .frz 1 ([(R6.mk 1 1 1 3 3 3)] : List R6).length (Vi [(ii 1), (ii 1), (ii 1), (ii 3), (ii 3), (ii 3)] 0 6) (Zz ([(R6.mk 1 1 1 3 3 3)] : List R6))), (15, .frz 1 ([(R6.mk 1 1 1 3 3 3)] : List R6).length (Vi [(ii 1), (ii 1), (ii 1), (ii 3), (ii 3), (ii 3)] 0 6) (Zz ([(R6.mk 1 1 1 3 3 3)] : List R6)))], [], []⟩ [] (pp (xZ (.dat 1 (Vi [(ii 1), (ii 1), (ii 1), (ii 3), (ii 3), (ii 3)] 0 6)) 1 (Vi [(ii 1), (ii 1), (ii 1), (ii 3), (ii 3), (ii 3)] 0 6)) (pp (xL 1 ([(R6.mk 1 1 1 3 3 3)] : List R6).length) (pp (xS 1 (Vi [(ii 1), (ii 1), (ii 1), (ii 3), (ii 3), (ii 3)] 0 6) (Zz ([(R6.mk 1 1 1 3 3 3)] : List R6))) (pp (xZ (.dat 1 (Vi [(ii 1), (ii 1), (ii 1), (ii 3), (ii 3), (ii 3)] 0 6)) 1 (Vi [(ii 1), (ii 1), (ii 1), (ii 3), (ii 3), (ii 3)] 0 6)) (pp (xL 1 ([(R6.mk 1 1 1 3 3 3)] : List R6).length) (pp (xS 1 (Vi [(ii 1), (ii 1), (ii 1), (ii 3), (ii 3), (ii 3)] 0 6) (Zz ([(R6.mk 1 1 1 3 3 3)] : List R6))) nn))))))) (lo fun q0_0 => (lo fun q0_1 => (lo fun q0_2 => (Wb (sl Jq (C' := ⟨⟨87, 0, true⟩, (Vk prog 41 [1, 1, 1, 1, 1, 0] 4), (Za prog 41 [1, 1, 1, 1, 1, 0] 1), none, (Zy prog 13), ⟨Yk [(2, (.dat (Xx (cvT ([(R6.mk 1 1 1 3 3 3)] : List R6)) 2).length (Zz (Xx (cvT ([(R6.mk 1 1 1 3 3 3)] : List R6)) 2)))), (3, (ii (z4g (cvT ([(R6.mk 1 1 1 3 3 3)] : List R6)) 2))), (4, (.dat (z1n (cvT ([(R6.mk 1 1 1 3 3 3)] : List R6)) 2).length (Zz (z1n (cvT ([(R6.mk 1 1 1 3 3 3)] : List R6)) 2)))), (5, (ii (z2s (cvT ([(R6.mk 1 1 1 3 3 3)] : List R6)) 2))), (6, (ii (z5b (cvT ([(R6.mk 1 1 1 3 3 3)] : List R6)) (cvT (Xx (cvT ([(R6.mk 1 1 1 3 3 3)] : List R6)) 2))))), (7, (ii (z5a (cvT ([(R6.mk 1 1 1 3 3 3)] : List R6)) (cvT (Xx (cvT ([(R6.mk 1 1 1 3 3 3)] : List R6)) 2))))), (32, (.dat ([(R6.mk 0 0 0 5 1 1)] : List R6).length (Zz ([(R6.mk 0 0 0 5 1 1)] : List R6)))), (34, (.dat ([(R6.mk 0 0 0 1 1 1)] : List R6).length (Zz ([(R6.mk 0 0 0 1 1 1)] : List R6))))], Vn [] 0, 0, [], true⟩, [], .leaf⟩) 70 [] ⟨[], [1, 3], [some [2, 3, 4, 5, 6, 7, 32, 34]], []⟩ ⟨[(32, .frz 1 ([(R6.mk 0 0 0 5 1 1)] : List R6).length (Vi [(ii 0), (ii 0), (ii 0), (ii 5), (ii 1), (ii 1)] 0 6) (Zz ([(R6.mk 0 0 0 5 1 1)] : List R6))), (34, .frz 1 ([(R6.mk 0 0 0 1 1 1)] : List R6).length (Vi [(ii 0), (ii 0), (ii 0), (ii 1), (ii 1), (ii 1)] 0 6) (Zz ([(R6.mk 0 0 0 1 1 1)] : List R6)))], [], []⟩ [] (pp (xZ (.dat 1 (Vi [(ii 0), (ii 0), (ii 0), (ii 5), (ii 1), (ii 1)] 0 6)) 1 (Vi [(ii 0), (ii 0), (ii 0), (ii 5), (ii 1), (ii 1)] 0 6)) (pp (xL 1 ([(R6.mk 0 0 0 5 1 1)] : List R6).length) (pp (xS 1 (Vi [(ii 0), (ii 0), (ii 0), (ii 5), (ii 1), (ii 1)] 0 6) (Zz ([(R6.mk 0 0 0 5 1 1)] : List R6))) (pp (xZ (.dat 1 (Vi [(ii 0), (ii 0), (ii 0), (ii 1), (ii 1), (ii 1)] 0 6)) 1 (Vi [(ii 0), (ii 0), (ii 0), (ii 1), (ii 1), (ii 1)] 0 6)) (pp (xL 1 ([(R6.mk 0 0 0 1 1 1)] : List R6).length) (pp (xS 1 (Vi [(ii 0), (ii 0), (ii 0), (ii 1), (ii 1), (ii 1)] 0 6) (Zz ([(R6.mk 0 0 0 1 1 1)] : List R6))) (pp (pp (xI R6 ([(R6.mk 1 1 1 3 3 3)] : List R6).length (Zz ([(R6.mk 1 1 1 3 3 3)] : List R6))) (pp (xI R6 (Xx (cvT ([(R6.mk 1 1 1 3 3 3)] : List R6)) 2).length (Zz (Xx (cvT ([(R6.mk 1 1 1 3 3 3)] : List R6)) 2))) (xw q0_2))) (pp (pp (xI R6 ([(R6.mk 1 1 1 3 3 3)] : List R6).length (Zz ([(R6.mk 1 1 1 3 3 3)] : List R6))) (xw q0_1)) (pp (pp (xI R6 ([(R6.mk 1 1 1 3 3 3)] : List R6).length (Zz ([(R6.mk 1 1 1 3 3 3)] : List R6))) (xw q0_0)) nn)))))))))) (lo fun q0_0 => (Wb (sl Jq (C' := ⟨⟨87, 0, true⟩, (Vk prog 41 [1, 1, 1, 1, 1, 1, 0] 4), (Za prog 41 [1, 1, 1, 1, 1, 1, 0] 1), none, (Zy prog 13), ⟨Yk [(2, (.dat (Xx (cvT ([(R6.mk 1 1 1 3 3 3)] : List R6)) 2).length (Zz (Xx (cvT ([(R6.mk 1 1 1 3 3 3)] : List R6)) 2)))), (3, (ii (z4g (cvT ([(R6.mk 1 1 1 3 3 3)] : List R6)) 2))), (4, (.dat (z1n (cvT ([(R6.mk 1 1 1 3 3 3)] : List R6)) 2).length (Zz (z1n (cvT ([(R6.mk 1 1 1 3 3 3)] : List R6)) 2)))), (5, (ii (z2s (cvT ([(R6.mk 1 1 1 3 3 3)] : List R6)) 2))), (6, (ii (z5b (cvT ([(R6.mk 1 1 1 3 3 3)] : List R6)) (cvT (Xx (cvT ([(R6.mk 1 1 1 3 3 3)] : List R6)) 2))))), (7, (ii (z5a (cvT ([(R6.mk 1 1 1 3 3 3)] : List R6)) (cvT (Xx (cvT ([(R6.mk 1 1 1 3 3 3)] : List R6)) 2))))), (8, (ii (Wv (cvT ([(R6.mk 0 0 0 5 1 1)] : List R6)) (cvT ([(R6.mk 0 0 0 1 1 1)] : List R6))))), (9, (ii (Vo (cvT ([(R6.mk 0 0 0 5 1 1)] : List R6)) (cvT ([(R6.mk 0 0 0 1 1 1)] : List R6))))), (40, (.dat ([(R6.mk 0 0 0 1 1 1)] : List R6).length (Zz ([(R6.mk 0 0 0 1 1 1)] : List R6)))), (42, (.dat ([(R6.mk 0 0 0 5 1 1)] : List R6).length (Zz ([(R6.mk 0 0 0 5 1 1)] : List R6))))], Vn [] 0, 0, [], true⟩, [], .leaf⟩) 49 [] ⟨[], [1, 3], [some [2, 3, 4, 5, 6, 7, 8, 9, 40, 42]], []⟩ ⟨[(40, .frz 1 ([(R6.mk 0 0 0 1 1 1)] : List R6).length (Vi [(ii 0), (ii 0), (ii 0), (ii 1), (ii 1), (ii 1)] 0 6) (Zz ([(R6.mk 0 0 0 1 1 1)] : List R6))), (42, .frz 1 ([(R6.mk 0 0 0 5 1 1)] : List R6).length (Vi [(ii 0), (ii 0), (ii 0), (ii 5), (ii 1), (ii 1)] 0 6) (Zz ([(R6.mk 0 0 0 5 1 1)] : List R6)))], [], []⟩ [] (pp (xZ (.dat 1 (Vi [(ii 0), (ii 0), (ii 0), (ii 1), (ii 1), (ii 1)] 0 6)) 1 (Vi [(ii 0), (ii 0), (ii 0), (ii 1), (ii 1), (ii 1)] 0 6)) (pp (xL 1 ([(R6.mk 0 0 0 1 1 1)] : List R6).length) (pp (xS 1 (Vi [(ii 0), (ii 0), (ii 0), (ii 1), (ii 1), (ii 1)] 0 6) (Zz ([(R6.mk 0 0 0 1 1 1)] : List R6))) (pp (xZ (.dat 1 (Vi [(ii 0), (ii 0), (ii 0), (ii 5), (ii 1), (ii 1)] 0 6)) 1 (Vi [(ii 0), (ii 0), (ii 0), (ii 5), (ii 1), (ii 1)] 0 6)) (pp (xL 1 ([(R6.mk 0 0 0 5 1 1)] : List R6).length) (pp (xS 1 (Vi [(ii 0), (ii 0), (ii 0), (ii 5), (ii 1), (ii 1)] 0 6) (Zz ([(R6.mk 0 0 0 5 1 1)] : List R6))) (pp (pp (xI R6 ([(R6.mk 0 0 0 5 1 1)] : List R6).length (Zz ([(R6.mk 0 0 0 5 1 1)] : List R6))) (pp (xI R6 ([(R6.mk 0 0 0 1 1 1)] : List R6).length (Zz ([(R6.mk 0 0 0 1 1 1)] : List R6))) (xw q0_0))) nn)))))))) (lo fun cH => (lb (fun k0 => (Wb (sl Jq (C' := ⟨⟨87, 0, true⟩, (Vk prog 41 [1, 1, 1, 1, 1, 1, 1, 0] 6), (Za prog 41 [1, 1, 1, 1, 1, 1, 1, 0] 1), none, (Zy prog 13), ⟨Yk [(4, (.dat (z1n (cvT ([(R6.mk 1 1 1 3 3 3)] : List R6)) 2).length (Zz (z1n (cvT ([(R6.mk 1 1 1 3 3 3)] : List R6)) 2)))), (5, (ii (z2s (cvT ([(R6.mk 1 1 1 3 3 3)] : List R6)) 2))), (6, (ii (z5b (cvT ([(R6.mk 1 1 1 3 3 3)] : List R6)) (cvT (Xx (cvT ([(R6.mk 1 1 1 3 3 3)] : List R6)) 2))))), (7, (ii (z5a (cvT ([(R6.mk 1 1 1 3 3 3)] : List R6)) (cvT (Xx (cvT ([(R6.mk 1 1 1 3 3 3)] : List R6)) 2))))), (8, (ii (Wv (cvT ([(R6.mk 0 0 0 5 1 1)] : List R6)) (cvT ([(R6.mk 0 0 0 1 1 1)] : List R6))))), (9, (ii (Vo (cvT ([(R6.mk 0 0 0 5 1 1)] : List R6)) (cvT ([(R6.mk 0 0 0 1 1 1)] : List R6))))), (10, (ii (Wv (cvT ([(R6.mk 0 0 0 1 1 1)] : List R6)) (cvT ([(R6.mk 0 0 0 5 1 1)] : List R6))))), (11, (ii (Vo (cvT ([(R6.mk 0 0 0 1 1 1)] : List R6)) (cvT ([(R6.mk 0 0 0 5 1 1)] : List R6))))), (48, (.bool true)), (49, (.dat (Xx (cvT ([(R6.mk 1 1 1 3 3 3)] : List R6)) 2).length (Zz (Xx (cvT ([(R6.mk 1 1 1 3 3 3)] : List R6)) 2)))), (51, (.dat ([(R6.mk 0 0 0 4 4 4)] : List R6).length (Zz ([(R6.mk 0 0 0 4 4 4)] : List R6))))], Vn [] 0, 0, [], true⟩, [], .leaf⟩) 33 [] ⟨[], [1], [some [4, 5, 6, 7, 8, 9, 10, 11, 48, 49, 51]], []⟩ ⟨[(51, .frz 1 ([(R6.mk 0 0 0 4 4 4)] : List R6).length (Vi [(ii 0), (ii 0), (ii 0), (ii 4), (ii 4), (ii 4)] 0 6) (Zz ([(R6.mk 0 0 0 4 4 4)] : List R6)))], [], []⟩ (trs 3 []) (pp (xZ (.dat 1 (Vi [(ii 0), (ii 0), (ii 0), (ii 4), (ii 4), (ii 4)] 0 6)) 1 (Vi [(ii 0), (ii 0), (ii 0), (ii 4), (ii 4), (ii 4)] 0 6)) (pp (xL 1 ([(R6.mk 0 0 0 4 4 4)] : List R6).length) (pp (xS 1 (Vi [(ii 0), (ii 0), (ii 0), (ii 4), (ii 4), (ii 4)] 0 6) (Zz ([(R6.mk 0 0 0 4 4 4)] : List R6))) (tt k0 (pp (pp (xI R6 ([(R6.mk 0 0 0 1 1 1)] : List R6).length (Zz ([(R6.mk 0 0 0 1 1 1)] : List R6))) (pp (xI R6 ([(R6.mk 0 0 0 5 1 1)] : List R6).length (Zz ([(R6.mk 0 0 0 5 1 1)] : List R6))) (xw cH))) nn)))))) (lo fun aH => (lb (fun k1 => (lb (fun k2 => (lb (fun k3 => (lb (fun k4 => (lb (fun k5 => (lb (fun k6 => (lb (fun k7 => (lb (fun k8 => (lr 87 3 [1, 1, 1, 1, 1, 1, 0] 1 13 [(0, (.bool ((Wv (cvT ([(R6.mk 0 0 0 1 1 1)] : List R6)) (cvT ([(R6.mk 0 0 0 5 1 1)] : List R6))) == 0)))] (sl Jq 37 [] ⟨[], [], [some [0]], []⟩ ⟨[], [], []⟩ (trs 18 []) (tt k8 (tt k7 (tt k6 (tt k5 (tt k4 (tt k3 (tt k2 (tt k1 (pp (pp (xI R6 (Xx (cvT ([(R6.mk 1 1 1 3 3 3)] : List R6)) 2).length (Zz (Xx (cvT ([(R6.mk 1 1 1 3 3 3)] : List R6)) 2))) (pp (xI R6 ([(R6.mk 0 0 0 4 4 4)] : List R6).length (Zz ([(R6.mk 0 0 0 4 4 4)] : List R6))) (xw aH))) nn)))))))))))) (fun k8 => (lr 87 3 [1, 1, 1, 1, 1, 1, 0] 1 13 [(0, (.bool false))] (sl Jq 37 [] ⟨[], [], [some [0]], []⟩ ⟨[], [], []⟩ (trs 16 [false, false]) (tt k8 (tt k7 (tt k6 (tt k5 (tt k4 (tt k3 (tt k2 (tt k1 (pp (pp (xI R6 (Xx (cvT ([(R6.mk 1 1 1 3 3 3)] : List R6)) 2).length (Zz (Xx (cvT ([(R6.mk 1 1 1 3 3 3)] : List R6)) 2))) (pp (xI R6 ([(R6.mk 0 0 0 4 4 4)] : List R6).length (Zz ([(R6.mk 0 0 0 4 4 4)] : List R6))) (xw aH))) nn)))))))))))))) (fun k7 => (lr 87 3 [1, 1, 1, 1, 1, 1, 0] 1 13 [(0, (.bool false))] (sl Jq 37 [] ⟨[], [], [some [0]], []⟩ ⟨[], [], []⟩ (trs 14 [false, false, false, false]) (tt k7 (tt k6 (tt k5 (tt k4 (tt k3 (tt k2 (tt k1 (pp (pp (xI R6 (Xx (cvT ([(R6.mk 1 1 1 3 3 3)] : List R6)) 2).length (Zz (Xx (cvT ([(R6.mk 1 1 1 3 3 3)] : List R6)) 2))) (pp (xI R6 ([(R6.mk 0 0 0 4 4 4)] : List R6).length (Zz ([(R6.mk 0 0 0 4 4 4)] : List R6))) (xw aH))) nn))))))))))))) (fun k6 => (lr 87 3 [1, 1, 1, 1, 1, 1, 0] 1 13 [(0, (.bool false))] (sl Jq 37 [] ⟨[], [], [some [0]], []⟩ ⟨[], [], []⟩ (trs 12 [false, false, false, false, false, false]) (tt k6 (tt k5 (tt k4 (tt k3 (tt k2 (tt k1 (pp (pp (xI R6 (Xx (cvT ([(R6.mk 1 1 1 3 3 3)] : List R6)) 2).length (Zz (Xx (cvT ([(R6.mk 1 1 1 3 3 3)] : List R6)) 2))) (pp (xI R6 ([(R6.mk 0 0 0 4 4 4)] : List R6).length (Zz ([(R6.mk 0 0 0 4 4 4)] : List R6))) (xw aH))) nn)))))))))))) (fun k5 => (lr 87 3 [1, 1, 1, 1, 1, 1, 0] 1 13 [(0, (.bool false))] (sl Jq 37 [] ⟨[], [], [some [0]], []⟩ ⟨[], [], []⟩ (trs 10 [false, false, false, false, false, false, false, false]) (tt k5 (tt k4 (tt k3 (tt k2 (tt k1 (pp (pp (xI R6 (Xx (cvT ([(R6.mk 1 1 1 3 3 3)] : List R6)) 2).length (Zz (Xx (cvT ([(R6.mk 1 1 1 3 3 3)] : List R6)) 2))) (pp (xI R6 ([(R6.mk 0 0 0 4 4 4)] : List R6).length (Zz ([(R6.mk 0 0 0 4 4 4)] : List R6))) (xw aH))) nn))))))))))) (fun k4 => (lr 87 3 [1, 1, 1, 1, 1, 1, 0] 1 13 [(0, (.bool false))] (sl Jq 37 [] ⟨[], [], [some [0]], []⟩ ⟨[], [], []⟩ (trs 8 [false, false, false, false, false, false, false, false, false, false]) (tt k4 (tt k3 (tt k2 (tt k1 (pp (pp (xI R6 (Xx (cvT ([(R6.mk 1 1 1 3 3 3)] : List R6)) 2).length (Zz (Xx (cvT ([(R6.mk 1 1 1 3 3 3)] : List R6)) 2))) (pp (xI R6 ([(R6.mk 0 0 0 4 4 4)] : List R6).length (Zz ([(R6.mk 0 0 0 4 4 4)] : List R6))) (xw aH))) nn)))))))))) (fun k3 => (lr 87 3 [1, 1, 1, 1, 1, 1, 0] 1 13 [(0, (.bool false))] (sl Jq 37 [] ⟨[], [], [some [0]], []⟩ ⟨[], [], []⟩ (trs 6 [false, false, false, false, false, false, false, false, false, false, false, false]) (tt k3 (tt k2 (tt k1 (pp (pp (xI R6 (Xx (cvT ([(R6.mk 1 1 1 3 3 3)] : List R6)) 2).length (Zz (Xx (cvT ([(R6.mk 1 1 1 3 3 3)] : List R6)) 2))) (pp (xI R6 ([(R6.mk 0 0 0 4 4 4)] : List R6).length (Zz ([(R6.mk 0 0 0 4 4 4)] : List R6))) (xw aH))) nn))))))))) (fun k2 => (lr 87 3 [1, 1, 1, 1, 1, 1, 0] 1 13 [(0, (.bool false))] (sl Jq 37 [] ⟨[], [], [some [0]], []⟩ ⟨[], [], []⟩ (trs 3 [false, false, false, false, false, false, false, false, false, false, false, false, false, false, false]) (tt k2 (tt k1 (pp (pp (xI R6 (Xx (cvT ([(R6.mk 1 1 1 3 3 3)] : List R6)) 2).length (Zz (Xx (cvT ([(R6.mk 1 1 1 3 3 3)] : List R6)) 2))) (pp (xI R6 ([(R6.mk 0 0 0 4 4 4)] : List R6).length (Zz ([(R6.mk 0 0 0 4 4 4)] : List R6))) (xw aH))) nn)))))))) (fun k1 => (lr 87 3 [1, 1, 1, 1, 1, 1, 0] 1 13 [(0, (.bool false))] (sl Jq 37 [] ⟨[], [], [some [0]], []⟩ ⟨[], [], []⟩ [true, false, false, false, false, false, false, false, false, false, false, false, false, false, false, false, false, false] (tt k1 (pp (pp (xI R6 (Xx (cvT ([(R6.mk 1 1 1 3 3 3)] : List R6)) 2).length (Zz (Xx (cvT ([(R6.mk 1 1 1 3 3 3)] : List R6)) 2))) (pp (xI R6 ([(R6.mk 0 0 0 4 4 4)] : List R6).length (Zz ([(R6.mk 0 0 0 4 4 4)] : List R6))) (xw aH))) nn))))))))) (fun k0 => (lr 87 3 [1, 1, 1, 1, 1, 1, 0] 1 13 [(0, (.bool false))] (sl Jq 52 [] ⟨[], [], [some [0]], []⟩ ⟨[], [], []⟩ [false, false, false, false, false, false, false, false, false, false, false, false, false, false, false, false, false, false, false, false, false] (tt k0 (pp (pp (xI R6 ([(R6.mk 0 0 0 1 1 1)] : List R6).length (Zz ([(R6.mk 0 0 0 1 1 1)] : List R6))) (pp (xI R6 ([(R6.mk 0 0 0 5 1 1)] : List R6).length (Zz ([(R6.mk 0 0 0 5 1 1)] : List R6))) (xw cH))) nn))))))))))))))
theorem w2n (n : Nat) (vs : List AVal) (h : Yv (y4u) n (z5i) = .ret vs) : Kz prog (Zy prog 41) (Zn prog 41 [] true []) vs := by
 have := Zr (x1t) n _ (y7l)
 rwa [h] at this
inductive fitS where
def fitC (l0 : List R6) : fitS → Cfg
 := nofun
def x0u (l0 : List R6) : fitS → Xn fitS
 := nofun
def z8p (l0 : List R6) : Xn fitS := (bif (decide ((l0.length : Int) ≤ 6)) then (bif (z2c (cvT l0)) then (bif (y3s (cvT l0)) then (bif (z9g (cvT l0)) then (.ret [(.bool ((z4a (cvT l0)) == 0))]) else .stuck) else (.ret [(.bool false)])) else .stuck) else (.ret [(.bool false)]))
theorem x6h (l0 : List R6) : ∀ s, Ww prog (Zy prog 42) (fitC l0) (fitC l0 s) (x0u l0 s)
 := nofun
theorem x0v (l0 : List R6) : Ww prog (Zy prog 42) (fitC l0) (Zn prog 42 [(.dat l0.length (Zz l0))] true []) (z8p l0) := (lb (fun k0 => (lo fun aH => (lb (fun k1 => (lo fun o0 => (lr 15 3 [1, 1, 1, 1, 1, 1, 0] 1 15 [(2, (.bool ((z4a (cvT l0)) == 0)))] (sl Jq 20 [] ⟨[], [], [some [2]], []⟩ ⟨[], [], []⟩ (trs 5 []) (pp (pp (xr l0) (xw o0)) (tt k1 (pp (pp (xr l0) (xw aH)) (tt k0 nn)))))))) (fun k1 => (lr 15 3 [1, 1, 1, 1, 1, 1, 0] 1 15 [(2, (.bool false))] (sl Jq 20 [] ⟨[], [], [some [2]], []⟩ ⟨[], [], []⟩ [true, true, false, false, false] (tt k1 (pp (pp (xr l0) (xw aH)) (tt k0 nn))))))))) (fun k0 => (lr 15 3 [1, 1, 1, 1, 1, 1, 0] 1 15 [(2, (.bool false))] (sl Jq 20 [] ⟨[], [], [some [2]], []⟩ ⟨[], [], []⟩ [false, false, false, false, false] (tt k0 nn)))))
theorem w6v (l0 : List R6) (n : Nat) (vs : List AVal) (h : Yv (x0u l0) n (z8p l0) = .ret vs) : Kz prog (Zy prog 42) (Zn prog 42 [(.dat l0.length (Zz l0))] true []) vs := by
 have := Zr (x6h l0) n _ (x0v l0)
 rwa [h] at this
end Go.Am
namespace Go.Am
open Go.Proofs Go.Sort Go.Shelf Go.RowKit Go.Lib
def w2z : Sem R2 Int where
 can := Can
 inB s y := s.a ≤ y ∧ y < s.b
 uniq := w2g
 some s hs hn := by
  cases s with
  | nil => exact absurd rfl hn
  | cons r l => exact ⟨r.a, r, by simp, Int.le_refl _, hs.pos r (by simp)⟩
 nil := .nil
def x2j : Sem R4 (Int × Int) := Dim.sem x2f w2z
def v3h : Sem R6 (Int × Int × Int) := Dim.sem y5g x2j
namespace Dim
variable {α β : Type} {D : Dim α β}
theorem z8l (l m : List α) (hl : ∀ r ∈ m, r ∈ l) {j : Nat} (hj : j + 1 < (D.cuts l).length) {x : Int} (h1 : rd (D.cuts l) j ≤ x) (h2 : x < rd (D.cuts l) (j + 1)) : D.inn m (rd (D.cuts l) j) = D.inn m x := by
 have hc : (D.cuts l).Pairwise (· < ·) := by
  show (Jh (D.ends l)).Pairwise (· < ·)
  rw [z0p]; exact (Vr _).1
 have gD : ∀ r ∈ m, D.lo r ∈ D.cuts l ∧ D.hi r ∈ D.cuts l := fun r hr => by
  show D.lo r ∈ Jh (D.ends l) ∧ D.hi r ∈ Jh (D.ends l)
  rw [z0p, (Vr _).2, (Vr _).2]
  exact ⟨List.mem_flatMap.2 ⟨r, hl r hr, by simp⟩, List.mem_flatMap.2 ⟨r, hl r hr, by simp⟩⟩
 have side : ∀ c, c ∈ D.cuts l → (c ≤ rd (D.cuts l) j ↔ c ≤ x) := fun c hcm => by
  obtain ⟨i, hi, rfl⟩ := List.getElem_of_mem hcm
  rw [← Xe hi]
  rcases Nat.lt_or_ge j i with h | h
  ·have : rd (D.cuts l) (j + 1) ≤ rd (D.cuts l) i := by
    rcases Nat.eq_or_lt_of_le (show j + 1 ≤ i from h) with e | e
    ·rw [e]; exact Int.le_refl _
    ·exact Int.le_of_lt (y3u hc e hi)
   have := y3u hc (Nat.lt_succ_self j) hj
   constructor <;> intro <;> omega
  ·have : rd (D.cuts l) i ≤ rd (D.cuts l) j := by
    rcases Nat.eq_or_lt_of_le h with e | e
    ·rw [e]; exact Int.le_refl _
    ·exact Int.le_of_lt (y3u hc e (by omega))
   constructor <;> intro <;> omega
 unfold inn
 congr 1
 refine List.filter_congr fun r hr => ?_
 obtain ⟨m1, m2⟩ := gD r hr
 have s1 := side _ m1
 have s2 := side _ m2
 have e1 : decide (D.lo r ≤ rd (D.cuts l) j) = decide (D.lo r ≤ x) := decide_eq_decide.2 s1
 have e2 : decide (rd (D.cuts l) j < D.hi r) = decide (x < D.hi r) := decide_eq_decide.2 (by constructor <;> intro <;> omega)
 rw [e1, e2]
theorem w1b (l m : List α) (hl : ∀ r ∈ m, r ∈ l) {x : Int} (h : ∀ j, j + 1 < (D.cuts l).length → ¬ (rd (D.cuts l) j ≤ x ∧ x < rd (D.cuts l) (j + 1))) : D.inn m x = [] := by
 unfold inn
 rw [List.map_eq_nil_iff, List.filter_eq_nil_iff]
 intro r hr hb
 simp only [Bool.and_eq_true, decide_eq_true_eq] at hb
 have gD : D.lo r ∈ D.cuts l ∧ D.hi r ∈ D.cuts l := by
  show D.lo r ∈ Jh (D.ends l) ∧ D.hi r ∈ Jh (D.ends l)
  rw [z0p, (Vr _).2, (Vr _).2]
  exact ⟨List.mem_flatMap.2 ⟨r, hl r hr, by simp⟩, List.mem_flatMap.2 ⟨r, hl r hr, by simp⟩⟩
 have hc : (D.cuts l).Pairwise (· < ·) := by
  show (Jh (D.ends l)).Pairwise (· < ·)
  rw [z0p]; exact (Vr _).1
 obtain ⟨i, hi, e1⟩ := List.getElem_of_mem gD.1
 obtain ⟨k, hk, e2⟩ := List.getElem_of_mem gD.2
 rw [← Xe hi] at e1
 rw [← Xe hk] at e2
 have h0 : rd (D.cuts l) 0 ≤ rd (D.cuts l) i := by
  rcases Nat.eq_or_lt_of_le (Nat.zero_le i) with e | e
  ·rw [← e]; exact Int.le_refl _
  ·exact Int.le_of_lt (y3u hc e hi)
 obtain ⟨j, j1, j2, j3⟩ := x1o k hk x (by omega) (by omega)
 exact h j (by omega) ⟨j2, j3⟩
theorem goJ_can (hD : D.Fair) (hs : ∀ a b, D.same a b = true ↔ a = b) {γ : Type} (M : Sem β γ) (a b : List α) (J : List β → List β → List β) (hJ : ∀ x, M.can (J (D.inn a x) (D.inn b x))) (h0 : J [] [] = []) :
  (D.sem hD M).can (D.goS (fun x => J (D.inn a x) (D.inn b x)) (D.cuts (a ++ b)) ((D.cuts (a ++ b)).length - 1) 0 ⟨[], [], 0, 0⟩).out ∧
  ∀ x q, ptL (D.sem hD M).inB (D.goS (fun x => J (D.inn a x) (D.inn b x)) (D.cuts (a ++ b)) ((D.cuts (a ++ b)).length - 1) 0 ⟨[], [], 0, 0⟩).out (x, q) ↔ ptL M.inB (J (D.inn a x) (D.inn b x)) q := by
 have hc : (D.cuts (a ++ b)).Pairwise (· < ·) := by
  show (Jh (D.ends (a ++ b))).Pairwise (· < ·)
  rw [z0p]; exact (Vr _).1
 obtain ⟨h1, h2⟩ := v5m hD hs M (cs := D.cuts (a ++ b)) hc hJ
 refine ⟨h1, fun x q => ?_⟩
 rw [h2]
 constructor
 ·rintro ⟨j, j1, j2, j3, j4⟩
  rwa [z8l (a ++ b) a (fun r hr => List.mem_append.2 (.inl hr)) j1 j2 j3, z8l (a ++ b) b (fun r hr => List.mem_append.2 (.inr hr)) j1 j2 j3] at j4
 ·intro hp
  by_cases hx : ∃ j, j + 1 < (D.cuts (a ++ b)).length ∧ rd (D.cuts (a ++ b)) j ≤ x ∧ x < rd (D.cuts (a ++ b)) (j + 1)
  ·obtain ⟨j, j1, j2, j3⟩ := hx
   refine ⟨j, j1, j2, j3, ?_⟩
   rwa [z8l (a ++ b) a (fun r hr => List.mem_append.2 (.inl hr)) j1 j2 j3, z8l (a ++ b) b (fun r hr => List.mem_append.2 (.inr hr)) j1 j2 j3]
  ·have hx' : ∀ j, j + 1 < (D.cuts (a ++ b)).length → ¬ (rd (D.cuts (a ++ b)) j ≤ x ∧ x < rd (D.cuts (a ++ b)) (j + 1)) := fun j j1 j2 => hx ⟨j, j1, j2⟩
   rw [w1b (a ++ b) a (fun r hr => List.mem_append.2 (.inl hr)) hx', w1b (a ++ b) b (fun r hr => List.mem_append.2 (.inr hr)) hx', h0] at hp
   exact absurd hp (y9r _ _)
theorem pt_inn {γ : Type} (inB : β → γ → Prop) (l : List α) (x : Int) (q : γ) : ptL inB (D.inn l x) q ↔ ptL (D.inA inB) l (x, q) := by
 constructor
 ·rintro ⟨b, hb, h⟩
  obtain ⟨r, hr, rfl⟩ := List.mem_map.1 hb
  obtain ⟨h1, h2⟩ := List.mem_filter.1 hr
  simp only [Bool.and_eq_true, decide_eq_true_eq] at h2
  exact ⟨r, h1, h2.1, h2.2, h⟩
 ·rintro ⟨r, hr, h1, h2, h3⟩
  refine ⟨D.pr r, List.mem_map.2 ⟨r, List.mem_filter.2 ⟨hr, ?_⟩, rfl⟩, h3⟩
  simp only [Bool.and_eq_true, decide_eq_true_eq]
  exact ⟨h1, h2⟩
theorem out_goJ (l : List α) : D.out l = (D.goS (fun x => D.mak (D.inn l x)) (D.cuts (l ++ [])) ((D.cuts (l ++ [])).length - 1) 0 ⟨[], [], 0, 0⟩).out := by
 rw [List.append_nil]
 unfold out
 rw [v1o]
 rfl
end Dim
theorem x8l (a b : List R4) : D6.same a b = true ↔ a = b := decide_eq_true_iff
theorem x8m (a b : List R2) : D4.same a b = true ↔ a = b := decide_eq_true_iff
theorem w6d {l : List R4} (h : ∀ r ∈ l, z2o r = true) (x : Int) : (D4.inn l x).all z7i = true := List.all_eq_true.2 fun s hs => by
 obtain ⟨r, hr, _, _, rfl⟩ := y4d hs
 have := h r hr
 simp only [z2o, z7i, Bool.and_eq_true, decide_eq_true_eq] at this ⊢
 omega
theorem x7x {l : List R2} (hv : l.all z7i = true) (hl : l.length ≤ 400) : w2z.can (Xp l) ∧ ∀ y, ptL w2z.inB (Xp l) y ↔ ptL w2z.inB l y := by
 obtain ⟨c1, c2⟩ := y8k l hv
 have e : Xp l = swV l := by unfold Xp; rw [decide_eq_false (by omega), hv]; rfl
 rw [e]
 exact ⟨c1, c2⟩
theorem x5m {β γ : Type} (M : Sem β γ) {l : List β} (h : M.can l) (hp : ∀ q, ¬ ptL M.inB l q) : l = [] := Classical.byContradiction fun hn => by
 obtain ⟨q, hq⟩ := M.some l h hn
 exact hp q hq
theorem v2x : Xp [] = [] := by
 obtain ⟨h1, h2⟩ := x7x (l := []) rfl (Nat.zero_le _)
 exact x5m w2z h1 fun q hq => y9r _ _ ((h2 q).1 hq)
theorem Dim.out_nil {α β : Type} (D : Dim α β) : D.out [] = [] := by
 have h : (D.cuts []).length ≤ 2 * 0 := D.cuts_length []
 have e : (D.cuts []).length - 1 = 0 := by omega
 unfold Dim.out
 rw [e]; rfl
theorem v4g : Yj [] = [] := by
 unfold Yj
 rw [Dim.out_nil]
 cases decide (400 < ([] : List R4).length) <;> cases ([] : List R4).all z2o <;> rfl
theorem x9f {l : List R4} (hv : ∀ r ∈ l, z2o r = true) (hl : l.length ≤ 400) : x2j.can (D4.out l) ∧ ∀ p, ptL x2j.inB (D4.out l) p ↔ ptL x2j.inB l p := by
 rw [Dim.out_goJ]
 have hs : ∀ x, w2z.can (D4.mak (D4.inn l x)) ∧ ∀ y, ptL w2z.inB (D4.mak (D4.inn l x)) y ↔ ptL w2z.inB (D4.inn l x) y := fun x => x7x (w6d hv x) (Nat.le_trans (D4.inn_length l x) hl)
 obtain ⟨h1, h2⟩ := Dim.goJ_can x2f x8m w2z l [] (fun s _ => D4.mak s) (fun x => (hs x).1) v2x
 refine ⟨h1, fun ⟨x, y⟩ => ?_⟩
 rw [show ptL x2j.inB _ (x, y) ↔ _ from h2 x y, (hs x).2, Dim.pt_inn]
 rfl
theorem y4t {l : List R6} (hv : ∀ r ∈ l, Ja r = true) (z : Int) : ∀ r ∈ D6.inn l z, z2o r = true := fun r hr => by
 obtain ⟨s, hs, rfl⟩ := List.mem_map.1 hr
 have := Wo (hv s (List.mem_filter.1 hs).1)
 show z2o ⟨s.a, s.b, s.d, s.e⟩ = true
 simp only [z2o, Bool.and_eq_true, decide_eq_true_eq]
 (repeat' apply And.intro) <;> omega
def Secs (l : List R6) : Prop := ∀ z, (D4.out (D6.inn l z)).length ≤ 400
theorem x2s {l : List R4} (hv : ∀ r ∈ l, z2o r = true) (hl : l.length ≤ 400) (h : (D4.out l).length ≤ 400) : Yj l = D4.out l ∧ Uc l = 0 := by
 have hv' : l.all z2o = true := List.all_eq_true.2 hv
 unfold Yj Uc
 rw [decide_eq_false (by omega), hv', decide_eq_false (by omega)]
 exact ⟨rfl, rfl⟩
theorem v2y {l : List R6} (hv : ∀ r ∈ l, Ja r = true) (hl : l.length ≤ 400) (hs : Secs l) : v3h.can (D6.out l) ∧ ∀ p, ptL v3h.inB (D6.out l) p ↔ ptL v3h.inB l p := by
 rw [Dim.out_goJ]
 have hq : ∀ z, x2j.can (D6.mak (D6.inn l z)) ∧ ∀ p, ptL x2j.inB (D6.mak (D6.inn l z)) p ↔ ptL x2j.inB (D6.inn l z) p := fun z => by
  show x2j.can (Yj (D6.inn l z)) ∧ ∀ p, ptL x2j.inB (Yj (D6.inn l z)) p ↔ _
  rw [(x2s (y4t hv z) (Nat.le_trans (D6.inn_length l z) hl) (hs z)).1]
  exact x9f (y4t hv z) (Nat.le_trans (D6.inn_length l z) hl)
 obtain ⟨h1, h2⟩ := Dim.goJ_can y5g x8l x2j l [] (fun s _ => D6.mak s) (fun x => (hq x).1) v4g
 refine ⟨h1, fun ⟨z, p⟩ => ?_⟩
 rw [show ptL v3h.inB _ (z, p) ↔ _ from h2 z p, (hq z).2, Dim.pt_inn]
 rfl
end Go.Am
namespace Go.Am
open Go.Proofs Go.Sort Go.Shelf Go.RowKit Go.Lib
def ind (a b t : Int) : Int := if a ≤ t ∧ t < b then 1 else 0
def Pts (p : List Int) : Prop := (∀ a b, -1000005 ≤ a ∧ b ≤ 1000005 → sm p (ind a b) = max 0 (b - a)) ∧ p.length = 2000010
def inR (r : R6) (x y z : Int) : Int := ind r.a r.d x * ind r.b r.e y * ind r.c r.f z
end Go.Am
namespace Go.Am
open Go.Proofs Go.Sort Go.Shelf Go.RowKit Go.Lib
theorem sm_pos {α : Type} {l : List α} {f : α → Int} (h : sm l f ≠ 0) : ∃ x ∈ l, f x ≠ 0 := Classical.byContradiction fun hn => h (by
 have : sm l f = sm l fun _ => 0 := w3l fun x hx => Classical.byContradiction fun e => hn ⟨x, hx, e⟩
 rw [this, v2z])
theorem y9q {p : List Int} (hp : Pts p) {t : Int} (h : -1000005 ≤ t ∧ t < 1000005) : t ∈ p := by
 have h1 := hp.1 t (t + 1) (by omega)
 have h2 : sm p (ind t (t + 1)) ≠ 0 := by rw [h1]; omega
 obtain ⟨x, hx, hn⟩ := sm_pos h2
 unfold ind at hn
 split at hn
 ·have : x = t := by omega
  rwa [← this]
 ·exact absurd rfl hn
def inS (X : List R6) (x y z : Int) : Prop := ∃ r ∈ X, (r.a ≤ x ∧ x < r.d) ∧ (r.b ≤ y ∧ y < r.e) ∧ (r.c ≤ z ∧ z < r.f)
structure Sol (X : List R6) : Prop where
 len : X.length ≤ 400
 val : ∀ r ∈ X, Ja r = true
 ap : X.Pairwise Ap6
theorem Sol.of {X : List R6} (h : Yg X = 0) : Sol X := ⟨(z0c h).1, (z0c h).2.1, (z0c h).2.2.2⟩
theorem Sol.bnd {X : List R6} (h : Sol X) {x y z : Int} (hp : inS X x y z) : (-1000000 ≤ x ∧ x < 1000000) ∧ (-1000000 ≤ y ∧ y < 1000000) ∧ (-1000000 ≤ z ∧ z < 1000000) := by
 obtain ⟨r, hr, h1, h2, h3⟩ := hp
 have := Wo (h.val r hr)
 omega
theorem Sol.pts {p : List Int} (hp : Pts p) {X : List R6} (h : Sol X) {x y z : Int} (hq : inS X x y z) : x ∈ p ∧ y ∈ p ∧ z ∈ p := by
 have := h.bnd hq
 exact ⟨y9q hp (by omega), y9q hp (by omega), y9q hp (by omega)⟩
end Go.Am
namespace Go.Am
open Go.Proofs Go.Sort Go.Shelf Go.RowKit Go.Lib
theorem v3b {l : List R6} (h : z0y l = 0) : z0z l = D6.out l := by
 unfold z0z v1t; rw [h]; rfl
theorem x2i {L : List R6} (h : Yg L = 0) : z0y L = 0 ∧ z0z L = L := by
 have hs := z0c h
 have key : z0y L = 0 := by
  unfold Yg at h
  unfold z0y
  cases g1 : decide (400 < L.length) with
  | true => rw [g1] at h; cases h
  | false =>
   cases g2 : L.all Ja with
   | false => rw [g1, g2] at h; cases h
   | true =>
    rw [g1, g2, cond_false, cond_true] at h
    cases g3 : okF L ((D6.cuts L).length - 1) 0 with
    | false => rw [g3] at h; cases h
    | true =>
     rw [cond_false, cond_true, cond_true]
     unfold v2f
     rw [← hs.2.2.1, Xz (by have := hs.1; omega)]; rfl
 exact ⟨key, (v3b key).trans hs.2.2.1.symm⟩
end Go.Am
namespace Go.Am
open Go.Proofs.Tryz
open Go.Proofs Go.Sort Go.Shelf Go.RowKit Go.Lib
theorem x8e {l : List R6} (h : z4a l = 0) : Yg l = 0 := (w8j l).trans h
theorem lA : Yg ([(R6.mk 1 1 1 3 3 3)] : List R6) = 0 := x8e (by kernel_rfl)
theorem lB : Yg ([(R6.mk 0 0 0 4 4 4)] : List R6) = 0 := x8e (by kernel_rfl)
theorem lC : Yg ([(R6.mk 0 0 0 5 1 1)] : List R6) = 0 := x8e (by kernel_rfl)
theorem lE : Yg ([(R6.mk 0 0 0 1 1 1)] : List R6) = 0 := x8e (by kernel_rfl)
theorem aO0 : Xx ([(R6.mk 1 1 1 3 3 3)] : List R6) 2 = [(R6.mk 0 0 0 4 4 4)] := by
 unfold Xx outP
 rw [lA, show ([(R6.mk 1 1 1 3 3 3)] : List R6).map (oB 2) = [(R6.mk 0 0 0 4 4 4)] by kernel_rfl, (x2i lB).2]
 kernel_rfl
theorem aO1 : z4g ([(R6.mk 1 1 1 3 3 3)] : List R6) 2 = 0 := by
 unfold z4g
 rw [lA, show ([(R6.mk 1 1 1 3 3 3)] : List R6).map (oB 2) = [(R6.mk 0 0 0 4 4 4)] by kernel_rfl, (x2i lB).1]
 kernel_rfl
def rnK (lo hi : R6 → Int) (n : Int) (L : List R6) : List Int := z0a (rnE lo hi n L)
theorem x2r (lo hi : R6 → Int) (n : Int) (L : List R6) : rnC lo hi n L = rnK lo hi n L := z0p _
def colK (L : List R6) (a b e f n : Int) : List R2 := v7p L a b e f (rnK R6.b R6.e n L) ((rnK R6.b R6.e n L).length - 1) 0 []
theorem v7o (L : List R6) (a b e f n : Int) : Qq L a b e f n = colK L a b e f n := by unfold Qq colK; rw [x2r]
def layK (L : List R6) (a b n : Int) : List R4 := (D4.goX (fun x x' => colK (crS R6.a R6.d L x x') x x' a b n) (rnK R6.a R6.d n L) ((rnK R6.a R6.d n L).length - 1) 0 ⟨[], [], 0, 0⟩).out
theorem v4y (L : List R6) (a b n : Int) : Qk L a b n = layK L a b n := by
 unfold Qk layK
 rw [x2r, show layQ L a b n = fun x x' => colK (crS R6.a R6.d L x x') x x' a b n from funext fun x => funext fun x' => v7o _ _ _ _ _ _]
theorem w1d (L : List R6) (n : Int) : w6f L n = fun x x' => layK (crS R6.c R6.f L x x') x x' n := funext fun x => funext fun x' => v4y _ _ _ _
theorem aIO : innO ([(R6.mk 1 1 1 3 3 3)] : List R6) 2 = [] := by
 unfold innO
 rw [x2r, w1d]
 kernel_rfl
theorem aI1 : z2s ([(R6.mk 1 1 1 3 3 3)] : List R6) 2 = 0 := by
 unfold z2s
 rw [lA, x2r, w1d, aIO]
 kernel_rfl
theorem aI0 : z1n ([(R6.mk 1 1 1 3 3 3)] : List R6) 2 = [] := by
 unfold z1n
 rw [aI1, aIO]; rfl
theorem aD1 : z5a ([(R6.mk 1 1 1 3 3 3)] : List R6) ([(R6.mk 0 0 0 4 4 4)] : List R6) = 0 := by
 unfold z5a eDi
 rw [lA, lB]; kernel_rfl
theorem aD0 : z5b ([(R6.mk 1 1 1 3 3 3)] : List R6) ([(R6.mk 0 0 0 4 4 4)] : List R6) = 1 := by
 unfold z5b eDi
 rw [lA, lB]; kernel_rfl
theorem aR1 : Vo ([(R6.mk 0 0 0 5 1 1)] : List R6) ([(R6.mk 0 0 0 1 1 1)] : List R6) = 0 := by
 unfold Vo eRe
 rw [lC, lE]; kernel_rfl
theorem aR0 : Wv ([(R6.mk 0 0 0 5 1 1)] : List R6) ([(R6.mk 0 0 0 1 1 1)] : List R6) = 4 := by
 unfold Wv eRe
 rw [lC, lE]; kernel_rfl
theorem aS1 : Vo ([(R6.mk 0 0 0 1 1 1)] : List R6) ([(R6.mk 0 0 0 5 1 1)] : List R6) = 0 := by
 unfold Vo eRe
 rw [lE, lC]; kernel_rfl
theorem aS0 : Wv ([(R6.mk 0 0 0 1 1 1)] : List R6) ([(R6.mk 0 0 0 5 1 1)] : List R6) = 0 := by
 unfold Wv eRe
 rw [lE, lC]; kernel_rfl
theorem w8q : ∃ N, Yv y4u N z5i = .ret [.bool true] := ⟨0, by
 unfold z5i
 simp only [Zb, show ∀ l n, z9h l n = true from fun _ _ => rfl, show ∀ l n, z9z l n = true from fun _ _ => rfl, show ∀ l m, Wc l m = true from fun _ _ => rfl, show ∀ l m, z4z l m = true from fun _ _ => rfl, aO0, aO1, aI0, aI1, aD0, aD1, aR0, aR1, aS0, aS1, cond_true]
 kernel_rfl⟩
def v6w : List AVal → Option (AVal × Bool)
 | [] => some (.bool true, true)
 | _ => none
theorem w7b {S : Specs} (hS : Zu prog S) : Zu prog (S.with x3g v6w) := by
 refine z2g hS (by kernel_rfl) fun args v h => ?_
 unfold v6w at h
 split at h
 ·simp only [Option.some.injEq, Prod.mk.injEq, and_true] at h
  subst h
  obtain ⟨N, hN⟩ := w8q
  exact ⟨_, _, .nil, rfl, w2n N _ hN, 3, rfl⟩
 ·cases h
def w3b (L : List R6) : Bool := decide ((L.length : Int) ≤ 6) && (y3s L && (z4a L == 0))
def z1o (L : List R6) : Bool := true
theorem v5t (L : List R6) (h : z1o L = true) : ∃ N, Yv (x0u L) N (z8p L) = .ret [.bool (w3b L)] := ⟨0, by
 unfold z8p w3b
 simp only [Zb, show ∀ l, z2c l = true from fun _ => rfl, w4n, cond_true]
 cases decide ((L.length : Int) ≤ 6) <;> cases y3s L <;> rfl⟩
def fFit : List AVal → Option (AVal × Bool)
 | [a0] => match asL R6 a0 with
  | some (L0, g0, n0) => some (.bool (w3b L0), isT R6 n0 g0 && (z1o L0))
  | _ => none
 | _ => none
theorem v6o {S : Specs} (hS : Zu prog S) : Zu prog (S.with v0x fFit) := by
 refine z2g hS (by kernel_rfl) fun args v h => ?_
 unfold fFit at h
 split at h
 ·rename_i a0
  split at h
  ·rename_i L0 g0 n0 e0
   simp only [Option.some.injEq, Prod.mk.injEq, Bool.and_eq_true] at h
   obtain ⟨rfl, ho0, hw⟩ := h
   obtain ⟨N, hN⟩ := v5t L0 hw
   exact ⟨_, _, (.cons (asL_le e0 ho0) .nil), rfl, w6v L0 N _ hN, 3, rfl⟩
  ·cases h
 ·cases h
def Di : Specs := ((Dh.with x3g v6w).with v0x fFit)
theorem Di_ok : Zu prog Di := (v6o (w7b Jq))
end Go.Am
namespace Go.Am
open Go.Proofs.Tryz
open Go.Proofs
inductive has6S where
 | h0 (v5 : Int)
def v5l (l0 : List R6) (aV : Int) (aW : Int) (cU : Int) : has6S → Cfg
 | .h0 v5 => ⟨⟨18, 0, true⟩, none, (Za prog 48 [1, 0, 1, 0, 0] 0), none, (Zy prog 3), ⟨Yk [(0, (.dat l0.length (Zz l0))), (3, (.ptr 0 0)), (5, (ii v5))], Vn [⟨[(ii aV), (ii aW), (ii cU)], 65, none⟩] 0, 1, [], true⟩, [], .leaf⟩
def y0d : List (Option (List Nat)) := [some [0, 3, 5]]
def y0e : List (Option (List Nat)) := []
def z0n (l0 : List R6) (aV : Int) (aW : Int) (cU : Int) : has6S → Xn has6S
 | .h0 v5 => (bif (decide (v5 < (l0.length : Int))) then (bif ((decide (0 ≤ v5 ∧ v5 < (l0.length : Int))) && true) then (bif (decide ((rd l0 v5.toNat).a ≤ aV)) then (bif (decide (aV < (rd l0 v5.toNat).d)) then (bif (decide ((rd l0 v5.toNat).b ≤ aW)) then (bif (decide (aW < (rd l0 v5.toNat).e)) then (bif (decide ((rd l0 v5.toNat).c ≤ cU)) then (bif (decide (cU < (rd l0 v5.toNat).f)) then (.ret [(.bool true)]) else (.to (.h0 (IntKind.wrap .i64 (v5 + 1))))) else (.to (.h0 (IntKind.wrap .i64 (v5 + 1))))) else (.to (.h0 (IntKind.wrap .i64 (v5 + 1))))) else (.to (.h0 (IntKind.wrap .i64 (v5 + 1))))) else (.to (.h0 (IntKind.wrap .i64 (v5 + 1))))) else (.to (.h0 (IntKind.wrap .i64 (v5 + 1))))) else .stuck) else (.ret [(.bool false)]))
def y0c (l0 : List R6) (aV : Int) (aW : Int) (cU : Int) : Xn has6S := (.to (.h0 0))
theorem x0m (l0 : List R6) (aV : Int) (aW : Int) (cU : Int) : ∀ s, Ww prog (Zy prog 48) (v5l l0 aV aW cU) (v5l l0 aV aW cU s) (z0n l0 aV aW cU s)
 | .h0 v5 => (lb (fun k0 => (lo fun aH => (lb (fun k1 => (lb (fun k2 => (lb (fun k3 => (lb (fun k4 => (lb (fun k5 => (lb (fun k6 => (lr 18 48 [1, 0, 1, 0, 0, 1, 0, 0, 1, 0, 0] 1 3 [(4, (.bool true))] (sl Jq 19 [] ⟨[], [], [some [4]], []⟩ ⟨[], [], []⟩ (trs 32 []) (tt k6 (tt k5 (tt k4 (tt k3 (tt k2 (tt k1 (ww aH (tt k0 nn))))))))))) (fun k6 => (sl Jq 23 [] ⟨[0], [], y0d, y0e⟩ ⟨[], [], []⟩ (trs 31 [false]) (tt k6 (tt k5 (tt k4 (tt k3 (tt k2 (tt k1 (ww aH (tt k0 nn)))))))))))) (fun k5 => (sl Jq 23 [] ⟨[0], [], y0d, y0e⟩ ⟨[], [], []⟩ (trs 25 [false, false, false, false, false, false, false]) (tt k5 (tt k4 (tt k3 (tt k2 (tt k1 (ww aH (tt k0 nn))))))))))) (fun k4 => (sl Jq 23 [] ⟨[0], [], y0d, y0e⟩ ⟨[], [], []⟩ (trs 19 [false, false, false, false, false, false, false, false, false, false, false, false, false]) (tt k4 (tt k3 (tt k2 (tt k1 (ww aH (tt k0 nn)))))))))) (fun k3 => (sl Jq 23 [] ⟨[0], [], y0d, y0e⟩ ⟨[], [], []⟩ (trs 13 [false, false, false, false, false, false, false, false, false, false, false, false, false, false, false, false, false, false, false]) (tt k3 (tt k2 (tt k1 (ww aH (tt k0 nn))))))))) (fun k2 => (sl Jq 23 [] ⟨[0], [], y0d, y0e⟩ ⟨[], [], []⟩ (trs 7 [false, false, false, false, false, false, false, false, false, false, false, false, false, false, false, false, false, false, false, false, false, false, false, false, false]) (tt k2 (tt k1 (ww aH (tt k0 nn)))))))) (fun k1 => (sl Jq 23 [] ⟨[0], [], y0d, y0e⟩ ⟨[], [], []⟩ [true, false, false, false, false, false, false, false, false, false, false, false, false, false, false, false, false, false, false, false, false, false, false, false, false, false, false, false, false, false, false, false] (tt k1 (ww aH (tt k0 nn)))))))) (fun k0 => (lr 18 3 [1, 1, 1, 1, 1, 1, 0] 1 3 [(4, (.bool false))] (sl Jq 14 [] ⟨[], [], [some [4]], []⟩ ⟨[], [], []⟩ [false] (tt k0 nn)))))
theorem y7b (l0 : List R6) (aV : Int) (aW : Int) (cU : Int) : Ww prog (Zy prog 48) (v5l l0 aV aW cU) (Zn prog 48 [(.dat l0.length (Zz l0)), (.agg [(.int .i64 aV), (.int .i64 aW), (.int .i64 cU)])] true []) (y0c l0 aV aW cU) := (sl Jq 12 [] ⟨[0], [], y0d, y0e⟩ ⟨[], [], []⟩ [] nn)
theorem w1g (l0 : List R6) (aV : Int) (aW : Int) (cU : Int) (n : Nat) (vs : List AVal) (h : Yv (z0n l0 aV aW cU) n (y0c l0 aV aW cU) = .ret vs) : Kz prog (Zy prog 48) (Zn prog 48 [(.dat l0.length (Zz l0)), (.agg [(.int .i64 aV), (.int .i64 aW), (.int .i64 cU)])] true []) vs := by
 have := Zr (x0m l0 aV aW cU) n _ (y7b l0 aV aW cU)
 rwa [h] at this
end Go.Am
namespace Go.Am
open Go.Proofs.Tryz
open Go.Proofs Go.Sort Go.Shelf Go.RowKit Go.Lib
def haR (x y z : Int) (r : R6) : Bool := decide (r.a ≤ x) && (decide (x < r.d) && (decide (r.b ≤ y) && (decide (y < r.e) && (decide (r.c ≤ z) && decide (z < r.f)))))
def x6a (L : List R6) (x y z : Int) : Bool := L.any (haR x y z)
def z2f (L : List R6) (x y z : Int) : Bool := decide (L.length ≤ 100000)
theorem w1f {L : List R6} {x y z : Int} (hl : L.length ≤ 100000) : ∀ (k i : Nat), i + k = L.length → ∃ N, Yv (z0n L x y z) N (.to (.h0 (i : Int))) = .ret [.bool ((L.drop i).any (haR x y z))]
 | 0, i, h => by
  refine ⟨1, ?_⟩
  rw [Zv, List.drop_eq_nil_of_le (by omega)]
  simp (disch := omega) only [z0n, Zs, cond_false]; rfl
 | k + 1, i, h => by
  have hi : i < L.length := by omega
  obtain ⟨N, hN⟩ := w1f (x := x) (y := y) (z := z) hl k (i + 1) (by omega)
  have hw : IntKind.wrap .i64 ((i : Int) + 1) = ((i + 1 : Nat) : Int) := Zj (by omega)
  have e : z0n L x y z (.h0 (i : Int)) = bif haR x y z (rd L i) then .ret [.bool true] else .to (.h0 ((i + 1 : Nat) : Int)) := by
   simp (disch := omega) only [z0n, Zo, Zt, x3z, hw, Zq, Bool.and_true, cond_true]
   unfold haR
   cases decide ((rd L i).a ≤ x) <;> cases decide (x < (rd L i).d) <;> cases decide ((rd L i).b ≤ y) <;> cases decide (y < (rd L i).e) <;> cases decide ((rd L i).c ≤ z) <;> cases decide (z < (rd L i).f) <;> rfl
  refine ⟨N + 1, ?_⟩
  rw [Zv, Yc hi, e, List.any_cons]
  rcases Ya (haR x y z (rd L i)) with q | q
  ·rw [q, cond_true, Bool.true_or]; exact Zm _ _ _
  ·rw [q, cond_false, Bool.false_or]; exact hN
theorem w6l (L : List R6) (x y z : Int) (h : z2f L x y z = true) : ∃ N, Yv (z0n L x y z) N (y0c L x y z) = .ret [.bool (x6a L x y z)] :=
 w1f (of_decide_eq_true h) L.length 0 (Nat.zero_add _)
def v6j : List AVal → Option (AVal × Bool)
 | [a0, .agg [.int .i64 aV, .int .i64 aW, .int .i64 cU]] => match asL R6 a0 with
  | some (L0, g0, n0) => some (.bool (x6a L0 aV aW cU), isT R6 n0 g0 && (z2f L0 aV aW cU))
  | _ => none
 | _ => none
theorem w6y {S : Specs} (hS : Zu prog S) : Zu prog (S.with nHas6 v6j) := by
 refine z2g hS (by kernel_rfl) fun args v h => ?_
 unfold v6j at h
 split at h
 ·rename_i a0 aV aW cU
  split at h
  ·rename_i L0 g0 n0 e0
   simp only [Option.some.injEq, Prod.mk.injEq, Bool.and_eq_true] at h
   obtain ⟨rfl, ho0, hw⟩ := h
   obtain ⟨N, hN⟩ := w6l L0 aV aW cU hw
   exact ⟨_, _, (.cons (asL_le e0 ho0) (.cons (.refl _) .nil)), rfl, w1g L0 aV aW cU N _ hN, 3, rfl⟩
  ·cases h
 ·cases h
def Dq : Specs := (Di.with nHas6 v6j)
theorem Jd : Zu prog Dq := (w6y Di_ok)
end Go.Am
namespace Go.Am
open Go.Proofs.Tryz
open Go.Proofs
inductive dfrS where
 | h0 (v23 : Int) (aE : Int) (aN : Int) (aP : Int) (aQ : Int) (aX : Int) (aY : Int)
def dfrC (l0 : List R6) (l1 : List R6) (bO : Int) (bP : Int) (dA : Int) (x3 : Int) (x4 : Int) : dfrS → Cfg
 | .h0 v23 aE aN aP aQ aX aY => ⟨⟨75, 0, true⟩, none, (Za prog 50 [1, 1, 1, 1, 0, 1, 0, 0] 0), none, (Zy prog 50), ⟨Yk [(2, (.ptr 0 0)), (5, (.ptr 1 0)), (21, (.dat l1.length (Zz l1))), (22, (ii (l1.length : Int))), (23, (ii v23))], Vn [⟨[(ii 0), (ii 0), (ii 0), (ii 0), (ii 0), (ii 0)], 68, none⟩, ⟨[(ii aE), (ii aN), (ii aP), (ii aQ), (ii aX), (ii aY)], 68, none⟩] 0, 2, [], true⟩, [⟨⟨108, 0, true⟩, (Vk prog 12 [1, 1, 1, 1, 1, 0] 1), (Za prog 12 [1, 1, 1, 1, 1, 0] 1), none, (Zy prog 12), Yk [(3, (.int .u8 x3)), (4, (ii x4)), (11, (.bool true)), (71, (.dat l1.length (Zz l1)))]⟩], .leaf⟩
def v7i : List (Option (List Nat)) := [some [2, 5, 21, 22, 23], some [3, 4, 11, 71]]
def v7j : List (Option (List Nat)) := []
def z3k (l0 : List R6) (l1 : List R6) (bO : Int) (bP : Int) (dA : Int) (x3 : Int) (x4 : Int) : dfrS → Xn dfrS
 | .h0 v23 aE aN aP aQ aX aY => (bif (decide (v23 < (l1.length : Int))) then (bif ((decide (0 ≤ v23 ∧ v23 < (l1.length : Int))) && true) then (.to (.h0 (IntKind.wrap .i64 (v23 + 1)) (Uw aE (rd l1 v23.toNat).a) (Uw aN (rd l1 v23.toNat).b) (Uw aP (rd l1 v23.toNat).c) (Wg aQ (rd l1 v23.toNat).d) (Wg aX (rd l1 v23.toNat).e) (Wg aY (rd l1 v23.toNat).f))) else .stuck) else (bif ((Int.tmod (IntKind.wrap .i64 x3) 2) == 1) then (bif (decide ((IntKind.wrap .i64 x3) < 2)) then (bif (Wc ([(R6.mk (IntKind.wrap .i64 (aE + (IntKind.wrap .i64 (x4 * (-1))))) (IntKind.wrap .i64 (aN + (IntKind.wrap .i64 (x4 * 0)))) (IntKind.wrap .i64 (aP + (IntKind.wrap .i64 (x4 * 0)))) (IntKind.wrap .i64 (aQ + (IntKind.wrap .i64 (x4 * (-1))))) (IntKind.wrap .i64 (aX + (IntKind.wrap .i64 (x4 * 0)))) (IntKind.wrap .i64 (aY + (IntKind.wrap .i64 (x4 * 0)))))] : List R6) ([(R6.mk aE aN aP aQ aX aY)] : List R6)) then (bif ((Vo ([(R6.mk (IntKind.wrap .i64 (aE + (IntKind.wrap .i64 (x4 * (-1))))) (IntKind.wrap .i64 (aN + (IntKind.wrap .i64 (x4 * 0)))) (IntKind.wrap .i64 (aP + (IntKind.wrap .i64 (x4 * 0)))) (IntKind.wrap .i64 (aQ + (IntKind.wrap .i64 (x4 * (-1))))) (IntKind.wrap .i64 (aX + (IntKind.wrap .i64 (x4 * 0)))) (IntKind.wrap .i64 (aY + (IntKind.wrap .i64 (x4 * 0)))))] : List R6) ([(R6.mk aE aN aP aQ aX aY)] : List R6)) == 0) then (.ret [(.bool ((Wv ([(R6.mk (IntKind.wrap .i64 (aE + (IntKind.wrap .i64 (x4 * (-1))))) (IntKind.wrap .i64 (aN + (IntKind.wrap .i64 (x4 * 0)))) (IntKind.wrap .i64 (aP + (IntKind.wrap .i64 (x4 * 0)))) (IntKind.wrap .i64 (aQ + (IntKind.wrap .i64 (x4 * (-1))))) (IntKind.wrap .i64 (aX + (IntKind.wrap .i64 (x4 * 0)))) (IntKind.wrap .i64 (aY + (IntKind.wrap .i64 (x4 * 0)))))] : List R6) ([(R6.mk aE aN aP aQ aX aY)] : List R6)) == x4))]) else (.ret [(.bool false)])) else .stuck) else (bif (decide ((IntKind.wrap .i64 x3) < 4)) then (bif (Wc ([(R6.mk (IntKind.wrap .i64 (aE + (IntKind.wrap .i64 (x4 * 0)))) (IntKind.wrap .i64 (aN + (IntKind.wrap .i64 (x4 * (-1))))) (IntKind.wrap .i64 (aP + (IntKind.wrap .i64 (x4 * 0)))) (IntKind.wrap .i64 (aQ + (IntKind.wrap .i64 (x4 * 0)))) (IntKind.wrap .i64 (aX + (IntKind.wrap .i64 (x4 * (-1))))) (IntKind.wrap .i64 (aY + (IntKind.wrap .i64 (x4 * 0)))))] : List R6) ([(R6.mk aE aN aP aQ aX aY)] : List R6)) then (bif ((Vo ([(R6.mk (IntKind.wrap .i64 (aE + (IntKind.wrap .i64 (x4 * 0)))) (IntKind.wrap .i64 (aN + (IntKind.wrap .i64 (x4 * (-1))))) (IntKind.wrap .i64 (aP + (IntKind.wrap .i64 (x4 * 0)))) (IntKind.wrap .i64 (aQ + (IntKind.wrap .i64 (x4 * 0)))) (IntKind.wrap .i64 (aX + (IntKind.wrap .i64 (x4 * (-1))))) (IntKind.wrap .i64 (aY + (IntKind.wrap .i64 (x4 * 0)))))] : List R6) ([(R6.mk aE aN aP aQ aX aY)] : List R6)) == 0) then (.ret [(.bool ((Wv ([(R6.mk (IntKind.wrap .i64 (aE + (IntKind.wrap .i64 (x4 * 0)))) (IntKind.wrap .i64 (aN + (IntKind.wrap .i64 (x4 * (-1))))) (IntKind.wrap .i64 (aP + (IntKind.wrap .i64 (x4 * 0)))) (IntKind.wrap .i64 (aQ + (IntKind.wrap .i64 (x4 * 0)))) (IntKind.wrap .i64 (aX + (IntKind.wrap .i64 (x4 * (-1))))) (IntKind.wrap .i64 (aY + (IntKind.wrap .i64 (x4 * 0)))))] : List R6) ([(R6.mk aE aN aP aQ aX aY)] : List R6)) == x4))]) else (.ret [(.bool false)])) else .stuck) else (bif (Wc ([(R6.mk (IntKind.wrap .i64 (aE + (IntKind.wrap .i64 (x4 * 0)))) (IntKind.wrap .i64 (aN + (IntKind.wrap .i64 (x4 * 0)))) (IntKind.wrap .i64 (aP + (IntKind.wrap .i64 (x4 * (-1))))) (IntKind.wrap .i64 (aQ + (IntKind.wrap .i64 (x4 * 0)))) (IntKind.wrap .i64 (aX + (IntKind.wrap .i64 (x4 * 0)))) (IntKind.wrap .i64 (aY + (IntKind.wrap .i64 (x4 * (-1))))))] : List R6) ([(R6.mk aE aN aP aQ aX aY)] : List R6)) then (bif ((Vo ([(R6.mk (IntKind.wrap .i64 (aE + (IntKind.wrap .i64 (x4 * 0)))) (IntKind.wrap .i64 (aN + (IntKind.wrap .i64 (x4 * 0)))) (IntKind.wrap .i64 (aP + (IntKind.wrap .i64 (x4 * (-1))))) (IntKind.wrap .i64 (aQ + (IntKind.wrap .i64 (x4 * 0)))) (IntKind.wrap .i64 (aX + (IntKind.wrap .i64 (x4 * 0)))) (IntKind.wrap .i64 (aY + (IntKind.wrap .i64 (x4 * (-1))))))] : List R6) ([(R6.mk aE aN aP aQ aX aY)] : List R6)) == 0) then (.ret [(.bool ((Wv ([(R6.mk (IntKind.wrap .i64 (aE + (IntKind.wrap .i64 (x4 * 0)))) (IntKind.wrap .i64 (aN + (IntKind.wrap .i64 (x4 * 0)))) (IntKind.wrap .i64 (aP + (IntKind.wrap .i64 (x4 * (-1))))) (IntKind.wrap .i64 (aQ + (IntKind.wrap .i64 (x4 * 0)))) (IntKind.wrap .i64 (aX + (IntKind.wrap .i64 (x4 * 0)))) (IntKind.wrap .i64 (aY + (IntKind.wrap .i64 (x4 * (-1))))))] : List R6) ([(R6.mk aE aN aP aQ aX aY)] : List R6)) == x4))]) else (.ret [(.bool false)])) else .stuck))) else (bif (decide ((IntKind.wrap .i64 x3) < 2)) then (bif (Wc ([(R6.mk (IntKind.wrap .i64 (aE + (IntKind.wrap .i64 (x4 * 1)))) (IntKind.wrap .i64 (aN + (IntKind.wrap .i64 (x4 * 0)))) (IntKind.wrap .i64 (aP + (IntKind.wrap .i64 (x4 * 0)))) (IntKind.wrap .i64 (aQ + (IntKind.wrap .i64 (x4 * 1)))) (IntKind.wrap .i64 (aX + (IntKind.wrap .i64 (x4 * 0)))) (IntKind.wrap .i64 (aY + (IntKind.wrap .i64 (x4 * 0)))))] : List R6) ([(R6.mk aE aN aP aQ aX aY)] : List R6)) then (bif ((Vo ([(R6.mk (IntKind.wrap .i64 (aE + (IntKind.wrap .i64 (x4 * 1)))) (IntKind.wrap .i64 (aN + (IntKind.wrap .i64 (x4 * 0)))) (IntKind.wrap .i64 (aP + (IntKind.wrap .i64 (x4 * 0)))) (IntKind.wrap .i64 (aQ + (IntKind.wrap .i64 (x4 * 1)))) (IntKind.wrap .i64 (aX + (IntKind.wrap .i64 (x4 * 0)))) (IntKind.wrap .i64 (aY + (IntKind.wrap .i64 (x4 * 0)))))] : List R6) ([(R6.mk aE aN aP aQ aX aY)] : List R6)) == 0) then (.ret [(.bool ((Wv ([(R6.mk (IntKind.wrap .i64 (aE + (IntKind.wrap .i64 (x4 * 1)))) (IntKind.wrap .i64 (aN + (IntKind.wrap .i64 (x4 * 0)))) (IntKind.wrap .i64 (aP + (IntKind.wrap .i64 (x4 * 0)))) (IntKind.wrap .i64 (aQ + (IntKind.wrap .i64 (x4 * 1)))) (IntKind.wrap .i64 (aX + (IntKind.wrap .i64 (x4 * 0)))) (IntKind.wrap .i64 (aY + (IntKind.wrap .i64 (x4 * 0)))))] : List R6) ([(R6.mk aE aN aP aQ aX aY)] : List R6)) == x4))]) else (.ret [(.bool false)])) else .stuck) else (bif (decide ((IntKind.wrap .i64 x3) < 4)) then (bif (Wc ([(R6.mk (IntKind.wrap .i64 (aE + (IntKind.wrap .i64 (x4 * 0)))) (IntKind.wrap .i64 (aN + (IntKind.wrap .i64 (x4 * 1)))) (IntKind.wrap .i64 (aP + (IntKind.wrap .i64 (x4 * 0)))) (IntKind.wrap .i64 (aQ + (IntKind.wrap .i64 (x4 * 0)))) (IntKind.wrap .i64 (aX + (IntKind.wrap .i64 (x4 * 1)))) (IntKind.wrap .i64 (aY + (IntKind.wrap .i64 (x4 * 0)))))] : List R6) ([(R6.mk aE aN aP aQ aX aY)] : List R6)) then (bif ((Vo ([(R6.mk (IntKind.wrap .i64 (aE + (IntKind.wrap .i64 (x4 * 0)))) (IntKind.wrap .i64 (aN + (IntKind.wrap .i64 (x4 * 1)))) (IntKind.wrap .i64 (aP + (IntKind.wrap .i64 (x4 * 0)))) (IntKind.wrap .i64 (aQ + (IntKind.wrap .i64 (x4 * 0)))) (IntKind.wrap .i64 (aX + (IntKind.wrap .i64 (x4 * 1)))) (IntKind.wrap .i64 (aY + (IntKind.wrap .i64 (x4 * 0)))))] : List R6) ([(R6.mk aE aN aP aQ aX aY)] : List R6)) == 0) then (.ret [(.bool ((Wv ([(R6.mk (IntKind.wrap .i64 (aE + (IntKind.wrap .i64 (x4 * 0)))) (IntKind.wrap .i64 (aN + (IntKind.wrap .i64 (x4 * 1)))) (IntKind.wrap .i64 (aP + (IntKind.wrap .i64 (x4 * 0)))) (IntKind.wrap .i64 (aQ + (IntKind.wrap .i64 (x4 * 0)))) (IntKind.wrap .i64 (aX + (IntKind.wrap .i64 (x4 * 1)))) (IntKind.wrap .i64 (aY + (IntKind.wrap .i64 (x4 * 0)))))] : List R6) ([(R6.mk aE aN aP aQ aX aY)] : List R6)) == x4))]) else (.ret [(.bool false)])) else .stuck) else (bif (Wc ([(R6.mk (IntKind.wrap .i64 (aE + (IntKind.wrap .i64 (x4 * 0)))) (IntKind.wrap .i64 (aN + (IntKind.wrap .i64 (x4 * 0)))) (IntKind.wrap .i64 (aP + (IntKind.wrap .i64 (x4 * 1)))) (IntKind.wrap .i64 (aQ + (IntKind.wrap .i64 (x4 * 0)))) (IntKind.wrap .i64 (aX + (IntKind.wrap .i64 (x4 * 0)))) (IntKind.wrap .i64 (aY + (IntKind.wrap .i64 (x4 * 1)))))] : List R6) ([(R6.mk aE aN aP aQ aX aY)] : List R6)) then (bif ((Vo ([(R6.mk (IntKind.wrap .i64 (aE + (IntKind.wrap .i64 (x4 * 0)))) (IntKind.wrap .i64 (aN + (IntKind.wrap .i64 (x4 * 0)))) (IntKind.wrap .i64 (aP + (IntKind.wrap .i64 (x4 * 1)))) (IntKind.wrap .i64 (aQ + (IntKind.wrap .i64 (x4 * 0)))) (IntKind.wrap .i64 (aX + (IntKind.wrap .i64 (x4 * 0)))) (IntKind.wrap .i64 (aY + (IntKind.wrap .i64 (x4 * 1)))))] : List R6) ([(R6.mk aE aN aP aQ aX aY)] : List R6)) == 0) then (.ret [(.bool ((Wv ([(R6.mk (IntKind.wrap .i64 (aE + (IntKind.wrap .i64 (x4 * 0)))) (IntKind.wrap .i64 (aN + (IntKind.wrap .i64 (x4 * 0)))) (IntKind.wrap .i64 (aP + (IntKind.wrap .i64 (x4 * 1)))) (IntKind.wrap .i64 (aQ + (IntKind.wrap .i64 (x4 * 0)))) (IntKind.wrap .i64 (aX + (IntKind.wrap .i64 (x4 * 0)))) (IntKind.wrap .i64 (aY + (IntKind.wrap .i64 (x4 * 1)))))] : List R6) ([(R6.mk aE aN aP aQ aX aY)] : List R6)) == x4))]) else (.ret [(.bool false)])) else .stuck)))))
def z8s (l0 : List R6) (l1 : List R6) (bO : Int) (bP : Int) (dA : Int) (x3 : Int) (x4 : Int) : Xn dfrS := (bif (z1o (cvT l0)) then (bif (!(w3b (cvT l0))) then (.ret [(.bool true)]) else (bif (z1o (cvT l1)) then (bif (!(w3b (cvT l1))) then (.ret [(.bool true)]) else (bif ((l1.length : Int) == 0) then (.ret [(.bool true)]) else (bif (decide (x3 > 5)) then (.ret [(.bool true)]) else (bif (decide (x4 < 0)) then (.ret [(.bool true)]) else (bif (decide (x4 > 100)) then (.ret [(.bool true)]) else (bif (Wc (cvT l0) (cvT l1)) then (bif ((Vo (cvT l0) (cvT l1)) != 0) then (.ret [(.bool false)]) else (bif (z2f (cvT l0) bO bP dA) then (bif (x6a (cvT l0) bO bP dA) then (bif (Qe bO bP dA (cvT l1)) then (bif (decide ((y8c bO bP dA (cvT l1)) > (Wv (cvT l0) (cvT l1)))) then (.ret [(.bool false)]) else (bif (Wf (cvT l1)) then (bif ((Yg (cvT l1)) != 0) then (.ret [(.bool false)]) else (bif ((decide ((0 : Int) ≤ 0 ∧ 0 < (l1.length : Int))) && true) then (.to (.h0 0 (rd l1 0).a (rd l1 0).b (rd l1 0).c (rd l1 0).d (rd l1 0).e (rd l1 0).f)) else .stuck)) else .stuck)) else .stuck) else (bif (Wf (cvT l1)) then (bif ((Yg (cvT l1)) != 0) then (.ret [(.bool false)]) else (bif ((decide ((0 : Int) ≤ 0 ∧ 0 < (l1.length : Int))) && true) then (.to (.h0 0 (rd l1 0).a (rd l1 0).b (rd l1 0).c (rd l1 0).d (rd l1 0).e (rd l1 0).f)) else .stuck)) else .stuck)) else .stuck)) else .stuck)))))) else .stuck)) else .stuck)
theorem x6q (l0 : List R6) (l1 : List R6) (bO : Int) (bP : Int) (dA : Int) (x3 : Int) (x4 : Int) : ∀ s, Ww prog (Zy prog 12) (dfrC l0 l1 bO bP dA x3 x4) (dfrC l0 l1 bO bP dA x3 x4 s) (z3k l0 l1 bO bP dA x3 x4 s)
 | .h0 v23 aE aN aP aQ aX aY => (lb (fun k0 => (lo fun o0 => (sl Jd 75 [] ⟨[0, 1], [], v7i, v7j⟩ ⟨[], [], []⟩ [true] (ww o0 (tt k0 nn))))) (fun k0 => (lb (fun k1 => (lb (fun k2 => (lo fun cP => (lb (fun k3 => (lr 108 3 [1, 1, 1, 1, 1, 1, 0] 1 12 [(10, (.bool ((Wv ([(R6.mk (wr (aE + (wr (x4 * (-1))))) (wr (aN + (wr (x4 * 0)))) (wr (aP + (wr (x4 * 0)))) (wr (aQ + (wr (x4 * (-1))))) (wr (aX + (wr (x4 * 0)))) (wr (aY + (wr (x4 * 0)))))] : List R6) ([(R6.mk aE aN aP aQ aX aY)] : List R6)) == x4)))] (sl Jd 111 [] ⟨[], [], [some [10]], []⟩ ⟨[], [], []⟩ [false, false, true, true, true, true, true, true, true] (tt k3 (pp (pp (xI R6 1 (fun k => ([(ii (wr (aE + (wr (x4 * (-1)))))), (ii (wr (aN + (wr (x4 * 0))))), (ii (wr (aP + (wr (x4 * 0))))), (ii (wr (aQ + (wr (x4 * (-1)))))), (ii (wr (aX + (wr (x4 * 0))))), (ii (wr (aY + (wr (x4 * 0)))))].drop (k * 6)).take 6)) (pp (xI R6 1 (fun k => ([(ii aE), (ii aN), (ii aP), (ii aQ), (ii aX), (ii aY)].drop (k * 6)).take 6)) (xw cP))) (tt k2 (tt k1 (tt k0 nn)))))))) (fun k3 => (lr 108 3 [1, 1, 1, 1, 1, 1, 0] 1 12 [(10, (.bool false))] (sl Jd 111 [] ⟨[], [], [some [10]], []⟩ ⟨[], [], []⟩ [false, false, true, true, true, true, false, false, false] (tt k3 (pp (pp (xI R6 1 (fun k => ([(ii (wr (aE + (wr (x4 * (-1)))))), (ii (wr (aN + (wr (x4 * 0))))), (ii (wr (aP + (wr (x4 * 0))))), (ii (wr (aQ + (wr (x4 * (-1)))))), (ii (wr (aX + (wr (x4 * 0))))), (ii (wr (aY + (wr (x4 * 0)))))].drop (k * 6)).take 6)) (pp (xI R6 1 (fun k => ([(ii aE), (ii aN), (ii aP), (ii aQ), (ii aX), (ii aY)].drop (k * 6)).take 6)) (xw cP))) (tt k2 (tt k1 (tt k0 nn))))))))))) (fun k2 => (lb (fun k3 => (lo fun cO => (lb (fun k4 => (lr 108 3 [1, 1, 1, 1, 1, 1, 0] 1 12 [(10, (.bool ((Wv ([(R6.mk (wr (aE + (wr (x4 * 0)))) (wr (aN + (wr (x4 * (-1))))) (wr (aP + (wr (x4 * 0)))) (wr (aQ + (wr (x4 * 0)))) (wr (aX + (wr (x4 * (-1))))) (wr (aY + (wr (x4 * 0)))))] : List R6) ([(R6.mk aE aN aP aQ aX aY)] : List R6)) == x4)))] (sl Jd 119 [] ⟨[], [], [some [10]], []⟩ ⟨[], [], []⟩ [false, false, true, false, true, true, true, true, true, true] (tt k4 (pp (pp (xI R6 1 (fun k => ([(ii (wr (aE + (wr (x4 * 0))))), (ii (wr (aN + (wr (x4 * (-1)))))), (ii (wr (aP + (wr (x4 * 0))))), (ii (wr (aQ + (wr (x4 * 0))))), (ii (wr (aX + (wr (x4 * (-1)))))), (ii (wr (aY + (wr (x4 * 0)))))].drop (k * 6)).take 6)) (pp (xI R6 1 (fun k => ([(ii aE), (ii aN), (ii aP), (ii aQ), (ii aX), (ii aY)].drop (k * 6)).take 6)) (xw cO))) (tt k3 (tt k2 (tt k1 (tt k0 nn))))))))) (fun k4 => (lr 108 3 [1, 1, 1, 1, 1, 1, 0] 1 12 [(10, (.bool false))] (sl Jd 119 [] ⟨[], [], [some [10]], []⟩ ⟨[], [], []⟩ [false, false, true, false, true, true, true, false, false, false] (tt k4 (pp (pp (xI R6 1 (fun k => ([(ii (wr (aE + (wr (x4 * 0))))), (ii (wr (aN + (wr (x4 * (-1)))))), (ii (wr (aP + (wr (x4 * 0))))), (ii (wr (aQ + (wr (x4 * 0))))), (ii (wr (aX + (wr (x4 * (-1)))))), (ii (wr (aY + (wr (x4 * 0)))))].drop (k * 6)).take 6)) (pp (xI R6 1 (fun k => ([(ii aE), (ii aN), (ii aP), (ii aQ), (ii aX), (ii aY)].drop (k * 6)).take 6)) (xw cO))) (tt k3 (tt k2 (tt k1 (tt k0 nn)))))))))))) (fun k3 => (lo fun cO => (lb (fun k4 => (lr 108 3 [1, 1, 1, 1, 1, 1, 0] 1 12 [(10, (.bool ((Wv ([(R6.mk (wr (aE + (wr (x4 * 0)))) (wr (aN + (wr (x4 * 0)))) (wr (aP + (wr (x4 * (-1))))) (wr (aQ + (wr (x4 * 0)))) (wr (aX + (wr (x4 * 0)))) (wr (aY + (wr (x4 * (-1))))))] : List R6) ([(R6.mk aE aN aP aQ aX aY)] : List R6)) == x4)))] (sl Jd 120 [] ⟨[], [], [some [10]], []⟩ ⟨[], [], []⟩ [false, false, true, false, false, true, true, true, true, true] (tt k4 (pp (pp (xI R6 1 (fun k => ([(ii (wr (aE + (wr (x4 * 0))))), (ii (wr (aN + (wr (x4 * 0))))), (ii (wr (aP + (wr (x4 * (-1)))))), (ii (wr (aQ + (wr (x4 * 0))))), (ii (wr (aX + (wr (x4 * 0))))), (ii (wr (aY + (wr (x4 * (-1))))))].drop (k * 6)).take 6)) (pp (xI R6 1 (fun k => ([(ii aE), (ii aN), (ii aP), (ii aQ), (ii aX), (ii aY)].drop (k * 6)).take 6)) (xw cO))) (tt k3 (tt k2 (tt k1 (tt k0 nn))))))))) (fun k4 => (lr 108 3 [1, 1, 1, 1, 1, 1, 0] 1 12 [(10, (.bool false))] (sl Jd 120 [] ⟨[], [], [some [10]], []⟩ ⟨[], [], []⟩ [false, false, true, false, false, true, true, false, false, false] (tt k4 (pp (pp (xI R6 1 (fun k => ([(ii (wr (aE + (wr (x4 * 0))))), (ii (wr (aN + (wr (x4 * 0))))), (ii (wr (aP + (wr (x4 * (-1)))))), (ii (wr (aQ + (wr (x4 * 0))))), (ii (wr (aX + (wr (x4 * 0))))), (ii (wr (aY + (wr (x4 * (-1))))))].drop (k * 6)).take 6)) (pp (xI R6 1 (fun k => ([(ii aE), (ii aN), (ii aP), (ii aQ), (ii aX), (ii aY)].drop (k * 6)).take 6)) (xw cO))) (tt k3 (tt k2 (tt k1 (tt k0 nn)))))))))))))))) (fun k1 => (lb (fun k2 => (lo fun cP => (lb (fun k3 => (lr 108 3 [1, 1, 1, 1, 1, 1, 0] 1 12 [(10, (.bool ((Wv ([(R6.mk (wr (aE + (wr (x4 * 1)))) (wr (aN + (wr (x4 * 0)))) (wr (aP + (wr (x4 * 0)))) (wr (aQ + (wr (x4 * 1)))) (wr (aX + (wr (x4 * 0)))) (wr (aY + (wr (x4 * 0)))))] : List R6) ([(R6.mk aE aN aP aQ aX aY)] : List R6)) == x4)))] (sl Jd 109 [] ⟨[], [], [some [10]], []⟩ ⟨[], [], []⟩ [false, false, false, true, true, true, true, true, true] (tt k3 (pp (pp (xI R6 1 (fun k => ([(ii (wr (aE + (wr (x4 * 1))))), (ii (wr (aN + (wr (x4 * 0))))), (ii (wr (aP + (wr (x4 * 0))))), (ii (wr (aQ + (wr (x4 * 1))))), (ii (wr (aX + (wr (x4 * 0))))), (ii (wr (aY + (wr (x4 * 0)))))].drop (k * 6)).take 6)) (pp (xI R6 1 (fun k => ([(ii aE), (ii aN), (ii aP), (ii aQ), (ii aX), (ii aY)].drop (k * 6)).take 6)) (xw cP))) (tt k2 (tt k1 (tt k0 nn)))))))) (fun k3 => (lr 108 3 [1, 1, 1, 1, 1, 1, 0] 1 12 [(10, (.bool false))] (sl Jd 109 [] ⟨[], [], [some [10]], []⟩ ⟨[], [], []⟩ [false, false, false, true, true, true, false, false, false] (tt k3 (pp (pp (xI R6 1 (fun k => ([(ii (wr (aE + (wr (x4 * 1))))), (ii (wr (aN + (wr (x4 * 0))))), (ii (wr (aP + (wr (x4 * 0))))), (ii (wr (aQ + (wr (x4 * 1))))), (ii (wr (aX + (wr (x4 * 0))))), (ii (wr (aY + (wr (x4 * 0)))))].drop (k * 6)).take 6)) (pp (xI R6 1 (fun k => ([(ii aE), (ii aN), (ii aP), (ii aQ), (ii aX), (ii aY)].drop (k * 6)).take 6)) (xw cP))) (tt k2 (tt k1 (tt k0 nn))))))))))) (fun k2 => (lb (fun k3 => (lo fun cO => (lb (fun k4 => (lr 108 3 [1, 1, 1, 1, 1, 1, 0] 1 12 [(10, (.bool ((Wv ([(R6.mk (wr (aE + (wr (x4 * 0)))) (wr (aN + (wr (x4 * 1)))) (wr (aP + (wr (x4 * 0)))) (wr (aQ + (wr (x4 * 0)))) (wr (aX + (wr (x4 * 1)))) (wr (aY + (wr (x4 * 0)))))] : List R6) ([(R6.mk aE aN aP aQ aX aY)] : List R6)) == x4)))] (sl Jd 117 [] ⟨[], [], [some [10]], []⟩ ⟨[], [], []⟩ [false, false, false, false, true, true, true, true, true, true] (tt k4 (pp (pp (xI R6 1 (fun k => ([(ii (wr (aE + (wr (x4 * 0))))), (ii (wr (aN + (wr (x4 * 1))))), (ii (wr (aP + (wr (x4 * 0))))), (ii (wr (aQ + (wr (x4 * 0))))), (ii (wr (aX + (wr (x4 * 1))))), (ii (wr (aY + (wr (x4 * 0)))))].drop (k * 6)).take 6)) (pp (xI R6 1 (fun k => ([(ii aE), (ii aN), (ii aP), (ii aQ), (ii aX), (ii aY)].drop (k * 6)).take 6)) (xw cO))) (tt k3 (tt k2 (tt k1 (tt k0 nn))))))))) (fun k4 => (lr 108 3 [1, 1, 1, 1, 1, 1, 0] 1 12 [(10, (.bool false))] (sl Jd 117 [] ⟨[], [], [some [10]], []⟩ ⟨[], [], []⟩ [false, false, false, false, true, true, true, false, false, false] (tt k4 (pp (pp (xI R6 1 (fun k => ([(ii (wr (aE + (wr (x4 * 0))))), (ii (wr (aN + (wr (x4 * 1))))), (ii (wr (aP + (wr (x4 * 0))))), (ii (wr (aQ + (wr (x4 * 0))))), (ii (wr (aX + (wr (x4 * 1))))), (ii (wr (aY + (wr (x4 * 0)))))].drop (k * 6)).take 6)) (pp (xI R6 1 (fun k => ([(ii aE), (ii aN), (ii aP), (ii aQ), (ii aX), (ii aY)].drop (k * 6)).take 6)) (xw cO))) (tt k3 (tt k2 (tt k1 (tt k0 nn)))))))))))) (fun k3 => (lo fun cO => (lb (fun k4 => (lr 108 3 [1, 1, 1, 1, 1, 1, 0] 1 12 [(10, (.bool ((Wv ([(R6.mk (wr (aE + (wr (x4 * 0)))) (wr (aN + (wr (x4 * 0)))) (wr (aP + (wr (x4 * 1)))) (wr (aQ + (wr (x4 * 0)))) (wr (aX + (wr (x4 * 0)))) (wr (aY + (wr (x4 * 1)))))] : List R6) ([(R6.mk aE aN aP aQ aX aY)] : List R6)) == x4)))] (sl Jd 118 [] ⟨[], [], [some [10]], []⟩ ⟨[], [], []⟩ [false, false, false, false, false, true, true, true, true, true] (tt k4 (pp (pp (xI R6 1 (fun k => ([(ii (wr (aE + (wr (x4 * 0))))), (ii (wr (aN + (wr (x4 * 0))))), (ii (wr (aP + (wr (x4 * 1))))), (ii (wr (aQ + (wr (x4 * 0))))), (ii (wr (aX + (wr (x4 * 0))))), (ii (wr (aY + (wr (x4 * 1)))))].drop (k * 6)).take 6)) (pp (xI R6 1 (fun k => ([(ii aE), (ii aN), (ii aP), (ii aQ), (ii aX), (ii aY)].drop (k * 6)).take 6)) (xw cO))) (tt k3 (tt k2 (tt k1 (tt k0 nn))))))))) (fun k4 => (lr 108 3 [1, 1, 1, 1, 1, 1, 0] 1 12 [(10, (.bool false))] (sl Jd 118 [] ⟨[], [], [some [10]], []⟩ ⟨[], [], []⟩ [false, false, false, false, false, true, true, false, false, false] (tt k4 (pp (pp (xI R6 1 (fun k => ([(ii (wr (aE + (wr (x4 * 0))))), (ii (wr (aN + (wr (x4 * 0))))), (ii (wr (aP + (wr (x4 * 1))))), (ii (wr (aQ + (wr (x4 * 0))))), (ii (wr (aX + (wr (x4 * 0))))), (ii (wr (aY + (wr (x4 * 1)))))].drop (k * 6)).take 6)) (pp (xI R6 1 (fun k => ([(ii aE), (ii aN), (ii aP), (ii aQ), (ii aX), (ii aY)].drop (k * 6)).take 6)) (xw cO))) (tt k3 (tt k2 (tt k1 (tt k0 nn)))))))))))))))))))
theorem x1e (l0 : List R6) (l1 : List R6) (bO : Int) (bP : Int) (dA : Int) (x3 : Int) (x4 : Int) : Ww prog (Zy prog 12) (dfrC l0 l1 bO bP dA x3 x4) (Zn prog 12 [(.dat l0.length (Zz l0)), (.dat l1.length (Zz l1)), (.agg [(.int .i64 bO), (.int .i64 bP), (.int .i64 dA)]), (.int .u8 x3), (.int .i64 x4)] true []) (z8s l0 l1 bO bP dA x3 x4) := (lo fun cH => (lb (fun k0 => (lr 108 12 [1, 1, 0, 1, 0, 0] 1 12 [(10, (.bool true))] (sl Jd 49 [] ⟨[], [], [some [10]], []⟩ ⟨[], [], []⟩ (trs 15 []) (tt k0 (pp (pp (xr l0) (xw cH)) nn))))) (fun k0 => (lo fun aH => (lb (fun k1 => (lr 108 12 [1, 1, 0, 1, 0, 0] 1 12 [(10, (.bool true))] (sl Jd 49 [] ⟨[], [], [some [10]], []⟩ ⟨[], [], []⟩ [false, false, false, true, true, true, true, true, true, true, true, true, true, true, true] (tt k1 (pp (pp (xr l1) (xw aH)) (tt k0 (pp (pp (xr l0) (xw cH)) nn))))))) (fun k1 => (lb (fun k2 => (lr 108 12 [1, 1, 0, 1, 0, 0] 1 12 [(10, (.bool true))] (sl Jd 49 [] ⟨[], [], [some [10]], []⟩ ⟨[], [], []⟩ [false, false, false, false, false, false, true, true, true, true, true, true, true, true, true] (tt k2 (tt k1 (pp (pp (xr l1) (xw aH)) (tt k0 (pp (pp (xr l0) (xw cH)) nn)))))))) (fun k2 => (lb (fun k3 => (lr 108 12 [1, 1, 0, 1, 0, 0] 1 12 [(10, (.bool true))] (sl Jd 49 [] ⟨[], [], [some [10]], []⟩ ⟨[], [], []⟩ [false, false, false, false, false, false, false, false, true, true, true, true, true, true, true] (tt k3 (tt k2 (tt k1 (pp (pp (xr l1) (xw aH)) (tt k0 (pp (pp (xr l0) (xw cH)) nn))))))))) (fun k3 => (lb (fun k4 => (lr 108 12 [1, 1, 0, 1, 0, 0] 1 12 [(10, (.bool true))] (sl Jd 49 [] ⟨[], [], [some [10]], []⟩ ⟨[], [], []⟩ [false, false, false, false, false, false, false, false, false, false, true, true, true, true, true] (tt k4 (tt k3 (tt k2 (tt k1 (pp (pp (xr l1) (xw aH)) (tt k0 (pp (pp (xr l0) (xw cH)) nn)))))))))) (fun k4 => (lb (fun k5 => (lr 108 12 [1, 1, 0, 1, 0, 0] 1 12 [(10, (.bool true))] (sl Jd 49 [] ⟨[], [], [some [10]], []⟩ ⟨[], [], []⟩ [false, false, false, false, false, false, false, false, false, false, false, false, true, true, true] (tt k5 (tt k4 (tt k3 (tt k2 (tt k1 (pp (pp (xr l1) (xw aH)) (tt k0 (pp (pp (xr l0) (xw cH)) nn))))))))))) (fun k5 => (lo fun dT => (lb (fun k6 => (lr 108 12 [1, 1, 1, 1, 0, 1, 0, 0] 1 12 [(10, (.bool false))] (sl Jd 79 [] ⟨[], [], [some [10]], []⟩ ⟨[], [], []⟩ [false, false, false, false, false, false, false, false, false, false, false, false, false, false, false, true, true, true, true, true, true] (tt k6 (pp (pp (xr l0) (pp (xr l1) (xw dT))) (tt k5 (tt k4 (tt k3 (tt k2 (tt k1 (pp (pp (xr l1) (xw aH)) (tt k0 (pp (pp (xr l0) (xw cH)) nn))))))))))))) (fun k6 => (lo fun dW => (lb (fun k7 => (lo fun dU => (lb (fun k8 => (lr 108 12 [1, 1, 1, 1, 0, 1, 0, 0] 1 12 [(10, (.bool false))] (sl Jd 79 [] ⟨[], [], [some [10]], []⟩ ⟨[], [], []⟩ [false, false, false, false, false, false, false, false, false, false, false, false, false, false, false, false, false, false, false, true, true, true, true, true, false, true] (tt k8 (pp (pp (xr l1) (xw dU)) (tt k7 (pp (pp (xr l0) (xw dW)) (tt k6 (pp (pp (xr l0) (pp (xr l1) (xw dT))) (tt k5 (tt k4 (tt k3 (tt k2 (tt k1 (pp (pp (xr l1) (xw aH)) (tt k0 (pp (pp (xr l0) (xw cH)) nn))))))))))))))))) (fun k8 => (lo fun dY => (lb (fun k9 => (lr 108 12 [1, 1, 1, 1, 1, 1, 0, 1, 0, 0] 1 12 [(10, (.bool false))] (sl Jd 124 [] ⟨[], [], [some [10]], []⟩ ⟨[], [], []⟩ [false, false, false, false, false, false, false, false, false, false, false, false, false, false, false, false, false, false, false, true, true, true, true, true, false, false, true, true] (tt k9 (tt k9 (pp (pp (xr l1) (xw dY)) (tt k8 (pp (pp (xr l1) (xw dU)) (tt k7 (pp (pp (xr l0) (xw dW)) (tt k6 (pp (pp (xr l0) (pp (xr l1) (xw dT))) (tt k5 (tt k4 (tt k3 (tt k2 (tt k1 (pp (pp (xr l1) (xw aH)) (tt k0 (pp (pp (xr l0) (xw cH)) nn)))))))))))))))))))) (fun k9 => (lo fun o0 => (sl Jd 125 [] ⟨[1, 2], [], v7i, v7j⟩ ⟨[], [], []⟩ [false, false, false, false, false, false, false, false, false, false, false, false, false, false, false, false, false, false, false, true, true, true, true, true, false, false, false, false] (ww o0 (tt k2 (tt k9 (pp (pp (xr l1) (xw dY)) (tt k8 (pp (pp (xr l1) (xw dU)) (tt k7 (pp (pp (xr l0) (xw dW)) (tt k6 (pp (pp (xr l0) (pp (xr l1) (xw dT))) (tt k5 (tt k4 (tt k3 (tt k2 (tt k1 (pp (pp (xr l1) (xw aH)) (tt k0 (pp (pp (xr l0) (xw cH)) nn))))))))))))))))))))))))))) (fun k7 => (lo fun dU => (lb (fun k8 => (lr 108 12 [1, 1, 1, 1, 1, 1, 0, 1, 0, 0] 1 12 [(10, (.bool false))] (sl Jd 124 [] ⟨[], [], [some [10]], []⟩ ⟨[], [], []⟩ [false, false, false, false, false, false, false, false, false, false, false, false, false, false, false, false, false, false, false, false, false, false, false, false, false, false, true, true] (tt k8 (tt k8 (pp (pp (xr l1) (xw dU)) (tt k7 (pp (pp (xr l0) (xw dW)) (tt k6 (pp (pp (xr l0) (pp (xr l1) (xw dT))) (tt k5 (tt k4 (tt k3 (tt k2 (tt k1 (pp (pp (xr l1) (xw aH)) (tt k0 (pp (pp (xr l0) (xw cH)) nn)))))))))))))))))) (fun k8 => (lo fun o0 => (sl Jd 125 [] ⟨[1, 2], [], v7i, v7j⟩ ⟨[], [], []⟩ [false, false, false, false, false, false, false, false, false, false, false, false, false, false, false, false, false, false, false, false, false, false, false, false, false, false, false, false] (ww o0 (tt k2 (tt k8 (pp (pp (xr l1) (xw dU)) (tt k7 (pp (pp (xr l0) (xw dW)) (tt k6 (pp (pp (xr l0) (pp (xr l1) (xw dT))) (tt k5 (tt k4 (tt k3 (tt k2 (tt k1 (pp (pp (xr l1) (xw aH)) (tt k0 (pp (pp (xr l0) (xw cH)) nn)))))))))))))))))))))))))))))))))))))))))
theorem dfr_ends (l0 : List R6) (l1 : List R6) (bO : Int) (bP : Int) (dA : Int) (x3 : Int) (x4 : Int) (n : Nat) (vs : List AVal) (h : Yv (z3k l0 l1 bO bP dA x3 x4) n (z8s l0 l1 bO bP dA x3 x4) = .ret vs) : Kz prog (Zy prog 12) (Zn prog 12 [(.dat l0.length (Zz l0)), (.dat l1.length (Zz l1)), (.agg [(.int .i64 bO), (.int .i64 bP), (.int .i64 dA)]), (.int .u8 x3), (.int .i64 x4)] true []) vs := by
 have := Zr (x6q l0 l1 bO bP dA x3 x4) n _ (x1e l0 l1 bO bP dA x3 x4)
 rwa [h] at this
end Go.Am
namespace Go.Am
open Go.Proofs
def pin (r : R6) (x y z : Int) : Prop := (r.a ≤ x ∧ x < r.d) ∧ (r.b ≤ y ∧ y < r.e) ∧ r.c ≤ z ∧ z < r.f
def nrp (r : R6) (D x y z : Int) : Prop := (r.a - D ≤ x ∧ x < r.d + D) ∧ (r.b - D ≤ y ∧ y < r.e + D) ∧ r.c - D ≤ z ∧ z < r.f + D
def bdd (r : R6) : Prop := (-1000000000 ≤ r.a ∧ r.a ≤ 1000000000) ∧ (-1000000000 ≤ r.b ∧ r.b ≤ 1000000000) ∧ (-1000000000 ≤ r.c ∧ r.c ≤ 1000000000) ∧ (-1000000000 ≤ r.d ∧ r.d ≤ 1000000000) ∧ (-1000000000 ≤ r.e ∧ r.e ≤ 1000000000) ∧ (-1000000000 ≤ r.f ∧ r.f ≤ 1000000000)
theorem z4o (x y : Int) : x ≤ Wg x y ∧ y ≤ Wg x y ∧ (Wg x y = x ∨ Wg x y = y) := by
 unfold Wg; split <;> omega
theorem z4n (x y : Int) : Uw x y ≤ x ∧ Uw x y ≤ y ∧ (Uw x y = x ∨ Uw x y = y) := by
 unfold Uw; split <;> omega
theorem w1e {x y m : Int} : Wg x y ≤ m ↔ x ≤ m ∧ y ≤ m := by
 have := z4o x y; omega
theorem v5h {x y m : Int} : Uw x y ≤ m ↔ x ≤ m ∨ y ≤ m := by
 have := z4n x y; omega
structure GA (G c B : R6) (D : Int) : Prop where
 ga : c.a - D ≤ G.a ∧ B.a ≤ G.a ∧ (G.a = c.a - D ∨ G.a = B.a)
 gb : c.b - D ≤ G.b ∧ B.b ≤ G.b ∧ (G.b = c.b - D ∨ G.b = B.b)
 gc : c.c - D ≤ G.c ∧ B.c ≤ G.c ∧ (G.c = c.c - D ∨ G.c = B.c)
 gd : G.d ≤ c.d + D ∧ G.d ≤ B.d ∧ (G.d = c.d + D ∨ G.d = B.d)
 ge : G.e ≤ c.e + D ∧ G.e ≤ B.e ∧ (G.e = c.e + D ∨ G.e = B.e)
 gf : G.f ≤ c.f + D ∧ G.f ≤ B.f ∧ (G.f = c.f + D ∨ G.f = B.f)
theorem v5n {c B : R6} {D : Int} (hc : bdd c) (hD : 0 ≤ D ∧ D ≤ 1000000000) : GA (gA D c B) c B D := by
 obtain ⟨h1, h2, h3, h4, h5, h6⟩ := hc
 refine ⟨?_, ?_, ?_, ?_, ?_, ?_⟩ <;> unfold gA <;> simp only <;> (rw [Zj (by omega)])
 ·exact z4o _ _
 ·exact z4o _ _
 ·exact z4o _ _
 ·exact z4n _ _
 ·exact z4n _ _
 ·exact z4n _ _
theorem z2h {r : R6} : z4w r = false ↔ r.a < r.d ∧ r.b < r.e ∧ r.c < r.f := by
 unfold z4w
 simp only [Bool.or_eq_false_iff, decide_eq_false_iff_not]
 omega
theorem w7i {r : R6} (h : z4w r = true) {x y z : Int} : ¬ pin r x y z := fun ⟨p, q, s⟩ => by
 have : z4w r = false := z2h.2 (by omega)
 rw [h] at this; cases this
theorem z8u {D : Int} (hD : 0 ≤ D ∧ D ≤ 1000000000) : ∀ (l : List R6) (B : R6), bdd B → z4w B = false → (∀ c ∈ l, bdd c) → (covB D l B = true ↔ ∀ x y z, pin B x y z → ∃ c ∈ l, nrp c D x y z)
 | [], B, hB, hne, hl => by
  have h := z2h.1 hne
  constructor
  ·intro h; cases h
  ·intro k
   obtain ⟨c, hc, _⟩ := k B.a B.b B.c ⟨⟨Int.le_refl _, h.1⟩, ⟨Int.le_refl _, h.2.1⟩, Int.le_refl _, h.2.2⟩
   cases hc
 | c :: l, B, hB, hne, hl => by
  have hc := hl c (List.mem_cons_self ..)
  have hl' : ∀ c ∈ l, bdd c := fun c h => hl c (List.mem_cons_of_mem _ h)
  have G := v5n (B := B) hc hD
  have hcov : covB D (c :: l) B = bif z4w (gA D c B) then covB D l B else
   (z4w (v1z (gA D c B) B) || covB D l (v1z (gA D c B) B)) && ((z4w (v1y (gA D c B) B) || covB D l (v1y (gA D c B) B)) && ((z4w (w3f (gA D c B) B) || covB D l (w3f (gA D c B) B)) &&
   ((z4w (w3e (gA D c B) B) || covB D l (w3e (gA D c B) B)) && ((z4w (x7l (gA D c B) B) || covB D l (x7l (gA D c B) B)) && (z4w (x7k (gA D c B) B) || covB D l (x7k (gA D c B) B)))))) := rfl
  rw [hcov]
  generalize gA D c B = g at G
  obtain ⟨G1, G2, G3, G4, G5, G6⟩ := G
  have part : ∀ p, bdd p → ((z4w p || covB D l p) = true ↔ ∀ x y z, pin p x y z → ∃ c ∈ l, nrp c D x y z) := fun p hp => by
   cases he : z4w p with
   | true => exact ⟨fun _ x y z k => absurd k (w7i he), fun _ => rfl⟩
   | false => rw [Bool.false_or]; exact z8u hD l p hp he hl'
  cases he : z4w g with
  | true =>
   rw [cond_true, z8u hD l B hB hne hl']
   constructor
   ·intro k x y z hp
    obtain ⟨c', hc', q⟩ := k x y z hp
    exact ⟨c', List.mem_cons_of_mem _ hc', q⟩
   ·intro k x y z hp
    obtain ⟨c', hc', q⟩ := k x y z hp
    rcases List.mem_cons.1 hc' with rfl | hc'
    ·exfalso
     have : z4w g = false := z2h.2 (by obtain ⟨q1, q2, q3⟩ := q; obtain ⟨p1, p2, p3⟩ := hp; omega)
     rw [he] at this; cases this
    ·exact ⟨c', hc', q⟩
  | false =>
   have hg := z2h.1 he
   have hb := z2h.1 hne
   obtain ⟨b1, b2, b3, b4, b5, b6⟩ := hB
   rw [cond_false, Bool.and_eq_true, Bool.and_eq_true, Bool.and_eq_true, Bool.and_eq_true, Bool.and_eq_true]
   rw [part (v1z g B) (by unfold bdd v1z; simp only; omega), part (v1y g B) (by unfold bdd v1y; simp only; omega), part (w3f g B) (by unfold bdd w3f; simp only; omega), part (w3e g B) (by unfold bdd w3e; simp only; omega), part (x7l g B) (by unfold bdd x7l; simp only; omega), part (x7k g B) (by unfold bdd x7k; simp only; omega)]
   have out : ∀ {p : R6}, (∀ x y z, pin p x y z → pin B x y z ∧ ¬ nrp c D x y z) → (∀ x y z, pin B x y z → ∃ c' ∈ c :: l, nrp c' D x y z) → ∀ x y z, pin p x y z → ∃ c' ∈ l, nrp c' D x y z := fun h k x y z hp => by
    obtain ⟨h1, h2⟩ := h x y z hp
    obtain ⟨c', hc', q⟩ := k x y z h1
    rcases List.mem_cons.1 hc' with rfl | hc'
    ·exact absurd q h2
    ·exact ⟨c', hc', q⟩
   constructor
   ·intro ⟨k1, k2, k3, k4, k5, k6⟩ x y z ⟨⟨p1, p2⟩, ⟨p3, p4⟩, p5, p6⟩
    have up : (∃ c' ∈ l, nrp c' D x y z) → ∃ c' ∈ c :: l, nrp c' D x y z := fun ⟨c', h, q⟩ => ⟨c', List.mem_cons_of_mem _ h, q⟩
    by_cases q1 : x < g.a
    ·exact up (k1 x y z ⟨⟨p1, q1⟩, ⟨p3, p4⟩, p5, p6⟩)
    by_cases q2 : g.d ≤ x
    ·exact up (k2 x y z ⟨⟨q2, p2⟩, ⟨p3, p4⟩, p5, p6⟩)
    by_cases q3 : y < g.b
    ·exact up (k3 x y z ⟨⟨by simp only [w3f]; omega, by simp only [w3f]; omega⟩, ⟨p3, q3⟩, p5, p6⟩)
    by_cases q4 : g.e ≤ y
    ·exact up (k4 x y z ⟨⟨by simp only [w3e]; omega, by simp only [w3e]; omega⟩, ⟨q4, p4⟩, p5, p6⟩)
    by_cases q5 : z < g.c
    ·exact up (k5 x y z ⟨⟨by simp only [x7l]; omega, by simp only [x7l]; omega⟩, ⟨by simp only [x7l]; omega, by simp only [x7l]; omega⟩, p5, q5⟩)
    by_cases q6 : g.f ≤ z
    ·exact up (k6 x y z ⟨⟨by simp only [x7k]; omega, by simp only [x7k]; omega⟩, ⟨by simp only [x7k]; omega, by simp only [x7k]; omega⟩, q6, p6⟩)
    exact ⟨c, List.mem_cons_self .., by unfold nrp; omega⟩
   ·intro k
    refine ⟨out (fun x y z hp => ?_) k, out (fun x y z hp => ?_) k, out (fun x y z hp => ?_) k, out (fun x y z hp => ?_) k, out (fun x y z hp => ?_) k, out (fun x y z hp => ?_) k⟩ <;> (unfold pin at hp ⊢; unfold nrp) <;> simp only [v1z, v1y, w3f, w3e, x7l, x7k] at hp <;> omega
theorem y0k {r : R6} (hr : bdd r) {x y z D : Int} (hD : 0 ≤ D) (hx : -1000000000 ≤ x ∧ x ≤ 1000000000) (hy : -1000000000 ≤ y ∧ y ≤ 1000000000) (hz : -1000000000 ≤ z ∧ z ≤ 1000000000) : w6w x y z r ≤ D ↔ nrp r D x y z := by
 obtain ⟨h1, h2, h3, h4, h5, h6⟩ := hr
 unfold w6w nrp
 rw [Zj (n := r.a - x) (by omega), Zj (n := x - r.d) (by omega), Zj (n := x - r.d + 1) (by omega), Zj (n := r.b - y) (by omega), Zj (n := y - r.e) (by omega), Zj (n := y - r.e + 1) (by omega), Zj (n := r.c - z) (by omega), Zj (n := z - r.f) (by omega), Zj (n := z - r.f + 1) (by omega)]
 simp only [w1e]
 omega
theorem w1l {x y z m : Int} : ∀ (l : List R6) (d : Int), v1r x y z l d ≤ m ↔ d ≤ m ∨ ∃ c ∈ l, w6w x y z c ≤ m
 | [], d => by unfold v1r; simp
 | r :: l, d => by
  unfold v1r
  rw [w1l l, v5h]
  constructor
  ·rintro ((h | h) | ⟨c, hc, h⟩)
   ·exact .inl h
   ·exact .inr ⟨r, List.mem_cons_self .., h⟩
   ·exact .inr ⟨c, List.mem_cons_of_mem _ hc, h⟩
  ·rintro (h | ⟨c, hc, h⟩)
   ·exact .inl (.inl h)
   ·rcases List.mem_cons.1 hc with rfl | hc
    ·exact .inl (.inr h)
    ·exact .inr ⟨c, hc, h⟩
theorem y4g {x y z m : Int} {L : List R6} (hL : L ≠ []) : y8c x y z L ≤ m ↔ ∃ c ∈ L, w6w x y z c ≤ m := by
 cases L with
 | nil => exact absurd rfl hL
 | cons r l =>
  have e : y8c x y z (r :: l) = v1r x y z l (w6w x y z r) := rfl
  rw [e, w1l]
  constructor
  ·rintro (h | ⟨c, hc, h⟩)
   ·exact ⟨r, List.mem_cons_self .., h⟩
   ·exact ⟨c, List.mem_cons_of_mem _ hc, h⟩
  ·rintro ⟨c, hc, h⟩
   rcases List.mem_cons.1 hc with rfl | hc
   ·exact .inl h
   ·exact .inr ⟨c, hc, h⟩
theorem x3h {g : Int → Int → Int} {m : Int} {p : Int → Prop} (hg : ∀ z d, g z d ≤ m ↔ d ≤ m ∧ p z) : ∀ (n : Nat) (z d : Int), lpI g n z d ≤ m ↔ d ≤ m ∧ ∀ k, z ≤ k → k < z + n → p k
 | 0, z, d => by
  unfold lpI
  exact ⟨fun h => ⟨h, fun k h1 h2 => by omega⟩, fun h => h.1⟩
 | n + 1, z, d => by
  unfold lpI
  rw [x3h hg n, hg]
  constructor
  ·rintro ⟨⟨h1, h2⟩, h3⟩
   refine ⟨h1, fun k hk hk' => ?_⟩
   by_cases e : k = z
   ·subst e; exact h2
   ·exact h3 k (by omega) (by omega)
  ·rintro ⟨h1, h2⟩
   exact ⟨⟨h1, h2 z (Int.le_refl _) (by omega)⟩, fun k hk hk' => h2 k (by omega) (by omega)⟩
theorem rgX_le {L1 : List R6} {r : R6} {d m : Int} : rgX L1 r d ≤ m ↔ d ≤ m ∧ ∀ x y z, pin r x y z → y8c x y z L1 ≤ m := by
 have hz : ∀ x y d, rgZ L1 r x y d ≤ m ↔ d ≤ m ∧ ∀ z, r.c ≤ z → z < r.f → y8c x y z L1 ≤ m := fun x y d => by
  unfold rgZ
  rw [x3h (p := fun z => y8c x y z L1 ≤ m) (fun z d => w1e)]
  exact and_congr_right fun _ => ⟨fun h k h1 h2 => h k h1 (by omega), fun h k h1 h2 => h k h1 (by omega)⟩
 have hy : ∀ x d, rgY L1 r x d ≤ m ↔ d ≤ m ∧ ∀ y, r.b ≤ y → y < r.e → ∀ z, r.c ≤ z → z < r.f → y8c x y z L1 ≤ m := fun x d => by
  unfold rgY
  rw [x3h (p := fun y => ∀ z, r.c ≤ z → z < r.f → y8c x y z L1 ≤ m) (fun y d => hz x y d)]
  exact and_congr_right fun _ => ⟨fun h k h1 h2 => h k h1 (by omega), fun h k h1 h2 => h k h1 (by omega)⟩
 unfold rgX
 rw [x3h (p := fun x => ∀ y, r.b ≤ y → y < r.e → ∀ z, r.c ≤ z → z < r.f → y8c x y z L1 ≤ m) (fun x d => hy x d)]
 exact and_congr_right fun _ => ⟨fun h x y z ⟨p1, p2, p3⟩ => h x p1.1 (by omega) y p2.1 p2.2 z p3.1 p3.2, fun h x h1 h2 y h3 h4 z h5 h6 => h x y z ⟨⟨h1, by omega⟩, ⟨h3, h4⟩, h5, h6⟩⟩
theorem x8u {L1 : List R6} {m : Int} : ∀ (L0 : List R6) (d : Int), rrcF L1 L0 d ≤ m ↔ d ≤ m ∧ ∀ r ∈ L0, ∀ x y z, pin r x y z → y8c x y z L1 ≤ m
 | [], d => by
  unfold rrcF
  exact ⟨fun h => ⟨h, fun r hr => by cases hr⟩, fun h => h.1⟩
 | r :: l, d => by
  unfold rrcF
  rw [x8u l, rgX_le]
  constructor
  ·rintro ⟨⟨h1, h2⟩, h3⟩
   refine ⟨h1, fun q hq => ?_⟩
   rcases List.mem_cons.1 hq with rfl | hq
   ·exact h2
   ·exact h3 q hq
  ·rintro ⟨h1, h2⟩
   exact ⟨⟨h1, h2 r (List.mem_cons_self ..)⟩, fun q hq => h2 q (List.mem_cons_of_mem _ hq)⟩
theorem z5r {L0 L1 : List R6} {m : Int} : x7g L0 L1 ≤ m ↔ 0 ≤ m ∧ ∀ r ∈ L0, ∀ x y z, pin r x y z → y8c x y z L1 ≤ m := x8u L0 0
theorem Qs {r : R6} (h : Ja r = true) : bdd r := by
 obtain ⟨h1, h2, h3, h4, h5, h6, h7, h8, h9⟩ := Wo h
 unfold bdd; omega
theorem w8w {r : R6} (h : Ja r = true) : z4w r = false := by
 obtain ⟨h1, h2, h3, _⟩ := Wo h
 exact z2h.2 ⟨h1, h2, h3⟩
theorem w8p {L0 L1 : List R6} (h0 : ∀ r ∈ L0, Ja r = true) (h1 : ∀ r ∈ L1, Ja r = true) (hne : L0 = [] ∨ L1 ≠ []) {d : Int} (hd : 0 ≤ d ∧ d ≤ 1000000000) : v2k L1 d L0 = true ↔ x7g L0 L1 ≤ d := by
 rw [z5r]
 unfold v2k
 rw [List.all_eq_true]
 constructor
 ·intro h
  refine ⟨hd.1, fun r hr x y z hp => ?_⟩
  have hL : L1 ≠ [] := by
   rcases hne with e | e
   ·subst e; cases hr
   ·exact e
  obtain ⟨c, hc, q⟩ := (z8u hd L1 r (Qs (h0 r hr)) (w8w (h0 r hr)) fun c hc => Qs (h1 c hc)).1 (h r hr) x y z hp
  obtain ⟨v1, v2, v3, v4, v5, v6, v7, v8, v9⟩ := Wo (h0 r hr)
  obtain ⟨p1, p2, p3⟩ := hp
  exact (y4g hL).2 ⟨c, hc, (y0k (Qs (h1 c hc)) hd.1 (by omega) (by omega) (by omega)).2 q⟩
 ·rintro ⟨_, h⟩ r hr
  refine (z8u hd L1 ⟨r.a, r.b, r.c, r.d, r.e, r.f⟩ (Qs (h0 r hr)) (w8w (h0 r hr)) fun c hc => Qs (h1 c hc)).2 fun x y z hp => ?_
  have hL : L1 ≠ [] := by
   rcases hne with e | e
   ·subst e; cases hr
   ·exact e
  obtain ⟨c, hc, q⟩ := (y4g hL).1 (h r hr x y z hp)
  obtain ⟨v1, v2, v3, v4, v5, v6, v7, v8, v9⟩ := Wo (h0 r hr)
  obtain ⟨p1, p2, p3⟩ := hp
  simp only at p1 p2 p3
  exact ⟨c, hc, (y0k (Qs (h1 c hc)) hd.1 (by omega) (by omega) (by omega)).1 q⟩
theorem x8t {L0 L1 : List R6} (h0 : ∀ r ∈ L0, Ja r = true) (h1 : ∀ r ∈ L1, Ja r = true) (hne : L0 = [] ∨ L1 ≠ []) : 0 ≤ x7g L0 L1 ∧ x7g L0 L1 ≤ 1999999 := by
 refine ⟨(z5r.1 (Int.le_refl _)).1, z5r.2 ⟨by omega, fun r hr x y z hp => ?_⟩⟩
 have hL : L1 ≠ [] := by
  rcases hne with e | e
  ·subst e; cases hr
  ·exact e
 obtain ⟨c, hc⟩ := List.exists_mem_of_ne_nil L1 hL
 obtain ⟨v1, v2, v3, v4, v5, v6, v7, v8, v9⟩ := Wo (h0 r hr)
 obtain ⟨w1, w2, w3, w4, w5, w6, w7, w8, w9⟩ := Wo (h1 c hc)
 obtain ⟨p1, p2, p3⟩ := hp
 refine (y4g hL).2 ⟨c, hc, (y0k (Qs (h1 c hc)) (by omega) (by omega) (by omega) (by omega)).2 ?_⟩
 unfold nrp; omega
theorem y8o {F : Int → Bool} {R : Int} (hF : ∀ d, 0 ≤ d → d < 2000000 → (F d = true ↔ R ≤ d)) : ∀ (n : Nat) (i j : Int), 0 ≤ i → i ≤ R → R ≤ j → j ≤ 2000000 → j - i < 2 ^ n → w2y F n i j = R
 | 0, i, j, h1, h2, h3, h4, h5 => by unfold w2y; simp at h5; omega
 | n + 1, i, j, h1, h2, h3, h4, h5 => by
  have hp : (2 : Int) ^ (n + 1) = 2 * 2 ^ n := by rw [Int.pow_succ, Int.mul_comm]
  rw [hp] at h5
  generalize hP : (2 : Int) ^ n = p at h5
  unfold w2y
  by_cases hlt : i < j
  ·rw [Zo hlt, cond_true]
   rcases Ya (F ((i + j) / 2)) with q | q
   ·rw [q, cond_true]
    have := (hF ((i + j) / 2) (by omega) (by omega)).1 q
    exact y8o hF n i _ h1 h2 this (by omega) (by rw [hP]; omega)
   ·rw [q, cond_false]
    have : ¬ R ≤ (i + j) / 2 := fun e => by rw [(hF _ (by omega) (by omega)).2 e] at q; cases q
    exact y8o hF n _ j (by omega) (by omega) h3 h4 (by rw [hP]; omega)
  ·rw [Zs hlt, cond_false]; omega
theorem v0k {L0 L1 : List R6} (h0 : ∀ r ∈ L0, Ja r = true) (h1 : ∀ r ∈ L1, Ja r = true) (hne : L0 = [] ∨ L1 ≠ []) : x2x L0 L1 = x7g L0 L1 := by
 obtain ⟨m1, m2⟩ := x8t h0 h1 hne
 exact y8o (fun d hd hd' => w8p h0 h1 hne ⟨hd, by omega⟩) 22 0 2000000 (Int.le_refl _) m1 (by omega) (Int.le_refl _) (by decide)
end Go.Am
namespace Go.Am
open Go.Proofs Go.Sort Go.Shelf Go.RowKit Go.Lib
namespace Dim
variable {α β : Type} {D : Dim α β}
theorem v5e (hD : D.Fair) (s : List β) (a b x : Int) : D.inn (s.map (D.put a b)) x = if a ≤ x ∧ x < b then s else [] := by
 unfold inn
 have e : (s.map (D.put a b)).filter (fun r => decide (D.lo r ≤ x) && decide (x < D.hi r)) = if a ≤ x ∧ x < b then s.map (D.put a b) else [] := by
  split
  ·rename_i h
   refine List.filter_eq_self.2 fun r hr => ?_
   obtain ⟨c, _, rfl⟩ := List.mem_map.1 hr
   rw [hD.lo_put, hD.hi_put, decide_eq_true h.1, decide_eq_true h.2]; rfl
  ·rename_i h
   refine List.filter_eq_nil_iff.2 fun r hr hq => h ?_
   obtain ⟨c, _, rfl⟩ := List.mem_map.1 hr
   rw [hD.lo_put, hD.hi_put, Bool.and_eq_true] at hq
   exact ⟨of_decide_eq_true hq.1, of_decide_eq_true hq.2⟩
 rw [e]
 split
 ·rw [List.map_map]
  exact (List.map_congr_left fun c _ => hD.pr_put a b c).trans (List.map_id _)
 ·rfl
theorem inn_can (hD : D.Fair) {γ : Type} (M : Sem β γ) (x : Int) : ∀ G : List (Qj β), z1e M G → M.can (D.inn (D.flat G) x)
 | [], _ => M.nil
 | g :: r, h => by
  rw [show D.flat (g :: r) = g.s.map (D.put g.a g.b) ++ D.flat r from rfl, D.inn_append, v5e hD]
  split
  ·rename_i hx
   have e : D.inn (D.flat r) x = [] := by
    unfold inn
    rw [List.map_eq_nil_iff, List.filter_eq_nil_iff]
    intro a ha hq
    obtain ⟨k, hk, ha⟩ := List.mem_flatMap.1 ha
    obtain ⟨c, _, rfl⟩ := List.mem_map.1 ha
    rw [hD.lo_put, Bool.and_eq_true] at hq
    have h1 := of_decide_eq_true hq.1
    have := h.later k hk
    omega
   rw [e, List.append_nil]
   exact h.head.2.1
  ·rw [List.nil_append]
   exact inn_can hD M x r h.tail
end Dim
theorem w3r {L : List R6} (hl : L.length ≤ 400) (hv : ∀ r ∈ L, Ja r = true) (hc : v3h.can L) : Yg L = 0 := by
 have hi : ∀ z, D4.out (D6.inn L z) = D6.inn L z := fun z => by
  obtain ⟨h1, h2⟩ := x9f (y4t hv z) (Nat.le_trans (D6.inn_length L z) hl)
  obtain ⟨G, hG, e⟩ := hc
  exact x2j.uniq _ _ h1 (by rw [e]; exact Dim.inn_can y5g x2j z G hG) h2
 have hs : Secs L := fun z => by rw [hi z]; exact Nat.le_trans (D6.inn_length L z) hl
 obtain ⟨h1, h2⟩ := v2y hv hl hs
 have e := v3h.uniq _ _ h1 hc h2
 have ok : ∀ k i, okF L k i = true := fun k => by
  induction k with
  | zero => intro i; rfl
  | succ k ih =>
   intro i
   show (bif Uc (D6.inn L (rd (D6.cuts L) i)) != 0 then false else okF L k (i + 1)) = true
   rw [(x2s (y4t hv _) (Nat.le_trans (D6.inn_length L _) hl) (hs _)).2]
   exact ih (i + 1)
 unfold Yg
 rw [decide_eq_false (by omega), List.all_eq_true.2 hv, ok, e, decide_eq_false (by omega), show Ur L L = true from decide_eq_true rfl]
 rfl
end Go.Am
namespace Go.Am
section
variable {P : Program} {w : World} {base : Nat}
theorem w8k {u : TypeId} {k : IntKind} {v : Value} (hu : P.underlying u = some (.int k)) (h : Cell.okWide P w .any base u v) : ∃ n, v = .int k n ∧ k.has n = true := by
 simp only [Cell.okWide, hu] at h
 cases v <;> simp_all [Cell.ok]
theorem x2q : ∀ (us : List TypeId) (ks : List IntKind) (cs : List Value), cs.length = us.length → us.map P.underlying = ks.map (fun k => some (.int k)) →
  (∀ (i : Nat) (v : Value), cs[i]? = some v → ∃ u, us[i]? = some u ∧ Cell.okWide P w .any base u v) →
  ∃ ns : List Int, ns.length = ks.length ∧ cs = List.zipWith Value.int ks ns ∧ ∀ p ∈ List.zip ks ns, p.1.has p.2 = true
 | [], [], [], _, _, _ => ⟨[], rfl, rfl, fun p hp => by cases hp⟩
 | u :: us, k :: ks, c :: cs, hl, hk, h => by
  simp only [List.map_cons, List.cons.injEq] at hk
  obtain ⟨u', hu', hc⟩ := h 0 c rfl
  obtain rfl : u = u' := Option.some.inj hu'
  obtain ⟨n, rfl, hn⟩ := w8k hk.1 hc
  obtain ⟨ns, h1, h2, h3⟩ := x2q us ks cs (by simpa using hl) hk.2 fun i v hi => h (i + 1) v hi
  refine ⟨n :: ns, by simp [h1], by rw [h2]; rfl, fun p hp => ?_⟩
  rw [List.zip_cons_cons, List.mem_cons] at hp
  rcases hp with rfl | hp
  ·exact hn
  ·exact h3 p hp
 | [], _ :: _, _, _, hk, _ => by simp at hk
 | _ :: _, [], _, _, hk, _ => by simp at hk
 | _ :: _, _ :: _, [], hl, _, _ => by simp at hl
 | [], [], _ :: _, hl, _, _ => by simp at hl
def aggT (P : Program) (t : TypeId) : Bool := match P.underlying t with | some (.struct _) | some (.array _ _) => true | _ => false
theorem open_agg_ints {t : TypeId} {us : List TypeId} {ks : List IntKind} {v : Value} (hs : aggT P t = true) (hc : P.cellTypes P.depth t = some us) (hn : P.cellsOf t = us.length)
  (hk : us.map P.underlying = ks.map (fun k => some (.int k))) (hv : Value.okWide P w .any base t v) :
  ∃ ns : List Int, ns.length = ks.length ∧ v = .agg (List.zipWith Value.int ks ns).toArray ∧ ∀ p ∈ List.zip ks ns, p.1.has p.2 = true := by
 have h : ∃ cs, v = .agg cs ∧ cs.size = P.cellsOf t ∧ Row.okWide P w .any base t cs := by
  unfold Value.okWide at hv
  unfold aggT at hs
  split at hv
  ·exact hv
  ·exact hv
  ·rename_i h1 h2
   split at hs
   ·rename_i fs h; exact absurd h (h1 fs)
   ·rename_i a b h; exact absurd h (h2 a b)
   ·cases hs
 obtain ⟨cs, rfl, hsz, ts, hts, _, hrow⟩ := h
 obtain rfl : us = ts := Option.some.inj (hc.symm.trans hts)
 have hl : cs.toList.length = us.length := by simpa using hsz.trans hn
 obtain ⟨ns, h1, h2, h3⟩ := x2q us ks cs.toList hl hk fun i v hi => by
  have hi' : cs[i]? = some v := by simpa using hi
  obtain ⟨u, hu, hc⟩ := hrow i v hi'
  have hlt : i < us.length := by
   have := (Array.getElem?_eq_some_iff.mp hi').1
   simpa [← hl] using this
  rw [Nat.mod_eq_of_lt hlt] at hu
  exact ⟨u, hu, hc⟩
 exact ⟨ns, h1, by rw [← h2], h3⟩
theorem vrel_ints {ρ : Rho} (ks : List IntKind) (ns : List Int) : VRel ρ (.agg (List.zipWith AVal.int ks ns)) (.agg (List.zipWith Value.int ks ns).toArray) := by
 refine .agg _ _ (by simp) fun i h1 h2 => ?_
 simp only [List.getElem_zipWith, List.getElem_toArray]
 exact .int _ _
end
end Go.Am
namespace Go.Am
open Go.Proofs Go.Sort Go.Shelf Go.RowKit Go.Lib
theorem v1s {L : List R6} (h : w3b L = true) : L.length ≤ 6 ∧ Yg L = 0 ∧ ∀ r ∈ L, Ja r = true := by
 simp only [w3b, Bool.and_eq_true, decide_eq_true_eq] at h
 have hk := x8e (eq_of_beq h.2.2)
 exact ⟨by omega, hk, (z0c hk).2.1⟩
theorem len_ne {L : List R6} (h : ((L.length : Int) == 0) = false) : L ≠ [] := fun e => by subst e; cases h
theorem x3x {L M : List R6} (hL : Yg L = 0) (hM : Yg M = 0) (lL : L.length ≤ 40) (lM : M.length ≤ 40) (nM : M ≠ []) : eRe Yg L M = 0 := by
 have l1 : 0 < M.length := List.length_pos_iff.2 nM
 unfold eRe
 rw [hL, hM, beq_f' (show (M.length : Int) ≠ 0 by omega), Bool.and_false, Xz (show ¬ (L.length : Int) > 40 by omega), Xz (show ¬ (M.length : Int) > 40 by omega)]; rfl
def hld (h c : R6) : Prop := (h.a ≤ c.a ∧ c.d ≤ h.d) ∧ (h.b ≤ c.b ∧ c.e ≤ h.e) ∧ h.c ≤ c.c ∧ c.f ≤ h.f
theorem w5c {L : List R6} (h : y3s L = true) (hl : L.length ≤ 400) : L.length ≤ 6 ∧ ∀ c ∈ L, hld ⟨-12, -12, -12, 12, 12, 12⟩ c := by
 unfold y3s at h
 rw [Xz (by omega), cond_false, Bool.and_eq_true, List.all_eq_true] at h
 refine ⟨by have := of_decide_eq_true h.2; omega, fun c hc => ?_⟩
 have := h.1 c hc
 simp only [w5g, Bool.and_eq_true, Bool.not_eq_true', decide_eq_false_iff_not] at this
 obtain ⟨h1, h2, _⟩ := this
 have i1 := z4n c.a c.b
 have i2 := z4n (Uw c.a c.b) c.c
 have i3 := z4o c.d c.e
 have i4 := z4o (Wg c.d c.e) c.f
 unfold hld
 dsimp only
 omega
theorem x9z {B : R6} (h : Ja B = true) : Yg [B] = 0 := by
 have v := Wo h
 have c1 : w2z.can [(⟨B.b, B.e⟩ : R2)] := by
  refine ⟨fun s hs => ?_, List.pairwise_singleton _ _⟩
  rw [List.mem_singleton.1 hs]
  exact v.2.1
 have c2 : x2j.can [(⟨B.a, B.b, B.d, B.e⟩ : R4)] := ⟨[⟨B.a, B.d, [⟨B.b, B.e⟩]⟩], .one _ ⟨v.1, c1, List.cons_ne_nil _ _⟩, rfl⟩
 have c3 : v3h.can [B] := ⟨[⟨B.c, B.f, [⟨B.a, B.b, B.d, B.e⟩]⟩], .one _ ⟨v.2.2.1, c2, List.cons_ne_nil _ _⟩, rfl⟩
 exact w3r (by simp) (fun r hr => by rw [List.mem_singleton.1 hr]; exact h) c3
theorem far_sh {h : R6} (hv : Ja h = true) (hb : hld ⟨-12, -12, -12, 12, 12, 12⟩ h) {k c0 c1 c2 : Int} (hk : 0 ≤ k ∧ k ≤ 100)
  (hc : (c0 = 1 ∧ c1 = 0 ∧ c2 = 0) ∨ (c0 = -1 ∧ c1 = 0 ∧ c2 = 0) ∨ (c0 = 0 ∧ c1 = 1 ∧ c2 = 0) ∨ (c0 = 0 ∧ c1 = -1 ∧ c2 = 0) ∨ (c0 = 0 ∧ c1 = 0 ∧ c2 = 1) ∨ (c0 = 0 ∧ c1 = 0 ∧ c2 = -1)) :
  Vo [⟨h.a + k * c0, h.b + k * c1, h.c + k * c2, h.d + k * c0, h.e + k * c1, h.f + k * c2⟩] [h] = 0 ∧ Wv [⟨h.a + k * c0, h.b + k * c1, h.c + k * c2, h.d + k * c0, h.e + k * c1, h.f + k * c2⟩] [h] = k := by
 have v := Wo hv
 unfold hld at hb
 dsimp only at hb
 obtain ⟨s, t, u, es, et, eu, hst⟩ : ∃ s t u : Int, k * c0 = s ∧ k * c1 = t ∧ k * c2 = u ∧ ((-k ≤ s ∧ s ≤ k) ∧ (-k ≤ t ∧ t ≤ k) ∧ (-k ≤ u ∧ u ≤ k)) ∧ ((s = k ∨ s = -k) ∨ (t = k ∨ t = -k) ∨ (u = k ∨ u = -k)) := by
  refine ⟨_, _, _, rfl, rfl, rfl, ?_⟩
  rcases hc with ⟨rfl, rfl, rfl⟩ | ⟨rfl, rfl, rfl⟩ | ⟨rfl, rfl, rfl⟩ | ⟨rfl, rfl, rfl⟩ | ⟨rfl, rfl, rfl⟩ | ⟨rfl, rfl, rfl⟩ <;> omega
 rw [es, et, eu]
 have hm : Ja ⟨h.a + s, h.b + t, h.c + u, h.d + s, h.e + t, h.f + u⟩ = true := by
  rw [y5o]
  unfold y8j
  dsimp only
  simp only [Bool.and_eq_true, decide_eq_true_eq]
  omega
 have e1 := x3x (x9z hm) (x9z hv) (by simp) (by simp) (List.cons_ne_nil h [])
 have hM : ∀ r ∈ [(⟨h.a + s, h.b + t, h.c + u, h.d + s, h.e + t, h.f + u⟩ : R6)], Ja r = true := fun r hr => by rw [List.mem_singleton.1 hr]; exact hm
 have hH : ∀ r ∈ [h], Ja r = true := fun r hr => by rw [List.mem_singleton.1 hr]; exact hv
 have e2 : Wv [⟨h.a + s, h.b + t, h.c + u, h.d + s, h.e + t, h.f + u⟩] [h] = x7g [⟨h.a + s, h.b + t, h.c + u, h.d + s, h.e + t, h.f + u⟩] [h] := by
  unfold Wv
  rw [e1]
  exact v0k hM hH (.inr (List.cons_ne_nil _ _))
 refine ⟨e1, ?_⟩
 rw [e2]
 have fr : ∀ m x y z : Int, 0 ≤ m → (-1000 ≤ x ∧ x ≤ 1000) → (-1000 ≤ y ∧ y ≤ 1000) → (-1000 ≤ z ∧ z ≤ 1000) → (y8c x y z [h] ≤ m ↔ nrp h m x y z) := fun m x y z hm0 hx hy hz => by
  rw [y4g (List.cons_ne_nil _ _)]
  constructor
  ·rintro ⟨c, hc', q⟩
   rw [List.mem_singleton.1 hc'] at q
   exact (y0k (Qs hv) hm0 (by omega) (by omega) (by omega)).1 q
  ·intro q
   exact ⟨h, List.mem_singleton_self _, (y0k (Qs hv) hm0 (by omega) (by omega) (by omega)).2 q⟩
 have le : x7g [⟨h.a + s, h.b + t, h.c + u, h.d + s, h.e + t, h.f + u⟩] [h] ≤ k := by
  refine z5r.2 ⟨hk.1, fun r hr x y z p => ?_⟩
  rw [List.mem_singleton.1 hr] at p
  obtain ⟨p1, p2, p3⟩ := p
  dsimp only at p1 p2 p3
  refine (fr k x y z hk.1 (by omega) (by omega) (by omega)).2 ⟨?_, ?_, ?_⟩ <;> omega
 have ge := (z5r (L0 := [⟨h.a + s, h.b + t, h.c + u, h.d + s, h.e + t, h.f + u⟩]) (L1 := [h]) (m := x7g [⟨h.a + s, h.b + t, h.c + u, h.d + s, h.e + t, h.f + u⟩] [h])).1 (Int.le_refl _)
 obtain ⟨g0, g1⟩ := ge
 generalize x7g [⟨h.a + s, h.b + t, h.c + u, h.d + s, h.e + t, h.f + u⟩] [h] = R at *
 have top := g1 _ (List.mem_singleton_self _) (h.d + s - 1) (h.e + t - 1) (h.f + u - 1) ⟨by dsimp only; omega, by dsimp only; omega, by dsimp only; omega⟩
 have bot := g1 _ (List.mem_singleton_self _) (h.a + s) (h.b + t) (h.c + u) ⟨by dsimp only; omega, by dsimp only; omega, by dsimp only; omega⟩
 have top := (fr R _ _ _ g0 (by omega) (by omega) (by omega)).1 top
 have bot := (fr R _ _ _ g0 (by omega) (by omega) (by omega)).1 bot
 obtain ⟨t1, t2, t3⟩ := top
 obtain ⟨b1, b2, b3⟩ := bot
 omega
theorem wsh {a k c : Int} (ha : -1000 ≤ a ∧ a ≤ 1000) (hk : 0 ≤ k ∧ k ≤ 100) (hc : c = 0 ∨ c = 1 ∨ c = -1) : IntKind.wrap .i64 (a + IntKind.wrap .i64 (k * c)) = a + k * c := by
 have h1 : IntKind.wrap .i64 (k * c) = k * c := Zj (by rcases hc with rfl | rfl | rfl <;> omega)
 rw [h1, Zj (by rcases hc with rfl | rfl | rfl <;> omega)]
section
variable {p q : List R6} {v0 v1 v2 x3 k : Int} (hk : 0 ≤ k ∧ k ≤ 100) (hq : q.length ≤ 6)
include hk hq
theorem v7h {h : R6} (hv : Ja h = true) (hb : hld ⟨-12, -12, -12, 12, 12, 12⟩ h) : Yv (z3k p q v0 v1 v2 x3 k) 1 (.to (.h0 (q.length : Int) h.a h.b h.c h.d h.e h.f)) = .ret [.bool true] := by
 have _u := hq
 have v := Wo hv
 have hb' := hb
 unfold hld at hb'
 dsimp only at hb'
 have one : ∀ c0 c1 c2 : Int, ((c0 = 1 ∧ c1 = 0 ∧ c2 = 0) ∨ (c0 = -1 ∧ c1 = 0 ∧ c2 = 0) ∨ (c0 = 0 ∧ c1 = 1 ∧ c2 = 0) ∨ (c0 = 0 ∧ c1 = -1 ∧ c2 = 0) ∨ (c0 = 0 ∧ c1 = 0 ∧ c2 = 1) ∨ (c0 = 0 ∧ c1 = 0 ∧ c2 = -1)) →
   Vo ([(R6.mk (IntKind.wrap .i64 (h.a + IntKind.wrap .i64 (k * c0))) (IntKind.wrap .i64 (h.b + IntKind.wrap .i64 (k * c1))) (IntKind.wrap .i64 (h.c + IntKind.wrap .i64 (k * c2))) (IntKind.wrap .i64 (h.d + IntKind.wrap .i64 (k * c0))) (IntKind.wrap .i64 (h.e + IntKind.wrap .i64 (k * c1))) (IntKind.wrap .i64 (h.f + IntKind.wrap .i64 (k * c2))))] : List R6) ([(R6.mk h.a h.b h.c h.d h.e h.f)] : List R6) = 0 ∧
   Wv ([(R6.mk (IntKind.wrap .i64 (h.a + IntKind.wrap .i64 (k * c0))) (IntKind.wrap .i64 (h.b + IntKind.wrap .i64 (k * c1))) (IntKind.wrap .i64 (h.c + IntKind.wrap .i64 (k * c2))) (IntKind.wrap .i64 (h.d + IntKind.wrap .i64 (k * c0))) (IntKind.wrap .i64 (h.e + IntKind.wrap .i64 (k * c1))) (IntKind.wrap .i64 (h.f + IntKind.wrap .i64 (k * c2))))] : List R6) ([(R6.mk h.a h.b h.c h.d h.e h.f)] : List R6) = k := fun c0 c1 c2 hc => by
  rw [wsh (by omega) hk (by omega), wsh (by omega) hk (by omega), wsh (by omega) hk (by omega), wsh (by omega) hk (by omega), wsh (by omega) hk (by omega), wsh (by omega) hk (by omega)]
  exact far_sh hv hb hk hc
 have a1 := one 1 0 0 (by omega)
 have a2 := one (-1) 0 0 (by omega)
 have a3 := one 0 1 0 (by omega)
 have a4 := one 0 (-1) 0 (by omega)
 have a5 := one 0 0 1 (by omega)
 have a6 := one 0 0 (-1) (by omega)
 rw [show (1 : Nat) = 0 + 1 from rfl, Zv]
 unfold z3k
 simp only [Zs (show ¬ (q.length : Int) < (q.length : Int) by omega), cond_false, show ∀ l m, Wc l m = true from fun _ _ => rfl, cond_true, a1.1, a1.2, a2.1, a2.2, a3.1, a3.2, a4.1, a4.2, a5.1, a5.2, a6.1, a6.2, beq_self_eq_true]
 cases (Int.tmod (IntKind.wrap .i64 x3) 2 == 1) <;> cases decide (IntKind.wrap .i64 x3 < 2) <;> cases decide (IntKind.wrap .i64 x3 < 4) <;> rfl
theorem v1x (hv : ∀ r ∈ q, Ja r = true) (hb : ∀ r ∈ q, hld ⟨-12, -12, -12, 12, 12, 12⟩ r) : ∀ (n i : Nat) (g : R6), i + n = q.length → Ja g = true → hld ⟨-12, -12, -12, 12, 12, 12⟩ g → ∃ N, Yv (z3k p q v0 v1 v2 x3 k) N (.to (.h0 (i : Int) g.a g.b g.c g.d g.e g.f)) = .ret [.bool true]
 | 0, i, g, e, h1, h2 => ⟨1, by
  rw [show i = q.length by omega]
  exact v7h hk hq h1 h2⟩
 | n + 1, i, g, e, h1, h2 => by
  have hi : i < q.length := by omega
  have hw : IntKind.wrap .i64 ((i : Int) + 1) = ((i + 1 : Nat) : Int) := Zj (by omega)
  have hm : rd q i ∈ q := by rw [Xe hi]; exact List.getElem_mem hi
  have k1 := hv _ hm
  have k2 := hb _ hm
  have w1 := Wo h1
  have w2 := Wo k1
  have e1 := z4n g.a (rd q i).a
  have e2 := z4n g.b (rd q i).b
  have e3 := z4n g.c (rd q i).c
  have e4 := z4o g.d (rd q i).d
  have e5 := z4o g.e (rd q i).e
  have e6 := z4o g.f (rd q i).f
  unfold hld at h2 k2
  dsimp only at h2 k2
  obtain ⟨N, hN⟩ := v1x hv hb n (i + 1) ⟨Uw g.a (rd q i).a, Uw g.b (rd q i).b, Uw g.c (rd q i).c, Wg g.d (rd q i).d, Wg g.e (rd q i).e, Wg g.f (rd q i).f⟩ (by omega) (by
   rw [y5o]
   unfold y8j
   dsimp only
   simp only [Bool.and_eq_true, decide_eq_true_eq]
   omega) (by unfold hld; dsimp only; omega)
  refine ⟨N + 1, ?_⟩
  rw [Zv]
  simp (disch := omega) only [z3k, Zo, Zt, Zq, hw, Bool.and_true, cond_true]
  exact hN
end
theorem w6m {L : List R6} {x y z : Int} (h : x6a L x y z = true) : inS L x y z := by
 unfold x6a at h
 obtain ⟨r, hr, h⟩ := List.any_eq_true.1 h
 simp only [haR, Bool.and_eq_true, decide_eq_true_eq] at h
 exact ⟨r, hr, by omega, by omega, by omega⟩
theorem dfr_run (p q : List R6) (v0 v1 v2 x3 k : Int) : ∃ N, Yv (z3k p q v0 v1 v2 x3 k) N (z8s p q v0 v1 v2 x3 k) = .ret [.bool true] := by
 unfold z8s
 simp only [Zb, show ∀ l, z1o l = true from fun _ => rfl, show ∀ l m, Wc l m = true from fun _ _ => rfl, show ∀ l, Wf l = true from fun _ => rfl, cond_true]
 rcases (Ya (w3b p)).symm with fp | fp
 ·exact ⟨0, by rw [fp]; rfl⟩
 rcases (Ya (w3b q)).symm with fq | fq
 ·exact ⟨0, by rw [fp, fq]; rfl⟩
 rcases Ya ((q.length : Int) == 0) with nq | nq
 ·exact ⟨0, by rw [fp, fq, nq]; rfl⟩
 rcases Ya (decide (x3 > 5)) with c3 | c3
 ·exact ⟨0, by rw [fp, fq, nq, c3]; rfl⟩
 rcases Ya (decide (k < 0)) with c4 | c4
 ·exact ⟨0, by rw [fp, fq, nq, c3, c4]; rfl⟩
 rcases Ya (decide (k > 100)) with c5 | c5
 ·exact ⟨0, by rw [fp, fq, nq, c3, c4, c5]; rfl⟩
 have hk : 0 ≤ k ∧ k ≤ 100 := by
  have := of_decide_eq_false c4
  have := of_decide_eq_false c5
  omega
 obtain ⟨p1, p2, p3⟩ := v1s fp
 obtain ⟨q1, q2, q3⟩ := v1s fq
 have hne := len_ne nq
 have hnq : y3s q = true := by
  simp only [w3b, Bool.and_eq_true] at fq
  exact fq.2.1
 obtain ⟨_, hb⟩ := w5c hnq (by omega)
 have e1 : Vo p q = 0 := x3x p2 q2 (by omega) (by omega) hne
 have e2 : Wv p q = x7g p q := by
  unfold Wv
  rw [show eRe Yg p q = 0 from e1]
  exact v0k p3 q3 (.inr hne)
 have fR := List.length_pos_iff.2 hne
 have hm : rd q 0 ∈ q := by rw [Xe fR]; exact List.getElem_mem fR
 obtain ⟨N, hN⟩ := v1x (p := p) (v0 := v0) (v1 := v1) (v2 := v2) (x3 := x3) hk q1 q3 hb q.length 0 (rd q 0) (Nat.zero_add _) (q3 _ hm) (hb _ hm)
 rw [Qn] at hN
 have w1 : z2f p v0 v1 v2 = true := decide_eq_true (by omega)
 have w2 : Qe v0 v1 v2 q = true := by unfold Qe; rw [Yw fR, Yz (show q.length ≤ 100000 by omega)]; rfl
 refine ⟨N, ?_⟩
 rw [fp, fq, nq, c3, c4, c5, e1, w1, w2, q2]
 simp (disch := omega) only [Zt, Bool.not_true, Bool.and_true, cond_true, cond_false, bne_self_eq_false]
 rcases (Ya (x6a p v0 v1 v2)).symm with h | h
 ·rw [h]; exact hN
 ·have := w6m h
  obtain ⟨r, hr, hp⟩ := this
  have hle : y8c v0 v1 v2 q ≤ x7g p q := (z5r.1 (Int.le_refl (x7g p q))).2 r hr v0 v1 v2 hp
  rw [h, e2, Xz (by omega)]
  exact hN
end Go.Am
end
