/- A part of a proof: several texts in one. -/
import Derived.Test.YtijpnpkolglajaaGreatKi2
import Derived.Sort.AssemblyPlain
import Derived.Lib.BitFns
import Derived.Shelf.GgSortFunc.InsertionK
import Derived.Shelf.Sort.Plain
import Derived.Ground.Names2Prog
import Derived.Shelf.Slices.CompactI
import Derived.Shelf.Slices.SearchI
import Derived.Shelf.Slices.Cells
import Derived.Shelf.Slices.In.SortNone
import Derived.Shelf.SlSortCmp.WholeK
import Derived.Ground.SlsfProg
import Derived.Test.YtijpnpkolglajaaGreatProg
import Derived.Shelf.SlSortCmp.NoneTotal
set_option maxRecDepth 1000000
set_option maxHeartbeats 8000000
set_option linter.unusedVariables false
set_option linter.unusedSimpArgs false
noncomputable section
namespace Go.Am
open Go.Proofs.Tryz
open Go.Proofs
inductive rsortS where
 | h0 (v3 : List Int) (v4 : Int)
 | h1 (v3 : List Int) (v4 : Int) (v5 : Int)
def w2n (l0 : List Int) : rsortS → Cfg
 | .h0 v3 v4 => ⟨⟨63, 0, true⟩, none, (Yw prog 133 [1, 1, 0, 1, 0, 0] 0), none, (Zy prog 15), ⟨Xp [(0, (.dat l0.length (Zz l0))), (3, (.sla 0 1 0 v3.length (.un 1))), (4, (ii v4))], Ux [⟨rows v3.length (Zz v3), 3, some ⟨1, v3.length, (Zz v3)⟩⟩] 0, 1, [], true⟩, [], .leaf⟩
 | .h1 v3 v4 v5 => ⟨⟨63, 0, true⟩, none, (Yw prog 133 [1, 1, 0, 1, 0, 0, 1, 0, 0, 1, 0, 0, 0] 0), none, (Zy prog 15), ⟨Xp [(0, (.dat l0.length (Zz l0))), (3, (.sla 0 1 0 v3.length (.un 1))), (4, (ii v4)), (5, (ii v5))], Ux [⟨rows v3.length (Zz v3), 3, some ⟨1, v3.length, (Zz v3)⟩⟩] 0, 1, [], true⟩, [], .leaf⟩
def y5g : List (Option (List Nat)) := [some [0, 3, 4]]
def y5h : List (Option (List Nat)) := []
def w2l : List (Option (List Nat)) := [some [0, 3, 4, 5]]
def w2m : List (Option (List Nat)) := []
def Vv (l0 : List Int) : rsortS → Wu rsortS
 | .h0 v3 v4 => (bif (decide (v4 < (l0.length : Int))) then (.to (.h1 v3 v4 (v3.length : Int))) else (.ret [(.dat v3.length (Zz v3))]))
 | .h1 v3 v4 v5 => (bif (decide (v5 > 0)) then (bif ((decide (0 ≤ (IntKind.wrap .i64 (v5 - 1)) ∧ (IntKind.wrap .i64 (v5 - 1)) < (v3.length : Int))) && true) then (bif (decide ((0 + (Int.toNat (IntKind.wrap .i64 (v5 - 1)))) < v3.length)) then (bif ((decide (0 ≤ v4 ∧ v4 < (l0.length : Int))) && true) then (bif (decide ((rd v3 (0 + (Int.toNat (IntKind.wrap .i64 (v5 - 1))))) > (rd l0 v4.toNat))) then (.to (.h1 v3 v4 (IntKind.wrap .i64 (v5 - 1)))) else (bif ((rd v3 (0 + (Int.toNat (IntKind.wrap .i64 (v5 - 1))))) == (rd l0 v4.toNat)) then (.to (.h0 v3 (IntKind.wrap .i64 (v4 + 1)))) else (bif (Nat.beq 1 1 && ((decide (0 + v3.length = v3.length)) && decide ((v3.length + 1 + 1) * (8 + 1) ≤ Uq))) then (bif (true && ((decide (0 ≤ (IntKind.wrap .i64 (v5 + 1)))) && (decide ((v3.length + 1) ≤ (v3.length + 1)) && decide ((Int.toNat (IntKind.wrap .i64 (v5 + 1))) ≤ (v3.length + 1))))) then (bif (true && ((decide (0 ≤ v5)) && (decide ((v3.length + 1) ≤ (v3.length + 1)) && decide (v5.toNat ≤ (v3.length + 1))))) then (bif (decide ((0 + v5.toNat) + ((v3.length + 1) - v5.toNat) ≤ (v3.length + 1))) then (bif (decide ((0 + (Int.toNat (IntKind.wrap .i64 (v5 + 1)))) + ((v3.length + 1) - (Int.toNat (IntKind.wrap .i64 (v5 + 1)))) ≤ (v3.length + 1))) then (bif ((decide (0 ≤ v5 ∧ v5 < (((v3.length + 1) : Nat) : Int))) && true) then (bif (decide ((0 + v5.toNat) < (v3.length + 1))) then (.to (.h0 ((z3m (v3 ++ [0]) (0 + (Int.toNat (IntKind.wrap .i64 (v5 + 1)))) (Nat.min ((v3.length + 1) - v5.toNat) ((v3.length + 1) - (Int.toNat (IntKind.wrap .i64 (v5 + 1))))) (Vs (v3 ++ [0]) (0 + v5.toNat) ((v3.length + 1) - v5.toNat))).set (0 + v5.toNat) (rd l0 v4.toNat)) (IntKind.wrap .i64 (v4 + 1)))) else .stuck) else .stuck) else .stuck) else .stuck) else .stuck) else .stuck) else .stuck))) else .stuck) else .stuck) else .stuck) else (bif (Nat.beq 1 1 && ((decide (0 + v3.length = v3.length)) && decide ((v3.length + 1 + 1) * (8 + 1) ≤ Uq))) then (bif (true && ((decide (0 ≤ (IntKind.wrap .i64 (v5 + 1)))) && (decide ((v3.length + 1) ≤ (v3.length + 1)) && decide ((Int.toNat (IntKind.wrap .i64 (v5 + 1))) ≤ (v3.length + 1))))) then (bif (true && ((decide (0 ≤ v5)) && (decide ((v3.length + 1) ≤ (v3.length + 1)) && decide (v5.toNat ≤ (v3.length + 1))))) then (bif (decide ((0 + v5.toNat) + ((v3.length + 1) - v5.toNat) ≤ (v3.length + 1))) then (bif (decide ((0 + (Int.toNat (IntKind.wrap .i64 (v5 + 1)))) + ((v3.length + 1) - (Int.toNat (IntKind.wrap .i64 (v5 + 1)))) ≤ (v3.length + 1))) then (bif ((decide (0 ≤ v4 ∧ v4 < (l0.length : Int))) && true) then (bif ((decide (0 ≤ v5 ∧ v5 < (((v3.length + 1) : Nat) : Int))) && true) then (bif (decide ((0 + v5.toNat) < (v3.length + 1))) then (.to (.h0 ((z3m (v3 ++ [0]) (0 + (Int.toNat (IntKind.wrap .i64 (v5 + 1)))) (Nat.min ((v3.length + 1) - v5.toNat) ((v3.length + 1) - (Int.toNat (IntKind.wrap .i64 (v5 + 1))))) (Vs (v3 ++ [0]) (0 + v5.toNat) ((v3.length + 1) - v5.toNat))).set (0 + v5.toNat) (rd l0 v4.toNat)) (IntKind.wrap .i64 (v4 + 1)))) else .stuck) else .stuck) else .stuck) else .stuck) else .stuck) else .stuck) else .stuck) else .stuck))
def z2t (l0 : List Int) : Wu rsortS := (.to (.h0 ([] : List Int) 0))
theorem y7u (l0 : List Int) : ∀ s, Wm prog (Zy prog 133) (w2n l0) (w2n l0 s) (Vv l0 s)
 | .h0 v3 v4 => (lb (fun k0 => (sl Zq 21 [] ⟨[0], [], w2l, w2m⟩ ⟨[], [], []⟩ [true] (pp (fl v3 nn) (tt k0 nn)))) (fun k0 => (lr 63 3 [1, 1, 1, 1, 1, 1, 0] 1 15 [(2, (.dat v3.length (Zz v3)))] (sl Zq 15 [] ⟨[], [0], [some [2]], []⟩ ⟨[(2, .frz v3.length v3.length (Zz v3) (Zz v3))], [], []⟩ [false] (pp (xZ (z6s 1 1 0 v3.length v3.length (Zz v3)) v3.length (Zz v3)) (pp (xL v3.length v3.length) (pp (xS v3.length (Zz v3) (Zz v3)) (pp (fl v3 nn) (tt k0 nn)))))))))
 | .h1 v3 v4 v5 => (lb (fun k0 => (lo fun aG => (lo fun aT => (lo fun cA => (lb (fun k1 => (sl Zq 13 [] ⟨[0], [], w2l, w2m⟩ ⟨[], [], []⟩ (trs 11 []) (pp (fl v3 nn) (tt k1 (ww cA (ww aT (ww aG (tt k0 nn)))))))) (fun k1 => (lb (fun k2 => (sl Zq 16 [] ⟨[0], [], y5g, y5h⟩ ⟨[], [], []⟩ (trs 10 [false, true, true, true, true, true, true, true, true, true, true, true]) (pp (fl v3 nn) (tt k2 (ww cA (ww aT (ww aG (tt k0 (tt k1 (ww cA (ww aT (ww aG (tt k0 nn))))))))))))) (fun k2 => (lo fun o0 => (lo fun o1 => (lo fun o2 => (lo fun o3 => (lo fun o4 => (lo fun o5 => (lo fun o6 => (sl Zq 36 [] ⟨[2], [], y5g, y5h⟩ ⟨[(3, .len ((z3m (v3 ++ [0]) (0 + (tn (wr (v5 + 1)))) (Nat.min ((v3.length + 1) - (tn v5)) ((v3.length + 1) - (tn (wr (v5 + 1))))) (Vs (v3 ++ [0]) (0 + (tn v5)) ((v3.length + 1) - (tn v5)))).set (0 + (tn v5)) (rd l0 (tn v4))).length)], [.rowed 1 ((z3m (v3 ++ [0]) (0 + (tn (wr (v5 + 1)))) (Nat.min ((v3.length + 1) - (tn v5)) ((v3.length + 1) - (tn (wr (v5 + 1))))) (Vs (v3 ++ [0]) (0 + (tn v5)) ((v3.length + 1) - (tn v5)))).set (0 + (tn v5)) (rd l0 (tn v4))).length (Zz ((z3m (v3 ++ [0]) (0 + (tn (wr (v5 + 1)))) (Nat.min ((v3.length + 1) - (tn v5)) ((v3.length + 1) - (tn (wr (v5 + 1))))) (Vs (v3 ++ [0]) (0 + (tn v5)) ((v3.length + 1) - (tn v5)))).set (0 + (tn v5)) (rd l0 (tn v4))))], []⟩ (trs 10 [false, true, true, true, true, true, true, true, true, true, true, false]) (pp (xL (v3.length + 1) ((z3m (v3 ++ [0]) (0 + (tn (wr (v5 + 1)))) (Nat.min ((v3.length + 1) - (tn v5)) ((v3.length + 1) - (tn (wr (v5 + 1))))) (Vs (v3 ++ [0]) (0 + (tn v5)) ((v3.length + 1) - (tn v5)))).set (0 + (tn v5)) (rd l0 (tn v4))).length) (pp (xL (v3.length + 1) ((z3m (v3 ++ [0]) (0 + (tn (wr (v5 + 1)))) (Nat.min ((v3.length + 1) - (tn v5)) ((v3.length + 1) - (tn (wr (v5 + 1))))) (Vs (v3 ++ [0]) (0 + (tn v5)) ((v3.length + 1) - (tn v5)))).set (0 + (tn v5)) (rd l0 (tn v4))).length) (pp (xS (v3.length + 1) (Ww (Wt (Za (Zz v3) 0 v3.length 1 [(ii 0)]) (0 + (tn (wr (v5 + 1)))) (Nat.min ((v3.length + 1) - (tn v5)) ((v3.length + 1) - (tn (wr (v5 + 1))))) (fun k => (Za (Zz v3) 0 v3.length 1 [(ii 0)]) ((0 + (tn v5)) + k))) (0 + (tn v5)) 0 [(ii (rd l0 (tn v4)))]) (Zz ((z3m (v3 ++ [0]) (0 + (tn (wr (v5 + 1)))) (Nat.min ((v3.length + 1) - (tn v5)) ((v3.length + 1) - (tn (wr (v5 + 1))))) (Vs (v3 ++ [0]) (0 + (tn v5)) ((v3.length + 1) - (tn v5)))).set (0 + (tn v5)) (rd l0 (tn v4))))) (pp (pp (xF (Ww (Wt (Za (Zz v3) 0 v3.length 1 [(ii 0)]) (0 + (tn (wr (v5 + 1)))) (Nat.min ((v3.length + 1) - (tn v5)) ((v3.length + 1) - (tn (wr (v5 + 1))))) (fun k => (Za (Zz v3) 0 v3.length 1 [(ii 0)]) ((0 + (tn v5)) + k))) (0 + (tn v5)) 0 [(ii (rd l0 (tn v4)))])) nn) (ww o6 (ww o5 (ww cA (pp (pp (xG (Nat.beq 1 1)) (pp (xG (Nat.beq 1 1)) (pp (xw o4) (pp (xG (Nat.beq 1 1)) (pp (xG (Nat.beq 1 1)) (pp (xG (decide ((0 + (tn v5)) + ((v3.length + 1) - (tn v5)) ≤ (v3.length + 1)))) (xG (z4p 1 ((v3.length + 1) - (tn v5)) (fun k => (Za (Zz v3) 0 v3.length 1 [(ii 0)]) ((0 + (tn v5)) + k)))))))))) (ww o2 (ww o1 (ww o0 (tt k2 (ww cA (ww aT (ww aG (tt k0 (tt k1 (ww cA (ww aT (ww aG (tt k0 nn))))))))))))))))))))))))))))))))))))) (fun k0 => (lo fun o0 => (lo fun o1 => (lo fun o2 => (lo fun o3 => (lo fun o4 => (lo fun o5 => (lo fun o6 => (lo fun o7 => (sl Zq 36 [] ⟨[2], [], y5g, y5h⟩ ⟨[(3, .len ((z3m (v3 ++ [0]) (0 + (tn (wr (v5 + 1)))) (Nat.min ((v3.length + 1) - (tn v5)) ((v3.length + 1) - (tn (wr (v5 + 1))))) (Vs (v3 ++ [0]) (0 + (tn v5)) ((v3.length + 1) - (tn v5)))).set (0 + (tn v5)) (rd l0 (tn v4))).length)], [.rowed 1 ((z3m (v3 ++ [0]) (0 + (tn (wr (v5 + 1)))) (Nat.min ((v3.length + 1) - (tn v5)) ((v3.length + 1) - (tn (wr (v5 + 1))))) (Vs (v3 ++ [0]) (0 + (tn v5)) ((v3.length + 1) - (tn v5)))).set (0 + (tn v5)) (rd l0 (tn v4))).length (Zz ((z3m (v3 ++ [0]) (0 + (tn (wr (v5 + 1)))) (Nat.min ((v3.length + 1) - (tn v5)) ((v3.length + 1) - (tn (wr (v5 + 1))))) (Vs (v3 ++ [0]) (0 + (tn v5)) ((v3.length + 1) - (tn v5)))).set (0 + (tn v5)) (rd l0 (tn v4))))], []⟩ [false, false, false, false, false, false, false, false, false, false, false, false, false, false, false, false, false, false, false, false, false, false] (pp (xL (v3.length + 1) ((z3m (v3 ++ [0]) (0 + (tn (wr (v5 + 1)))) (Nat.min ((v3.length + 1) - (tn v5)) ((v3.length + 1) - (tn (wr (v5 + 1))))) (Vs (v3 ++ [0]) (0 + (tn v5)) ((v3.length + 1) - (tn v5)))).set (0 + (tn v5)) (rd l0 (tn v4))).length) (pp (xL (v3.length + 1) ((z3m (v3 ++ [0]) (0 + (tn (wr (v5 + 1)))) (Nat.min ((v3.length + 1) - (tn v5)) ((v3.length + 1) - (tn (wr (v5 + 1))))) (Vs (v3 ++ [0]) (0 + (tn v5)) ((v3.length + 1) - (tn v5)))).set (0 + (tn v5)) (rd l0 (tn v4))).length) (pp (xS (v3.length + 1) (Ww (Wt (Za (Zz v3) 0 v3.length 1 [(ii 0)]) (0 + (tn (wr (v5 + 1)))) (Nat.min ((v3.length + 1) - (tn v5)) ((v3.length + 1) - (tn (wr (v5 + 1))))) (fun k => (Za (Zz v3) 0 v3.length 1 [(ii 0)]) ((0 + (tn v5)) + k))) (0 + (tn v5)) 0 [(ii (rd l0 (tn v4)))]) (Zz ((z3m (v3 ++ [0]) (0 + (tn (wr (v5 + 1)))) (Nat.min ((v3.length + 1) - (tn v5)) ((v3.length + 1) - (tn (wr (v5 + 1))))) (Vs (v3 ++ [0]) (0 + (tn v5)) ((v3.length + 1) - (tn v5)))).set (0 + (tn v5)) (rd l0 (tn v4))))) (pp (pp (xF (Ww (Wt (Za (Zz v3) 0 v3.length 1 [(ii 0)]) (0 + (tn (wr (v5 + 1)))) (Nat.min ((v3.length + 1) - (tn v5)) ((v3.length + 1) - (tn (wr (v5 + 1))))) (fun k => (Za (Zz v3) 0 v3.length 1 [(ii 0)]) ((0 + (tn v5)) + k))) (0 + (tn v5)) 0 [(ii (rd l0 (tn v4)))])) nn) (ww o7 (ww o6 (ww o5 (pp (pp (xG (Nat.beq 1 1)) (pp (xG (Nat.beq 1 1)) (pp (xw o4) (pp (xG (Nat.beq 1 1)) (pp (xG (Nat.beq 1 1)) (pp (xG (decide ((0 + (tn v5)) + ((v3.length + 1) - (tn v5)) ≤ (v3.length + 1)))) (xG (z4p 1 ((v3.length + 1) - (tn v5)) (fun k => (Za (Zz v3) 0 v3.length 1 [(ii 0)]) ((0 + (tn v5)) + k)))))))))) (ww o2 (ww o1 (ww o0 (tt k0 (tt k0 nn))))))))))))))))))))))))
theorem y5f (l0 : List Int) : Wm prog (Zy prog 133) (w2n l0) (Zd prog 133 [(.dat l0.length (Zz l0))] true []) (z2t l0) := (sl Zq 15 [(3, 1, Zz ([] : List Int))] ⟨[0], [], y5g, y5h⟩ ⟨[(3, .grow 0 1)], [], []⟩ [] (pp (fl ([] : List Int) nn) nn))
theorem x8f (l0 : List Int) (n : Nat) (vs : List AVal) (h : Yj (Vv l0) n (z2t l0) = .ret vs) : Kv prog (Zy prog 133) (Zd prog 133 [(.dat l0.length (Zz l0))] true []) vs := by
 have := Zn (y7u l0) n _ (y5f l0)
 rwa [h] at this
inductive rcanS where
 | h0 (v5 : List R2) (v6 : Int)
def v7l (l0 : List Int) (l1 : List Bool) : rcanS → Cfg
 | .h0 v5 v6 => ⟨⟨61, 0, true⟩, none, (Yw prog 139 [1, 1, 0, 1, 0, 0] 0), none, (Zy prog 3), ⟨Xp [(0, (.dat l0.length (Zz l0))), (1, (.dat l1.length (Zz l1))), (5, (.sla 0 2 0 v5.length (.un 2))), (6, (ii v6))], Ux [⟨rows v5.length (Zz v5), 110, some ⟨2, v5.length, (Zz v5)⟩⟩] 0, 1, [], true⟩, [], .leaf⟩
def y8j : List (Option (List Nat)) := [some [0, 1, 5, 6]]
def y8k : List (Option (List Nat)) := []
def Kq (l0 : List Int) (l1 : List Bool) : rcanS → Wu rcanS
 | .h0 v5 v6 => (bif (decide ((IntKind.wrap .i64 (v6 + 1)) < (l0.length : Int))) then (bif ((decide (0 ≤ v6 ∧ v6 < (l1.length : Int))) && true) then (bif (!(rd l1 v6.toNat)) then (.to (.h0 v5 (IntKind.wrap .i64 (v6 + 1)))) else (bif (decide ((v5.length : Int) > 0)) then (bif ((decide (0 ≤ (IntKind.wrap .i64 ((v5.length : Int) - 1)) ∧ (IntKind.wrap .i64 ((v5.length : Int) - 1)) < (v5.length : Int))) && true) then (bif (decide ((0 + (Int.toNat (IntKind.wrap .i64 ((v5.length : Int) - 1)))) < v5.length)) then (bif ((decide (0 ≤ v6 ∧ v6 < (l0.length : Int))) && true) then (bif ((rd v5 (0 + (Int.toNat (IntKind.wrap .i64 ((v5.length : Int) - 1))))).b == (rd l0 v6.toNat)) then (bif ((decide (0 ≤ (IntKind.wrap .i64 (v6 + 1)) ∧ (IntKind.wrap .i64 (v6 + 1)) < (l0.length : Int))) && true) then (.to (.h0 (v5.set (0 + (Int.toNat (IntKind.wrap .i64 ((v5.length : Int) - 1)))) (R2.mk (rd v5 (0 + (Int.toNat (IntKind.wrap .i64 ((v5.length : Int) - 1))))).a (rd l0 (Int.toNat (IntKind.wrap .i64 (v6 + 1)))))) (IntKind.wrap .i64 (v6 + 1)))) else .stuck) else (bif ((decide (0 ≤ (IntKind.wrap .i64 (v6 + 1)) ∧ (IntKind.wrap .i64 (v6 + 1)) < (l0.length : Int))) && true) then (bif (Nat.beq 2 2 && ((decide (0 + v5.length = v5.length)) && decide ((v5.length + 1 + 1) * (16 + 1) ≤ Uq))) then (.to (.h0 (v5 ++ [(R2.mk (rd l0 v6.toNat) (rd l0 (Int.toNat (IntKind.wrap .i64 (v6 + 1)))))]) (IntKind.wrap .i64 (v6 + 1)))) else .stuck) else .stuck)) else .stuck) else .stuck) else .stuck) else (bif ((decide (0 ≤ v6 ∧ v6 < (l0.length : Int))) && true) then (bif ((decide (0 ≤ (IntKind.wrap .i64 (v6 + 1)) ∧ (IntKind.wrap .i64 (v6 + 1)) < (l0.length : Int))) && true) then (bif (Nat.beq 2 2 && ((decide (0 + v5.length = v5.length)) && decide ((v5.length + 1 + 1) * (16 + 1) ≤ Uq))) then (.to (.h0 (v5 ++ [(R2.mk (rd l0 v6.toNat) (rd l0 (Int.toNat (IntKind.wrap .i64 (v6 + 1)))))]) (IntKind.wrap .i64 (v6 + 1)))) else .stuck) else .stuck) else .stuck))) else .stuck) else (.ret [(.dat v5.length (Zz v5))]))
def z5k (l0 : List Int) (l1 : List Bool) : Wu rcanS := (.to (.h0 ([] : List R2) 0))
theorem x1q (l0 : List Int) (l1 : List Bool) : ∀ s, Wm prog (Zy prog 139) (v7l l0 l1) (v7l l0 l1 s) (Kq l0 l1 s)
 | .h0 v5 v6 => (lb (fun k0 => (lo fun aG => (lb (fun k1 => (sl Zq 30 [] ⟨[0], [], y8j, y8k⟩ ⟨[], [], []⟩ [true, true] (pp (fl v5 nn) (tt k1 (ww aG (tt k0 nn)))))) (fun k1 => (lb (fun k2 => (lo fun bA => (lo fun cJ => (lo fun cP => (lb (fun k3 => (lo fun o0 => (sl Zq 53 [] ⟨[0], [], y8j, y8k⟩ ⟨[(5, .len (v5.set (0 + (tn (wr ((v5.length : Int) - 1)))) (R2.mk (rd v5 (0 + (tn (wr ((v5.length : Int) - 1))))).a (rd l0 (tn (wr (v6 + 1)))))).length)], [.rowed 2 (v5.set (0 + (tn (wr ((v5.length : Int) - 1)))) (R2.mk (rd v5 (0 + (tn (wr ((v5.length : Int) - 1))))).a (rd l0 (tn (wr (v6 + 1)))))).length (Zz (v5.set (0 + (tn (wr ((v5.length : Int) - 1)))) (R2.mk (rd v5 (0 + (tn (wr ((v5.length : Int) - 1))))).a (rd l0 (tn (wr (v6 + 1)))))))], []⟩ [true, false, true, true, true, true, true, true, true, true, true, true, true, true] (pp (xL v5.length (v5.set (0 + (tn (wr ((v5.length : Int) - 1)))) (R2.mk (rd v5 (0 + (tn (wr ((v5.length : Int) - 1))))).a (rd l0 (tn (wr (v6 + 1)))))).length) (pp (xL v5.length (v5.set (0 + (tn (wr ((v5.length : Int) - 1)))) (R2.mk (rd v5 (0 + (tn (wr ((v5.length : Int) - 1))))).a (rd l0 (tn (wr (v6 + 1)))))).length) (pp (xS v5.length (Ww (Zz v5) (0 + (tn (wr ((v5.length : Int) - 1)))) 1 [(ii (rd l0 (tn (wr (v6 + 1)))))]) (Zz (v5.set (0 + (tn (wr ((v5.length : Int) - 1)))) (R2.mk (rd v5 (0 + (tn (wr ((v5.length : Int) - 1))))).a (rd l0 (tn (wr (v6 + 1)))))))) (pp (pp (xF (Ww (Zz v5) (0 + (tn (wr ((v5.length : Int) - 1)))) 1 [(ii (rd l0 (tn (wr (v6 + 1)))))])) nn) (ww cJ (ww bA (ww o0 (tt k3 (ww cP (ww cJ (ww bA (tt k2 (tt k1 (ww aG (tt k0 nn)))))))))))))))))) (fun k3 => (lo fun o0 => (lo fun o1 => (sl Zq 41 [] ⟨[2], [], y8j, y8k⟩ ⟨[(5, .len (v5 ++ [(R2.mk (rd l0 (tn v6)) (rd l0 (tn (wr (v6 + 1)))))]).length)], [.rowed 2 (v5 ++ [(R2.mk (rd l0 (tn v6)) (rd l0 (tn (wr (v6 + 1)))))]).length (Zz (v5 ++ [(R2.mk (rd l0 (tn v6)) (rd l0 (tn (wr (v6 + 1)))))]))], []⟩ [true, false, true, true, true, true, true, true, true, true, true, true, true, false] (pp (xL (v5.length + 1) (v5 ++ [(R2.mk (rd l0 (tn v6)) (rd l0 (tn (wr (v6 + 1)))))]).length) (pp (xL (v5.length + 1) (v5 ++ [(R2.mk (rd l0 (tn v6)) (rd l0 (tn (wr (v6 + 1)))))]).length) (pp (xS (v5.length + 1) (Za (Zz v5) 0 v5.length 2 [(ii (rd l0 (tn v6))), (ii (rd l0 (tn (wr (v6 + 1)))))]) (Zz (v5 ++ [(R2.mk (rd l0 (tn v6)) (rd l0 (tn (wr (v6 + 1)))))]))) (pp (pp (xF (Za (Zz v5) 0 v5.length 2 [(ii (rd l0 (tn v6))), (ii (rd l0 (tn (wr (v6 + 1)))))])) nn) (ww o1 (ww o0 (ww cP (tt k3 (ww cP (ww cJ (ww bA (tt k2 (tt k1 (ww aG (tt k0 nn)))))))))))))))))))))))) (fun k2 => (lo fun o0 => (lo fun o1 => (lo fun o2 => (sl Zq 41 [] ⟨[2], [], y8j, y8k⟩ ⟨[(5, .len (v5 ++ [(R2.mk (rd l0 (tn v6)) (rd l0 (tn (wr (v6 + 1)))))]).length)], [.rowed 2 (v5 ++ [(R2.mk (rd l0 (tn v6)) (rd l0 (tn (wr (v6 + 1)))))]).length (Zz (v5 ++ [(R2.mk (rd l0 (tn v6)) (rd l0 (tn (wr (v6 + 1)))))]))], []⟩ [true, false, false, false, false, false, false, false, false, false, false, false, false, false] (pp (xL (v5.length + 1) (v5 ++ [(R2.mk (rd l0 (tn v6)) (rd l0 (tn (wr (v6 + 1)))))]).length) (pp (xL (v5.length + 1) (v5 ++ [(R2.mk (rd l0 (tn v6)) (rd l0 (tn (wr (v6 + 1)))))]).length) (pp (xS (v5.length + 1) (Za (Zz v5) 0 v5.length 2 [(ii (rd l0 (tn v6))), (ii (rd l0 (tn (wr (v6 + 1)))))]) (Zz (v5 ++ [(R2.mk (rd l0 (tn v6)) (rd l0 (tn (wr (v6 + 1)))))]))) (pp (pp (xF (Za (Zz v5) 0 v5.length 2 [(ii (rd l0 (tn v6))), (ii (rd l0 (tn (wr (v6 + 1)))))])) nn) (ww o2 (ww o1 (ww o0 (tt k2 (tt k1 (ww aG (tt k0 nn))))))))))))))))))))) (fun k0 => (lr 61 3 [1, 1, 1, 1, 1, 1, 0] 1 3 [(4, (.dat v5.length (Zz v5)))] (sl Zq 16 [] ⟨[], [0], [some [4]], []⟩ ⟨[(4, .frz v5.length v5.length (Zz v5) (Zz v5))], [], []⟩ [false] (pp (xZ (z6s 2 2 0 v5.length v5.length (Zz v5)) v5.length (Zz v5)) (pp (xL v5.length v5.length) (pp (xS v5.length (Zz v5) (Zz v5)) (pp (fl v5 nn) (tt k0 nn)))))))))
theorem y8i (l0 : List Int) (l1 : List Bool) : Wm prog (Zy prog 139) (v7l l0 l1) (Zd prog 139 [(.dat l0.length (Zz l0)), (.dat l1.length (Zz l1))] true []) (z5k l0 l1) := (sl Zq 15 [(110, 2, Zz ([] : List R2))] ⟨[0], [], y8j, y8k⟩ ⟨[(5, .grow 0 2)], [], []⟩ [] (pp (fl ([] : List R2) nn) nn))
theorem w3n (l0 : List Int) (l1 : List Bool) (n : Nat) (vs : List AVal) (h : Yj (Kq l0 l1) n (z5k l0 l1) = .ret vs) : Kv prog (Zy prog 139) (Zd prog 139 [(.dat l0.length (Zz l0)), (.dat l1.length (Zz l1))] true []) vs := by
 have := Zn (x1q l0 l1) n _ (y8i l0 l1)
 rwa [h] at this
inductive rsmS where
 | h0 (v5 : Int)
def rsmC (l0 : List R2) (l1 : List R2) : rsmS → Cfg
 | .h0 v5 => ⟨⟨26, 0, true⟩, none, (Yw prog 140 [1, 1, 0, 1, 0, 0] 0), none, (Zy prog 3), ⟨Xp [(0, (.dat l0.length (Zz l0))), (1, (.dat l1.length (Zz l1))), (5, (ii v5))], Ux [] 0, 0, [], true⟩, [], .leaf⟩
def rsmN0 : List (Option (List Nat)) := [some [0, 1, 5]]
def rsmM0 : List (Option (List Nat)) := []
def z4a (l0 : List R2) (l1 : List R2) : rsmS → Wu rsmS
 | .h0 v5 => (bif (decide (v5 < (l0.length : Int))) then (bif ((decide (0 ≤ v5 ∧ v5 < (l0.length : Int))) && true) then (bif ((decide (0 ≤ v5 ∧ v5 < (l1.length : Int))) && true) then (bif (!(((rd l0 v5.toNat).a == (rd l1 v5.toNat).a) && (((rd l0 v5.toNat).b == (rd l1 v5.toNat).b) && true))) then (.ret [(.bool false)]) else (.to (.h0 (IntKind.wrap .i64 (v5 + 1))))) else .stuck) else .stuck) else (.ret [(.bool true)]))
def z4z (l0 : List R2) (l1 : List R2) : Wu rsmS := (bif ((l0.length : Int) != (l1.length : Int)) then (.ret [(.bool false)]) else (.to (.h0 0)))
theorem x8g (l0 : List R2) (l1 : List R2) : ∀ s, Wm prog (Zy prog 140) (rsmC l0 l1) (rsmC l0 l1 s) (z4a l0 l1 s)
 | .h0 v5 => (lb (fun k0 => (lo fun aG => (lo fun aT => (lb (fun k1 => (lr 26 140 [1, 1, 0, 1, 0, 0, 1, 0, 0, 1, 0, 0] 1 3 [(4, (.bool false))] (sl Zq 19 [] ⟨[], [], [some [4]], []⟩ ⟨[], [], []⟩ [true, true] (tt k1 (ww aT (ww aG (tt k0 nn))))))) (fun k1 => (sl Zq 23 [] ⟨[], [], rsmN0, rsmM0⟩ ⟨[], [], []⟩ [true, false] (tt k1 (ww aT (ww aG (tt k0 nn)))))))))) (fun k0 => (lr 26 3 [1, 1, 1, 1, 1, 1, 0] 1 3 [(4, (.bool true))] (sl Zq 14 [] ⟨[], [], [some [4]], []⟩ ⟨[], [], []⟩ [false] (tt k0 nn)))))
theorem x0z (l0 : List R2) (l1 : List R2) : Wm prog (Zy prog 140) (rsmC l0 l1) (Zd prog 140 [(.dat l0.length (Zz l0)), (.dat l1.length (Zz l1))] true []) (z4z l0 l1) := (lb (fun k0 => (lr 26 140 [1, 0, 1, 0, 0] 1 3 [(4, (.bool false))] (sl Zq 18 [] ⟨[], [], [some [4]], []⟩ ⟨[], [], []⟩ [true] (tt k0 nn)))) (fun k0 => (sl Zq 22 [] ⟨[], [], rsmN0, rsmM0⟩ ⟨[], [], []⟩ [false] (tt k0 nn))))
theorem w8a (l0 : List R2) (l1 : List R2) (n : Nat) (vs : List AVal) (h : Yj (z4a l0 l1) n (z4z l0 l1) = .ret vs) : Kv prog (Zy prog 140) (Zd prog 140 [(.dat l0.length (Zz l0)), (.dat l1.length (Zz l1))] true []) vs := by
 have := Zn (x8g l0 l1) n _ (x0z l0 l1)
 rwa [h] at this
inductive rhasS where
 | h0 (v7 : Int)
def v7f (l0 : List R4) (x1 : Int) (x2 : Int) : rhasS → Cfg
 | .h0 v7 => ⟨⟨48, 0, true⟩, none, (Yw prog 138 [1, 0, 1, 0, 0] 0), none, (Zy prog 4), ⟨Xp [(0, (.dat l0.length (Zz l0))), (1, (ii x1)), (2, (ii x2)), (7, (ii v7))], Ux [] 0, 0, [], true⟩, [], .leaf⟩
def y7y : List (Option (List Nat)) := [some [0, 1, 2, 7]]
def y7z : List (Option (List Nat)) := []
def z2w (l0 : List R4) (x1 : Int) (x2 : Int) : rhasS → Wu rhasS
 | .h0 v7 => (bif (decide (v7 < (l0.length : Int))) then (bif ((decide (0 ≤ v7 ∧ v7 < (l0.length : Int))) && true) then (bif (decide ((rd l0 v7.toNat).a ≤ x1)) then (bif (decide (x1 < (rd l0 v7.toNat).c)) then (bif (decide ((rd l0 v7.toNat).b ≤ x2)) then (bif (decide (x2 < (rd l0 v7.toNat).d)) then (.ret [(.bool true)]) else (.to (.h0 (IntKind.wrap .i64 (v7 + 1))))) else (.to (.h0 (IntKind.wrap .i64 (v7 + 1))))) else (.to (.h0 (IntKind.wrap .i64 (v7 + 1))))) else (.to (.h0 (IntKind.wrap .i64 (v7 + 1))))) else .stuck) else (.ret [(.bool false)]))
def z5e (l0 : List R4) (x1 : Int) (x2 : Int) : Wu rhasS := (.to (.h0 0))
theorem x1i (l0 : List R4) (x1 : Int) (x2 : Int) : ∀ s, Wm prog (Zy prog 138) (v7f l0 x1 x2) (v7f l0 x1 x2 s) (z2w l0 x1 x2 s)
 | .h0 v7 => (lb (fun k0 => (lo fun aG => (lb (fun k1 => (lb (fun k2 => (lb (fun k3 => (lb (fun k4 => (lr 48 138 [1, 0, 1, 0, 0, 1, 0, 0, 1, 0, 0] 1 4 [(6, (.bool true))] (sl Zq 54 [] ⟨[], [], [some [6]], []⟩ ⟨[], [], []⟩ (trs 23 []) (tt k4 (ww aG (tt k3 (ww aG (tt k2 (ww aG (tt k1 (ww aG (tt k0 nn)))))))))))) (fun k4 => (sl Zq 58 [] ⟨[], [], y7y, y7z⟩ ⟨[], [], []⟩ (trs 22 [false]) (tt k4 (ww aG (tt k3 (ww aG (tt k2 (ww aG (tt k1 (ww aG (tt k0 nn))))))))))))) (fun k3 => (sl Zq 58 [] ⟨[], [], y7y, y7z⟩ ⟨[], [], []⟩ (trs 15 [false, false, false, false, false, false, false, false]) (tt k3 (ww aG (tt k2 (ww aG (tt k1 (ww aG (tt k0 nn))))))))))) (fun k2 => (sl Zq 58 [] ⟨[], [], y7y, y7z⟩ ⟨[], [], []⟩ (trs 8 [false, false, false, false, false, false, false, false, false, false, false, false, false, false, false]) (tt k2 (ww aG (tt k1 (ww aG (tt k0 nn))))))))) (fun k1 => (sl Zq 58 [] ⟨[], [], y7y, y7z⟩ ⟨[], [], []⟩ [true, false, false, false, false, false, false, false, false, false, false, false, false, false, false, false, false, false, false, false, false, false, false] (tt k1 (ww aG (tt k0 nn)))))))) (fun k0 => (lr 48 3 [1, 1, 1, 1, 1, 1, 0] 1 4 [(6, (.bool false))] (sl Zq 14 [] ⟨[], [], [some [6]], []⟩ ⟨[], [], []⟩ [false] (tt k0 nn)))))
theorem y7x (l0 : List R4) (x1 : Int) (x2 : Int) : Wm prog (Zy prog 138) (v7f l0 x1 x2) (Zd prog 138 [(.dat l0.length (Zz l0)), (.int .i64 x1), (.int .i64 x2)] true []) (z5e l0 x1 x2) := (sl Zq 11 [] ⟨[], [], y7y, y7z⟩ ⟨[], [], []⟩ [] nn)
theorem w2x (l0 : List R4) (x1 : Int) (x2 : Int) (n : Nat) (vs : List AVal) (h : Yj (z2w l0 x1 x2) n (z5e l0 x1 x2) = .ret vs) : Kv prog (Zy prog 138) (Zd prog 138 [(.dat l0.length (Zz l0)), (.int .i64 x1), (.int .i64 x2)] true []) vs := by
 have := Zn (x1i l0 x1 x2) n _ (y7x l0 x1 x2)
 rwa [h] at this
inductive rsrS where
 | h0 (v5 : Int)
def rsrC (l0 : List R4) (l1 : List R4) : rsrS → Cfg
 | .h0 v5 => ⟨⟨26, 0, true⟩, none, (Yw prog 117 [1, 1, 0, 1, 0, 0] 0), none, (Zy prog 3), ⟨Xp [(0, (.dat l0.length (Zz l0))), (1, (.dat l1.length (Zz l1))), (5, (ii v5))], Ux [] 0, 0, [], true⟩, [], .leaf⟩
def rsrN0 : List (Option (List Nat)) := [some [0, 1, 5]]
def rsrM0 : List (Option (List Nat)) := []
def z3z (l0 : List R4) (l1 : List R4) : rsrS → Wu rsrS
 | .h0 v5 => (bif (decide (v5 < (l0.length : Int))) then (bif ((decide (0 ≤ v5 ∧ v5 < (l0.length : Int))) && true) then (bif ((decide (0 ≤ v5 ∧ v5 < (l1.length : Int))) && true) then (bif (!(((rd l0 v5.toNat).a == (rd l1 v5.toNat).a) && (((rd l0 v5.toNat).b == (rd l1 v5.toNat).b) && (((rd l0 v5.toNat).c == (rd l1 v5.toNat).c) && (((rd l0 v5.toNat).d == (rd l1 v5.toNat).d) && true))))) then (.ret [(.bool false)]) else (.to (.h0 (IntKind.wrap .i64 (v5 + 1))))) else .stuck) else .stuck) else (.ret [(.bool true)]))
def z4y (l0 : List R4) (l1 : List R4) : Wu rsrS := (bif ((l0.length : Int) != (l1.length : Int)) then (.ret [(.bool false)]) else (.to (.h0 0)))
theorem x8e (l0 : List R4) (l1 : List R4) : ∀ s, Wm prog (Zy prog 117) (rsrC l0 l1) (rsrC l0 l1 s) (z3z l0 l1 s)
 | .h0 v5 => (lb (fun k0 => (lo fun aG => (lo fun aT => (lb (fun k1 => (lr 26 117 [1, 1, 0, 1, 0, 0, 1, 0, 0, 1, 0, 0] 1 3 [(4, (.bool false))] (sl Zq 19 [] ⟨[], [], [some [4]], []⟩ ⟨[], [], []⟩ [true, true] (tt k1 (ww aT (ww aG (tt k0 nn))))))) (fun k1 => (sl Zq 23 [] ⟨[], [], rsrN0, rsrM0⟩ ⟨[], [], []⟩ [true, false] (tt k1 (ww aT (ww aG (tt k0 nn)))))))))) (fun k0 => (lr 26 3 [1, 1, 1, 1, 1, 1, 0] 1 3 [(4, (.bool true))] (sl Zq 14 [] ⟨[], [], [some [4]], []⟩ ⟨[], [], []⟩ [false] (tt k0 nn)))))
theorem x0y (l0 : List R4) (l1 : List R4) : Wm prog (Zy prog 117) (rsrC l0 l1) (Zd prog 117 [(.dat l0.length (Zz l0)), (.dat l1.length (Zz l1))] true []) (z4y l0 l1) := (lb (fun k0 => (lr 26 117 [1, 0, 1, 0, 0] 1 3 [(4, (.bool false))] (sl Zq 18 [] ⟨[], [], [some [4]], []⟩ ⟨[], [], []⟩ [true] (tt k0 nn)))) (fun k0 => (sl Zq 22 [] ⟨[], [], rsrN0, rsrM0⟩ ⟨[], [], []⟩ [false] (tt k0 nn))))
theorem w7z (l0 : List R4) (l1 : List R4) (n : Nat) (vs : List AVal) (h : Yj (z3z l0 l1) n (z4y l0 l1) = .ret vs) : Kv prog (Zy prog 117) (Zd prog 117 [(.dat l0.length (Zz l0)), (.dat l1.length (Zz l1))] true []) vs := by
 have := Zn (x8e l0 l1) n _ (x0y l0 l1)
 rwa [h] at this
inductive rsbS where
 | h0 (v5 : Int)
def rsbC (l0 : List R6) (l1 : List R6) : rsbS → Cfg
 | .h0 v5 => ⟨⟨26, 0, true⟩, none, (Yw prog 40 [1, 1, 0, 1, 0, 0] 0), none, (Zy prog 3), ⟨Xp [(0, (.dat l0.length (Zz l0))), (1, (.dat l1.length (Zz l1))), (5, (ii v5))], Ux [] 0, 0, [], true⟩, [], .leaf⟩
def rsbN0 : List (Option (List Nat)) := [some [0, 1, 5]]
def rsbM0 : List (Option (List Nat)) := []
def z4b (l0 : List R6) (l1 : List R6) : rsbS → Wu rsbS
 | .h0 v5 => (bif (decide (v5 < (l0.length : Int))) then (bif ((decide (0 ≤ v5 ∧ v5 < (l0.length : Int))) && true) then (bif ((decide (0 ≤ v5 ∧ v5 < (l1.length : Int))) && true) then (bif (!((((rd l0 v5.toNat).a == (rd l1 v5.toNat).a) && (((rd l0 v5.toNat).b == (rd l1 v5.toNat).b) && (((rd l0 v5.toNat).c == (rd l1 v5.toNat).c) && true))) && ((((rd l0 v5.toNat).d == (rd l1 v5.toNat).d) && (((rd l0 v5.toNat).e == (rd l1 v5.toNat).e) && (((rd l0 v5.toNat).f == (rd l1 v5.toNat).f) && true))) && true))) then (.ret [(.bool false)]) else (.to (.h0 (IntKind.wrap .i64 (v5 + 1))))) else .stuck) else .stuck) else (.ret [(.bool true)]))
def z5a (l0 : List R6) (l1 : List R6) : Wu rsbS := (bif ((l0.length : Int) != (l1.length : Int)) then (.ret [(.bool false)]) else (.to (.h0 0)))
theorem x8h (l0 : List R6) (l1 : List R6) : ∀ s, Wm prog (Zy prog 40) (rsbC l0 l1) (rsbC l0 l1 s) (z4b l0 l1 s)
 | .h0 v5 => (lb (fun k0 => (lo fun aG => (lo fun aT => (lb (fun k1 => (lr 26 40 [1, 1, 0, 1, 0, 0, 1, 0, 0, 1, 0, 0] 1 3 [(4, (.bool false))] (sl Zq 19 [] ⟨[], [], [some [4]], []⟩ ⟨[], [], []⟩ [true, true] (tt k1 (ww aT (ww aG (tt k0 nn))))))) (fun k1 => (sl Zq 23 [] ⟨[], [], rsbN0, rsbM0⟩ ⟨[], [], []⟩ [true, false] (tt k1 (ww aT (ww aG (tt k0 nn)))))))))) (fun k0 => (lr 26 3 [1, 1, 1, 1, 1, 1, 0] 1 3 [(4, (.bool true))] (sl Zq 14 [] ⟨[], [], [some [4]], []⟩ ⟨[], [], []⟩ [false] (tt k0 nn)))))
theorem x1a (l0 : List R6) (l1 : List R6) : Wm prog (Zy prog 40) (rsbC l0 l1) (Zd prog 40 [(.dat l0.length (Zz l0)), (.dat l1.length (Zz l1))] true []) (z5a l0 l1) := (lb (fun k0 => (lr 26 40 [1, 0, 1, 0, 0] 1 3 [(4, (.bool false))] (sl Zq 18 [] ⟨[], [], [some [4]], []⟩ ⟨[], [], []⟩ [true] (tt k0 nn)))) (fun k0 => (sl Zq 22 [] ⟨[], [], rsbN0, rsbM0⟩ ⟨[], [], []⟩ [false] (tt k0 nn))))
theorem w8b (l0 : List R6) (l1 : List R6) (n : Nat) (vs : List AVal) (h : Yj (z4b l0 l1) n (z5a l0 l1) = .ret vs) : Kv prog (Zy prog 40) (Zd prog 40 [(.dat l0.length (Zz l0)), (.dat l1.length (Zz l1))] true []) vs := by
 have := Zn (x8h l0 l1) n _ (x1a l0 l1)
 rwa [h] at this
inductive ratS where
 | h0 (v5 : List R4) (v6 : Int)
def ratC (l0 : List R6) (x1 : Int) : ratS → Cfg
 | .h0 v5 v6 => ⟨⟨60, 0, true⟩, none, (Yw prog 116 [1, 1, 0, 1, 0, 0] 0), none, (Zy prog 3), ⟨Xp [(0, (.dat l0.length (Zz l0))), (1, (ii x1)), (5, (.sla 0 4 0 v5.length (.un 4))), (6, (ii v6))], Ux [⟨rows v5.length (Zz v5), 114, some ⟨4, v5.length, (Zz v5)⟩⟩] 0, 1, [], true⟩, [], .leaf⟩
def w8u : List (Option (List Nat)) := [some [0, 1, 5, 6]]
def w8v : List (Option (List Nat)) := []
def z4c (l0 : List R6) (x1 : Int) : ratS → Wu ratS
 | .h0 v5 v6 => (bif (decide (v6 < (l0.length : Int))) then (bif ((decide (0 ≤ v6 ∧ v6 < (l0.length : Int))) && true) then (bif (decide ((rd l0 v6.toNat).c ≤ x1)) then (bif (decide (x1 < (rd l0 v6.toNat).f)) then (bif (Nat.beq 4 4 && ((decide (0 + v5.length = v5.length)) && decide ((v5.length + 1 + 1) * (32 + 1) ≤ Uq))) then (.to (.h0 (v5 ++ [(R4.mk (rd l0 v6.toNat).a (rd l0 v6.toNat).b (rd l0 v6.toNat).d (rd l0 v6.toNat).e)]) (IntKind.wrap .i64 (v6 + 1)))) else .stuck) else (.to (.h0 v5 (IntKind.wrap .i64 (v6 + 1))))) else (.to (.h0 v5 (IntKind.wrap .i64 (v6 + 1))))) else .stuck) else (.ret [(.dat v5.length (Zz v5))]))
def z9k (l0 : List R6) (x1 : Int) : Wu ratS := (.to (.h0 ([] : List R4) 0))
theorem x8r (l0 : List R6) (x1 : Int) : ∀ s, Wm prog (Zy prog 116) (ratC l0 x1) (ratC l0 x1 s) (z4c l0 x1 s)
 | .h0 v5 v6 => (lb (fun k0 => (lo fun aG => (lb (fun k1 => (lb (fun k2 => (lo fun o0 => (sl Zq 42 [] ⟨[2], [], w8u, w8v⟩ ⟨[(5, .len (v5 ++ [(R4.mk (rd l0 (tn v6)).a (rd l0 (tn v6)).b (rd l0 (tn v6)).d (rd l0 (tn v6)).e)]).length)], [.rowed 4 (v5 ++ [(R4.mk (rd l0 (tn v6)).a (rd l0 (tn v6)).b (rd l0 (tn v6)).d (rd l0 (tn v6)).e)]).length (Zz (v5 ++ [(R4.mk (rd l0 (tn v6)).a (rd l0 (tn v6)).b (rd l0 (tn v6)).d (rd l0 (tn v6)).e)]))], []⟩ (trs 10 []) (pp (xL (v5.length + 1) (v5 ++ [(R4.mk (rd l0 (tn v6)).a (rd l0 (tn v6)).b (rd l0 (tn v6)).d (rd l0 (tn v6)).e)]).length) (pp (xL (v5.length + 1) (v5 ++ [(R4.mk (rd l0 (tn v6)).a (rd l0 (tn v6)).b (rd l0 (tn v6)).d (rd l0 (tn v6)).e)]).length) (pp (xS (v5.length + 1) (Za (Zz v5) 0 v5.length 4 [(ii (rd l0 (tn v6)).a), (ii (rd l0 (tn v6)).b), (ii (rd l0 (tn v6)).d), (ii (rd l0 (tn v6)).e)]) (Zz (v5 ++ [(R4.mk (rd l0 (tn v6)).a (rd l0 (tn v6)).b (rd l0 (tn v6)).d (rd l0 (tn v6)).e)]))) (pp (pp (xF (Za (Zz v5) 0 v5.length 4 [(ii (rd l0 (tn v6)).a), (ii (rd l0 (tn v6)).b), (ii (rd l0 (tn v6)).d), (ii (rd l0 (tn v6)).e)])) nn) (ww o0 (ww aG (ww aG (ww aG (ww aG (tt k2 (ww aG (tt k1 (ww aG (tt k0 nn))))))))))))))))) (fun k2 => (sl Zq 42 [] ⟨[0], [], w8u, w8v⟩ ⟨[], [], []⟩ (trs 9 [false]) (pp (fl v5 nn) (tt k2 (ww aG (tt k1 (ww aG (tt k0 nn)))))))))) (fun k1 => (sl Zq 42 [] ⟨[0], [], w8u, w8v⟩ ⟨[], [], []⟩ [true, false, false, false, false, false, false, false, false, false] (pp (fl v5 nn) (tt k1 (ww aG (tt k0 nn))))))))) (fun k0 => (lr 60 3 [1, 1, 1, 1, 1, 1, 0] 1 3 [(4, (.dat v5.length (Zz v5)))] (sl Zq 15 [] ⟨[], [0], [some [4]], []⟩ ⟨[(4, .frz v5.length v5.length (Zz v5) (Zz v5))], [], []⟩ [false] (pp (xZ (z6s 4 4 0 v5.length v5.length (Zz v5)) v5.length (Zz v5)) (pp (xL v5.length v5.length) (pp (xS v5.length (Zz v5) (Zz v5)) (pp (fl v5 nn) (tt k0 nn)))))))))
theorem x1r (l0 : List R6) (x1 : Int) : Wm prog (Zy prog 116) (ratC l0 x1) (Zd prog 116 [(.dat l0.length (Zz l0)), (.int .i64 x1)] true []) (z9k l0 x1) := (sl Zq 15 [(114, 4, Zz ([] : List R4))] ⟨[0], [], w8u, w8v⟩ ⟨[(5, .grow 0 4)], [], []⟩ [] (pp (fl ([] : List R4) nn) nn))
theorem w8t (l0 : List R6) (x1 : Int) (n : Nat) (vs : List AVal) (h : Yj (z4c l0 x1) n (z9k l0 x1) = .ret vs) : Kv prog (Zy prog 116) (Zd prog 116 [(.dat l0.length (Zz l0)), (.int .i64 x1)] true []) vs := by
 have := Zn (x8r l0 x1) n _ (x1r l0 x1)
 rwa [h] at this
inductive eqaS where
 | h0 (v13 : Int)
def eqaC (l0 : List R2) (l1 : List R2) : eqaS → Cfg
 | .h0 v13 => ⟨⟨26, 0, true⟩, none, (Yw prog 123 [1, 1, 0, 1, 0, 0] 0), none, (Zy prog 3), ⟨Xp [(0, (.dat l0.length (Zz l0))), (1, (.dat l1.length (Zz l1))), (12, (ii (l0.length : Int))), (13, (ii v13))], Ux [] 0, 0, [], true⟩, [], .leaf⟩
def eqaN0 : List (Option (List Nat)) := [some [0, 1, 12, 13]]
def eqaM0 : List (Option (List Nat)) := []
def z4m (l0 : List R2) (l1 : List R2) : eqaS → Wu eqaS
 | .h0 v13 => (bif (decide (v13 < (l0.length : Int))) then (bif ((decide (0 ≤ v13 ∧ v13 < (l0.length : Int))) && true) then (bif ((decide (0 ≤ v13 ∧ v13 < (l1.length : Int))) && true) then (bif (!(((rd l0 v13.toNat).a == (rd l1 v13.toNat).a) && (((rd l0 v13.toNat).b == (rd l1 v13.toNat).b) && true))) then (.ret [(.bool false)]) else (.to (.h0 (IntKind.wrap .i64 (v13 + 1))))) else .stuck) else .stuck) else (.ret [(.bool true)]))
def z5y (l0 : List R2) (l1 : List R2) : Wu eqaS := (bif ((l0.length : Int) != (l1.length : Int)) then (.ret [(.bool false)]) else (.to (.h0 0)))
theorem w0b (l0 : List R2) (l1 : List R2) : ∀ s, Wm prog (Zy prog 123) (eqaC l0 l1) (eqaC l0 l1 s) (z4m l0 l1 s)
 | .h0 v13 => (lb (fun k0 => (lo fun aG => (lo fun aT => (lb (fun k1 => (lr 26 123 [1, 1, 0, 1, 0, 0, 1, 1, 0, 0, 1, 1, 0, 0] 1 3 [(4, (.bool false))] (sl Zq 21 [] ⟨[], [], [some [4]], []⟩ ⟨[], [], []⟩ [true, true] (tt k1 (ww aT (ww aG (tt k0 nn))))))) (fun k1 => (sl Zq 24 [] ⟨[], [], eqaN0, eqaM0⟩ ⟨[], [], []⟩ [true, false] (tt k1 (ww aT (ww aG (tt k0 nn)))))))))) (fun k0 => (lr 26 3 [1, 1, 1, 1, 1, 1, 0] 1 3 [(4, (.bool true))] (sl Zq 11 [] ⟨[], [], [some [4]], []⟩ ⟨[], [], []⟩ [false] (tt k0 nn)))))
theorem x3p (l0 : List R2) (l1 : List R2) : Wm prog (Zy prog 123) (eqaC l0 l1) (Zd prog 123 [(.dat l0.length (Zz l0)), (.dat l1.length (Zz l1))] true []) (z5y l0 l1) := (lb (fun k0 => (lr 26 123 [1, 0, 1, 0, 0] 1 3 [(4, (.bool false))] (sl Zq 18 [] ⟨[], [], [some [4]], []⟩ ⟨[], [], []⟩ [true] (tt k0 nn)))) (fun k0 => (sl Zq 24 [] ⟨[], [], eqaN0, eqaM0⟩ ⟨[], [], []⟩ [false] (tt k0 nn))))
theorem v1c (l0 : List R2) (l1 : List R2) (n : Nat) (vs : List AVal) (h : Yj (z4m l0 l1) n (z5y l0 l1) = .ret vs) : Kv prog (Zy prog 123) (Zd prog 123 [(.dat l0.length (Zz l0)), (.dat l1.length (Zz l1))] true []) vs := by
 have := Zn (w0b l0 l1) n _ (x3p l0 l1)
 rwa [h] at this
inductive eqbS where
 | h0 (v13 : Int)
def eqbC (l0 : List R4) (l1 : List R4) : eqbS → Cfg
 | .h0 v13 => ⟨⟨26, 0, true⟩, none, (Yw prog 82 [1, 1, 0, 1, 0, 0] 0), none, (Zy prog 3), ⟨Xp [(0, (.dat l0.length (Zz l0))), (1, (.dat l1.length (Zz l1))), (12, (ii (l0.length : Int))), (13, (ii v13))], Ux [] 0, 0, [], true⟩, [], .leaf⟩
def eqbN0 : List (Option (List Nat)) := [some [0, 1, 12, 13]]
def eqbM0 : List (Option (List Nat)) := []
def z4l (l0 : List R4) (l1 : List R4) : eqbS → Wu eqbS
 | .h0 v13 => (bif (decide (v13 < (l0.length : Int))) then (bif ((decide (0 ≤ v13 ∧ v13 < (l0.length : Int))) && true) then (bif ((decide (0 ≤ v13 ∧ v13 < (l1.length : Int))) && true) then (bif (!(((rd l0 v13.toNat).a == (rd l1 v13.toNat).a) && (((rd l0 v13.toNat).b == (rd l1 v13.toNat).b) && (((rd l0 v13.toNat).c == (rd l1 v13.toNat).c) && (((rd l0 v13.toNat).d == (rd l1 v13.toNat).d) && true))))) then (.ret [(.bool false)]) else (.to (.h0 (IntKind.wrap .i64 (v13 + 1))))) else .stuck) else .stuck) else (.ret [(.bool true)]))
def z5x (l0 : List R4) (l1 : List R4) : Wu eqbS := (bif ((l0.length : Int) != (l1.length : Int)) then (.ret [(.bool false)]) else (.to (.h0 0)))
theorem w0a (l0 : List R4) (l1 : List R4) : ∀ s, Wm prog (Zy prog 82) (eqbC l0 l1) (eqbC l0 l1 s) (z4l l0 l1 s)
 | .h0 v13 => (lb (fun k0 => (lo fun aG => (lo fun aT => (lb (fun k1 => (lr 26 82 [1, 1, 0, 1, 0, 0, 1, 1, 0, 0, 1, 1, 0, 0] 1 3 [(4, (.bool false))] (sl Zq 21 [] ⟨[], [], [some [4]], []⟩ ⟨[], [], []⟩ [true, true] (tt k1 (ww aT (ww aG (tt k0 nn))))))) (fun k1 => (sl Zq 24 [] ⟨[], [], eqbN0, eqbM0⟩ ⟨[], [], []⟩ [true, false] (tt k1 (ww aT (ww aG (tt k0 nn)))))))))) (fun k0 => (lr 26 3 [1, 1, 1, 1, 1, 1, 0] 1 3 [(4, (.bool true))] (sl Zq 11 [] ⟨[], [], [some [4]], []⟩ ⟨[], [], []⟩ [false] (tt k0 nn)))))
theorem x3o (l0 : List R4) (l1 : List R4) : Wm prog (Zy prog 82) (eqbC l0 l1) (Zd prog 82 [(.dat l0.length (Zz l0)), (.dat l1.length (Zz l1))] true []) (z5x l0 l1) := (lb (fun k0 => (lr 26 82 [1, 0, 1, 0, 0] 1 3 [(4, (.bool false))] (sl Zq 18 [] ⟨[], [], [some [4]], []⟩ ⟨[], [], []⟩ [true] (tt k0 nn)))) (fun k0 => (sl Zq 24 [] ⟨[], [], eqbN0, eqbM0⟩ ⟨[], [], []⟩ [false] (tt k0 nn))))
theorem v1b (l0 : List R4) (l1 : List R4) (n : Nat) (vs : List AVal) (h : Yj (z4l l0 l1) n (z5x l0 l1) = .ret vs) : Kv prog (Zy prog 82) (Zd prog 82 [(.dat l0.length (Zz l0)), (.dat l1.length (Zz l1))] true []) vs := by
 have := Zn (w0a l0 l1) n _ (x3o l0 l1)
 rwa [h] at this
inductive eqcS where
 | h0 (v13 : Int)
def eqcC (l0 : List R6) (l1 : List R6) : eqcS → Cfg
 | .h0 v13 => ⟨⟨26, 0, true⟩, none, (Yw prog 109 [1, 1, 0, 1, 0, 0] 0), none, (Zy prog 3), ⟨Xp [(0, (.dat l0.length (Zz l0))), (1, (.dat l1.length (Zz l1))), (12, (ii (l0.length : Int))), (13, (ii v13))], Ux [] 0, 0, [], true⟩, [], .leaf⟩
def eqcN0 : List (Option (List Nat)) := [some [0, 1, 12, 13]]
def eqcM0 : List (Option (List Nat)) := []
def z4k (l0 : List R6) (l1 : List R6) : eqcS → Wu eqcS
 | .h0 v13 => (bif (decide (v13 < (l0.length : Int))) then (bif ((decide (0 ≤ v13 ∧ v13 < (l0.length : Int))) && true) then (bif ((decide (0 ≤ v13 ∧ v13 < (l1.length : Int))) && true) then (bif (!((((rd l0 v13.toNat).a == (rd l1 v13.toNat).a) && (((rd l0 v13.toNat).b == (rd l1 v13.toNat).b) && (((rd l0 v13.toNat).c == (rd l1 v13.toNat).c) && true))) && ((((rd l0 v13.toNat).d == (rd l1 v13.toNat).d) && (((rd l0 v13.toNat).e == (rd l1 v13.toNat).e) && (((rd l0 v13.toNat).f == (rd l1 v13.toNat).f) && true))) && true))) then (.ret [(.bool false)]) else (.to (.h0 (IntKind.wrap .i64 (v13 + 1))))) else .stuck) else .stuck) else (.ret [(.bool true)]))
def z5w (l0 : List R6) (l1 : List R6) : Wu eqcS := (bif ((l0.length : Int) != (l1.length : Int)) then (.ret [(.bool false)]) else (.to (.h0 0)))
theorem x9z (l0 : List R6) (l1 : List R6) : ∀ s, Wm prog (Zy prog 109) (eqcC l0 l1) (eqcC l0 l1 s) (z4k l0 l1 s)
 | .h0 v13 => (lb (fun k0 => (lo fun aG => (lo fun aT => (lb (fun k1 => (lr 26 109 [1, 1, 0, 1, 0, 0, 1, 1, 0, 0, 1, 1, 0, 0] 1 3 [(4, (.bool false))] (sl Zq 21 [] ⟨[], [], [some [4]], []⟩ ⟨[], [], []⟩ [true, true] (tt k1 (ww aT (ww aG (tt k0 nn))))))) (fun k1 => (sl Zq 24 [] ⟨[], [], eqcN0, eqcM0⟩ ⟨[], [], []⟩ [true, false] (tt k1 (ww aT (ww aG (tt k0 nn)))))))))) (fun k0 => (lr 26 3 [1, 1, 1, 1, 1, 1, 0] 1 3 [(4, (.bool true))] (sl Zq 11 [] ⟨[], [], [some [4]], []⟩ ⟨[], [], []⟩ [false] (tt k0 nn)))))
theorem x3n (l0 : List R6) (l1 : List R6) : Wm prog (Zy prog 109) (eqcC l0 l1) (Zd prog 109 [(.dat l0.length (Zz l0)), (.dat l1.length (Zz l1))] true []) (z5w l0 l1) := (lb (fun k0 => (lr 26 109 [1, 0, 1, 0, 0] 1 3 [(4, (.bool false))] (sl Zq 18 [] ⟨[], [], [some [4]], []⟩ ⟨[], [], []⟩ [true] (tt k0 nn)))) (fun k0 => (sl Zq 24 [] ⟨[], [], eqcN0, eqcM0⟩ ⟨[], [], []⟩ [false] (tt k0 nn))))
theorem v1a (l0 : List R6) (l1 : List R6) (n : Nat) (vs : List AVal) (h : Yj (z4k l0 l1) n (z5w l0 l1) = .ret vs) : Kv prog (Zy prog 109) (Zd prog 109 [(.dat l0.length (Zz l0)), (.dat l1.length (Zz l1))] true []) vs := by
 have := Zn (x9z l0 l1) n _ (x3n l0 l1)
 rwa [h] at this
inductive holS where
def holC (x0 : Int) (x1 : Bool) (x2 : Bool) : holS → Cfg
 := nofun
def x2s (x0 : Int) (x1 : Bool) (x2 : Bool) : holS → Wu holS
 := nofun
def z9r (x0 : Int) (x1 : Bool) (x2 : Bool) : Wu holS := (bif (x0 == 1) then (bif x1 then (.ret [(.bool x2)]) else (.ret [(.bool false)])) else (bif (x0 == 2) then (bif x1 then (.ret [(.bool true)]) else (.ret [(.bool x2)])) else (bif x1 then (.ret [(.bool (!x2))]) else (.ret [(.bool false)]))))
theorem x9j (x0 : Int) (x1 : Bool) (x2 : Bool) : ∀ s, Wm prog (Zy prog 137) (holC x0 x1 x2) (holC x0 x1 x2 s) (x2s x0 x1 x2 s)
 := nofun
theorem x2t (x0 : Int) (x1 : Bool) (x2 : Bool) : Wm prog (Zy prog 137) (holC x0 x1 x2) (Zd prog 137 [(.int .i64 x0), (.bool x1), (.bool x2)] true []) (z9r x0 x1 x2) := (lb (fun k0 => (lb (fun k1 => (lr 24 137 [1, 0, 1, 0, 0] 1 4 [(6, (.bool x2))] (sl Zq 19 [] ⟨[], [], [some [6]], []⟩ ⟨[], [], []⟩ [true, true] (tt k1 (tt k0 nn))))) (fun k1 => (lr 24 137 [1, 0, 1, 0, 0] 1 4 [(6, (.bool false))] (sl Zq 19 [] ⟨[], [], [some [6]], []⟩ ⟨[], [], []⟩ [true, false] (tt k1 (tt k0 nn))))))) (fun k0 => (lb (fun k1 => (lb (fun k2 => (lr 24 137 [1, 1, 0, 1, 0, 0] 1 4 [(6, (.bool true))] (sl Zq 27 [] ⟨[], [], [some [6]], []⟩ ⟨[], [], []⟩ [false, true, true] (tt k2 (tt k1 (tt k0 nn)))))) (fun k2 => (lr 24 137 [1, 1, 0, 1, 0, 0] 1 4 [(6, (.bool x2))] (sl Zq 27 [] ⟨[], [], [some [6]], []⟩ ⟨[], [], []⟩ [false, true, false] (tt k2 (tt k1 (tt k0 nn)))))))) (fun k1 => (lb (fun k2 => (lr 24 3 [1, 1, 1, 1, 1, 1, 0] 1 4 [(6, (.bool (!x2)))] (sl Zq 29 [] ⟨[], [], [some [6]], []⟩ ⟨[], [], []⟩ [false, false, true, true] (tt k2 (tt k1 (tt k0 nn)))))) (fun k2 => (lr 24 3 [1, 1, 1, 1, 1, 1, 0] 1 4 [(6, (.bool false))] (sl Zq 29 [] ⟨[], [], [some [6]], []⟩ ⟨[], [], []⟩ [false, false, false, false] (tt k2 (tt k1 (tt k0 nn)))))))))))
theorem v0g (x0 : Int) (x1 : Bool) (x2 : Bool) (n : Nat) (vs : List AVal) (h : Yj (x2s x0 x1 x2) n (z9r x0 x1 x2) = .ret vs) : Kv prog (Zy prog 137) (Zd prog 137 [(.int .i64 x0), (.bool x1), (.bool x2)] true []) vs := by
 have := Zn (x9j x0 x1 x2) n _ (x2t x0 x1 x2)
 rwa [h] at this
inductive fstS where
def fstC (x0 : Bool) (x1 : Bool) : fstS → Cfg
 := nofun
def x3i (x0 : Bool) (x1 : Bool) : fstS → Wu fstS
 := nofun
def y6g (x0 : Bool) (x1 : Bool) : Wu fstS := (.ret [(.bool x0)])
theorem x9r (x0 : Bool) (x1 : Bool) : ∀ s, Wm prog (Zy prog 189) (fstC x0 x1) (fstC x0 x1 s) (x3i x0 x1 s)
 := nofun
theorem x3j (x0 : Bool) (x1 : Bool) : Wm prog (Zy prog 189) (fstC x0 x1) (Zd prog 189 [(.bool x0), (.bool x1)] true []) (y6g x0 x1) := (lr 6 3 [1, 1, 1, 1, 1, 1, 0] 1 3 [(4, (.bool x0))] (sl Zq 9 [] ⟨[], [], [some [4]], []⟩ ⟨[], [], []⟩ [] nn))
theorem v0o (x0 : Bool) (x1 : Bool) (n : Nat) (vs : List AVal) (h : Yj (x3i x0 x1) n (y6g x0 x1) = .ret vs) : Kv prog (Zy prog 189) (Zd prog 189 [(.bool x0), (.bool x1)] true []) vs := by
 have := Zn (x9r x0 x1) n _ (x3j x0 x1)
 rwa [h] at this
end Go.Am
namespace Go.Am
theorem Zt {a b : Int} (h : a < b) : decide (a < b) = true := decide_eq_true h
theorem Zo {a b : Int} (h : ¬ a < b) : decide (a < b) = false := decide_eq_false h
theorem Xe {a b : Int} (h : a ≤ b) : decide (a ≤ b) = true := decide_eq_true h
theorem u0q {a b : Int} (h : ¬ a ≤ b) : decide (a ≤ b) = false := decide_eq_false h
theorem Yf {a b : Int} (h : a > b) : decide (a > b) = true := decide_eq_true h
theorem Xx {a b : Int} (h : ¬ a > b) : decide (a > b) = false := decide_eq_false h
theorem z6e {a b : Int} (h : a ≥ b) : decide (a ≥ b) = true := decide_eq_true h
theorem z7n {a b : Int} (h : ¬ a ≥ b) : decide (a ≥ b) = false := decide_eq_false h
theorem Ym {a b : Nat} (h : a < b) : decide (a < b) = true := decide_eq_true h
theorem Ye {a b : Nat} (h : a ≤ b) : decide (a ≤ b) = true := decide_eq_true h
theorem Yg {a b : Nat} (h : a = b) : decide (a = b) = true := decide_eq_true h
theorem Yy {a b : Int} (h : 0 ≤ a ∧ a < b) : decide (0 ≤ a ∧ a < b) = true := decide_eq_true h
theorem Zr {a : Nat} (h : a ≤ 1099511627776) : decide (a ≤ Uq) = true := decide_eq_true h
theorem Zj {n : Int} (h : -9223372036854775808 ≤ n ∧ n ≤ 9223372036854775807) : IntKind.wrap .i64 n = n := w_in h.1 h.2
theorem y3e : ((0 : Nat) : Int) = 0 := rfl
theorem Zw (i : Nat) : (i : Int) + 1 = ((i + 1 : Nat) : Int) := rfl
theorem Zh (i : Nat) : ((i + 1 : Nat) : Int) - 1 = (i : Int) := by omega
theorem Qk {a b : Int} (h : a ≠ b) : (a != b) = true := by simp [h]
theorem Qq {a b : Int} (h : a = b) : (a != b) = false := by simp [h]
theorem x6x {a b : Int} (h : a = b) : (a == b) = true := by simp [h]
theorem z6k {a b : Int} (h : a ≠ b) : (a == b) = false := by simp [h]
theorem Ya (n : Nat) : Nat.beq n n = true := Nat.beq_refl n
theorem Zk (n : Nat) : Int.toNat (n : Int) = n := Int.toNat_natCast n
theorem w6e : (!true) = false := rfl
theorem w6f : (!false) = true := rfl
theorem Yr (b : Bool) : b = true ∨ b = false := by cases b <;> simp
theorem Yi {α : Type} [Ys α] {L : List α} {i : Nat} (h : i < L.length) : L.drop i = rd L i :: L.drop (i + 1) := by
 rw [Xi h]; exact List.drop_eq_getElem_cons h
theorem z2m {P : Program} {S : Specs} (hS : Zu P S) {f : FuncId} {F : List AVal → Option (AVal × Bool)} (hf : (P.funcs[f]?).any (fun fn => fn.body.isSome) = true)
  (hF : ∀ args v, F args = some (v, true) → ∃ bs vs, We VLe args bs ∧ Qz vs = v ∧ Kv P (Zy P f) (Zd P f bs true []) vs ∧ ∃ d, pf d v = true) : Zu P (S.with f F) := x7f hS hf hF
end Go.Am
namespace Go.Am
open Go.Proofs
def x1v (out : List Int) (x : Int) : Nat → Nat
 | 0 => 0
 | k + 1 => bif decide (rd out k > x) then x1v out x k else k + 1
def y1i (out : List Int) (x : Int) : List Int :=
 match x1v out x out.length with
 | 0 => x :: out
 | k + 1 => bif rd out k == x then out else out.take (k + 1) ++ x :: out.drop (k + 1)
def z1u (l : List Int) : List Int := l.foldl y1i []
def Jf (l : List Int) : Bool := decide (l.length ≤ 100000)
theorem y1h (out : List Int) (x : Int) : (y1i out x).length ≤ out.length + 1 := by
 unfold y1i
 split
 ·simp
 ·rename_i k _
  cases (rd out k == x) <;> simp <;> omega
theorem y1g (out : List Int) (x : Int) (k : Nat) (hk : k ≤ out.length) :
  (z3m (out ++ [0]) (k + 1) (Nat.min (out.length + 1 - k) (out.length + 1 - (k + 1))) (Vs (out ++ [0]) k (out.length + 1 - k))).set k x = out.take k ++ x :: out.drop k := by
 have hm : Nat.min (out.length + 1 - k) (out.length + 1 - (k + 1)) = out.length - k := by
  show min _ _ = _
  omega
 rw [hm]
 apply List.ext_getElem
 ·simp [Ug]; omega
 ·intro i h1 h2
  have hi : i < out.length + 1 := by simpa [Ug] using h1
  rw [← Xi h1, ← Xi h2]
  rw [v3i (by simpa [Ug] using hi)]
  by_cases e : i = k
  ·subst e
   rw [if_pos rfl, Ws (by simp only [List.length_take]; omega), Xi (by simp; omega)]
   simp [Nat.min_eq_left hk]
  ·rw [if_neg e, w3c (by simpa using hi)]
   by_cases h : i < k
   ·rw [v1r (show ¬ k + 1 ≤ i by omega), Bool.false_and, cond_false, Vp (by omega), Vp (by simp; omega)]
    rw [Xi (by omega), Xi (by simp; omega), List.getElem_take]
   ·rw [w6g (show k + 1 ≤ i by omega), w6g (show i + 1 ≤ k + 1 + (out.length - k) by omega), Bool.true_and, cond_true, y5j (by omega), Vp (by omega)]
    rw [Ws (by simp; omega), Xi (by omega), Xi (by simp; omega)]
    obtain ⟨j, rfl⟩ : ∃ j, i = k + 1 + j := ⟨i - k - 1, by omega⟩
    simp only [List.length_take, Nat.min_eq_left hk]
    rw [List.getElem_cons, dif_neg (by omega), List.getElem_drop]
    congr 1
theorem x5e (l : List Int) (out : List Int) (i : Nat) (hi : i < l.length) (hl : l.length ≤ 100000) (ho : out.length ≤ i) : ∀ (k N : Nat), k ≤ out.length →
  (x1v out (rd l i) out.length = x1v out (rd l i) k) → ∃ m, ∀ N, Yj (Vv l) (N + m) (.to (.h1 out (i : Int) (k : Int))) = Yj (Vv l) N (.to (.h0 (y1i out (rd l i)) ((i + 1 : Nat) : Int)))
 | 0, N, hk, hp => by
  refine ⟨1, fun N => ?_⟩
  have hins : y1i out (rd l i) = (z3m (out ++ [0]) (0 + 1) (Nat.min (out.length + 1 - 0) (out.length + 1 - (0 + 1))) (Vs (out ++ [0]) 0 (out.length + 1 - 0))).set 0 (rd l i) := by
   rw [y1g out _ 0 (Nat.zero_le _)]
   unfold y1i
   rw [hp]; rfl
  rw [hins, Zv]
  simp (disch := omega) only [Vv, Zr, decide_true, Xx, Zt, Xe, Ym, Ye, Yg, Yy, Zj, Zw, Ya, Zk, Nat.zero_add, Bool.and_true, Bool.true_and, cond_true, cond_false]
 | k + 1, N, hk, hp => by
  rcases Yr (decide (rd out k > rd l i)) with h | h
  ·have hp' : x1v out (rd l i) out.length = x1v out (rd l i) k := by rw [hp]; conv => lhs; unfold x1v; rw [h, cond_true]
   obtain ⟨m, hm⟩ := x5e l out i hi hl ho k N (by omega) hp'
   refine ⟨m + 1, fun N => ?_⟩
   rw [← hm N, ← Nat.add_assoc, Zv]
   simp (disch := omega) only [Vv, Zh, h, Zr, decide_true, Yf, Zt, Xe, Ym, Ye, Yg, Yy, Zj, Zw, Ya, Zk, Nat.zero_add, Bool.and_true, Bool.true_and, cond_true, cond_false]
  ·have hpk : x1v out (rd l i) out.length = k + 1 := by rw [hp]; unfold x1v; rw [h]; rfl
   refine ⟨1, fun N => ?_⟩
   rw [Zv]
   rcases Yr (rd out k == rd l i) with q | q
   ·have hins : y1i out (rd l i) = out := by unfold y1i; rw [hpk]; simp only [q, cond_true]
    rw [hins]
    simp (disch := omega) only [Vv, Zh, h, q, Zr, decide_true, Yf, Zt, Xe, Ym, Ye, Yg, Yy, Zj, Zw, Ya, Zk, Nat.zero_add, Bool.and_true, Bool.true_and, cond_true, cond_false]
   ·have hins : y1i out (rd l i) = (z3m (out ++ [0]) (k + 1 + 1) (Nat.min (out.length + 1 - (k + 1)) (out.length + 1 - (k + 1 + 1))) (Vs (out ++ [0]) (k + 1) (out.length + 1 - (k + 1)))).set (k + 1) (rd l i) := by
     rw [y1g out _ (k + 1) hk]
     unfold y1i
     rw [hpk]; simp only [q, cond_false]
    rw [hins]
    simp (disch := omega) only [Vv, Zh, h, q, Zr, decide_true, Yf, Zt, Xe, Ym, Ye, Yg, Yy, Zj, Zw, Ya, Zk, Nat.zero_add, Bool.and_true, Bool.true_and, cond_true, cond_false]
theorem x5f (l : List Int) (hl : l.length ≤ 100000) : ∀ (k i : Nat) (out : List Int), i + k = l.length → out.length ≤ i → ∃ m, Yj (Vv l) m (.to (.h0 out (i : Int))) = .ret [.dat ((l.drop i).foldl y1i out).length (Zz ((l.drop i).foldl y1i out))]
 | 0, i, out, h, ho => by
  refine ⟨1, ?_⟩
  rw [Zv]
  simp (disch := omega) only [Vv, Zo, cond_false]
  rw [List.drop_eq_nil_of_le (by omega)]; rfl
 | k + 1, i, out, h, ho => by
  obtain ⟨m1, h1⟩ := x5e l out i (by omega) hl ho out.length 0 (Nat.le_refl _) rfl
  obtain ⟨m2, h2⟩ := x5f l hl k (i + 1) (y1i out (rd l i)) (by omega) (Nat.le_trans (y1h _ _) (by omega))
  refine ⟨m2 + m1 + 1, ?_⟩
  rw [Zv]
  simp (disch := omega) only [Vv, Zt, cond_true]
  rw [h1 m2, h2, Yi (show i < l.length by omega)]; rfl
theorem w2k (l : List Int) (h : Jf l = true) : ∃ N, Yj (Vv l) N (z2t l) = .ret [.dat (z1u l).length (Zz (z1u l))] := by
 have := x5f l (of_decide_eq_true h) l.length 0 [] (by omega) (Nat.le_refl _)
 simpa [z2t, z1u] using this
end Go.Am
namespace Go.Am
open Go.Proofs
theorem Zc (n : Nat) : Int.toNat ((n : Int) - 1) = n - 1 := by omega
theorem w8y (x y : R2) : ((x.a == y.a) && (x.b == y.b)) = decide (x = y) := by
 obtain ⟨a, b⟩ := x; obtain ⟨c, d⟩ := y
 rw [Bool.eq_iff_iff]; simp
theorem w8x (x y : R4) : ((x.a == y.a) && ((x.b == y.b) && ((x.c == y.c) && (x.d == y.d)))) = decide (x = y) := by
 obtain ⟨a, b, c, d⟩ := x; obtain ⟨e, f, g, h⟩ := y
 rw [Bool.eq_iff_iff]; simp
theorem w8w (x y : R6) : (((x.a == y.a) && ((x.b == y.b) && (x.c == y.c))) && ((x.d == y.d) && ((x.e == y.e) && (x.f == y.f)))) = decide (x = y) := by
 obtain ⟨a, b, c, d, e, f⟩ := x; obtain ⟨a', b', c', d', e', f'⟩ := y
 rw [Bool.eq_iff_iff]; simp [and_assoc]
def Qn (l m : List R2) : Bool := decide (l = m)
def Qi (l m : List R4) : Bool := decide (l = m)
def Ky (l m : List R6) : Bool := decide (l = m)
def Uk (l m : List R2) : Bool := decide (l.length ≤ 1000000)
def Uj (l m : List R4) : Bool := decide (l.length ≤ 1000000)
def Uu (l m : List R6) : Bool := decide (l.length ≤ 1000000)
theorem z3e {α : Type} [DecidableEq α] (x y : α) (l m : List α) : decide (x :: l = y :: m) = (decide (x = y) && decide (l = m)) := by
 rw [← Bool.decide_and]; congr 1; simp
theorem v2s (l m : List R2) (hl : l.length ≤ 1000000) (hm : l.length = m.length) : ∀ (k i : Nat), i + k = l.length → ∃ N, Yj (z4a l m) N (.to (.h0 (i : Int))) = .ret [.bool (decide (l.drop i = m.drop i))]
 | 0, i, h => by
  refine ⟨1, ?_⟩
  rw [Zv, List.drop_eq_nil_of_le (show l.length ≤ i by omega), List.drop_eq_nil_of_le (show m.length ≤ i by omega)]
  simp (disch := omega) only [z4a, Xx, Yf, Zt, Zo, Xe, Ym, Ye, Yg, Yy, Zj, Zr, Qk, Qq, decide_true, Zw, Zh, Zc, Ya, Zk, Nat.zero_add, Bool.and_true, Bool.true_and, cond_true, cond_false, Bool.not_true, Bool.not_false, Zp]
 | k + 1, i, h => by
  obtain ⟨N, hN⟩ := v2s l m hl hm k (i + 1) (by omega)
  refine ⟨N + 1, ?_⟩
  rw [Zv, Yi (show i < l.length by omega), Yi (show i < m.length by omega), z3e]
  rcases Yr (decide (rd l i = rd m i)) with q | q
  ·simp (disch := omega) only [z4a, w8y, q, Xx, Yf, Zt, Zo, Xe, Ym, Ye, Yg, Yy, Zj, Zr, Qk, Qq, decide_true, Zw, Zh, Zc, Ya, Zk, Nat.zero_add, Bool.and_true, Bool.true_and, cond_true, cond_false, Bool.not_true, Bool.not_false, Zp]
   exact hN
  ·simp (disch := omega) only [z4a, w8y, q, Xx, Yf, Zt, Zo, Xe, Ym, Ye, Yg, Yy, Zj, Zr, Qk, Qq, decide_true, Zw, Zh, Zc, Ya, Zk, Nat.zero_add, Bool.and_true, Bool.true_and, cond_true, cond_false, Bool.not_true, Bool.not_false, Zp, Bool.false_and]
theorem v6r (l m : List R2) (h : Uk l m = true) : ∃ N, Yj (z4a l m) N (z4z l m) = .ret [.bool (Qn l m)] := by
 have hl : l.length ≤ 1000000 := of_decide_eq_true h
 by_cases hm : l.length = m.length
 ·obtain ⟨N, hN⟩ := v2s l m hl hm l.length 0 (Nat.zero_add _)
  refine ⟨N, ?_⟩
  unfold z4z
  rw [Qq (show (l.length : Int) = (m.length : Nat) by omega)]
  exact hN
 ·refine ⟨0, ?_⟩
  unfold z4z
  rw [Qk (show (l.length : Int) ≠ (m.length : Nat) by omega)]
  have : Qn l m = false := decide_eq_false fun e => hm (by rw [e])
  rw [this]; rfl
theorem v2r (l m : List R4) (hl : l.length ≤ 1000000) (hm : l.length = m.length) : ∀ (k i : Nat), i + k = l.length → ∃ N, Yj (z3z l m) N (.to (.h0 (i : Int))) = .ret [.bool (decide (l.drop i = m.drop i))]
 | 0, i, h => by
  refine ⟨1, ?_⟩
  rw [Zv, List.drop_eq_nil_of_le (show l.length ≤ i by omega), List.drop_eq_nil_of_le (show m.length ≤ i by omega)]
  simp (disch := omega) only [z3z, Xx, Yf, Zt, Zo, Xe, Ym, Ye, Yg, Yy, Zj, Zr, Qk, Qq, decide_true, Zw, Zh, Zc, Ya, Zk, Nat.zero_add, Bool.and_true, Bool.true_and, cond_true, cond_false, Bool.not_true, Bool.not_false, Zp]
 | k + 1, i, h => by
  obtain ⟨N, hN⟩ := v2r l m hl hm k (i + 1) (by omega)
  refine ⟨N + 1, ?_⟩
  rw [Zv, Yi (show i < l.length by omega), Yi (show i < m.length by omega), z3e]
  rcases Yr (decide (rd l i = rd m i)) with q | q
  ·simp (disch := omega) only [z3z, w8x, q, Xx, Yf, Zt, Zo, Xe, Ym, Ye, Yg, Yy, Zj, Zr, Qk, Qq, decide_true, Zw, Zh, Zc, Ya, Zk, Nat.zero_add, Bool.and_true, Bool.true_and, cond_true, cond_false, Bool.not_true, Bool.not_false, Zp]
   exact hN
  ·simp (disch := omega) only [z3z, w8x, q, Xx, Yf, Zt, Zo, Xe, Ym, Ye, Yg, Yy, Zj, Zr, Qk, Qq, decide_true, Zw, Zh, Zc, Ya, Zk, Nat.zero_add, Bool.and_true, Bool.true_and, cond_true, cond_false, Bool.not_true, Bool.not_false, Zp, Bool.false_and]
theorem v6q (l m : List R4) (h : Uj l m = true) : ∃ N, Yj (z3z l m) N (z4y l m) = .ret [.bool (Qi l m)] := by
 have hl : l.length ≤ 1000000 := of_decide_eq_true h
 by_cases hm : l.length = m.length
 ·obtain ⟨N, hN⟩ := v2r l m hl hm l.length 0 (Nat.zero_add _)
  refine ⟨N, ?_⟩
  unfold z4y
  rw [Qq (show (l.length : Int) = (m.length : Nat) by omega)]
  exact hN
 ·refine ⟨0, ?_⟩
  unfold z4y
  rw [Qk (show (l.length : Int) ≠ (m.length : Nat) by omega)]
  have : Qi l m = false := decide_eq_false fun e => hm (by rw [e])
  rw [this]; rfl
theorem v2t (l m : List R6) (hl : l.length ≤ 1000000) (hm : l.length = m.length) : ∀ (k i : Nat), i + k = l.length → ∃ N, Yj (z4b l m) N (.to (.h0 (i : Int))) = .ret [.bool (decide (l.drop i = m.drop i))]
 | 0, i, h => by
  refine ⟨1, ?_⟩
  rw [Zv, List.drop_eq_nil_of_le (show l.length ≤ i by omega), List.drop_eq_nil_of_le (show m.length ≤ i by omega)]
  simp (disch := omega) only [z4b, Xx, Yf, Zt, Zo, Xe, Ym, Ye, Yg, Yy, Zj, Zr, Qk, Qq, decide_true, Zw, Zh, Zc, Ya, Zk, Nat.zero_add, Bool.and_true, Bool.true_and, cond_true, cond_false, Bool.not_true, Bool.not_false, Zp]
 | k + 1, i, h => by
  obtain ⟨N, hN⟩ := v2t l m hl hm k (i + 1) (by omega)
  refine ⟨N + 1, ?_⟩
  rw [Zv, Yi (show i < l.length by omega), Yi (show i < m.length by omega), z3e]
  rcases Yr (decide (rd l i = rd m i)) with q | q
  ·simp (disch := omega) only [z4b, w8w, q, Xx, Yf, Zt, Zo, Xe, Ym, Ye, Yg, Yy, Zj, Zr, Qk, Qq, decide_true, Zw, Zh, Zc, Ya, Zk, Nat.zero_add, Bool.and_true, Bool.true_and, cond_true, cond_false, Bool.not_true, Bool.not_false, Zp]
   exact hN
  ·simp (disch := omega) only [z4b, w8w, q, Xx, Yf, Zt, Zo, Xe, Ym, Ye, Yg, Yy, Zj, Zr, Qk, Qq, decide_true, Zw, Zh, Zc, Ya, Zk, Nat.zero_add, Bool.and_true, Bool.true_and, cond_true, cond_false, Bool.not_true, Bool.not_false, Zp, Bool.false_and]
theorem v6s (l m : List R6) (h : Uu l m = true) : ∃ N, Yj (z4b l m) N (z5a l m) = .ret [.bool (Ky l m)] := by
 have hl : l.length ≤ 1000000 := of_decide_eq_true h
 by_cases hm : l.length = m.length
 ·obtain ⟨N, hN⟩ := v2t l m hl hm l.length 0 (Nat.zero_add _)
  refine ⟨N, ?_⟩
  unfold z5a
  rw [Qq (show (l.length : Int) = (m.length : Nat) by omega)]
  exact hN
 ·refine ⟨0, ?_⟩
  unfold z5a
  rw [Qk (show (l.length : Int) ≠ (m.length : Nat) by omega)]
  have : Ky l m = false := decide_eq_false fun e => hm (by rw [e])
  rw [this]; rfl
theorem v4z (l m : List R2) (hl : l.length ≤ 1000000) (hm : l.length = m.length) : ∀ (k i : Nat), i + k = l.length → ∃ N, Yj (z4m l m) N (.to (.h0 (i : Int))) = .ret [.bool (decide (l.drop i = m.drop i))]
 | 0, i, h => by
  refine ⟨1, ?_⟩
  rw [Zv, List.drop_eq_nil_of_le (show l.length ≤ i by omega), List.drop_eq_nil_of_le (show m.length ≤ i by omega)]
  simp (disch := omega) only [z4m, Xx, Yf, Zt, Zo, Xe, Ym, Ye, Yg, Yy, Zj, Zr, Qk, Qq, decide_true, Zw, Zh, Zc, Ya, Zk, Nat.zero_add, Bool.and_true, Bool.true_and, cond_true, cond_false, Bool.not_true, Bool.not_false, Zp]
 | k + 1, i, h => by
  obtain ⟨N, hN⟩ := v4z l m hl hm k (i + 1) (by omega)
  refine ⟨N + 1, ?_⟩
  rw [Zv, Yi (show i < l.length by omega), Yi (show i < m.length by omega), z3e]
  rcases Yr (decide (rd l i = rd m i)) with q | q
  ·simp (disch := omega) only [z4m, w8y, q, Xx, Yf, Zt, Zo, Xe, Ym, Ye, Yg, Yy, Zj, Zr, Qk, Qq, decide_true, Zw, Zh, Zc, Ya, Zk, Nat.zero_add, Bool.and_true, Bool.true_and, cond_true, cond_false, Bool.not_true, Bool.not_false, Zp]
   exact hN
  ·simp (disch := omega) only [z4m, w8y, q, Xx, Yf, Zt, Zo, Xe, Ym, Ye, Yg, Yy, Zj, Zr, Qk, Qq, decide_true, Zw, Zh, Zc, Ya, Zk, Nat.zero_add, Bool.and_true, Bool.true_and, cond_true, cond_false, Bool.not_true, Bool.not_false, Zp, Bool.false_and]
theorem u0l (l m : List R2) (h : Uk l m = true) : ∃ N, Yj (z4m l m) N (z5y l m) = .ret [.bool (Qn l m)] := by
 have hl : l.length ≤ 1000000 := of_decide_eq_true h
 by_cases hm : l.length = m.length
 ·obtain ⟨N, hN⟩ := v4z l m hl hm l.length 0 (Nat.zero_add _)
  refine ⟨N, ?_⟩
  unfold z5y
  rw [Qq (show (l.length : Int) = (m.length : Nat) by omega)]
  exact hN
 ·refine ⟨0, ?_⟩
  unfold z5y
  rw [Qk (show (l.length : Int) ≠ (m.length : Nat) by omega)]
  have : Qn l m = false := decide_eq_false fun e => hm (by rw [e])
  rw [this]; rfl
theorem v4y (l m : List R4) (hl : l.length ≤ 1000000) (hm : l.length = m.length) : ∀ (k i : Nat), i + k = l.length → ∃ N, Yj (z4l l m) N (.to (.h0 (i : Int))) = .ret [.bool (decide (l.drop i = m.drop i))]
 | 0, i, h => by
  refine ⟨1, ?_⟩
  rw [Zv, List.drop_eq_nil_of_le (show l.length ≤ i by omega), List.drop_eq_nil_of_le (show m.length ≤ i by omega)]
  simp (disch := omega) only [z4l, Xx, Yf, Zt, Zo, Xe, Ym, Ye, Yg, Yy, Zj, Zr, Qk, Qq, decide_true, Zw, Zh, Zc, Ya, Zk, Nat.zero_add, Bool.and_true, Bool.true_and, cond_true, cond_false, Bool.not_true, Bool.not_false, Zp]
 | k + 1, i, h => by
  obtain ⟨N, hN⟩ := v4y l m hl hm k (i + 1) (by omega)
  refine ⟨N + 1, ?_⟩
  rw [Zv, Yi (show i < l.length by omega), Yi (show i < m.length by omega), z3e]
  rcases Yr (decide (rd l i = rd m i)) with q | q
  ·simp (disch := omega) only [z4l, w8x, q, Xx, Yf, Zt, Zo, Xe, Ym, Ye, Yg, Yy, Zj, Zr, Qk, Qq, decide_true, Zw, Zh, Zc, Ya, Zk, Nat.zero_add, Bool.and_true, Bool.true_and, cond_true, cond_false, Bool.not_true, Bool.not_false, Zp]
   exact hN
  ·simp (disch := omega) only [z4l, w8x, q, Xx, Yf, Zt, Zo, Xe, Ym, Ye, Yg, Yy, Zj, Zr, Qk, Qq, decide_true, Zw, Zh, Zc, Ya, Zk, Nat.zero_add, Bool.and_true, Bool.true_and, cond_true, cond_false, Bool.not_true, Bool.not_false, Zp, Bool.false_and]
theorem u0k (l m : List R4) (h : Uj l m = true) : ∃ N, Yj (z4l l m) N (z5x l m) = .ret [.bool (Qi l m)] := by
 have hl : l.length ≤ 1000000 := of_decide_eq_true h
 by_cases hm : l.length = m.length
 ·obtain ⟨N, hN⟩ := v4y l m hl hm l.length 0 (Nat.zero_add _)
  refine ⟨N, ?_⟩
  unfold z5x
  rw [Qq (show (l.length : Int) = (m.length : Nat) by omega)]
  exact hN
 ·refine ⟨0, ?_⟩
  unfold z5x
  rw [Qk (show (l.length : Int) ≠ (m.length : Nat) by omega)]
  have : Qi l m = false := decide_eq_false fun e => hm (by rw [e])
  rw [this]; rfl
theorem v4x (l m : List R6) (hl : l.length ≤ 1000000) (hm : l.length = m.length) : ∀ (k i : Nat), i + k = l.length → ∃ N, Yj (z4k l m) N (.to (.h0 (i : Int))) = .ret [.bool (decide (l.drop i = m.drop i))]
 | 0, i, h => by
  refine ⟨1, ?_⟩
  rw [Zv, List.drop_eq_nil_of_le (show l.length ≤ i by omega), List.drop_eq_nil_of_le (show m.length ≤ i by omega)]
  simp (disch := omega) only [z4k, Xx, Yf, Zt, Zo, Xe, Ym, Ye, Yg, Yy, Zj, Zr, Qk, Qq, decide_true, Zw, Zh, Zc, Ya, Zk, Nat.zero_add, Bool.and_true, Bool.true_and, cond_true, cond_false, Bool.not_true, Bool.not_false, Zp]
 | k + 1, i, h => by
  obtain ⟨N, hN⟩ := v4x l m hl hm k (i + 1) (by omega)
  refine ⟨N + 1, ?_⟩
  rw [Zv, Yi (show i < l.length by omega), Yi (show i < m.length by omega), z3e]
  rcases Yr (decide (rd l i = rd m i)) with q | q
  ·simp (disch := omega) only [z4k, w8w, q, Xx, Yf, Zt, Zo, Xe, Ym, Ye, Yg, Yy, Zj, Zr, Qk, Qq, decide_true, Zw, Zh, Zc, Ya, Zk, Nat.zero_add, Bool.and_true, Bool.true_and, cond_true, cond_false, Bool.not_true, Bool.not_false, Zp]
   exact hN
  ·simp (disch := omega) only [z4k, w8w, q, Xx, Yf, Zt, Zo, Xe, Ym, Ye, Yg, Yy, Zj, Zr, Qk, Qq, decide_true, Zw, Zh, Zc, Ya, Zk, Nat.zero_add, Bool.and_true, Bool.true_and, cond_true, cond_false, Bool.not_true, Bool.not_false, Zp, Bool.false_and]
theorem u0j (l m : List R6) (h : Uu l m = true) : ∃ N, Yj (z4k l m) N (z5w l m) = .ret [.bool (Ky l m)] := by
 have hl : l.length ≤ 1000000 := of_decide_eq_true h
 by_cases hm : l.length = m.length
 ·obtain ⟨N, hN⟩ := v4x l m hl hm l.length 0 (Nat.zero_add _)
  refine ⟨N, ?_⟩
  unfold z5w
  rw [Qq (show (l.length : Int) = (m.length : Nat) by omega)]
  exact hN
 ·refine ⟨0, ?_⟩
  unfold z5w
  rw [Qk (show (l.length : Int) ≠ (m.length : Nat) by omega)]
  have : Ky l m = false := decide_eq_false fun e => hm (by rw [e])
  rw [this]; rfl
def in4 (x y : Int) (r : R4) : Bool := decide (r.a ≤ x) && (decide (x < r.c) && (decide (r.b ≤ y) && decide (y < r.d)))
def has4V (l : List R4) (x y : Int) : Bool := l.any (in4 x y)
def Kf (l : List R4) (x y : Int) : Bool := decide (l.length ≤ 1000000)
theorem w2w (l : List R4) (x y : Int) (hl : l.length ≤ 1000000) : ∀ (k i : Nat), i + k = l.length → ∃ N, Yj (z2w l x y) N (.to (.h0 (i : Int))) = .ret [.bool ((l.drop i).any (in4 x y))]
 | 0, i, h => by
  refine ⟨1, ?_⟩
  rw [Zv, List.drop_eq_nil_of_le (show l.length ≤ i by omega)]
  simp (disch := omega) only [z2w, Xx, Yf, Zt, Zo, Xe, Ym, Ye, Yg, Yy, Zj, Zr, Qk, Qq, decide_true, Zw, Zh, Zc, Ya, Zk, Nat.zero_add, Bool.and_true, Bool.true_and, cond_true, cond_false, Bool.not_true, Bool.not_false, Zp]
  rfl
 | k + 1, i, h => by
  obtain ⟨N, hN⟩ := w2w l x y hl k (i + 1) (by omega)
  refine ⟨N + 1, ?_⟩
  rw [Zv, Yi (show i < l.length by omega), List.any_cons]
  unfold in4 at hN ⊢
  rcases Yr (decide ((rd l i).a ≤ x)) with q1 | q1 <;> rcases Yr (decide (x < (rd l i).c)) with q2 | q2 <;> rcases Yr (decide ((rd l i).b ≤ y)) with q3 | q3 <;> rcases Yr (decide (y < (rd l i).d)) with q4 | q4 <;>
   simp (disch := omega) only [z2w, q1, q2, q3, q4, Xx, Yf, Zt, Zo, Xe, Ym, Ye, Yg, Yy, Zj, Zr, Qk, Qq, decide_true, Zw, Zh, Zc, Ya, Zk, Nat.zero_add, Bool.and_true, Bool.true_and, cond_true, cond_false, Bool.not_true, Bool.not_false, Zp, Bool.false_and, Bool.and_false, Bool.false_or, Bool.true_or] <;> exact hN
theorem w8m (l : List R4) (x y : Int) (h : Kf l x y = true) : ∃ N, Yj (z2w l x y) N (z5e l x y) = .ret [.bool (has4V l x y)] := by
 have := w2w l x y (of_decide_eq_true h) l.length 0 (Nat.zero_add _)
 simpa [z5e, has4V] using this
def on6 (z : Int) (b : R6) : Bool := decide (b.c ≤ z) && decide (z < b.f)
def v9c (b : R6) : R4 := ⟨b.a, b.b, b.d, b.e⟩
def atV (l : List R6) (z : Int) : List R4 := (l.filter (on6 z)).map v9c
def z3h (l : List R6) (z : Int) : Bool := decide (l.length ≤ 1000000)
theorem w3o (l : List R6) (z : Int) (hl : l.length ≤ 1000000) : ∀ (k i : Nat) (out : List R4), i + k = l.length → out.length ≤ i → ∃ N, Yj (z4c l z) N (.to (.h0 out (i : Int))) = .ret [.dat (out ++ atV (l.drop i) z).length (Zz (out ++ atV (l.drop i) z))]
 | 0, i, out, h, ho => by
  refine ⟨1, ?_⟩
  rw [Zv, List.drop_eq_nil_of_le (show l.length ≤ i by omega)]
  simp (disch := omega) only [z4c, Xx, Yf, Zt, Zo, Xe, Ym, Ye, Yg, Yy, Zj, Zr, Qk, Qq, decide_true, Zw, Zh, Zc, Ya, Zk, Nat.zero_add, Bool.and_true, Bool.true_and, cond_true, cond_false, Bool.not_true, Bool.not_false, Zp, atV, List.filter_nil, List.map_nil, List.append_nil]
 | k + 1, i, out, h, ho => by
  rw [Yi (show i < l.length by omega)]
  have e : atV (rd l i :: l.drop (i + 1)) z = (bif on6 z (rd l i) then [v9c (rd l i)] else []) ++ atV (l.drop (i + 1)) z := by
   unfold atV; rw [List.filter_cons]; cases on6 z (rd l i) <;> rfl
  rw [e, ← List.append_assoc]
  rcases Yr (decide ((rd l i).c ≤ z)) with q1 | q1 <;> rcases Yr (decide (z < (rd l i).f)) with q2 | q2
  ·obtain ⟨N, hN⟩ := w3o l z hl k (i + 1) (out ++ [v9c (rd l i)]) (by omega) (by simp; omega)
   refine ⟨N + 1, ?_⟩
   rw [Zv]
   simp (disch := omega) only [z4c, q1, q2, on6, Xx, Yf, Zt, Zo, Xe, Ym, Ye, Yg, Yy, Zj, Zr, Qk, Qq, decide_true, Zw, Zh, Zc, Ya, Zk, Nat.zero_add, Bool.and_true, Bool.true_and, cond_true, cond_false, Bool.not_true, Bool.not_false, Zp]
   exact hN
  all_goals
   obtain ⟨N, hN⟩ := w3o l z hl k (i + 1) out (by omega) (by omega)
   refine ⟨N + 1, ?_⟩
   rw [Zv]
   simp (disch := omega) only [z4c, q1, q2, on6, Xx, Yf, Zt, Zo, Xe, Ym, Ye, Yg, Yy, Zj, Zr, Qk, Qq, decide_true, Zw, Zh, Zc, Ya, Zk, Nat.zero_add, Bool.and_true, Bool.true_and, cond_true, cond_false, Bool.not_true, Bool.not_false, Zp, Bool.false_and, Bool.and_false, List.append_nil]
   exact hN
theorem v7m (l : List R6) (z : Int) (h : z3h l z = true) : ∃ N, Yj (z4c l z) N (z9k l z) = .ret [.dat (atV l z).length (Zz (atV l z))] := by
 have := w3o l z (of_decide_eq_true h) l.length 0 [] (Nat.zero_add _) (Nat.le_refl _)
 simpa [z9k] using this
def w0z (cuts : List Int) (ins : List Bool) : Nat → Nat → List R2 → List R2
 | 0, _, out => out
 | k + 1, i, out => w0z cuts ins k (i + 1) (bif rd ins i then (bif decide (0 < out.length) && ((rd out (out.length - 1)).b == rd cuts i) then out.set (out.length - 1) ⟨(rd out (out.length - 1)).a, rd cuts (i + 1)⟩ else out ++ [⟨rd cuts i, rd cuts (i + 1)⟩]) else out)
def z8o (cuts : List Int) (ins : List Bool) : List R2 := w0z cuts ins (cuts.length - 1) 0 []
def z6j (cuts : List Int) (ins : List Bool) : Bool := decide (cuts.length ≤ 1000000 ∧ cuts.length ≤ ins.length + 1)
theorem y5l (cuts : List Int) (ins : List Bool) (hl : cuts.length ≤ 1000000) (hi : cuts.length ≤ ins.length + 1) : ∀ (k i : Nat) (out : List R2), k = cuts.length - 1 - i → i ≤ cuts.length → out.length ≤ i → ∃ N, Yj (Kq cuts ins) N (.to (.h0 out (i : Int))) = .ret [.dat (w0z cuts ins k i out).length (Zz (w0z cuts ins k i out))]
 | 0, i, out, h, hi2, ho => by
  refine ⟨1, ?_⟩
  rw [Zv]
  simp (disch := omega) only [Kq, Xx, Yf, Zt, Zo, Xe, Ym, Ye, Yg, Yy, Zj, Zr, Qk, Qq, decide_true, Zw, Zh, Zc, Ya, Zk, Nat.zero_add, Bool.and_true, Bool.true_and, cond_true, cond_false, Bool.not_true, Bool.not_false, Zp, w0z]
 | k + 1, i, out, h, hi2, ho => by
  unfold w0z
  rcases Yr (rd ins i) with q | q
  ·rcases Yr (decide (0 < out.length) && ((rd out (out.length - 1)).b == rd cuts i)) with q2 | q2
   ·obtain ⟨N, hN⟩ := y5l cuts ins hl hi k (i + 1) (out.set (out.length - 1) ⟨(rd out (out.length - 1)).a, rd cuts (i + 1)⟩) (by omega) (by omega) (by simp; omega)
    refine ⟨N + 1, ?_⟩
    rw [Zv, q, q2]
    simp only [Bool.and_eq_true, decide_eq_true_eq] at q2
    simp (disch := omega) only [Kq, q, q2.2, Xx, Yf, Zt, Zo, Xe, Ym, Ye, Yg, Yy, Zj, Zr, Qk, Qq, decide_true, Zw, Zh, Zc, Ya, Zk, Nat.zero_add, Bool.and_true, Bool.true_and, cond_true, cond_false, Bool.not_true, Bool.not_false, Zp]
    exact hN
   ·obtain ⟨N, hN⟩ := y5l cuts ins hl hi k (i + 1) (out ++ [⟨rd cuts i, rd cuts (i + 1)⟩]) (by omega) (by omega) (by simp; omega)
    refine ⟨N + 1, ?_⟩
    rw [Zv, q, q2]
    by_cases h0 : 0 < out.length
    ·rw [decide_eq_true h0, Bool.true_and] at q2
     simp (disch := omega) only [Kq, q, q2, Xx, Yf, Zt, Zo, Xe, Ym, Ye, Yg, Yy, Zj, Zr, Qk, Qq, decide_true, Zw, Zh, Zc, Ya, Zk, Nat.zero_add, Bool.and_true, Bool.true_and, cond_true, cond_false, Bool.not_true, Bool.not_false, Zp]
     exact hN
    ·simp (disch := omega) only [Kq, q, Xx, Yf, Zt, Zo, Xe, Ym, Ye, Yg, Yy, Zj, Zr, Qk, Qq, decide_true, Zw, Zh, Zc, Ya, Zk, Nat.zero_add, Bool.and_true, Bool.true_and, cond_true, cond_false, Bool.not_true, Bool.not_false, Zp]
     exact hN
  ·obtain ⟨N, hN⟩ := y5l cuts ins hl hi k (i + 1) out (by omega) (by omega) (by omega)
   refine ⟨N + 1, ?_⟩
   rw [Zv, q]
   simp (disch := omega) only [Kq, q, Xx, Yf, Zt, Zo, Xe, Ym, Ye, Yg, Yy, Zj, Zr, Qk, Qq, decide_true, Zw, Zh, Zc, Ya, Zk, Nat.zero_add, Bool.and_true, Bool.true_and, cond_true, cond_false, Bool.not_true, Bool.not_false, Zp]
   exact hN
theorem w8s (cuts : List Int) (ins : List Bool) (h : z6j cuts ins = true) : ∃ N, Yj (Kq cuts ins) N (z5k cuts ins) = .ret [.dat (z8o cuts ins).length (Zz (z8o cuts ins))] := by
 obtain ⟨h1, h2⟩ := of_decide_eq_true h
 have := y5l cuts ins h1 h2 (cuts.length - 1) 0 [] (by omega) (Nat.zero_le _) (Nat.le_refl _)
 simpa [z5k, z8o] using this
end Go.Am
namespace Go.Am
abbrev w4d : Nat := 133
abbrev v4j : Nat := 139
abbrev v3z : Nat := 140
abbrev v4g : Nat := 137
abbrev nHas4 : Nat := 138
abbrev v3y : Nat := 117
abbrev nXs : Nat := 135
abbrev nYs : Nat := 136
abbrev v4f : Nat := 115
abbrev v3x : Nat := 40
abbrev nAt : Nat := 116
abbrev nCuts : Nat := 114
abbrev v4e : Nat := 79
abbrev w4f : Nat := 64
abbrev nEq2 : Nat := 123
abbrev nEq4 : Nat := 82
abbrev nEq6 : Nat := 109
abbrev v3w : Nat := 192
abbrev x6a : Nat := 193
abbrev nSort : Nat := 119
abbrev x6b : Nat := 120
abbrev nFst : Nat := 189
abbrev y8s : Nat := 174
abbrev x5y : Nat := 130
abbrev w4e : Nat := 154
abbrev x5x : Nat := 153
abbrev x5w : Nat := 107
-- not there: gambrel/solid.contact
abbrev y8t : Nat := 72
abbrev w4i : Nat := 61
abbrev v4c : Nat := 62
abbrev w4h : Nat := 67
abbrev v4b : Nat := 63
abbrev nCont : Nat := 69
abbrev nRel : Nat := 70
abbrev v4d : Nat := 29
abbrev x5z : Nat := 20
-- not there: gambrel/gambrellaw28.valid
abbrev nHas6 : Nat := 48
abbrev w4g : Nat := 65
abbrev v4i : Nat := 66
abbrev y5r : Nat := 99
end Go.Am
namespace Go.Am
open Go.Proofs.Tryz
open Go.Proofs
def z0d (k : Int) (a b : Bool) : Bool := bif k == 1 then a && b else bif k == 2 then a || b else a && !b
def x6n (a b : Bool) : Bool := a
theorem v8r (k : Int) (a b : Bool) : ∃ N, Yj (x2s k a b) N (z9r k a b) = .ret [.bool (z0d k a b)] := by
 refine ⟨0, ?_⟩
 unfold z9r z0d
 cases a <;> cases b <;> rcases Yr (k == 1) with q | q <;> rcases Yr (k == 2) with q2 | q2 <;> rw [q] <;> (try rw [q2]) <;> rfl
theorem v9a (a b : Bool) : ∃ N, Yj (x3i a b) N (y6g a b) = .ret [.bool (x6n a b)] := ⟨0, rfl⟩
def fSrt : List AVal → Option (AVal × Bool)
 | [a0] => match asL Int a0 with
  | some (L0, g0, n0) => some (.dat (z1u L0).length (Zz (z1u L0)), isT Int n0 g0 && (Jf L0))
  | _ => none
 | _ => none
theorem v9i {S : Specs} (hS : Zu prog S) : Zu prog (S.with w4d fSrt) := by
 refine z2m hS (by kernel_rfl) fun args v h => ?_
 unfold fSrt at h
 split at h
 ·rename_i a0
  split at h
  ·rename_i L0 g0 n0 e0
   simp only [Option.some.injEq, Prod.mk.injEq, Bool.and_eq_true] at h
   obtain ⟨rfl, ho0, hw⟩ := h
   obtain ⟨N, hN⟩ := w2k L0 hw
   exact ⟨_, _, (.cons (Yx e0 ho0) .nil), rfl, x8f L0 N _ hN, 3, rfl⟩
  ·cases h
 ·cases h
def fCan : List AVal → Option (AVal × Bool)
 | [a0, a1] => match asL Int a0, asL Bool a1 with
  | some (L0, g0, n0), some (L1, g1, n1) => some (.dat (z8o L0 L1).length (Zz (z8o L0 L1)), isT Int n0 g0 && (isT Bool n1 g1 && (z6j L0 L1)))
  | _, _ => none
 | _ => none
theorem u0h {S : Specs} (hS : Zu prog S) : Zu prog (S.with v4j fCan) := by
 refine z2m hS (by kernel_rfl) fun args v h => ?_
 unfold fCan at h
 split at h
 ·rename_i a0 a1
  split at h
  ·rename_i L0 g0 n0 L1 g1 n1 e0 e1
   simp only [Option.some.injEq, Prod.mk.injEq, Bool.and_eq_true] at h
   obtain ⟨rfl, ho0, ho1, hw⟩ := h
   obtain ⟨N, hN⟩ := w8s L0 L1 hw
   exact ⟨_, _, (.cons (Yx e0 ho0) (.cons (Yx e1 ho1) .nil)), rfl, w3n L0 L1 N _ hN, 3, rfl⟩
  ·cases h
 ·cases h
def y4i : List AVal → Option (AVal × Bool)
 | [a0, a1] => match asL R2 a0, asL R2 a1 with
  | some (L0, g0, n0), some (L1, g1, n1) => some (.bool (Qn L0 L1), isT R2 n0 g0 && (isT R2 n1 g1 && (Uk L0 L1)))
  | _, _ => none
 | _ => none
theorem w5m {S : Specs} (hS : Zu prog S) : Zu prog (S.with v3z y4i) := by
 refine z2m hS (by kernel_rfl) fun args v h => ?_
 unfold y4i at h
 split at h
 ·rename_i a0 a1
  split at h
  ·rename_i L0 g0 n0 L1 g1 n1 e0 e1
   simp only [Option.some.injEq, Prod.mk.injEq, Bool.and_eq_true] at h
   obtain ⟨rfl, ho0, ho1, hw⟩ := h
   obtain ⟨N, hN⟩ := v6r L0 L1 hw
   exact ⟨_, _, (.cons (Yx e0 ho0) (.cons (Yx e1 ho1) .nil)), rfl, w8a L0 L1 N _ hN, 3, rfl⟩
  ·cases h
 ·cases h
def y4h : List AVal → Option (AVal × Bool)
 | [a0, a1] => match asL R4 a0, asL R4 a1 with
  | some (L0, g0, n0), some (L1, g1, n1) => some (.bool (Qi L0 L1), isT R4 n0 g0 && (isT R4 n1 g1 && (Uj L0 L1)))
  | _, _ => none
 | _ => none
theorem w5l {S : Specs} (hS : Zu prog S) : Zu prog (S.with v3y y4h) := by
 refine z2m hS (by kernel_rfl) fun args v h => ?_
 unfold y4h at h
 split at h
 ·rename_i a0 a1
  split at h
  ·rename_i L0 g0 n0 L1 g1 n1 e0 e1
   simp only [Option.some.injEq, Prod.mk.injEq, Bool.and_eq_true] at h
   obtain ⟨rfl, ho0, ho1, hw⟩ := h
   obtain ⟨N, hN⟩ := v6q L0 L1 hw
   exact ⟨_, _, (.cons (Yx e0 ho0) (.cons (Yx e1 ho1) .nil)), rfl, w7z L0 L1 N _ hN, 3, rfl⟩
  ·cases h
 ·cases h
def y4g : List AVal → Option (AVal × Bool)
 | [a0, a1] => match asL R6 a0, asL R6 a1 with
  | some (L0, g0, n0), some (L1, g1, n1) => some (.bool (Ky L0 L1), isT R6 n0 g0 && (isT R6 n1 g1 && (Uu L0 L1)))
  | _, _ => none
 | _ => none
theorem w5k {S : Specs} (hS : Zu prog S) : Zu prog (S.with v3x y4g) := by
 refine z2m hS (by kernel_rfl) fun args v h => ?_
 unfold y4g at h
 split at h
 ·rename_i a0 a1
  split at h
  ·rename_i L0 g0 n0 L1 g1 n1 e0 e1
   simp only [Option.some.injEq, Prod.mk.injEq, Bool.and_eq_true] at h
   obtain ⟨rfl, ho0, ho1, hw⟩ := h
   obtain ⟨N, hN⟩ := v6s L0 L1 hw
   exact ⟨_, _, (.cons (Yx e0 ho0) (.cons (Yx e1 ho1) .nil)), rfl, w8b L0 L1 N _ hN, 3, rfl⟩
  ·cases h
 ·cases h
def v9v : List AVal → Option (AVal × Bool)
 | [a0, .int .i64 x1, .int .i64 x2] => match asL R4 a0 with
  | some (L0, g0, n0) => some (.bool (has4V L0 x1 x2), isT R4 n0 g0 && (Kf L0 x1 x2))
  | _ => none
 | _ => none
theorem v0w {S : Specs} (hS : Zu prog S) : Zu prog (S.with nHas4 v9v) := by
 refine z2m hS (by kernel_rfl) fun args v h => ?_
 unfold v9v at h
 split at h
 ·rename_i a0 x1 x2
  split at h
  ·rename_i L0 g0 n0 e0
   simp only [Option.some.injEq, Prod.mk.injEq, Bool.and_eq_true] at h
   obtain ⟨rfl, ho0, hw⟩ := h
   obtain ⟨N, hN⟩ := w8m L0 x1 x2 hw
   exact ⟨_, _, (.cons (Yx e0 ho0) (.cons (.refl _) (.cons (.refl _) .nil))), rfl, w2x L0 x1 x2 N _ hN, 3, rfl⟩
  ·cases h
 ·cases h
def fAt : List AVal → Option (AVal × Bool)
 | [a0, .int .i64 x1] => match asL R6 a0 with
  | some (L0, g0, n0) => some (.dat (atV L0 x1).length (Zz (atV L0 x1)), isT R6 n0 g0 && (z3h L0 x1))
  | _ => none
 | _ => none
theorem fAt_ok {S : Specs} (hS : Zu prog S) : Zu prog (S.with nAt fAt) := by
 refine z2m hS (by kernel_rfl) fun args v h => ?_
 unfold fAt at h
 split at h
 ·rename_i a0 x1
  split at h
  ·rename_i L0 g0 n0 e0
   simp only [Option.some.injEq, Prod.mk.injEq, Bool.and_eq_true] at h
   obtain ⟨rfl, ho0, hw⟩ := h
   obtain ⟨N, hN⟩ := v7m L0 x1 hw
   exact ⟨_, _, (.cons (Yx e0 ho0) (.cons (.refl _) .nil)), rfl, w8t L0 x1 N _ hN, 3, rfl⟩
  ·cases h
 ·cases h
def w5o : List AVal → Option (AVal × Bool)
 | [.int .i64 x0, .bool b1, .bool b2] => some (.bool (z0d x0 b1 b2), true)
 | _ => none
theorem w5n {S : Specs} (hS : Zu prog S) : Zu prog (S.with v4g w5o) := by
 refine z2m hS (by kernel_rfl) fun args v h => ?_
 unfold w5o at h
 split at h
 ·rename_i x0 b1 b2
  simp only [Option.some.injEq, Prod.mk.injEq, and_true] at h
  subst h
  obtain ⟨N, hN⟩ := v8r x0 b1 b2
  exact ⟨_, _, (.cons (.refl _) (.cons (.refl _) (.cons (.refl _) .nil))), rfl, v0g x0 b1 b2 N _ hN, 3, rfl⟩
 ·cases h
def fFst : List AVal → Option (AVal × Bool)
 | [.bool b0, .bool b1] => some (.bool (x6n b0 b1), true)
 | _ => none
theorem u0b {S : Specs} (hS : Zu prog S) : Zu prog (S.with nFst fFst) := by
 refine z2m hS (by kernel_rfl) fun args v h => ?_
 unfold fFst at h
 split at h
 ·rename_i b0 b1
  simp only [Option.some.injEq, Prod.mk.injEq, and_true] at h
  subst h
  obtain ⟨N, hN⟩ := v9a b0 b1
  exact ⟨_, _, (.cons (.refl _) (.cons (.refl _) .nil)), rfl, v0o b0 b1 N _ hN, 3, rfl⟩
 ·cases h
theorem x9y {S : Specs} (hS : Zu prog S) : Zu prog (S.with nEq2 y4i) := by
 refine z2m hS (by kernel_rfl) fun args v h => ?_
 unfold y4i at h
 split at h
 ·rename_i a0 a1
  split at h
  ·rename_i L0 g0 n0 L1 g1 n1 e0 e1
   simp only [Option.some.injEq, Prod.mk.injEq, Bool.and_eq_true] at h
   obtain ⟨rfl, ho0, ho1, hw⟩ := h
   obtain ⟨N, hN⟩ := u0l L0 L1 hw
   exact ⟨_, _, (.cons (Yx e0 ho0) (.cons (Yx e1 ho1) .nil)), rfl, v1c L0 L1 N _ hN, 3, rfl⟩
  ·cases h
 ·cases h
theorem x9x {S : Specs} (hS : Zu prog S) : Zu prog (S.with nEq4 y4h) := by
 refine z2m hS (by kernel_rfl) fun args v h => ?_
 unfold y4h at h
 split at h
 ·rename_i a0 a1
  split at h
  ·rename_i L0 g0 n0 L1 g1 n1 e0 e1
   simp only [Option.some.injEq, Prod.mk.injEq, Bool.and_eq_true] at h
   obtain ⟨rfl, ho0, ho1, hw⟩ := h
   obtain ⟨N, hN⟩ := u0k L0 L1 hw
   exact ⟨_, _, (.cons (Yx e0 ho0) (.cons (Yx e1 ho1) .nil)), rfl, v1b L0 L1 N _ hN, 3, rfl⟩
  ·cases h
 ·cases h
theorem x9w {S : Specs} (hS : Zu prog S) : Zu prog (S.with nEq6 y4g) := by
 refine z2m hS (by kernel_rfl) fun args v h => ?_
 unfold y4g at h
 split at h
 ·rename_i a0 a1
  split at h
  ·rename_i L0 g0 n0 L1 g1 n1 e0 e1
   simp only [Option.some.injEq, Prod.mk.injEq, Bool.and_eq_true] at h
   obtain ⟨rfl, ho0, ho1, hw⟩ := h
   obtain ⟨N, hN⟩ := u0j L0 L1 hw
   exact ⟨_, _, (.cons (Yx e0 ho0) (.cons (Yx e1 ho1) .nil)), rfl, v1a L0 L1 N _ hN, 3, rfl⟩
  ·cases h
 ·cases h
def T1 : Specs := ((((((((((((noSpecs.with w4d fSrt).with v4j fCan).with v3z y4i).with v3y y4h).with v3x y4g).with nHas4 v9v).with nAt fAt).with v4g w5o).with nFst fFst).with nEq2 y4i).with nEq4 y4h).with nEq6 y4g)
theorem z1t : Zu prog T1 := x9w (x9x (x9y (u0b (w5n (fAt_ok (v0w (w5k (w5l (w5m (u0h (v9i Zq)))))))))))
end Go.Am
namespace Go.Am
open Go.Proofs.Tryz
open Go.Proofs
inductive rxsS where
 | h0 (v5 : List Int) (v6 : Int)
 | h1 (v5 : List Int) (v7 : Int)
def rxsC (l0 : List R4) (l1 : List R4) : rxsS → Cfg
 | .h0 v5 v6 => ⟨⟨48, 0, true⟩, none, (Yw prog 135 [1, 1, 0, 1, 0, 0] 0), none, (Zy prog 3), ⟨Xp [(0, (.dat l0.length (Zz l0))), (1, (.dat l1.length (Zz l1))), (5, (.sla 0 1 0 v5.length (.un 1))), (6, (ii v6))], Ux [⟨rows v5.length (Zz v5), 3, some ⟨1, v5.length, (Zz v5)⟩⟩] 0, 1, [], true⟩, [], .leaf⟩
 | .h1 v5 v7 => ⟨⟨48, 0, true⟩, none, (Yw prog 135 [1, 1, 1, 0, 1, 0, 0] 0), none, (Zy prog 3), ⟨Xp [(1, (.dat l1.length (Zz l1))), (5, (.sla 0 1 0 v5.length (.un 1))), (7, (ii v7))], Ux [⟨rows v5.length (Zz v5), 3, some ⟨1, v5.length, (Zz v5)⟩⟩] 0, 1, [], true⟩, [], .leaf⟩
def rxsN0 : List (Option (List Nat)) := [some [0, 1, 5, 6]]
def rxsM0 : List (Option (List Nat)) := []
def rxsN1 : List (Option (List Nat)) := [some [1, 5, 7]]
def rxsM1 : List (Option (List Nat)) := []
def z1f (l0 : List R4) (l1 : List R4) : rxsS → Wu rxsS
 | .h0 v5 v6 => (bif (decide (v6 < (l0.length : Int))) then (bif ((decide (0 ≤ v6 ∧ v6 < (l0.length : Int))) && true) then (bif (Nat.beq 1 1 && ((decide (0 + v5.length = v5.length)) && decide ((v5.length + 2 + 1) * (8 + 1) ≤ Uq))) then (.to (.h0 (v5 ++ [(rd l0 v6.toNat).a, (rd l0 v6.toNat).c]) (IntKind.wrap .i64 (v6 + 1)))) else .stuck) else .stuck) else (.to (.h1 v5 0)))
 | .h1 v5 v7 => (bif (decide (v7 < (l1.length : Int))) then (bif ((decide (0 ≤ v7 ∧ v7 < (l1.length : Int))) && true) then (bif (Nat.beq 1 1 && ((decide (0 + v5.length = v5.length)) && decide ((v5.length + 2 + 1) * (8 + 1) ≤ Uq))) then (.to (.h1 (v5 ++ [(rd l1 v7.toNat).a, (rd l1 v7.toNat).c]) (IntKind.wrap .i64 (v7 + 1)))) else .stuck) else .stuck) else (bif (Jf (cvT v5)) then (.ret [(.dat (z1u (cvT v5)).length (Zz (z1u (cvT v5))))]) else .stuck))
def z9d (l0 : List R4) (l1 : List R4) : Wu rxsS := (.to (.h0 ([] : List Int) 0))
theorem x8d (l0 : List R4) (l1 : List R4) : ∀ s, Wm prog (Zy prog 135) (rxsC l0 l1) (rxsC l0 l1 s) (z1f l0 l1 s)
 | .h0 v5 v6 => (lb (fun k0 => (lo fun o0 => (lo fun o1 => (sl z1t 20 [] ⟨[2], [], rxsN0, rxsM0⟩ ⟨[(5, .len (v5 ++ [(rd l0 (tn v6)).a, (rd l0 (tn v6)).c]).length)], [.rowed 1 (v5 ++ [(rd l0 (tn v6)).a, (rd l0 (tn v6)).c]).length (Zz (v5 ++ [(rd l0 (tn v6)).a, (rd l0 (tn v6)).c]))], []⟩ [true] (pp (xL (v5.length + 2) (v5 ++ [(rd l0 (tn v6)).a, (rd l0 (tn v6)).c]).length) (pp (xL (v5.length + 2) (v5 ++ [(rd l0 (tn v6)).a, (rd l0 (tn v6)).c]).length) (pp (xS (v5.length + 2) (Za (Zz v5) 0 v5.length 1 [(ii (rd l0 (tn v6)).a), (ii (rd l0 (tn v6)).c)]) (Zz (v5 ++ [(rd l0 (tn v6)).a, (rd l0 (tn v6)).c]))) (pp (pp (xF (Za (Zz v5) 0 v5.length 1 [(ii (rd l0 (tn v6)).a), (ii (rd l0 (tn v6)).c)])) nn) (ww o1 (ww o0 (ww o0 (tt k0 nn)))))))))))) (fun k0 => (sl z1t 17 [] ⟨[0], [], rxsN1, rxsM1⟩ ⟨[], [], []⟩ [false] (pp (fl v5 nn) (tt k0 nn)))))
 | .h1 v5 v7 => (lb (fun k0 => (lo fun o0 => (lo fun o1 => (sl z1t 20 [] ⟨[2], [], rxsN1, rxsM1⟩ ⟨[(5, .len (v5 ++ [(rd l1 (tn v7)).a, (rd l1 (tn v7)).c]).length)], [.rowed 1 (v5 ++ [(rd l1 (tn v7)).a, (rd l1 (tn v7)).c]).length (Zz (v5 ++ [(rd l1 (tn v7)).a, (rd l1 (tn v7)).c]))], []⟩ [true] (pp (xL (v5.length + 2) (v5 ++ [(rd l1 (tn v7)).a, (rd l1 (tn v7)).c]).length) (pp (xL (v5.length + 2) (v5 ++ [(rd l1 (tn v7)).a, (rd l1 (tn v7)).c]).length) (pp (xS (v5.length + 2) (Za (Zz v5) 0 v5.length 1 [(ii (rd l1 (tn v7)).a), (ii (rd l1 (tn v7)).c)]) (Zz (v5 ++ [(rd l1 (tn v7)).a, (rd l1 (tn v7)).c]))) (pp (pp (xF (Za (Zz v5) 0 v5.length 1 [(ii (rd l1 (tn v7)).a), (ii (rd l1 (tn v7)).c)])) nn) (ww o1 (ww o0 (ww o0 (tt k0 nn)))))))))))) (fun k0 => (Jh (sl z1t (C' := ⟨⟨48, 0, true⟩, (z2e prog 135 [1, 1, 1, 1, 0] 1), (Yw prog 135 [1, 1, 1, 1, 0] 1), none, (Zy prog 3), ⟨Xp [(46, (.dat v5.length (Zz v5)))], Ux [] 0, 0, [], true⟩, [], .leaf⟩) 13 [] ⟨[], [0], [some [46]], []⟩ ⟨[(46, .frz v5.length v5.length (Zz v5) (Zz v5))], [], []⟩ [false] (pp (xZ (z6s 1 1 0 v5.length v5.length (Zz v5)) v5.length (Zz v5)) (pp (xL v5.length v5.length) (pp (xS v5.length (Zz v5) (Zz v5)) (pp (fl v5 nn) (tt k0 nn)))))) (lo fun o0 => (lr 48 3 [1, 1, 1, 1, 1, 1, 0] 1 3 [(4, (.dat (z1u (cvT v5)).length (Zz (z1u (cvT v5)))))] (sl z1t 3 [] ⟨[], [], [some [4]], []⟩ ⟨[], [], []⟩ [] (pp (pp (xr v5) (xw o0)) nn)))))))
theorem x0x (l0 : List R4) (l1 : List R4) : Wm prog (Zy prog 135) (rxsC l0 l1) (Zd prog 135 [(.dat l0.length (Zz l0)), (.dat l1.length (Zz l1))] true []) (z9d l0 l1) := (sl z1t 15 [(3, 1, Zz ([] : List Int))] ⟨[0], [], rxsN0, rxsM0⟩ ⟨[(5, .grow 0 1)], [], []⟩ [] (pp (fl ([] : List Int) nn) nn))
theorem w7y (l0 : List R4) (l1 : List R4) (n : Nat) (vs : List AVal) (h : Yj (z1f l0 l1) n (z9d l0 l1) = .ret vs) : Kv prog (Zy prog 135) (Zd prog 135 [(.dat l0.length (Zz l0)), (.dat l1.length (Zz l1))] true []) vs := by
 have := Zn (x8d l0 l1) n _ (x0x l0 l1)
 rwa [h] at this
inductive rysS where
 | h0 (v5 : List Int) (v6 : Int)
 | h1 (v5 : List Int) (v7 : Int)
def rysC (l0 : List R4) (l1 : List R4) : rysS → Cfg
 | .h0 v5 v6 => ⟨⟨48, 0, true⟩, none, (Yw prog 136 [1, 1, 0, 1, 0, 0] 0), none, (Zy prog 3), ⟨Xp [(0, (.dat l0.length (Zz l0))), (1, (.dat l1.length (Zz l1))), (5, (.sla 0 1 0 v5.length (.un 1))), (6, (ii v6))], Ux [⟨rows v5.length (Zz v5), 3, some ⟨1, v5.length, (Zz v5)⟩⟩] 0, 1, [], true⟩, [], .leaf⟩
 | .h1 v5 v7 => ⟨⟨48, 0, true⟩, none, (Yw prog 136 [1, 1, 1, 0, 1, 0, 0] 0), none, (Zy prog 3), ⟨Xp [(1, (.dat l1.length (Zz l1))), (5, (.sla 0 1 0 v5.length (.un 1))), (7, (ii v7))], Ux [⟨rows v5.length (Zz v5), 3, some ⟨1, v5.length, (Zz v5)⟩⟩] 0, 1, [], true⟩, [], .leaf⟩
def rysN0 : List (Option (List Nat)) := [some [0, 1, 5, 6]]
def rysM0 : List (Option (List Nat)) := []
def rysN1 : List (Option (List Nat)) := [some [1, 5, 7]]
def rysM1 : List (Option (List Nat)) := []
def z1e (l0 : List R4) (l1 : List R4) : rysS → Wu rysS
 | .h0 v5 v6 => (bif (decide (v6 < (l0.length : Int))) then (bif ((decide (0 ≤ v6 ∧ v6 < (l0.length : Int))) && true) then (bif (Nat.beq 1 1 && ((decide (0 + v5.length = v5.length)) && decide ((v5.length + 2 + 1) * (8 + 1) ≤ Uq))) then (.to (.h0 (v5 ++ [(rd l0 v6.toNat).b, (rd l0 v6.toNat).d]) (IntKind.wrap .i64 (v6 + 1)))) else .stuck) else .stuck) else (.to (.h1 v5 0)))
 | .h1 v5 v7 => (bif (decide (v7 < (l1.length : Int))) then (bif ((decide (0 ≤ v7 ∧ v7 < (l1.length : Int))) && true) then (bif (Nat.beq 1 1 && ((decide (0 + v5.length = v5.length)) && decide ((v5.length + 2 + 1) * (8 + 1) ≤ Uq))) then (.to (.h1 (v5 ++ [(rd l1 v7.toNat).b, (rd l1 v7.toNat).d]) (IntKind.wrap .i64 (v7 + 1)))) else .stuck) else .stuck) else (bif (Jf (cvT v5)) then (.ret [(.dat (z1u (cvT v5)).length (Zz (z1u (cvT v5))))]) else .stuck))
def z9c (l0 : List R4) (l1 : List R4) : Wu rysS := (.to (.h0 ([] : List Int) 0))
theorem x8c (l0 : List R4) (l1 : List R4) : ∀ s, Wm prog (Zy prog 136) (rysC l0 l1) (rysC l0 l1 s) (z1e l0 l1 s)
 | .h0 v5 v6 => (lb (fun k0 => (lo fun o0 => (lo fun o1 => (sl z1t 20 [] ⟨[2], [], rysN0, rysM0⟩ ⟨[(5, .len (v5 ++ [(rd l0 (tn v6)).b, (rd l0 (tn v6)).d]).length)], [.rowed 1 (v5 ++ [(rd l0 (tn v6)).b, (rd l0 (tn v6)).d]).length (Zz (v5 ++ [(rd l0 (tn v6)).b, (rd l0 (tn v6)).d]))], []⟩ [true] (pp (xL (v5.length + 2) (v5 ++ [(rd l0 (tn v6)).b, (rd l0 (tn v6)).d]).length) (pp (xL (v5.length + 2) (v5 ++ [(rd l0 (tn v6)).b, (rd l0 (tn v6)).d]).length) (pp (xS (v5.length + 2) (Za (Zz v5) 0 v5.length 1 [(ii (rd l0 (tn v6)).b), (ii (rd l0 (tn v6)).d)]) (Zz (v5 ++ [(rd l0 (tn v6)).b, (rd l0 (tn v6)).d]))) (pp (pp (xF (Za (Zz v5) 0 v5.length 1 [(ii (rd l0 (tn v6)).b), (ii (rd l0 (tn v6)).d)])) nn) (ww o1 (ww o0 (ww o0 (tt k0 nn)))))))))))) (fun k0 => (sl z1t 17 [] ⟨[0], [], rysN1, rysM1⟩ ⟨[], [], []⟩ [false] (pp (fl v5 nn) (tt k0 nn)))))
 | .h1 v5 v7 => (lb (fun k0 => (lo fun o0 => (lo fun o1 => (sl z1t 20 [] ⟨[2], [], rysN1, rysM1⟩ ⟨[(5, .len (v5 ++ [(rd l1 (tn v7)).b, (rd l1 (tn v7)).d]).length)], [.rowed 1 (v5 ++ [(rd l1 (tn v7)).b, (rd l1 (tn v7)).d]).length (Zz (v5 ++ [(rd l1 (tn v7)).b, (rd l1 (tn v7)).d]))], []⟩ [true] (pp (xL (v5.length + 2) (v5 ++ [(rd l1 (tn v7)).b, (rd l1 (tn v7)).d]).length) (pp (xL (v5.length + 2) (v5 ++ [(rd l1 (tn v7)).b, (rd l1 (tn v7)).d]).length) (pp (xS (v5.length + 2) (Za (Zz v5) 0 v5.length 1 [(ii (rd l1 (tn v7)).b), (ii (rd l1 (tn v7)).d)]) (Zz (v5 ++ [(rd l1 (tn v7)).b, (rd l1 (tn v7)).d]))) (pp (pp (xF (Za (Zz v5) 0 v5.length 1 [(ii (rd l1 (tn v7)).b), (ii (rd l1 (tn v7)).d)])) nn) (ww o1 (ww o0 (ww o0 (tt k0 nn)))))))))))) (fun k0 => (Jh (sl z1t (C' := ⟨⟨48, 0, true⟩, (z2e prog 136 [1, 1, 1, 1, 0] 1), (Yw prog 136 [1, 1, 1, 1, 0] 1), none, (Zy prog 3), ⟨Xp [(46, (.dat v5.length (Zz v5)))], Ux [] 0, 0, [], true⟩, [], .leaf⟩) 13 [] ⟨[], [0], [some [46]], []⟩ ⟨[(46, .frz v5.length v5.length (Zz v5) (Zz v5))], [], []⟩ [false] (pp (xZ (z6s 1 1 0 v5.length v5.length (Zz v5)) v5.length (Zz v5)) (pp (xL v5.length v5.length) (pp (xS v5.length (Zz v5) (Zz v5)) (pp (fl v5 nn) (tt k0 nn)))))) (lo fun o0 => (lr 48 3 [1, 1, 1, 1, 1, 1, 0] 1 3 [(4, (.dat (z1u (cvT v5)).length (Zz (z1u (cvT v5)))))] (sl z1t 3 [] ⟨[], [], [some [4]], []⟩ ⟨[], [], []⟩ [] (pp (pp (xr v5) (xw o0)) nn)))))))
theorem x0w (l0 : List R4) (l1 : List R4) : Wm prog (Zy prog 136) (rysC l0 l1) (Zd prog 136 [(.dat l0.length (Zz l0)), (.dat l1.length (Zz l1))] true []) (z9c l0 l1) := (sl z1t 15 [(3, 1, Zz ([] : List Int))] ⟨[0], [], rysN0, rysM0⟩ ⟨[(5, .grow 0 1)], [], []⟩ [] (pp (fl ([] : List Int) nn) nn))
theorem w7x (l0 : List R4) (l1 : List R4) (n : Nat) (vs : List AVal) (h : Yj (z1e l0 l1) n (z9c l0 l1) = .ret vs) : Kv prog (Zy prog 136) (Zd prog 136 [(.dat l0.length (Zz l0)), (.dat l1.length (Zz l1))] true []) vs := by
 have := Zn (x8c l0 l1) n _ (x0w l0 l1)
 rwa [h] at this
inductive rcutS where
 | h0 (v5 : List Int) (v6 : Int)
 | h1 (v5 : List Int) (v7 : Int)
def v7j (l0 : List R6) (l1 : List R6) : rcutS → Cfg
 | .h0 v5 v6 => ⟨⟨52, 0, true⟩, none, (Yw prog 114 [1, 1, 0, 1, 0, 0] 0), none, (Zy prog 3), ⟨Xp [(0, (.dat l0.length (Zz l0))), (1, (.dat l1.length (Zz l1))), (5, (.sla 0 1 0 v5.length (.un 1))), (6, (ii v6))], Ux [⟨rows v5.length (Zz v5), 3, some ⟨1, v5.length, (Zz v5)⟩⟩] 0, 1, [], true⟩, [], .leaf⟩
 | .h1 v5 v7 => ⟨⟨52, 0, true⟩, none, (Yw prog 114 [1, 1, 1, 0, 1, 0, 0] 0), none, (Zy prog 3), ⟨Xp [(1, (.dat l1.length (Zz l1))), (5, (.sla 0 1 0 v5.length (.un 1))), (7, (ii v7))], Ux [⟨rows v5.length (Zz v5), 3, some ⟨1, v5.length, (Zz v5)⟩⟩] 0, 1, [], true⟩, [], .leaf⟩
def v3m : List (Option (List Nat)) := [some [0, 1, 5, 6]]
def v3o : List (Option (List Nat)) := []
def v3l : List (Option (List Nat)) := [some [1, 5, 7]]
def v3n : List (Option (List Nat)) := []
def Kk (l0 : List R6) (l1 : List R6) : rcutS → Wu rcutS
 | .h0 v5 v6 => (bif (decide (v6 < (l0.length : Int))) then (bif ((decide (0 ≤ v6 ∧ v6 < (l0.length : Int))) && true) then (bif (Nat.beq 1 1 && ((decide (0 + v5.length = v5.length)) && decide ((v5.length + 2 + 1) * (8 + 1) ≤ Uq))) then (.to (.h0 (v5 ++ [(rd l0 v6.toNat).c, (rd l0 v6.toNat).f]) (IntKind.wrap .i64 (v6 + 1)))) else .stuck) else .stuck) else (.to (.h1 v5 0)))
 | .h1 v5 v7 => (bif (decide (v7 < (l1.length : Int))) then (bif ((decide (0 ≤ v7 ∧ v7 < (l1.length : Int))) && true) then (bif (Nat.beq 1 1 && ((decide (0 + v5.length = v5.length)) && decide ((v5.length + 2 + 1) * (8 + 1) ≤ Uq))) then (.to (.h1 (v5 ++ [(rd l1 v7.toNat).c, (rd l1 v7.toNat).f]) (IntKind.wrap .i64 (v7 + 1)))) else .stuck) else .stuck) else (bif (Jf (cvT v5)) then (.ret [(.dat (z1u (cvT v5)).length (Zz (z1u (cvT v5))))]) else .stuck))
def z5i (l0 : List R6) (l1 : List R6) : Wu rcutS := (.to (.h0 ([] : List Int) 0))
theorem x1o (l0 : List R6) (l1 : List R6) : ∀ s, Wm prog (Zy prog 114) (v7j l0 l1) (v7j l0 l1 s) (Kk l0 l1 s)
 | .h0 v5 v6 => (lb (fun k0 => (lo fun o0 => (lo fun o1 => (sl z1t 20 [] ⟨[2], [], v3m, v3o⟩ ⟨[(5, .len (v5 ++ [(rd l0 (tn v6)).c, (rd l0 (tn v6)).f]).length)], [.rowed 1 (v5 ++ [(rd l0 (tn v6)).c, (rd l0 (tn v6)).f]).length (Zz (v5 ++ [(rd l0 (tn v6)).c, (rd l0 (tn v6)).f]))], []⟩ [true] (pp (xL (v5.length + 2) (v5 ++ [(rd l0 (tn v6)).c, (rd l0 (tn v6)).f]).length) (pp (xL (v5.length + 2) (v5 ++ [(rd l0 (tn v6)).c, (rd l0 (tn v6)).f]).length) (pp (xS (v5.length + 2) (Za (Zz v5) 0 v5.length 1 [(ii (rd l0 (tn v6)).c), (ii (rd l0 (tn v6)).f)]) (Zz (v5 ++ [(rd l0 (tn v6)).c, (rd l0 (tn v6)).f]))) (pp (pp (xF (Za (Zz v5) 0 v5.length 1 [(ii (rd l0 (tn v6)).c), (ii (rd l0 (tn v6)).f)])) nn) (ww o1 (ww o0 (ww o0 (tt k0 nn)))))))))))) (fun k0 => (sl z1t 17 [] ⟨[0], [], v3l, v3n⟩ ⟨[], [], []⟩ [false] (pp (fl v5 nn) (tt k0 nn)))))
 | .h1 v5 v7 => (lb (fun k0 => (lo fun o0 => (lo fun o1 => (sl z1t 20 [] ⟨[2], [], v3l, v3n⟩ ⟨[(5, .len (v5 ++ [(rd l1 (tn v7)).c, (rd l1 (tn v7)).f]).length)], [.rowed 1 (v5 ++ [(rd l1 (tn v7)).c, (rd l1 (tn v7)).f]).length (Zz (v5 ++ [(rd l1 (tn v7)).c, (rd l1 (tn v7)).f]))], []⟩ [true] (pp (xL (v5.length + 2) (v5 ++ [(rd l1 (tn v7)).c, (rd l1 (tn v7)).f]).length) (pp (xL (v5.length + 2) (v5 ++ [(rd l1 (tn v7)).c, (rd l1 (tn v7)).f]).length) (pp (xS (v5.length + 2) (Za (Zz v5) 0 v5.length 1 [(ii (rd l1 (tn v7)).c), (ii (rd l1 (tn v7)).f)]) (Zz (v5 ++ [(rd l1 (tn v7)).c, (rd l1 (tn v7)).f]))) (pp (pp (xF (Za (Zz v5) 0 v5.length 1 [(ii (rd l1 (tn v7)).c), (ii (rd l1 (tn v7)).f)])) nn) (ww o1 (ww o0 (ww o0 (tt k0 nn)))))))))))) (fun k0 => (Jh (sl z1t (C' := ⟨⟨52, 0, true⟩, (z2e prog 114 [1, 1, 1, 1, 0] 1), (Yw prog 114 [1, 1, 1, 1, 0] 1), none, (Zy prog 3), ⟨Xp [(50, (.dat v5.length (Zz v5)))], Ux [] 0, 0, [], true⟩, [], .leaf⟩) 13 [] ⟨[], [0], [some [50]], []⟩ ⟨[(50, .frz v5.length v5.length (Zz v5) (Zz v5))], [], []⟩ [false] (pp (xZ (z6s 1 1 0 v5.length v5.length (Zz v5)) v5.length (Zz v5)) (pp (xL v5.length v5.length) (pp (xS v5.length (Zz v5) (Zz v5)) (pp (fl v5 nn) (tt k0 nn)))))) (lo fun o0 => (lr 52 3 [1, 1, 1, 1, 1, 1, 0] 1 3 [(4, (.dat (z1u (cvT v5)).length (Zz (z1u (cvT v5)))))] (sl z1t 3 [] ⟨[], [], [some [4]], []⟩ ⟨[], [], []⟩ [] (pp (pp (xr v5) (xw o0)) nn)))))))
theorem y8f (l0 : List R6) (l1 : List R6) : Wm prog (Zy prog 114) (v7j l0 l1) (Zd prog 114 [(.dat l0.length (Zz l0)), (.dat l1.length (Zz l1))] true []) (z5i l0 l1) := (sl z1t 15 [(3, 1, Zz ([] : List Int))] ⟨[0], [], v3m, v3o⟩ ⟨[(5, .grow 0 1)], [], []⟩ [] (pp (fl ([] : List Int) nn) nn))
theorem w3h (l0 : List R6) (l1 : List R6) (n : Nat) (vs : List AVal) (h : Yj (Kk l0 l1) n (z5i l0 l1) = .ret vs) : Kv prog (Zy prog 114) (Zd prog 114 [(.dat l0.length (Zz l0)), (.dat l1.length (Zz l1))] true []) vs := by
 have := Zn (x1o l0 l1) n _ (y8f l0 l1)
 rwa [h] at this
end Go.Am
namespace Go.Am
open Go.Proofs.Tryz
open Go.Proofs
def z1y (l : List R4) : List Int := l.flatMap fun r => [r.a, r.c]
def z0y (l : List R4) : List Int := l.flatMap fun r => [r.b, r.d]
def z1x (l : List R6) : List Int := l.flatMap fun r => [r.c, r.f]
def xsV (l m : List R4) : List Int := z1u (z1y l ++ z1y m)
def z8u (l m : List R4) : Bool := decide (l.length ≤ 10000 ∧ m.length ≤ 10000)
theorem Qf (l : List R4) : (z1y l).length = 2 * l.length := by
 induction l with
 | nil => rfl
 | cons r l ih => show (_ :: _ :: z1y l).length = _; simp only [List.length_cons, ih]; omega
theorem y3m (l : List R4) (i : Nat) (h : i < l.length) : z1y (l.drop i) = z1y [rd l i] ++ z1y (l.drop (i + 1)) := by
 rw [Yi h]; rfl
theorem v2p (l m : List R4) (hl : l.length ≤ 10000) (hm : m.length ≤ 10000) : ∀ (k i : Nat) (out : List Int), i + k = m.length → out.length = 2 * l.length + 2 * i → ∃ N, Yj (z1f l m) N (.to (.h1 out (i : Int))) = .ret [.dat (z1u (out ++ z1y (m.drop i))).length (Zz (z1u (out ++ z1y (m.drop i))))]
 | 0, i, out, h, ho => by
  refine ⟨1, ?_⟩
  have hw : Jf out = true := decide_eq_true (by omega)
  rw [Zv, List.drop_eq_nil_of_le (show m.length ≤ i by omega), show z1y [] = [] from rfl, List.append_nil]
  simp (disch := omega) only [z1f, Xx, Yf, Zt, Zo, Xe, Ym, Ye, Yg, Yy, Zj, Zr, Qk, Qq, decide_true, Zw, Zh, Zc, Ya, Zk, Nat.zero_add, Bool.and_true, Bool.true_and, cond_true, cond_false, Bool.not_true, Bool.not_false, Zp, Zg, Zm, Vj, Xa, hw]
 | k + 1, i, out, h, ho => by
  obtain ⟨N, hN⟩ := v2p l m hl hm k (i + 1) (out ++ z1y [rd m i]) (by omega) (by rw [List.length_append, Qf]; simp; omega)
  refine ⟨N + 1, ?_⟩
  rw [y3m m i (by omega), ← List.append_assoc, Zv]
  simp (disch := omega) only [z1f, Xx, Yf, Zt, Zo, Xe, Ym, Ye, Yg, Yy, Zj, Zr, Qk, Qq, decide_true, Zw, Zh, Zc, Ya, Zk, Nat.zero_add, Bool.and_true, Bool.true_and, cond_true, cond_false, Bool.not_true, Bool.not_false, Zp, Zg, Zm, Vj, Xa]
  exact hN
theorem v2q (l m : List R4) (hl : l.length ≤ 10000) (hm : m.length ≤ 10000) : ∀ (k i : Nat) (out : List Int), i + k = l.length → out.length = 2 * i → ∃ N, Yj (z1f l m) N (.to (.h0 out (i : Int))) = .ret [.dat (z1u (out ++ z1y (l.drop i) ++ z1y m)).length (Zz (z1u (out ++ z1y (l.drop i) ++ z1y m)))]
 | 0, i, out, h, ho => by
  obtain ⟨N, hN⟩ := v2p l m hl hm m.length 0 out (Nat.zero_add _) (by omega)
  refine ⟨N + 1, ?_⟩
  rw [Zv, List.drop_eq_nil_of_le (show l.length ≤ i by omega), show z1y [] = [] from rfl, List.append_nil]
  simp (disch := omega) only [z1f, Xx, Yf, Zt, Zo, Xe, Ym, Ye, Yg, Yy, Zj, Zr, Qk, Qq, decide_true, Zw, Zh, Zc, Ya, Zk, Nat.zero_add, Bool.and_true, Bool.true_and, cond_true, cond_false, Bool.not_true, Bool.not_false, Zp, Zg, Zm, Vj, Xa]
  exact hN
 | k + 1, i, out, h, ho => by
  obtain ⟨N, hN⟩ := v2q l m hl hm k (i + 1) (out ++ z1y [rd l i]) (by omega) (by rw [List.length_append, Qf]; simp; omega)
  refine ⟨N + 1, ?_⟩
  rw [y3m l i (by omega), ← List.append_assoc, Zv]
  simp (disch := omega) only [z1f, Xx, Yf, Zt, Zo, Xe, Ym, Ye, Yg, Yy, Zj, Zr, Qk, Qq, decide_true, Zw, Zh, Zc, Ya, Zk, Nat.zero_add, Bool.and_true, Bool.true_and, cond_true, cond_false, Bool.not_true, Bool.not_false, Zp, Zg, Zm, Vj, Xa]
  exact hN
theorem v6o (l m : List R4) (h : z8u l m = true) : ∃ N, Yj (z1f l m) N (z9d l m) = .ret [.dat (xsV l m).length (Zz (xsV l m))] := by
 obtain ⟨h1, h2⟩ := of_decide_eq_true h
 have := v2q l m h1 h2 l.length 0 [] (Nat.zero_add _) rfl
 simpa [z9d, xsV] using this
def ysV (l m : List R4) : List Int := z1u (z0y l ++ z0y m)
def z8t (l m : List R4) : Bool := decide (l.length ≤ 10000 ∧ m.length ≤ 10000)
theorem Qe (l : List R4) : (z0y l).length = 2 * l.length := by
 induction l with
 | nil => rfl
 | cons r l ih => show (_ :: _ :: z0y l).length = _; simp only [List.length_cons, ih]; omega
theorem y3l (l : List R4) (i : Nat) (h : i < l.length) : z0y (l.drop i) = z0y [rd l i] ++ z0y (l.drop (i + 1)) := by
 rw [Yi h]; rfl
theorem v2n (l m : List R4) (hl : l.length ≤ 10000) (hm : m.length ≤ 10000) : ∀ (k i : Nat) (out : List Int), i + k = m.length → out.length = 2 * l.length + 2 * i → ∃ N, Yj (z1e l m) N (.to (.h1 out (i : Int))) = .ret [.dat (z1u (out ++ z0y (m.drop i))).length (Zz (z1u (out ++ z0y (m.drop i))))]
 | 0, i, out, h, ho => by
  refine ⟨1, ?_⟩
  have hw : Jf out = true := decide_eq_true (by omega)
  rw [Zv, List.drop_eq_nil_of_le (show m.length ≤ i by omega), show z0y [] = [] from rfl, List.append_nil]
  simp (disch := omega) only [z1e, Xx, Yf, Zt, Zo, Xe, Ym, Ye, Yg, Yy, Zj, Zr, Qk, Qq, decide_true, Zw, Zh, Zc, Ya, Zk, Nat.zero_add, Bool.and_true, Bool.true_and, cond_true, cond_false, Bool.not_true, Bool.not_false, Zp, Zg, Zm, Vj, Xa, hw]
 | k + 1, i, out, h, ho => by
  obtain ⟨N, hN⟩ := v2n l m hl hm k (i + 1) (out ++ z0y [rd m i]) (by omega) (by rw [List.length_append, Qe]; simp; omega)
  refine ⟨N + 1, ?_⟩
  rw [y3l m i (by omega), ← List.append_assoc, Zv]
  simp (disch := omega) only [z1e, Xx, Yf, Zt, Zo, Xe, Ym, Ye, Yg, Yy, Zj, Zr, Qk, Qq, decide_true, Zw, Zh, Zc, Ya, Zk, Nat.zero_add, Bool.and_true, Bool.true_and, cond_true, cond_false, Bool.not_true, Bool.not_false, Zp, Zg, Zm, Vj, Xa]
  exact hN
theorem v2o (l m : List R4) (hl : l.length ≤ 10000) (hm : m.length ≤ 10000) : ∀ (k i : Nat) (out : List Int), i + k = l.length → out.length = 2 * i → ∃ N, Yj (z1e l m) N (.to (.h0 out (i : Int))) = .ret [.dat (z1u (out ++ z0y (l.drop i) ++ z0y m)).length (Zz (z1u (out ++ z0y (l.drop i) ++ z0y m)))]
 | 0, i, out, h, ho => by
  obtain ⟨N, hN⟩ := v2n l m hl hm m.length 0 out (Nat.zero_add _) (by omega)
  refine ⟨N + 1, ?_⟩
  rw [Zv, List.drop_eq_nil_of_le (show l.length ≤ i by omega), show z0y [] = [] from rfl, List.append_nil]
  simp (disch := omega) only [z1e, Xx, Yf, Zt, Zo, Xe, Ym, Ye, Yg, Yy, Zj, Zr, Qk, Qq, decide_true, Zw, Zh, Zc, Ya, Zk, Nat.zero_add, Bool.and_true, Bool.true_and, cond_true, cond_false, Bool.not_true, Bool.not_false, Zp, Zg, Zm, Vj, Xa]
  exact hN
 | k + 1, i, out, h, ho => by
  obtain ⟨N, hN⟩ := v2o l m hl hm k (i + 1) (out ++ z0y [rd l i]) (by omega) (by rw [List.length_append, Qe]; simp; omega)
  refine ⟨N + 1, ?_⟩
  rw [y3l l i (by omega), ← List.append_assoc, Zv]
  simp (disch := omega) only [z1e, Xx, Yf, Zt, Zo, Xe, Ym, Ye, Yg, Yy, Zj, Zr, Qk, Qq, decide_true, Zw, Zh, Zc, Ya, Zk, Nat.zero_add, Bool.and_true, Bool.true_and, cond_true, cond_false, Bool.not_true, Bool.not_false, Zp, Zg, Zm, Vj, Xa]
  exact hN
theorem v6n (l m : List R4) (h : z8t l m = true) : ∃ N, Yj (z1e l m) N (z9c l m) = .ret [.dat (ysV l m).length (Zz (ysV l m))] := by
 obtain ⟨h1, h2⟩ := of_decide_eq_true h
 have := v2o l m h1 h2 l.length 0 [] (Nat.zero_add _) rfl
 simpa [z9c, ysV] using this
def Yn (l m : List R6) : List Int := z1u (z1x l ++ z1x m)
def z6f (l m : List R6) : Bool := decide (l.length ≤ 10000 ∧ m.length ≤ 10000)
theorem Qd (l : List R6) : (z1x l).length = 2 * l.length := by
 induction l with
 | nil => rfl
 | cons r l ih => show (_ :: _ :: z1x l).length = _; simp only [List.length_cons, ih]; omega
theorem y3i (l : List R6) (i : Nat) (h : i < l.length) : z1x (l.drop i) = z1x [rd l i] ++ z1x (l.drop (i + 1)) := by
 rw [Yi h]; rfl
theorem w3f (l m : List R6) (hl : l.length ≤ 10000) (hm : m.length ≤ 10000) : ∀ (k i : Nat) (out : List Int), i + k = m.length → out.length = 2 * l.length + 2 * i → ∃ N, Yj (Kk l m) N (.to (.h1 out (i : Int))) = .ret [.dat (z1u (out ++ z1x (m.drop i))).length (Zz (z1u (out ++ z1x (m.drop i))))]
 | 0, i, out, h, ho => by
  refine ⟨1, ?_⟩
  have hw : Jf out = true := decide_eq_true (by omega)
  rw [Zv, List.drop_eq_nil_of_le (show m.length ≤ i by omega), show z1x [] = [] from rfl, List.append_nil]
  simp (disch := omega) only [Kk, Xx, Yf, Zt, Zo, Xe, Ym, Ye, Yg, Yy, Zj, Zr, Qk, Qq, decide_true, Zw, Zh, Zc, Ya, Zk, Nat.zero_add, Bool.and_true, Bool.true_and, cond_true, cond_false, Bool.not_true, Bool.not_false, Zp, Zg, Zm, Vj, Xa, hw]
 | k + 1, i, out, h, ho => by
  obtain ⟨N, hN⟩ := w3f l m hl hm k (i + 1) (out ++ z1x [rd m i]) (by omega) (by rw [List.length_append, Qd]; simp; omega)
  refine ⟨N + 1, ?_⟩
  rw [y3i m i (by omega), ← List.append_assoc, Zv]
  simp (disch := omega) only [Kk, Xx, Yf, Zt, Zo, Xe, Ym, Ye, Yg, Yy, Zj, Zr, Qk, Qq, decide_true, Zw, Zh, Zc, Ya, Zk, Nat.zero_add, Bool.and_true, Bool.true_and, cond_true, cond_false, Bool.not_true, Bool.not_false, Zp, Zg, Zm, Vj, Xa]
  exact hN
theorem w3g (l m : List R6) (hl : l.length ≤ 10000) (hm : m.length ≤ 10000) : ∀ (k i : Nat) (out : List Int), i + k = l.length → out.length = 2 * i → ∃ N, Yj (Kk l m) N (.to (.h0 out (i : Int))) = .ret [.dat (z1u (out ++ z1x (l.drop i) ++ z1x m)).length (Zz (z1u (out ++ z1x (l.drop i) ++ z1x m)))]
 | 0, i, out, h, ho => by
  obtain ⟨N, hN⟩ := w3f l m hl hm m.length 0 out (Nat.zero_add _) (by omega)
  refine ⟨N + 1, ?_⟩
  rw [Zv, List.drop_eq_nil_of_le (show l.length ≤ i by omega), show z1x [] = [] from rfl, List.append_nil]
  simp (disch := omega) only [Kk, Xx, Yf, Zt, Zo, Xe, Ym, Ye, Yg, Yy, Zj, Zr, Qk, Qq, decide_true, Zw, Zh, Zc, Ya, Zk, Nat.zero_add, Bool.and_true, Bool.true_and, cond_true, cond_false, Bool.not_true, Bool.not_false, Zp, Zg, Zm, Vj, Xa]
  exact hN
 | k + 1, i, out, h, ho => by
  obtain ⟨N, hN⟩ := w3g l m hl hm k (i + 1) (out ++ z1x [rd l i]) (by omega) (by rw [List.length_append, Qd]; simp; omega)
  refine ⟨N + 1, ?_⟩
  rw [y3i l i (by omega), ← List.append_assoc, Zv]
  simp (disch := omega) only [Kk, Xx, Yf, Zt, Zo, Xe, Ym, Ye, Yg, Yy, Zj, Zr, Qk, Qq, decide_true, Zw, Zh, Zc, Ya, Zk, Nat.zero_add, Bool.and_true, Bool.true_and, cond_true, cond_false, Bool.not_true, Bool.not_false, Zp, Zg, Zm, Vj, Xa]
  exact hN
theorem w8q (l m : List R6) (h : z6f l m = true) : ∃ N, Yj (Kk l m) N (z5i l m) = .ret [.dat (Yn l m).length (Zz (Yn l m))] := by
 obtain ⟨h1, h2⟩ := of_decide_eq_true h
 have := w3g l m h1 h2 l.length 0 [] (Nat.zero_add _) rfl
 simpa [z5i, Yn] using this
def fXs : List AVal → Option (AVal × Bool)
 | [a0, a1] => match asL R4 a0, asL R4 a1 with
  | some (L0, g0, n0), some (L1, g1, n1) => some (.dat (xsV L0 L1).length (Zz (xsV L0 L1)), isT R4 n0 g0 && (isT R4 n1 g1 && (z8u L0 L1)))
  | _, _ => none
 | _ => none
theorem fXs_ok {S : Specs} (hS : Zu prog S) : Zu prog (S.with nXs fXs) := by
 refine z2m hS (by kernel_rfl) fun args v h => ?_
 unfold fXs at h
 split at h
 ·rename_i a0 a1
  split at h
  ·rename_i L0 g0 n0 L1 g1 n1 e0 e1
   simp only [Option.some.injEq, Prod.mk.injEq, Bool.and_eq_true] at h
   obtain ⟨rfl, ho0, ho1, hw⟩ := h
   obtain ⟨N, hN⟩ := v6o L0 L1 hw
   exact ⟨_, _, (.cons (Yx e0 ho0) (.cons (Yx e1 ho1) .nil)), rfl, w7y L0 L1 N _ hN, 3, rfl⟩
  ·cases h
 ·cases h
def fYs : List AVal → Option (AVal × Bool)
 | [a0, a1] => match asL R4 a0, asL R4 a1 with
  | some (L0, g0, n0), some (L1, g1, n1) => some (.dat (ysV L0 L1).length (Zz (ysV L0 L1)), isT R4 n0 g0 && (isT R4 n1 g1 && (z8t L0 L1)))
  | _, _ => none
 | _ => none
theorem fYs_ok {S : Specs} (hS : Zu prog S) : Zu prog (S.with nYs fYs) := by
 refine z2m hS (by kernel_rfl) fun args v h => ?_
 unfold fYs at h
 split at h
 ·rename_i a0 a1
  split at h
  ·rename_i L0 g0 n0 L1 g1 n1 e0 e1
   simp only [Option.some.injEq, Prod.mk.injEq, Bool.and_eq_true] at h
   obtain ⟨rfl, ho0, ho1, hw⟩ := h
   obtain ⟨N, hN⟩ := v6n L0 L1 hw
   exact ⟨_, _, (.cons (Yx e0 ho0) (.cons (Yx e1 ho1) .nil)), rfl, w7x L0 L1 N _ hN, 3, rfl⟩
  ·cases h
 ·cases h
def u0e : List AVal → Option (AVal × Bool)
 | [a0, a1] => match asL R6 a0, asL R6 a1 with
  | some (L0, g0, n0), some (L1, g1, n1) => some (.dat (Yn L0 L1).length (Zz (Yn L0 L1)), isT R6 n0 g0 && (isT R6 n1 g1 && (z6f L0 L1)))
  | _, _ => none
 | _ => none
theorem v0x {S : Specs} (hS : Zu prog S) : Zu prog (S.with nCuts u0e) := by
 refine z2m hS (by kernel_rfl) fun args v h => ?_
 unfold u0e at h
 split at h
 ·rename_i a0 a1
  split at h
  ·rename_i L0 g0 n0 L1 g1 n1 e0 e1
   simp only [Option.some.injEq, Prod.mk.injEq, Bool.and_eq_true] at h
   obtain ⟨rfl, ho0, ho1, hw⟩ := h
   obtain ⟨N, hN⟩ := w8q L0 L1 hw
   exact ⟨_, _, (.cons (Yx e0 ho0) (.cons (Yx e1 ho1) .nil)), rfl, w3h L0 L1 N _ hN, 3, rfl⟩
  ·cases h
 ·cases h
def T2 : Specs := ((T1.with nXs fXs).with nYs fYs).with nCuts u0e
theorem z7x : Zu prog T2 := v0x (fYs_ok (fXs_ok z1t))
end Go.Am
namespace Go.Am
open Go.Proofs.Tryz
open Go.Proofs
inductive rjoS where
 | h0 (v9 : List R4) (v10 : List R2) (v11 : Int) (v12 : Int)
 | h1 (v9 : List R4) (v10 : List R2) (v11 : Int) (v12 : Int) (v13 : List Bool) (v14 : Int)
 | h2 (v9 : List R4) (v10 : List R2) (v11 : Int) (v12 : Int) (v15 : List R2) (v17 : Int)
 | h3 (v9 : List R4) (v10 : List R2) (v11 : Int) (v12 : Int) (v16 : Int)
def rjoC (x0 : Int) (l1 : List R4) (l2 : List R4) : rjoS → Cfg
 | .h0 v9 v10 v11 v12 => ⟨⟨121, 0, true⟩, none, (Yw prog 115 [1, 1, 1, 1, 1, 0, 1, 0, 0] 0), none, (Zy prog 4), ⟨Xp [(0, (ii x0)), (1, (.dat l1.length (Zz l1))), (2, (.dat l2.length (Zz l2))), (7, (.dat (xsV (cvT l1) (cvT l2)).length (Zz (xsV (cvT l1) (cvT l2))))), (8, (.dat (ysV (cvT l1) (cvT l2)).length (Zz (ysV (cvT l1) (cvT l2))))), (9, (.sla 0 4 0 v9.length (.un 4))), (10, (.dat v10.length (Zz v10))), (11, (ii v11)), (12, (ii v12))], Ux [⟨rows v9.length (Zz v9), 114, some ⟨4, v9.length, (Zz v9)⟩⟩] 0, 1, [], true⟩, [], .leaf⟩
 | .h1 v9 v10 v11 v12 v13 v14 => ⟨⟨121, 0, true⟩, none, (Yw prog 115 [1, 1, 1, 1, 1, 0, 1, 0, 0, 1, 0, 0, 1, 0, 1, 0, 0] 0), none, (Zy prog 4), ⟨Xp [(0, (ii x0)), (1, (.dat l1.length (Zz l1))), (2, (.dat l2.length (Zz l2))), (7, (.dat (xsV (cvT l1) (cvT l2)).length (Zz (xsV (cvT l1) (cvT l2))))), (8, (.dat (ysV (cvT l1) (cvT l2)).length (Zz (ysV (cvT l1) (cvT l2))))), (9, (.sla 1 4 0 v9.length (.un 4))), (10, (.dat v10.length (Zz v10))), (11, (ii v11)), (12, (ii v12)), (13, (.sla 0 1 0 v13.length (.un 1))), (14, (ii v14))], Ux [⟨rows v13.length (Zz v13), 4, some ⟨1, v13.length, (Zz v13)⟩⟩, ⟨rows v9.length (Zz v9), 114, some ⟨4, v9.length, (Zz v9)⟩⟩] 0, 2, [], true⟩, [], .leaf⟩
 | .h2 v9 v10 v11 v12 v15 v17 => ⟨⟨121, 0, true⟩, none, (Yw prog 115 [1, 1, 1, 1, 1, 0, 1, 0, 0, 1, 0, 0, 1, 1, 1, 1, 1, 1, 0, 0] 0), none, (Zy prog 4), ⟨Xp [(0, (ii x0)), (1, (.dat l1.length (Zz l1))), (2, (.dat l2.length (Zz l2))), (7, (.dat (xsV (cvT l1) (cvT l2)).length (Zz (xsV (cvT l1) (cvT l2))))), (8, (.dat (ysV (cvT l1) (cvT l2)).length (Zz (ysV (cvT l1) (cvT l2))))), (9, (.sla 0 4 0 v9.length (.un 4))), (10, (.dat v10.length (Zz v10))), (11, (ii v11)), (12, (ii v12)), (15, (.dat v15.length (Zz v15))), (17, (ii v17))], Ux [⟨rows v9.length (Zz v9), 114, some ⟨4, v9.length, (Zz v9)⟩⟩] 0, 1, [], true⟩, [], .leaf⟩
 | .h3 v9 v10 v11 v12 v16 => ⟨⟨121, 0, true⟩, none, (Yw prog 115 [1, 1, 1, 1, 1, 0, 1, 0, 0, 1, 0, 0, 1, 1, 1, 0, 1, 0, 0, 1, 0, 0] 0), none, (Zy prog 4), ⟨Xp [(0, (ii x0)), (1, (.dat l1.length (Zz l1))), (2, (.dat l2.length (Zz l2))), (7, (.dat (xsV (cvT l1) (cvT l2)).length (Zz (xsV (cvT l1) (cvT l2))))), (8, (.dat (ysV (cvT l1) (cvT l2)).length (Zz (ysV (cvT l1) (cvT l2))))), (9, (.sla 0 4 0 v9.length (.un 4))), (10, (.dat v10.length (Zz v10))), (11, (ii v11)), (12, (ii v12)), (16, (ii v16))], Ux [⟨rows v9.length (Zz v9), 114, some ⟨4, v9.length, (Zz v9)⟩⟩] 0, 1, [], true⟩, [], .leaf⟩
def v7c : List (Option (List Nat)) := [some [0, 1, 2, 7, 8, 9, 10, 11, 12]]
def v7e : List (Option (List Nat)) := []
def rjoN1 : List (Option (List Nat)) := [some [0, 1, 2, 7, 8, 9, 10, 11, 12, 13, 14]]
def rjoM1 : List (Option (List Nat)) := []
def v7b : List (Option (List Nat)) := [some [0, 1, 2, 7, 8, 9, 10, 11, 12, 15, 17]]
def v7d : List (Option (List Nat)) := []
def rjoN3 : List (Option (List Nat)) := [some [0, 1, 2, 7, 8, 9, 10, 11, 12, 16]]
def rjoM3 : List (Option (List Nat)) := []
def Wo (x0 : Int) (l1 : List R4) (l2 : List R4) : rjoS → Wu rjoS
 | .h0 v9 v10 v11 v12 => (bif (decide ((IntKind.wrap .i64 (v12 + 1)) < (((xsV (cvT l1) (cvT l2)).length : Nat) : Int))) then (.to (.h1 v9 v10 v11 v12 ([] : List Bool) 0)) else (.ret [(.dat v9.length (Zz v9))]))
 | .h1 v9 v10 v11 v12 v13 v14 => (bif (decide (v14 < (((ysV (cvT l1) (cvT l2)).length : Nat) : Int))) then (bif (Kf (cvT l1) (rd (xsV (cvT l1) (cvT l2)) v12.toNat) (rd (ysV (cvT l1) (cvT l2)) v14.toNat)) then (bif ((decide (0 ≤ v12 ∧ v12 < (((xsV (cvT l1) (cvT l2)).length : Nat) : Int))) && true) then (bif ((decide (0 ≤ v14 ∧ v14 < (((ysV (cvT l1) (cvT l2)).length : Nat) : Int))) && true) then (bif (Kf (cvT l2) (rd (xsV (cvT l1) (cvT l2)) v12.toNat) (rd (ysV (cvT l1) (cvT l2)) v14.toNat)) then (bif (Nat.beq 1 1 && ((decide (0 + v13.length = v13.length)) && decide ((v13.length + 1 + 1) * (1 + 1) ≤ Uq))) then (.to (.h1 v9 v10 v11 v12 (v13 ++ [(z0d x0 (has4V (cvT l1) (rd (xsV (cvT l1) (cvT l2)) v12.toNat) (rd (ysV (cvT l1) (cvT l2)) v14.toNat)) (has4V (cvT l2) (rd (xsV (cvT l1) (cvT l2)) v12.toNat) (rd (ysV (cvT l1) (cvT l2)) v14.toNat)))]) (IntKind.wrap .i64 (v14 + 1)))) else .stuck) else .stuck) else .stuck) else .stuck) else .stuck) else (bif (z6j (cvT (ysV (cvT l1) (cvT l2))) (cvT v13)) then (bif (decide (v12 > 0)) then (bif (Uk (cvT (z8o (cvT (ysV (cvT l1) (cvT l2))) (cvT v13))) (cvT v10)) then (bif (Qn (cvT (z8o (cvT (ysV (cvT l1) (cvT l2))) (cvT v13))) (cvT v10)) then (.to (.h3 v9 v10 v11 v12 v11)) else (.to (.h2 v9 (z8o (cvT (ysV (cvT l1) (cvT l2))) (cvT v13)) (v9.length : Int) v12 (z8o (cvT (ysV (cvT l1) (cvT l2))) (cvT v13)) 0))) else .stuck) else (.to (.h2 v9 (z8o (cvT (ysV (cvT l1) (cvT l2))) (cvT v13)) (v9.length : Int) v12 (z8o (cvT (ysV (cvT l1) (cvT l2))) (cvT v13)) 0))) else .stuck))
 | .h2 v9 v10 v11 v12 v15 v17 => (bif (decide (v17 < (v15.length : Int))) then (bif ((decide (0 ≤ v12 ∧ v12 < (((xsV (cvT l1) (cvT l2)).length : Nat) : Int))) && true) then (bif ((decide (0 ≤ (IntKind.wrap .i64 (v12 + 1)) ∧ (IntKind.wrap .i64 (v12 + 1)) < (((xsV (cvT l1) (cvT l2)).length : Nat) : Int))) && true) then (bif ((decide (0 ≤ v17 ∧ v17 < (v15.length : Int))) && true) then (bif (Nat.beq 4 4 && ((decide (0 + v9.length = v9.length)) && decide ((v9.length + 1 + 1) * (32 + 1) ≤ Uq))) then (.to (.h2 (v9 ++ [(R4.mk (rd (xsV (cvT l1) (cvT l2)) v12.toNat) (rd v15 v17.toNat).a (rd (xsV (cvT l1) (cvT l2)) (Int.toNat (IntKind.wrap .i64 (v12 + 1)))) (rd v15 v17.toNat).b)]) v10 v11 v12 v15 (IntKind.wrap .i64 (v17 + 1)))) else .stuck) else .stuck) else .stuck) else .stuck) else (.to (.h0 v9 v10 v11 (IntKind.wrap .i64 (v12 + 1)))))
 | .h3 v9 v10 v11 v12 v16 => (bif (decide (v16 < (v9.length : Int))) then (bif ((decide (0 ≤ (IntKind.wrap .i64 (v12 + 1)) ∧ (IntKind.wrap .i64 (v12 + 1)) < (((xsV (cvT l1) (cvT l2)).length : Nat) : Int))) && true) then (bif ((decide (0 ≤ v16 ∧ v16 < (v9.length : Int))) && true) then (bif (decide ((0 + v16.toNat) < v9.length)) then (.to (.h3 (v9.set (0 + v16.toNat) (R4.mk (rd v9 (0 + v16.toNat)).a (rd v9 (0 + v16.toNat)).b (rd (xsV (cvT l1) (cvT l2)) (Int.toNat (IntKind.wrap .i64 (v12 + 1)))) (rd v9 (0 + v16.toNat)).d)) v10 v11 v12 (IntKind.wrap .i64 (v16 + 1)))) else .stuck) else .stuck) else .stuck) else (.to (.h0 v9 v10 v11 (IntKind.wrap .i64 (v12 + 1)))))
def z9j (x0 : Int) (l1 : List R4) (l2 : List R4) : Wu rjoS := (bif (z8u (cvT l1) (cvT l2)) then (bif (z8t (cvT l1) (cvT l2)) then (.to (.h0 ([] : List R4) ([] : List R2) 0 0)) else .stuck) else .stuck)
theorem x8m (x0 : Int) (l1 : List R4) (l2 : List R4) : ∀ s, Wm prog (Zy prog 115) (rjoC x0 l1 l2) (rjoC x0 l1 l2 s) (Wo x0 l1 l2 s)
 | .h0 v9 v10 v11 v12 => (lb (fun k0 => (sl z7x 24 [(4, 1, Zz ([] : List Bool))] ⟨[1, 0], [], rjoN1, rjoM1⟩ ⟨[(13, .grow 0 1)], [], []⟩ [true] (pp (fl ([] : List Bool) (fl v9 nn)) (tt k0 nn)))) (fun k0 => (lr 121 3 [1, 1, 1, 1, 1, 1, 0] 1 4 [(6, (.dat v9.length (Zz v9)))] (sl z7x 16 [] ⟨[], [0], [some [6]], []⟩ ⟨[(6, .frz v9.length v9.length (Zz v9) (Zz v9))], [], []⟩ [false] (pp (xZ (z6s 4 4 0 v9.length v9.length (Zz v9)) v9.length (Zz v9)) (pp (xL v9.length v9.length) (pp (xS v9.length (Zz v9) (Zz v9)) (pp (fl v9 nn) (tt k0 nn)))))))))
 | .h1 v9 v10 v11 v12 v13 v14 => (lb (fun k0 => (lo fun o0 => (lo fun o1 => (lo fun o2 => (lo fun o3 => (lo fun o4 => (sl z7x 20 [] ⟨[3, 1], [], rjoN1, rjoM1⟩ ⟨[(13, .len (v13 ++ [(z0d x0 (has4V (cvT l1) (rd (xsV (cvT l1) (cvT l2)) (tn v12)) (rd (ysV (cvT l1) (cvT l2)) (tn v14))) (has4V (cvT l2) (rd (xsV (cvT l1) (cvT l2)) (tn v12)) (rd (ysV (cvT l1) (cvT l2)) (tn v14))))]).length)], [.rowed 1 (v13 ++ [(z0d x0 (has4V (cvT l1) (rd (xsV (cvT l1) (cvT l2)) (tn v12)) (rd (ysV (cvT l1) (cvT l2)) (tn v14))) (has4V (cvT l2) (rd (xsV (cvT l1) (cvT l2)) (tn v12)) (rd (ysV (cvT l1) (cvT l2)) (tn v14))))]).length (Zz (v13 ++ [(z0d x0 (has4V (cvT l1) (rd (xsV (cvT l1) (cvT l2)) (tn v12)) (rd (ysV (cvT l1) (cvT l2)) (tn v14))) (has4V (cvT l2) (rd (xsV (cvT l1) (cvT l2)) (tn v12)) (rd (ysV (cvT l1) (cvT l2)) (tn v14))))])), .keep], []⟩ [true] (pp (xL (v13.length + 1) (v13 ++ [(z0d x0 (has4V (cvT l1) (rd (xsV (cvT l1) (cvT l2)) (tn v12)) (rd (ysV (cvT l1) (cvT l2)) (tn v14))) (has4V (cvT l2) (rd (xsV (cvT l1) (cvT l2)) (tn v12)) (rd (ysV (cvT l1) (cvT l2)) (tn v14))))]).length) (pp (xL (v13.length + 1) (v13 ++ [(z0d x0 (has4V (cvT l1) (rd (xsV (cvT l1) (cvT l2)) (tn v12)) (rd (ysV (cvT l1) (cvT l2)) (tn v14))) (has4V (cvT l2) (rd (xsV (cvT l1) (cvT l2)) (tn v12)) (rd (ysV (cvT l1) (cvT l2)) (tn v14))))]).length) (pp (xS (v13.length + 1) (Za (Zz v13) 0 v13.length 1 [(.bool (z0d x0 (has4V (cvT l1) (rd (xsV (cvT l1) (cvT l2)) (tn v12)) (rd (ysV (cvT l1) (cvT l2)) (tn v14))) (has4V (cvT l2) (rd (xsV (cvT l1) (cvT l2)) (tn v12)) (rd (ysV (cvT l1) (cvT l2)) (tn v14)))))]) (Zz (v13 ++ [(z0d x0 (has4V (cvT l1) (rd (xsV (cvT l1) (cvT l2)) (tn v12)) (rd (ysV (cvT l1) (cvT l2)) (tn v14))) (has4V (cvT l2) (rd (xsV (cvT l1) (cvT l2)) (tn v12)) (rd (ysV (cvT l1) (cvT l2)) (tn v14))))]))) (pp (pp (xF (Za (Zz v13) 0 v13.length 1 [(.bool (z0d x0 (has4V (cvT l1) (rd (xsV (cvT l1) (cvT l2)) (tn v12)) (rd (ysV (cvT l1) (cvT l2)) (tn v14))) (has4V (cvT l2) (rd (xsV (cvT l1) (cvT l2)) (tn v12)) (rd (ysV (cvT l1) (cvT l2)) (tn v14)))))])) (fl v9 nn)) (ww o4 (pp (pp (xr l2) (xw o3)) (ww o2 (ww o1 (pp (pp (xr l1) (xw o0)) (ww o2 (ww o1 (tt k0 nn))))))))))))))))))) (fun k0 => (Jh (sl z7x (C' := ⟨⟨121, 0, true⟩, (z2e prog 115 [1, 1, 1, 1, 1, 0, 1, 0, 0, 1, 0, 0, 1, 1, 0] 2), (Yw prog 115 [1, 1, 1, 1, 1, 0, 1, 0, 0, 1, 0, 0, 1, 1, 0] 1), none, (Zy prog 4), ⟨Xp [(0, (ii x0)), (1, (.dat l1.length (Zz l1))), (2, (.dat l2.length (Zz l2))), (7, (.dat (xsV (cvT l1) (cvT l2)).length (Zz (xsV (cvT l1) (cvT l2))))), (8, (.dat (ysV (cvT l1) (cvT l2)).length (Zz (ysV (cvT l1) (cvT l2))))), (9, (.sla 0 4 0 v9.length (.un 4))), (10, (.dat v10.length (Zz v10))), (11, (ii v11)), (12, (ii v12)), (62, (.dat (ysV (cvT l1) (cvT l2)).length (Zz (ysV (cvT l1) (cvT l2))))), (63, (.dat v13.length (Zz v13)))], Ux [⟨rows v9.length (Zz v9), 114, some ⟨4, v9.length, (Zz v9)⟩⟩] 0, 1, [], true⟩, [], .leaf⟩) 14 [] ⟨[1], [0], [some [0, 1, 2, 7, 8, 9, 10, 11, 12, 62, 63]], []⟩ ⟨[(63, .frz v13.length v13.length (Zz v13) (Zz v13))], [], []⟩ [false] (pp (xZ (z6s 1 1 0 v13.length v13.length (Zz v13)) v13.length (Zz v13)) (pp (xL v13.length v13.length) (pp (xS v13.length (Zz v13) (Zz v13)) (pp (fl v9 nn) (pp (fl v13 nn) (tt k0 nn))))))) (lo fun aG => (lb (fun k1 => (lo fun aU => (lb (fun k2 => (sl z7x 23 [] ⟨[0], [], rjoN3, rjoM3⟩ ⟨[], [], []⟩ (trs 4 []) (pp (fl v9 nn) (tt k2 (pp (pp (xI R2 (z8o (cvT (ysV (cvT l1) (cvT l2))) (cvT v13)).length (Zz (z8o (cvT (ysV (cvT l1) (cvT l2))) (cvT v13)))) (pp (xr v10) (xw aU))) (tt k1 (pp (pp (xI Int (ysV (cvT l1) (cvT l2)).length (Zz (ysV (cvT l1) (cvT l2)))) (pp (xr v13) (xw aG))) nn))))))) (fun k2 => (sl z7x 30 [] ⟨[0], [], v7b, v7d⟩ ⟨[], [], []⟩ (trs 3 [false]) (pp (fl v9 nn) (tt k2 (pp (pp (xI R2 (z8o (cvT (ysV (cvT l1) (cvT l2))) (cvT v13)).length (Zz (z8o (cvT (ysV (cvT l1) (cvT l2))) (cvT v13)))) (pp (xr v10) (xw aU))) (tt k1 (pp (pp (xI Int (ysV (cvT l1) (cvT l2)).length (Zz (ysV (cvT l1) (cvT l2)))) (pp (xr v13) (xw aG))) nn)))))))))) (fun k1 => (sl z7x 30 [] ⟨[0], [], v7b, v7d⟩ ⟨[], [], []⟩ [false, false, false, false] (pp (fl v9 nn) (tt k1 (pp (pp (xI Int (ysV (cvT l1) (cvT l2)).length (Zz (ysV (cvT l1) (cvT l2)))) (pp (xr v13) (xw aG))) nn))))))))))
 | .h2 v9 v10 v11 v12 v15 v17 => (lb (fun k0 => (lo fun o0 => (lo fun o1 => (lo fun o2 => (lo fun o3 => (sl z7x 20 [] ⟨[2], [], v7b, v7d⟩ ⟨[(9, .len (v9 ++ [(R4.mk (rd (xsV (cvT l1) (cvT l2)) (tn v12)) (rd v15 (tn v17)).a (rd (xsV (cvT l1) (cvT l2)) (tn (wr (v12 + 1)))) (rd v15 (tn v17)).b)]).length)], [.rowed 4 (v9 ++ [(R4.mk (rd (xsV (cvT l1) (cvT l2)) (tn v12)) (rd v15 (tn v17)).a (rd (xsV (cvT l1) (cvT l2)) (tn (wr (v12 + 1)))) (rd v15 (tn v17)).b)]).length (Zz (v9 ++ [(R4.mk (rd (xsV (cvT l1) (cvT l2)) (tn v12)) (rd v15 (tn v17)).a (rd (xsV (cvT l1) (cvT l2)) (tn (wr (v12 + 1)))) (rd v15 (tn v17)).b)]))], []⟩ [true] (pp (xL (v9.length + 1) (v9 ++ [(R4.mk (rd (xsV (cvT l1) (cvT l2)) (tn v12)) (rd v15 (tn v17)).a (rd (xsV (cvT l1) (cvT l2)) (tn (wr (v12 + 1)))) (rd v15 (tn v17)).b)]).length) (pp (xL (v9.length + 1) (v9 ++ [(R4.mk (rd (xsV (cvT l1) (cvT l2)) (tn v12)) (rd v15 (tn v17)).a (rd (xsV (cvT l1) (cvT l2)) (tn (wr (v12 + 1)))) (rd v15 (tn v17)).b)]).length) (pp (xS (v9.length + 1) (Za (Zz v9) 0 v9.length 4 [(ii (rd (xsV (cvT l1) (cvT l2)) (tn v12))), (ii (rd v15 (tn v17)).a), (ii (rd (xsV (cvT l1) (cvT l2)) (tn (wr (v12 + 1))))), (ii (rd v15 (tn v17)).b)]) (Zz (v9 ++ [(R4.mk (rd (xsV (cvT l1) (cvT l2)) (tn v12)) (rd v15 (tn v17)).a (rd (xsV (cvT l1) (cvT l2)) (tn (wr (v12 + 1)))) (rd v15 (tn v17)).b)]))) (pp (pp (xF (Za (Zz v9) 0 v9.length 4 [(ii (rd (xsV (cvT l1) (cvT l2)) (tn v12))), (ii (rd v15 (tn v17)).a), (ii (rd (xsV (cvT l1) (cvT l2)) (tn (wr (v12 + 1))))), (ii (rd v15 (tn v17)).b)])) nn) (ww o3 (ww o2 (ww o1 (ww o2 (ww o0 (tt k0 nn)))))))))))))))) (fun k0 => (sl z7x 17 [] ⟨[0], [], v7c, v7e⟩ ⟨[], [], []⟩ [false] (pp (fl v9 nn) (tt k0 nn)))))
 | .h3 v9 v10 v11 v12 v16 => (lb (fun k0 => (lo fun o0 => (lo fun o1 => (lo fun o2 => (sl z7x 31 [] ⟨[0], [], rjoN3, rjoM3⟩ ⟨[(9, .len (v9.set (0 + (tn v16)) (R4.mk (rd v9 (0 + (tn v16))).a (rd v9 (0 + (tn v16))).b (rd (xsV (cvT l1) (cvT l2)) (tn (wr (v12 + 1)))) (rd v9 (0 + (tn v16))).d)).length)], [.rowed 4 (v9.set (0 + (tn v16)) (R4.mk (rd v9 (0 + (tn v16))).a (rd v9 (0 + (tn v16))).b (rd (xsV (cvT l1) (cvT l2)) (tn (wr (v12 + 1)))) (rd v9 (0 + (tn v16))).d)).length (Zz (v9.set (0 + (tn v16)) (R4.mk (rd v9 (0 + (tn v16))).a (rd v9 (0 + (tn v16))).b (rd (xsV (cvT l1) (cvT l2)) (tn (wr (v12 + 1)))) (rd v9 (0 + (tn v16))).d)))], []⟩ [true] (pp (xL v9.length (v9.set (0 + (tn v16)) (R4.mk (rd v9 (0 + (tn v16))).a (rd v9 (0 + (tn v16))).b (rd (xsV (cvT l1) (cvT l2)) (tn (wr (v12 + 1)))) (rd v9 (0 + (tn v16))).d)).length) (pp (xL v9.length (v9.set (0 + (tn v16)) (R4.mk (rd v9 (0 + (tn v16))).a (rd v9 (0 + (tn v16))).b (rd (xsV (cvT l1) (cvT l2)) (tn (wr (v12 + 1)))) (rd v9 (0 + (tn v16))).d)).length) (pp (xS v9.length (Ww (Zz v9) (0 + (tn v16)) 2 [(ii (rd (xsV (cvT l1) (cvT l2)) (tn (wr (v12 + 1)))))]) (Zz (v9.set (0 + (tn v16)) (R4.mk (rd v9 (0 + (tn v16))).a (rd v9 (0 + (tn v16))).b (rd (xsV (cvT l1) (cvT l2)) (tn (wr (v12 + 1)))) (rd v9 (0 + (tn v16))).d)))) (pp (pp (xF (Ww (Zz v9) (0 + (tn v16)) 2 [(ii (rd (xsV (cvT l1) (cvT l2)) (tn (wr (v12 + 1)))))])) nn) (ww o2 (ww o1 (ww o0 (tt k0 nn))))))))))))) (fun k0 => (sl z7x 17 [] ⟨[0], [], v7c, v7e⟩ ⟨[], [], []⟩ [false] (pp (fl v9 nn) (tt k0 nn)))))
theorem x1g (x0 : Int) (l1 : List R4) (l2 : List R4) : Wm prog (Zy prog 115) (rjoC x0 l1 l2) (Zd prog 115 [(.int .i64 x0), (.dat l1.length (Zz l1)), (.dat l2.length (Zz l2))] true []) (z9j x0 l1 l2) := (lo fun o0 => (lo fun o1 => (sl z7x 34 [(114, 4, Zz ([] : List R4))] ⟨[0], [], v7c, v7e⟩ ⟨[(9, .grow 0 4), (10, .list 0 (Zz ([] : List R2)))], [], []⟩ [] (pp (fl ([] : List R4) nn) (pp (pp (xr l1) (pp (xr l2) (xw o1))) (pp (pp (xr l1) (pp (xr l2) (xw o0))) nn))))))
theorem w8k (x0 : Int) (l1 : List R4) (l2 : List R4) (n : Nat) (vs : List AVal) (h : Yj (Wo x0 l1 l2) n (z9j x0 l1 l2) = .ret vs) : Kv prog (Zy prog 115) (Zd prog 115 [(.int .i64 x0), (.dat l1.length (Zz l1)), (.dat l2.length (Zz l2))] true []) vs := by
 have := Zn (x8m x0 l1 l2) n _ (x1g x0 l1 l2)
 rwa [h] at this
end Go.Am
namespace Go.Am
open Go.Proofs
theorem z0s : ∀ (l out : List Int), (l.foldl y1i out).length ≤ out.length + l.length
 | [], out => Nat.le_refl _
 | x :: l, out => Nat.le_trans (z0s l (y1i out x)) (by have := y1h out x; simp; omega)
theorem z3w (l : List Int) : (z1u l).length ≤ l.length := by
 have := z0s l []
 simpa [z1u] using this
theorem y2b (cuts : List Int) (ins : List Bool) : ∀ (k i : Nat) (out : List R2), (w0z cuts ins k i out).length ≤ out.length + k
 | 0, _, out => Nat.le_refl _
 | k + 1, i, out => by
  unfold w0z
  refine Nat.le_trans (y2b cuts ins k (i + 1) _) ?_
  cases rd ins i
  ·simp only [cond_false]; omega
  ·simp only [cond_true]
   cases (decide (0 < out.length) && ((rd out (out.length - 1)).b == rd cuts i)) <;> simp <;> omega
theorem x4b (cuts : List Int) (ins : List Bool) : (z8o cuts ins).length ≤ cuts.length := by
 have := y2b cuts ins (cuts.length - 1) 0 []
 unfold z8o
 simp only [List.length_nil] at this
 omega
section
variable (kind : Int) (l m : List R4)
def v1l (x : Int) (y : Int) : Bool := z0d kind (has4V l x y) (has4V m x y)
def x5b (x : Int) : List R2 := z8o (ysV l m) ((ysV l m).map (v1l kind l m x))
def w7c (out : List R4) (first : Nat) (x : Int) : List R4 := out.take first ++ (out.drop first).map fun r => ⟨r.a, r.b, x, r.d⟩
def v7o (x x' : Int) (s : List R2) : List R4 := s.map fun p => ⟨x, p.a, x', p.b⟩
def jF : Nat → Nat → List R4 → List R2 → Nat → List R4
 | 0, _, out, _, _ => out
 | k + 1, i, out, last, first =>
  bif decide (0 < i) && Qn (x5b kind l m (rd (xsV l m) i)) last then jF k (i + 1) (w7c out first (rd (xsV l m) (i + 1))) last first
  else jF k (i + 1) (out ++ v7o (rd (xsV l m) i) (rd (xsV l m) (i + 1)) (x5b kind l m (rd (xsV l m) i))) (x5b kind l m (rd (xsV l m) i)) out.length
def joV : List R4 := jF kind l m ((xsV l m).length - 1) 0 [] [] 0
end
def z0c (_ : Int) (l m : List R4) : Bool := decide (l.length ≤ 10000 ∧ m.length ≤ 10000)
theorem Jq (l m : List R4) : (xsV l m).length ≤ 2 * l.length + 2 * m.length := by
 refine Nat.le_trans (z3w _) ?_
 rw [List.length_append, Qf, Qf]; omega
theorem y3j (l m : List R4) : (ysV l m).length ≤ 2 * l.length + 2 * m.length := by
 refine Nat.le_trans (z3w _) ?_
 rw [List.length_append, Qe, Qe]; omega
section
variable (kind : Int) (l m : List R4) (hl : l.length ≤ 10000) (hm : m.length ≤ 10000)
include hl hm
theorem v3e (out : List R4) (last : List R2) (first : Int) (i : Nat) (hi : i + 1 < (xsV l m).length) : ∀ (k j : Nat) (acc : List Bool), j + k = (ysV l m).length → acc.length = j →
  ∃ n, ∀ N, Yj (Wo kind l m) (N + n) (.to (.h1 out last first (i : Int) acc (j : Int))) = Yj (Wo kind l m) N (.to (.h1 out last first (i : Int) (acc ++ ((ysV l m).drop j).map (v1l kind l m (rd (xsV l m) i))) ((ysV l m).length : Int)))
 | 0, j, acc, h, ha => by
  refine ⟨0, fun N => ?_⟩
  rw [List.drop_eq_nil_of_le (by omega), List.map_nil, List.append_nil, Nat.add_zero]
  rw [show j = (ysV l m).length by omega]
 | k + 1, j, acc, h, ha => by
  have hx := Jq l m
  have hy := y3j l m
  obtain ⟨n, hn⟩ := v3e out last first i hi k (j + 1) (acc ++ [v1l kind l m (rd (xsV l m) i) (rd (ysV l m) j)]) (by omega) (by simp [ha])
  refine ⟨n + 1, fun N => ?_⟩
  have w1 : ∀ x y, Kf l x y = true := fun x y => decide_eq_true (by omega)
  have w2 : ∀ x y, Kf m x y = true := fun x y => decide_eq_true (by omega)
  rw [Yi (show j < (ysV l m).length by omega), List.map_cons, ← Nat.add_assoc, Zv]
  simp (disch := omega) only [Wo, Zg, Zm, w1, w2, Zt, Yy, Ye, Yg, Zr, Zj, Zw, Ya, Zk, Nat.zero_add, decide_true, Bool.and_true, Bool.true_and, cond_true]
  have := hn N
  rw [List.append_assoc] at this
  exact this
theorem v3d (last : List R2) (first : Int) (i : Nat) (hi : i + 1 < (xsV l m).length) (s : List R2) (hs : s.length ≤ 1000000) : ∀ (k j : Nat) (out : List R4), j + k = s.length → out.length ≤ 10000000000 + j →
  ∃ n, ∀ N, Yj (Wo kind l m) (N + n) (.to (.h2 out last first (i : Int) s (j : Int))) = Yj (Wo kind l m) N (.to (.h0 (out ++ v7o (rd (xsV l m) i) (rd (xsV l m) (i + 1)) (s.drop j)) last first ((i + 1 : Nat) : Int)))
 | 0, j, out, h, ho => by
  have hx := Jq l m
  refine ⟨1, fun N => ?_⟩
  rw [List.drop_eq_nil_of_le (by omega), Zv]
  simp (disch := omega) only [Wo, Zg, Zm, Zo, Zj, Zw, cond_false, v7o, List.map_nil, List.append_nil]
 | k + 1, j, out, h, ho => by
  have hx := Jq l m
  obtain ⟨n, hn⟩ := v3d last first i hi s hs k (j + 1) (out ++ v7o (rd (xsV l m) i) (rd (xsV l m) (i + 1)) [rd s j]) (by omega) (by simp [v7o]; omega)
  refine ⟨n + 1, fun N => ?_⟩
  have := hn N
  rw [Yi (show j < s.length by omega), ← Nat.add_assoc, Zv]
  simp (disch := omega) only [Wo, Zg, Zm, Zt, Yy, Ye, Yg, Zr, Zj, Zw, Ya, Zk, Nat.zero_add, decide_true, Bool.and_true, Bool.true_and, cond_true]
  rw [List.append_assoc] at this
  exact this
theorem v0z (out : List R4) (j : Nat) (x : Int) (h : j < out.length) : w7c (out.set j ⟨(rd out j).a, (rd out j).b, x, (rd out j).d⟩) (j + 1) x = w7c out j x := by
 have _uhl := hl
 have _uhm := hm
 unfold w7c
 rw [Yi h, List.map_cons]
 have e1 : (out.set j ⟨(rd out j).a, (rd out j).b, x, (rd out j).d⟩).take (j + 1) = out.take j ++ [⟨(rd out j).a, (rd out j).b, x, (rd out j).d⟩] := by
  apply List.ext_getElem
  ·simp; omega
  ·intro n h1 h2
   simp only [List.getElem_take, List.getElem_set]
   by_cases e : j = n
   ·subst e
    rw [if_pos rfl, List.getElem_append_right (by simp only [List.length_take]; omega)]
    simp
   ·rw [if_neg e, List.getElem_append_left (by simp at h1 ⊢; omega), List.getElem_take]
 have e2 : (out.set j ⟨(rd out j).a, (rd out j).b, x, (rd out j).d⟩).drop (j + 1) = out.drop (j + 1) := by
  rw [List.drop_set]; rw [if_pos (by omega)]
 rw [e1, e2, List.append_assoc]; rfl
theorem v3c (last : List R2) (first : Int) (i : Nat) (hi : i + 1 < (xsV l m).length) : ∀ (k j : Nat) (out : List R4), j + k = out.length → out.length ≤ 10000000000 →
  ∃ n, ∀ N, Yj (Wo kind l m) (N + n) (.to (.h3 out last first (i : Int) (j : Int))) = Yj (Wo kind l m) N (.to (.h0 (w7c out j (rd (xsV l m) (i + 1))) last first ((i + 1 : Nat) : Int)))
 | 0, j, out, h, ho => by
  have hx := Jq l m
  refine ⟨1, fun N => ?_⟩
  have e : w7c out j (rd (xsV l m) (i + 1)) = out := by
   unfold w7c; rw [List.drop_eq_nil_of_le (by omega), List.map_nil, List.append_nil, List.take_of_length_le (by omega)]
  rw [e, Zv]
  simp (disch := omega) only [Wo, Zg, Zm, Zo, Zj, Zw, cond_false]
 | k + 1, j, out, h, ho => by
  have hx := Jq l m
  obtain ⟨n, hn⟩ := v3c last first i hi k (j + 1) (out.set j ⟨(rd out j).a, (rd out j).b, rd (xsV l m) (i + 1), (rd out j).d⟩) (by simp; omega) (by simpa using ho)
  refine ⟨n + 1, fun N => ?_⟩
  have := hn N
  rw [v0z l m hl hm out j _ (by omega)] at this
  rw [← Nat.add_assoc, Zv]
  simp (disch := omega) only [Wo, Zg, Zm, Zt, Yy, Ym, Ye, Yg, Zr, Zj, Zw, Ya, Zk, Nat.zero_add, decide_true, Bool.and_true, Bool.true_and, cond_true]
  exact this
theorem w2v : ∀ (k i : Nat) (out : List R4) (last : List R2) (first : Nat), k = (xsV l m).length - 1 - i → i ≤ (xsV l m).length → out.length ≤ i * 40000 → last.length ≤ 40000 → first ≤ out.length →
  ∃ n, Yj (Wo kind l m) n (.to (.h0 out last (first : Int) (i : Int))) = .ret [.dat (jF kind l m k i out last first).length (Zz (jF kind l m k i out last first))]
 | 0, i, out, last, first, h, hi, ho, hla, hf => by
  have hx := Jq l m
  refine ⟨1, ?_⟩
  rw [Zv]
  simp (disch := omega) only [Wo, Zg, Zm, Zo, Zj, Zw, cond_false, Zp, jF]
 | k + 1, i, out, last, first, h, hi, ho, hla, hf => by
  have hx := Jq l m
  have hy := y3j l m
  have hi1 : i + 1 < (xsV l m).length := by omega
  have hsl : (x5b kind l m (rd (xsV l m) i)).length ≤ 40000 := Nat.le_trans (x4b _ _) (by omega)
  have hbig : i * 40000 ≤ 40000 * 40000 := Nat.mul_le_mul_right _ (by omega)
  obtain ⟨n1, h1⟩ := v3e kind l m hl hm out last first i hi1 (ysV l m).length 0 [] (Nat.zero_add _) rfl
  simp only [List.drop_zero, List.nil_append, y3e] at h1
  have w3 : z6j (ysV l m) ((ysV l m).map (v1l kind l m (rd (xsV l m) i))) = true := decide_eq_true ⟨by omega, by rw [List.length_map]; omega⟩
  have w4 : Uk (z8o (ysV l m) ((ysV l m).map (v1l kind l m (rd (xsV l m) i)))) last = true := decide_eq_true (Nat.le_trans hsl (by omega))
  have hy2 : ((ysV l m).length : Int) = (((ysV l m).length : Nat) : Int) := rfl
  unfold jF
  rcases Yr (decide (0 < i) && Qn (x5b kind l m (rd (xsV l m) i)) last) with q | q
  ·obtain ⟨n3, h3⟩ := v3c kind l m hl hm last first i hi1 (out.length - first) first out (by omega) (by omega)
   obtain ⟨n0, h0⟩ := w2v k (i + 1) (w7c out first (rd (xsV l m) (i + 1))) last first (by omega) (by omega) (by simp [w7c]; omega) hla (by simp [w7c]; omega)
   refine ⟨n0 + n3 + 1 + n1 + 1, ?_⟩
   rw [q, cond_true, Zv]
   simp only [Bool.and_eq_true, decide_eq_true_eq] at q
   have q2 : Qn (z8o (ysV l m) ((ysV l m).map (v1l kind l m (rd (xsV l m) i)))) last = true := q.2
   simp (disch := omega) only [Wo, Zg, Zm, Zt, Zj, Zw, cond_true]
   have h1' := h1 (n0 + n3 + 1)
   rw [h1', Zv]
   simp (disch := omega) only [Wo, Zg, Zm, Zo, Yf, q2, w3, w4, cond_true, cond_false]
   rw [h3 n0, h0]
  ·obtain ⟨n2, h2⟩ := v3d kind l m hl hm (x5b kind l m (rd (xsV l m) i)) (out.length : Int) i hi1 (x5b kind l m (rd (xsV l m) i)) (by omega) (x5b kind l m (rd (xsV l m) i)).length 0 out (Nat.zero_add _) (by omega)
   obtain ⟨n0, h0⟩ := w2v k (i + 1) (out ++ v7o (rd (xsV l m) i) (rd (xsV l m) (i + 1)) (x5b kind l m (rd (xsV l m) i))) (x5b kind l m (rd (xsV l m) i)) out.length (by omega) (by omega) (by simp [v7o]; omega) hsl (by simp)
   refine ⟨n0 + n2 + 1 + n1 + 1, ?_⟩
   rw [q, cond_false, Zv]
   simp (disch := omega) only [Wo, Zg, Zm, Zt, Zj, Zw, cond_true]
   have h1' := h1 (n0 + n2 + 1)
   rw [h1', Zv]
   have h2' := h2 n0
   simp only [List.drop_zero, y3e] at h2'
   by_cases hi0 : 0 < i
   ·rw [decide_eq_true hi0, Bool.true_and] at q
    have q2 : Qn (z8o (ysV l m) ((ysV l m).map (v1l kind l m (rd (xsV l m) i)))) last = false := q
    simp (disch := omega) only [Wo, Zg, Zm, Zo, Yf, q2, w3, w4, cond_true, cond_false]
    rw [← h0]; exact h2'
   ·simp (disch := omega) only [Wo, Zg, Zm, Zo, Xx, w3, w4, cond_true, cond_false]
    rw [← h0]; exact h2'
end
theorem v7a (kind : Int) (l m : List R4) (h : z0c kind l m = true) : ∃ N, Yj (Wo kind l m) N (z9j kind l m) = .ret [.dat (joV kind l m).length (Zz (joV kind l m))] := by
 obtain ⟨hl, hm⟩ := of_decide_eq_true h
 obtain ⟨N, hN⟩ := w2v kind l m hl hm ((xsV l m).length - 1) 0 [] [] 0 rfl (Nat.zero_le _) (Nat.zero_le _) (Nat.zero_le _) (Nat.le_refl _)
 refine ⟨N, ?_⟩
 have w1 : z8u l m = true := decide_eq_true ⟨hl, hm⟩
 have w2 : z8t l m = true := decide_eq_true ⟨hl, hm⟩
 simp only [z9j, Zg, Zm, w1, w2, cond_true]
 exact hN
end Go.Am
namespace Go.Am
open Go.Proofs.Tryz
open Go.Proofs
theorem fTwo {P : Program} {S : Specs} (hS : Zu P S) {f : FuncId} {F : List AVal → Option (AVal × Bool)} (hf : (P.funcs[f]?).any (fun fn => fn.body.isSome) = true)
  (hF : ∀ args v, F args = some (v, true) → ∃ bs vs, We VLe args bs ∧ (∀ (ρ : Rho) (u : Value), Zi ρ (Qz vs) u → Zi ρ v u) ∧ Kv P (Zy P f) (Zd P f bs true []) vs ∧ ∃ d, pf d (Qz vs) = true) : Zu P (S.with f F) :=
 x7g hS hf fun args v h => by
  obtain ⟨bs, vs, h1, h2, h3, d, h4⟩ := hF args v h
  exact ⟨vs, h2, y9m h1 h3, d, h4⟩
theorem Kn {cs cs' : List AVal} (h : RLe cs cs') (ρ : Rho) (u : Value) (hv : Zi ρ (.tup cs) u) : Zi ρ (.tup cs') u := by
 cases hv with
 | tup _ vs hl hh => exact .tup cs' vs (by rw [← h.len]; exact hl) fun i h1 h2 => h.sound i (by rw [h.len]; exact h1) h1 (hh i (by rw [h.len]; exact h1) h2)
theorem Um (α : Type) [Ys α] : VLe .nils (.dat ([] : List α).length (Zz ([] : List α))) := .nild _
def fJo : List AVal → Option (AVal × Bool)
 | [.int .i64 x0, a1, a2] => match asL R4 a1, asL R4 a2 with
  | some (L1, g1, n1), some (L2, g2, n2) => some (.dat (joV x0 L1 L2).length (Zz (joV x0 L1 L2)), isT R4 n1 g1 && (isT R4 n2 g2 && (z0c x0 L1 L2)))
  | _, _ => none
 | _ => none
theorem fJo_ok {S : Specs} (hS : Zu prog S) : Zu prog (S.with v4f fJo) := by
 refine z2m hS (by kernel_rfl) fun args v h => ?_
 unfold fJo at h
 split at h
 ·rename_i x0 a1 a2
  split at h
  ·rename_i L1 g1 n1 L2 g2 n2 e1 e2
   simp only [Option.some.injEq, Prod.mk.injEq, Bool.and_eq_true] at h
   obtain ⟨rfl, ho1, ho2, hw⟩ := h
   obtain ⟨N, hN⟩ := v7a x0 L1 L2 hw
   exact ⟨_, _, (.cons (.refl _) (.cons (Yx e1 ho1) (.cons (Yx e2 ho2) .nil))), rfl, w8k x0 L1 L2 N _ hN, 3, rfl⟩
  ·cases h
 ·cases h
def T3 : Specs := T2.with v4f fJo
theorem z7w : Zu prog T3 := fJo_ok z7x
end Go.Am
namespace Go.Am
open Go.Proofs Go.Sort
def bnd3 (r : R3) : Bool := decide (-1000000000 ≤ r.a ∧ r.a ≤ 1000000000)
def y7g (l : List R3) : Bool := l.all bnd3
abbrev E3 := { r : R3 // bnd3 r = true }
instance : Inhabited E3 := ⟨⟨⟨0, 0, 0⟩, rfl⟩⟩
def cf3 (x y : E3) : Int := x.1.a - y.1.a
def lt3 (x y : E3) : Bool := decide (cf3 x y < 0)
theorem swo3 : SWO lt3 where
 irrefl x := by unfold lt3 cf3; simp
 trans x y z h1 h2 := by unfold lt3 cf3 at *; simp at *; omega
 ntrans x y z h1 h2 := by unfold lt3 cf3 at *; simp at *; omega
def y7h : (l : List R3) → y7g l = true → List E3
 | [], _ => []
 | r :: l, h => ⟨r, by simp [y7g] at h; exact h.1⟩ :: y7h l (by simp [y7g] at h ⊢; exact h.2)
theorem z9z : ∀ (l : List R3) (h : y7g l = true), (y7h l h).map Subtype.val = l
 | [], _ => rfl
 | r :: l, h => by rw [y7h, List.map_cons, z9z l]
theorem Jc (l : List R3) (h : y7g l = true) : (y7h l h).length = l.length := by
 have := congrArg List.length (z9z l h)
 simpa using this
def z4t (l : List R3) : List R3 := if h : y7g l = true then (pdq lt3 (y7h l h).toArray 0 l.length (Lib.bitLen l.length) true true).toList.map Subtype.val else l
theorem z0m (l : List R3) (h : y7g l = true) : (z4t l).Perm l ∧ ∀ i j, i < j → j < (z4t l).length → (rd (z4t l) i).a ≤ (rd (z4t l) j).a := by
 have hp := pdq_sorts lt3 swo3 (y7h l h).toArray 0 l.length (Lib.bitLen l.length) true true (Nat.zero_le _) (by simp [Jc]) (Or.inl rfl)
 obtain ⟨⟨h1, h2, h3⟩, h4⟩ := hp
 have e : z4t l = (pdq lt3 (y7h l h).toArray 0 l.length (Lib.bitLen l.length) true true).toList.map Subtype.val := by unfold z4t; rw [dif_pos h]
 generalize pdq lt3 (y7h l h).toArray 0 l.length (Lib.bitLen l.length) true true = d at *
 have hs : d.size = l.length := by rw [h1]; simp [Jc]
 constructor
 ·rw [e]
  have x1 : (d.extract 0 l.length).toList = d.toList := by rw [← hs]; simp
  have x2 : ((y7h l h).toArray.extract 0 l.length).toList = y7h l h := by
   rw [show l.length = (y7h l h).toArray.size by simp [Jc]]; simp
  rw [x1, x2] at h3
  have := h3.map Subtype.val
  rw [z9z] at this
  exact this
 ·intro i j hij hj
  rw [e] at hj ⊢
  have hj' : j < d.size := by simpa using hj
  have := h4 i j (Nat.zero_le _) hij (by omega)
  rw [getElem!_pos d i (by omega), getElem!_pos d j hj'] at this
  rw [Xi (by simp; omega), Xi hj]
  simp only [List.getElem_map, Array.getElem_toList]
  unfold lt3 cf3 at this
  have := of_decide_eq_false this
  omega
end Go.Am
namespace Go.Am
open Go.Sort Go.RowKit Go.Proofs Go.Shelf
variable {P : Program} {ρ : Rho}
def valOf : AVal → Value
 | .int k n => .int k n
 | .bool b => .bool b
 | _ => .tuple #[]
def x2o : AVal → Bool
 | .int _ _ => true
 | .bool _ => true
 | _ => false
theorem w1k {a : AVal} (h : x2o a = true) : Zi ρ a (valOf a) := by
 cases a <;> first
  | exact .int _ _
  | exact .bool _
  | (simp [x2o] at h; done)
theorem w3a {a : AVal} {v : Value} (h : x2o a = true) (hv : Zi ρ a v) : v = valOf a := by
 cases hv <;> first
  | rfl
  | (simp [x2o] at h; done)
class v5s (α : Type) extends Ys α where
 num : ∀ a : α, (cells a).all x2o = true
instance : v5s R2 where num _ := rfl
instance : v5s R3 where num _ := rfl
instance : v5s R4 where num _ := rfl
instance : v5s R6 where num _ := rfl
instance {α : Type} [Ys α] : Inhabited α := ⟨Ys.d⟩
section
variable {α : Type} [v5s α]
def y4l (a : α) : List Value := (Ys.cells a).map valOf
theorem y1v (a : α) : (y4l a).length = Ys.w α := by rw [y4l, List.length_map, Ys.len]
theorem x6q (L : List α) (t : Nat) (h : t < L.length * Ys.w α) : (flatK y4l (Ys.w α) L.toArray)[t]? = (Ys.cells (rd L (t / Ys.w α)))[t % Ys.w α]?.map valOf := by
 have hw := Ys.pos (α := α)
 have hq : t / Ys.w α < L.length := Nat.div_lt_of_lt_mul (by rw [Nat.mul_comm]; exact h)
 have hj : t % Ys.w α < Ys.w α := Nat.mod_lt _ hw
 have hs : t < (flatK y4l (Ys.w α) L.toArray).size := by rw [size_flatK]; exact h
 rw [Array.getElem?_eq_getElem hs, ← getElem!_pos (flatK y4l (Ys.w α) L.toArray) t hs, get_flatK y4l (Ys.w α) L.toArray t (by simpa using h)]
 have e1 : L.toArray[t / Ys.w α]! = rd L (t / Ys.w α) := by
  rw [Xi hq, getElem!_pos L.toArray _ (by simpa using hq)]; simp
 rw [e1]
 have hl : t % Ys.w α < (y4l (rd L (t / Ys.w α))).length := by rw [y1v]; exact hj
 have hl2 : t % Ys.w α < (Ys.cells (rd L (t / Ys.w α))).length := by rw [Ys.len]; exact hj
 rw [getElem!_pos (y4l (rd L (t / Ys.w α))) _ hl, List.getElem?_eq_getElem hl2]
 simp [y4l]
theorem w2r (L : List α) (N t : Nat) (h : t < N * Ys.w α) : (rows N (Zz L))[t]? = (Ys.cells (rd L (t / Ys.w α)))[t % Ys.w α]? := by
 have hw := Ys.pos (α := α)
 have := Wd (get := Zz L) (sz := Ys.w α) N (fun _ _ => Ys.len _) (t / Ys.w α) (t % Ys.w α) (Nat.div_lt_of_lt_mul (by rw [Nat.mul_comm]; exact h)) (Nat.mod_lt _ hw)
 rw [show t / Ys.w α * Ys.w α + t % Ys.w α = t by rw [Nat.mul_comm]; exact Nat.div_add_mod t _] at this
 exact this
theorem z0n (L : List α) (N : Nat) : (rows N (Zz L)).length = N * Ys.w α := Yz N fun _ _ => Ys.len _
theorem y1m (w : World) (n blk off : Nat) (d : Array Value) (os : Array Obj) (k : Nat) (hk : k < w.heap.size) :
  (grow (putRow id (Go.Sort.ahead w n) blk off d) os).heap[k]? = if k = blk then (w.heap[k]?).map (onCells (putCells id off d)) else w.heap[k]? := by
 show (((Go.Sort.ahead w n).heap.modify blk (onCells (putCells id off d))) ++ os)[k]? = _
 rw [Array.getElem?_append_left (by simp; exact hk), Array.getElem?_modify]
 show (if blk = k then _ else _) = _
 by_cases h : k = blk
 ·rw [if_pos h.symm, if_pos h]; rfl
 ·rw [if_neg (fun e => h e.symm), if_neg h]; rfl
def x6r (α : Type) [Ys α] (srt : List α → List α) (bnd : List α → Bool) (g : FuncId) (args : List AVal) (mem : Mem) : Option (AVal × Nat × ABlk × Bool) := match args with
 | [.sla b sz off n cap, .fn f []] => bif Nat.beq f g then match Yk mem b with
  | some ⟨_, ty, some A⟩ => some (.tup [], b, ⟨rows A.n (Zz (srt (lst α n A.get))), ty, some ⟨Ys.w α, A.n, Zz (srt (lst α n A.get))⟩⟩,
    Nat.beq sz (Ys.w α) && (Nat.beq A.sz (Ys.w α) && (Nat.beq off 0 && ((decide (n = A.n) && (isT α n A.get && decide (n < 4611686018427387904))) && bnd (lst α n A.get)))))
  | _ => none
  else none
 | _ => none
theorem w5q {f g : FuncId} {srt : List α → List α} {bnd : List α → Bool} (hsl : ∀ L, (srt L).length = L.length)
  (hC : ∀ (blk off cap : Nat) (L : List α) (w : World), bnd L = true → HoldsK y4l (Ys.w α) w blk off L.toArray → blk < w.heap.size → L.length < 4611686018427387904 →
   Calls P f #[.slice (some ⟨blk, off, none⟩) L.length cap, .func (.func g) #[] #[]] w fun e w' => e = .returned (.tuple #[]) ∧ ∃ n os, w' = sortWorldK y4l (Ys.w α) w blk off n (srt L).toArray os)
  (hN : ∀ (p : Option Addr) (cap : Nat) (fv : Value) (w : World), Calls P f #[.slice p 0 cap, fv] w fun e w' => e = .returned (.tuple #[]) ∧ w' = w) : x0e P f (x6r α srt bnd g) := by
 intro args mem v b blk h fE ρ next floor vals w hfl dD cW
 have hw0 := Ys.pos (α := α)
 unfold x6r at h
 split at h
 ·rename_i b0 sz off n cap f0
  obtain ⟨hfg, h'⟩ := Kg h
  clear h
  obtain rfl := Nat.eq_of_beq_eq_true hfg
  have h := h'
  clear h'
  split at h
  ·rename_i cells ty A hm
   obtain ⟨asz, an, get⟩ := A
   simp only [Option.some.injEq, Prod.mk.injEq, Bool.and_eq_true] at h
   obtain ⟨rfl, rfl, rfl, h1, h2, h3, ⟨h4, h5, h6⟩, h7⟩ := h
   have g1 := Nat.eq_of_beq_eq_true h1
   have g2 := Nat.eq_of_beq_eq_true h2
   have g3 := Nat.eq_of_beq_eq_true h3
   have g4 : n = an := of_decide_eq_true h4
   have h6 : n < 4611686018427387904 := of_decide_eq_true h6
   have g2 : asz = Ys.w α := g2
   subst g1
   subst g2
   subst g3
   subst g4
   have h7 : bnd (lst α n get.get) = true := h7
   have dI := y6a h5
   have dI : ∀ i, i < n → get.get i = Zz (lst α n get.get) i := dI
   have hrows : rows n get.get = rows n (Zz (lst α n get.get)) := z2u n dI
   obtain ⟨u, hu, hvals⟩ : ∃ u, Zi ρ (.sla b0 (Ys.w α) 0 n cap) u ∧ vals = #[u, .func (.func f0) #[] #[]] := by
    obtain ⟨vl⟩ := vals
    cases dD with
    | cons q1 q2 => cases q2 with
     | cons q3 q4 =>
      cases q4
      cases q3 with
      | fn _ _ cvs hl _ =>
       have : cvs = #[] := Array.eq_empty_of_size_eq_zero (by simpa using hl.symm)
       subst this
       exact ⟨_, q1, rfl⟩
   subst hvals
   have hlt : b0 < next := by
    rcases Nat.lt_or_ge b0 next with q | q
    ·exact q
    ·have := cW.bd b0 q; rw [hm] at this; cases this
   show Calls P f _ w _
   have hAget : (Arr.get ⟨Ys.w α, n, get⟩) = get.get := rfl
   rw [hAget] at *
   generalize hI : lst α n get.get = I at *
   have hIl : I.length = n := by rw [← hI]; exact z3a _ _
   generalize hL : srt I = L
   have hLl : L.length = n := by rw [← hL, hsl, hIl]
   have hnn : ρ b0 = none → ∀ cs ty', Yk mem b0 ≠ some ⟨cs, ty', none⟩ := fun _ cs ty' e => by rw [hm] at e; cases e
   cases hu with
   | sla _ _ _ _ _ l cc e hc dA =>
    have hbk := cW.blk b0 l _ e hm
    obtain ⟨har, _, _⟩ := hbk.arr _ rfl
    have har : cells = rows n get.get := har
    rw [hrows] at har
    subst har
    obtain ⟨cur, el, hh, hsz, dG⟩ := hbk.cells
    simp only [z0n] at dG
    have htot := hbk.tot
    have hln := hbk.n
    simp only [z0n] at hln
    have dT : ∀ t, t < n * Ys.w α → cur[l.base + t]? = (Ys.cells (rd I (t / Ys.w α)))[t % Ys.w α]?.map valOf := fun t ht => by
     obtain ⟨v, e1, e2⟩ := dG t ht
     have hj : t % Ys.w α < Ys.w α := Nat.mod_lt _ hw0
     have hl2 : t % Ys.w α < (Ys.cells (rd I (t / Ys.w α))).length := by rw [Ys.len]; exact hj
     have e3 := w2r I n t ht
     rw [List.getElem?_eq_getElem (by rw [z0n]; exact ht), List.getElem?_eq_getElem hl2] at e3
     rw [Option.some.inj e3] at e2
     rw [e1, List.getElem?_eq_getElem hl2, Option.map_some, w3a (List.all_eq_true.1 (v5s.num _) _ (List.getElem_mem hl2)) e2]
    have eJ := cW.real b0 l e
    have hH : HoldsK y4l (Ys.w α) w l.blk (l.base + 0 * Ys.w α) I.toArray := fun j hj => by
     have hj : j < n * Ys.w α := by simpa [hIl] using hj
     have hs : j < (flatK y4l (Ys.w α) I.toArray).size := by simpa [hIl] using hj
     have e1 := x6q I j (by rw [hIl]; exact hj)
     rw [Array.getElem?_eq_getElem hs] at e1
     refine ⟨?_, ?_⟩
     ·simp only [World.cell?, hh, Nat.zero_mul, Nat.add_zero, id]
      rw [dT j hj, ← e1, getElem!_pos (flatK y4l (Ys.w α) I.toArray) j hs]
      simp
     ·simp [World.frozen?, hh]
    have dP := hC l.blk (l.base + 0 * Ys.w α) cc I w h7 hH eJ (by omega)
    rw [hIl, hL] at dP
    refine dP.mono fun e' w' ⟨he, q, os, hw'⟩ => ⟨_, he, ?_, ?_, ?_⟩
    ·exact .tup [] #[] rfl fun i h1 h2 => absurd h1 (Nat.not_lt_zero _)
    ·subst hw'
     refine Rel.setArr ?_ ⟨Ys.w α, n, .flat (Zz L)⟩ rfl hw0 fun _ _ => Ys.len _
     refine Rel.rewritten cW e hm (by simp only [z0n]) (fun k hk hne => ?_) ?_ ?_
     ·exact (y1m _ _ _ _ _ _ _ hk).trans (if_neg hne)
     ·show _ ≤ (((Go.Sort.ahead w q).heap.modify _ _) ++ os).size
      simp only [Array.size_append, Array.size_modify]
      exact Nat.le_add_right _ _
     ·refine ⟨putCells id (l.base + 0 * Ys.w α) (flatK y4l (Ys.w α) L.toArray) cur, el, ?_, ?_, fun i hi => ?_⟩
      ·refine (y1m _ _ _ _ _ _ _ eJ).trans ?_
       rw [if_pos rfl, hh]; rfl
      ·simp only [putCells, Array.size_mapIdx]; exact hsz
      ·rw [z0n] at hi
       have hj : i % Ys.w α < Ys.w α := Nat.mod_lt _ hw0
       have hl2 : i % Ys.w α < (Ys.cells (rd L (i / Ys.w α))).length := by rw [Ys.len]; exact hj
       have hl3 : i % Ys.w α < (Ys.cells (rd I (i / Ys.w α))).length := by rw [Ys.len]; exact hj
       have e1 := x6q L i (by rw [hLl]; exact hi)
       rw [List.getElem?_eq_getElem hl2, Option.map_some] at e1
       have hs : i < (flatK y4l (Ys.w α) L.toArray).size := by simpa [hLl] using hi
       rw [Array.getElem?_eq_getElem hs] at e1
       have e3 := w2r L n i hi
       rw [List.getElem?_eq_getElem (by rw [z0n]; exact hi), List.getElem?_eq_getElem hl2] at e3
       refine ⟨valOf (Ys.cells (rd L (i / Ys.w α)))[i % Ys.w α], ?_, ?_⟩
       ·have hc0 := dT i hi
        rw [List.getElem?_eq_getElem hl3, Option.map_some] at hc0
        simp only [putCells, Array.getElem?_mapIdx, hc0, Option.map_some, Nat.zero_mul, Nat.add_zero]
        rw [if_pos ⟨by omega, by omega⟩]
        congr 1
        rw [show l.base + i - l.base = i by omega, id, getElem!_pos (flatK y4l (Ys.w α) L.toArray) i hs]
        exact Option.some.inj e1
       ·rw [Option.some.inj e3]
        exact w1k (List.all_eq_true.1 (v5s.num _) _ (List.getElem_mem hl2))
    ·subst hw'
     refine Ev.rewritten cW _ (fun l' _ => hfl) hnn (fun k hk hne => ?_) ?_ rfl rfl rfl
     ·exact (y1m _ _ _ _ _ _ _ hk).trans (if_neg (hne l e))
     ·show _ ≤ (((Go.Sort.ahead w q).heap.modify _ _) ++ os).size
      simp only [Array.size_append, Array.size_modify]
      exact Nat.le_add_right _ _
   | slan =>
    have hI0 : I = [] := List.eq_nil_of_length_eq_zero hIl
    have hL0 : L = [] := List.eq_nil_of_length_eq_zero hLl
    refine (hN none 0 _ w).mono fun e' w' ⟨he, hw'⟩ => ⟨_, he, ?_, ?_, ?_⟩
    ·exact .tup [] #[] rfl fun i h1 h2 => absurd h1 (Nat.not_lt_zero _)
    ·subst hw'
     refine cW.reblk hm fun l hρ hbk => ?_
     obtain ⟨har, fC, _⟩ := hbk.arr _ rfl
     have har : cells = rows 0 get.get := har
     subst har
     exact ⟨hbk.n, hbk.tot, fun B hB => by obtain rfl := Option.some.inj hB; exact ⟨rfl, hw0, fun i hi => absurd hi (Nat.not_lt_zero _)⟩, hbk.cells⟩
    ·subst hw'
     exact Ev.rewritten cW _ (fun l' _ => hfl) hnn (fun _ _ _ => rfl) (Nat.le_refl _) rfl rfl rfl
  ·cases h
 ·cases h
end
def Specs.withE (S : Specs) (f : FuncId) (F : List AVal → Mem → Option (AVal × Nat × ABlk × Bool)) : Specs := fun g => bif Nat.beq g f then some (.eff F) else S g
theorem y4v {P : Program} {S : Specs} (hS : Zu P S) {f : FuncId} {F : List AVal → Mem → Option (AVal × Nat × ABlk × Bool)} (hf : (P.funcs[f]?).any (fun fn => fn.body.isSome) = true) (hF : x0e P f F) : Zu P (S.withE f F) := by
 intro g G hg
 unfold Specs.withE at hg
 cases hgf : Nat.beq g f with
 | false => rw [hgf] at hg; exact hS g G hg
 | true =>
  rw [hgf] at hg
  obtain rfl : Spec.eff F = G := Option.some.inj hg
  obtain rfl : g = f := Nat.eq_of_beq_eq_true hgf
  refine ⟨?_, hF⟩
  cases hfn : P.funcs[g]? with
  | none => rw [hfn] at hf; cases hf
  | some fn => rw [hfn] at hf; exact ⟨fn, rfl, hf⟩
end Go.Am
namespace Go.Proofs
open Go.Proofs.Tryz
open Go.Shelf
def Tryz.lays189_ren : Go.Shelf.Ren := ⟨fun | 189 => 119 | 125 => 142 | 257 => 141 | 128 => 164 | 129 => 165 | 294 => 155 | 295 => 156 | 296 => 157 | 297 => 158 | 298 => 159 | 299 => 160 | 216 => 161 | 300 => 162 | 301 => 163 | 328 => 175 | 329 => 176 | 330 => 177 | 331 => 178 | 332 => 179 | 215 => 180 | 343 => 190 | n => n, fun | 28 => 47 | 3 => 3 | 46 => 165 | 0 => 0 | 51 => 213 | 53 => 215 | 4 => 4 | 183 => 205 | 182 => 204 | 131 => 210 | 5 => 5 | 9 => 9 | 218 => 227 | 222 => 231 | 228 => 242 | 229 => 27 | n => n, fun | n => n⟩
theorem Tryz.lays189 : Go.Proofs.Lays.n189 prog Tryz.lays189_ren := {
 mixed := by kernel_rfl
 f125 := Tryz.func142.trans (congrArg some (by kernel_rfl))
 f128 := Tryz.func164.trans (congrArg some (by kernel_rfl))
 f129 := Tryz.func165.trans (congrArg some (by kernel_rfl))
 f189 := Tryz.func119.trans (congrArg some (by kernel_rfl))
 f215 := Tryz.func180.trans (congrArg some (by kernel_rfl))
 f216 := Tryz.func161.trans (congrArg some (by kernel_rfl))
 f257 := Tryz.func141.trans (congrArg some (by kernel_rfl))
 f294 := Tryz.func155.trans (congrArg some (by kernel_rfl))
 f295 := Tryz.func156.trans (congrArg some (by kernel_rfl))
 f296 := Tryz.func157.trans (congrArg some (by kernel_rfl))
 f297 := Tryz.func158.trans (congrArg some (by kernel_rfl))
 f298 := Tryz.func159.trans (congrArg some (by kernel_rfl))
 f299 := Tryz.func160.trans (congrArg some (by kernel_rfl))
 f300 := Tryz.func162.trans (congrArg some (by kernel_rfl))
 f301 := Tryz.func163.trans (congrArg some (by kernel_rfl))
 f328 := Tryz.func175.trans (congrArg some (by kernel_rfl))
 f329 := Tryz.func176.trans (congrArg some (by kernel_rfl))
 f330 := Tryz.func177.trans (congrArg some (by kernel_rfl))
 f331 := Tryz.func178.trans (congrArg some (by kernel_rfl))
 f332 := Tryz.func179.trans (congrArg some (by kernel_rfl))
 f343 := Tryz.func190.trans (congrArg some (by kernel_rfl))
 t0 := Tryz.underlying0
 a0 := Tryz.isAgg0
 z0 := Tryz.sizeOf0
 v0 := Tryz.zeroValue0
 t3 := Tryz.underlying3
 a3 := Tryz.isAgg3
 z3 := Tryz.sizeOf3
 v3 := Tryz.zeroValue3
 t4 := Tryz.underlying4
 a4 := Tryz.isAgg4
 z4 := Tryz.sizeOf4
 v4 := Tryz.zeroValue4
 t5 := Tryz.underlying5
 a5 := Tryz.isAgg5
 z5 := Tryz.sizeOf5
 v5 := Tryz.zeroValue5
 t9 := Tryz.underlying9
 a9 := Tryz.isAgg9
 z9 := Tryz.sizeOf9
 v9 := Tryz.zeroValue9
 t28 := Tryz.underlying47
 a28 := Tryz.isAgg47
 z28 := Tryz.sizeOf47
 v28 := Tryz.zeroValue47
 t46 := Tryz.underlying165
 a46 := Tryz.isAgg165
 z46 := Tryz.sizeOf165
 v46 := Tryz.zeroValue165
 t51 := Tryz.underlying213
 a51 := Tryz.isAgg213
 z51 := Tryz.sizeOf213
 v51 := Tryz.zeroValue213
 t53 := Tryz.underlying215
 a53 := Tryz.isAgg215
 z53 := Tryz.sizeOf215
 v53 := Tryz.zeroValue215
 t131 := Tryz.underlying210
 a131 := Tryz.isAgg210
 z131 := Tryz.sizeOf210
 v131 := Tryz.zeroValue210
 t182 := Tryz.underlying204
 a182 := Tryz.isAgg204
 z182 := Tryz.sizeOf204
 v182 := Tryz.zeroValue204
 t183 := Tryz.underlying205
 a183 := Tryz.isAgg205
 z183 := Tryz.sizeOf205
 v183 := Tryz.zeroValue205
 t218 := Tryz.underlying227
 a218 := Tryz.isAgg227
 z218 := Tryz.sizeOf227
 v218 := Tryz.zeroValue227
 t222 := Tryz.underlying231
 a222 := Tryz.isAgg231
 z222 := Tryz.sizeOf231
 v222 := Tryz.zeroValue231
 t228 := Tryz.underlying242
 a228 := Tryz.isAgg242
 z228 := Tryz.sizeOf242
 v228 := Tryz.zeroValue242
 t229 := Tryz.underlying27
 a229 := Tryz.isAgg27
 z229 := Tryz.sizeOf27
 v229 := Tryz.zeroValue27 }
open Go.Sort Go.RowKit in
theorem Tryz.slices_Sort_int (blk off cap : Nat) (zs : List Int) (w : World) (hH : Holds (Value.int .i64) w blk off zs.toArray) (eJ : blk < w.heap.size) (hsz : zs.length < 4611686018427387904) :
  Calls prog 119 #[.slice (some ⟨blk, off, none⟩) zs.length cap] w fun e w' =>
   e = .returned (.tuple #[]) ∧ ∃ n os, w' = grow (putRow (Value.int .i64) (Sort.ahead w n) blk off (zs.mergeSort fun x y => decide (x ≤ y)).toArray) os := Any.slices_Sort_int Tryz.lays189 blk off cap zs w hH eJ hsz
def Tryz.laysNm220_ren : Go.Shelf.Ren := ⟨fun | 20 => 120 | n => n, fun | 22 => 47 | 3 => 3 | 4 => 4 | 0 => 0 | n => n, fun | n => n⟩
theorem Tryz.laysNm220 : Go.Proofs.Lays2.n20 prog Tryz.laysNm220_ren := {
 mixed := by kernel_rfl
 f20 := Tryz.func120.trans (congrArg some (by kernel_rfl))
 t0 := Tryz.underlying0
 a0 := Tryz.isAgg0
 z0 := Tryz.sizeOf0
 v0 := Tryz.zeroValue0
 t3 := Tryz.underlying3
 a3 := Tryz.isAgg3
 z3 := Tryz.sizeOf3
 v3 := Tryz.zeroValue3
 t4 := Tryz.underlying4
 a4 := Tryz.isAgg4
 z4 := Tryz.sizeOf4
 v4 := Tryz.zeroValue4
 t22 := Tryz.underlying47
 a22 := Tryz.isAgg47
 z22 := Tryz.sizeOf47
 v22 := Tryz.zeroValue47
 i3 := by kernel_rfl }
open Go.RowKit Go.Lib Go.Sort in
theorem Tryz.slices_Compact_int (blk off cap : Nat) (zs : List Int) (w : World) (hH : Holds (Value.int .i64) w blk off zs.toArray) (hsz : zs.length ≤ 9223372036854775807) (dH : zs.length ≤ cap) :
  Calls prog 120 #[.slice (some ⟨blk, off, none⟩) zs.length cap] w fun e w' => e = .returned (.slice (some ⟨blk, off, none⟩) (Lib.compact zs).length cap) ∧ ∃ q, w' = putRow (Value.int .i64) (Sort.ahead w q) blk off (Lib.compact zs ++ List.replicate (zs.length - (Lib.compact zs).length) 0).toArray := Any.slices_Compact_int Tryz.laysNm220 blk off cap zs w hH hsz dH
open Go.RowKit Go.Lib Go.Sort in
theorem Tryz.slices_Compact_int_empty (a : Option Addr) (cap : Nat) (w : World) :
  Calls prog 120 #[.slice a 0 cap] w fun e w' => e = .returned (.slice a 0 cap) ∧ w' = w := Any.slices_Compact_int_empty Tryz.laysNm220 a cap w
open Go.RowKit Go.Sort in
theorem Tryz.slices_Sort_int_none (p : Option Addr) (cap : Nat) (w : World) :
  Calls prog 119 #[.slice p 0 cap] w fun e w' => e = .returned (.tuple #[]) ∧ w' = w := Any.slices_Sort_int_none Tryz.lays189 p cap w
def Tryz.sortEnd_ren : Go.Shelf.Ren := ⟨fun | 6 => 192 | 15 => 142 | 14 => 196 | 28 => 164 | 29 => 165 | 20 => 198 | 21 => 199 | 22 => 200 | 23 => 201 | 24 => 202 | 25 => 203 | 26 => 204 | 27 => 205 | 46 => 206 | 47 => 176 | 48 => 177 | 49 => 207 | 50 => 208 | 57 => 209 | n => n, fun | 22 => 245 | 24 => 240 | 25 => 247 | 3 => 3 | 39 => 165 | 0 => 0 | 53 => 213 | 55 => 215 | 4 => 4 | 46 => 205 | 45 => 204 | 50 => 210 | 5 => 5 | 9 => 9 | 66 => 227 | 70 => 231 | 76 => 242 | 77 => 27 | n => n, fun | n => n⟩
theorem Tryz.sortEnd : Go.Proofs.SlLaysF0.n6 prog Tryz.sortEnd_ren := {
 mixed := by kernel_rfl
 f6 := ⟨Tryz.f192.name, by decide, Tryz.func192.trans (congrArg some (by kernel_rfl))⟩
 f14 := ⟨Tryz.f196.name, by decide, Tryz.func196.trans (congrArg some (by kernel_rfl))⟩
 f15 := Tryz.func142.trans (congrArg some (by kernel_rfl))
 f20 := ⟨Tryz.f198.name, by decide, Tryz.func198.trans (congrArg some (by kernel_rfl))⟩
 f21 := ⟨Tryz.f199.name, by decide, Tryz.func199.trans (congrArg some (by kernel_rfl))⟩
 f22 := ⟨Tryz.f200.name, by decide, Tryz.func200.trans (congrArg some (by kernel_rfl))⟩
 f23 := ⟨Tryz.f201.name, by decide, Tryz.func201.trans (congrArg some (by kernel_rfl))⟩
 f24 := ⟨Tryz.f202.name, by decide, Tryz.func202.trans (congrArg some (by kernel_rfl))⟩
 f25 := ⟨Tryz.f203.name, by decide, Tryz.func203.trans (congrArg some (by kernel_rfl))⟩
 f26 := ⟨Tryz.f204.name, by decide, Tryz.func204.trans (congrArg some (by kernel_rfl))⟩
 f27 := ⟨Tryz.f205.name, by decide, Tryz.func205.trans (congrArg some (by kernel_rfl))⟩
 f28 := Tryz.func164.trans (congrArg some (by kernel_rfl))
 f29 := Tryz.func165.trans (congrArg some (by kernel_rfl))
 f46 := ⟨Tryz.f206.name, by decide, Tryz.func206.trans (congrArg some (by kernel_rfl))⟩
 f47 := Tryz.func176.trans (congrArg some (by kernel_rfl))
 f48 := Tryz.func177.trans (congrArg some (by kernel_rfl))
 f49 := ⟨Tryz.f207.name, by decide, Tryz.func207.trans (congrArg some (by kernel_rfl))⟩
 f50 := ⟨Tryz.f208.name, by decide, Tryz.func208.trans (congrArg some (by kernel_rfl))⟩
 f57 := ⟨Tryz.f209.name, by decide, Tryz.func209.trans (congrArg some (by kernel_rfl))⟩
 t0 := Tryz.underlying0
 a0 := Tryz.isAgg0
 z0 := Tryz.sizeOf0
 v0 := Tryz.zeroValue0
 t3 := Tryz.underlying3
 a3 := Tryz.isAgg3
 z3 := Tryz.sizeOf3
 v3 := Tryz.zeroValue3
 t4 := Tryz.underlying4
 a4 := Tryz.isAgg4
 z4 := Tryz.sizeOf4
 v4 := Tryz.zeroValue4
 t5 := Tryz.underlying5
 a5 := Tryz.isAgg5
 z5 := Tryz.sizeOf5
 v5 := Tryz.zeroValue5
 t9 := Tryz.underlying9
 a9 := Tryz.isAgg9
 z9 := Tryz.sizeOf9
 v9 := Tryz.zeroValue9
 t22 := Tryz.underlying245
 a22 := Tryz.isAgg245
 z22 := Tryz.sizeOf245
 v22 := Tryz.zeroValue245
 t25 := Tryz.underlying247
 a25 := Tryz.isAgg247
 z25 := Tryz.sizeOf247
 v25 := Tryz.zeroValue247
 t39 := Tryz.underlying165
 a39 := Tryz.isAgg165
 z39 := Tryz.sizeOf165
 v39 := Tryz.zeroValue165
 t45 := Tryz.underlying204
 a45 := Tryz.isAgg204
 z45 := Tryz.sizeOf204
 v45 := Tryz.zeroValue204
 t46 := Tryz.underlying205
 a46 := Tryz.isAgg205
 z46 := Tryz.sizeOf205
 v46 := Tryz.zeroValue205
 t50 := Tryz.underlying210
 a50 := Tryz.isAgg210
 z50 := Tryz.sizeOf210
 v50 := Tryz.zeroValue210
 t53 := Tryz.underlying213
 a53 := Tryz.isAgg213
 z53 := Tryz.sizeOf213
 v53 := Tryz.zeroValue213
 t55 := Tryz.underlying215
 a55 := Tryz.isAgg215
 z55 := Tryz.sizeOf215
 v55 := Tryz.zeroValue215
 t66 := Tryz.underlying227
 a66 := Tryz.isAgg227
 z66 := Tryz.sizeOf227
 v66 := Tryz.zeroValue227
 t70 := Tryz.underlying231
 a70 := Tryz.isAgg231
 z70 := Tryz.sizeOf231
 v70 := Tryz.zeroValue231
 t76 := Tryz.underlying242
 a76 := Tryz.isAgg242
 z76 := Tryz.sizeOf242
 v76 := Tryz.zeroValue242
 t77 := Tryz.underlying27
 a77 := Tryz.isAgg27
 z77 := Tryz.sizeOf27
 v77 := Tryz.zeroValue27 }
end Go.Proofs
namespace Go.Proofs
open Go.Proofs.Tryz
open Go.Shelf Go.RowKit Go.Lib Go.Sort
theorem Tryz.cmpEnd (a b c a' b' c' : Int) (h : -1000000000 ≤ a ∧ a ≤ 1000000000) (h' : -1000000000 ≤ a' ∧ a' ≤ 1000000000) (W : World) :
  Calls prog 193 #[.agg #[.int .i64 a, .int .i64 b, .int .i64 c], .agg #[.int .i64 a', .int .i64 b', .int .i64 c']] W fun e w' => e = .returned (.int .i64 (a - a')) ∧ ∃ q os', w' = grow (W.drewN q) os' := by
 go_enter Tryz.func193, Tryz.ntmps193
 go_wp2
 go_ret
 exact ⟨rfl, 0, _, by rw [alloc_eq_grow, alloc_eq_grow, grow_grow]; rfl⟩
end Go.Proofs
namespace Go.Am
open Go.Proofs.Tryz
open Go.Proofs
inductive rjsS where
 | h0 (v9 : List R6) (v10 : List R4) (v11 : Int) (v12 : Int)
 | h1 (v9 : List R6) (v10 : List R4) (v11 : Int) (v12 : Int) (v13 : List R4) (v15 : Int)
 | h2 (v9 : List R6) (v10 : List R4) (v11 : Int) (v12 : Int) (v14 : Int)
def rjsC (x0 : Int) (l1 : List R6) (l2 : List R6) : rjsS → Cfg
 | .h0 v9 v10 v11 v12 => ⟨⟨137, 0, true⟩, none, (Yw prog 79 [1, 1, 1, 1, 1, 0, 1, 0, 0] 0), none, (Zy prog 23), ⟨Xp [(0, (ii x0)), (1, (.dat l1.length (Zz l1))), (2, (.dat l2.length (Zz l2))), (8, (.dat (Yn (cvT l1) (cvT l2)).length (Zz (Yn (cvT l1) (cvT l2))))), (9, (.sla 0 6 0 v9.length (.un 6))), (10, (.dat v10.length (Zz v10))), (11, (ii v11)), (12, (ii v12))], Ux [⟨rows v9.length (Zz v9), 68, some ⟨6, v9.length, (Zz v9)⟩⟩] 0, 1, [], true⟩, [], .leaf⟩
 | .h1 v9 v10 v11 v12 v13 v15 => ⟨⟨137, 0, true⟩, none, (Yw prog 79 [1, 1, 1, 1, 1, 0, 1, 0, 0, 1, 0, 0, 1, 1, 1, 1, 1, 0, 0] 0), none, (Zy prog 23), ⟨Xp [(0, (ii x0)), (1, (.dat l1.length (Zz l1))), (2, (.dat l2.length (Zz l2))), (8, (.dat (Yn (cvT l1) (cvT l2)).length (Zz (Yn (cvT l1) (cvT l2))))), (9, (.sla 0 6 0 v9.length (.un 6))), (10, (.dat v10.length (Zz v10))), (11, (ii v11)), (12, (ii v12)), (13, (.dat v13.length (Zz v13))), (15, (ii v15))], Ux [⟨rows v9.length (Zz v9), 68, some ⟨6, v9.length, (Zz v9)⟩⟩] 0, 1, [], true⟩, [], .leaf⟩
 | .h2 v9 v10 v11 v12 v14 => ⟨⟨137, 0, true⟩, none, (Yw prog 79 [1, 1, 1, 1, 1, 0, 1, 0, 0, 1, 0, 0, 1, 1, 0, 1, 0, 0, 1, 0, 0] 0), none, (Zy prog 23), ⟨Xp [(0, (ii x0)), (1, (.dat l1.length (Zz l1))), (2, (.dat l2.length (Zz l2))), (8, (.dat (Yn (cvT l1) (cvT l2)).length (Zz (Yn (cvT l1) (cvT l2))))), (9, (.sla 0 6 0 v9.length (.un 6))), (10, (.dat v10.length (Zz v10))), (11, (ii v11)), (12, (ii v12)), (14, (ii v14))], Ux [⟨rows v9.length (Zz v9), 68, some ⟨6, v9.length, (Zz v9)⟩⟩] 0, 1, [], true⟩, [], .leaf⟩
def v6x : List (Option (List Nat)) := [some [0, 1, 2, 8, 9, 10, 11, 12]]
def v6z : List (Option (List Nat)) := []
def v6w : List (Option (List Nat)) := [some [0, 1, 2, 8, 9, 10, 11, 12, 13, 15]]
def v6y : List (Option (List Nat)) := []
def rjsN2 : List (Option (List Nat)) := [some [0, 1, 2, 8, 9, 10, 11, 12, 14]]
def rjsM2 : List (Option (List Nat)) := []
def Vy (x0 : Int) (l1 : List R6) (l2 : List R6) : rjsS → Wu rjsS
 | .h0 v9 v10 v11 v12 => (bif (decide ((IntKind.wrap .i64 (v12 + 1)) < (((Yn (cvT l1) (cvT l2)).length : Nat) : Int))) then (bif (z3h (cvT l1) (rd (Yn (cvT l1) (cvT l2)) v12.toNat)) then (bif ((decide (0 ≤ v12 ∧ v12 < (((Yn (cvT l1) (cvT l2)).length : Nat) : Int))) && true) then (bif (z3h (cvT l2) (rd (Yn (cvT l1) (cvT l2)) v12.toNat)) then (bif (z0c x0 (cvT (atV (cvT l1) (rd (Yn (cvT l1) (cvT l2)) v12.toNat))) (cvT (atV (cvT l2) (rd (Yn (cvT l1) (cvT l2)) v12.toNat)))) then (bif (decide ((((joV x0 (cvT (atV (cvT l1) (rd (Yn (cvT l1) (cvT l2)) v12.toNat))) (cvT (atV (cvT l2) (rd (Yn (cvT l1) (cvT l2)) v12.toNat)))).length : Nat) : Int) > 400)) then (.ret [.nils, (.bool false)]) else (bif (z0c 2 (cvT (atV (cvT l1) (rd (Yn (cvT l1) (cvT l2)) v12.toNat))) ([] : List R4)) then (bif (decide ((((joV 2 (cvT (atV (cvT l1) (rd (Yn (cvT l1) (cvT l2)) v12.toNat))) ([] : List R4)).length : Nat) : Int) > 400)) then (.ret [.nils, (.bool false)]) else (bif (z0c 2 (cvT (atV (cvT l2) (rd (Yn (cvT l1) (cvT l2)) v12.toNat))) ([] : List R4)) then (bif (decide ((((joV 2 (cvT (atV (cvT l2) (rd (Yn (cvT l1) (cvT l2)) v12.toNat))) ([] : List R4)).length : Nat) : Int) > 400)) then (.ret [.nils, (.bool false)]) else (bif (decide (v12 > 0)) then (bif (Uj (cvT (joV x0 (cvT (atV (cvT l1) (rd (Yn (cvT l1) (cvT l2)) v12.toNat))) (cvT (atV (cvT l2) (rd (Yn (cvT l1) (cvT l2)) v12.toNat))))) (cvT v10)) then (bif (Qi (cvT (joV x0 (cvT (atV (cvT l1) (rd (Yn (cvT l1) (cvT l2)) v12.toNat))) (cvT (atV (cvT l2) (rd (Yn (cvT l1) (cvT l2)) v12.toNat))))) (cvT v10)) then (.to (.h2 v9 v10 v11 v12 v11)) else (.to (.h1 v9 (joV x0 (cvT (atV (cvT l1) (rd (Yn (cvT l1) (cvT l2)) v12.toNat))) (cvT (atV (cvT l2) (rd (Yn (cvT l1) (cvT l2)) v12.toNat)))) (v9.length : Int) v12 (joV x0 (cvT (atV (cvT l1) (rd (Yn (cvT l1) (cvT l2)) v12.toNat))) (cvT (atV (cvT l2) (rd (Yn (cvT l1) (cvT l2)) v12.toNat)))) 0))) else .stuck) else (.to (.h1 v9 (joV x0 (cvT (atV (cvT l1) (rd (Yn (cvT l1) (cvT l2)) v12.toNat))) (cvT (atV (cvT l2) (rd (Yn (cvT l1) (cvT l2)) v12.toNat)))) (v9.length : Int) v12 (joV x0 (cvT (atV (cvT l1) (rd (Yn (cvT l1) (cvT l2)) v12.toNat))) (cvT (atV (cvT l2) (rd (Yn (cvT l1) (cvT l2)) v12.toNat)))) 0)))) else .stuck)) else .stuck)) else .stuck) else .stuck) else .stuck) else .stuck) else (.ret [(.dat v9.length (Zz v9)), (.bool (decide ((v9.length : Int) ≤ 400)))]))
 | .h1 v9 v10 v11 v12 v13 v15 => (bif (decide (v15 < (v13.length : Int))) then (bif ((decide (0 ≤ v12 ∧ v12 < (((Yn (cvT l1) (cvT l2)).length : Nat) : Int))) && true) then (bif ((decide (0 ≤ v15 ∧ v15 < (v13.length : Int))) && true) then (bif ((decide (0 ≤ (IntKind.wrap .i64 (v12 + 1)) ∧ (IntKind.wrap .i64 (v12 + 1)) < (((Yn (cvT l1) (cvT l2)).length : Nat) : Int))) && true) then (bif (Nat.beq 6 6 && ((decide (0 + v9.length = v9.length)) && decide ((v9.length + 1 + 1) * (48 + 1) ≤ Uq))) then (.to (.h1 (v9 ++ [(R6.mk (rd v13 v15.toNat).a (rd v13 v15.toNat).b (rd (Yn (cvT l1) (cvT l2)) v12.toNat) (rd v13 v15.toNat).c (rd v13 v15.toNat).d (rd (Yn (cvT l1) (cvT l2)) (Int.toNat (IntKind.wrap .i64 (v12 + 1)))))]) v10 v11 v12 v13 (IntKind.wrap .i64 (v15 + 1)))) else .stuck) else .stuck) else .stuck) else .stuck) else (.to (.h0 v9 v10 v11 (IntKind.wrap .i64 (v12 + 1)))))
 | .h2 v9 v10 v11 v12 v14 => (bif (decide (v14 < (v9.length : Int))) then (bif ((decide (0 ≤ (IntKind.wrap .i64 (v12 + 1)) ∧ (IntKind.wrap .i64 (v12 + 1)) < (((Yn (cvT l1) (cvT l2)).length : Nat) : Int))) && true) then (bif ((decide (0 ≤ v14 ∧ v14 < (v9.length : Int))) && true) then (bif (decide ((0 + v14.toNat) < v9.length)) then (.to (.h2 (v9.set (0 + v14.toNat) (R6.mk (rd v9 (0 + v14.toNat)).a (rd v9 (0 + v14.toNat)).b (rd v9 (0 + v14.toNat)).c (rd v9 (0 + v14.toNat)).d (rd v9 (0 + v14.toNat)).e (rd (Yn (cvT l1) (cvT l2)) (Int.toNat (IntKind.wrap .i64 (v12 + 1)))))) v10 v11 v12 (IntKind.wrap .i64 (v14 + 1)))) else .stuck) else .stuck) else .stuck) else (.to (.h0 v9 v10 v11 (IntKind.wrap .i64 (v12 + 1)))))
def z9i (x0 : Int) (l1 : List R6) (l2 : List R6) : Wu rjsS := (bif (z6f (cvT l1) (cvT l2)) then (.to (.h0 ([] : List R6) ([] : List R4) 0 0)) else .stuck)
theorem x8l (x0 : Int) (l1 : List R6) (l2 : List R6) : ∀ s, Wm prog (Zy prog 79) (rjsC x0 l1 l2) (rjsC x0 l1 l2 s) (Vy x0 l1 l2 s)
 | .h0 v9 v10 v11 v12 => (lb (fun k0 => (lo fun aG => (lo fun aT => (lo fun cA => (lo fun cK => (lb (fun k1 => (lr 137 79 [1, 1, 1, 1, 1, 0, 1, 0, 0, 1, 0, 0, 1, 0, 1, 0, 0] 1 23 [(6, .nils), (7, (.bool false))] (sl z7w 50 [] ⟨[], [], [some [6, 7]], []⟩ ⟨[], [], []⟩ (trs 20 []) (tt k1 (pp (pp (xI R4 (atV (cvT l1) (rd (Yn (cvT l1) (cvT l2)) (tn v12))).length (Zz (atV (cvT l1) (rd (Yn (cvT l1) (cvT l2)) (tn v12))))) (pp (xI R4 (atV (cvT l2) (rd (Yn (cvT l1) (cvT l2)) (tn v12))).length (Zz (atV (cvT l2) (rd (Yn (cvT l1) (cvT l2)) (tn v12))))) (xw cK))) (pp (pp (xr l2) (xw cA)) (ww aT (pp (pp (xr l1) (xw aG)) (ww aT (tt k0 nn)))))))))) (fun k1 => (lo fun aU => (lb (fun k2 => (lr 137 79 [1, 1, 1, 1, 1, 0, 1, 0, 0, 1, 0, 0, 1, 0, 1, 0, 0] 1 23 [(6, .nils), (7, (.bool false))] (sl z7w 50 [] ⟨[], [], [some [6, 7]], []⟩ ⟨[], [], []⟩ [true, false, false, false, false, false, false, false, false, false, true, true, true, true, true, true, true, true, true, true] (tt k2 (pp (pp (xI R4 (atV (cvT l1) (rd (Yn (cvT l1) (cvT l2)) (tn v12))).length (Zz (atV (cvT l1) (rd (Yn (cvT l1) (cvT l2)) (tn v12))))) (pp (xI R4 0 (fun _ => [])) (xw aU))) (pp (pp (xr l1) (xw aG)) (ww aT (tt k1 (pp (pp (xI R4 (atV (cvT l1) (rd (Yn (cvT l1) (cvT l2)) (tn v12))).length (Zz (atV (cvT l1) (rd (Yn (cvT l1) (cvT l2)) (tn v12))))) (pp (xI R4 (atV (cvT l2) (rd (Yn (cvT l1) (cvT l2)) (tn v12))).length (Zz (atV (cvT l2) (rd (Yn (cvT l1) (cvT l2)) (tn v12))))) (xw cK))) (pp (pp (xr l2) (xw cA)) (ww aT (pp (pp (xr l1) (xw aG)) (ww aT (tt k0 nn)))))))))))))) (fun k2 => (lo fun bA => (lb (fun k3 => (lr 137 79 [1, 1, 1, 1, 1, 0, 1, 0, 0, 1, 0, 0, 1, 0, 1, 0, 0] 1 23 [(6, .nils), (7, (.bool false))] (sl z7w 50 [] ⟨[], [], [some [6, 7]], []⟩ ⟨[], [], []⟩ [true, false, false, false, false, false, false, false, false, false, false, false, false, false, false, false, false, false, false, true] (tt k3 (pp (pp (xI R4 (atV (cvT l2) (rd (Yn (cvT l1) (cvT l2)) (tn v12))).length (Zz (atV (cvT l2) (rd (Yn (cvT l1) (cvT l2)) (tn v12))))) (pp (xI R4 0 (fun _ => [])) (xw bA))) (pp (pp (xr l2) (xw cA)) (ww aT (tt k2 (pp (pp (xI R4 (atV (cvT l1) (rd (Yn (cvT l1) (cvT l2)) (tn v12))).length (Zz (atV (cvT l1) (rd (Yn (cvT l1) (cvT l2)) (tn v12))))) (pp (xI R4 0 (fun _ => [])) (xw aU))) (pp (pp (xr l1) (xw aG)) (ww aT (tt k1 (pp (pp (xI R4 (atV (cvT l1) (rd (Yn (cvT l1) (cvT l2)) (tn v12))).length (Zz (atV (cvT l1) (rd (Yn (cvT l1) (cvT l2)) (tn v12))))) (pp (xI R4 (atV (cvT l2) (rd (Yn (cvT l1) (cvT l2)) (tn v12))).length (Zz (atV (cvT l2) (rd (Yn (cvT l1) (cvT l2)) (tn v12))))) (xw cK))) (pp (pp (xr l2) (xw cA)) (ww aT (pp (pp (xr l1) (xw aG)) (ww aT (tt k0 nn)))))))))))))))))) (fun k3 => (lb (fun k4 => (lo fun cG => (lb (fun k5 => (sl z7w 66 [] ⟨[0], [], rjsN2, rjsM2⟩ ⟨[], [], []⟩ [true, false, false, false, false, false, false, false, false, false, false, false, false, false, false, false, false, false, false, false, true, true, true, true] (pp (fl v9 nn) (tt k5 (pp (pp (xI R4 (joV x0 (cvT (atV (cvT l1) (rd (Yn (cvT l1) (cvT l2)) (tn v12)))) (cvT (atV (cvT l2) (rd (Yn (cvT l1) (cvT l2)) (tn v12))))).length (Zz (joV x0 (cvT (atV (cvT l1) (rd (Yn (cvT l1) (cvT l2)) (tn v12)))) (cvT (atV (cvT l2) (rd (Yn (cvT l1) (cvT l2)) (tn v12))))))) (pp (xr v10) (xw cG))) (tt k4 (tt k3 (pp (pp (xI R4 (atV (cvT l2) (rd (Yn (cvT l1) (cvT l2)) (tn v12))).length (Zz (atV (cvT l2) (rd (Yn (cvT l1) (cvT l2)) (tn v12))))) (pp (xI R4 0 (fun _ => [])) (xw bA))) (pp (pp (xr l2) (xw cA)) (ww aT (tt k2 (pp (pp (xI R4 (atV (cvT l1) (rd (Yn (cvT l1) (cvT l2)) (tn v12))).length (Zz (atV (cvT l1) (rd (Yn (cvT l1) (cvT l2)) (tn v12))))) (pp (xI R4 0 (fun _ => [])) (xw aU))) (pp (pp (xr l1) (xw aG)) (ww aT (tt k1 (pp (pp (xI R4 (atV (cvT l1) (rd (Yn (cvT l1) (cvT l2)) (tn v12))).length (Zz (atV (cvT l1) (rd (Yn (cvT l1) (cvT l2)) (tn v12))))) (pp (xI R4 (atV (cvT l2) (rd (Yn (cvT l1) (cvT l2)) (tn v12))).length (Zz (atV (cvT l2) (rd (Yn (cvT l1) (cvT l2)) (tn v12))))) (xw cK))) (pp (pp (xr l2) (xw cA)) (ww aT (pp (pp (xr l1) (xw aG)) (ww aT (tt k0 nn))))))))))))))))))))) (fun k5 => (sl z7w 73 [] ⟨[0], [], v6w, v6y⟩ ⟨[], [], []⟩ [true, false, false, false, false, false, false, false, false, false, false, false, false, false, false, false, false, false, false, false, true, true, true, false] (pp (fl v9 nn) (tt k5 (pp (pp (xI R4 (joV x0 (cvT (atV (cvT l1) (rd (Yn (cvT l1) (cvT l2)) (tn v12)))) (cvT (atV (cvT l2) (rd (Yn (cvT l1) (cvT l2)) (tn v12))))).length (Zz (joV x0 (cvT (atV (cvT l1) (rd (Yn (cvT l1) (cvT l2)) (tn v12)))) (cvT (atV (cvT l2) (rd (Yn (cvT l1) (cvT l2)) (tn v12))))))) (pp (xr v10) (xw cG))) (tt k4 (tt k3 (pp (pp (xI R4 (atV (cvT l2) (rd (Yn (cvT l1) (cvT l2)) (tn v12))).length (Zz (atV (cvT l2) (rd (Yn (cvT l1) (cvT l2)) (tn v12))))) (pp (xI R4 0 (fun _ => [])) (xw bA))) (pp (pp (xr l2) (xw cA)) (ww aT (tt k2 (pp (pp (xI R4 (atV (cvT l1) (rd (Yn (cvT l1) (cvT l2)) (tn v12))).length (Zz (atV (cvT l1) (rd (Yn (cvT l1) (cvT l2)) (tn v12))))) (pp (xI R4 0 (fun _ => [])) (xw aU))) (pp (pp (xr l1) (xw aG)) (ww aT (tt k1 (pp (pp (xI R4 (atV (cvT l1) (rd (Yn (cvT l1) (cvT l2)) (tn v12))).length (Zz (atV (cvT l1) (rd (Yn (cvT l1) (cvT l2)) (tn v12))))) (pp (xI R4 (atV (cvT l2) (rd (Yn (cvT l1) (cvT l2)) (tn v12))).length (Zz (atV (cvT l2) (rd (Yn (cvT l1) (cvT l2)) (tn v12))))) (xw cK))) (pp (pp (xr l2) (xw cA)) (ww aT (pp (pp (xr l1) (xw aG)) (ww aT (tt k0 nn)))))))))))))))))))))))) (fun k4 => (sl z7w 73 [] ⟨[0], [], v6w, v6y⟩ ⟨[], [], []⟩ [true, false, false, false, false, false, false, false, false, false, false, false, false, false, false, false, false, false, false, false, false, false, false, false] (pp (fl v9 nn) (tt k4 (tt k3 (pp (pp (xI R4 (atV (cvT l2) (rd (Yn (cvT l1) (cvT l2)) (tn v12))).length (Zz (atV (cvT l2) (rd (Yn (cvT l1) (cvT l2)) (tn v12))))) (pp (xI R4 0 (fun _ => [])) (xw bA))) (pp (pp (xr l2) (xw cA)) (ww aT (tt k2 (pp (pp (xI R4 (atV (cvT l1) (rd (Yn (cvT l1) (cvT l2)) (tn v12))).length (Zz (atV (cvT l1) (rd (Yn (cvT l1) (cvT l2)) (tn v12))))) (pp (xI R4 0 (fun _ => [])) (xw aU))) (pp (pp (xr l1) (xw aG)) (ww aT (tt k1 (pp (pp (xI R4 (atV (cvT l1) (rd (Yn (cvT l1) (cvT l2)) (tn v12))).length (Zz (atV (cvT l1) (rd (Yn (cvT l1) (cvT l2)) (tn v12))))) (pp (xI R4 (atV (cvT l2) (rd (Yn (cvT l1) (cvT l2)) (tn v12))).length (Zz (atV (cvT l2) (rd (Yn (cvT l1) (cvT l2)) (tn v12))))) (xw cK))) (pp (pp (xr l2) (xw cA)) (ww aT (pp (pp (xr l1) (xw aG)) (ww aT (tt k0 nn))))))))))))))))))))))))))))))))) (fun k0 => (lr 137 3 [1, 1, 1, 1, 1, 1, 0] 1 23 [(6, (.dat v9.length (Zz v9))), (7, (.bool (decide ((v9.length : Int) ≤ 400))))] (sl z7w 20 [] ⟨[], [0], [some [6, 7]], []⟩ ⟨[(6, .frz v9.length v9.length (Zz v9) (Zz v9))], [], []⟩ [false] (pp (xZ (z6s 6 6 0 v9.length v9.length (Zz v9)) v9.length (Zz v9)) (pp (xL v9.length v9.length) (pp (xS v9.length (Zz v9) (Zz v9)) (pp (fl v9 nn) (tt k0 nn)))))))))
 | .h1 v9 v10 v11 v12 v13 v15 => (lb (fun k0 => (lo fun o0 => (lo fun o1 => (lo fun o2 => (lo fun o3 => (sl z7w 20 [] ⟨[2], [], v6w, v6y⟩ ⟨[(9, .len (v9 ++ [(R6.mk (rd v13 (tn v15)).a (rd v13 (tn v15)).b (rd (Yn (cvT l1) (cvT l2)) (tn v12)) (rd v13 (tn v15)).c (rd v13 (tn v15)).d (rd (Yn (cvT l1) (cvT l2)) (tn (wr (v12 + 1)))))]).length)], [.rowed 6 (v9 ++ [(R6.mk (rd v13 (tn v15)).a (rd v13 (tn v15)).b (rd (Yn (cvT l1) (cvT l2)) (tn v12)) (rd v13 (tn v15)).c (rd v13 (tn v15)).d (rd (Yn (cvT l1) (cvT l2)) (tn (wr (v12 + 1)))))]).length (Zz (v9 ++ [(R6.mk (rd v13 (tn v15)).a (rd v13 (tn v15)).b (rd (Yn (cvT l1) (cvT l2)) (tn v12)) (rd v13 (tn v15)).c (rd v13 (tn v15)).d (rd (Yn (cvT l1) (cvT l2)) (tn (wr (v12 + 1)))))]))], []⟩ [true] (pp (xL (v9.length + 1) (v9 ++ [(R6.mk (rd v13 (tn v15)).a (rd v13 (tn v15)).b (rd (Yn (cvT l1) (cvT l2)) (tn v12)) (rd v13 (tn v15)).c (rd v13 (tn v15)).d (rd (Yn (cvT l1) (cvT l2)) (tn (wr (v12 + 1)))))]).length) (pp (xL (v9.length + 1) (v9 ++ [(R6.mk (rd v13 (tn v15)).a (rd v13 (tn v15)).b (rd (Yn (cvT l1) (cvT l2)) (tn v12)) (rd v13 (tn v15)).c (rd v13 (tn v15)).d (rd (Yn (cvT l1) (cvT l2)) (tn (wr (v12 + 1)))))]).length) (pp (xS (v9.length + 1) (Za (Zz v9) 0 v9.length 6 [(ii (rd v13 (tn v15)).a), (ii (rd v13 (tn v15)).b), (ii (rd (Yn (cvT l1) (cvT l2)) (tn v12))), (ii (rd v13 (tn v15)).c), (ii (rd v13 (tn v15)).d), (ii (rd (Yn (cvT l1) (cvT l2)) (tn (wr (v12 + 1)))))]) (Zz (v9 ++ [(R6.mk (rd v13 (tn v15)).a (rd v13 (tn v15)).b (rd (Yn (cvT l1) (cvT l2)) (tn v12)) (rd v13 (tn v15)).c (rd v13 (tn v15)).d (rd (Yn (cvT l1) (cvT l2)) (tn (wr (v12 + 1)))))]))) (pp (pp (xF (Za (Zz v9) 0 v9.length 6 [(ii (rd v13 (tn v15)).a), (ii (rd v13 (tn v15)).b), (ii (rd (Yn (cvT l1) (cvT l2)) (tn v12))), (ii (rd v13 (tn v15)).c), (ii (rd v13 (tn v15)).d), (ii (rd (Yn (cvT l1) (cvT l2)) (tn (wr (v12 + 1)))))])) nn) (ww o3 (ww o2 (ww o1 (ww o1 (ww o0 (ww o1 (ww o1 (tt k0 nn)))))))))))))))))) (fun k0 => (sl z7w 17 [] ⟨[0], [], v6x, v6z⟩ ⟨[], [], []⟩ [false] (pp (fl v9 nn) (tt k0 nn)))))
 | .h2 v9 v10 v11 v12 v14 => (lb (fun k0 => (lo fun o0 => (lo fun o1 => (lo fun o2 => (sl z7w 32 [] ⟨[0], [], rjsN2, rjsM2⟩ ⟨[(9, .len (v9.set (0 + (tn v14)) (R6.mk (rd v9 (0 + (tn v14))).a (rd v9 (0 + (tn v14))).b (rd v9 (0 + (tn v14))).c (rd v9 (0 + (tn v14))).d (rd v9 (0 + (tn v14))).e (rd (Yn (cvT l1) (cvT l2)) (tn (wr (v12 + 1)))))).length)], [.rowed 6 (v9.set (0 + (tn v14)) (R6.mk (rd v9 (0 + (tn v14))).a (rd v9 (0 + (tn v14))).b (rd v9 (0 + (tn v14))).c (rd v9 (0 + (tn v14))).d (rd v9 (0 + (tn v14))).e (rd (Yn (cvT l1) (cvT l2)) (tn (wr (v12 + 1)))))).length (Zz (v9.set (0 + (tn v14)) (R6.mk (rd v9 (0 + (tn v14))).a (rd v9 (0 + (tn v14))).b (rd v9 (0 + (tn v14))).c (rd v9 (0 + (tn v14))).d (rd v9 (0 + (tn v14))).e (rd (Yn (cvT l1) (cvT l2)) (tn (wr (v12 + 1)))))))], []⟩ [true] (pp (xL v9.length (v9.set (0 + (tn v14)) (R6.mk (rd v9 (0 + (tn v14))).a (rd v9 (0 + (tn v14))).b (rd v9 (0 + (tn v14))).c (rd v9 (0 + (tn v14))).d (rd v9 (0 + (tn v14))).e (rd (Yn (cvT l1) (cvT l2)) (tn (wr (v12 + 1)))))).length) (pp (xL v9.length (v9.set (0 + (tn v14)) (R6.mk (rd v9 (0 + (tn v14))).a (rd v9 (0 + (tn v14))).b (rd v9 (0 + (tn v14))).c (rd v9 (0 + (tn v14))).d (rd v9 (0 + (tn v14))).e (rd (Yn (cvT l1) (cvT l2)) (tn (wr (v12 + 1)))))).length) (pp (xS v9.length (Ww (Zz v9) (0 + (tn v14)) 5 [(ii (rd (Yn (cvT l1) (cvT l2)) (tn (wr (v12 + 1)))))]) (Zz (v9.set (0 + (tn v14)) (R6.mk (rd v9 (0 + (tn v14))).a (rd v9 (0 + (tn v14))).b (rd v9 (0 + (tn v14))).c (rd v9 (0 + (tn v14))).d (rd v9 (0 + (tn v14))).e (rd (Yn (cvT l1) (cvT l2)) (tn (wr (v12 + 1)))))))) (pp (pp (xF (Ww (Zz v9) (0 + (tn v14)) 5 [(ii (rd (Yn (cvT l1) (cvT l2)) (tn (wr (v12 + 1)))))])) nn) (ww o2 (ww o1 (ww o0 (tt k0 nn))))))))))))) (fun k0 => (sl z7w 17 [] ⟨[0], [], v6x, v6z⟩ ⟨[], [], []⟩ [false] (pp (fl v9 nn) (tt k0 nn)))))
theorem x1f (x0 : Int) (l1 : List R6) (l2 : List R6) : Wm prog (Zy prog 79) (rjsC x0 l1 l2) (Zd prog 79 [(.int .i64 x0), (.dat l1.length (Zz l1)), (.dat l2.length (Zz l2))] true []) (z9i x0 l1 l2) := (lo fun o0 => (sl z7w 31 [(68, 6, Zz ([] : List R6))] ⟨[0], [], v6x, v6z⟩ ⟨[(9, .grow 0 6), (10, .list 0 (Zz ([] : List R4)))], [], []⟩ [] (pp (fl ([] : List R6) nn) (pp (pp (xr l1) (pp (xr l2) (xw o0))) nn))))
theorem w8j (x0 : Int) (l1 : List R6) (l2 : List R6) (n : Nat) (vs : List AVal) (h : Yj (Vy x0 l1 l2) n (z9i x0 l1 l2) = .ret vs) : Kv prog (Zy prog 79) (Zd prog 79 [(.int .i64 x0), (.dat l1.length (Zz l1)), (.dat l2.length (Zz l2))] true []) vs := by
 have := Zn (x8l x0 l1 l2) n _ (x1f x0 l1 l2)
 rwa [h] at this
end Go.Am
namespace Go.Am
open Go.Proofs.Tryz
open Go.Proofs
theorem Jg (l m : List R6) : (Yn l m).length ≤ 2 * l.length + 2 * m.length := by
 refine Nat.le_trans (z3w _) ?_
 rw [List.length_append, Qd, Qd]; omega
theorem z0x (l : List R6) (z : Int) : (atV l z).length ≤ l.length := by
 unfold atV
 rw [List.length_map]
 exact List.length_filter_le _ _
def w7b (out : List R6) (first : Nat) (z : Int) : List R6 := out.take first ++ (out.drop first).map fun r => ⟨r.a, r.b, r.c, r.d, r.e, z⟩
def v7n (z z' : Int) (s : List R4) : List R6 := s.map fun p => ⟨p.a, p.b, z, p.c, p.d, z'⟩
section
variable (kind : Int) (l m : List R6)
def y7e (z : Int) : List R4 := joV kind (atV l z) (atV m z)
def z8n (z : Int) : Bool := decide (400 < (y7e kind l m z).length) || (decide (400 < (joV 2 (atV l z) []).length) || decide (400 < (joV 2 (atV m z) []).length))
def jsF : Nat → Nat → List R6 → List R4 → Nat → Option (List R6)
 | 0, _, out, _, _ => some out
 | k + 1, i, out, last, first =>
  bif z8n kind l m (rd (Yn l m) i) then none
  else bif decide (0 < i) && Qi (y7e kind l m (rd (Yn l m) i)) last then jsF k (i + 1) (w7b out first (rd (Yn l m) (i + 1))) last first
  else jsF k (i + 1) (out ++ v7n (rd (Yn l m) i) (rd (Yn l m) (i + 1)) (y7e kind l m (rd (Yn l m) i))) (y7e kind l m (rd (Yn l m) i)) out.length
def jsO : Option (List R6) := jsF kind l m ((Yn l m).length - 1) 0 [] [] 0
def x2m : Option (List R6) → List AVal
 | none => [.nils, .bool false]
 | some out => [.dat out.length (Zz out), .bool (decide ((out.length : Int) ≤ 400))]
def z4h : List R6 := (jsO kind l m).getD []
def y9c : Bool := match jsO kind l m with
 | none => false
 | some out => decide ((out.length : Int) ≤ 400)
end
def z9o (_ : Int) (l m : List R6) : Bool := decide (l.length ≤ 5000 ∧ m.length ≤ 5000)
section
variable (kind : Int) (l m : List R6) (hl : l.length ≤ 5000) (hm : m.length ≤ 5000)
include hl hm
theorem v3b (last : List R4) (first : Int) (i : Nat) (hi : i + 1 < (Yn l m).length) (s : List R4) (hs : s.length ≤ 1000000) : ∀ (k j : Nat) (out : List R6), j + k = s.length → out.length ≤ 10000000000 + j →
  ∃ n, ∀ N, Yj (Vy kind l m) (N + n) (.to (.h1 out last first (i : Int) s (j : Int))) = Yj (Vy kind l m) N (.to (.h0 (out ++ v7n (rd (Yn l m) i) (rd (Yn l m) (i + 1)) (s.drop j)) last first ((i + 1 : Nat) : Int)))
 | 0, j, out, h, ho => by
  have hx := Jg l m
  refine ⟨1, fun N => ?_⟩
  rw [List.drop_eq_nil_of_le (by omega), Zv]
  simp (disch := omega) only [Vy, Zg, Zm, Zo, Zj, Zw, cond_false, v7n, List.map_nil, List.append_nil]
 | k + 1, j, out, h, ho => by
  have hx := Jg l m
  obtain ⟨n, hn⟩ := v3b last first i hi s hs k (j + 1) (out ++ v7n (rd (Yn l m) i) (rd (Yn l m) (i + 1)) [rd s j]) (by omega) (by simp [v7n]; omega)
  refine ⟨n + 1, fun N => ?_⟩
  have := hn N
  rw [Yi (show j < s.length by omega), ← Nat.add_assoc, Zv]
  simp (disch := omega) only [Vy, Zg, Zm, Zt, Yy, Ye, Yg, Zr, Zj, Zw, Ya, Zk, Nat.zero_add, decide_true, Bool.and_true, Bool.true_and, cond_true]
  rw [List.append_assoc] at this
  exact this
omit hl hm in
theorem v0y (out : List R6) (j : Nat) (x : Int) (h : j < out.length) : w7b (out.set j ⟨(rd out j).a, (rd out j).b, (rd out j).c, (rd out j).d, (rd out j).e, x⟩) (j + 1) x = w7b out j x := by
 unfold w7b
 rw [Yi h, List.map_cons]
 have e1 : (out.set j ⟨(rd out j).a, (rd out j).b, (rd out j).c, (rd out j).d, (rd out j).e, x⟩).take (j + 1) = out.take j ++ [⟨(rd out j).a, (rd out j).b, (rd out j).c, (rd out j).d, (rd out j).e, x⟩] := by
  apply List.ext_getElem
  ·simp; omega
  ·intro n h1 h2
   simp only [List.getElem_take, List.getElem_set]
   by_cases e : j = n
   ·subst e
    rw [if_pos rfl, List.getElem_append_right (by simp only [List.length_take]; omega)]
    simp
   ·rw [if_neg e, List.getElem_append_left (by simp at h1 ⊢; omega), List.getElem_take]
 have e2 : (out.set j ⟨(rd out j).a, (rd out j).b, (rd out j).c, (rd out j).d, (rd out j).e, x⟩).drop (j + 1) = out.drop (j + 1) := by
  rw [List.drop_set]; rw [if_pos (by omega)]
 rw [e1, e2, List.append_assoc]; rfl
theorem v3a (last : List R4) (first : Int) (i : Nat) (hi : i + 1 < (Yn l m).length) : ∀ (k j : Nat) (out : List R6), j + k = out.length → out.length ≤ 10000000000 →
  ∃ n, ∀ N, Yj (Vy kind l m) (N + n) (.to (.h2 out last first (i : Int) (j : Int))) = Yj (Vy kind l m) N (.to (.h0 (w7b out j (rd (Yn l m) (i + 1))) last first ((i + 1 : Nat) : Int)))
 | 0, j, out, h, ho => by
  have hx := Jg l m
  refine ⟨1, fun N => ?_⟩
  have e : w7b out j (rd (Yn l m) (i + 1)) = out := by
   unfold w7b; rw [List.drop_eq_nil_of_le (by omega), List.map_nil, List.append_nil, List.take_of_length_le (by omega)]
  rw [e, Zv]
  simp (disch := omega) only [Vy, Zg, Zm, Zo, Zj, Zw, cond_false]
 | k + 1, j, out, h, ho => by
  have hx := Jg l m
  obtain ⟨n, hn⟩ := v3a last first i hi k (j + 1) (out.set j ⟨(rd out j).a, (rd out j).b, (rd out j).c, (rd out j).d, (rd out j).e, rd (Yn l m) (i + 1)⟩) (by simp; omega) (by simpa using ho)
  refine ⟨n + 1, fun N => ?_⟩
  have := hn N
  rw [v0y out j _ (by omega)] at this
  rw [← Nat.add_assoc, Zv]
  simp (disch := omega) only [Vy, Zg, Zm, Zt, Yy, Ym, Ye, Yg, Zr, Zj, Zw, Ya, Zk, Nat.zero_add, decide_true, Bool.and_true, Bool.true_and, cond_true]
  exact this
theorem w2u : ∀ (k i : Nat) (out : List R6) (last : List R4) (first : Nat), k = (Yn l m).length - 1 - i → i ≤ (Yn l m).length → out.length ≤ i * 400 → last.length ≤ 400 → first ≤ out.length →
  ∃ n, Yj (Vy kind l m) n (.to (.h0 out last (first : Int) (i : Int))) = .ret (x2m (jsF kind l m k i out last first))
 | 0, i, out, last, first, h, hi, ho, hla, hf => by
  have hx := Jg l m
  refine ⟨1, ?_⟩
  rw [Zv]
  simp (disch := omega) only [Vy, Zg, Zm, Zo, Zj, Zw, cond_false, Zp, jsF, x2m]
 | k + 1, i, out, last, first, h, hi, ho, hla, hf => by
  have hx := Jg l m
  have hi1 : i + 1 < (Yn l m).length := by omega
  have hbig : i * 400 ≤ 20000 * 400 := Nat.mul_le_mul_right _ (by omega)
  have a1 := fun z => z0x l z
  have a2 := fun z => z0x m z
  have w1 : ∀ z, z3h l z = true := fun z => decide_eq_true (by omega)
  have w2 : ∀ z, z3h m z = true := fun z => decide_eq_true (by omega)
  have w3 : ∀ k z, z0c k (atV l z) (atV m z) = true := fun k z => decide_eq_true (by have := a1 z; have := a2 z; omega)
  have w4 : ∀ k z, z0c k (atV l z) ([] : List R4) = true := fun k z => decide_eq_true (by have := a1 z; simp; omega)
  have w5 : ∀ k z, z0c k (atV m z) ([] : List R4) = true := fun k z => decide_eq_true (by have := a2 z; simp; omega)
  unfold jsF
  have fI : y7e kind l m (rd (Yn l m) i) = joV kind (atV l (rd (Yn l m) i)) (atV m (rd (Yn l m) i)) := rfl
  by_cases c1 : 400 < (y7e kind l m (rd (Yn l m) i)).length
  ·refine ⟨1, ?_⟩
   have hb : z8n kind l m (rd (Yn l m) i) = true := by unfold z8n; rw [decide_eq_true c1]; rfl
   rw [hb, cond_true, Zv]
   rw [fI] at c1
   simp (disch := omega) only [Vy, Zg, Zm, Zt, Yf, Yy, Zj, Zw, Zk, w1, w2, w3, w4, w5, Bool.and_true, cond_true, Zp, x2m]
  by_cases c2 : 400 < (joV 2 (atV l (rd (Yn l m) i)) []).length
  ·refine ⟨1, ?_⟩
   have hb : z8n kind l m (rd (Yn l m) i) = true := by unfold z8n; rw [decide_eq_true c2, Bool.true_or, Bool.or_true]
   rw [hb, cond_true, Zv]
   rw [fI] at c1
   simp (disch := omega) only [Vy, Zg, Zm, Zt, Yf, Xx, Yy, Zj, Zw, Zk, w1, w2, w3, w4, w5, Bool.and_true, cond_true, cond_false, Zp, x2m]
  by_cases c3 : 400 < (joV 2 (atV m (rd (Yn l m) i)) []).length
  ·refine ⟨1, ?_⟩
   have hb : z8n kind l m (rd (Yn l m) i) = true := by unfold z8n; rw [decide_eq_true c3, Bool.or_true, Bool.or_true]
   rw [hb, cond_true, Zv]
   rw [fI] at c1
   simp (disch := omega) only [Vy, Zg, Zm, Zt, Yf, Xx, Yy, Zj, Zw, Zk, w1, w2, w3, w4, w5, Bool.and_true, cond_true, cond_false, Zp, x2m]
  have hb : z8n kind l m (rd (Yn l m) i) = false := by unfold z8n; rw [decide_eq_false c1, decide_eq_false c2, decide_eq_false c3]; rfl
  rw [hb, cond_false]
  have w6 : Uj (joV kind (atV l (rd (Yn l m) i)) (atV m (rd (Yn l m) i))) last = true := decide_eq_true (by rw [← fI]; omega)
  rcases Yr (decide (0 < i) && Qi (y7e kind l m (rd (Yn l m) i)) last) with q | q
  ·obtain ⟨n3, h3⟩ := v3a kind l m hl hm last first i hi1 (out.length - first) first out (by omega) (by omega)
   obtain ⟨n0, h0⟩ := w2u k (i + 1) (w7b out first (rd (Yn l m) (i + 1))) last first (by omega) (by omega) (by simp [w7b]; omega) hla (by simp [w7b]; omega)
   refine ⟨n0 + n3 + 1, ?_⟩
   rw [q, cond_true, Zv]
   simp only [Bool.and_eq_true, decide_eq_true_eq] at q
   obtain ⟨q1, q2⟩ := q
   rw [fI] at c1 q2
   simp (disch := omega) only [Vy, Zg, Zm, Zt, Yf, Xx, Yy, Zj, Zw, Zk, w1, w2, w3, w4, w5, w6, q2, Bool.and_true, cond_true, cond_false]
   rw [h3 n0, h0]
  ·obtain ⟨n2, h2⟩ := v3b kind l m hl hm (y7e kind l m (rd (Yn l m) i)) (out.length : Int) i hi1 (y7e kind l m (rd (Yn l m) i)) (by omega) (y7e kind l m (rd (Yn l m) i)).length 0 out (Nat.zero_add _) (by omega)
   obtain ⟨n0, h0⟩ := w2u k (i + 1) (out ++ v7n (rd (Yn l m) i) (rd (Yn l m) (i + 1)) (y7e kind l m (rd (Yn l m) i))) (y7e kind l m (rd (Yn l m) i)) out.length (by omega) (by omega) (by simp [v7n]; omega) (by omega) (by simp)
   refine ⟨n0 + n2 + 1, ?_⟩
   rw [q, cond_false, Zv]
   have h2' := h2 n0
   simp only [List.drop_zero, y3e] at h2'
   have c1' := c1
   rw [fI] at c1'
   by_cases hi0 : 0 < i
   ·rw [decide_eq_true hi0, Bool.true_and, fI] at q
    simp (disch := omega) only [Vy, Zg, Zm, Zt, Yf, Xx, Yy, Zj, Zw, Zk, w1, w2, w3, w4, w5, w6, q, Bool.and_true, cond_true, cond_false]
    rw [← h0]; exact h2'
   ·simp (disch := omega) only [Vy, Zg, Zm, Zt, Yf, Xx, Yy, Zj, Zw, Zk, w1, w2, w3, w4, w5, w6, Bool.and_true, cond_true, cond_false]
    rw [← h0]; exact h2'
end
theorem v6v (kind : Int) (l m : List R6) (h : z9o kind l m = true) : ∃ N, Yj (Vy kind l m) N (z9i kind l m) = .ret (x2m (jsO kind l m)) := by
 obtain ⟨hl, hm⟩ := of_decide_eq_true h
 obtain ⟨N, hN⟩ := w2u kind l m hl hm ((Yn l m).length - 1) 0 [] [] 0 rfl (Nat.zero_le _) (Nat.zero_le _) (Nat.zero_le _) (Nat.le_refl _)
 refine ⟨N, ?_⟩
 have w1 : z6f l m = true := decide_eq_true ⟨by omega, by omega⟩
 simp only [z9i, Zg, Zm, w1, cond_true]
 exact hN
def fJs : List AVal → Option (AVal × Bool)
 | [.int .i64 x0, a1, a2] => match asL R6 a1, asL R6 a2 with
  | some (L1, g1, n1), some (L2, g2, n2) => some (.tup [.dat (z4h x0 L1 L2).length (Zz (z4h x0 L1 L2)), .bool (y9c x0 L1 L2)], isT R6 n1 g1 && (isT R6 n2 g2 && (z9o x0 L1 L2)))
  | _, _ => none
 | _ => none
theorem fJs_ok {S : Specs} (hS : Zu prog S) : Zu prog (S.with v4e fJs) := by
 refine fTwo hS (by kernel_rfl) fun args v h => ?_
 unfold fJs at h
 split at h
 ·rename_i x0 a1 a2
  split at h
  ·rename_i L1 g1 n1 L2 g2 n2 e1 e2
   simp only [Option.some.injEq, Prod.mk.injEq, Bool.and_eq_true] at h
   obtain ⟨rfl, ho1, ho2, hw⟩ := h
   obtain ⟨N, hN⟩ := v6v x0 L1 L2 hw
   refine ⟨_, x2m (jsO x0 L1 L2), (.cons (.refl _) (.cons (Yx e1 ho1) (.cons (Yx e2 ho2) .nil))), ?_, w8j x0 L1 L2 N _ hN, 3, ?_⟩
   ·unfold z4h y9c
    cases jsO x0 L1 L2 with
    | none => exact fun ρ u hu => Kn (.cons (Um R6) (RLe.refl _)) ρ u hu
    | some out => exact fun ρ u hu => hu
   ·cases jsO x0 L1 L2 <;> rfl
  ·cases h
 ·cases h
def T4 : Specs := T3.with v4e fJs
theorem T4_ok : Zu prog T4 := fJs_ok z7w
end Go.Am
namespace Go.Am
open Go.Proofs.Tryz
open Go.Proofs Go.Sort Go.Shelf Go.RowKit Go.Lib
def u0n (x : E3) : List Value := y4l x.1
theorem u0m (l : List R3) (h : y7g l = true) : Go.Sort.flatK u0n 3 (y7h l h).toArray = Go.Sort.flatK y4l 3 l.toArray := by
 have hl := Jc l h
 unfold Go.Sort.flatK
 rw [show (y7h l h).toArray.size = l.toArray.size by simpa using hl]
 apply Array.ext
 ·simp
 ·intro t h1 h2
  simp only [Array.getElem_map, Array.getElem_range]
  have ht : t < l.length * 3 := by simpa using h1
  have hq : t / 3 < l.length := by omega
  congr 1
  rw [getElem!_pos (y7h l h).toArray (t / 3) (by simpa [hl] using hq), getElem!_pos l.toArray (t / 3) (by simpa using hq)]
  unfold u0n
  congr 1
  have := z9z l h
  have e := congrArg (fun z : List R3 => z[t / 3]?) this
  simp only [List.getElem?_map] at e
  rw [List.getElem?_eq_getElem (by rw [hl]; exact hq), List.getElem?_eq_getElem hq] at e
  simpa using e
theorem v0q (d : Array E3) : Go.Sort.flatK u0n 3 d = Go.Sort.flatK y4l 3 (d.toList.map Subtype.val).toArray := by
 unfold Go.Sort.flatK
 rw [show d.size = (d.toList.map Subtype.val).toArray.size by simp]
 apply Array.ext
 ·simp
 ·intro t h1 h2
  simp only [Array.getElem_map, Array.getElem_range]
  have ht : t < d.size * 3 := by simpa using h1
  have hq : t / 3 < d.size := by omega
  congr 1
  rw [getElem!_pos d (t / 3) hq, getElem!_pos (d.toList.map Subtype.val).toArray (t / 3) (by simpa using hq)]
  simp [u0n]
theorem y8w (l : List R3) : y5x l.length (z4t (cvT l)).length = true := z0b (by
 rw [Zg]
 by_cases h : y7g l = true
 ·exact (z0m l h).1.length_eq.symm
 ·unfold z4t; rw [dif_neg h])
theorem isAgg3 : ∀ w, (isAgg (Tryz.sortEnd_ren.t 24)).run prog w = .ok true w := fun w => by rfl
theorem size3 : ∀ w, (Go.sizeOf (Tryz.sortEnd_ren.t 24)).run prog w = .ok 3 w := fun w => by rfl
theorem w1z : x0e prog v3w (x6r R3 z4t y7g x6a) := by
 refine w5q (fun L => ?_) (fun blk off cap L w hb hH eJ hsz => ?_) fun p cap fv w => AnyF.slices_SortFunc_none Tryz.sortEnd p cap fv w
 ·by_cases h : y7g L = true
  ·exact (z0m L h).1.length_eq
  ·unfold z4t; rw [dif_neg h]
 ·have eg : ∀ args w, (callFunc 193 args).run prog w = .ok (.enter 193 args) w := enters_of Tryz.func193 (by kernel_rfl) rfl
  have hcmp : CmpLays prog 193 #[] u0n 3 cf3 blk off (y7h L hb).toArray.size w := fun m os dk _ x y => by
   have hx := of_decide_eq_true x.2
   have hy := of_decide_eq_true y.2
   exact Tryz.cmpEnd x.1.a x.1.b x.1.c y.1.a y.1.b y.1.c hx hy _
  have hH' : HoldsK u0n 3 w blk off (y7h L hb).toArray := by
   unfold HoldsK
   rw [u0m L hb]; exact hH
  have hcon := AnyQ.slices_SortFunc_eq Tryz.sortEnd 3 isAgg3 size3 u0n (fun x => y1v x.1) (fun x v hv => by
   obtain ⟨a, ha, rfl⟩ := List.mem_map.1 hv
   have : x2o a = true := List.all_eq_true.1 (v5s.num x.1) a ha
   cases a <;> first | rfl | (simp [x2o] at this; done)) cf3 swo3 193 #[] blk off cap (y7h L hb).toArray w eg hcmp hH' eJ (by simpa [Jc] using hsz)
  have hs : (y7h L hb).toArray.size = L.length := by simp [Jc]
  rw [hs] at hcon
  refine Calls.mono hcon fun e w' ⟨he, n, os, hw⟩ => ⟨he, n, os, ?_⟩
  rw [hw]
  unfold sortWorldK putRowK
  rw [v0q]
  unfold z4t
  rw [dif_pos hb]
  rfl
def Uw (zs : List Int) : List Int := zs.mergeSort fun x y => decide (x ≤ y)
theorem w1y : x0e prog nSort (fRow Uw) :=
 u0o (fun zs => List.length_mergeSort zs) (fun blk off cap zs w hH hb hz => Tryz.slices_Sort_int blk off cap zs w hH hb hz) fun p cap w => Tryz.slices_Sort_int_none p cap w
def Kp (zs : List Int) : List Int := compact zs ++ List.replicate (zs.length - (compact zs).length) 0
def cmpN (zs : List Int) : Nat := (compact zs).length
theorem z4e (zs : List Int) : (Kp zs).length = zs.length := by have := compact_length_le zs; simp [Kp]; omega
theorem y8x (n : Nat) (c : Nat → Int) : y5x n (Kp (Yb n c)).length = true := z0b (by rw [z4e]; simp [Yb])
theorem w5a (w : World) : grow w #[] = w := by simp [grow]
theorem x4a : x0e prog x6b (fCut Kp cmpN) :=
 u0p (fun zs => by have := compact_length_le zs; simp [Kp]; omega) (fun zs => compact_length_le zs)
  (fun blk off cap zs w hH hb hz dH => (Tryz.slices_Compact_int blk off cap zs w hH (by omega) dH).mono fun e w' ⟨he, q, hw⟩ => ⟨he, q, #[], by rw [hw, w5a]; rfl⟩)
  fun p cap w => Tryz.slices_Compact_int_empty p cap w
def T5 : Specs := ((T4.withE v3w (x6r R3 z4t y7g x6a)).withE nSort (fRow Uw)).withE x6b (fCut Kp cmpN)
theorem Kc : Zu prog T5 := y4v (y4v (y4v T4_ok (by kernel_rfl) w1z) (by kernel_rfl) w1y) (by kernel_rfl) x4a
end Go.Am
namespace Go.Am
open Go.Proofs.Tryz
open Go.Proofs
-- h2: index into an array (choices [true, true, false, false])
-- h2: index into an array (choices [true, false, true, false, false])
-- h2: index into an array (choices [true, false, false, true, true, false, false])
-- h2: index into an array (choices [true, false, false, true, false, false, false])
-- h2: index into an array (choices [true, false, false, false, false, false])
inductive spmS where
 | h0 (v8 : Int)
 | h1 (v3 : List R3) (v17 : Int)
 | h2 (v5 : List R3) (v6 : Int) (v7 : Int) (aC : Int) (bE : Int) (aV : Int) (aO : Bool) (aB : List R2)
def spmC (l0 : List R2) : spmS → Cfg
 | .h0 v8 => ⟨⟨19, 0, true⟩, none, (Yw prog 195 [1, 0, 1, 0, 0] 0), none, (Zy prog 3), ⟨Xp [(0, (.dat l0.length (Zz l0))), (1, (.fn 188 [])), (7, (ii (l0.length : Int))), (8, (ii v8))], Ux [] 0, 0, [], true⟩, [⟨⟨9, 0, true⟩, (z2e prog 187 [1, 0] 2), (Yw prog 187 [1, 0] 1), none, (Zy prog 3), Xp [(5, (.dat l0.length (Zz l0))), (6, (.fn 188 []))]⟩, ⟨⟨11, 0, true⟩, (z2e prog 174 [1, 1, 0, 0] 1), (Yw prog 174 [1, 1, 0, 0] 1), none, (Zy prog 77), Xp [(0, (.dat l0.length (Zz l0))), (7, (.dat l0.length (Zz l0)))]⟩], .leaf⟩
 | .h1 v3 v17 => ⟨⟨38, 0, true⟩, none, (Yw prog 185 [1, 1, 0, 1, 0, 0, 1, 1, 0, 0, 1, 1, 0, 0] 0), none, (Zy prog 15), ⟨Xp [(3, (.sla 7 3 0 v3.length (.un 3))), (4, (ii 0)), (8, (.sl 0 0 2 (.un 1))), (9, (ii 2)), (10, (ii 0)), (15, (.dat l0.length (Zz l0))), (16, (ii (l0.length : Int))), (17, (ii v17))], Ux [⟨[(.dat l0.length (Zz l0)), .nils], 158, none⟩, ⟨[(.fn 189 [])], 198, none⟩, ⟨[(ii 0), (ii 0)], 235, none⟩, ⟨[.nils], 158, none⟩, ⟨[(ii 0)], 3, none⟩, ⟨[(.bool false)], 4, none⟩, ⟨[(.fn 184 [(.ptr 5 0), (.ptr 4 0), (.ptr 3 0)])], 236, none⟩, ⟨rows v3.length (Zz v3), 240, some ⟨3, v3.length, (Zz v3)⟩⟩] 0, 8, [], true⟩, [⟨⟨42, 0, true⟩, (z2e prog 170 [1, 1, 1, 1, 1, 0, 0] 3), (Yw prog 170 [1, 1, 1, 1, 1, 0, 0] 1), none, (Zy prog 4), Xp [(5, (.ptr 1 0)), (6, .nils), (7, (.ptr 2 0)), (8, (.ptr 3 0)), (9, (.ptr 4 0)), (10, (.ptr 5 0)), (11, (.ptr 6 0)), (16, (.sl 0 0 2 (.un 1)))]⟩, ⟨⟨11, 0, true⟩, (z2e prog 174 [1, 1, 1, 0] 1), (Yw prog 174 [1, 1, 1, 0] 1), none, (Zy prog 77), Xp [(9, (.dat l0.length (Zz l0)))]⟩], .leaf⟩
 | .h2 v5 v6 v7 aC bE aV aO aB => ⟨⟨16, 0, true⟩, none, (Yw prog 197 [1, 0, 0] 0), none, [], ⟨Xp [(0, (.yld 0)), (5, (.sla 7 3 0 v5.length (.un 3))), (6, (ii v6)), (7, (ii v7))], w0w [(1, ⟨[(.fn 189 [])], 198, none⟩), (2, ⟨[(ii aC), (ii bE)], 235, none⟩), (3, ⟨[(ii aV)], 3, none⟩), (4, ⟨[(.bool aO)], 4, none⟩), (5, ⟨[(.fn 184 [(.ptr 4 0), (.ptr 3 0), (.ptr 6 0)])], 236, none⟩), (6, ⟨[(.sla 8 2 0 aB.length (.un 2))], 158, none⟩), (7, ⟨rows v5.length (Zz v5), 240, some ⟨3, v5.length, (Zz v5)⟩⟩), (8, ⟨rows aB.length (Zz aB), 110, some ⟨2, aB.length, (Zz aB)⟩⟩)], 9, [], true⟩, [⟨⟨42, 0, true⟩, none, (.inRangeFunc 0 :: (Yw prog 170 [1, 1, 1, 1, 1, 0, 1, 0] 1)), none, (Zy prog 4), Xp [(6, .nils), (8, (.ptr 6 0))]⟩, ⟨⟨11, 0, true⟩, (z2e prog 174 [1, 1, 1, 0] 1), (Yw prog 174 [1, 1, 1, 0] 1), none, (Zy prog 77), Xp [(9, (.dat l0.length (Zz l0)))]⟩], (w0y [(0, ⟨.ready, none, 42, Xp [(5, (.ptr 1 0)), (7, (.ptr 2 0)), (9, (.ptr 3 0)), (10, (.ptr 4 0)), (11, (.ptr 5 0))], [18], (Qv prog 170 [1, 1, 1, 1, 1, 0, 1, 0, 0]), (Qv prog 170 [1, 1, 1, 1, 1, 0, 1, 0, 1])⟩)])⟩
def spmN0 : List (Option (List Nat)) := [some [0, 1, 7, 8], some [5, 6], some [0, 7]]
def spmM0 : List (Option (List Nat)) := []
def w1w : List (Option (List Nat)) := [some [3, 4, 8, 9, 10, 15, 16, 17], some [5, 6, 7, 8, 9, 10, 11, 16], some [9]]
def w1x : List (Option (List Nat)) := []
def y0h : List (Option (List Nat)) := [some [0, 5, 6, 7], some [6, 8], some [9]]
def y0i : List (Option (List Nat)) := [some [5, 7, 9, 10, 11], none, none, none, none, none, none, none, none]
def Ve (l0 : List R2) : spmS → Wu spmS
 | .h0 v8 => (bif (decide (v8 < (l0.length : Int))) then (bif ((decide (0 ≤ v8 ∧ v8 < (l0.length : Int))) && true) then (bif (decide ((rd l0 v8.toNat).a < (rd l0 v8.toNat).b)) then (bif (decide ((rd l0 v8.toNat).a ≥ (-1000000))) then (bif (!(decide ((rd l0 v8.toNat).b ≤ 1000000))) then (bif (decide (v8 ≥ 0)) then (.ret [.nils, (.int .i64 8)]) else (.to (.h1 ([] : List R3) 0))) else (.to (.h0 (IntKind.wrap .i64 (v8 + 1))))) else (bif (decide (v8 ≥ 0)) then (.ret [.nils, (.int .i64 8)]) else (.to (.h1 ([] : List R3) 0)))) else (bif (decide (v8 ≥ 0)) then (.ret [.nils, (.int .i64 8)]) else (.to (.h1 ([] : List R3) 0)))) else .stuck) else (.to (.h1 ([] : List R3) 0)))
 | .h1 v3 v17 => (bif (decide (v17 < (l0.length : Int))) then (bif ((decide (0 ≤ v17 ∧ v17 < (l0.length : Int))) && true) then (bif (Nat.beq 3 3 && ((decide (0 + v3.length = v3.length)) && decide ((v3.length + 2 + 1) * (24 + 1) ≤ Uq))) then (.to (.h1 (v3 ++ [(R3.mk (rd l0 v17.toNat).a 0 1), (R3.mk (rd l0 v17.toNat).b 0 (-1))]) (IntKind.wrap .i64 (v17 + 1)))) else .stuck) else .stuck) else (bif (y7g (cvT v3)) then (bif (decide (v3.length < 4611686018427387904)) then (bif (decide (v3.length = v3.length)) then (.to (.h2 (z4t (cvT v3)) (v3.length : Int) 0 0 0 0 false ([] : List R2))) else .stuck) else .stuck) else .stuck))
 | .h2 v5 v6 v7 aC bE aV aO aB => (bif (decide (v7 < v6)) then (bif ((decide (0 ≤ v7 ∧ v7 < (v5.length : Int))) && true) then (bif (decide ((0 + v7.toNat) < v5.length)) then (bif (!aO) then (bif (decide ((rd v5 (0 + v7.toNat)).b = Int.ofNat 0)) then (.to (.h2 v5 v6 (IntKind.wrap .i64 (v7 + 1)) (IntKind.wrap .i64 (aC + (rd v5 (0 + v7.toNat)).c)) bE (rd v5 (0 + v7.toNat)).a (x6n (decide ((IntKind.wrap .i64 (aC + (rd v5 (0 + v7.toNat)).c)) > 0)) (decide (bE > 0))) aB)) else (bif (decide ((rd v5 (0 + v7.toNat)).b = Int.ofNat 1)) then (.to (.h2 v5 v6 (IntKind.wrap .i64 (v7 + 1)) aC (IntKind.wrap .i64 (bE + (rd v5 (0 + v7.toNat)).c)) (rd v5 (0 + v7.toNat)).a (x6n (decide (aC > 0)) (decide ((IntKind.wrap .i64 (bE + (rd v5 (0 + v7.toNat)).c)) > 0))) aB)) else .stuck)) else (bif (aV == (rd v5 (0 + v7.toNat)).a) then (bif (decide ((rd v5 (0 + v7.toNat)).b = Int.ofNat 0)) then (.to (.h2 v5 v6 (IntKind.wrap .i64 (v7 + 1)) (IntKind.wrap .i64 (aC + (rd v5 (0 + v7.toNat)).c)) bE (rd v5 (0 + v7.toNat)).a (x6n (decide ((IntKind.wrap .i64 (aC + (rd v5 (0 + v7.toNat)).c)) > 0)) (decide (bE > 0))) aB)) else (bif (decide ((rd v5 (0 + v7.toNat)).b = Int.ofNat 1)) then (.to (.h2 v5 v6 (IntKind.wrap .i64 (v7 + 1)) aC (IntKind.wrap .i64 (bE + (rd v5 (0 + v7.toNat)).c)) (rd v5 (0 + v7.toNat)).a (x6n (decide (aC > 0)) (decide ((IntKind.wrap .i64 (bE + (rd v5 (0 + v7.toNat)).c)) > 0))) aB)) else .stuck)) else (bif (decide ((aB.length : Int) > 0)) then (bif ((decide (0 ≤ (IntKind.wrap .i64 ((aB.length : Int) - 1)) ∧ (IntKind.wrap .i64 ((aB.length : Int) - 1)) < (aB.length : Int))) && true) then (bif (decide ((0 + (Int.toNat (IntKind.wrap .i64 ((aB.length : Int) - 1)))) < aB.length)) then (bif ((rd aB (0 + (Int.toNat (IntKind.wrap .i64 ((aB.length : Int) - 1))))).b == aV) then (bif (decide ((rd v5 (0 + v7.toNat)).b = Int.ofNat 0)) then (.to (.h2 v5 v6 (IntKind.wrap .i64 (v7 + 1)) (IntKind.wrap .i64 (aC + (rd v5 (0 + v7.toNat)).c)) bE (rd v5 (0 + v7.toNat)).a (x6n (decide ((IntKind.wrap .i64 (aC + (rd v5 (0 + v7.toNat)).c)) > 0)) (decide (bE > 0))) (aB.set (0 + (Int.toNat (IntKind.wrap .i64 ((aB.length : Int) - 1)))) (R2.mk (rd aB (0 + (Int.toNat (IntKind.wrap .i64 ((aB.length : Int) - 1))))).a (rd v5 (0 + v7.toNat)).a)))) else (bif (decide ((rd v5 (0 + v7.toNat)).b = Int.ofNat 1)) then (.to (.h2 v5 v6 (IntKind.wrap .i64 (v7 + 1)) aC (IntKind.wrap .i64 (bE + (rd v5 (0 + v7.toNat)).c)) (rd v5 (0 + v7.toNat)).a (x6n (decide (aC > 0)) (decide ((IntKind.wrap .i64 (bE + (rd v5 (0 + v7.toNat)).c)) > 0))) (aB.set (0 + (Int.toNat (IntKind.wrap .i64 ((aB.length : Int) - 1)))) (R2.mk (rd aB (0 + (Int.toNat (IntKind.wrap .i64 ((aB.length : Int) - 1))))).a (rd v5 (0 + v7.toNat)).a)))) else .stuck)) else (bif (Nat.beq 2 2 && ((decide (0 + aB.length = aB.length)) && decide ((aB.length + 1 + 1) * (16 + 1) ≤ Uq))) then (bif (decide ((rd v5 (0 + v7.toNat)).b = Int.ofNat 0)) then (.to (.h2 v5 v6 (IntKind.wrap .i64 (v7 + 1)) (IntKind.wrap .i64 (aC + (rd v5 (0 + v7.toNat)).c)) bE (rd v5 (0 + v7.toNat)).a (x6n (decide ((IntKind.wrap .i64 (aC + (rd v5 (0 + v7.toNat)).c)) > 0)) (decide (bE > 0))) (aB ++ [(R2.mk aV (rd v5 (0 + v7.toNat)).a)]))) else (bif (decide ((rd v5 (0 + v7.toNat)).b = Int.ofNat 1)) then (.to (.h2 v5 v6 (IntKind.wrap .i64 (v7 + 1)) aC (IntKind.wrap .i64 (bE + (rd v5 (0 + v7.toNat)).c)) (rd v5 (0 + v7.toNat)).a (x6n (decide (aC > 0)) (decide ((IntKind.wrap .i64 (bE + (rd v5 (0 + v7.toNat)).c)) > 0))) (aB ++ [(R2.mk aV (rd v5 (0 + v7.toNat)).a)]))) else .stuck)) else .stuck)) else .stuck) else .stuck) else (bif (Nat.beq 2 2 && ((decide (0 + aB.length = aB.length)) && decide ((aB.length + 1 + 1) * (16 + 1) ≤ Uq))) then (bif (decide ((rd v5 (0 + v7.toNat)).b = Int.ofNat 0)) then (.to (.h2 v5 v6 (IntKind.wrap .i64 (v7 + 1)) (IntKind.wrap .i64 (aC + (rd v5 (0 + v7.toNat)).c)) bE (rd v5 (0 + v7.toNat)).a (x6n (decide ((IntKind.wrap .i64 (aC + (rd v5 (0 + v7.toNat)).c)) > 0)) (decide (bE > 0))) (aB ++ [(R2.mk aV (rd v5 (0 + v7.toNat)).a)]))) else (bif (decide ((rd v5 (0 + v7.toNat)).b = Int.ofNat 1)) then (.to (.h2 v5 v6 (IntKind.wrap .i64 (v7 + 1)) aC (IntKind.wrap .i64 (bE + (rd v5 (0 + v7.toNat)).c)) (rd v5 (0 + v7.toNat)).a (x6n (decide (aC > 0)) (decide ((IntKind.wrap .i64 (bE + (rd v5 (0 + v7.toNat)).c)) > 0))) (aB ++ [(R2.mk aV (rd v5 (0 + v7.toNat)).a)]))) else .stuck)) else .stuck)))) else .stuck) else .stuck) else (.ret [(.dat aB.length (Zz aB)), (.int .i64 0)]))
def z9a (l0 : List R2) : Wu spmS := (bif (decide ((l0.length : Int) > 400)) then (.ret [.nils, (.int .i64 4)]) else (.to (.h0 0)))
theorem x7u (l0 : List R2) : ∀ s, Wm prog (Zy prog 174) (spmC l0) (spmC l0 s) (Ve l0 s)
 | .h0 v8 => (lb (fun k0 => (lo fun aG => (lb (fun k1 => (lb (fun k2 => (lb (fun k3 => (lb (fun k4 => (lr 11 174 [1, 1, 0, 1, 0, 0] 1 77 [(2, .nils), (3, (ii 8))] (sl Kc 79 [] ⟨[], [], [some [2, 3]], []⟩ ⟨[], [], []⟩ (trs 9 []) (tt k4 (tt k3 (tt k2 (tt k1 (ww aG (tt k0 nn))))))))) (fun k4 => (sl Kc 154 [(240, 3, Zz ([] : List R3))] ⟨[8, 2, 3, 4, 5, 6, 7, 9], [], w1w, w1x⟩ ⟨[(3, .grow 7 3)], [], []⟩ (trs 8 [false, true]) (pp (fl ([] : List R3) nn) (tt k4 (tt k3 (tt k2 (tt k1 (ww aG (tt k0 nn))))))))))) (fun k3 => (sl Kc 69 [] ⟨[], [], spmN0, spmM0⟩ ⟨[], [], []⟩ (trs 7 [false]) (tt k3 (tt k2 (tt k1 (ww aG (tt k0 nn))))))))) (fun k2 => (lb (fun k3 => (lr 11 174 [1, 1, 0, 1, 0, 0] 1 77 [(2, .nils), (3, (ii 8))] (sl Kc 79 [] ⟨[], [], [some [2, 3]], []⟩ ⟨[], [], []⟩ (trs 4 [false, false, false, true, true]) (tt k3 (tt k2 (tt k1 (ww aG (tt k0 nn)))))))) (fun k3 => (sl Kc 154 [(240, 3, Zz ([] : List R3))] ⟨[8, 2, 3, 4, 5, 6, 7, 9], [], w1w, w1x⟩ ⟨[(3, .grow 7 3)], [], []⟩ (trs 4 [false, false, false, true, false, true]) (pp (fl ([] : List R3) nn) (tt k3 (tt k2 (tt k1 (ww aG (tt k0 nn)))))))))))) (fun k1 => (lb (fun k2 => (lr 11 174 [1, 1, 0, 1, 0, 0] 1 77 [(2, .nils), (3, (ii 8))] (sl Kc 79 [] ⟨[], [], [some [2, 3]], []⟩ ⟨[], [], []⟩ [true, false, false, false, false, false, false, true, true] (tt k2 (tt k1 (ww aG (tt k0 nn))))))) (fun k2 => (sl Kc 154 [(240, 3, Zz ([] : List R3))] ⟨[8, 2, 3, 4, 5, 6, 7, 9], [], w1w, w1x⟩ ⟨[(3, .grow 7 3)], [], []⟩ [true, false, false, false, false, false, false, true, false, true] (pp (fl ([] : List R3) nn) (tt k2 (tt k1 (ww aG (tt k0 nn)))))))))))) (fun k0 => (sl Kc 98 [(240, 3, Zz ([] : List R3))] ⟨[6, 0, 1, 2, 3, 4, 5, 7], [], w1w, w1x⟩ ⟨[(3, .grow 7 3)], [], []⟩ [false, false, true] (pp (fl ([] : List R3) nn) (tt k0 nn)))))
 | .h1 v3 v17 => (lb (fun k0 => (lo fun o0 => (lo fun o1 => (sl Kc 36 [] ⟨[0, 1, 2, 3, 4, 5, 6, 10], [], w1w, w1x⟩ ⟨[(3, .len (v3 ++ [(R3.mk (rd l0 (tn v17)).a 0 1), (R3.mk (rd l0 (tn v17)).b 0 (-1))]).length)], (kpB 7 [.rowed 3 (v3 ++ [(R3.mk (rd l0 (tn v17)).a 0 1), (R3.mk (rd l0 (tn v17)).b 0 (-1))]).length (Zz (v3 ++ [(R3.mk (rd l0 (tn v17)).a 0 1), (R3.mk (rd l0 (tn v17)).b 0 (-1))]))]), []⟩ [true] (pp (xL (v3.length + 2) (v3 ++ [(R3.mk (rd l0 (tn v17)).a 0 1), (R3.mk (rd l0 (tn v17)).b 0 (-1))]).length) (pp (xL (v3.length + 2) (v3 ++ [(R3.mk (rd l0 (tn v17)).a 0 1), (R3.mk (rd l0 (tn v17)).b 0 (-1))]).length) (pp (xS (v3.length + 2) (Za (Zz v3) 0 v3.length 3 [(ii (rd l0 (tn v17)).a), (ii 0), (ii 1), (ii (rd l0 (tn v17)).b), (ii 0), (ii (-1))]) (Zz (v3 ++ [(R3.mk (rd l0 (tn v17)).a 0 1), (R3.mk (rd l0 (tn v17)).b 0 (-1))]))) (pp (pp (xF (Za (Zz v3) 0 v3.length 3 [(ii (rd l0 (tn v17)).a), (ii 0), (ii 1), (ii (rd l0 (tn v17)).b), (ii 0), (ii (-1))])) nn) (ww o1 (ww o0 (tt k0 nn))))))))))) (fun k0 => (lo fun o0 => (lo fun o1 => (lo fun o2 => (sl Kc 92 [(110, 2, Zz ([] : List R2))] ⟨[9, 1, 2, 4, 5, 6, 3, 7, 10], [], y0h, y0i⟩ ⟨[(5, .len (z4t (cvT v3)).length)], (kpB 6 [.cells [.grow 8 2], .rowed 3 (z4t (cvT v3)).length (Zz (z4t (cvT v3))), .keep]), []⟩ [false, true, false, false] (pp (xL v3.length (z4t (cvT v3)).length (by first | exact y8w _ | exact z0b rfl)) (pp (xL v3.length (z4t (cvT v3)).length (by first | exact y8w _ | exact z0b rfl)) (pp (xS v3.length (Zz (z4t (cvT v3))) (Zz (z4t (cvT v3)))) (pp (fl (z4t (cvT v3)) (fl ([] : List R2) nn)) (pp (pp (xG (Nat.beq 3 3)) (pp (xG (Nat.beq 3 3)) (pp (xG (Nat.beq 0 0)) (pp (pp (xG (decide (v3.length = v3.length))) (pp (xr v3) (xG (decide (v3.length < 4611686018427387904))))) (xG (y7g (cvT v3))))))) (tt k0 nn))))))))))))
 | .h2 v5 v6 v7 aC bE aV aO aB => (lb (fun k0 => (lo fun aG => (lo fun aT => (lb (fun k1 => (lb (fun k2 => (sl Kc 62 [] ⟨(List.range 9), [], y0h, y0i⟩ ⟨[], [], []⟩ (trs 5 [false, false, false]) (pp (fl v5 (fl aB nn)) (ww k2 (tt k1 (ww aT (ww aG (tt k0 nn)))))))) (fun k2 => (lb (fun k3 => (sl Kc 62 [] ⟨(List.range 9), [], y0h, y0i⟩ ⟨[], [], []⟩ (trs 6 [false, true, false, false]) (pp (fl v5 (fl aB nn)) (ww k3 (tt k1 (ww aT (ww aG (tt k0 nn)))))))) (fun k3 => trivial))))) (fun k1 => (lb (fun k2 => (lb (fun k3 => (sl Kc 62 [] ⟨(List.range 9), [], y0h, y0i⟩ ⟨[], [], []⟩ [true, false, false, false, true, false, false, false] (pp (fl v5 (fl aB nn)) (ww k3 (tt k2 (tt k1 (ww aT (ww aG (tt k0 nn))))))))) (fun k3 => (lb (fun k4 => (sl Kc 62 [] ⟨(List.range 9), [], y0h, y0i⟩ ⟨[], [], []⟩ [true, false, false, false, true, true, false, true, false, false] (pp (fl v5 (fl aB nn)) (ww k4 (tt k2 (tt k1 (ww aT (ww aG (tt k0 nn))))))))) (fun k4 => trivial))))) (fun k2 => (lb (fun k3 => (lo fun bF => (lo fun cI => (lb (fun k4 => (lb (fun k5 => (sl Kc 81 [] ⟨(List.range 9), [], y0h, y0i⟩ ⟨[], (kpB 6 [.cells [.len (aB.set (0 + (tn (wr ((aB.length : Int) - 1)))) (R2.mk (rd aB (0 + (tn (wr ((aB.length : Int) - 1))))).a (rd v5 (0 + (tn v7))).a)).length], .keep, .rowed 2 (aB.set (0 + (tn (wr ((aB.length : Int) - 1)))) (R2.mk (rd aB (0 + (tn (wr ((aB.length : Int) - 1))))).a (rd v5 (0 + (tn v7))).a)).length (Zz (aB.set (0 + (tn (wr ((aB.length : Int) - 1)))) (R2.mk (rd aB (0 + (tn (wr ((aB.length : Int) - 1))))).a (rd v5 (0 + (tn v7))).a)))]), []⟩ [true, false, false, false, false, true, true, true, true, true, true, true, true, true, false, false, false] (pp (xL aB.length (aB.set (0 + (tn (wr ((aB.length : Int) - 1)))) (R2.mk (rd aB (0 + (tn (wr ((aB.length : Int) - 1))))).a (rd v5 (0 + (tn v7))).a)).length) (pp (xL aB.length (aB.set (0 + (tn (wr ((aB.length : Int) - 1)))) (R2.mk (rd aB (0 + (tn (wr ((aB.length : Int) - 1))))).a (rd v5 (0 + (tn v7))).a)).length) (pp (xS aB.length (Ww (Zz aB) (0 + (tn (wr ((aB.length : Int) - 1)))) 1 [(ii (rd v5 (0 + (tn v7))).a)]) (Zz (aB.set (0 + (tn (wr ((aB.length : Int) - 1)))) (R2.mk (rd aB (0 + (tn (wr ((aB.length : Int) - 1))))).a (rd v5 (0 + (tn v7))).a)))) (pp (fl v5 (pp (xF (Ww (Zz aB) (0 + (tn (wr ((aB.length : Int) - 1)))) 1 [(ii (rd v5 (0 + (tn v7))).a)])) nn)) (ww k5 (ww cI (ww bF (tt k4 (ww cI (ww bF (tt k3 (tt k2 (tt k1 (ww aT (ww aG (tt k0 nn)))))))))))))))))) (fun k5 => (lb (fun k6 => (sl Kc 81 [] ⟨(List.range 9), [], y0h, y0i⟩ ⟨[], (kpB 6 [.cells [.len (aB.set (0 + (tn (wr ((aB.length : Int) - 1)))) (R2.mk (rd aB (0 + (tn (wr ((aB.length : Int) - 1))))).a (rd v5 (0 + (tn v7))).a)).length], .keep, .rowed 2 (aB.set (0 + (tn (wr ((aB.length : Int) - 1)))) (R2.mk (rd aB (0 + (tn (wr ((aB.length : Int) - 1))))).a (rd v5 (0 + (tn v7))).a)).length (Zz (aB.set (0 + (tn (wr ((aB.length : Int) - 1)))) (R2.mk (rd aB (0 + (tn (wr ((aB.length : Int) - 1))))).a (rd v5 (0 + (tn v7))).a)))]), []⟩ [true, false, false, false, false, true, true, true, true, true, true, true, true, true, true, false, true, false, false] (pp (xL aB.length (aB.set (0 + (tn (wr ((aB.length : Int) - 1)))) (R2.mk (rd aB (0 + (tn (wr ((aB.length : Int) - 1))))).a (rd v5 (0 + (tn v7))).a)).length) (pp (xL aB.length (aB.set (0 + (tn (wr ((aB.length : Int) - 1)))) (R2.mk (rd aB (0 + (tn (wr ((aB.length : Int) - 1))))).a (rd v5 (0 + (tn v7))).a)).length) (pp (xS aB.length (Ww (Zz aB) (0 + (tn (wr ((aB.length : Int) - 1)))) 1 [(ii (rd v5 (0 + (tn v7))).a)]) (Zz (aB.set (0 + (tn (wr ((aB.length : Int) - 1)))) (R2.mk (rd aB (0 + (tn (wr ((aB.length : Int) - 1))))).a (rd v5 (0 + (tn v7))).a)))) (pp (fl v5 (pp (xF (Ww (Zz aB) (0 + (tn (wr ((aB.length : Int) - 1)))) 1 [(ii (rd v5 (0 + (tn v7))).a)])) nn)) (ww k6 (ww cI (ww bF (tt k4 (ww cI (ww bF (tt k3 (tt k2 (tt k1 (ww aT (ww aG (tt k0 nn)))))))))))))))))) (fun k6 => trivial))))) (fun k4 => (lo fun cG => (lb (fun k5 => (sl Kc 81 [] ⟨[0, 1, 2, 3, 4, 5, 6, 7, 12], [], y0h, y0i⟩ ⟨[], (kpB 6 [.cells [.len (aB ++ [(R2.mk aV (rd v5 (0 + (tn v7))).a)]).length], .keep, .rowed 2 (aB ++ [(R2.mk aV (rd v5 (0 + (tn v7))).a)]).length (Zz (aB ++ [(R2.mk aV (rd v5 (0 + (tn v7))).a)]))]), []⟩ [true, false, false, false, false, true, true, true, true, true, true, true, true, false, false, false, false] (pp (xL (aB.length + 1) (aB ++ [(R2.mk aV (rd v5 (0 + (tn v7))).a)]).length) (pp (xL (aB.length + 1) (aB ++ [(R2.mk aV (rd v5 (0 + (tn v7))).a)]).length) (pp (xS (aB.length + 1) (Za (Zz aB) 0 aB.length 2 [(ii aV), (ii (rd v5 (0 + (tn v7))).a)]) (Zz (aB ++ [(R2.mk aV (rd v5 (0 + (tn v7))).a)]))) (pp (fl v5 (pp (xF (Za (Zz aB) 0 aB.length 2 [(ii aV), (ii (rd v5 (0 + (tn v7))).a)])) nn)) (ww k5 (ww cG (tt k4 (ww cI (ww bF (tt k3 (tt k2 (tt k1 (ww aT (ww aG (tt k0 nn))))))))))))))))) (fun k5 => (lb (fun k6 => (sl Kc 81 [] ⟨[0, 1, 2, 3, 4, 5, 6, 7, 12], [], y0h, y0i⟩ ⟨[], (kpB 6 [.cells [.len (aB ++ [(R2.mk aV (rd v5 (0 + (tn v7))).a)]).length], .keep, .rowed 2 (aB ++ [(R2.mk aV (rd v5 (0 + (tn v7))).a)]).length (Zz (aB ++ [(R2.mk aV (rd v5 (0 + (tn v7))).a)]))]), []⟩ [true, false, false, false, false, true, true, true, true, true, true, true, true, false, true, false, true, false, false] (pp (xL (aB.length + 1) (aB ++ [(R2.mk aV (rd v5 (0 + (tn v7))).a)]).length) (pp (xL (aB.length + 1) (aB ++ [(R2.mk aV (rd v5 (0 + (tn v7))).a)]).length) (pp (xS (aB.length + 1) (Za (Zz aB) 0 aB.length 2 [(ii aV), (ii (rd v5 (0 + (tn v7))).a)]) (Zz (aB ++ [(R2.mk aV (rd v5 (0 + (tn v7))).a)]))) (pp (fl v5 (pp (xF (Za (Zz aB) 0 aB.length 2 [(ii aV), (ii (rd v5 (0 + (tn v7))).a)])) nn)) (ww k6 (ww cG (tt k4 (ww cI (ww bF (tt k3 (tt k2 (tt k1 (ww aT (ww aG (tt k0 nn))))))))))))))))) (fun k6 => trivial)))))))))) (fun k3 => (lo fun bF => (lb (fun k4 => (sl Kc 81 [] ⟨[0, 1, 2, 3, 4, 5, 6, 7, 12], [], y0h, y0i⟩ ⟨[], (kpB 6 [.cells [.len (aB ++ [(R2.mk aV (rd v5 (0 + (tn v7))).a)]).length], .keep, .rowed 2 (aB ++ [(R2.mk aV (rd v5 (0 + (tn v7))).a)]).length (Zz (aB ++ [(R2.mk aV (rd v5 (0 + (tn v7))).a)]))]), []⟩ [true, false, false, false, false, false, false, false, false, false, false, false, false, false, false, false, false] (pp (xL (aB.length + 1) (aB ++ [(R2.mk aV (rd v5 (0 + (tn v7))).a)]).length) (pp (xL (aB.length + 1) (aB ++ [(R2.mk aV (rd v5 (0 + (tn v7))).a)]).length) (pp (xS (aB.length + 1) (Za (Zz aB) 0 aB.length 2 [(ii aV), (ii (rd v5 (0 + (tn v7))).a)]) (Zz (aB ++ [(R2.mk aV (rd v5 (0 + (tn v7))).a)]))) (pp (fl v5 (pp (xF (Za (Zz aB) 0 aB.length 2 [(ii aV), (ii (rd v5 (0 + (tn v7))).a)])) nn)) (ww k4 (ww bF (tt k3 (tt k2 (tt k1 (ww aT (ww aG (tt k0 nn)))))))))))))) (fun k4 => (lb (fun k5 => (sl Kc 81 [] ⟨[0, 1, 2, 3, 4, 5, 6, 7, 12], [], y0h, y0i⟩ ⟨[], (kpB 6 [.cells [.len (aB ++ [(R2.mk aV (rd v5 (0 + (tn v7))).a)]).length], .keep, .rowed 2 (aB ++ [(R2.mk aV (rd v5 (0 + (tn v7))).a)]).length (Zz (aB ++ [(R2.mk aV (rd v5 (0 + (tn v7))).a)]))]), []⟩ [true, false, false, false, false, false, false, false, false, false, false, false, false, false, true, false, true, false, false] (pp (xL (aB.length + 1) (aB ++ [(R2.mk aV (rd v5 (0 + (tn v7))).a)]).length) (pp (xL (aB.length + 1) (aB ++ [(R2.mk aV (rd v5 (0 + (tn v7))).a)]).length) (pp (xS (aB.length + 1) (Za (Zz aB) 0 aB.length 2 [(ii aV), (ii (rd v5 (0 + (tn v7))).a)]) (Zz (aB ++ [(R2.mk aV (rd v5 (0 + (tn v7))).a)]))) (pp (fl v5 (pp (xF (Za (Zz aB) 0 aB.length 2 [(ii aV), (ii (rd v5 (0 + (tn v7))).a)])) nn)) (ww k5 (ww bF (tt k3 (tt k2 (tt k1 (ww aT (ww aG (tt k0 nn)))))))))))))) (fun k5 => trivial)))))))))))))) (fun k0 => (lr 11 3 [1, 1, 1, 1, 1, 1, 0] 1 77 [(2, (.dat aB.length (Zz aB))), (3, (ii 0))] (sl Kc 19 [] ⟨[], [8], [some [2, 3]], []⟩ ⟨[(2, .frz aB.length aB.length (Zz aB) (Zz aB))], [], []⟩ [false] (pp (xZ (z6s 2 2 0 aB.length aB.length (Zz aB)) aB.length (Zz aB)) (pp (xL aB.length aB.length) (pp (xS aB.length (Zz aB) (Zz aB)) (pp (fl aB nn) (tt k0 nn)))))))))
theorem x0r (l0 : List R2) : Wm prog (Zy prog 174) (spmC l0) (Zd prog 174 [(.dat l0.length (Zz l0))] true []) (z9a l0) := (lb (fun k0 => (lr 11 174 [1, 0, 1, 0, 0] 1 77 [(2, .nils), (3, (ii 4))] (sl Kc 18 [] ⟨[], [], [some [2, 3]], []⟩ ⟨[], [], []⟩ [true] (tt k0 nn)))) (fun k0 => (sl Kc 41 [] ⟨[], [], spmN0, spmM0⟩ ⟨[], [], []⟩ [false] (tt k0 nn))))
theorem w7o (l0 : List R2) (n : Nat) (vs : List AVal) (h : Yj (Ve l0) n (z9a l0) = .ret vs) : Kv prog (Zy prog 174) (Zd prog 174 [(.dat l0.length (Zz l0))] true []) vs := by
 have := Zn (x7u l0) n _ (x0r l0)
 rwa [h] at this
end Go.Am
namespace Go.Am
open Go.Proofs
def y2t (s : R2) : Bool := decide (s.a < s.b) && (decide (s.a ≥ -1000000) && decide (s.b ≤ 1000000))
def Jk (l : List R2) : List R3 := l.flatMap fun s => [⟨s.a, 0, 1⟩, ⟨s.b, 0, -1⟩]
def z0f (out : List R2) (last : Int) (inn : Bool) (at' : Int) : List R2 :=
 bif !inn then out else bif last == at' then out else
 bif decide (0 < out.length) && ((rd out (out.length - 1)).b == last) then out.set (out.length - 1) ⟨(rd out (out.length - 1)).a, at'⟩ else out ++ [⟨last, at'⟩]
def swF : List R3 → Int → Int → Bool → List R2 → List R2
 | [], _, _, _, out => out
 | e :: r, o, last, inn, out => swF r (o + e.c) e.a (decide (o + e.c > 0)) (z0f out last inn e.a)
def swV (l : List R2) : List R2 := swF (z4t (Jk l)) 0 0 false []
def Wz (l : List R2) : List R2 := bif decide (400 < l.length) then [] else bif l.all y2t then swV l else []
def v2f (l : List R2) : Int := bif decide (400 < l.length) then 4 else bif l.all y2t then 0 else 8
def y0g (l : List R2) : Bool := true
def y7o (l : List R2) : List AVal := bif decide (400 < l.length) then [.nils, .int .i64 4] else bif l.all y2t then [.dat (swV l).length (Zz (swV l)), .int .i64 0] else [.nils, .int .i64 8]
theorem z2n (l : List R2) : (Jk l).length = 2 * l.length := by
 induction l with
 | nil => rfl
 | cons r l ih => show (_ :: _ :: Jk l).length = _; simp only [List.length_cons, ih]; omega
theorem z6i (out : List R2) (last : Int) (inn : Bool) (a : Int) : (z0f out last inn a).length ≤ out.length + 1 := by
 unfold z0f
 cases inn <;> simp only [Bool.not_true, Bool.not_false, cond_true, cond_false]
 ·omega
 ·cases (last == a) <;> simp only [cond_true, cond_false]
  ·cases (decide (0 < out.length) && ((rd out (out.length - 1)).b == last)) <;> simp
  ·omega
theorem z8z (e : R3) (r : List R3) (o last : Int) (inn : Bool) (out : List R2) : swF (e :: r) o last inn out = swF r (o + e.c) e.a (decide (o + e.c > 0)) (z0f out last inn e.a) := rfl
theorem v7v {a : Int} (k : Nat) (h : a = (k : Int)) : decide (a = Int.ofNat k) = true := decide_eq_true h
section
variable (l : List R2) (hl : l.length ≤ 400)
include hl
theorem v2c (L : List R3) (hL : L.length ≤ 800) (hE : ∀ i, i < L.length → (rd L i).b = 0 ∧ ((rd L i).c = 1 ∨ (rd L i).c = -1)) : ∀ (k i : Nat) (o last : Int) (inn : Bool) (out : List R2), i + k = L.length → -(i : Int) ≤ o → o ≤ i → out.length ≤ i →
  ∃ n, Yj (Ve l) n (.to (.h2 L (L.length : Int) (i : Int) o 0 last inn out)) = .ret [.dat (swF (L.drop i) o last inn out).length (Zz (swF (L.drop i) o last inn out)), .int .i64 0]
 | 0, i, o, last, inn, out, h, ho1, ho2, hout => by
  have _uhl := hl
  refine ⟨1, ?_⟩
  rw [Zv, List.drop_eq_nil_of_le (by omega)]
  simp (disch := omega) only [Ve, Zo, cond_false, Zp, swF]
 | k + 1, i, o, last, inn, out, h, ho1, ho2, hout => by
  obtain ⟨hb, hc⟩ := hE i (by omega)
  have hcl := z6i out last inn (rd L i).a
  obtain ⟨n, hn⟩ := v2c L hL hE k (i + 1) (o + (rd L i).c) (rd L i).a (decide (o + (rd L i).c > 0)) (z0f out last inn (rd L i).a) (by omega) (by rcases hc with hc | hc <;> omega) (by rcases hc with hc | hc <;> omega) (by omega)
  refine ⟨n + 1, ?_⟩
  rw [Yi (show i < L.length by omega), Zv]
  have hf : ∀ b, x6n b (decide ((0 : Int) > 0)) = b := fun b => rfl
  have hw : IntKind.wrap .i64 (o + (rd L i).c) = o + (rd L i).c := Zj (by rcases hc with hc | hc <;> omega)
  rw [z8z]
  have hf' : ∀ b, x6n b false = b := fun b => rfl
  have hz := v7v 0 hb
  unfold z0f at hn ⊢
  cases inn with
  | false =>
   simp only [Bool.not_false, cond_true] at hn ⊢
   simp (disch := omega) only [Ve, Bool.not_false, hz, hw, hf, hf', Zt, Yy, Ym, Zj, Zw, Zk, Nat.zero_add, Bool.and_true, cond_true]
   exact hn
  | true =>
   simp only [Bool.not_true, cond_false] at hn ⊢
   rcases Yr (last == (rd L i).a) with q | q
   ·rw [q] at hn ⊢
    simp only [cond_true] at hn ⊢
    simp (disch := omega) only [Ve, Bool.not_true, q, hz, hw, hf, hf', Zt, Yy, Ym, Zj, Zw, Zk, Nat.zero_add, Bool.and_true, cond_true, cond_false]
    exact hn
   ·rw [q] at hn ⊢
    simp only [cond_false] at hn ⊢
    by_cases h0 : 0 < out.length
    ·rw [decide_eq_true h0, Bool.true_and] at hn ⊢
     rcases Yr ((rd out (out.length - 1)).b == last) with q2 | q2
     ·rw [q2] at hn ⊢
      simp only [cond_true] at hn ⊢
      simp (disch := omega) only [Ve, Bool.not_true, q, q2, hz, hw, hf, hf', Zt, Yf, Yy, Ym, Zj, Zw, Zk, Zc, Nat.zero_add, Bool.and_true, cond_true, cond_false]
      exact hn
     ·rw [q2] at hn ⊢
      simp only [cond_false] at hn ⊢
      simp (disch := omega) only [Ve, Bool.not_true, q, q2, hz, hw, hf, hf', Zt, Yf, Yy, Ym, Yg, Zr, Ya, decide_true, Zj, Zw, Zk, Zc, Nat.zero_add, Bool.and_true, Bool.true_and, cond_true, cond_false]
      exact hn
    ·rw [decide_eq_false h0, Bool.false_and] at hn ⊢
     simp only [cond_false] at hn ⊢
     simp (disch := omega) only [Ve, Bool.not_true, q, hz, hw, hf, hf', Zt, Xx, Yy, Ym, Yg, Zr, Ya, decide_true, Zj, Zw, Zk, Nat.zero_add, Bool.and_true, Bool.true_and, cond_true, cond_false]
     exact hn
theorem w5p (h : l.all y2t = true) : ∀ e ∈ Jk l, bnd3 e = true ∧ e.b = 0 ∧ (e.c = 1 ∨ e.c = -1) := by
 have _uhl := hl
 intro e he
 obtain ⟨s, hs, h1⟩ := List.mem_flatMap.1 he
 have hv := List.all_eq_true.1 h s hs
 simp only [y2t, Bool.and_eq_true, decide_eq_true_eq] at hv
 simp only [List.mem_cons, List.not_mem_nil, or_false] at h1
 rcases h1 with rfl | rfl
 ·exact ⟨decide_eq_true (by simp only; omega), rfl, .inl rfl⟩
 ·exact ⟨decide_eq_true (by simp only; omega), rfl, .inr rfl⟩
theorem v2d (hv : l.all y2t = true) : ∀ (k i : Nat) (acc : List R3), i + k = l.length → acc = Jk (l.take i) → ∃ n, Yj (Ve l) n (.to (.h1 acc (i : Int))) = .ret [.dat (swV l).length (Zz (swV l)), .int .i64 0]
 | 0, i, acc, h, ha => by
  have e : acc = Jk l := by rw [ha, List.take_of_length_le (by omega)]
  subst e
  have hle := z2n l
  have eB := w5p l hl hv
  have hb : y7g (Jk l) = true := List.all_eq_true.2 fun e he => (eB e he).1
  obtain ⟨hp, _⟩ := z0m (Jk l) hb
  have hpl := hp.length_eq
  obtain ⟨n, hn⟩ := v2c l hl (z4t (Jk l)) (by omega) (fun i hi => by
   rw [Xi hi]
   exact (eB _ (hp.mem_iff.1 (List.getElem_mem hi))).2) (z4t (Jk l)).length 0 0 0 false [] (Nat.zero_add _) (by omega) (by omega) (Nat.zero_le _)
  refine ⟨n + 1, ?_⟩
  rw [Zv]
  simp (disch := omega) only [Ve, Zg, Zm, hb, Zo, Ym, Yg, decide_true, cond_true, cond_false]
  rw [← hpl]
  simp only [y3e, List.drop_zero] at hn
  exact hn
 | k + 1, i, acc, h, ha => by
  have hle := z2n (l.take i)
  have fN : acc.length ≤ 2 * i := by rw [ha, hle]; simp; omega
  obtain ⟨n, hn⟩ := v2d hv k (i + 1) (acc ++ Jk [rd l i]) (by omega) (by
   rw [ha, List.take_add_one]
   have : l[i]? = some (rd l i) := by rw [Xi (show i < l.length by omega)]; exact List.getElem?_eq_getElem _
   rw [this]
   simp [Jk])
  refine ⟨n + 1, ?_⟩
  rw [Zv]
  simp (disch := omega) only [Ve, Zt, Yy, Ye, Yg, Zr, Ya, decide_true, Zj, Zw, Zk, Nat.zero_add, Bool.and_true, Bool.true_and, cond_true]
  exact hn
theorem v2e : ∀ (k i : Nat), i + k = l.length → (∀ s ∈ l.take i, y2t s = true) → ∃ n, Yj (Ve l) n (.to (.h0 (i : Int))) = .ret (bif l.all y2t then [.dat (swV l).length (Zz (swV l)), .int .i64 0] else [.nils, .int .i64 8])
 | 0, i, h, ht => by
  have hv : l.all y2t = true := List.all_eq_true.2 fun s hs => ht s (by rw [List.take_of_length_le (by omega)]; exact hs)
  obtain ⟨n, hn⟩ := v2d l hl hv l.length 0 [] (Nat.zero_add _) rfl
  refine ⟨n + 1, ?_⟩
  rw [Zv, hv, cond_true]
  simp (disch := omega) only [Ve, Zo, cond_false]
  exact hn
 | k + 1, i, h, ht => by
  have hi : i < l.length := by omega
  rcases Yr (y2t (rd l i)) with q | q
  ·obtain ⟨n, hn⟩ := v2e k (i + 1) (by omega) (fun s hs => by
    rw [List.take_add_one] at hs
    have e : l[i]? = some (rd l i) := by rw [Xi hi]; exact List.getElem?_eq_getElem _
    rw [e] at hs
    simp only [Option.toList_some, List.mem_append, List.mem_singleton] at hs
    rcases hs with hs | rfl
    ·exact ht s hs
    ·exact q)
   refine ⟨n + 1, ?_⟩
   rw [Zv]
   simp only [y2t, Bool.and_eq_true, decide_eq_true_eq] at q
   simp (disch := omega) only [Ve, Zt, Xe, z6e, Yy, Zj, Zw, Zk, Bool.not_true, Bool.and_true, cond_true, cond_false]
   exact hn
  ·have hv : l.all y2t = false := Bool.eq_false_iff.2 fun e => by
    have := List.all_eq_true.1 e (rd l i) (by rw [Xi hi]; exact List.getElem_mem hi)
    rw [this] at q; cases q
   refine ⟨1, ?_⟩
   rw [Zv, hv, cond_false]
   unfold y2t at q
   rcases Yr (decide ((rd l i).a < (rd l i).b)) with q1 | q1 <;> rcases Yr (decide ((rd l i).a ≥ -1000000)) with q2 | q2 <;> rcases Yr (decide ((rd l i).b ≤ 1000000)) with q3 | q3 <;>
    rw [q1, q2, q3] at q <;> first
    | (exfalso; revert q; decide)
    | simp (disch := omega) only [Ve, q1, q2, q3, Zt, z6e, Yy, Zj, Zw, Zk, Bool.not_true, Bool.not_false, Bool.and_true, cond_true, cond_false, Zp]
end
theorem v6f (l : List R2) : ∃ n, Yj (Ve l) n (z9a l) = .ret (y7o l) := by
 unfold z9a y7o
 by_cases h : 400 < l.length
 ·refine ⟨0, ?_⟩
  rw [decide_eq_true h, Yf (show (l.length : Int) > 400 by omega)]; rfl
 ·obtain ⟨n, hn⟩ := v2e l (by omega) l.length 0 (Nat.zero_add _) (fun s hs => by simp at hs)
  refine ⟨n, ?_⟩
  rw [decide_eq_false h, Xx (show ¬ (l.length : Int) > 400 by omega), cond_false, cond_false]
  exact hn
end Go.Am
namespace Go.Am
open Go.Proofs.Tryz
open Go.Proofs
def fSpm : List AVal → Option (AVal × Bool)
 | [a1] => match asL R2 a1 with
  | some (L1, g1, n1) => some (.tup [.dat (Wz L1).length (Zz (Wz L1)), .int .i64 (v2f L1)], isT R2 n1 g1 && y0g L1)
  | _ => none
 | _ => none
theorem v9j {S : Specs} (hS : Zu prog S) : Zu prog (S.with y8s fSpm) := by
 refine fTwo hS (by kernel_rfl) fun args v h => ?_
 unfold fSpm at h
 split at h
 ·rename_i a1
  split at h
  ·rename_i L1 g1 n1 e1
   simp only [Option.some.injEq, Prod.mk.injEq, Bool.and_eq_true] at h
   obtain ⟨rfl, ho1, hw⟩ := h
   obtain ⟨N, hN⟩ := v6f L1
   refine ⟨_, y7o L1, (.cons (Yx e1 ho1) .nil), ?_, w7o L1 N _ hN, 3, ?_⟩
   ·unfold Wz v2f y7o
    cases decide (400 < L1.length) <;> simp only [cond_true, cond_false]
    ·cases L1.all y2t <;> simp only [cond_true, cond_false]
     ·exact fun ρ u hu => Kn (.cons (Um R2) (RLe.refl _)) ρ u hu
     ·exact fun ρ u hu => hu
    ·exact fun ρ u hu => Kn (.cons (Um R2) (RLe.refl _)) ρ u hu
   ·unfold y7o
    cases decide (400 < L1.length) <;> simp only [cond_true, cond_false]
    ·cases L1.all y2t <;> rfl
    ·rfl
  ·cases h
 ·cases h
def T6 : Specs := T5.with y8s fSpm
theorem Jj : Zu prog T6 := v9j Kc
end Go.Am
namespace Go.Am
open Go.Proofs Go.Sort Go.Shelf Go.RowKit Go.Lib
theorem x4g {γ : Type} (a b : Bool) (x y : γ) : (bif a && b then x else y) = bif a then (bif b then x else y) else y := by cases a <;> rfl
theorem x4f {γ : Type} (a : Bool) (x y : γ) : (bif !a then x else y) = bif a then y else x := by cases a <;> rfl
structure Dim (α β : Type) where
 lo : α → Int
 hi : α → Int
 pr : α → β
 put : Int → Int → β → α
 ext : Int → α → α
 mak : List β → List β
 same : List β → List β → Bool
structure Sw (α β : Type) where
 out : List α
 last : List β
 first : Nat
 fin : Int
def z8h (zs : List Int) : List Int := compact (Uw zs)
theorem w5z (zs : List Int) : cmpN (Uw zs) = (z8h zs).length := rfl
theorem z1b (zs : List Int) : (Uw zs).length = zs.length := List.length_mergeSort zs
theorem y6k (zs : List Int) : (z8h zs).length ≤ zs.length := by
 have := compact_length_le (Uw zs)
 rw [z1b] at this
 exact this
theorem x5k (zs : List Int) (i : Nat) (h : i < (z8h zs).length) : rd (Kp (Uw zs)) i = rd (z8h zs) i := by
 change i < (compact (Uw zs)).length at h
 show rd (compact (Uw zs) ++ _) i = rd (compact (Uw zs)) i
 rw [Xi (by rw [List.length_append]; exact Nat.lt_add_right _ h), Xi h, List.getElem_append_left h]
theorem y4c (zs : List Int) : Yb zs.length (cOf (Zz (Uw zs))) = Uw zs := by
 have := z4i (Uw zs)
 rw [z1b] at this
 exact this
namespace Dim
variable {α β : Type} (D : Dim α β) (l : List α)
def ends : List Int := l.flatMap fun r => [D.lo r, D.hi r]
def cuts : List Int := z8h (D.ends l)
def inn (x : Int) : List β := (l.filter fun r => decide (D.lo r ≤ x) && decide (x < D.hi r)).map D.pr
def sec (x : Int) : List β := D.mak (D.inn l x)
def grow (out : List α) (k : Nat) (x : Int) : List α := out.take k ++ (out.drop k).map (D.ext x)
def one (x x' : Int) (s : Sw α β) : Sw α β :=
 bif decide (0 < (D.sec l x).length) && ((s.fin == x) && D.same s.last (D.sec l x)) then ⟨D.grow s.out s.first x', s.last, s.first, x'⟩
 else ⟨s.out ++ (D.sec l x).map (D.put x x'), D.sec l x, s.out.length, x'⟩
def go : Nat → Nat → Sw α β → Sw α β
 | 0, _, s => s
 | k + 1, i, s => go k (i + 1) (D.one l (rd (D.cuts l) i) (rd (D.cuts l) (i + 1)) s)
def out : List α := (D.go l ((D.cuts l).length - 1) 0 ⟨[], [], 0, 0⟩).out
theorem ends_length : (D.ends l).length = 2 * l.length := by
 induction l with
 | nil => rfl
 | cons r l ih => show (_ :: _ :: D.ends l).length = _; simp only [List.length_cons, ih]; omega
theorem cuts_length : (D.cuts l).length ≤ 2 * l.length := by
 have := y6k (D.ends l)
 rw [D.ends_length] at this
 exact this
theorem ends_append (m : List α) : D.ends (l ++ m) = D.ends l ++ D.ends m := by simp [ends]
theorem inn_append (m : List α) (x : Int) : D.inn (l ++ m) x = D.inn l x ++ D.inn m x := by simp [inn]
theorem inn_length (x : Int) : (D.inn l x).length ≤ l.length := by simpa [inn] using List.length_filter_le _ l
theorem inn_t (r : α) (x : Int) (h1 : D.lo r ≤ x) (h2 : x < D.hi r) : D.inn [r] x = [D.pr r] := by simp [inn, h1, h2]
theorem inn_f1 (r : α) (x : Int) (h1 : ¬ D.lo r ≤ x) : D.inn [r] x = [] := by simp [inn, h1]
theorem inn_f2 (r : α) (x : Int) (h1 : ¬ x < D.hi r) : D.inn [r] x = [] := by simp [inn, h1]
theorem grow_nil (out : List α) (k : Nat) (x : Int) (h : out.length ≤ k) : D.grow out k x = out := by
 unfold grow; rw [List.drop_eq_nil_of_le h, List.map_nil, List.append_nil, List.take_of_length_le h]
theorem grow_length (out : List α) (k : Nat) (x : Int) : (D.grow out k x).length = out.length := by
 unfold grow; simp; omega
theorem grow_set [Ys α] (out : List α) (j : Nat) (x : Int) (h : j < out.length) : D.grow (out.set j (D.ext x (rd out j))) (j + 1) x = D.grow out j x := by
 unfold grow
 rw [Yi h, List.map_cons]
 have e1 : (out.set j (D.ext x (rd out j))).take (j + 1) = out.take j ++ [D.ext x (rd out j)] := by
  apply List.ext_getElem
  ·simp; omega
  ·intro n h1 h2
   simp only [List.getElem_take, List.getElem_set]
   by_cases e : j = n
   ·subst e
    rw [if_pos rfl, List.getElem_append_right (by simp only [List.length_take]; omega)]
    simp
   ·rw [if_neg e, List.getElem_append_left (by simp at h1 ⊢; omega), List.getElem_take]
 have e2 : (out.set j (D.ext x (rd out j))).drop (j + 1) = out.drop (j + 1) := by
  rw [List.drop_set]; rw [if_pos (by omega)]
 rw [e1, e2, List.append_assoc]; rfl
theorem one_length (x x' : Int) (s : Sw α β) : (D.one l x x' s).out.length ≤ s.out.length + (D.sec l x).length := by
 unfold one
 cases (decide (0 < (D.sec l x).length) && ((s.fin == x) && D.same s.last (D.sec l x))) <;> simp [grow_length]
end Dim
end Go.Am
namespace Go.Am
open Go.Proofs.Tryz
open Go.Proofs
inductive vl4S where
def vl4C (bB : Int) (bC : Int) (bD : Int) (aX : Int) : vl4S → Cfg
 := nofun
def x0j (bB : Int) (bC : Int) (bD : Int) (aX : Int) : vl4S → Wu vl4S
 := nofun
def z8w (bB : Int) (bC : Int) (bD : Int) (aX : Int) : Wu vl4S := (bif (decide (bB < bD)) then (bif (decide (bC < aX)) then (bif (decide (bB ≥ (-1000000))) then (bif (decide (bB ≤ 1000000)) then (bif (decide (bD ≥ (-1000000))) then (bif (decide (bD ≤ 1000000)) then (bif (decide (bC ≥ (-1000000))) then (bif (decide (bC ≤ 1000000)) then (bif (decide (aX ≥ (-1000000))) then (.ret [(.bool (decide (aX ≤ 1000000)))]) else (.ret [(.bool false)])) else (.ret [(.bool false)])) else (.ret [(.bool false)])) else (.ret [(.bool false)])) else (.ret [(.bool false)])) else (.ret [(.bool false)])) else (.ret [(.bool false)])) else (.ret [(.bool false)])) else (.ret [(.bool false)]))
theorem x7j (bB : Int) (bC : Int) (bD : Int) (aX : Int) : ∀ s, Wm prog (Zy prog 153) (vl4C bB bC bD aX) (vl4C bB bC bD aX s) (x0j bB bC bD aX s)
 := nofun
theorem x0k (bB : Int) (bC : Int) (bD : Int) (aX : Int) : Wm prog (Zy prog 153) (vl4C bB bC bD aX) (Zd prog 153 [(.agg [(.int .i64 bB), (.int .i64 bC), (.int .i64 bD), (.int .i64 aX)])] true []) (z8w bB bC bD aX) := (lb (fun k0 => (lb (fun k1 => (lb (fun k2 => (lb (fun k3 => (lb (fun k4 => (lb (fun k5 => (lb (fun k6 => (lb (fun k7 => (lb (fun k8 => (lr 35 3 [1, 1, 1, 1, 1, 1, 0] 1 15 [(2, (.bool (decide (aX ≤ 1000000))))] (sl Jj 101 [] ⟨[], [], [some [2]], []⟩ ⟨[], [], []⟩ (trs 25 []) (tt k8 (tt k7 (tt k6 (tt k5 (tt k4 (tt k3 (tt k2 (tt k1 (tt k0 nn)))))))))))) (fun k8 => (lr 35 3 [1, 1, 1, 1, 1, 1, 0] 1 15 [(2, (.bool false))] (sl Jj 101 [] ⟨[], [], [some [2]], []⟩ ⟨[], [], []⟩ (trs 23 [false, false]) (tt k8 (tt k7 (tt k6 (tt k5 (tt k4 (tt k3 (tt k2 (tt k1 (tt k0 nn)))))))))))))) (fun k7 => (lr 35 3 [1, 1, 1, 1, 1, 1, 0] 1 15 [(2, (.bool false))] (sl Jj 86 [] ⟨[], [], [some [2]], []⟩ ⟨[], [], []⟩ (trs 20 [false, false, false]) (tt k7 (tt k6 (tt k5 (tt k4 (tt k3 (tt k2 (tt k1 (tt k0 nn))))))))))))) (fun k6 => (lr 35 3 [1, 1, 1, 1, 1, 1, 0] 1 15 [(2, (.bool false))] (sl Jj 86 [] ⟨[], [], [some [2]], []⟩ ⟨[], [], []⟩ (trs 18 [false, false, false, false, false]) (tt k6 (tt k5 (tt k4 (tt k3 (tt k2 (tt k1 (tt k0 nn)))))))))))) (fun k5 => (lr 35 3 [1, 1, 1, 1, 1, 1, 0] 1 15 [(2, (.bool false))] (sl Jj 71 [] ⟨[], [], [some [2]], []⟩ ⟨[], [], []⟩ (trs 15 [false, false, false, false, false, false]) (tt k5 (tt k4 (tt k3 (tt k2 (tt k1 (tt k0 nn))))))))))) (fun k4 => (lr 35 3 [1, 1, 1, 1, 1, 1, 0] 1 15 [(2, (.bool false))] (sl Jj 71 [] ⟨[], [], [some [2]], []⟩ ⟨[], [], []⟩ (trs 13 [false, false, false, false, false, false, false, false]) (tt k4 (tt k3 (tt k2 (tt k1 (tt k0 nn)))))))))) (fun k3 => (lr 35 3 [1, 1, 1, 1, 1, 1, 0] 1 15 [(2, (.bool false))] (sl Jj 56 [] ⟨[], [], [some [2]], []⟩ ⟨[], [], []⟩ (trs 10 [false, false, false, false, false, false, false, false, false]) (tt k3 (tt k2 (tt k1 (tt k0 nn))))))))) (fun k2 => (lr 35 3 [1, 1, 1, 1, 1, 1, 0] 1 15 [(2, (.bool false))] (sl Jj 56 [] ⟨[], [], [some [2]], []⟩ ⟨[], [], []⟩ (trs 8 [false, false, false, false, false, false, false, false, false, false, false]) (tt k2 (tt k1 (tt k0 nn)))))))) (fun k1 => (lr 35 3 [1, 1, 1, 1, 1, 1, 0] 1 15 [(2, (.bool false))] (sl Jj 41 [] ⟨[], [], [some [2]], []⟩ ⟨[], [], []⟩ (trs 5 [false, false, false, false, false, false, false, false, false, false, false, false]) (tt k1 (tt k0 nn))))))) (fun k0 => (lr 35 3 [1, 1, 1, 1, 1, 1, 0] 1 15 [(2, (.bool false))] (sl Jj 41 [] ⟨[], [], [some [2]], []⟩ ⟨[], [], []⟩ [false, false, false, false, false, false, false, false, false, false, false, false, false, false, false, false, false] (tt k0 nn)))))
theorem w7i (bB : Int) (bC : Int) (bD : Int) (aX : Int) (n : Nat) (vs : List AVal) (h : Yj (x0j bB bC bD aX) n (z8w bB bC bD aX) = .ret vs) : Kv prog (Zy prog 153) (Zd prog 153 [(.agg [(.int .i64 bB), (.int .i64 bC), (.int .i64 bD), (.int .i64 aX)])] true []) vs := by
 have := Zn (x7j bB bC bD aX) n _ (x0k bB bC bD aX)
 rwa [h] at this
inductive madS where
 | h0 (v16 : Int) (aC : List Int)
 | h1 (v4 : Int) (aN : List R4) (bJ : List R2) (bP : Int) (bQ : Int) (aL : Nat) (aK : List Int)
 | h2 (v4 : Int) (v38 : Int) (aN : List R4) (bJ : List R2) (bP : Int) (bQ : Int) (aL : Nat) (aK : List Int) (aB : Int) (bV : Int) (aI : List R2)
 | h3 (v1 : Int) (v2 : Int) (v71 : List R2) (v72 : Int) (v73 : Int) (bH : List R2) (aW : Int) (aA : List R4) (aD : List R2) (aF : Int) (aL : Nat) (aK : List Int) (aB : List R2)
 | h4 (v2 : Int) (v8 : Int) (cE : Int) (bH : List R2) (aW : Int) (aA : List R4) (aD : List R2) (aF : Int) (aH : Int) (bT : Nat) (cB : List Int) (aI : List R2)
def madC (l0 : List R4) : madS → Cfg
 | .h0 v16 aC => ⟨⟨34, 0, true⟩, none, (Yw prog 173 [1, 1, 0, 1, 0, 0, 1, 1, 0, 0, 1, 1, 0, 0] 0), none, (Zy prog 15), ⟨Xp [(1, (.ptr 0 0)), (3, (.ptr 2 0)), (8, (.sl 1 0 1 (.un 1))), (9, (ii 1)), (10, (ii 0)), (14, (.dat l0.length (Zz l0))), (15, (ii (l0.length : Int))), (16, (ii v16))], Ux [⟨[(.sl 1 0 1 (.un 1))], 173, none⟩, ⟨[(.dat l0.length (Zz l0))], 105, none⟩, ⟨[(.sla 4 1 0 aC.length (.un 1))], 47, none⟩, ⟨[.nils, .nils, (ii 0), (ii 0)], 188, none⟩, ⟨rows aC.length (Zz aC), 3, some ⟨1, aC.length, (Zz aC)⟩⟩] 0, 5, [], true⟩, [⟨⟨29, 0, true⟩, (z2e prog 154 [1, 1, 0, 0] 2), (Yw prog 154 [1, 1, 0, 0] 1), none, (Zy prog 77), Xp [(2, .nils), (3, (ii 0)), (4, (.ptr 3 0)), (9, (.sl 1 0 1 (.un 1)))]⟩], .leaf⟩
 | .h1 v4 aN bJ bP bQ aL aK => ⟨⟨76, 0, true⟩, none, (Yw prog 186 [1, 0, 0] 0), none, [], ⟨Xp [(0, (.yld 0)), (1, (.ptr 2 0)), (2, (.ptr 4 0)), (4, (ii v4))], w0w [(1, ⟨[(.sla 6 4 0 aN.length (.un 4)), (.dat bJ.length (Zz bJ)), (ii bP), (ii bQ)], 188, none⟩), (2, ⟨[(.sla 3 1 0 aL (.un 1))], 47, none⟩), (3, ⟨rows aK.length (Zz aK), 3, some ⟨1, aK.length, (Zz aK)⟩⟩), (4, ⟨[(.sl 5 0 1 (.un 1))], 173, none⟩), (5, ⟨[(.dat l0.length (Zz l0))], 105, none⟩), (6, ⟨rows aN.length (Zz aN), 114, some ⟨4, aN.length, (Zz aN)⟩⟩)], 7, [], true⟩, [⟨⟨29, 0, true⟩, none, (.inRangeFunc 0 :: (Yw prog 154 [1, 1, 0, 1, 0] 1)), none, (Zy prog 77), Xp [(2, .nils), (3, (ii 0)), (4, (.ptr 1 0))]⟩], (w0y [(0, ⟨.ready, none, 29, Xp [(4, (.ptr 1 0))], [11], (Qv prog 154 [1, 1, 0, 1, 0, 0]), (Qv prog 154 [1, 1, 0, 1, 0, 1])⟩)])⟩
 | .h2 v4 v38 aN bJ bP bQ aL aK aB bV aI => ⟨⟨76, 0, true⟩, none, (Yw prog 186 [1, 0, 0, 1, 0, 0, 1, 0, 1, 0, 0, 1, 1, 0, 0, 1, 1, 0, 0] 0), none, [], ⟨Xp [(0, (.yld 0)), (1, (.ptr 2 0)), (2, (.ptr 4 0)), (4, (ii v4)), (5, (.ptr 6 0)), (6, (ii 0)), (29, (.sl 5 0 1 (.un 1))), (30, (ii 1)), (31, (ii 0)), (36, (.dat l0.length (Zz l0))), (37, (ii (l0.length : Int))), (38, (ii v38))], w0w [(1, ⟨[(.sla 9 4 0 aN.length (.un 4)), (.dat bJ.length (Zz bJ)), (ii bP), (ii bQ)], 188, none⟩), (2, ⟨[(.sla 3 1 0 aL (.un 1))], 47, none⟩), (3, ⟨rows aK.length (Zz aK), 3, some ⟨1, aK.length, (Zz aK)⟩⟩), (4, ⟨[(.sl 5 0 1 (.un 1))], 173, none⟩), (5, ⟨[(.dat l0.length (Zz l0))], 105, none⟩), (6, ⟨[(ii aB), (ii bV), (.sl 7 0 1 (.ex 1))], 193, none⟩), (7, ⟨[(.sla 8 2 0 aI.length (.un 2))], 158, none⟩), (8, ⟨rows aI.length (Zz aI), 110, some ⟨2, aI.length, (Zz aI)⟩⟩), (9, ⟨rows aN.length (Zz aN), 114, some ⟨4, aN.length, (Zz aN)⟩⟩)], 10, [], true⟩, [⟨⟨29, 0, true⟩, none, (.inRangeFunc 0 :: (Yw prog 154 [1, 1, 0, 1, 0] 1)), none, (Zy prog 77), Xp [(2, .nils), (3, (ii 0)), (4, (.ptr 1 0))]⟩], (w0y [(0, ⟨.ready, none, 29, Xp [(4, (.ptr 1 0))], [11], (Qv prog 154 [1, 1, 0, 1, 0, 0]), (Qv prog 154 [1, 1, 0, 1, 0, 1])⟩)])⟩
 | .h3 v1 v2 v71 v72 v73 bH aW aA aD aF aL aK aB => ⟨⟨94, 0, true⟩, none, (Yw prog 146 [1, 1, 1, 0, 0] 0), none, [], ⟨Xp [(0, (.ptr 0 0)), (1, (ii v1)), (2, (ii v2)), (71, (.dat v71.length (Zz v71))), (72, (ii v72)), (73, (ii v73))], w0w [(0, ⟨[(.sla 7 4 0 aA.length (.un 4)), (.dat aD.length (Zz aD)), (ii aF), (ii v2)], 188, none⟩), (2, ⟨[(.sla 3 1 0 aL (.un 1))], 47, none⟩), (3, ⟨rows aK.length (Zz aK), 3, some ⟨1, aK.length, (Zz aK)⟩⟩), (4, ⟨[(.sl 5 0 1 (.un 1))], 173, none⟩), (5, ⟨[(.dat l0.length (Zz l0))], 105, none⟩), (6, ⟨[(.dat aB.length (Zz aB))], 158, none⟩), (7, ⟨rows aA.length (Zz aA), 114, some ⟨4, aA.length, (Zz aA)⟩⟩)], 8, [], true⟩, [⟨⟨29, 0, true⟩, (z2e prog 154 [1, 1, 0, 1, 0, 1, 0, 1] 5), (Yw prog 154 [1, 1, 0, 1, 0, 1, 0, 1] 1), (some 1), [], Xp [(4, (.ptr 0 0)), (21, (ii v1)), (23, (ii v2)), (24, (.dat bH.length (Zz bH)))]⟩, ⟨⟨76, 0, true⟩, (z2e prog 186 [1, 0, 0, 1, 0, 0, 1, 1, 0] 2), (Yw prog 186 [1, 0, 0, 1, 0, 0, 1, 1, 0] 1), none, [], Xp [(0, (.yld 1)), (1, (.ptr 2 0)), (2, (.ptr 4 0)), (4, (ii aW)), (72, (.yld 1)), (73, (.agg [(ii v1), (ii v2), (.sl 6 0 1 (.ex 1))]))]⟩, ⟨⟨29, 0, true⟩, none, (.inRangeFunc 1 :: (Yw prog 154 [1, 1, 0, 1, 0] 1)), none, (Zy prog 77), Xp [(2, .nils), (3, (ii 0)), (4, (.ptr 0 0))]⟩], (w0y [(1, ⟨.busy, none, 29, Xp [(4, (.ptr 0 0))], [11], (Qv prog 154 [1, 1, 0, 1, 0, 0]), (Qv prog 154 [1, 1, 0, 1, 0, 1])⟩)])⟩
 | .h4 v2 v8 cE bH aW aA aD aF aH bT cB aI => ⟨⟨94, 0, true⟩, none, (Yw prog 146 [0, 1, 0, 0, 1, 0, 0] 0), none, [], ⟨Xp [(0, (.ptr 0 0)), (2, (ii v2)), (8, (ii v8))], w0w [(0, ⟨[(.sla 1 4 0 aA.length (.un 4)), (.dat aD.length (Zz aD)), (ii aF), (ii aH)], 188, none⟩), (1, ⟨rows aA.length (Zz aA), 114, some ⟨4, aA.length, (Zz aA)⟩⟩), (3, ⟨[(.sla 4 1 0 bT (.un 1))], 47, none⟩), (4, ⟨rows cB.length (Zz cB), 3, some ⟨1, cB.length, (Zz cB)⟩⟩), (5, ⟨[(.sl 6 0 1 (.un 1))], 173, none⟩), (6, ⟨[(.dat l0.length (Zz l0))], 105, none⟩), (7, ⟨[(.dat aI.length (Zz aI))], 158, none⟩)], 8, [], true⟩, [⟨⟨29, 0, true⟩, (z2e prog 154 [1, 1, 0, 1, 0, 1, 0, 1] 5), (Yw prog 154 [1, 1, 0, 1, 0, 1, 0, 1] 1), (some 2), [], Xp [(4, (.ptr 0 0)), (21, (ii cE)), (23, (ii v2)), (24, (.dat bH.length (Zz bH)))]⟩, ⟨⟨76, 0, true⟩, (z2e prog 186 [1, 0, 0, 1, 0, 0, 1, 1, 0] 2), (Yw prog 186 [1, 0, 0, 1, 0, 0, 1, 1, 0] 1), none, [], Xp [(0, (.yld 2)), (1, (.ptr 3 0)), (2, (.ptr 5 0)), (4, (ii aW)), (72, (.yld 2)), (73, (.agg [(ii cE), (ii v2), (.sl 7 0 1 (.ex 1))]))]⟩, ⟨⟨29, 0, true⟩, none, (.inRangeFunc 2 :: (Yw prog 154 [1, 1, 0, 1, 0] 1)), none, (Zy prog 77), Xp [(2, .nils), (3, (ii 0)), (4, (.ptr 0 0))]⟩], (w0y [(2, ⟨.busy, none, 29, Xp [(4, (.ptr 0 0))], [11], (Qv prog 154 [1, 1, 0, 1, 0, 0]), (Qv prog 154 [1, 1, 0, 1, 0, 1])⟩)])⟩
def madN0 : List (Option (List Nat)) := [some [1, 3, 8, 9, 10, 14, 15, 16], some [2, 3, 4, 9]]
def madM0 : List (Option (List Nat)) := []
def v8d : List (Option (List Nat)) := [some [0, 1, 2, 4], some [2, 3, 4]]
def v8e : List (Option (List Nat)) := [some [4], none, none, none, none, none, none]
def w9s : List (Option (List Nat)) := [some [0, 1, 2, 4, 5, 6, 29, 30, 31, 36, 37, 38], some [2, 3, 4]]
def w9u : List (Option (List Nat)) := [some [4], none, none, none, none, none, none, none, none, none]
def w9r : List (Option (List Nat)) := [some [0, 1, 2, 71, 72, 73], some [4, 21, 23, 24], some [0, 1, 2, 4, 72, 73], some [2, 3, 4]]
def w9t : List (Option (List Nat)) := [none, some [4], none, none, none, none, none, none]
def madN4 : List (Option (List Nat)) := [some [0, 2, 8], some [4, 21, 23, 24], some [0, 1, 2, 4, 72, 73], some [2, 3, 4]]
def madM4 : List (Option (List Nat)) := [none, none, some [4], none, none, none, none, none]
def Xc (l0 : List R4) : madS → Wu madS
 | .h0 v16 aC => (bif (decide (v16 < (l0.length : Int))) then (bif ((decide (0 ≤ v16 ∧ v16 < (l0.length : Int))) && true) then (bif (Nat.beq 1 1 && ((decide (0 + aC.length = aC.length)) && decide ((aC.length + 2 + 1) * (8 + 1) ≤ Uq))) then (.to (.h0 (IntKind.wrap .i64 (v16 + 1)) (aC ++ [(rd l0 v16.toNat).a, (rd l0 v16.toNat).c]))) else .stuck) else .stuck) else (bif (decide (aC.length < 4611686018427387904)) then (bif (decide (aC.length = aC.length)) then (.to (.h1 1 ([] : List R4) ([] : List R2) 0 0 (cmpN (Yb aC.length (cOf (Zz (Uw (Yb aC.length (cOf (Zz aC)))))))) (Kp (Yb aC.length (cOf (Zz (Uw (Yb aC.length (cOf (Zz aC)))))))))) else .stuck) else .stuck))
 | .h1 v4 aN bJ bP bQ aL aK => (bif (decide (v4 < ((aL : Nat) : Int))) then (bif ((decide (0 ≤ (IntKind.wrap .i64 (v4 - 1)) ∧ (IntKind.wrap .i64 (v4 - 1)) < ((aL : Nat) : Int))) && true) then (bif (decide ((0 + (Int.toNat (IntKind.wrap .i64 (v4 - 1)))) < aK.length)) then (bif ((decide (0 ≤ v4 ∧ v4 < ((aL : Nat) : Int))) && true) then (bif (decide ((0 + v4.toNat) < aK.length)) then (.to (.h2 v4 0 aN bJ bP bQ aL aK (rd aK (0 + (Int.toNat (IntKind.wrap .i64 (v4 - 1))))) (rd aK (0 + v4.toNat)) ([] : List R2))) else .stuck) else .stuck) else .stuck) else .stuck) else (bif (decide ((aN.length : Int) > 400)) then (.ret [.nils, (.int .i64 4)]) else (.ret [(.dat aN.length (Zz aN)), (.int .i64 0)])))
 | .h2 v4 v38 aN bJ bP bQ aL aK aB bV aI => (bif (decide (v38 < (l0.length : Int))) then (bif ((decide (0 ≤ v38 ∧ v38 < (l0.length : Int))) && true) then (bif (decide ((rd l0 v38.toNat).a ≤ aB)) then (bif (decide (aB < (rd l0 v38.toNat).c)) then (bif (Nat.beq 2 2 && ((decide (0 + aI.length = aI.length)) && decide ((aI.length + 1 + 1) * (16 + 1) ≤ Uq))) then (.to (.h2 v4 (IntKind.wrap .i64 (v38 + 1)) aN bJ bP bQ aL aK aB bV (aI ++ [(R2.mk (rd l0 v38.toNat).b (rd l0 v38.toNat).d)]))) else .stuck) else (.to (.h2 v4 (IntKind.wrap .i64 (v38 + 1)) aN bJ bP bQ aL aK aB bV aI))) else (.to (.h2 v4 (IntKind.wrap .i64 (v38 + 1)) aN bJ bP bQ aL aK aB bV aI))) else .stuck) else (bif (y0g (cvT aI)) then (bif (decide ((((Wz (cvT aI)).length : Nat) : Int) > 0)) then (bif (bQ == aB) then (bif (Uk (cvT bJ) (cvT (Wz (cvT aI)))) then (bif (Qn (cvT bJ) (cvT (Wz (cvT aI)))) then (.to (.h4 bV bP aB (Wz (cvT aI)) v4 aN bJ bP bQ aL aK aI)) else (.to (.h3 aB bV (Wz (cvT aI)) (((Wz (cvT aI)).length : Nat) : Int) 0 (Wz (cvT aI)) v4 aN (Wz (cvT aI)) (aN.length : Int) aL aK aI))) else .stuck) else (.to (.h3 aB bV (Wz (cvT aI)) (((Wz (cvT aI)).length : Nat) : Int) 0 (Wz (cvT aI)) v4 aN (Wz (cvT aI)) (aN.length : Int) aL aK aI))) else (.to (.h3 aB bV (Wz (cvT aI)) (((Wz (cvT aI)).length : Nat) : Int) 0 (Wz (cvT aI)) v4 aN (Wz (cvT aI)) (aN.length : Int) aL aK aI))) else .stuck))
 | .h3 v1 v2 v71 v72 v73 bH aW aA aD aF aL aK aB => (bif (decide (v73 < v72)) then (bif ((decide (0 ≤ v73 ∧ v73 < (v71.length : Int))) && true) then (bif (Nat.beq 4 4 && ((decide (0 + aA.length = aA.length)) && decide ((aA.length + 1 + 1) * (32 + 1) ≤ Uq))) then (.to (.h3 v1 v2 v71 v72 (IntKind.wrap .i64 (v73 + 1)) bH aW (aA ++ [(R4.mk v1 (rd v71 v73.toNat).a v2 (rd v71 v73.toNat).b)]) aD aF aL aK aB)) else .stuck) else .stuck) else (.to (.h1 (IntKind.wrap .i64 (aW + 1)) aA aD aF v2 aL aK)))
 | .h4 v2 v8 cE bH aW aA aD aF aH bT cB aI => (bif (decide (v8 < (aA.length : Int))) then (bif ((decide (0 ≤ v8 ∧ v8 < (aA.length : Int))) && true) then (bif (decide ((0 + v8.toNat) < aA.length)) then (.to (.h4 v2 (IntKind.wrap .i64 (v8 + 1)) cE bH aW (aA.set (0 + v8.toNat) (R4.mk (rd aA (0 + v8.toNat)).a (rd aA (0 + v8.toNat)).b v2 (rd aA (0 + v8.toNat)).d)) aD aF aH bT cB aI)) else .stuck) else .stuck) else (.to (.h1 (IntKind.wrap .i64 (aW + 1)) aA aD aF v2 bT cB)))
def y5s (l0 : List R4) : Wu madS := (.to (.h0 0 ([] : List Int)))
theorem x8w (l0 : List R4) : ∀ s, Wm prog (Zy prog 154) (madC l0) (madC l0 s) (Xc l0 s)
 | .h0 v16 aC => (lb (fun k0 => (lo fun o0 => (lo fun o1 => (sl Jj 32 [] ⟨[0, 1, 2, 3, 7], [], madN0, madM0⟩ ⟨[], [.keep, .keep, .cells [.len (aC ++ [(rd l0 (tn v16)).a, (rd l0 (tn v16)).c]).length], .keep, .rowed 1 (aC ++ [(rd l0 (tn v16)).a, (rd l0 (tn v16)).c]).length (Zz (aC ++ [(rd l0 (tn v16)).a, (rd l0 (tn v16)).c]))], []⟩ [true] (pp (xL (aC.length + 2) (aC ++ [(rd l0 (tn v16)).a, (rd l0 (tn v16)).c]).length) (pp (xL (aC.length + 2) (aC ++ [(rd l0 (tn v16)).a, (rd l0 (tn v16)).c]).length) (pp (xS (aC.length + 2) (Za (Zz aC) 0 aC.length 1 [(ii (rd l0 (tn v16)).a), (ii (rd l0 (tn v16)).c)]) (Zz (aC ++ [(rd l0 (tn v16)).a, (rd l0 (tn v16)).c]))) (pp (pp (xF (Za (Zz aC) 0 aC.length 1 [(ii (rd l0 (tn v16)).a), (ii (rd l0 (tn v16)).c)])) nn) (ww o1 (ww o0 (tt k0 nn))))))))))) (fun k0 => (lo fun o0 => (lo fun o1 => (sl Jj 46 [(114, 4, Zz ([] : List R4))] ⟨[5, 3, 2, 4, 0, 1, 6], [], v8d, v8e⟩ ⟨[], [.keep, .cells [.grow 6 4, .list 0 (Zz ([] : List R2)), .keep, .keep], .keep, .rowed 1 (Kp (Yb aC.length (cOf (Zz (Uw (Yb aC.length (cOf (Zz aC)))))))).length (Zz (Kp (Yb aC.length (cOf (Zz (Uw (Yb aC.length (cOf (Zz aC))))))))), .keep, .keep, .keep], []⟩ [false, false] (pp (xL aC.length (Kp (Yb aC.length (cOf (Zz (Uw (Yb aC.length (cOf (Zz aC)))))))).length (by first | exact y8x _ _ | exact z0b rfl)) (pp (xS aC.length (Zz (Kp (Yb aC.length (cOf (Zz (Uw (Yb aC.length (cOf (Zz aC))))))))) (Zz (Kp (Yb aC.length (cOf (Zz (Uw (Yb aC.length (cOf (Zz aC)))))))))) (pp (fl (Kp (Yb aC.length (cOf (Zz (Uw (Yb aC.length (cOf (Zz aC)))))))) (fl ([] : List R4) nn)) (pp (pp (xG (Nat.beq 1 1)) (pp (xG (Nat.beq 1 1)) (pp (xG (Nat.beq 0 0)) (pp (xG (decide (aC.length = aC.length))) (pp (xG (isI (Zz (Uw (Yb aC.length (cOf (Zz aC))))))) (xG (decide (aC.length < 4611686018427387904)))))))) (pp (pp (xG (Nat.beq 1 1)) (pp (xG (Nat.beq 1 1)) (pp (xG (Nat.beq 0 0)) (pp (xG (decide (aC.length = aC.length))) (pp (xG (isI (Zz aC))) (xG (decide (aC.length < 4611686018427387904)))))))) (tt k0 nn)))))))))))
 | .h1 v4 aN bJ bP bQ aL aK => (lb (fun k0 => (lo fun o0 => (lo fun o1 => (lo fun o2 => (lo fun o3 => (sl Jj 48 [(110, 2, Zz ([] : List R2))] ⟨[0, 1, 2, 3, 4, 5, 7, 8, 9, 6], [], w9s, w9u⟩ ⟨[], (kpB 7 [.cells [.grow 8 2], .keep, .keep]), []⟩ (trs 3 []) (pp (fl aK (fl ([] : List R2) (fl aN nn))) (ww o3 (ww o2 (ww o1 (ww o0 (tt k0 nn)))))))))))) (fun k0 => (lb (fun k1 => (lr 29 3 [1, 1, 1, 1, 1, 1, 0] 1 77 [(2, .nils), (3, (ii 4))] (sl Jj 43 [] ⟨[], [], [some [2, 3]], []⟩ ⟨[], [], []⟩ [false, true] (tt k1 (tt k0 nn))))) (fun k1 => (lr 29 3 [1, 1, 1, 1, 1, 1, 0] 1 77 [(2, (.dat aN.length (Zz aN))), (3, (ii 0))] (sl Jj 48 [] ⟨[], [6], [some [2, 3]], []⟩ ⟨[(2, .frz aN.length aN.length (Zz aN) (Zz aN))], [], []⟩ [false, false] (pp (xZ (z6s 4 4 0 aN.length aN.length (Zz aN)) aN.length (Zz aN)) (pp (xL aN.length aN.length) (pp (xS aN.length (Zz aN) (Zz aN)) (pp (fl aN nn) (tt k1 (tt k0 nn))))))))))))
 | .h2 v4 v38 aN bJ bP bQ aL aK aB bV aI => (lb (fun k0 => (lo fun aG => (lb (fun k1 => (lb (fun k2 => (lo fun o0 => (sl Jj 39 [] ⟨[0, 1, 2, 3, 4, 5, 6, 7, 12, 9], [], w9s, w9u⟩ ⟨[], (kpB 7 [.cells [.len (aI ++ [(R2.mk (rd l0 (tn v38)).b (rd l0 (tn v38)).d)]).length], .rowed 2 (aI ++ [(R2.mk (rd l0 (tn v38)).b (rd l0 (tn v38)).d)]).length (Zz (aI ++ [(R2.mk (rd l0 (tn v38)).b (rd l0 (tn v38)).d)])), .keep]), []⟩ (trs 7 []) (pp (xL (aI.length + 1) (aI ++ [(R2.mk (rd l0 (tn v38)).b (rd l0 (tn v38)).d)]).length) (pp (xL (aI.length + 1) (aI ++ [(R2.mk (rd l0 (tn v38)).b (rd l0 (tn v38)).d)]).length) (pp (xS (aI.length + 1) (Za (Zz aI) 0 aI.length 2 [(ii (rd l0 (tn v38)).b), (ii (rd l0 (tn v38)).d)]) (Zz (aI ++ [(R2.mk (rd l0 (tn v38)).b (rd l0 (tn v38)).d)]))) (pp (fl aK (pp (xF (Za (Zz aI) 0 aI.length 2 [(ii (rd l0 (tn v38)).b), (ii (rd l0 (tn v38)).d)])) (fl aN nn))) (ww o0 (tt k2 (tt k1 (ww aG (tt k0 nn)))))))))))) (fun k2 => (sl Jj 39 [] ⟨(List.range 10), [], w9s, w9u⟩ ⟨[], [], []⟩ (trs 6 [false]) (pp (fl aK (fl aI (fl aN nn))) (tt k2 (tt k1 (ww aG (tt k0 nn))))))))) (fun k1 => (sl Jj 39 [] ⟨(List.range 10), [], w9s, w9u⟩ ⟨[], [], []⟩ [true, false, false, false, false, false, false] (pp (fl aK (fl aI (fl aN nn))) (tt k1 (ww aG (tt k0 nn))))))))) (fun k0 => (Jh (sl Jj (C' := ⟨⟨29, 0, true⟩, (z2e prog 154 [1, 1, 0, 1, 0, 1, 0, 0] 4), (Yw prog 154 [1, 1, 0, 1, 0, 1, 0, 0] 1), (some 0), [], ⟨Xp [(4, (.ptr 1 0)), (5, (.ptr 3 0)), (16, (.dat aI.length (Zz aI)))], w0w [(1, ⟨[(.sla 2 4 0 aN.length (.un 4)), (.dat bJ.length (Zz bJ)), (ii bP), (ii bQ)], 188, none⟩), (2, ⟨rows aN.length (Zz aN), 114, some ⟨4, aN.length, (Zz aN)⟩⟩), (3, ⟨[(ii aB), (ii bV), (.sl 4 0 1 (.ex 1))], 193, none⟩), (4, ⟨[(.dat aI.length (Zz aI))], 158, none⟩), (5, ⟨[(.sla 6 1 0 aL (.un 1))], 47, none⟩), (6, ⟨rows aK.length (Zz aK), 3, some ⟨1, aK.length, (Zz aK)⟩⟩), (7, ⟨[(.sl 8 0 1 (.un 1))], 173, none⟩), (8, ⟨[(.dat l0.length (Zz l0))], 105, none⟩)], 9, [], true⟩, [⟨⟨76, 0, true⟩, (z2e prog 186 [1, 0, 0, 1, 0, 0, 1, 1, 0] 2), (Yw prog 186 [1, 0, 0, 1, 0, 0, 1, 1, 0] 1), none, [], Xp [(0, (.yld 0)), (1, (.ptr 5 0)), (2, (.ptr 7 0)), (4, (ii v4)), (72, (.yld 0)), (73, (.agg [(ii aB), (ii bV), (.sl 4 0 1 (.ex 1))]))]⟩, ⟨⟨29, 0, true⟩, none, (.inRangeFunc 0 :: (Yw prog 154 [1, 1, 0, 1, 0] 1)), none, (Zy prog 77), Xp [(2, .nils), (3, (ii 0)), (4, (.ptr 1 0))]⟩], (w0y [(0, ⟨.busy, none, 29, Xp [(4, (.ptr 1 0))], [11], (Qv prog 154 [1, 1, 0, 1, 0, 0]), (Qv prog 154 [1, 1, 0, 1, 0, 1])⟩)])⟩) 37 [] ⟨[0, 1, 9, 10, 7, 2, 3, 4, 5], [8], [some [4, 5, 16], some [0, 1, 2, 4, 72, 73], some [2, 3, 4]], [some [4], none, none, none, none, none, none, none, none]⟩ ⟨[(16, .frz aI.length aI.length (Zz aI) (Zz aI))], [.keep, .keep, .keep, .keep, .cells [.frz aI.length aI.length (Zz aI) (Zz aI)], .keep, .keep, .keep, .keep], []⟩ [false, false] (pp (xZ (z6s 2 2 0 aI.length aI.length (Zz aI)) aI.length (Zz aI)) (pp (xL aI.length aI.length) (pp (xS aI.length (Zz aI) (Zz aI)) (pp (xZ (z6s 2 2 0 aI.length aI.length (Zz aI)) aI.length (Zz aI)) (pp (xL aI.length aI.length) (pp (xS aI.length (Zz aI) (Zz aI)) (pp (fl aN (fl aK nn)) (pp (fl aI nn) (tt k0 nn)))))))))) (lo fun aG => (lb (fun k1 => (lb (fun k2 => (lo fun bA => (lb (fun k3 => (sl Jj 49 [] ⟨[1, 2, 0, 5, 6, 7, 8, 4], [], madN4, madM4⟩ ⟨[], [], []⟩ (trs 13 []) (pp (fl aN (fl aK nn)) (tt k3 (pp (pp (xr bJ) (pp (xI R2 (Wz (cvT aI)).length (Zz (Wz (cvT aI)))) (xw bA))) (tt k2 (tt k1 (pp (pp (xr aI) (xw aG)) nn)))))))) (fun k3 => (sl Jj 69 [] ⟨[1, 0, 5, 6, 7, 8, 4, 2], [], w9r, w9t⟩ ⟨[], [], []⟩ (trs 12 [false]) (pp (fl aK (fl aN nn)) (tt k3 (pp (pp (xr bJ) (pp (xI R2 (Wz (cvT aI)).length (Zz (Wz (cvT aI)))) (xw bA))) (tt k2 (tt k1 (pp (pp (xr aI) (xw aG)) nn))))))))))) (fun k2 => (sl Jj 69 [] ⟨[1, 0, 5, 6, 7, 8, 4, 2], [], w9r, w9t⟩ ⟨[], [], []⟩ (trs 6 [false, false, false, false, false, false, false]) (pp (fl aK (fl aN nn)) (tt k2 (tt k1 (pp (pp (xr aI) (xw aG)) nn)))))))) (fun k1 => (sl Jj 69 [] ⟨[1, 0, 5, 6, 7, 8, 4, 2], [], w9r, w9t⟩ ⟨[], [], []⟩ [false, false, false, false, false, false, false, false, false, false, false, false, false] (pp (fl aK (fl aN nn)) (tt k1 (pp (pp (xr aI) (xw aG)) nn))))))))))
 | .h3 v1 v2 v71 v72 v73 bH aW aA aD aF aL aK aB => (lb (fun k0 => (lo fun o0 => (lo fun o1 => (sl Jj 23 [] ⟨[0, 1, 2, 3, 4, 5, 6, 10], [], w9r, w9t⟩ ⟨[], [.cells [.len (aA ++ [(R4.mk v1 (rd v71 (tn v73)).a v2 (rd v71 (tn v73)).b)]).length, .keep, .keep, .keep], .keep, .keep, .keep, .keep, .keep, .keep, .rowed 4 (aA ++ [(R4.mk v1 (rd v71 (tn v73)).a v2 (rd v71 (tn v73)).b)]).length (Zz (aA ++ [(R4.mk v1 (rd v71 (tn v73)).a v2 (rd v71 (tn v73)).b)]))], []⟩ [true] (pp (xL (aA.length + 1) (aA ++ [(R4.mk v1 (rd v71 (tn v73)).a v2 (rd v71 (tn v73)).b)]).length) (pp (xL (aA.length + 1) (aA ++ [(R4.mk v1 (rd v71 (tn v73)).a v2 (rd v71 (tn v73)).b)]).length) (pp (xS (aA.length + 1) (Za (Zz aA) 0 aA.length 4 [(ii v1), (ii (rd v71 (tn v73)).a), (ii v2), (ii (rd v71 (tn v73)).b)]) (Zz (aA ++ [(R4.mk v1 (rd v71 (tn v73)).a v2 (rd v71 (tn v73)).b)]))) (pp (fl aK (pp (xF (Za (Zz aA) 0 aA.length 4 [(ii v1), (ii (rd v71 (tn v73)).a), (ii v2), (ii (rd v71 (tn v73)).b)])) nn)) (ww o1 (ww o0 (tt k0 nn))))))))))) (fun k0 => (sl Jj 22 [] ⟨[1, 0, 2, 3, 4, 5, 7], [], v8d, v8e⟩ ⟨[], [], []⟩ [false, false] (pp (fl aK (fl aA nn)) (tt k0 nn)))))
 | .h4 v2 v8 cE bH aW aA aD aF aH bT cB aI => (lb (fun k0 => (lo fun o0 => (lo fun o1 => (sl Jj 33 [] ⟨(List.range 8), [], madN4, madM4⟩ ⟨[], [.cells [.len (aA.set (0 + (tn v8)) (R4.mk (rd aA (0 + (tn v8))).a (rd aA (0 + (tn v8))).b v2 (rd aA (0 + (tn v8))).d)).length, .keep, .keep, .keep], .rowed 4 (aA.set (0 + (tn v8)) (R4.mk (rd aA (0 + (tn v8))).a (rd aA (0 + (tn v8))).b v2 (rd aA (0 + (tn v8))).d)).length (Zz (aA.set (0 + (tn v8)) (R4.mk (rd aA (0 + (tn v8))).a (rd aA (0 + (tn v8))).b v2 (rd aA (0 + (tn v8))).d))), .keep, .keep, .keep, .keep, .keep, .keep], []⟩ [true] (pp (xL aA.length (aA.set (0 + (tn v8)) (R4.mk (rd aA (0 + (tn v8))).a (rd aA (0 + (tn v8))).b v2 (rd aA (0 + (tn v8))).d)).length) (pp (xL aA.length (aA.set (0 + (tn v8)) (R4.mk (rd aA (0 + (tn v8))).a (rd aA (0 + (tn v8))).b v2 (rd aA (0 + (tn v8))).d)).length) (pp (xS aA.length (Ww (Zz aA) (0 + (tn v8)) 2 [(ii v2)]) (Zz (aA.set (0 + (tn v8)) (R4.mk (rd aA (0 + (tn v8))).a (rd aA (0 + (tn v8))).b v2 (rd aA (0 + (tn v8))).d)))) (pp (pp (xF (Ww (Zz aA) (0 + (tn v8)) 2 [(ii v2)])) (fl cB nn)) (ww o1 (ww o0 (tt k0 nn))))))))))) (fun k0 => (sl Jj 36 [] ⟨[2, 0, 3, 4, 5, 6, 1], [], v8d, v8e⟩ ⟨[], [], []⟩ [false, false] (pp (fl cB (fl aA nn)) (tt k0 nn)))))
theorem x2d (l0 : List R4) : Wm prog (Zy prog 154) (madC l0) (Zd prog 154 [(.dat l0.length (Zz l0))] true []) (y5s l0) := (sl Jj 56 [(3, 1, Zz ([] : List Int))] ⟨[2, 1, 3, 0, 4], [], madN0, madM0⟩ ⟨[], [.keep, .keep, .cells [.grow 4 1], .keep, .keep], []⟩ [true] (pp (fl ([] : List Int) nn) nn))
theorem w9q (l0 : List R4) (n : Nat) (vs : List AVal) (h : Yj (Xc l0) n (y5s l0) = .ret vs) : Kv prog (Zy prog 154) (Zd prog 154 [(.dat l0.length (Zz l0))] true []) vs := by
 have := Zn (x8w l0) n _ (x2d l0)
 rwa [h] at this
end Go.Am
end
