/- A part of a proof: several texts in one. -/
import Derived.Test.YtmanggcjimaehaaGreatKv4
section
set_option linter.unusedVariables false
set_option linter.unusedSimpArgs false
namespace Go.Am
open Go.Proofs
set_option maxRecDepth 1000000
set_option linter.unusedVariables false
set_option linter.unusedSimpArgs false
set_option maxHeartbeats 4000000
inductive ocoS where
noncomputable def ocoC (l0 : List R6) (l1 : List R6) : ocoS → Cfg
 := nofun
noncomputable def x0j (l0 : List R6) (l1 : List R6) : ocoS → Xn ocoS
 := nofun
noncomputable def z8m (l0 : List R6) (l1 : List R6) : Xn ocoS := (bif (Xa (cvT l0)) then (bif ((Yz (cvT l0)) != 0) then (.ret [(.int .i64 0), (.int .i64 (Yz (cvT l0)))]) else (bif (Xa (cvT l1)) then (bif ((Yz (cvT l1)) != 0) then (.ret [(.int .i64 0), (.int .i64 (Yz (cvT l1)))]) else (bif (Ww (cvT l0)) then (bif (Ww (cvT l1)) then (bif (Qt (cvT (Yr (cvT l0))) (cvT (Yr (cvT l1)))) then (.ret [(.int .i64 (w3v (cvT (Yr (cvT l0))) (cvT (Yr (cvT l1))))), (.int .i64 0)]) else .stuck) else .stuck) else .stuck)) else .stuck)) else .stuck)
theorem x6h (l0 : List R6) (l1 : List R6) : ∀ s, Xh Tryz.prog (Zy Tryz.prog 35) (ocoC l0 l1) (ocoC l0 l1 s) (x0j l0 l1 s)
 := nofun
theorem x0k (l0 : List R6) (l1 : List R6) : Xh Tryz.prog (Zy Tryz.prog 35) (ocoC l0 l1) (Zf Tryz.prog 35 [(.dat l0.length (Zz l0)), (.dat l1.length (Zz l1))] true []) (z8m l0 l1) := (lo fun o0_0 => (lb (fun k0 => (lr 19 35 [1, 0, 1, 1, 0, 0] 1 28 [(4, (ii 0)), (5, (ii (Yz (cvT l0))))] (sl z0x 72 [] ⟨[], [], [some [4, 5]], []⟩ ⟨[], [], []⟩ (trs 3 []) (tt k0 (tt k0 (pp (pp (xr l0) (xw o0_0)) nn)))))) (fun k0 => (lo fun o1_0 => (lb (fun k1 => (lr 19 35 [1, 0, 1, 1, 0, 0] 1 28 [(4, (ii 0)), (5, (ii (Yz (cvT l1))))] (sl z0x 106 [] ⟨[], [], [some [4, 5]], []⟩ ⟨[], [], []⟩ [true, false, true, true, true] (tt k1 (tt k1 (pp (pp (xr l1) (xw o1_0)) (tt k0 (pp (pp (xr l0) (xw o0_0)) nn)))))))) (fun k1 => (lo fun o0 => (lo fun o1 => (lo fun o2 => (lr 19 3 [1, 1, 1, 1, 1, 1, 1, 0] 1 28 [(4, (ii (w3v (cvT (Yr (cvT l0))) (cvT (Yr (cvT l1)))))), (5, (ii 0))] (sl z0x 124 [] ⟨[], [], [some [4, 5]], []⟩ ⟨[], [], []⟩ [true, false, true, false, false, false] (pp (pp (xI R6 (Yr (cvT l0)).length (Zz (Yr (cvT l0)))) (pp (xI R6 (Yr (cvT l1)).length (Zz (Yr (cvT l1)))) (xw o2))) (pp (pp (xr l1) (xw o1)) (pp (pp (xr l0) (xw o0)) (tt k1 (pp (pp (xr l1) (xw o1_0)) (tt k0 (pp (pp (xr l0) (xw o0_0)) nn))))))))))))))))))
theorem w6g (l0 : List R6) (l1 : List R6) (n : Nat) (vs : List AVal) (h : Ya (x0j l0 l1) n (z8m l0 l1) = .ret vs) : Je Tryz.prog (Zy Tryz.prog 35) (Zf Tryz.prog 35 [(.dat l0.length (Zz l0)), (.dat l1.length (Zz l1))] true []) vs := by
 have := Zn (x6h l0 l1) n _ (x0k l0 l1)
 rwa [h] at this
inductive oreS where
noncomputable def oreC (l0 : List R6) (l1 : List R6) : oreS → Cfg
 := nofun
noncomputable def x0d (l0 : List R6) (l1 : List R6) : oreS → Xn oreS
 := nofun
noncomputable def z8k (l0 : List R6) (l1 : List R6) : Xn oreS := (bif (Xa (cvT l0)) then (bif ((Yz (cvT l0)) != 0) then (.ret [(.int .u8 0), (.int .i64 (Yz (cvT l0)))]) else (bif (Xa (cvT l1)) then (bif ((Yz (cvT l1)) != 0) then (.ret [(.int .u8 0), (.int .i64 (Yz (cvT l1)))]) else (bif (z4o (cvT l0) (cvT l1)) then (.ret [(.int .u8 (orlV (cvT l0) (cvT l1))), (.int .i64 0)]) else .stuck)) else .stuck)) else .stuck)
theorem x6f (l0 : List R6) (l1 : List R6) : ∀ s, Xh Tryz.prog (Zy Tryz.prog 30) (oreC l0 l1) (oreC l0 l1 s) (x0d l0 l1 s)
 := nofun
theorem x0e (l0 : List R6) (l1 : List R6) : Xh Tryz.prog (Zy Tryz.prog 30) (oreC l0 l1) (Zf Tryz.prog 30 [(.dat l0.length (Zz l0)), (.dat l1.length (Zz l1))] true []) (z8k l0 l1) := (lo fun o0_0 => (lb (fun k0 => (lr 17 30 [1, 0, 1, 1, 0, 0] 1 28 [(4, (.int .u8 0)), (5, (ii (Yz (cvT l0))))] (sl z0x 72 [] ⟨[], [], [some [4, 5]], []⟩ ⟨[], [], []⟩ (trs 3 []) (tt k0 (tt k0 (pp (pp (xr l0) (xw o0_0)) nn)))))) (fun k0 => (lo fun o1_0 => (lb (fun k1 => (lr 17 30 [1, 0, 1, 1, 0, 0] 1 28 [(4, (.int .u8 0)), (5, (ii (Yz (cvT l1))))] (sl z0x 106 [] ⟨[], [], [some [4, 5]], []⟩ ⟨[], [], []⟩ [true, false, true, true, true] (tt k1 (tt k1 (pp (pp (xr l1) (xw o1_0)) (tt k0 (pp (pp (xr l0) (xw o0_0)) nn)))))))) (fun k1 => (lo fun o0 => (lr 17 3 [1, 1, 1, 1, 1, 1, 1, 0] 1 28 [(4, (.int .u8 (orlV (cvT l0) (cvT l1)))), (5, (ii 0))] (sl z0x 122 [] ⟨[], [], [some [4, 5]], []⟩ ⟨[], [], []⟩ [true, false, true, false, false, false] (pp (pp (xr l0) (pp (xr l1) (xw o0))) (tt k1 (pp (pp (xr l1) (xw o1_0)) (tt k0 (pp (pp (xr l0) (xw o0_0)) nn))))))))))))))
theorem w6e (l0 : List R6) (l1 : List R6) (n : Nat) (vs : List AVal) (h : Ya (x0d l0 l1) n (z8k l0 l1) = .ret vs) : Je Tryz.prog (Zy Tryz.prog 30) (Zf Tryz.prog 30 [(.dat l0.length (Zz l0)), (.dat l1.length (Zz l1))] true []) vs := by
 have := Zn (x6f l0 l1) n _ (x0e l0 l1)
 rwa [h] at this
inductive osiS where
noncomputable def osiC (l0 : List R6) (x1 : Int) : osiS → Cfg
 := nofun
noncomputable def y9z (l0 : List R6) (x1 : Int) : osiS → Xn osiS
 := nofun
noncomputable def z8i (l0 : List R6) (x1 : Int) : Xn osiS := (bif (Xa (cvT l0)) then (bif ((Yz (cvT l0)) != 0) then (.ret [(.int .i64 0), (.int .i64 (Yz (cvT l0)))]) else (bif (decide (x1 < 0)) then (.ret [(.int .i64 0), (.int .i64 2)]) else (bif (decide (x1 > 5)) then (.ret [(.int .i64 0), (.int .i64 2)]) else (bif (Ww (cvT l0)) then (bif (Wn (cvT (Yr (cvT l0)))) then (bif (Yi (cvT (Yr (cvT l0))) (cvT (Yr (cvT l0))) x1) then (.ret [(.int .i64 (IntKind.wrap IntKind.i64 ((z0z (cvT (Yr (cvT l0)))) - (prV (cvT (Yr (cvT l0))) (cvT (Yr (cvT l0))) x1)))), (.int .i64 0)]) else .stuck) else .stuck) else .stuck)))) else .stuck)
theorem x6d (l0 : List R6) (x1 : Int) : ∀ s, Xh Tryz.prog (Zy Tryz.prog 31) (osiC l0 x1) (osiC l0 x1 s) (y9z l0 x1 s)
 := nofun
theorem x0a (l0 : List R6) (x1 : Int) : Xh Tryz.prog (Zy Tryz.prog 31) (osiC l0 x1) (Zf Tryz.prog 31 [(.dat l0.length (Zz l0)), (.int .i64 x1)] true []) (z8i l0 x1) := (lo fun o0_0 => (lb (fun k0 => (lr 29 31 [1, 0, 1, 1, 0, 0] 1 28 [(4, (ii 0)), (5, (ii (Yz (cvT l0))))] (sl z0x 71 [] ⟨[], [], [some [4, 5]], []⟩ ⟨[], [], []⟩ (trs 3 []) (tt k0 (tt k0 (pp (pp (xr l0) (xw o0_0)) nn)))))) (fun k0 => (lb (fun k1 => (lr 29 31 [1, 1, 0, 1, 0, 0] 1 28 [(4, (ii 0)), (5, (ii 2))] (sl z0x 95 [] ⟨[], [], [some [4, 5]], []⟩ ⟨[], [], []⟩ [true, false, false, false, true, true, true] (tt k1 (tt k0 (pp (pp (xr l0) (xw o0_0)) nn)))))) (fun k1 => (lb (fun k2 => (lr 29 31 [1, 1, 0, 1, 0, 0] 1 28 [(4, (ii 0)), (5, (ii 2))] (sl z0x 95 [] ⟨[], [], [some [4, 5]], []⟩ ⟨[], [], []⟩ [true, false, false, false, false, false, true] (tt k2 (tt k1 (tt k0 (pp (pp (xr l0) (xw o0_0)) nn))))))) (fun k2 => (lo fun o0 => (lo fun o1 => (lo fun o2 => (lr 29 3 [1, 1, 1, 1, 1, 1, 1, 0] 1 28 [(4, (ii (wr ((z0z (cvT (Yr (cvT l0)))) - (prV (cvT (Yr (cvT l0))) (cvT (Yr (cvT l0))) x1))))), (5, (ii 0))] (sl z0x 109 [] ⟨[], [], [some [4, 5]], []⟩ ⟨[], [], []⟩ [true, false, false, false, false, false, false] (pp (pp (xI R6 (Yr (cvT l0)).length (Zz (Yr (cvT l0)))) (pp (xI R6 (Yr (cvT l0)).length (Zz (Yr (cvT l0)))) (xw o2))) (pp (pp (xI R6 (Yr (cvT l0)).length (Zz (Yr (cvT l0)))) (xw o1)) (pp (pp (xr l0) (xw o0)) (tt k2 (tt k1 (tt k0 (pp (pp (xr l0) (xw o0_0)) nn)))))))))))))))))))
theorem w6c (l0 : List R6) (x1 : Int) (n : Nat) (vs : List AVal) (h : Ya (y9z l0 x1) n (z8i l0 x1) = .ret vs) : Je Tryz.prog (Zy Tryz.prog 31) (Zf Tryz.prog 31 [(.dat l0.length (Zz l0)), (.int .i64 x1)] true []) vs := by
 have := Zn (x6d l0 x1) n _ (x0a l0 x1)
 rwa [h] at this
inductive ocvS where
noncomputable def ocvC (l0 : List R6) (l1 : List R6) (x2 : Int) : ocvS → Cfg
 := nofun
noncomputable def x0h (l0 : List R6) (l1 : List R6) (x2 : Int) : ocvS → Xn ocvS
 := nofun
noncomputable def z8l (l0 : List R6) (l1 : List R6) (x2 : Int) : Xn ocvS := (bif (Xa (cvT l0)) then (bif ((Yz (cvT l0)) != 0) then (.ret [(.int .i64 0), (.int .i64 (Yz (cvT l0)))]) else (bif (Xa (cvT l1)) then (bif ((Yz (cvT l1)) != 0) then (.ret [(.int .i64 0), (.int .i64 (Yz (cvT l1)))]) else (bif (decide (x2 < 0)) then (.ret [(.int .i64 0), (.int .i64 2)]) else (bif (decide (x2 > 5)) then (.ret [(.int .i64 0), (.int .i64 2)]) else (bif (Ww (cvT l0)) then (bif (Ww (cvT l1)) then (bif (Yi (cvT (Yr (cvT l0))) (cvT (Yr (cvT l1))) x2) then (bif (Vn (cvT (Yr (cvT l0))) (cvT (Yr (cvT l1)))) then (bif (Yi (cvT (Yr (cvT l0))) (cvT (Yf (cvT (Yr (cvT l0))) (cvT (Yr (cvT l1))))) x2) then (.ret [(.int .i64 (IntKind.wrap IntKind.i64 ((prV (cvT (Yr (cvT l0))) (cvT (Yr (cvT l1))) x2) - (prV (cvT (Yr (cvT l0))) (cvT (Yf (cvT (Yr (cvT l0))) (cvT (Yr (cvT l1))))) x2)))), (.int .i64 0)]) else .stuck) else .stuck) else .stuck) else .stuck) else .stuck)))) else .stuck)) else .stuck)
theorem x6g (l0 : List R6) (l1 : List R6) (x2 : Int) : ∀ s, Xh Tryz.prog (Zy Tryz.prog 32) (ocvC l0 l1 x2) (ocvC l0 l1 x2 s) (x0h l0 l1 x2 s)
 := nofun
theorem x0i (l0 : List R6) (l1 : List R6) (x2 : Int) : Xh Tryz.prog (Zy Tryz.prog 32) (ocvC l0 l1 x2) (Zf Tryz.prog 32 [(.dat l0.length (Zz l0)), (.dat l1.length (Zz l1)), (.int .i64 x2)] true []) (z8l l0 l1 x2) := (lo fun o0_0 => (lb (fun k0 => (lr 39 32 [1, 0, 1, 1, 0, 0] 1 32 [(6, (ii 0)), (7, (ii (Yz (cvT l0))))] (sl z0x 72 [] ⟨[], [], [some [6, 7]], []⟩ ⟨[], [], []⟩ (trs 3 []) (tt k0 (tt k0 (pp (pp (xr l0) (xw o0_0)) nn)))))) (fun k0 => (lo fun o1_0 => (lb (fun k1 => (lr 39 32 [1, 0, 1, 1, 0, 0] 1 32 [(6, (ii 0)), (7, (ii (Yz (cvT l1))))] (sl z0x 106 [] ⟨[], [], [some [6, 7]], []⟩ ⟨[], [], []⟩ [true, false, true, true, true] (tt k1 (tt k1 (pp (pp (xr l1) (xw o1_0)) (tt k0 (pp (pp (xr l0) (xw o0_0)) nn)))))))) (fun k1 => (lb (fun k2 => (lr 39 32 [1, 1, 0, 1, 0, 0] 1 32 [(6, (ii 0)), (7, (ii 2))] (sl z0x 130 [] ⟨[], [], [some [6, 7]], []⟩ ⟨[], [], []⟩ [true, false, true, false, false, false, true, true, true] (tt k2 (tt k1 (pp (pp (xr l1) (xw o1_0)) (tt k0 (pp (pp (xr l0) (xw o0_0)) nn)))))))) (fun k2 => (lb (fun k3 => (lr 39 32 [1, 1, 0, 1, 0, 0] 1 32 [(6, (ii 0)), (7, (ii 2))] (sl z0x 130 [] ⟨[], [], [some [6, 7]], []⟩ ⟨[], [], []⟩ [true, false, true, false, false, false, false, false, true] (tt k3 (tt k2 (tt k1 (pp (pp (xr l1) (xw o1_0)) (tt k0 (pp (pp (xr l0) (xw o0_0)) nn))))))))) (fun k3 => (lo fun o0 => (lo fun o1 => (lo fun o2 => (lo fun o3 => (lo fun o4 => (lr 39 3 [1, 1, 1, 1, 1, 1, 1, 0] 1 32 [(6, (ii (wr ((prV (cvT (Yr (cvT l0))) (cvT (Yr (cvT l1))) x2) - (prV (cvT (Yr (cvT l0))) (cvT (Yf (cvT (Yr (cvT l0))) (cvT (Yr (cvT l1))))) x2))))), (7, (ii 0))] (sl z0x 151 [] ⟨[], [], [some [6, 7]], []⟩ ⟨[], [], []⟩ [true, false, true, false, false, false, false, false, false] (pp (pp (xI R6 (Yr (cvT l0)).length (Zz (Yr (cvT l0)))) (pp (xI R6 (Yf (cvT (Yr (cvT l0))) (cvT (Yr (cvT l1)))).length (Zz (Yf (cvT (Yr (cvT l0))) (cvT (Yr (cvT l1)))))) (xw o4))) (pp (pp (xI R6 (Yr (cvT l0)).length (Zz (Yr (cvT l0)))) (pp (xI R6 (Yr (cvT l1)).length (Zz (Yr (cvT l1)))) (xw o3))) (pp (pp (xI R6 (Yr (cvT l0)).length (Zz (Yr (cvT l0)))) (pp (xI R6 (Yr (cvT l1)).length (Zz (Yr (cvT l1)))) (xw o2))) (pp (pp (xr l1) (xw o1)) (pp (pp (xr l0) (xw o0)) (tt k3 (tt k2 (tt k1 (pp (pp (xr l1) (xw o1_0)) (tt k0 (pp (pp (xr l0) (xw o0_0)) nn))))))))))))))))))))))))))))
theorem w6f (l0 : List R6) (l1 : List R6) (x2 : Int) (n : Nat) (vs : List AVal) (h : Ya (x0h l0 l1 x2) n (z8l l0 l1 x2) = .ret vs) : Je Tryz.prog (Zy Tryz.prog 32) (Zf Tryz.prog 32 [(.dat l0.length (Zz l0)), (.dat l1.length (Zz l1)), (.int .i64 x2)] true []) vs := by
 have := Zn (x6g l0 l1 x2) n _ (x0i l0 l1 x2)
 rwa [h] at this
inductive grtS where
noncomputable def grtC (l0 : List R6) : grtS → Cfg
 := nofun
noncomputable def x0y (l0 : List R6) : grtS → Xn grtS
 := nofun
noncomputable def z8t (l0 : List R6) : Xn grtS := (bif (decide (((l0.length : Nat) : Int) > 8)) then (bif (decide (((l0.length : Nat) : Int) ≤ 400)) then (.ret [(.bool true)]) else (.ret [(.bool (decide (((l0.length : Nat) : Int) > 420)))])) else (.ret [(.bool (decide (((l0.length : Nat) : Int) > 420)))]))
theorem x6t (l0 : List R6) : ∀ s, Xh Tryz.prog (Zy Tryz.prog 75) (grtC l0) (grtC l0 s) (x0y l0 s)
 := nofun
theorem x0z (l0 : List R6) : Xh Tryz.prog (Zy Tryz.prog 75) (grtC l0) (Zf Tryz.prog 75 [(.dat l0.length (Zz l0))] true []) (z8t l0) := (lb (fun k0 => (lb (fun k1 => (lr 16 3 [1, 1, 1, 1, 1, 1, 1, 0] 1 3 [(2, (.bool true))] (sl z0x 21 [] ⟨[], [], [some [2]], []⟩ ⟨[], [], []⟩ (trs 6 []) (tt k1 (tt k0 nn))))) (fun k1 => (lr 16 3 [1, 1, 1, 1, 1, 1, 1, 0] 1 3 [(2, (.bool (decide (((l0.length : Nat) : Int) > 420))))] (sl z0x 21 [] ⟨[], [], [some [2]], []⟩ ⟨[], [], []⟩ (trs 3 [false, false, false]) (tt k1 (tt k0 nn))))))) (fun k0 => (lr 16 3 [1, 1, 1, 1, 1, 1, 1, 0] 1 3 [(2, (.bool (decide (((l0.length : Nat) : Int) > 420))))] (sl z0x 21 [] ⟨[], [], [some [2]], []⟩ ⟨[], [], []⟩ [false, false, false, false, false, false] (tt k0 nn)))))
theorem w7a (l0 : List R6) (n : Nat) (vs : List AVal) (h : Ya (x0y l0) n (z8t l0) = .ret vs) : Je Tryz.prog (Zy Tryz.prog 75) (Zf Tryz.prog 75 [(.dat l0.length (Zz l0))] true []) vs := by
 have := Zn (x6t l0) n _ (x0z l0)
 rwa [h] at this
end Go.Am
end
section
set_option linter.unusedVariables false
set_option linter.unusedSimpArgs false
namespace Go.Am
open Go.Proofs
set_option maxRecDepth 100000
set_option maxHeartbeats 4000000
set_option linter.unusedVariables false
set_option linter.unusedSimpArgs false
noncomputable def Qn (X Y : List R6) : Int := bif Yz X != 0 then 0 else bif Yz Y != 0 then 0 else w3v X Y
noncomputable def Ue (X Y : List R6) : Int := bif Yz X != 0 then Yz X else bif Yz Y != 0 then Yz Y else 0
def Wk (X Y : List R6) : Bool := decide (X.length ≤ 100 ∨ 400 < X.length) && decide (Y.length ≤ 100 ∨ 400 < Y.length)
theorem x9a {X : List R6} (h : 400 < X.length) : (Yz X != 0) = true := by
 unfold Yz; rw [decide_eq_true h]; rfl
theorem Kk {X : List R6} (h : decide (X.length ≤ 100 ∨ 400 < X.length) = true) (h0 : (Yz X != 0) = false) : X.length ≤ 100 := by
 rcases of_decide_eq_true h with h | h
 ·exact h
 ·rw [x9a h] at h0; cases h0
theorem v4b (X Y : List R6) (h : Wk X Y = true) : ∃ N, Ya (x0j X Y) N (z8m X Y) = .ret [.int .i64 (Qn X Y), .int .i64 (Ue X Y)] := by
 unfold Wk at h
 simp only [Bool.and_eq_true] at h
 refine ⟨0, ?_⟩
 unfold z8m Qn Ue
 have o : ∀ l, Xa l = true := fun _ => rfl
 simp only [Zg, o, cond_true, Yr]
 rcases Yb (Yz X != 0) with q1 | q1
 ·simp only [q1, cond_true]; rfl
 ·rcases Yb (Yz Y != 0) with q2 | q2
  ·simp only [q1, q2, cond_true, cond_false]; rfl
  ·have s1 := Kk h.1 q1
   have s2 := Kk h.2 q2
   have b1 : Ww X = true := decide_eq_true (by omega)
   have b2 : Ww Y = true := decide_eq_true (by omega)
   have hk : Qt X Y = true := decide_eq_true (by omega)
   simp only [q1, q2, b1, b2, hk, cond_true, cond_false]; rfl
noncomputable def Uj (X Y : List R6) : Int := bif Yz X != 0 then 0 else bif Yz Y != 0 then 0 else orlV X Y
noncomputable def Qk (X Y : List R6) : Int := Ue X Y
def Va (X Y : List R6) : Bool := Wk X Y
theorem v3y (X Y : List R6) (h : Va X Y = true) : ∃ N, Ya (x0d X Y) N (z8k X Y) = .ret [.int .u8 (Uj X Y), .int .i64 (Qk X Y)] := by
 unfold Va Wk at h
 simp only [Bool.and_eq_true] at h
 refine ⟨0, ?_⟩
 unfold z8k Uj Qk Ue
 have o : ∀ l, Xa l = true := fun _ => rfl
 simp only [Zg, o, cond_true]
 rcases Yb (Yz X != 0) with q1 | q1
 ·simp only [q1, cond_true]; rfl
 ·rcases Yb (Yz Y != 0) with q2 | q2
  ·simp only [q1, q2, cond_true, cond_false]; rfl
  ·have s1 := Kk h.1 q1
   have s2 := Kk h.2 q2
   have hk : z4o X Y = true := decide_eq_true (by omega)
   simp only [q1, q2, hk, cond_true, cond_false]; rfl
noncomputable def Vi (X : List R6) (d : Int) : Int := bif Yz X != 0 then 0 else bif decide (d < 0) then 0 else bif decide (d > 5) then 0 else IntKind.wrap .i64 (z0z X - prV X X d)
noncomputable def Vh (X : List R6) (d : Int) : Int := bif Yz X != 0 then Yz X else bif decide (d < 0) then 2 else bif decide (d > 5) then 2 else 0
def Wb (X : List R6) (d : Int) : Bool := decide (X.length ≤ 100 ∨ 400 < X.length)
theorem v3w (X : List R6) (d : Int) (h : Wb X d = true) : ∃ N, Ya (y9z X d) N (z8i X d) = .ret [.int .i64 (Vi X d), .int .i64 (Vh X d)] := by
 refine ⟨0, ?_⟩
 unfold z8i Vi Vh
 have o : ∀ l, Xa l = true := fun _ => rfl
 simp only [Zg, o, cond_true, Yr]
 rcases Yb (Yz X != 0) with q1 | q1
 ·simp only [q1, cond_true]; rfl
 ·have s1 := Kk h q1
  have b1 : Ww X = true := decide_eq_true (by omega)
  have v1 : Wn X = true := decide_eq_true (by omega)
  rcases Yb (decide (d < 0)) with q2 | q2
  ·simp only [q1, q2, cond_true, cond_false]; rfl
  ·rcases Yb (decide (d > 5)) with q3 | q3
   ·simp only [q1, q2, q3, cond_true, cond_false]; rfl
   ·have := of_decide_eq_false q2
    have := of_decide_eq_false q3
    have p1 : Yi X X d = true := decide_eq_true (by omega)
    simp only [q1, q2, q3, b1, v1, p1, cond_true, cond_false]; rfl
noncomputable def y2q (X Y : List R6) (d : Int) : Int := bif Yz X != 0 then 0 else bif Yz Y != 0 then 0 else bif decide (d < 0) then 0 else bif decide (d > 5) then 0 else IntKind.wrap .i64 (prV X Y d - prV X (Yf X Y) d)
noncomputable def y2p (X Y : List R6) (d : Int) : Int := bif Yz X != 0 then Yz X else bif Yz Y != 0 then Yz Y else bif decide (d < 0) then 2 else bif decide (d > 5) then 2 else 0
def z1q (X Y : List R6) (d : Int) : Bool := Wk X Y
theorem v4a (X Y : List R6) (d : Int) (h : z1q X Y d = true) : ∃ N, Ya (x0h X Y d) N (z8l X Y d) = .ret [.int .i64 (y2q X Y d), .int .i64 (y2p X Y d)] := by
 unfold z1q Wk at h
 simp only [Bool.and_eq_true] at h
 refine ⟨0, ?_⟩
 unfold z8l y2q y2p
 have o : ∀ l, Xa l = true := fun _ => rfl
 simp only [Zg, o, cond_true, Yr]
 rcases Yb (Yz X != 0) with q1 | q1
 ·simp only [q1, cond_true]; rfl
 ·rcases Yb (Yz Y != 0) with q4 | q4
  ·simp only [q1, q4, cond_true, cond_false]; rfl
  ·have s1 := Kk h.1 q1
   have s2 := Kk h.2 q4
   have hl := z2q X Y
   have hm : X.length * Y.length ≤ 100 * 100 := Nat.mul_le_mul s1 s2
   have b1 : Ww X = true := decide_eq_true (by omega)
   have b2 : Ww Y = true := decide_eq_true (by omega)
   have c1 : Vn X Y = true := decide_eq_true (by omega)
   rcases Yb (decide (d < 0)) with q2 | q2
   ·simp only [q1, q2, q4, cond_true, cond_false]; rfl
   ·rcases Yb (decide (d > 5)) with q3 | q3
    ·simp only [q1, q2, q3, q4, cond_true, cond_false]; rfl
    ·have := of_decide_eq_false q2
     have := of_decide_eq_false q3
     have p1 : Yi X Y d = true := decide_eq_true (by omega)
     have p2 : Yi X (Yf X Y) d = true := decide_eq_true (by omega)
     simp only [q1, q2, q3, q4, b1, b2, c1, p1, p2, cond_true, cond_false]; rfl
def v0w (X : List R6) : Bool := decide (8 < X.length ∧ X.length ≤ 400 ∨ 420 < X.length)
def z1u (X : List R6) : Bool := true
theorem v4n (X : List R6) (h : z1u X = true) : ∃ N, Ya (x0y X) N (z8t X) = .ret [.bool (v0w X)] := by
 refine ⟨0, ?_⟩
 unfold z8t v0w
 by_cases h1 : ((X.length : Nat) : Int) > 8
 ·by_cases h2 : ((X.length : Nat) : Int) ≤ 400
  ·rw [decide_eq_true h1, decide_eq_true h2, decide_eq_true (show 8 < X.length ∧ X.length ≤ 400 ∨ 420 < X.length by omega)]; rfl
  ·rw [decide_eq_true h1, decide_eq_false h2]
   by_cases h3 : ((X.length : Nat) : Int) > 420
   ·rw [decide_eq_true h3, decide_eq_true (show 8 < X.length ∧ X.length ≤ 400 ∨ 420 < X.length by omega)]; rfl
   ·rw [decide_eq_false h3, decide_eq_false (show ¬ (8 < X.length ∧ X.length ≤ 400 ∨ 420 < X.length) by omega)]; rfl
 ·rw [decide_eq_false h1, decide_eq_false (show ¬ ((X.length : Nat) : Int) > 420 by omega), decide_eq_false (show ¬ (8 < X.length ∧ X.length ≤ 400 ∨ 420 < X.length) by omega)]; rfl
noncomputable def fOco : List AVal → Option (AVal × Bool)
 | [a0, a1] => match asL R6 a0, asL R6 a1 with
  | some (L0, g0, n0), some (L1, g1, n1) => some (.tup [.int .i64 (Qn L0 L1), .int .i64 (Ue L0 L1)], isT R6 n0 g0 && (isT R6 n1 g1 && (Wk L0 L1)))
  | _, _ => none
 | _ => none
theorem v5i {S : Specs} (hS : Zk Tryz.prog S) : Zk Tryz.prog (S.with v0m fOco) := by
 refine z1d hS (by kernel_rfl) fun args v h => ?_
 unfold fOco at h
 split at h
 ·rename_i a0 a1
  split at h
  ·rename_i L0 g0 n0 L1 g1 n1 e0 e1
   simp only [Option.some.injEq, Prod.mk.injEq, Bool.and_eq_true] at h
   obtain ⟨rfl, ho0, ho1, hw⟩ := h
   obtain ⟨N, hN⟩ := v4b L0 L1 hw
   exact ⟨_, _, (.cons (asL_le e0 ho0) (.cons (asL_le e1 ho1) .nil)), rfl, w6g L0 L1 N _ hN, 3, rfl⟩
  ·cases h
 ·cases h
noncomputable def fOre : List AVal → Option (AVal × Bool)
 | [a0, a1] => match asL R6 a0, asL R6 a1 with
  | some (L0, g0, n0), some (L1, g1, n1) => some (.tup [.int .u8 (Uj L0 L1), .int .i64 (Qk L0 L1)], isT R6 n0 g0 && (isT R6 n1 g1 && (Va L0 L1)))
  | _, _ => none
 | _ => none
theorem v5g {S : Specs} (hS : Zk Tryz.prog S) : Zk Tryz.prog (S.with nORel fOre) := by
 refine z1d hS (by kernel_rfl) fun args v h => ?_
 unfold fOre at h
 split at h
 ·rename_i a0 a1
  split at h
  ·rename_i L0 g0 n0 L1 g1 n1 e0 e1
   simp only [Option.some.injEq, Prod.mk.injEq, Bool.and_eq_true] at h
   obtain ⟨rfl, ho0, ho1, hw⟩ := h
   obtain ⟨N, hN⟩ := v3y L0 L1 hw
   exact ⟨_, _, (.cons (asL_le e0 ho0) (.cons (asL_le e1 ho1) .nil)), rfl, w6e L0 L1 N _ hN, 3, rfl⟩
  ·cases h
 ·cases h
noncomputable def fOsi : List AVal → Option (AVal × Bool)
 | [a0, .int .i64 x1] => match asL R6 a0 with
  | some (L0, g0, n0) => some (.tup [.int .i64 (Vi L0 x1), .int .i64 (Vh L0 x1)], isT R6 n0 g0 && (Wb L0 x1))
  | _ => none
 | _ => none
theorem v5e {S : Specs} (hS : Zk Tryz.prog S) : Zk Tryz.prog (S.with v0l fOsi) := by
 refine z1d hS (by kernel_rfl) fun args v h => ?_
 unfold fOsi at h
 split at h
 ·rename_i a0 x1
  split at h
  ·rename_i L0 g0 n0 e0
   simp only [Option.some.injEq, Prod.mk.injEq, Bool.and_eq_true] at h
   obtain ⟨rfl, ho0, hw⟩ := h
   obtain ⟨N, hN⟩ := v3w L0 x1 hw
   exact ⟨_, _, (.cons (asL_le e0 ho0) (.cons (.refl _) .nil)), rfl, w6c L0 x1 N _ hN, 3, rfl⟩
  ·cases h
 ·cases h
noncomputable def fOcv : List AVal → Option (AVal × Bool)
 | [a0, a1, .int .i64 x2] => match asL R6 a0, asL R6 a1 with
  | some (L0, g0, n0), some (L1, g1, n1) => some (.tup [.int .i64 (y2q L0 L1 x2), .int .i64 (y2p L0 L1 x2)], isT R6 n0 g0 && (isT R6 n1 g1 && (z1q L0 L1 x2)))
  | _, _ => none
 | _ => none
theorem v5h {S : Specs} (hS : Zk Tryz.prog S) : Zk Tryz.prog (S.with nOCov fOcv) := by
 refine z1d hS (by kernel_rfl) fun args v h => ?_
 unfold fOcv at h
 split at h
 ·rename_i a0 a1 x2
  split at h
  ·rename_i L0 g0 n0 L1 g1 n1 e0 e1
   simp only [Option.some.injEq, Prod.mk.injEq, Bool.and_eq_true] at h
   obtain ⟨rfl, ho0, ho1, hw⟩ := h
   obtain ⟨N, hN⟩ := v4a L0 L1 x2 hw
   exact ⟨_, _, (.cons (asL_le e0 ho0) (.cons (asL_le e1 ho1) (.cons (.refl _) .nil))), rfl, w6f L0 L1 x2 N _ hN, 3, rfl⟩
  ·cases h
 ·cases h
noncomputable def fGrt : List AVal → Option (AVal × Bool)
 | [a0] => match asL R6 a0 with
  | some (L0, g0, n0) => some (.bool (v0w L0), isT R6 n0 g0 && (z1u L0))
  | _ => none
 | _ => none
theorem v5l {S : Specs} (hS : Zk Tryz.prog S) : Zk Tryz.prog (S.with x3r fGrt) := by
 refine z1d hS (by kernel_rfl) fun args v h => ?_
 unfold fGrt at h
 split at h
 ·rename_i a0
  split at h
  ·rename_i L0 g0 n0 e0
   simp only [Option.some.injEq, Prod.mk.injEq, Bool.and_eq_true] at h
   obtain ⟨rfl, ho0, hw⟩ := h
   obtain ⟨N, hN⟩ := v4n L0 hw
   exact ⟨_, _, (.cons (asL_le e0 ho0) .nil), rfl, w7a L0 N _ hN, 3, rfl⟩
  ·cases h
 ·cases h
noncomputable def Te : Specs := (((((Td.with v0m fOco).with nORel fOre).with v0l fOsi).with nOCov fOcv).with x3r fGrt)
theorem Uy : Zk Tryz.prog Te := (v5l (v5h (v5e (v5g (v5i z0x)))))
end Go.Am
end
section
set_option linter.unusedVariables false
set_option linter.unusedSimpArgs false
namespace Go.Am
open Go.Proofs
set_option maxRecDepth 1000000
set_option linter.unusedVariables false
set_option linter.unusedSimpArgs false
set_option maxHeartbeats 4000000
inductive aliS where
noncomputable def aliC : aliS → Cfg
 := nofun
noncomputable def x1z : aliS → Xn aliS
 := nofun
noncomputable def z8w : Xn aliS := (bif (z1q (cvT ([(R6.mk 0 0 0 2 2 2)] : List R6)) (cvT ([(R6.mk 2 0 0 3 1 4)] : List R6)) 0) then (bif (Wb (cvT ([(R6.mk 0 0 0 2 2 2)] : List R6)) 0) then (bif ((Vh (cvT ([(R6.mk 0 0 0 2 2 2)] : List R6)) 0) != 0) then (.ret [(.bool false)]) else (bif ((Vi (cvT ([(R6.mk 0 0 0 2 2 2)] : List R6)) 0) != 4) then (.ret [(.bool false)]) else (bif (Wb (cvT ([(R6.mk 0 0 0 2 2 2)] : List R6)) 1) then (bif ((Vh (cvT ([(R6.mk 0 0 0 2 2 2)] : List R6)) 1) != 0) then (.ret [(.bool false)]) else (bif ((Vi (cvT ([(R6.mk 0 0 0 2 2 2)] : List R6)) 1) != 4) then (.ret [(.bool false)]) else (bif (Wb (cvT ([(R6.mk 0 0 0 2 2 2)] : List R6)) 2) then (bif ((Vh (cvT ([(R6.mk 0 0 0 2 2 2)] : List R6)) 2) != 0) then (.ret [(.bool false)]) else (bif ((Vi (cvT ([(R6.mk 0 0 0 2 2 2)] : List R6)) 2) != 4) then (.ret [(.bool false)]) else (bif (Wb (cvT ([(R6.mk 0 0 0 2 2 2)] : List R6)) 3) then (bif ((Vh (cvT ([(R6.mk 0 0 0 2 2 2)] : List R6)) 3) != 0) then (.ret [(.bool false)]) else (bif ((Vi (cvT ([(R6.mk 0 0 0 2 2 2)] : List R6)) 3) != 4) then (.ret [(.bool false)]) else (bif (Wb (cvT ([(R6.mk 0 0 0 2 2 2)] : List R6)) 4) then (bif ((Vh (cvT ([(R6.mk 0 0 0 2 2 2)] : List R6)) 4) != 0) then (.ret [(.bool false)]) else (bif ((Vi (cvT ([(R6.mk 0 0 0 2 2 2)] : List R6)) 4) != 4) then (.ret [(.bool false)]) else (bif (Wb (cvT ([(R6.mk 0 0 0 2 2 2)] : List R6)) 5) then (bif ((Vh (cvT ([(R6.mk 0 0 0 2 2 2)] : List R6)) 5) != 0) then (.ret [(.bool false)]) else (bif ((Vi (cvT ([(R6.mk 0 0 0 2 2 2)] : List R6)) 5) != 4) then (.ret [(.bool false)]) else (bif ((y2p (cvT ([(R6.mk 0 0 0 2 2 2)] : List R6)) (cvT ([(R6.mk 2 0 0 3 1 4)] : List R6)) 0) == 0) then (bif ((y2q (cvT ([(R6.mk 0 0 0 2 2 2)] : List R6)) (cvT ([(R6.mk 2 0 0 3 1 4)] : List R6)) 0) == 2) then (bif (Va (cvT ([(R6.mk 0 0 0 2 2 2)] : List R6)) (cvT ([(R6.mk 2 0 0 3 1 4)] : List R6))) then (bif (Wk (cvT ([(R6.mk 0 0 0 2 2 2)] : List R6)) (cvT ([(R6.mk 2 0 0 3 1 4)] : List R6))) then (bif ((Qk (cvT ([(R6.mk 0 0 0 2 2 2)] : List R6)) (cvT ([(R6.mk 2 0 0 3 1 4)] : List R6))) == 0) then (bif ((Uj (cvT ([(R6.mk 0 0 0 2 2 2)] : List R6)) (cvT ([(R6.mk 2 0 0 3 1 4)] : List R6))) == 2) then (bif ((Ue (cvT ([(R6.mk 0 0 0 2 2 2)] : List R6)) (cvT ([(R6.mk 2 0 0 3 1 4)] : List R6))) == 0) then (bif ((Qn (cvT ([(R6.mk 0 0 0 2 2 2)] : List R6)) (cvT ([(R6.mk 2 0 0 3 1 4)] : List R6))) == 2) then (bif (Va (cvT ([(R6.mk 0 0 0 1 1 1)] : List R6)) (cvT ([(R6.mk 0 0 0 2 2 2)] : List R6))) then (bif (Wk (cvT ([(R6.mk 0 0 0 1 1 1)] : List R6)) (cvT ([(R6.mk 0 0 0 2 2 2)] : List R6))) then (bif ((Qk (cvT ([(R6.mk 0 0 0 1 1 1)] : List R6)) (cvT ([(R6.mk 0 0 0 2 2 2)] : List R6))) == 0) then (bif ((Uj (cvT ([(R6.mk 0 0 0 1 1 1)] : List R6)) (cvT ([(R6.mk 0 0 0 2 2 2)] : List R6))) == 4) then (bif ((Ue (cvT ([(R6.mk 0 0 0 1 1 1)] : List R6)) (cvT ([(R6.mk 0 0 0 2 2 2)] : List R6))) == 0) then (bif ((Qn (cvT ([(R6.mk 0 0 0 1 1 1)] : List R6)) (cvT ([(R6.mk 0 0 0 2 2 2)] : List R6))) == 0) then (bif (Va (cvT ([(R6.mk 0 0 0 2 2 2)] : List R6)) (cvT ([(R6.mk 1 1 1 3 3 3)] : List R6))) then (bif (Wk (cvT ([(R6.mk 0 0 0 2 2 2)] : List R6)) (cvT ([(R6.mk 1 1 1 3 3 3)] : List R6))) then (bif ((Qk (cvT ([(R6.mk 0 0 0 2 2 2)] : List R6)) (cvT ([(R6.mk 1 1 1 3 3 3)] : List R6))) == 0) then (bif ((Uj (cvT ([(R6.mk 0 0 0 2 2 2)] : List R6)) (cvT ([(R6.mk 1 1 1 3 3 3)] : List R6))) == 3) then (bif ((Ue (cvT ([(R6.mk 0 0 0 2 2 2)] : List R6)) (cvT ([(R6.mk 1 1 1 3 3 3)] : List R6))) == 0) then (.ret [(.bool ((Qn (cvT ([(R6.mk 0 0 0 2 2 2)] : List R6)) (cvT ([(R6.mk 1 1 1 3 3 3)] : List R6))) == 0))]) else (.ret [(.bool false)])) else (.ret [(.bool false)])) else (.ret [(.bool false)])) else .stuck) else .stuck) else (.ret [(.bool false)])) else (.ret [(.bool false)])) else (.ret [(.bool false)])) else (.ret [(.bool false)])) else .stuck) else .stuck) else (.ret [(.bool false)])) else (.ret [(.bool false)])) else (.ret [(.bool false)])) else (.ret [(.bool false)])) else .stuck) else .stuck) else (.ret [(.bool false)])) else (.ret [(.bool false)])))) else .stuck))) else .stuck))) else .stuck))) else .stuck))) else .stuck))) else .stuck) else .stuck)
theorem x7o : ∀ s, Xh Tryz.prog (Zy Tryz.prog 27) (aliC) (aliC s) (x1z s)
 := nofun
theorem x2a : Xh Tryz.prog (Zy Tryz.prog 27) (aliC) (Zf Tryz.prog 27 [] true []) (z8w) := (Wd (sl Uy (C' := ⟨⟨51, 0, true⟩, (Wm Tryz.prog 27 [1, 1, 0] 2), (Za Tryz.prog 27 [1, 1, 0] 1), none, (Zy Tryz.prog 10), ⟨Ym [(1, (.dat ([(R6.mk 0 0 0 2 2 2)] : List R6).length (Zz ([(R6.mk 0 0 0 2 2 2)] : List R6)))), (9, (.dat ([(R6.mk 0 0 0 2 2 2)] : List R6).length (Zz ([(R6.mk 0 0 0 2 2 2)] : List R6)))), (10, (.dat ([(R6.mk 2 0 0 3 1 4)] : List R6).length (Zz ([(R6.mk 2 0 0 3 1 4)] : List R6))))], Jy [] 0, 0, [], true⟩, [], .leaf⟩) 51 [] ⟨[], [0, 1], [some [1, 9, 10]], []⟩ ⟨[(1, .frz 1 ([(R6.mk 0 0 0 2 2 2)] : List R6).length (Xf [(ii 0), (ii 0), (ii 0), (ii 2), (ii 2), (ii 2)] 0 6) (Zz ([(R6.mk 0 0 0 2 2 2)] : List R6))), (9, .frz 1 ([(R6.mk 0 0 0 2 2 2)] : List R6).length (Xf [(ii 0), (ii 0), (ii 0), (ii 2), (ii 2), (ii 2)] 0 6) (Zz ([(R6.mk 0 0 0 2 2 2)] : List R6))), (10, .frz 1 ([(R6.mk 2 0 0 3 1 4)] : List R6).length (Xf [(ii 2), (ii 0), (ii 0), (ii 3), (ii 1), (ii 4)] 0 6) (Zz ([(R6.mk 2 0 0 3 1 4)] : List R6)))], [], []⟩ [] (pp (xZ (.dat 1 (Xf [(ii 0), (ii 0), (ii 0), (ii 2), (ii 2), (ii 2)] 0 6)) 1 (Xf [(ii 0), (ii 0), (ii 0), (ii 2), (ii 2), (ii 2)] 0 6)) (pp (xL 1 ([(R6.mk 0 0 0 2 2 2)] : List R6).length) (pp (xS 1 (Xf [(ii 0), (ii 0), (ii 0), (ii 2), (ii 2), (ii 2)] 0 6) (Zz ([(R6.mk 0 0 0 2 2 2)] : List R6))) (pp (xZ (.dat 1 (Xf [(ii 0), (ii 0), (ii 0), (ii 2), (ii 2), (ii 2)] 0 6)) 1 (Xf [(ii 0), (ii 0), (ii 0), (ii 2), (ii 2), (ii 2)] 0 6)) (pp (xL 1 ([(R6.mk 0 0 0 2 2 2)] : List R6).length) (pp (xS 1 (Xf [(ii 0), (ii 0), (ii 0), (ii 2), (ii 2), (ii 2)] 0 6) (Zz ([(R6.mk 0 0 0 2 2 2)] : List R6))) (pp (xZ (.dat 1 (Xf [(ii 2), (ii 0), (ii 0), (ii 3), (ii 1), (ii 4)] 0 6)) 1 (Xf [(ii 2), (ii 0), (ii 0), (ii 3), (ii 1), (ii 4)] 0 6)) (pp (xL 1 ([(R6.mk 2 0 0 3 1 4)] : List R6).length) (pp (xS 1 (Xf [(ii 2), (ii 0), (ii 0), (ii 3), (ii 1), (ii 4)] 0 6) (Zz ([(R6.mk 2 0 0 3 1 4)] : List R6))) nn)))))))))) (lo fun o0_0 => (lo fun o0_1 => (lb (fun k0 => (lr 51 27 [1, 1, 1, 0, 1, 0, 0, 1, 0, 0, 1, 1, 0, 0] 1 10 [(0, (.bool false))] (sl Uy 49 [] ⟨[], [], [some [0]], []⟩ ⟨[], [], []⟩ (trs 4 []) (tt k0 (pp (pp (xI R6 ([(R6.mk 0 0 0 2 2 2)] : List R6).length (Zz ([(R6.mk 0 0 0 2 2 2)] : List R6))) (xw o0_1)) (pp (pp (xI R6 ([(R6.mk 0 0 0 2 2 2)] : List R6).length (Zz ([(R6.mk 0 0 0 2 2 2)] : List R6))) (pp (xI R6 ([(R6.mk 2 0 0 3 1 4)] : List R6).length (Zz ([(R6.mk 2 0 0 3 1 4)] : List R6))) (xw o0_0))) nn)))))) (fun k0 => (lb (fun k1 => (lr 51 27 [1, 1, 1, 0, 1, 0, 0, 1, 0, 0, 1, 1, 0, 0] 1 10 [(0, (.bool false))] (sl Uy 49 [] ⟨[], [], [some [0]], []⟩ ⟨[], [], []⟩ [true, false, false, true] (tt k1 (tt k0 (pp (pp (xI R6 ([(R6.mk 0 0 0 2 2 2)] : List R6).length (Zz ([(R6.mk 0 0 0 2 2 2)] : List R6))) (xw o0_1)) (pp (pp (xI R6 ([(R6.mk 0 0 0 2 2 2)] : List R6).length (Zz ([(R6.mk 0 0 0 2 2 2)] : List R6))) (pp (xI R6 ([(R6.mk 2 0 0 3 1 4)] : List R6).length (Zz ([(R6.mk 2 0 0 3 1 4)] : List R6))) (xw o0_0))) nn))))))) (fun k1 => (lo fun o2_0 => (lb (fun k2 => (lr 51 27 [1, 1, 1, 0, 1, 0, 0, 1, 0, 0, 1, 1, 0, 0] 1 10 [(0, (.bool false))] (sl Uy 88 [] ⟨[], [], [some [0]], []⟩ ⟨[], [], []⟩ [true, false, false, false, true, true, true, true] (tt k2 (pp (pp (xI R6 ([(R6.mk 0 0 0 2 2 2)] : List R6).length (Zz ([(R6.mk 0 0 0 2 2 2)] : List R6))) (xw o2_0)) (tt k1 (tt k0 (pp (pp (xI R6 ([(R6.mk 0 0 0 2 2 2)] : List R6).length (Zz ([(R6.mk 0 0 0 2 2 2)] : List R6))) (xw o0_1)) (pp (pp (xI R6 ([(R6.mk 0 0 0 2 2 2)] : List R6).length (Zz ([(R6.mk 0 0 0 2 2 2)] : List R6))) (pp (xI R6 ([(R6.mk 2 0 0 3 1 4)] : List R6).length (Zz ([(R6.mk 2 0 0 3 1 4)] : List R6))) (xw o0_0))) nn))))))))) (fun k2 => (lb (fun k3 => (lr 51 27 [1, 1, 1, 0, 1, 0, 0, 1, 0, 0, 1, 1, 0, 0] 1 10 [(0, (.bool false))] (sl Uy 88 [] ⟨[], [], [some [0]], []⟩ ⟨[], [], []⟩ [true, false, false, false, true, false, false, true] (tt k3 (tt k2 (pp (pp (xI R6 ([(R6.mk 0 0 0 2 2 2)] : List R6).length (Zz ([(R6.mk 0 0 0 2 2 2)] : List R6))) (xw o2_0)) (tt k1 (tt k0 (pp (pp (xI R6 ([(R6.mk 0 0 0 2 2 2)] : List R6).length (Zz ([(R6.mk 0 0 0 2 2 2)] : List R6))) (xw o0_1)) (pp (pp (xI R6 ([(R6.mk 0 0 0 2 2 2)] : List R6).length (Zz ([(R6.mk 0 0 0 2 2 2)] : List R6))) (pp (xI R6 ([(R6.mk 2 0 0 3 1 4)] : List R6).length (Zz ([(R6.mk 2 0 0 3 1 4)] : List R6))) (xw o0_0))) nn)))))))))) (fun k3 => (lo fun o4_0 => (lb (fun k4 => (lr 51 27 [1, 1, 1, 0, 1, 0, 0, 1, 0, 0, 1, 1, 0, 0] 1 10 [(0, (.bool false))] (sl Uy 127 [] ⟨[], [], [some [0]], []⟩ ⟨[], [], []⟩ [true, false, false, false, true, false, false, false, true, true, true, true] (tt k4 (pp (pp (xI R6 ([(R6.mk 0 0 0 2 2 2)] : List R6).length (Zz ([(R6.mk 0 0 0 2 2 2)] : List R6))) (xw o4_0)) (tt k3 (tt k2 (pp (pp (xI R6 ([(R6.mk 0 0 0 2 2 2)] : List R6).length (Zz ([(R6.mk 0 0 0 2 2 2)] : List R6))) (xw o2_0)) (tt k1 (tt k0 (pp (pp (xI R6 ([(R6.mk 0 0 0 2 2 2)] : List R6).length (Zz ([(R6.mk 0 0 0 2 2 2)] : List R6))) (xw o0_1)) (pp (pp (xI R6 ([(R6.mk 0 0 0 2 2 2)] : List R6).length (Zz ([(R6.mk 0 0 0 2 2 2)] : List R6))) (pp (xI R6 ([(R6.mk 2 0 0 3 1 4)] : List R6).length (Zz ([(R6.mk 2 0 0 3 1 4)] : List R6))) (xw o0_0))) nn)))))))))))) (fun k4 => (lb (fun k5 => (lr 51 27 [1, 1, 1, 0, 1, 0, 0, 1, 0, 0, 1, 1, 0, 0] 1 10 [(0, (.bool false))] (sl Uy 127 [] ⟨[], [], [some [0]], []⟩ ⟨[], [], []⟩ [true, false, false, false, true, false, false, false, true, false, false, true] (tt k5 (tt k4 (pp (pp (xI R6 ([(R6.mk 0 0 0 2 2 2)] : List R6).length (Zz ([(R6.mk 0 0 0 2 2 2)] : List R6))) (xw o4_0)) (tt k3 (tt k2 (pp (pp (xI R6 ([(R6.mk 0 0 0 2 2 2)] : List R6).length (Zz ([(R6.mk 0 0 0 2 2 2)] : List R6))) (xw o2_0)) (tt k1 (tt k0 (pp (pp (xI R6 ([(R6.mk 0 0 0 2 2 2)] : List R6).length (Zz ([(R6.mk 0 0 0 2 2 2)] : List R6))) (xw o0_1)) (pp (pp (xI R6 ([(R6.mk 0 0 0 2 2 2)] : List R6).length (Zz ([(R6.mk 0 0 0 2 2 2)] : List R6))) (pp (xI R6 ([(R6.mk 2 0 0 3 1 4)] : List R6).length (Zz ([(R6.mk 2 0 0 3 1 4)] : List R6))) (xw o0_0))) nn))))))))))))) (fun k5 => (lo fun o6_0 => (lb (fun k6 => (lr 51 27 [1, 1, 1, 0, 1, 0, 0, 1, 0, 0, 1, 1, 0, 0] 1 10 [(0, (.bool false))] (sl Uy 166 [] ⟨[], [], [some [0]], []⟩ ⟨[], [], []⟩ [true, false, false, false, true, false, false, false, true, false, false, false, true, true, true, true] (tt k6 (pp (pp (xI R6 ([(R6.mk 0 0 0 2 2 2)] : List R6).length (Zz ([(R6.mk 0 0 0 2 2 2)] : List R6))) (xw o6_0)) (tt k5 (tt k4 (pp (pp (xI R6 ([(R6.mk 0 0 0 2 2 2)] : List R6).length (Zz ([(R6.mk 0 0 0 2 2 2)] : List R6))) (xw o4_0)) (tt k3 (tt k2 (pp (pp (xI R6 ([(R6.mk 0 0 0 2 2 2)] : List R6).length (Zz ([(R6.mk 0 0 0 2 2 2)] : List R6))) (xw o2_0)) (tt k1 (tt k0 (pp (pp (xI R6 ([(R6.mk 0 0 0 2 2 2)] : List R6).length (Zz ([(R6.mk 0 0 0 2 2 2)] : List R6))) (xw o0_1)) (pp (pp (xI R6 ([(R6.mk 0 0 0 2 2 2)] : List R6).length (Zz ([(R6.mk 0 0 0 2 2 2)] : List R6))) (pp (xI R6 ([(R6.mk 2 0 0 3 1 4)] : List R6).length (Zz ([(R6.mk 2 0 0 3 1 4)] : List R6))) (xw o0_0))) nn))))))))))))))) (fun k6 => (lb (fun k7 => (lr 51 27 [1, 1, 1, 0, 1, 0, 0, 1, 0, 0, 1, 1, 0, 0] 1 10 [(0, (.bool false))] (sl Uy 166 [] ⟨[], [], [some [0]], []⟩ ⟨[], [], []⟩ [true, false, false, false, true, false, false, false, true, false, false, false, true, false, false, true] (tt k7 (tt k6 (pp (pp (xI R6 ([(R6.mk 0 0 0 2 2 2)] : List R6).length (Zz ([(R6.mk 0 0 0 2 2 2)] : List R6))) (xw o6_0)) (tt k5 (tt k4 (pp (pp (xI R6 ([(R6.mk 0 0 0 2 2 2)] : List R6).length (Zz ([(R6.mk 0 0 0 2 2 2)] : List R6))) (xw o4_0)) (tt k3 (tt k2 (pp (pp (xI R6 ([(R6.mk 0 0 0 2 2 2)] : List R6).length (Zz ([(R6.mk 0 0 0 2 2 2)] : List R6))) (xw o2_0)) (tt k1 (tt k0 (pp (pp (xI R6 ([(R6.mk 0 0 0 2 2 2)] : List R6).length (Zz ([(R6.mk 0 0 0 2 2 2)] : List R6))) (xw o0_1)) (pp (pp (xI R6 ([(R6.mk 0 0 0 2 2 2)] : List R6).length (Zz ([(R6.mk 0 0 0 2 2 2)] : List R6))) (pp (xI R6 ([(R6.mk 2 0 0 3 1 4)] : List R6).length (Zz ([(R6.mk 2 0 0 3 1 4)] : List R6))) (xw o0_0))) nn)))))))))))))))) (fun k7 => (lo fun o8_0 => (lb (fun k8 => (lr 51 27 [1, 1, 1, 0, 1, 0, 0, 1, 0, 0, 1, 1, 0, 0] 1 10 [(0, (.bool false))] (sl Uy 205 [] ⟨[], [], [some [0]], []⟩ ⟨[], [], []⟩ [true, false, false, false, true, false, false, false, true, false, false, false, true, false, false, false, true, true, true, true] (tt k8 (pp (pp (xI R6 ([(R6.mk 0 0 0 2 2 2)] : List R6).length (Zz ([(R6.mk 0 0 0 2 2 2)] : List R6))) (xw o8_0)) (tt k7 (tt k6 (pp (pp (xI R6 ([(R6.mk 0 0 0 2 2 2)] : List R6).length (Zz ([(R6.mk 0 0 0 2 2 2)] : List R6))) (xw o6_0)) (tt k5 (tt k4 (pp (pp (xI R6 ([(R6.mk 0 0 0 2 2 2)] : List R6).length (Zz ([(R6.mk 0 0 0 2 2 2)] : List R6))) (xw o4_0)) (tt k3 (tt k2 (pp (pp (xI R6 ([(R6.mk 0 0 0 2 2 2)] : List R6).length (Zz ([(R6.mk 0 0 0 2 2 2)] : List R6))) (xw o2_0)) (tt k1 (tt k0 (pp (pp (xI R6 ([(R6.mk 0 0 0 2 2 2)] : List R6).length (Zz ([(R6.mk 0 0 0 2 2 2)] : List R6))) (xw o0_1)) (pp (pp (xI R6 ([(R6.mk 0 0 0 2 2 2)] : List R6).length (Zz ([(R6.mk 0 0 0 2 2 2)] : List R6))) (pp (xI R6 ([(R6.mk 2 0 0 3 1 4)] : List R6).length (Zz ([(R6.mk 2 0 0 3 1 4)] : List R6))) (xw o0_0))) nn)))))))))))))))))) (fun k8 => (lb (fun k9 => (lr 51 27 [1, 1, 1, 0, 1, 0, 0, 1, 0, 0, 1, 1, 0, 0] 1 10 [(0, (.bool false))] (sl Uy 205 [] ⟨[], [], [some [0]], []⟩ ⟨[], [], []⟩ [true, false, false, false, true, false, false, false, true, false, false, false, true, false, false, false, true, false, false, true] (tt k9 (tt k8 (pp (pp (xI R6 ([(R6.mk 0 0 0 2 2 2)] : List R6).length (Zz ([(R6.mk 0 0 0 2 2 2)] : List R6))) (xw o8_0)) (tt k7 (tt k6 (pp (pp (xI R6 ([(R6.mk 0 0 0 2 2 2)] : List R6).length (Zz ([(R6.mk 0 0 0 2 2 2)] : List R6))) (xw o6_0)) (tt k5 (tt k4 (pp (pp (xI R6 ([(R6.mk 0 0 0 2 2 2)] : List R6).length (Zz ([(R6.mk 0 0 0 2 2 2)] : List R6))) (xw o4_0)) (tt k3 (tt k2 (pp (pp (xI R6 ([(R6.mk 0 0 0 2 2 2)] : List R6).length (Zz ([(R6.mk 0 0 0 2 2 2)] : List R6))) (xw o2_0)) (tt k1 (tt k0 (pp (pp (xI R6 ([(R6.mk 0 0 0 2 2 2)] : List R6).length (Zz ([(R6.mk 0 0 0 2 2 2)] : List R6))) (xw o0_1)) (pp (pp (xI R6 ([(R6.mk 0 0 0 2 2 2)] : List R6).length (Zz ([(R6.mk 0 0 0 2 2 2)] : List R6))) (pp (xI R6 ([(R6.mk 2 0 0 3 1 4)] : List R6).length (Zz ([(R6.mk 2 0 0 3 1 4)] : List R6))) (xw o0_0))) nn))))))))))))))))))) (fun k9 => (lo fun o10_0 => (lb (fun k10 => (lr 51 27 [1, 1, 1, 0, 1, 0, 0, 1, 0, 0, 1, 1, 0, 0] 1 10 [(0, (.bool false))] (sl Uy 244 [] ⟨[], [], [some [0]], []⟩ ⟨[], [], []⟩ [true, false, false, false, true, false, false, false, true, false, false, false, true, false, false, false, true, false, false, false, true, true, true, true] (tt k10 (pp (pp (xI R6 ([(R6.mk 0 0 0 2 2 2)] : List R6).length (Zz ([(R6.mk 0 0 0 2 2 2)] : List R6))) (xw o10_0)) (tt k9 (tt k8 (pp (pp (xI R6 ([(R6.mk 0 0 0 2 2 2)] : List R6).length (Zz ([(R6.mk 0 0 0 2 2 2)] : List R6))) (xw o8_0)) (tt k7 (tt k6 (pp (pp (xI R6 ([(R6.mk 0 0 0 2 2 2)] : List R6).length (Zz ([(R6.mk 0 0 0 2 2 2)] : List R6))) (xw o6_0)) (tt k5 (tt k4 (pp (pp (xI R6 ([(R6.mk 0 0 0 2 2 2)] : List R6).length (Zz ([(R6.mk 0 0 0 2 2 2)] : List R6))) (xw o4_0)) (tt k3 (tt k2 (pp (pp (xI R6 ([(R6.mk 0 0 0 2 2 2)] : List R6).length (Zz ([(R6.mk 0 0 0 2 2 2)] : List R6))) (xw o2_0)) (tt k1 (tt k0 (pp (pp (xI R6 ([(R6.mk 0 0 0 2 2 2)] : List R6).length (Zz ([(R6.mk 0 0 0 2 2 2)] : List R6))) (xw o0_1)) (pp (pp (xI R6 ([(R6.mk 0 0 0 2 2 2)] : List R6).length (Zz ([(R6.mk 0 0 0 2 2 2)] : List R6))) (pp (xI R6 ([(R6.mk 2 0 0 3 1 4)] : List R6).length (Zz ([(R6.mk 2 0 0 3 1 4)] : List R6))) (xw o0_0))) nn))))))))))))))))))))) (fun k10 => (lb (fun k11 => (lr 51 27 [1, 1, 1, 0, 1, 0, 0, 1, 0, 0, 1, 1, 0, 0] 1 10 [(0, (.bool false))] (sl Uy 244 [] ⟨[], [], [some [0]], []⟩ ⟨[], [], []⟩ [true, false, false, false, true, false, false, false, true, false, false, false, true, false, false, false, true, false, false, false, true, false, false, true] (tt k11 (tt k10 (pp (pp (xI R6 ([(R6.mk 0 0 0 2 2 2)] : List R6).length (Zz ([(R6.mk 0 0 0 2 2 2)] : List R6))) (xw o10_0)) (tt k9 (tt k8 (pp (pp (xI R6 ([(R6.mk 0 0 0 2 2 2)] : List R6).length (Zz ([(R6.mk 0 0 0 2 2 2)] : List R6))) (xw o8_0)) (tt k7 (tt k6 (pp (pp (xI R6 ([(R6.mk 0 0 0 2 2 2)] : List R6).length (Zz ([(R6.mk 0 0 0 2 2 2)] : List R6))) (xw o6_0)) (tt k5 (tt k4 (pp (pp (xI R6 ([(R6.mk 0 0 0 2 2 2)] : List R6).length (Zz ([(R6.mk 0 0 0 2 2 2)] : List R6))) (xw o4_0)) (tt k3 (tt k2 (pp (pp (xI R6 ([(R6.mk 0 0 0 2 2 2)] : List R6).length (Zz ([(R6.mk 0 0 0 2 2 2)] : List R6))) (xw o2_0)) (tt k1 (tt k0 (pp (pp (xI R6 ([(R6.mk 0 0 0 2 2 2)] : List R6).length (Zz ([(R6.mk 0 0 0 2 2 2)] : List R6))) (xw o0_1)) (pp (pp (xI R6 ([(R6.mk 0 0 0 2 2 2)] : List R6).length (Zz ([(R6.mk 0 0 0 2 2 2)] : List R6))) (pp (xI R6 ([(R6.mk 2 0 0 3 1 4)] : List R6).length (Zz ([(R6.mk 2 0 0 3 1 4)] : List R6))) (xw o0_0))) nn)))))))))))))))))))))) (fun k11 => (lb (fun k12 => (lb (fun k13 => (Wd (sl Uy (C' := ⟨⟨41, 0, true⟩, (Wm Tryz.prog 77 [1, 0] 2), (Za Tryz.prog 77 [1, 0] 1), none, (Zy Tryz.prog 71), ⟨Ym [(0, (.dat ([(R6.mk 0 0 0 2 2 2)] : List R6).length (Zz ([(R6.mk 0 0 0 2 2 2)] : List R6)))), (1, (.dat ([(R6.mk 2 0 0 3 1 4)] : List R6).length (Zz ([(R6.mk 2 0 0 3 1 4)] : List R6)))), (2, (.int .u8 2)), (3, (ii 2)), (14, (.dat ([(R6.mk 0 0 0 2 2 2)] : List R6).length (Zz ([(R6.mk 0 0 0 2 2 2)] : List R6)))), (15, (.dat ([(R6.mk 2 0 0 3 1 4)] : List R6).length (Zz ([(R6.mk 2 0 0 3 1 4)] : List R6))))], Jy [] 0, 0, [], true⟩, [⟨⟨51, 0, true⟩, (Wm Tryz.prog 27 [1, 1, 1, 1, 0] 9), (Za Tryz.prog 27 [1, 1, 1, 1, 0] 1), none, (Zy Tryz.prog 10), Ym [(1, (.dat ([(R6.mk 0 0 0 2 2 2)] : List R6).length (Zz ([(R6.mk 0 0 0 2 2 2)] : List R6)))), (36, (.bool true)), (37, (.dat ([(R6.mk 0 0 0 2 2 2)] : List R6).length (Zz ([(R6.mk 0 0 0 2 2 2)] : List R6)))), (38, (.dat ([(R6.mk 2 0 0 3 1 4)] : List R6).length (Zz ([(R6.mk 2 0 0 3 1 4)] : List R6))))]⟩], .leaf⟩) 295 [] ⟨[], [0], [some [0, 1, 2, 3, 14, 15], some [1, 36, 37, 38]], []⟩ ⟨[(1, .frz 1 ([(R6.mk 2 0 0 3 1 4)] : List R6).length (Xf [(ii 2), (ii 0), (ii 0), (ii 3), (ii 1), (ii 4)] 0 6) (Zz ([(R6.mk 2 0 0 3 1 4)] : List R6))), (15, .frz 1 ([(R6.mk 2 0 0 3 1 4)] : List R6).length (Xf [(ii 2), (ii 0), (ii 0), (ii 3), (ii 1), (ii 4)] 0 6) (Zz ([(R6.mk 2 0 0 3 1 4)] : List R6)))], [], [[(38, .frz 1 ([(R6.mk 2 0 0 3 1 4)] : List R6).length (Xf [(ii 2), (ii 0), (ii 0), (ii 3), (ii 1), (ii 4)] 0 6) (Zz ([(R6.mk 2 0 0 3 1 4)] : List R6)))]]⟩ [true, false, false, false, true, false, false, false, true, false, false, false, true, false, false, false, true, false, false, false, true, false, false, false, false, true, true, true, true, true] (pp (xZ (.dat 1 (Xf [(ii 2), (ii 0), (ii 0), (ii 3), (ii 1), (ii 4)] 0 6)) 1 (Xf [(ii 2), (ii 0), (ii 0), (ii 3), (ii 1), (ii 4)] 0 6)) (pp (xL 1 ([(R6.mk 2 0 0 3 1 4)] : List R6).length) (pp (xS 1 (Xf [(ii 2), (ii 0), (ii 0), (ii 3), (ii 1), (ii 4)] 0 6) (Zz ([(R6.mk 2 0 0 3 1 4)] : List R6))) (pp (xZ (.dat 1 (Xf [(ii 2), (ii 0), (ii 0), (ii 3), (ii 1), (ii 4)] 0 6)) 1 (Xf [(ii 2), (ii 0), (ii 0), (ii 3), (ii 1), (ii 4)] 0 6)) (pp (xL 1 ([(R6.mk 2 0 0 3 1 4)] : List R6).length) (pp (xS 1 (Xf [(ii 2), (ii 0), (ii 0), (ii 3), (ii 1), (ii 4)] 0 6) (Zz ([(R6.mk 2 0 0 3 1 4)] : List R6))) (pp (xZ (.dat 1 (Xf [(ii 2), (ii 0), (ii 0), (ii 3), (ii 1), (ii 4)] 0 6)) 1 (Xf [(ii 2), (ii 0), (ii 0), (ii 3), (ii 1), (ii 4)] 0 6)) (pp (xL 1 ([(R6.mk 2 0 0 3 1 4)] : List R6).length) (pp (xS 1 (Xf [(ii 2), (ii 0), (ii 0), (ii 3), (ii 1), (ii 4)] 0 6) (Zz ([(R6.mk 2 0 0 3 1 4)] : List R6))) (tt k13 (tt k12 (tt k11 (tt k10 (pp (pp (xI R6 ([(R6.mk 0 0 0 2 2 2)] : List R6).length (Zz ([(R6.mk 0 0 0 2 2 2)] : List R6))) (xw o10_0)) (tt k9 (tt k8 (pp (pp (xI R6 ([(R6.mk 0 0 0 2 2 2)] : List R6).length (Zz ([(R6.mk 0 0 0 2 2 2)] : List R6))) (xw o8_0)) (tt k7 (tt k6 (pp (pp (xI R6 ([(R6.mk 0 0 0 2 2 2)] : List R6).length (Zz ([(R6.mk 0 0 0 2 2 2)] : List R6))) (xw o6_0)) (tt k5 (tt k4 (pp (pp (xI R6 ([(R6.mk 0 0 0 2 2 2)] : List R6).length (Zz ([(R6.mk 0 0 0 2 2 2)] : List R6))) (xw o4_0)) (tt k3 (tt k2 (pp (pp (xI R6 ([(R6.mk 0 0 0 2 2 2)] : List R6).length (Zz ([(R6.mk 0 0 0 2 2 2)] : List R6))) (xw o2_0)) (tt k1 (tt k0 (pp (pp (xI R6 ([(R6.mk 0 0 0 2 2 2)] : List R6).length (Zz ([(R6.mk 0 0 0 2 2 2)] : List R6))) (xw o0_1)) (pp (pp (xI R6 ([(R6.mk 0 0 0 2 2 2)] : List R6).length (Zz ([(R6.mk 0 0 0 2 2 2)] : List R6))) (pp (xI R6 ([(R6.mk 2 0 0 3 1 4)] : List R6).length (Zz ([(R6.mk 2 0 0 3 1 4)] : List R6))) (xw o0_0))) nn))))))))))))))))))))))))))))))) (lo fun o14_0 => (lo fun o14_1 => (lb (fun k14 => (lb (fun k15 => (lb (fun k16 => (lb (fun k17 => (Wd (sl Uy (C' := ⟨⟨41, 0, true⟩, (Wm Tryz.prog 77 [1, 0] 2), (Za Tryz.prog 77 [1, 0] 1), none, (Zy Tryz.prog 71), ⟨Ym [(0, (.dat ([(R6.mk 0 0 0 1 1 1)] : List R6).length (Zz ([(R6.mk 0 0 0 1 1 1)] : List R6)))), (1, (.dat ([(R6.mk 0 0 0 2 2 2)] : List R6).length (Zz ([(R6.mk 0 0 0 2 2 2)] : List R6)))), (2, (.int .u8 4)), (3, (ii 0)), (14, (.dat ([(R6.mk 0 0 0 1 1 1)] : List R6).length (Zz ([(R6.mk 0 0 0 1 1 1)] : List R6)))), (15, (.dat ([(R6.mk 0 0 0 2 2 2)] : List R6).length (Zz ([(R6.mk 0 0 0 2 2 2)] : List R6))))], Jy [] 0, 0, [], true⟩, [⟨⟨51, 0, true⟩, (Wm Tryz.prog 27 [1, 1, 1, 1, 0] 14), (Za Tryz.prog 27 [1, 1, 1, 1, 0] 1), none, (Zy Tryz.prog 10), Ym [(1, (.dat ([(R6.mk 0 0 0 2 2 2)] : List R6).length (Zz ([(R6.mk 0 0 0 2 2 2)] : List R6)))), (41, (.bool true)), (42, (.dat ([(R6.mk 0 0 0 1 1 1)] : List R6).length (Zz ([(R6.mk 0 0 0 1 1 1)] : List R6)))), (43, (.dat ([(R6.mk 0 0 0 2 2 2)] : List R6).length (Zz ([(R6.mk 0 0 0 2 2 2)] : List R6))))]⟩], .leaf⟩) 71 [] ⟨[], [0], [some [0, 1, 2, 3, 14, 15], some [1, 41, 42, 43]], []⟩ ⟨[(0, .frz 1 ([(R6.mk 0 0 0 1 1 1)] : List R6).length (Xf [(ii 0), (ii 0), (ii 0), (ii 1), (ii 1), (ii 1)] 0 6) (Zz ([(R6.mk 0 0 0 1 1 1)] : List R6))), (14, .frz 1 ([(R6.mk 0 0 0 1 1 1)] : List R6).length (Xf [(ii 0), (ii 0), (ii 0), (ii 1), (ii 1), (ii 1)] 0 6) (Zz ([(R6.mk 0 0 0 1 1 1)] : List R6)))], [], [[(42, .frz 1 ([(R6.mk 0 0 0 1 1 1)] : List R6).length (Xf [(ii 0), (ii 0), (ii 0), (ii 1), (ii 1), (ii 1)] 0 6) (Zz ([(R6.mk 0 0 0 1 1 1)] : List R6)))]]⟩ (trs 11 []) (pp (xZ (.dat 1 (Xf [(ii 0), (ii 0), (ii 0), (ii 1), (ii 1), (ii 1)] 0 6)) 1 (Xf [(ii 0), (ii 0), (ii 0), (ii 1), (ii 1), (ii 1)] 0 6)) (pp (xL 1 ([(R6.mk 0 0 0 1 1 1)] : List R6).length) (pp (xS 1 (Xf [(ii 0), (ii 0), (ii 0), (ii 1), (ii 1), (ii 1)] 0 6) (Zz ([(R6.mk 0 0 0 1 1 1)] : List R6))) (pp (xZ (.dat 1 (Xf [(ii 0), (ii 0), (ii 0), (ii 1), (ii 1), (ii 1)] 0 6)) 1 (Xf [(ii 0), (ii 0), (ii 0), (ii 1), (ii 1), (ii 1)] 0 6)) (pp (xL 1 ([(R6.mk 0 0 0 1 1 1)] : List R6).length) (pp (xS 1 (Xf [(ii 0), (ii 0), (ii 0), (ii 1), (ii 1), (ii 1)] 0 6) (Zz ([(R6.mk 0 0 0 1 1 1)] : List R6))) (pp (xZ (.dat 1 (Xf [(ii 0), (ii 0), (ii 0), (ii 1), (ii 1), (ii 1)] 0 6)) 1 (Xf [(ii 0), (ii 0), (ii 0), (ii 1), (ii 1), (ii 1)] 0 6)) (pp (xL 1 ([(R6.mk 0 0 0 1 1 1)] : List R6).length) (pp (xS 1 (Xf [(ii 0), (ii 0), (ii 0), (ii 1), (ii 1), (ii 1)] 0 6) (Zz ([(R6.mk 0 0 0 1 1 1)] : List R6))) (tt k17 (tt k16 (tt k15 (tt k14 (pp (pp (xI R6 ([(R6.mk 0 0 0 2 2 2)] : List R6).length (Zz ([(R6.mk 0 0 0 2 2 2)] : List R6))) (pp (xI R6 ([(R6.mk 2 0 0 3 1 4)] : List R6).length (Zz ([(R6.mk 2 0 0 3 1 4)] : List R6))) (xw o14_1))) (pp (pp (xI R6 ([(R6.mk 0 0 0 2 2 2)] : List R6).length (Zz ([(R6.mk 0 0 0 2 2 2)] : List R6))) (pp (xI R6 ([(R6.mk 2 0 0 3 1 4)] : List R6).length (Zz ([(R6.mk 2 0 0 3 1 4)] : List R6))) (xw o14_0))) nn)))))))))))))))) (lo fun o18_0 => (lo fun o18_1 => (lb (fun k18 => (lb (fun k19 => (lb (fun k20 => (lb (fun k21 => (Wd (sl Uy (C' := ⟨⟨41, 0, true⟩, (Wm Tryz.prog 77 [1, 0] 2), (Za Tryz.prog 77 [1, 0] 1), none, (Zy Tryz.prog 71), ⟨Ym [(0, (.dat ([(R6.mk 0 0 0 2 2 2)] : List R6).length (Zz ([(R6.mk 0 0 0 2 2 2)] : List R6)))), (1, (.dat ([(R6.mk 1 1 1 3 3 3)] : List R6).length (Zz ([(R6.mk 1 1 1 3 3 3)] : List R6)))), (2, (.int .u8 3)), (3, (ii 0)), (14, (.dat ([(R6.mk 0 0 0 2 2 2)] : List R6).length (Zz ([(R6.mk 0 0 0 2 2 2)] : List R6)))), (15, (.dat ([(R6.mk 1 1 1 3 3 3)] : List R6).length (Zz ([(R6.mk 1 1 1 3 3 3)] : List R6))))], Jy [] 0, 0, [], true⟩, [⟨⟨51, 0, true⟩, (Wm Tryz.prog 27 [1, 1, 1, 1, 0] 19), (Za Tryz.prog 27 [1, 1, 1, 1, 0] 1), none, (Zy Tryz.prog 10), Ym [(46, (.bool true)), (47, (.dat ([(R6.mk 0 0 0 2 2 2)] : List R6).length (Zz ([(R6.mk 0 0 0 2 2 2)] : List R6)))), (48, (.dat ([(R6.mk 1 1 1 3 3 3)] : List R6).length (Zz ([(R6.mk 1 1 1 3 3 3)] : List R6))))]⟩], .leaf⟩) 71 [] ⟨[], [0], [some [0, 1, 2, 3, 14, 15], some [46, 47, 48]], []⟩ ⟨[(1, .frz 1 ([(R6.mk 1 1 1 3 3 3)] : List R6).length (Xf [(ii 1), (ii 1), (ii 1), (ii 3), (ii 3), (ii 3)] 0 6) (Zz ([(R6.mk 1 1 1 3 3 3)] : List R6))), (15, .frz 1 ([(R6.mk 1 1 1 3 3 3)] : List R6).length (Xf [(ii 1), (ii 1), (ii 1), (ii 3), (ii 3), (ii 3)] 0 6) (Zz ([(R6.mk 1 1 1 3 3 3)] : List R6)))], [], [[(48, .frz 1 ([(R6.mk 1 1 1 3 3 3)] : List R6).length (Xf [(ii 1), (ii 1), (ii 1), (ii 3), (ii 3), (ii 3)] 0 6) (Zz ([(R6.mk 1 1 1 3 3 3)] : List R6)))]]⟩ (trs 11 []) (pp (xZ (.dat 1 (Xf [(ii 1), (ii 1), (ii 1), (ii 3), (ii 3), (ii 3)] 0 6)) 1 (Xf [(ii 1), (ii 1), (ii 1), (ii 3), (ii 3), (ii 3)] 0 6)) (pp (xL 1 ([(R6.mk 1 1 1 3 3 3)] : List R6).length) (pp (xS 1 (Xf [(ii 1), (ii 1), (ii 1), (ii 3), (ii 3), (ii 3)] 0 6) (Zz ([(R6.mk 1 1 1 3 3 3)] : List R6))) (pp (xZ (.dat 1 (Xf [(ii 1), (ii 1), (ii 1), (ii 3), (ii 3), (ii 3)] 0 6)) 1 (Xf [(ii 1), (ii 1), (ii 1), (ii 3), (ii 3), (ii 3)] 0 6)) (pp (xL 1 ([(R6.mk 1 1 1 3 3 3)] : List R6).length) (pp (xS 1 (Xf [(ii 1), (ii 1), (ii 1), (ii 3), (ii 3), (ii 3)] 0 6) (Zz ([(R6.mk 1 1 1 3 3 3)] : List R6))) (pp (xZ (.dat 1 (Xf [(ii 1), (ii 1), (ii 1), (ii 3), (ii 3), (ii 3)] 0 6)) 1 (Xf [(ii 1), (ii 1), (ii 1), (ii 3), (ii 3), (ii 3)] 0 6)) (pp (xL 1 ([(R6.mk 1 1 1 3 3 3)] : List R6).length) (pp (xS 1 (Xf [(ii 1), (ii 1), (ii 1), (ii 3), (ii 3), (ii 3)] 0 6) (Zz ([(R6.mk 1 1 1 3 3 3)] : List R6))) (tt k21 (tt k20 (tt k19 (tt k18 (pp (pp (xI R6 ([(R6.mk 0 0 0 1 1 1)] : List R6).length (Zz ([(R6.mk 0 0 0 1 1 1)] : List R6))) (pp (xI R6 ([(R6.mk 0 0 0 2 2 2)] : List R6).length (Zz ([(R6.mk 0 0 0 2 2 2)] : List R6))) (xw o18_1))) (pp (pp (xI R6 ([(R6.mk 0 0 0 1 1 1)] : List R6).length (Zz ([(R6.mk 0 0 0 1 1 1)] : List R6))) (pp (xI R6 ([(R6.mk 0 0 0 2 2 2)] : List R6).length (Zz ([(R6.mk 0 0 0 2 2 2)] : List R6))) (xw o18_0))) nn)))))))))))))))) (lo fun o22_0 => (lo fun o22_1 => (lb (fun k22 => (lb (fun k23 => (lb (fun k24 => (lr 51 3 [1, 1, 1, 1, 1, 1, 1, 0] 1 10 [(0, (.bool ((Qn (cvT ([(R6.mk 0 0 0 2 2 2)] : List R6)) (cvT ([(R6.mk 1 1 1 3 3 3)] : List R6))) == 0)))] (sl Uy 42 [] ⟨[], [], [some [0]], []⟩ ⟨[], [], []⟩ (trs 8 []) (tt k24 (tt k23 (tt k22 (pp (pp (xI R6 ([(R6.mk 0 0 0 2 2 2)] : List R6).length (Zz ([(R6.mk 0 0 0 2 2 2)] : List R6))) (pp (xI R6 ([(R6.mk 1 1 1 3 3 3)] : List R6).length (Zz ([(R6.mk 1 1 1 3 3 3)] : List R6))) (xw o22_1))) (pp (pp (xI R6 ([(R6.mk 0 0 0 2 2 2)] : List R6).length (Zz ([(R6.mk 0 0 0 2 2 2)] : List R6))) (pp (xI R6 ([(R6.mk 1 1 1 3 3 3)] : List R6).length (Zz ([(R6.mk 1 1 1 3 3 3)] : List R6))) (xw o22_0))) nn)))))))) (fun k24 => (lr 51 3 [1, 1, 1, 1, 1, 1, 1, 0] 1 10 [(0, (.bool false))] (sl Uy 42 [] ⟨[], [], [some [0]], []⟩ ⟨[], [], []⟩ (trs 5 [false, false, false]) (tt k24 (tt k23 (tt k22 (pp (pp (xI R6 ([(R6.mk 0 0 0 2 2 2)] : List R6).length (Zz ([(R6.mk 0 0 0 2 2 2)] : List R6))) (pp (xI R6 ([(R6.mk 1 1 1 3 3 3)] : List R6).length (Zz ([(R6.mk 1 1 1 3 3 3)] : List R6))) (xw o22_1))) (pp (pp (xI R6 ([(R6.mk 0 0 0 2 2 2)] : List R6).length (Zz ([(R6.mk 0 0 0 2 2 2)] : List R6))) (pp (xI R6 ([(R6.mk 1 1 1 3 3 3)] : List R6).length (Zz ([(R6.mk 1 1 1 3 3 3)] : List R6))) (xw o22_0))) nn)))))))))) (fun k23 => (lr 51 3 [1, 1, 1, 1, 1, 1, 1, 0] 1 10 [(0, (.bool false))] (sl Uy 42 [] ⟨[], [], [some [0]], []⟩ ⟨[], [], []⟩ (trs 3 [false, false, false, false, false]) (tt k23 (tt k22 (pp (pp (xI R6 ([(R6.mk 0 0 0 2 2 2)] : List R6).length (Zz ([(R6.mk 0 0 0 2 2 2)] : List R6))) (pp (xI R6 ([(R6.mk 1 1 1 3 3 3)] : List R6).length (Zz ([(R6.mk 1 1 1 3 3 3)] : List R6))) (xw o22_1))) (pp (pp (xI R6 ([(R6.mk 0 0 0 2 2 2)] : List R6).length (Zz ([(R6.mk 0 0 0 2 2 2)] : List R6))) (pp (xI R6 ([(R6.mk 1 1 1 3 3 3)] : List R6).length (Zz ([(R6.mk 1 1 1 3 3 3)] : List R6))) (xw o22_0))) nn))))))))) (fun k22 => (lr 51 3 [1, 1, 1, 1, 1, 1, 1, 0] 1 10 [(0, (.bool false))] (sl Uy 42 [] ⟨[], [], [some [0]], []⟩ ⟨[], [], []⟩ [false, false, false, false, false, false, false, false] (tt k22 (pp (pp (xI R6 ([(R6.mk 0 0 0 2 2 2)] : List R6).length (Zz ([(R6.mk 0 0 0 2 2 2)] : List R6))) (pp (xI R6 ([(R6.mk 1 1 1 3 3 3)] : List R6).length (Zz ([(R6.mk 1 1 1 3 3 3)] : List R6))) (xw o22_1))) (pp (pp (xI R6 ([(R6.mk 0 0 0 2 2 2)] : List R6).length (Zz ([(R6.mk 0 0 0 2 2 2)] : List R6))) (pp (xI R6 ([(R6.mk 1 1 1 3 3 3)] : List R6).length (Zz ([(R6.mk 1 1 1 3 3 3)] : List R6))) (xw o22_0))) nn))))))))))) (fun k21 => (lr 51 3 [1, 1, 1, 1, 1, 1, 1, 0] 1 10 [(0, (.bool false))] (sl Uy 47 [] ⟨[], [], [some [0]], []⟩ ⟨[], [], []⟩ (trs 8 [false, false, false]) (tt k21 (tt k20 (tt k19 (tt k18 (pp (pp (xI R6 ([(R6.mk 0 0 0 1 1 1)] : List R6).length (Zz ([(R6.mk 0 0 0 1 1 1)] : List R6))) (pp (xI R6 ([(R6.mk 0 0 0 2 2 2)] : List R6).length (Zz ([(R6.mk 0 0 0 2 2 2)] : List R6))) (xw o18_1))) (pp (pp (xI R6 ([(R6.mk 0 0 0 1 1 1)] : List R6).length (Zz ([(R6.mk 0 0 0 1 1 1)] : List R6))) (pp (xI R6 ([(R6.mk 0 0 0 2 2 2)] : List R6).length (Zz ([(R6.mk 0 0 0 2 2 2)] : List R6))) (xw o18_0))) nn))))))))))) (fun k20 => (lr 51 3 [1, 1, 1, 1, 1, 1, 1, 0] 1 10 [(0, (.bool false))] (sl Uy 47 [] ⟨[], [], [some [0]], []⟩ ⟨[], [], []⟩ (trs 5 [false, false, false, false, false, false]) (tt k20 (tt k19 (tt k18 (pp (pp (xI R6 ([(R6.mk 0 0 0 1 1 1)] : List R6).length (Zz ([(R6.mk 0 0 0 1 1 1)] : List R6))) (pp (xI R6 ([(R6.mk 0 0 0 2 2 2)] : List R6).length (Zz ([(R6.mk 0 0 0 2 2 2)] : List R6))) (xw o18_1))) (pp (pp (xI R6 ([(R6.mk 0 0 0 1 1 1)] : List R6).length (Zz ([(R6.mk 0 0 0 1 1 1)] : List R6))) (pp (xI R6 ([(R6.mk 0 0 0 2 2 2)] : List R6).length (Zz ([(R6.mk 0 0 0 2 2 2)] : List R6))) (xw o18_0))) nn)))))))))) (fun k19 => (lr 51 3 [1, 1, 1, 1, 1, 1, 1, 0] 1 10 [(0, (.bool false))] (sl Uy 47 [] ⟨[], [], [some [0]], []⟩ ⟨[], [], []⟩ (trs 3 [false, false, false, false, false, false, false, false]) (tt k19 (tt k18 (pp (pp (xI R6 ([(R6.mk 0 0 0 1 1 1)] : List R6).length (Zz ([(R6.mk 0 0 0 1 1 1)] : List R6))) (pp (xI R6 ([(R6.mk 0 0 0 2 2 2)] : List R6).length (Zz ([(R6.mk 0 0 0 2 2 2)] : List R6))) (xw o18_1))) (pp (pp (xI R6 ([(R6.mk 0 0 0 1 1 1)] : List R6).length (Zz ([(R6.mk 0 0 0 1 1 1)] : List R6))) (pp (xI R6 ([(R6.mk 0 0 0 2 2 2)] : List R6).length (Zz ([(R6.mk 0 0 0 2 2 2)] : List R6))) (xw o18_0))) nn))))))))) (fun k18 => (lr 51 3 [1, 1, 1, 1, 1, 1, 1, 0] 1 10 [(0, (.bool false))] (sl Uy 47 [] ⟨[], [], [some [0]], []⟩ ⟨[], [], []⟩ [false, false, false, false, false, false, false, false, false, false, false] (tt k18 (pp (pp (xI R6 ([(R6.mk 0 0 0 1 1 1)] : List R6).length (Zz ([(R6.mk 0 0 0 1 1 1)] : List R6))) (pp (xI R6 ([(R6.mk 0 0 0 2 2 2)] : List R6).length (Zz ([(R6.mk 0 0 0 2 2 2)] : List R6))) (xw o18_1))) (pp (pp (xI R6 ([(R6.mk 0 0 0 1 1 1)] : List R6).length (Zz ([(R6.mk 0 0 0 1 1 1)] : List R6))) (pp (xI R6 ([(R6.mk 0 0 0 2 2 2)] : List R6).length (Zz ([(R6.mk 0 0 0 2 2 2)] : List R6))) (xw o18_0))) nn))))))))))) (fun k17 => (lr 51 3 [1, 1, 1, 1, 1, 1, 1, 0] 1 10 [(0, (.bool false))] (sl Uy 52 [] ⟨[], [], [some [0]], []⟩ ⟨[], [], []⟩ (trs 8 [false, false, false, false, false, false]) (tt k17 (tt k16 (tt k15 (tt k14 (pp (pp (xI R6 ([(R6.mk 0 0 0 2 2 2)] : List R6).length (Zz ([(R6.mk 0 0 0 2 2 2)] : List R6))) (pp (xI R6 ([(R6.mk 2 0 0 3 1 4)] : List R6).length (Zz ([(R6.mk 2 0 0 3 1 4)] : List R6))) (xw o14_1))) (pp (pp (xI R6 ([(R6.mk 0 0 0 2 2 2)] : List R6).length (Zz ([(R6.mk 0 0 0 2 2 2)] : List R6))) (pp (xI R6 ([(R6.mk 2 0 0 3 1 4)] : List R6).length (Zz ([(R6.mk 2 0 0 3 1 4)] : List R6))) (xw o14_0))) nn))))))))))) (fun k16 => (lr 51 3 [1, 1, 1, 1, 1, 1, 1, 0] 1 10 [(0, (.bool false))] (sl Uy 52 [] ⟨[], [], [some [0]], []⟩ ⟨[], [], []⟩ (trs 5 [false, false, false, false, false, false, false, false, false]) (tt k16 (tt k15 (tt k14 (pp (pp (xI R6 ([(R6.mk 0 0 0 2 2 2)] : List R6).length (Zz ([(R6.mk 0 0 0 2 2 2)] : List R6))) (pp (xI R6 ([(R6.mk 2 0 0 3 1 4)] : List R6).length (Zz ([(R6.mk 2 0 0 3 1 4)] : List R6))) (xw o14_1))) (pp (pp (xI R6 ([(R6.mk 0 0 0 2 2 2)] : List R6).length (Zz ([(R6.mk 0 0 0 2 2 2)] : List R6))) (pp (xI R6 ([(R6.mk 2 0 0 3 1 4)] : List R6).length (Zz ([(R6.mk 2 0 0 3 1 4)] : List R6))) (xw o14_0))) nn)))))))))) (fun k15 => (lr 51 3 [1, 1, 1, 1, 1, 1, 1, 0] 1 10 [(0, (.bool false))] (sl Uy 52 [] ⟨[], [], [some [0]], []⟩ ⟨[], [], []⟩ (trs 3 [false, false, false, false, false, false, false, false, false, false, false]) (tt k15 (tt k14 (pp (pp (xI R6 ([(R6.mk 0 0 0 2 2 2)] : List R6).length (Zz ([(R6.mk 0 0 0 2 2 2)] : List R6))) (pp (xI R6 ([(R6.mk 2 0 0 3 1 4)] : List R6).length (Zz ([(R6.mk 2 0 0 3 1 4)] : List R6))) (xw o14_1))) (pp (pp (xI R6 ([(R6.mk 0 0 0 2 2 2)] : List R6).length (Zz ([(R6.mk 0 0 0 2 2 2)] : List R6))) (pp (xI R6 ([(R6.mk 2 0 0 3 1 4)] : List R6).length (Zz ([(R6.mk 2 0 0 3 1 4)] : List R6))) (xw o14_0))) nn))))))))) (fun k14 => (lr 51 3 [1, 1, 1, 1, 1, 1, 1, 0] 1 10 [(0, (.bool false))] (sl Uy 52 [] ⟨[], [], [some [0]], []⟩ ⟨[], [], []⟩ [false, false, false, false, false, false, false, false, false, false, false, false, false, false] (tt k14 (pp (pp (xI R6 ([(R6.mk 0 0 0 2 2 2)] : List R6).length (Zz ([(R6.mk 0 0 0 2 2 2)] : List R6))) (pp (xI R6 ([(R6.mk 2 0 0 3 1 4)] : List R6).length (Zz ([(R6.mk 2 0 0 3 1 4)] : List R6))) (xw o14_1))) (pp (pp (xI R6 ([(R6.mk 0 0 0 2 2 2)] : List R6).length (Zz ([(R6.mk 0 0 0 2 2 2)] : List R6))) (pp (xI R6 ([(R6.mk 2 0 0 3 1 4)] : List R6).length (Zz ([(R6.mk 2 0 0 3 1 4)] : List R6))) (xw o14_0))) nn))))))))))) (fun k13 => (lr 51 3 [1, 1, 1, 1, 1, 1, 1, 0] 1 10 [(0, (.bool false))] (sl Uy 281 [] ⟨[], [], [some [0]], []⟩ ⟨[], [], []⟩ [true, false, false, false, true, false, false, false, true, false, false, false, true, false, false, false, true, false, false, false, true, false, false, false, false, true, true, false, false, false, false, false, false, false, false, false] (tt k13 (tt k12 (tt k11 (tt k10 (pp (pp (xI R6 ([(R6.mk 0 0 0 2 2 2)] : List R6).length (Zz ([(R6.mk 0 0 0 2 2 2)] : List R6))) (xw o10_0)) (tt k9 (tt k8 (pp (pp (xI R6 ([(R6.mk 0 0 0 2 2 2)] : List R6).length (Zz ([(R6.mk 0 0 0 2 2 2)] : List R6))) (xw o8_0)) (tt k7 (tt k6 (pp (pp (xI R6 ([(R6.mk 0 0 0 2 2 2)] : List R6).length (Zz ([(R6.mk 0 0 0 2 2 2)] : List R6))) (xw o6_0)) (tt k5 (tt k4 (pp (pp (xI R6 ([(R6.mk 0 0 0 2 2 2)] : List R6).length (Zz ([(R6.mk 0 0 0 2 2 2)] : List R6))) (xw o4_0)) (tt k3 (tt k2 (pp (pp (xI R6 ([(R6.mk 0 0 0 2 2 2)] : List R6).length (Zz ([(R6.mk 0 0 0 2 2 2)] : List R6))) (xw o2_0)) (tt k1 (tt k0 (pp (pp (xI R6 ([(R6.mk 0 0 0 2 2 2)] : List R6).length (Zz ([(R6.mk 0 0 0 2 2 2)] : List R6))) (xw o0_1)) (pp (pp (xI R6 ([(R6.mk 0 0 0 2 2 2)] : List R6).length (Zz ([(R6.mk 0 0 0 2 2 2)] : List R6))) (pp (xI R6 ([(R6.mk 2 0 0 3 1 4)] : List R6).length (Zz ([(R6.mk 2 0 0 3 1 4)] : List R6))) (xw o0_0))) nn)))))))))))))))))))))))))) (fun k12 => (lr 51 3 [1, 1, 1, 1, 1, 1, 1, 0] 1 10 [(0, (.bool false))] (sl Uy 281 [] ⟨[], [], [some [0]], []⟩ ⟨[], [], []⟩ [true, false, false, false, true, false, false, false, true, false, false, false, true, false, false, false, true, false, false, false, true, false, false, false, false, false, false, false, false, false, false, false, false, false, false, false] (tt k12 (tt k11 (tt k10 (pp (pp (xI R6 ([(R6.mk 0 0 0 2 2 2)] : List R6).length (Zz ([(R6.mk 0 0 0 2 2 2)] : List R6))) (xw o10_0)) (tt k9 (tt k8 (pp (pp (xI R6 ([(R6.mk 0 0 0 2 2 2)] : List R6).length (Zz ([(R6.mk 0 0 0 2 2 2)] : List R6))) (xw o8_0)) (tt k7 (tt k6 (pp (pp (xI R6 ([(R6.mk 0 0 0 2 2 2)] : List R6).length (Zz ([(R6.mk 0 0 0 2 2 2)] : List R6))) (xw o6_0)) (tt k5 (tt k4 (pp (pp (xI R6 ([(R6.mk 0 0 0 2 2 2)] : List R6).length (Zz ([(R6.mk 0 0 0 2 2 2)] : List R6))) (xw o4_0)) (tt k3 (tt k2 (pp (pp (xI R6 ([(R6.mk 0 0 0 2 2 2)] : List R6).length (Zz ([(R6.mk 0 0 0 2 2 2)] : List R6))) (xw o2_0)) (tt k1 (tt k0 (pp (pp (xI R6 ([(R6.mk 0 0 0 2 2 2)] : List R6).length (Zz ([(R6.mk 0 0 0 2 2 2)] : List R6))) (xw o0_1)) (pp (pp (xI R6 ([(R6.mk 0 0 0 2 2 2)] : List R6).length (Zz ([(R6.mk 0 0 0 2 2 2)] : List R6))) (pp (xI R6 ([(R6.mk 2 0 0 3 1 4)] : List R6).length (Zz ([(R6.mk 2 0 0 3 1 4)] : List R6))) (xw o0_0))) nn))))))))))))))))))))))))))))))))))))))))))))))))))))))))
theorem w7z (n : Nat) (vs : List AVal) (h : Ya (x1z) n (z8w) = .ret vs) : Je Tryz.prog (Zy Tryz.prog 27) (Zf Tryz.prog 27 [] true []) vs := by
 have := Zn (x7o) n _ (x2a)
 rwa [h] at this
end Go.Am
end
section
set_option linter.unusedVariables false
set_option linter.unusedSimpArgs false
namespace Go.Am
open Go.Proofs
set_option maxRecDepth 100000
set_option maxHeartbeats 4000000
set_option linter.unusedVariables false
set_option linter.unusedSimpArgs false
theorem y3t {l : List R6} (h : z2y l = 0) : Yz l = 0 := (y4y l).trans h
theorem z6r : Yz ([(R6.mk 0 0 0 2 2 2)] : List R6) = 0 := y3t (by kernel_rfl)
theorem litA : Yz ([(R6.mk 2 0 0 3 1 4)] : List R6) = 0 := y3t (by kernel_rfl)
theorem litB : Yz ([(R6.mk 0 0 0 1 1 1)] : List R6) = 0 := y3t (by kernel_rfl)
theorem litD : Yz ([(R6.mk 1 1 1 3 3 3)] : List R6) = 0 := y3t (by kernel_rfl)
theorem al0 : Vh ([(R6.mk 0 0 0 2 2 2)] : List R6) 0 = 0 := by
 unfold Vh
 rw [z6r]
 kernel_rfl
theorem al1 : Vi ([(R6.mk 0 0 0 2 2 2)] : List R6) 0 = 4 := by
 unfold Vi
 rw [z6r]
 kernel_rfl
theorem al2 : Vh ([(R6.mk 0 0 0 2 2 2)] : List R6) 1 = 0 := by
 unfold Vh
 rw [z6r]
 kernel_rfl
theorem al3 : Vi ([(R6.mk 0 0 0 2 2 2)] : List R6) 1 = 4 := by
 unfold Vi
 rw [z6r]
 kernel_rfl
theorem al4 : Vh ([(R6.mk 0 0 0 2 2 2)] : List R6) 2 = 0 := by
 unfold Vh
 rw [z6r]
 kernel_rfl
theorem al5 : Vi ([(R6.mk 0 0 0 2 2 2)] : List R6) 2 = 4 := by
 unfold Vi
 rw [z6r]
 kernel_rfl
theorem al6 : Vh ([(R6.mk 0 0 0 2 2 2)] : List R6) 3 = 0 := by
 unfold Vh
 rw [z6r]
 kernel_rfl
theorem al7 : Vi ([(R6.mk 0 0 0 2 2 2)] : List R6) 3 = 4 := by
 unfold Vi
 rw [z6r]
 kernel_rfl
theorem al8 : Vh ([(R6.mk 0 0 0 2 2 2)] : List R6) 4 = 0 := by
 unfold Vh
 rw [z6r]
 kernel_rfl
theorem al9 : Vi ([(R6.mk 0 0 0 2 2 2)] : List R6) 4 = 4 := by
 unfold Vi
 rw [z6r]
 kernel_rfl
theorem al10 : Vh ([(R6.mk 0 0 0 2 2 2)] : List R6) 5 = 0 := by
 unfold Vh
 rw [z6r]
 kernel_rfl
theorem al11 : Vi ([(R6.mk 0 0 0 2 2 2)] : List R6) 5 = 4 := by
 unfold Vi
 rw [z6r]
 kernel_rfl
theorem al12 : y2p ([(R6.mk 0 0 0 2 2 2)] : List R6) ([(R6.mk 2 0 0 3 1 4)] : List R6) 0 = 0 := by
 unfold y2p
 rw [z6r, litA]
 kernel_rfl
theorem al13 : y2q ([(R6.mk 0 0 0 2 2 2)] : List R6) ([(R6.mk 2 0 0 3 1 4)] : List R6) 0 = 2 := by
 unfold y2q
 rw [z6r, litA]
 kernel_rfl
theorem al14 : Qk ([(R6.mk 0 0 0 2 2 2)] : List R6) ([(R6.mk 2 0 0 3 1 4)] : List R6) = 0 := by
 unfold Qk
 unfold Ue
 rw [z6r, litA]
 kernel_rfl
theorem al15 : Uj ([(R6.mk 0 0 0 2 2 2)] : List R6) ([(R6.mk 2 0 0 3 1 4)] : List R6) = 2 := by
 unfold Uj
 rw [z6r, litA]
 kernel_rfl
theorem al16 : Ue ([(R6.mk 0 0 0 2 2 2)] : List R6) ([(R6.mk 2 0 0 3 1 4)] : List R6) = 0 := by
 unfold Ue
 rw [z6r, litA]
 kernel_rfl
theorem al17 : Qn ([(R6.mk 0 0 0 2 2 2)] : List R6) ([(R6.mk 2 0 0 3 1 4)] : List R6) = 2 := by
 unfold Qn
 rw [z6r, litA]
 kernel_rfl
theorem al18 : Qk ([(R6.mk 0 0 0 1 1 1)] : List R6) ([(R6.mk 0 0 0 2 2 2)] : List R6) = 0 := by
 unfold Qk
 unfold Ue
 rw [litB, z6r]
 kernel_rfl
theorem al19 : Uj ([(R6.mk 0 0 0 1 1 1)] : List R6) ([(R6.mk 0 0 0 2 2 2)] : List R6) = 4 := by
 unfold Uj
 rw [litB, z6r]
 kernel_rfl
theorem al20 : Ue ([(R6.mk 0 0 0 1 1 1)] : List R6) ([(R6.mk 0 0 0 2 2 2)] : List R6) = 0 := by
 unfold Ue
 rw [litB, z6r]
 kernel_rfl
theorem al21 : Qn ([(R6.mk 0 0 0 1 1 1)] : List R6) ([(R6.mk 0 0 0 2 2 2)] : List R6) = 0 := by
 unfold Qn
 rw [litB, z6r]
 kernel_rfl
theorem al22 : Qk ([(R6.mk 0 0 0 2 2 2)] : List R6) ([(R6.mk 1 1 1 3 3 3)] : List R6) = 0 := by
 unfold Qk
 unfold Ue
 rw [z6r, litD]
 kernel_rfl
theorem al23 : Uj ([(R6.mk 0 0 0 2 2 2)] : List R6) ([(R6.mk 1 1 1 3 3 3)] : List R6) = 3 := by
 unfold Uj
 rw [z6r, litD]
 kernel_rfl
theorem al24 : Ue ([(R6.mk 0 0 0 2 2 2)] : List R6) ([(R6.mk 1 1 1 3 3 3)] : List R6) = 0 := by
 unfold Ue
 rw [z6r, litD]
 kernel_rfl
theorem al25 : Qn ([(R6.mk 0 0 0 2 2 2)] : List R6) ([(R6.mk 1 1 1 3 3 3)] : List R6) = 0 := by
 unfold Qn
 rw [z6r, litD]
 kernel_rfl
theorem v6l : ∃ N, Ya x1z N z8w = .ret [.bool true] := by
 refine ⟨0, ?_⟩
 unfold z8w
 simp only [Zg, show Wb ([(R6.mk 0 0 0 2 2 2)] : List R6) 0 = true from rfl, show Wb ([(R6.mk 0 0 0 2 2 2)] : List R6) 1 = true from rfl, show Wb ([(R6.mk 0 0 0 2 2 2)] : List R6) 2 = true from rfl, show Wb ([(R6.mk 0 0 0 2 2 2)] : List R6) 3 = true from rfl, show Wb ([(R6.mk 0 0 0 2 2 2)] : List R6) 4 = true from rfl, show Wb ([(R6.mk 0 0 0 2 2 2)] : List R6) 5 = true from rfl, show z1q ([(R6.mk 0 0 0 2 2 2)] : List R6) ([(R6.mk 2 0 0 3 1 4)] : List R6) 0 = true from rfl, show Va ([(R6.mk 0 0 0 2 2 2)] : List R6) ([(R6.mk 2 0 0 3 1 4)] : List R6) = true from rfl, show Wk ([(R6.mk 0 0 0 2 2 2)] : List R6) ([(R6.mk 2 0 0 3 1 4)] : List R6) = true from rfl, show Va ([(R6.mk 0 0 0 1 1 1)] : List R6) ([(R6.mk 0 0 0 2 2 2)] : List R6) = true from rfl, show Wk ([(R6.mk 0 0 0 1 1 1)] : List R6) ([(R6.mk 0 0 0 2 2 2)] : List R6) = true from rfl, show Va ([(R6.mk 0 0 0 2 2 2)] : List R6) ([(R6.mk 1 1 1 3 3 3)] : List R6) = true from rfl, show Wk ([(R6.mk 0 0 0 2 2 2)] : List R6) ([(R6.mk 1 1 1 3 3 3)] : List R6) = true from rfl, al0, al1, al2, al3, al4, al5, al6, al7, al8, al9, al10, al11, al12, al13, al14, al15, al16, al17, al18, al19, al20, al21, al22, al23, al24, al25, show ((0 : Int) != 0) = false from rfl, show ((4 : Int) != 4) = false from rfl, show ((0 : Int) == 0) = true from rfl, show ((2 : Int) == 2) = true from rfl, show ((4 : Int) == 4) = true from rfl, show ((3 : Int) == 3) = true from rfl, cond_true, cond_false]
 rfl
def v4v : List AVal → Option (AVal × Bool)
 | [] => some (.bool true, true)
 | _ => none
theorem w7g {S : Specs} (hS : Zk Tryz.prog S) : Zk Tryz.prog (S.with x3u v4v) := by
 refine z1d hS (by kernel_rfl) fun args v h => ?_
 unfold v4v at h
 split at h
 ·simp only [Option.some.injEq, Prod.mk.injEq, and_true] at h
  subst h
  obtain ⟨N, hN⟩ := v6l
  exact ⟨_, _, .nil, rfl, w7z N _ hN, 3, rfl⟩
 ·cases h
noncomputable def Tf : Specs := (Te.with x3u v4v)
theorem Tf_ok : Zk Tryz.prog Tf := (w7g Uy)
end Go.Am
end
section
set_option linter.unusedVariables false
set_option linter.unusedSimpArgs false
namespace Go.Am
open Go.Proofs
noncomputable def Tv : Specs := ((Tf.with (nSl .u) (fSl .u)).with (nSl .e) (fSl .e)).with (nSl .d) (fSl .d)
theorem z0w : Zk Tryz.prog Tv := w1x .d (w1x .e (w1x .u Tf_ok))
end Go.Am
end
section
set_option linter.unusedVariables false
set_option linter.unusedSimpArgs false
namespace Go.Am
open Go.Proofs
set_option maxRecDepth 1000000
set_option linter.unusedVariables false
set_option linter.unusedSimpArgs false
set_option maxHeartbeats 4000000
inductive vomS where
noncomputable def vomC (l0 : List R6) (l1 : List R6) : vomS → Cfg
 := nofun
noncomputable def y8i (l0 : List R6) (l1 : List R6) : vomS → Xn vomS
 := nofun
noncomputable def z7p (l0 : List R6) (l1 : List R6) : Xn vomS := (bif (z1u (cvT l0)) then (bif (v0w (cvT l0)) then (.ret [(.bool true)]) else (bif (z3k (cvT l0)) then (bif ((z2y (cvT l0)) != 0) then (.ret [(.bool true)]) else (bif (z1u (cvT l1)) then (bif (v0w (cvT l1)) then (.ret [(.bool true)]) else (bif (z3k (cvT l1)) then (bif ((z2y (cvT l1)) != 0) then (.ret [(.bool true)]) else (bif ((z2b Op.e) (cvT l0) (cvT l1)) then (bif ((z2b Op.d) (cvT l0) (cvT l1)) then (bif ((z2b Op.d) (cvT l1) (cvT l0)) then (bif (Va (cvT l0) (cvT l1)) then (bif ((Qk (cvT l0) (cvT l1)) != 0) then (.ret [(.bool false)]) else (bif (((y1s Op.e) (cvT l0) (cvT l1)) != 0) then (.ret [(.bool true)]) else (bif (((y1s Op.d) (cvT l0) (cvT l1)) != 0) then (.ret [(.bool true)]) else (bif (((y1s Op.d) (cvT l1) (cvT l0)) != 0) then (.ret [(.bool true)]) else (bif (((((z7e Op.e) (cvT l0) (cvT l1)).length : Nat) : Int) == 0) then (bif ((Uj (cvT l0) (cvT l1)) == 1) then (.ret [(.bool true)]) else (bif ((Uj (cvT l0) (cvT l1)) == 2) then (.ret [(.bool true)]) else (.ret [(.bool false)]))) else (bif (((((z7e Op.d) (cvT l0) (cvT l1)).length : Nat) : Int) == 0) then (bif (((((z7e Op.d) (cvT l1) (cvT l0)).length : Nat) : Int) == 0) then (bif ((Uj (cvT l0) (cvT l1)) == 6) then (.ret [(.bool true)]) else (.ret [(.bool false)])) else (bif ((Uj (cvT l0) (cvT l1)) == 4) then (.ret [(.bool true)]) else (.ret [(.bool false)]))) else (bif (((((z7e Op.d) (cvT l1) (cvT l0)).length : Nat) : Int) == 0) then (bif ((Uj (cvT l0) (cvT l1)) == 5) then (.ret [(.bool true)]) else (.ret [(.bool false)])) else (bif ((Uj (cvT l0) (cvT l1)) == 3) then (.ret [(.bool true)]) else (.ret [(.bool false)]))))))))) else .stuck) else .stuck) else .stuck) else .stuck)) else .stuck)) else .stuck)) else .stuck)) else .stuck)
theorem x4r (l0 : List R6) (l1 : List R6) : ∀ s, Xh Tryz.prog (Zy Tryz.prog 5) (vomC l0 l1) (vomC l0 l1 s) (y8i l0 l1 s)
 := nofun
theorem y8j (l0 : List R6) (l1 : List R6) : Xh Tryz.prog (Zy Tryz.prog 5) (vomC l0 l1) (Zf Tryz.prog 5 [(.dat l0.length (Zz l0)), (.dat l1.length (Zz l1))] true []) (z7p l0 l1) := (lo fun o0_0 => (lb (fun k0 => (lr 92 5 [1, 0, 1, 0, 0] 1 5 [(4, (.bool true))] (sl z0w 64 [] ⟨[], [], [some [4]], []⟩ ⟨[], [], []⟩ (trs 9 []) (tt k0 (pp (pp (xr l0) (xw o0_0)) nn))))) (fun k0 => (lo fun o1_0 => (lb (fun k1 => (lr 92 5 [1, 0, 1, 0, 0] 1 5 [(4, (.bool true))] (sl z0w 64 [] ⟨[], [], [some [4]], []⟩ ⟨[], [], []⟩ [true, false, false, false, false, false, false, true, true] (tt k1 (pp (pp (xr l0) (xw o1_0)) (tt k0 (pp (pp (xr l0) (xw o0_0)) nn))))))) (fun k1 => (lo fun o2_0 => (lb (fun k2 => (lr 92 5 [1, 0, 1, 0, 0] 1 5 [(4, (.bool true))] (sl z0w 101 [] ⟨[], [], [some [4]], []⟩ ⟨[], [], []⟩ [true, false, false, false, false, false, false, false, true, true, true, true, true, true, true, true, true] (tt k2 (pp (pp (xr l1) (xw o2_0)) (tt k1 (pp (pp (xr l0) (xw o1_0)) (tt k0 (pp (pp (xr l0) (xw o0_0)) nn))))))))) (fun k2 => (lo fun o3_0 => (lb (fun k3 => (lr 92 5 [1, 0, 1, 0, 0] 1 5 [(4, (.bool true))] (sl z0w 101 [] ⟨[], [], [some [4]], []⟩ ⟨[], [], []⟩ [true, false, false, false, false, false, false, false, true, false, false, false, false, false, false, true, true] (tt k3 (pp (pp (xr l1) (xw o3_0)) (tt k2 (pp (pp (xr l1) (xw o2_0)) (tt k1 (pp (pp (xr l0) (xw o1_0)) (tt k0 (pp (pp (xr l0) (xw o0_0)) nn))))))))))) (fun k3 => (lo fun o4_0 => (lo fun o4_1 => (lo fun o4_2 => (lo fun o4_3 => (lb (fun k4 => (lr 92 5 [1, 1, 1, 1, 1, 1, 0, 1, 0, 0] 1 5 [(4, (.bool false))] (sl z0w 170 [] ⟨[], [], [some [4]], []⟩ ⟨[], [], []⟩ [true, false, false, false, false, false, false, false, true, false, false, false, false, false, false, false, false, false, true] (tt k4 (pp (pp (xr l0) (pp (xr l1) (xw o4_3))) (pp (pp (xr l1) (pp (xr l0) (xw o4_2))) (pp (pp (xr l0) (pp (xr l1) (xw o4_1))) (pp (pp (xr l0) (pp (xr l1) (xw o4_0))) (tt k3 (pp (pp (xr l1) (xw o3_0)) (tt k2 (pp (pp (xr l1) (xw o2_0)) (tt k1 (pp (pp (xr l0) (xw o1_0)) (tt k0 (pp (pp (xr l0) (xw o0_0)) nn)))))))))))))))) (fun k4 => (lb (fun k5 => (lr 92 5 [1, 1, 1, 1, 1, 1, 1, 0, 1, 0, 0] 1 5 [(4, (.bool true))] (sl z0w 187 [] ⟨[], [], [some [4]], []⟩ ⟨[], [], []⟩ [true, false, false, false, false, false, false, false, true, false, false, false, false, false, false, false, false, false, false, true, true, true, true, true] (tt k5 (tt k4 (pp (pp (xr l0) (pp (xr l1) (xw o4_3))) (pp (pp (xr l1) (pp (xr l0) (xw o4_2))) (pp (pp (xr l0) (pp (xr l1) (xw o4_1))) (pp (pp (xr l0) (pp (xr l1) (xw o4_0))) (tt k3 (pp (pp (xr l1) (xw o3_0)) (tt k2 (pp (pp (xr l1) (xw o2_0)) (tt k1 (pp (pp (xr l0) (xw o1_0)) (tt k0 (pp (pp (xr l0) (xw o0_0)) nn))))))))))))))))) (fun k5 => (lb (fun k6 => (lr 92 5 [1, 1, 1, 1, 1, 1, 1, 0, 1, 0, 0] 1 5 [(4, (.bool true))] (sl z0w 187 [] ⟨[], [], [some [4]], []⟩ ⟨[], [], []⟩ [true, false, false, false, false, false, false, false, true, false, false, false, false, false, false, false, false, false, false, false, false, true, true, true] (tt k6 (tt k5 (tt k4 (pp (pp (xr l0) (pp (xr l1) (xw o4_3))) (pp (pp (xr l1) (pp (xr l0) (xw o4_2))) (pp (pp (xr l0) (pp (xr l1) (xw o4_1))) (pp (pp (xr l0) (pp (xr l1) (xw o4_0))) (tt k3 (pp (pp (xr l1) (xw o3_0)) (tt k2 (pp (pp (xr l1) (xw o2_0)) (tt k1 (pp (pp (xr l0) (xw o1_0)) (tt k0 (pp (pp (xr l0) (xw o0_0)) nn)))))))))))))))))) (fun k6 => (lb (fun k7 => (lr 92 5 [1, 1, 1, 1, 1, 1, 1, 0, 1, 0, 0] 1 5 [(4, (.bool true))] (sl z0w 187 [] ⟨[], [], [some [4]], []⟩ ⟨[], [], []⟩ [true, false, false, false, false, false, false, false, true, false, false, false, false, false, false, false, false, false, false, false, false, false, false, true] (tt k7 (tt k6 (tt k5 (tt k4 (pp (pp (xr l0) (pp (xr l1) (xw o4_3))) (pp (pp (xr l1) (pp (xr l0) (xw o4_2))) (pp (pp (xr l0) (pp (xr l1) (xw o4_1))) (pp (pp (xr l0) (pp (xr l1) (xw o4_0))) (tt k3 (pp (pp (xr l1) (xw o3_0)) (tt k2 (pp (pp (xr l1) (xw o2_0)) (tt k1 (pp (pp (xr l0) (xw o1_0)) (tt k0 (pp (pp (xr l0) (xw o0_0)) nn))))))))))))))))))) (fun k7 => (lb (fun k8 => (lb (fun k9 => (lr 92 5 [1, 1, 1, 1, 1, 1, 1, 1, 0, 1, 0, 0] 1 5 [(4, (.bool true))] (sl z0w 204 [] ⟨[], [], [some [4]], []⟩ ⟨[], [], []⟩ [true, false, false, false, false, false, false, false, true, false, false, false, false, false, false, false, false, false, false, false, false, false, false, false, true, true, true, true] (tt k9 (tt k8 (tt k7 (tt k6 (tt k5 (tt k4 (pp (pp (xr l0) (pp (xr l1) (xw o4_3))) (pp (pp (xr l1) (pp (xr l0) (xw o4_2))) (pp (pp (xr l0) (pp (xr l1) (xw o4_1))) (pp (pp (xr l0) (pp (xr l1) (xw o4_0))) (tt k3 (pp (pp (xr l1) (xw o3_0)) (tt k2 (pp (pp (xr l1) (xw o2_0)) (tt k1 (pp (pp (xr l0) (xw o1_0)) (tt k0 (pp (pp (xr l0) (xw o0_0)) nn))))))))))))))))))))) (fun k9 => (lb (fun k10 => (lr 92 5 [1, 1, 1, 1, 1, 1, 1, 1, 0, 1, 0, 0] 1 5 [(4, (.bool true))] (sl z0w 204 [] ⟨[], [], [some [4]], []⟩ ⟨[], [], []⟩ [true, false, false, false, false, false, false, false, true, false, false, false, false, false, false, false, false, false, false, false, false, false, false, false, true, false, false, true] (tt k10 (tt k9 (tt k8 (tt k7 (tt k6 (tt k5 (tt k4 (pp (pp (xr l0) (pp (xr l1) (xw o4_3))) (pp (pp (xr l1) (pp (xr l0) (xw o4_2))) (pp (pp (xr l0) (pp (xr l1) (xw o4_1))) (pp (pp (xr l0) (pp (xr l1) (xw o4_0))) (tt k3 (pp (pp (xr l1) (xw o3_0)) (tt k2 (pp (pp (xr l1) (xw o2_0)) (tt k1 (pp (pp (xr l0) (xw o1_0)) (tt k0 (pp (pp (xr l0) (xw o0_0)) nn)))))))))))))))))))))) (fun k10 => (lr 92 5 [1, 1, 1, 1, 1, 1, 1, 1, 0, 1, 0, 0] 1 5 [(4, (.bool false))] (sl z0w 204 [] ⟨[], [], [some [4]], []⟩ ⟨[], [], []⟩ [true, false, false, false, false, false, false, false, true, false, false, false, false, false, false, false, false, false, false, false, false, false, false, false, true, false, false, false] (tt k10 (tt k9 (tt k8 (tt k7 (tt k6 (tt k5 (tt k4 (pp (pp (xr l0) (pp (xr l1) (xw o4_3))) (pp (pp (xr l1) (pp (xr l0) (xw o4_2))) (pp (pp (xr l0) (pp (xr l1) (xw o4_1))) (pp (pp (xr l0) (pp (xr l1) (xw o4_0))) (tt k3 (pp (pp (xr l1) (xw o3_0)) (tt k2 (pp (pp (xr l1) (xw o2_0)) (tt k1 (pp (pp (xr l0) (xw o1_0)) (tt k0 (pp (pp (xr l0) (xw o0_0)) nn)))))))))))))))))))))))))) (fun k8 => (lb (fun k9 => (lb (fun k10 => (lb (fun k11 => (lr 92 3 [1, 1, 1, 1, 1, 1, 1, 0] 1 5 [(4, (.bool true))] (sl z0w 225 [] ⟨[], [], [some [4]], []⟩ ⟨[], [], []⟩ [true, false, false, false, false, false, false, false, true, false, false, false, false, false, false, false, false, false, false, false, false, false, false, false, false, true, true, true, true, true] (tt k11 (tt k10 (tt k9 (tt k8 (tt k7 (tt k6 (tt k5 (tt k4 (pp (pp (xr l0) (pp (xr l1) (xw o4_3))) (pp (pp (xr l1) (pp (xr l0) (xw o4_2))) (pp (pp (xr l0) (pp (xr l1) (xw o4_1))) (pp (pp (xr l0) (pp (xr l1) (xw o4_0))) (tt k3 (pp (pp (xr l1) (xw o3_0)) (tt k2 (pp (pp (xr l1) (xw o2_0)) (tt k1 (pp (pp (xr l0) (xw o1_0)) (tt k0 (pp (pp (xr l0) (xw o0_0)) nn))))))))))))))))))))))) (fun k11 => (lr 92 3 [1, 1, 1, 1, 1, 1, 1, 0] 1 5 [(4, (.bool false))] (sl z0w 225 [] ⟨[], [], [some [4]], []⟩ ⟨[], [], []⟩ [true, false, false, false, false, false, false, false, true, false, false, false, false, false, false, false, false, false, false, false, false, false, false, false, false, true, true, true, true, false] (tt k11 (tt k10 (tt k9 (tt k8 (tt k7 (tt k6 (tt k5 (tt k4 (pp (pp (xr l0) (pp (xr l1) (xw o4_3))) (pp (pp (xr l1) (pp (xr l0) (xw o4_2))) (pp (pp (xr l0) (pp (xr l1) (xw o4_1))) (pp (pp (xr l0) (pp (xr l1) (xw o4_0))) (tt k3 (pp (pp (xr l1) (xw o3_0)) (tt k2 (pp (pp (xr l1) (xw o2_0)) (tt k1 (pp (pp (xr l0) (xw o1_0)) (tt k0 (pp (pp (xr l0) (xw o0_0)) nn))))))))))))))))))))))))) (fun k10 => (lb (fun k11 => (lr 92 3 [1, 1, 1, 1, 1, 1, 1, 0] 1 5 [(4, (.bool true))] (sl z0w 233 [] ⟨[], [], [some [4]], []⟩ ⟨[], [], []⟩ [true, false, false, false, false, false, false, false, true, false, false, false, false, false, false, false, false, false, false, false, false, false, false, false, false, true, true, true, false, true, true] (tt k11 (tt k9 (tt k10 (tt k9 (tt k8 (tt k7 (tt k6 (tt k5 (tt k4 (pp (pp (xr l0) (pp (xr l1) (xw o4_3))) (pp (pp (xr l1) (pp (xr l0) (xw o4_2))) (pp (pp (xr l0) (pp (xr l1) (xw o4_1))) (pp (pp (xr l0) (pp (xr l1) (xw o4_0))) (tt k3 (pp (pp (xr l1) (xw o3_0)) (tt k2 (pp (pp (xr l1) (xw o2_0)) (tt k1 (pp (pp (xr l0) (xw o1_0)) (tt k0 (pp (pp (xr l0) (xw o0_0)) nn)))))))))))))))))))))))) (fun k11 => (lr 92 3 [1, 1, 1, 1, 1, 1, 1, 0] 1 5 [(4, (.bool false))] (sl z0w 233 [] ⟨[], [], [some [4]], []⟩ ⟨[], [], []⟩ [true, false, false, false, false, false, false, false, true, false, false, false, false, false, false, false, false, false, false, false, false, false, false, false, false, true, true, true, false, true, false] (tt k11 (tt k9 (tt k10 (tt k9 (tt k8 (tt k7 (tt k6 (tt k5 (tt k4 (pp (pp (xr l0) (pp (xr l1) (xw o4_3))) (pp (pp (xr l1) (pp (xr l0) (xw o4_2))) (pp (pp (xr l0) (pp (xr l1) (xw o4_1))) (pp (pp (xr l0) (pp (xr l1) (xw o4_0))) (tt k3 (pp (pp (xr l1) (xw o3_0)) (tt k2 (pp (pp (xr l1) (xw o2_0)) (tt k1 (pp (pp (xr l0) (xw o1_0)) (tt k0 (pp (pp (xr l0) (xw o0_0)) nn)))))))))))))))))))))))))))) (fun k9 => (lb (fun k10 => (lb (fun k11 => (lr 92 3 [1, 1, 1, 1, 1, 1, 1, 0] 1 5 [(4, (.bool true))] (sl z0w 241 [] ⟨[], [], [some [4]], []⟩ ⟨[], [], []⟩ [true, false, false, false, false, false, false, false, true, false, false, false, false, false, false, false, false, false, false, false, false, false, false, false, false, false, false, false, false, false, true, true] (tt k11 (tt k10 (tt k9 (tt k9 (tt k8 (tt k7 (tt k6 (tt k5 (tt k4 (pp (pp (xr l0) (pp (xr l1) (xw o4_3))) (pp (pp (xr l1) (pp (xr l0) (xw o4_2))) (pp (pp (xr l0) (pp (xr l1) (xw o4_1))) (pp (pp (xr l0) (pp (xr l1) (xw o4_0))) (tt k3 (pp (pp (xr l1) (xw o3_0)) (tt k2 (pp (pp (xr l1) (xw o2_0)) (tt k1 (pp (pp (xr l0) (xw o1_0)) (tt k0 (pp (pp (xr l0) (xw o0_0)) nn)))))))))))))))))))))))) (fun k11 => (lr 92 3 [1, 1, 1, 1, 1, 1, 1, 0] 1 5 [(4, (.bool false))] (sl z0w 241 [] ⟨[], [], [some [4]], []⟩ ⟨[], [], []⟩ [true, false, false, false, false, false, false, false, true, false, false, false, false, false, false, false, false, false, false, false, false, false, false, false, false, false, false, false, false, false, true, false] (tt k11 (tt k10 (tt k9 (tt k9 (tt k8 (tt k7 (tt k6 (tt k5 (tt k4 (pp (pp (xr l0) (pp (xr l1) (xw o4_3))) (pp (pp (xr l1) (pp (xr l0) (xw o4_2))) (pp (pp (xr l0) (pp (xr l1) (xw o4_1))) (pp (pp (xr l0) (pp (xr l1) (xw o4_0))) (tt k3 (pp (pp (xr l1) (xw o3_0)) (tt k2 (pp (pp (xr l1) (xw o2_0)) (tt k1 (pp (pp (xr l0) (xw o1_0)) (tt k0 (pp (pp (xr l0) (xw o0_0)) nn)))))))))))))))))))))))))) (fun k10 => (lb (fun k11 => (lr 92 3 [1, 1, 1, 1, 1, 1, 1, 0] 1 5 [(4, (.bool true))] (sl z0w 239 [] ⟨[], [], [some [4]], []⟩ ⟨[], [], []⟩ [true, false, false, false, false, false, false, false, true, false, false, false, false, false, false, false, false, false, false, false, false, false, false, false, false, false, false, false, false, false, false, true] (tt k11 (tt k10 (tt k9 (tt k9 (tt k8 (tt k7 (tt k6 (tt k5 (tt k4 (pp (pp (xr l0) (pp (xr l1) (xw o4_3))) (pp (pp (xr l1) (pp (xr l0) (xw o4_2))) (pp (pp (xr l0) (pp (xr l1) (xw o4_1))) (pp (pp (xr l0) (pp (xr l1) (xw o4_0))) (tt k3 (pp (pp (xr l1) (xw o3_0)) (tt k2 (pp (pp (xr l1) (xw o2_0)) (tt k1 (pp (pp (xr l0) (xw o1_0)) (tt k0 (pp (pp (xr l0) (xw o0_0)) nn)))))))))))))))))))))))) (fun k11 => (lr 92 3 [1, 1, 1, 1, 1, 1, 1, 0] 1 5 [(4, (.bool false))] (sl z0w 239 [] ⟨[], [], [some [4]], []⟩ ⟨[], [], []⟩ [true, false, false, false, false, false, false, false, true, false, false, false, false, false, false, false, false, false, false, false, false, false, false, false, false, false, false, false, false, false, false, false] (tt k11 (tt k10 (tt k9 (tt k9 (tt k8 (tt k7 (tt k6 (tt k5 (tt k4 (pp (pp (xr l0) (pp (xr l1) (xw o4_3))) (pp (pp (xr l1) (pp (xr l0) (xw o4_2))) (pp (pp (xr l0) (pp (xr l1) (xw o4_1))) (pp (pp (xr l0) (pp (xr l1) (xw o4_0))) (tt k3 (pp (pp (xr l1) (xw o3_0)) (tt k2 (pp (pp (xr l1) (xw o2_0)) (tt k1 (pp (pp (xr l0) (xw o1_0)) (tt k0 (pp (pp (xr l0) (xw o0_0)) nn)))))))))))))))))))))))))))))))))))))))))))))))))))))))
theorem vom_ends (l0 : List R6) (l1 : List R6) (n : Nat) (vs : List AVal) (h : Ya (y8i l0 l1) n (z7p l0 l1) = .ret vs) : Je Tryz.prog (Zy Tryz.prog 5) (Zf Tryz.prog 5 [(.dat l0.length (Zz l0)), (.dat l1.length (Zz l1))] true []) vs := by
 have := Zn (x4r l0 l1) n _ (y8j l0 l1)
 rwa [h] at this
end Go.Am
end
section
set_option linter.unusedVariables false
set_option linter.unusedSimpArgs false
namespace Go.Am
open Go.Proofs Go.Sort Go.Shelf Go.RowKit Go.Lib
set_option maxRecDepth 100000
set_option maxHeartbeats 4000000
set_option linter.unusedVariables false
set_option linter.unusedSimpArgs false
def ind (a b t : Int) : Int := if a ≤ t ∧ t < b then 1 else 0
def ptsN (lo : Int) (n : Nat) : List Int := (List.range n).map fun (k : Nat) => lo + (k : Int)
theorem w1m (a b lo : Int) : ∀ n : Nat, sm (ptsN lo n) (ind a b) = ovl a b lo (lo + n)
 | 0 => by show (0 : Int) = _; unfold ovl; omega
 | n + 1 => by
  unfold ptsN
  rw [List.range_succ, List.map_append, y5v]
  have := w1m a b lo n
  unfold ptsN at this
  rw [this, List.map_cons, List.map_nil, Vd, x8u]
  unfold ind ovl
  split <;> omega
theorem x0v (a b c d t : Int) : ind a b t * ind c d t = ind (max a c) (min b d) t := by
 unfold ind
 by_cases h1 : a ≤ t ∧ t < b
 ·by_cases h2 : c ≤ t ∧ t < d
  ·rw [if_pos h1, if_pos h2, if_pos (by omega)]; rfl
  ·rw [if_pos h1, if_neg h2, if_neg (by omega)]; rfl
 ·rw [if_neg h1, Int.zero_mul, if_neg (by omega)]
theorem z5t (a b t : Int) : 0 ≤ ind a b t := by unfold ind; split <;> omega
theorem ind_le (a b t : Int) : ind a b t ≤ 1 := by unfold ind; split <;> omega
def Pts (p : List Int) : Prop := (∀ a b, -1000005 ≤ a ∧ b ≤ 1000005 → sm p (ind a b) = max 0 (b - a)) ∧ p.length = 2000010
theorem w0o : ∃ p, Pts p := by
 refine ⟨ptsN (-1000005) 2000010, fun a b h => ?_, by simp only [ptsN, List.length_map, List.length_range]⟩
 rw [w1m]
 show ovl a b (-1000005) (-1000005 + 2000010) = _
 unfold ovl; omega
def S3 (p : List Int) (f : Int → Int → Int → Int) : Int := sm p fun x => sm p fun y => sm p fun z => f x y z
theorem v6p {p : List Int} {α : Type} (l : List α) (f : α → Int → Int → Int → Int) : S3 p (fun x y z => sm l fun a => f a x y z) = sm l fun a => S3 p (f a) := by
 unfold S3
 rw [y3p l p]
 refine Wq fun x _ => ?_
 rw [y3p l p]
 exact Wq fun y _ => y3p _ _ _
theorem S3_sub {p : List Int} (f g : Int → Int → Int → Int) : S3 p (fun x y z => f x y z - g x y z) = S3 p f - S3 p g := by
 unfold S3; simp only [sm_sub]
theorem w3n {p : List Int} {f g : Int → Int → Int → Int} (h : ∀ x y z, f x y z ≤ g x y z) : S3 p f ≤ S3 p g :=
 y3q fun x _ => y3q fun y _ => y3q fun z _ => h x y z
theorem w3l {p : List Int} {f : Int → Int → Int → Int} (h : ∀ x y z, 0 ≤ f x y z) : 0 ≤ S3 p f :=
 Vp fun x _ => Vp fun y _ => Vp fun z _ => h x y z
theorem w3m {p : List Int} (f g h : Int → Int) : S3 p (fun x y z => f x * g y * h z) = sm p f * sm p g * sm p h := by
 unfold S3
 simp only [x8v, Int.mul_assoc]
 rw [← x8w]
 refine Wq fun x _ => ?_
 rw [← x8w]
theorem v1i {p : List Int} (hp : Pts p) : S3 p (fun _ _ _ => 1) ≤ 8000120000600001000 := by
 have h : sm p (fun _ => 1) ≤ (p.length : Int) * 1 := sm_le fun _ _ => Int.le_refl _
 have hl := hp.2
 have h0 : 0 ≤ sm p (fun _ => 1) := Vp fun _ _ => by omega
 have e : S3 p (fun _ _ _ => 1) = sm p (fun _ => 1) * sm p (fun _ => 1) * sm p (fun _ => 1) := w3m (fun _ => 1) (fun _ => 1) (fun _ => 1)
 rw [e]
 have h1 : sm p (fun _ => 1) ≤ 2000010 := by omega
 have h2 := Int.mul_le_mul (Int.mul_le_mul h1 h1 h0 (by omega)) h1 h0 (by omega)
 have h3 : (2000010 : Int) * 2000010 * 2000010 = 8000120000600001000 := by decide
 rw [h3] at h2
 exact h2
def inR (r : R6) (x y z : Int) : Int := ind r.a r.d x * ind r.b r.e y * ind r.c r.f z
theorem y2u (r : R6) (x y z : Int) : 0 ≤ inR r x y z := Int.mul_nonneg (Int.mul_nonneg (z5t ..) (z5t ..)) (z5t ..)
theorem x4b (r : R6) (x y z : Int) : inR r x y z = if (r.a ≤ x ∧ x < r.d) ∧ (r.b ≤ y ∧ y < r.e) ∧ (r.c ≤ z ∧ z < r.f) then 1 else 0 := by
 unfold inR ind
 by_cases h1 : r.a ≤ x ∧ x < r.d <;> by_cases h2 : r.b ≤ y ∧ y < r.e <;> by_cases h3 : r.c ≤ z ∧ z < r.f <;> simp [h1, h2, h3]
def x6j (r : R6) : Prop := -1000002 ≤ r.a ∧ r.d ≤ 1000002 ∧ -1000002 ≤ r.b ∧ r.e ≤ 1000002 ∧ -1000002 ≤ r.c ∧ r.f ≤ 1000002
theorem ov_S3 {p : List Int} (hp : Pts p) (r s : R6) (hr : x6j r) : S3 p (fun x y z => inR r x y z * inR s x y z) = ov r s := by
 obtain ⟨h1, h2, h3, h4, h5, h6⟩ := hr
 have e : (fun x y z => inR r x y z * inR s x y z) = fun x y z => ind (max r.a s.a) (min r.d s.d) x * ind (max r.b s.b) (min r.e s.e) y * ind (max r.c s.c) (min r.f s.f) z := by
  funext x y z
  rw [← x0v, ← x0v, ← x0v]
  unfold inR
  simp only [Int.mul_comm, Int.mul_left_comm, Int.mul_assoc]
 rw [e, w3m, hp.1 _ _ (by omega), hp.1 _ _ (by omega), hp.1 _ _ (by omega)]
 rfl
def cnt (X : List R6) (x y z : Int) : Int := sm X fun r => inR r x y z
theorem Ku (X : List R6) (x y z : Int) : 0 ≤ cnt X x y z := Vp fun r _ => y2u r x y z
theorem y3e : ∀ (X : List R6), X.Pairwise Ap6 → ∀ x y z, cnt X x y z ≤ 1
 | [], _, x, y, z => by show (0 : Int) ≤ 1; omega
 | r :: X, h, x, y, z => by
  obtain ⟨h1, h2⟩ := List.pairwise_cons.1 h
  have ih := y3e X h2 x y z
  have e : cnt (r :: X) x y z = inR r x y z + cnt X x y z := Vd _ _ _
  rw [e, x4b]
  split
  ·rename_i hp
   have : cnt X x y z = 0 := by
    have : cnt X x y z = sm X fun _ => 0 := Wq fun s hs => by
     rw [x4b]
     refine if_neg fun hq => ?_
     have := h1 s hs
     unfold Ap6 at this
     omega
    rw [this, z1g]
   omega
  ·omega
theorem v6s {p : List Int} (hp : Pts p) (X Y : List R6) (hX : ∀ r ∈ X, x6j r) : S2 X Y = S3 p fun x y z => cnt X x y z * cnt Y x y z := by
 have e : (fun x y z => cnt X x y z * cnt Y x y z) = fun x y z => sm X fun r => sm Y fun s => inR r x y z * inR s x y z := by
  funext x y z
  unfold cnt
  rw [← x8w]
  exact Wq fun r _ => (x8v _ _ _).symm
 rw [e, v6p]
 unfold S2
 refine Wq fun r hr => ?_
 rw [v6p]
 exact Wq fun s _ => (ov_S3 hp r s (hX r hr)).symm
theorem y8d (X Y : List R6) : 0 ≤ S2 X Y := Vp fun r _ => Vp fun s _ => w0s r s
theorem S2_le (X Y : List R6) (hX : ∀ r ∈ X, x6j r) (pX : X.Pairwise Ap6) (pY : Y.Pairwise Ap6) : S2 X Y ≤ 8000120000600001000 := by
 obtain ⟨p, hp⟩ := w0o
 rw [v6s hp X Y hX]
 refine Int.le_trans (w3n (g := fun _ _ _ => 1) fun x y z => ?_) (v1i hp)
 have h1 := y3e X pX x y z
 have h2 := y3e Y pY x y z
 have := Int.mul_le_mul h1 h2 (Ku Y x y z) (by omega)
 simpa using this
theorem x3l {r : R6} (h : z9b r = true) : x6j r := by
 have := z9a h
 unfold x6j; omega
theorem v1o {X Y : List R6} (hX : Yz X = 0) (hY : Yz Y = 0) : z0z (Yf X Y) = S2 X Y := by
 obtain ⟨_, v1, _, p1⟩ := z3x hX
 obtain ⟨_, v2, _, p2⟩ := z3x hY
 have h1 := y8d X Y
 have h2 := S2_le X Y (fun r hr => x3l (v1 r hr)) p1 p2
 exact x8d (com_bx X Y) (by omega)
end Go.Am
end
section
set_option linter.unusedVariables false
set_option linter.unusedSimpArgs false
namespace Go.Am
open Go.Proofs Go.Sort Go.Shelf Go.RowKit Go.Lib
set_option maxRecDepth 100000
set_option maxHeartbeats 4000000
set_option linter.unusedVariables false
set_option linter.unusedSimpArgs false
theorem y7e {X : List R6} (h : v0w X = false) : decide (X.length ≤ 100 ∨ 400 < X.length) = true := by
 have := of_decide_eq_false h
 exact decide_eq_true (by omega)
end Go.Am
end
section
set_option linter.unusedVariables false
set_option linter.unusedSimpArgs false
namespace Go.Am
open Go.Proofs Go.Sort Go.Shelf Go.RowKit Go.Lib
set_option maxRecDepth 100000
set_option maxHeartbeats 4000000
set_option linter.unusedVariables false
set_option linter.unusedSimpArgs false
theorem sm_pos {α : Type} {l : List α} {f : α → Int} (h : sm l f ≠ 0) : ∃ x ∈ l, f x ≠ 0 := Classical.byContradiction fun hn => h (by
 have : sm l f = sm l fun _ => 0 := Wq fun x hx => Classical.byContradiction fun e => hn ⟨x, hx, e⟩
 rw [this, z1g])
theorem y9w {p : List Int} (hp : Pts p) {t : Int} (h : -1000005 ≤ t ∧ t < 1000005) : t ∈ p := by
 have h1 := hp.1 t (t + 1) (by omega)
 have h2 : sm p (ind t (t + 1)) ≠ 0 := by rw [h1]; omega
 obtain ⟨x, hx, hn⟩ := sm_pos h2
 unfold ind at hn
 split at hn
 ·have : x = t := by omega
  rwa [← this]
 ·exact absurd rfl hn
def inS (X : List R6) (x y z : Int) : Prop := ∃ r ∈ X, (r.a ≤ x ∧ x < r.d) ∧ (r.b ≤ y ∧ y < r.e) ∧ (r.c ≤ z ∧ z < r.f)
theorem v4l (X : List R6) (x y z : Int) : inS X x y z ↔ ptL y1t.inB X (z, x, y) := by
 constructor
 ·rintro ⟨r, hr, h1, h2, h3⟩
  exact ⟨r, hr, h3.1, h3.2, h1.1, h1.2, h2.1, h2.2⟩
 ·rintro ⟨r, hr, h1, h2, h3, h4, h5, h6⟩
  exact ⟨r, hr, ⟨h3, h4⟩, ⟨h5, h6⟩, h1, h2⟩
theorem z5f (X : List R6) (hX : X.Pairwise Ap6) (x y z : Int) : (inS X x y z → cnt X x y z = 1) ∧ (¬ inS X x y z → cnt X x y z = 0) := by
 have h0 := Ku X x y z
 have h1 := y3e X hX x y z
 constructor
 ·rintro ⟨r, hr, hp⟩
  have : cnt X x y z ≠ 0 := fun e => by
   have := z2a (fun r _ => y2u r x y z) e r hr
   rw [x4b, if_pos hp] at this
   cases this
  omega
 ·intro hn
  have : cnt X x y z = sm X fun _ => 0 := Wq fun r hr => by
   rw [x4b]
   exact if_neg fun hp => hn ⟨r, hr, hp⟩
  rw [this, z1g]
structure Sol (X : List R6) : Prop where
 len : X.length ≤ 400
 val : ∀ r ∈ X, z9b r = true
 ap : X.Pairwise Ap6
theorem Sol.of {X : List R6} (h : Yz X = 0) : Sol X := ⟨(z3x h).1, (z3x h).2.1, (z3x h).2.2.2⟩
theorem Sol.near {X : List R6} (h : Sol X) : ∀ r ∈ X, x6j r := fun r hr => x3l (h.val r hr)
theorem Sol.bnd {X : List R6} (h : Sol X) {x y z : Int} (hp : inS X x y z) : (-1000000 ≤ x ∧ x < 1000000) ∧ (-1000000 ≤ y ∧ y < 1000000) ∧ (-1000000 ≤ z ∧ z < 1000000) := by
 obtain ⟨r, hr, h1, h2, h3⟩ := hp
 have := z9a (h.val r hr)
 omega
theorem bx_S3 {p : List Int} (hp : Pts p) (r : R6) (hr : z9b r = true) : S3 p (inR r) = bxV r := by
 have hv := z9a hr
 show S3 p (fun x y z => ind r.a r.d x * ind r.b r.e y * ind r.c r.f z) = _
 rw [w3m, hp.1 _ _ (by omega), hp.1 _ _ (by omega), hp.1 _ _ (by omega)]
 unfold bxV
 rw [show max 0 (r.d - r.a) = r.d - r.a by omega, show max 0 (r.e - r.b) = r.e - r.b by omega, show max 0 (r.f - r.c) = r.f - r.c by omega]
theorem vol_S3 {p : List Int} (hp : Pts p) {X : List R6} (h : Sol X) : sm X bxV = S3 p (cnt X) := by
 show _ = S3 p (fun x y z => sm X fun r => inR r x y z)
 rw [v6p]
 exact Wq fun r hr => (bx_S3 hp r (h.val r hr)).symm
theorem cnt_S3 {p : List Int} (hp : Pts p) {X : List R6} (h : Sol X) : 0 ≤ S3 p (cnt X) ∧ S3 p (cnt X) ≤ 8000120000600001000 :=
 ⟨w3l fun x y z => Ku X x y z, Int.le_trans (w3n (g := fun _ _ _ => 1) fun x y z => y3e X h.ap x y z) (v1i hp)⟩
theorem v1r {p : List Int} (hp : Pts p) {X : List R6} (h : Sol X) : z0z X = S3 p (cnt X) := by
 have := cnt_S3 hp h
 exact x8d (vol_S3 hp h) (by omega)
theorem x2n {p : List Int} {f : Int → Int → Int → Int} (h0 : ∀ x y z, 0 ≤ f x y z) : S3 p f = 0 ↔ ∀ x ∈ p, ∀ y ∈ p, ∀ z ∈ p, f x y z = 0 := by
 constructor
 ·intro h x hx y hy z hz
  have h1 := z2a (fun x _ => Vp fun y _ => Vp fun z _ => h0 x y z) h x hx
  have h2 := z2a (fun y _ => Vp fun z _ => h0 x y z) h1 y hy
  exact z2a (fun z _ => h0 x y z) h2 z hz
 ·intro h
  have : S3 p f = sm p fun _ => 0 := Wq fun x hx => by
   have : sm p (fun y => sm p fun z => f x y z) = sm p fun _ => 0 := Wq fun y hy => by
    have : sm p (fun z => f x y z) = sm p fun _ => 0 := Wq fun z hz => h x hx y hy z hz
    rw [this, z1g]
   rw [this, z1g]
  rw [this, z1g]
theorem Sol.pts {p : List Int} (hp : Pts p) {X : List R6} (h : Sol X) {x y z : Int} (hq : inS X x y z) : x ∈ p ∧ y ∈ p ∧ z ∈ p := by
 have := h.bnd hq
 exact ⟨y9w hp (by omega), y9w hp (by omega), y9w hp (by omega)⟩
theorem v6q {X Y : List R6} (hX : Sol X) (hY : Sol Y) : S2 X Y = 0 ↔ ∀ x y z, ¬ (inS X x y z ∧ inS Y x y z) := by
 obtain ⟨p, hp⟩ := w0o
 rw [v6s hp X Y hX.near, x2n fun x y z => Int.mul_nonneg (Ku X x y z) (Ku Y x y z)]
 constructor
 ·rintro h x y z ⟨h1, h2⟩
  obtain ⟨q1, q2, q3⟩ := hX.pts hp h1
  have := h x q1 y q2 z q3
  rw [(z5f X hX.ap x y z).1 h1, (z5f Y hY.ap x y z).1 h2] at this
  cases this
 ·intro h x _ y _ z _
  by_cases h1 : inS X x y z
  ·rw [(z5f Y hY.ap x y z).2 fun h2 => h x y z ⟨h1, h2⟩, Int.mul_zero]
  ·rw [(z5f X hX.ap x y z).2 h1, Int.zero_mul]
theorem v1j {X Y : List R6} (hX : Sol X) (hY : Sol Y) : S2 X Y = z0z X ↔ ∀ x y z, inS X x y z → inS Y x y z := by
 obtain ⟨p, hp⟩ := w0o
 have e : S3 p (cnt X) - S2 X Y = S3 p fun x y z => cnt X x y z - cnt X x y z * cnt Y x y z := by
  rw [S3_sub, ← v6s hp X Y hX.near]
 have h0 : ∀ x y z, 0 ≤ cnt X x y z - cnt X x y z * cnt Y x y z := fun x y z => by
  have h1 := Ku X x y z
  have h2 := y3e Y hY.ap x y z
  have := Int.mul_le_mul_of_nonneg_left h2 h1
  omega
 rw [v1r hp hX]
 constructor
 ·intro h x y z h1
  obtain ⟨q1, q2, q3⟩ := hX.pts hp h1
  have h2 := (x2n h0).1 (by rw [← e]; omega) x q1 y q2 z q3
  rw [(z5f X hX.ap x y z).1 h1] at h2
  exact Classical.byContradiction fun h3 => by
   rw [(z5f Y hY.ap x y z).2 h3] at h2
   cases h2
 ·intro h
  have := (x2n (p := p) h0).2 fun x _ y _ z _ => by
   by_cases h1 : inS X x y z
   ·rw [(z5f X hX.ap x y z).1 h1, (z5f Y hY.ap x y z).1 (h x y z h1)]; rfl
   ·rw [(z5f X hX.ap x y z).2 h1, Int.zero_mul]; rfl
  omega
end Go.Am
end
section
set_option linter.unusedVariables false
set_option linter.unusedSimpArgs false
namespace Go.Am
open Go.Proofs Go.Sort Go.Shelf Go.RowKit Go.Lib
set_option maxRecDepth 100000
set_option maxHeartbeats 4000000
set_option linter.unusedVariables false
set_option linter.unusedSimpArgs false
theorem y7j (E : Int → Int) (cs : List Int) : ∀ (k i : Nat), y1o E cs k i = 0 → ∀ j, i ≤ j → j < i + k → E (rd cs j) = 0
 | 0, i, _, j, h1, h2 => by omega
 | k + 1, i, h, j, h1, h2 => by
  change (bif E (rd cs i) != 0 then E (rd cs i) else y1o E cs k (i + 1)) = 0 at h
  cases g : (E (rd cs i) != 0) with
  | true => rw [g, cond_true] at h; rw [h] at g; cases g
  | false =>
   rw [g, cond_false] at h
   rcases Nat.eq_or_lt_of_le h1 with e | e
   ·rw [← e]; simpa using g
   ·exact y7j E cs k (i + 1) h j e (by omega)
theorem Dim.goS_congr {α β : Type} (D : Dim α β) (f g : Int → List β) (cs : List Int) : ∀ (k i : Nat) (s : Sw α β), (∀ j, i ≤ j → j < i + k → f (rd cs j) = g (rd cs j)) → D.goS f cs k i s = D.goS g cs k i s
 | 0, i, s, _ => rfl
 | k + 1, i, s, h => by
  show D.goS f cs k (i + 1) (D.oneS (f (rd cs i)) _ _ s) = D.goS g cs k (i + 1) (D.oneS (g (rd cs i)) _ _ s)
  rw [h i (Nat.le_refl _) (by omega)]
  exact goS_congr D f g cs k (i + 1) _ fun j h1 h2 => h j (by omega) (by omega)
theorem w4l {q : Op} {a b : List R6} (h : slE q a b = 0) : Yz a = 0 ∧ Yz b = 0 ∧ y1o (slA q a b) (D6.cuts (a ++ b)) ((D6.cuts (a ++ b)).length - 1) 0 = 0 := by
 unfold slE at h
 cases g1 : (Yz a != 0) with
 | true => rw [g1, cond_true] at h; rw [h] at g1; cases g1
 | false =>
  cases g2 : (Yz b != 0) with
  | true => rw [g1, g2, cond_false, cond_true] at h; rw [h] at g2; cases g2
  | false =>
   rw [g1, g2, cond_false, cond_false] at h
   unfold eJ at h
   refine ⟨by simpa using g1, by simpa using g2, ?_⟩
   cases g3 : (y1o (slA q a b) (D6.cuts (a ++ b)) ((D6.cuts (a ++ b)).length - 1) 0 != 0) with
   | true => rw [g3, cond_true] at h; rw [h] at g3; cases g3
   | false => simpa using g3
theorem x9z {l : List R4} (h : z8e l = 0) : ∀ r ∈ l, Kj r = true := by
 unfold z8e at h
 cases g1 : decide (400 < l.length) with
 | true => rw [g1] at h; cases h
 | false =>
  cases g2 : l.all Kj with
  | false => rw [g1, g2] at h; cases h
  | true => exact List.all_eq_true.1 g2
theorem x9x {l : List R4} (h : Xd l = 0) : l.length ≤ 400 ∧ (∀ r ∈ l, Kj r = true) ∧ Zd l = D4.out l := by
 unfold Xd at h
 cases g1 : decide (400 < l.length) with
 | true => rw [g1] at h; cases h
 | false =>
  cases g2 : l.all Kj with
  | false => rw [g1, g2] at h; cases h
  | true =>
   rw [g1, g2, cond_false, cond_true] at h
   have hl : l.length ≤ 400 := by have := of_decide_eq_false g1; omega
   refine ⟨hl, List.all_eq_true.1 g2, ?_⟩
   have h2 : (D4.out l).length ≤ 400 := y4z h
   exact (w5g (List.all_eq_true.1 g2) hl h2).1
noncomputable instance ptDec6 (l : List R6) (p : Int × Int × Int) : Decidable (ptL y1t.inB l p) := Classical.propDecidable _
theorem x8y {q : Op} {a b : List R6} {x : Int} (h : slA q a b x = 0) : z5l.can (slS q a b x) ∧ ∀ p, ptL z5l.inB (slS q a b x) p ↔ opB q.k (decide (ptL y1t.inB a (x, p))) (decide (ptL y1t.inB b (x, p))) = true := by
 obtain ⟨h1, h2, h3⟩ := y3r h
 obtain ⟨c1, c2, _⟩ := x3c h3
 obtain ⟨k1, k2, _⟩ := v3m q.k (x9z c1) (x9z c2)
 refine ⟨k1, fun p => ?_⟩
 have e : ∀ l : List R6, Xd (D6.inn l x) = 0 → decide (ptL z5l.inB (Zd (D6.inn l x)) p) = decide (ptL y1t.inB l (x, p)) := fun l hl => by
  obtain ⟨m1, m2, m3⟩ := x9x hl
  have : ptL z5l.inB (Zd (D6.inn l x)) p ↔ ptL y1t.inB l (x, p) := by
   rw [m3, (v3h m2 m1).2 p]
   exact Dim.pt_inn (D := D6) z5l.inB l x p
  exact decide_eq_decide.2 this
 rw [show ptL z5l.inB (slS q a b x) p ↔ _ from k2 p, e a h1, e b h2]
theorem v2f {q : Op} {a b : List R6} (h : slE q a b = 0) : y1t.can (slJ q a b) ∧ ∀ p, ptL y1t.inB (slJ q a b) p ↔ opB q.k (decide (ptL y1t.inB a p)) (decide (ptL y1t.inB b p)) = true := by
 have hf := y7j _ _ _ _ (w4l h).2.2
 have hc : (D6.cuts (a ++ b)).Pairwise (· < ·) := by
  show (Ur (D6.ends (a ++ b))).Pairwise (· < ·)
  rw [Kc]; exact (Wo _).1
 have eS : slJ q a b = (D6.goS (fun x => bif slA q a b x != 0 then [] else slS q a b x) (D6.cuts (a ++ b)) ((D6.cuts (a ++ b)).length - 1) 0 ⟨[], [], 0, 0⟩).out := by
  unfold slJ
  rw [D6.goS_congr (slS q a b) (fun x => bif slA q a b x != 0 then [] else slS q a b x)]
  intro j h1 h2
  show _ = bif slA q a b _ != 0 then _ else _
  rw [hf j h1 h2]; rfl
 have hs : ∀ x, z5l.can (bif slA q a b x != 0 then [] else slS q a b x) := fun x => by
  cases g : (slA q a b x != 0) with
  | true => exact z5l.nil
  | false => exact (x8y (by simpa using g)).1
 obtain ⟨h1, h2⟩ := Dim.goS_can x2p x9g z5l (cs := D6.cuts (a ++ b)) hc hs
 rw [eS]
 refine ⟨h1, fun ⟨x, p⟩ => ?_⟩
 rw [show ptL y1t.inB _ (x, p) ↔ _ from h2 x p]
 have ia : ∀ j, j + 1 < (D6.cuts (a ++ b)).length → rd (D6.cuts (a ++ b)) j ≤ x → x < rd (D6.cuts (a ++ b)) (j + 1) → (ptL z5l.inB (bif slA q a b (rd (D6.cuts (a ++ b)) j) != 0 then [] else slS q a b (rd (D6.cuts (a ++ b)) j)) p ↔ opB q.k (decide (ptL y1t.inB a (x, p))) (decide (ptL y1t.inB b (x, p))) = true) := fun j j1 j2 j3 => by
  have z := hf j (Nat.zero_le _) (by omega)
  have e : ∀ l : List R6, (∀ r ∈ l, r ∈ a ++ b) → decide (ptL y1t.inB l (rd (D6.cuts (a ++ b)) j, p)) = decide (ptL y1t.inB l (x, p)) := fun l hl => by
   have : ptL y1t.inB l (rd (D6.cuts (a ++ b)) j, p) ↔ ptL y1t.inB l (x, p) := by
    rw [show ptL y1t.inB l (rd (D6.cuts (a ++ b)) j, p) ↔ _ from (Dim.pt_inn (D := D6) z5l.inB l _ p).symm, Dim.inn_slab (a ++ b) l hl j1 j2 j3]
    exact Dim.pt_inn (D := D6) z5l.inB l x p
   exact decide_eq_decide.2 this
  rw [z, show ((0 : Int) != 0) = false from rfl, cond_false, (x8y z).2, e a fun r hr => List.mem_append.2 (.inl hr), e b fun r hr => List.mem_append.2 (.inr hr)]
 constructor
 ·rintro ⟨j, j1, j2, j3, j4⟩
  exact (ia j j1 j2 j3).1 j4
 ·intro hp
  refine Classical.byContradiction fun hn => ?_
  have hx : ∀ j, j + 1 < (D6.cuts (a ++ b)).length → ¬ (rd (D6.cuts (a ++ b)) j ≤ x ∧ x < rd (D6.cuts (a ++ b)) (j + 1)) := fun j j1 j2 => hn ⟨j, j1, j2.1, j2.2, (ia j j1 j2.1 j2.2).2 hp⟩
  have e : ∀ l : List R6, (∀ r ∈ l, r ∈ a ++ b) → decide (ptL y1t.inB l (x, p)) = false := fun l hl => decide_eq_false fun g => by
   have g := (Dim.pt_inn (D := D6) z5l.inB l x p).2 g
   rw [Dim.inn_out (a ++ b) l hl hx] at g
   exact z9o _ _ g
  rw [e a fun r hr => List.mem_append.2 (.inl hr), e b fun r hr => List.mem_append.2 (.inr hr), v0e] at hp
  cases hp
noncomputable instance inSDec (l : List R6) (x y z : Int) : Decidable (inS l x y z) := Classical.propDecidable _
theorem x2t {q : Op} {a b : List R6} (h : slE q a b = 0) : (z7e q a b).length = 0 ↔ ∀ x y z, ¬ opB q.k (decide (inS a x y z)) (decide (inS b x y z)) = true := by
 obtain ⟨h1, h2⟩ := v2f h
 have e : z7e q a b = slJ q a b := y0p _ (by rw [h]; rfl)
 have ei : ∀ (l : List R6) (x y z : Int) [Decidable (inS l x y z)], decide (inS l x y z) = decide (ptL y1t.inB l (z, x, y)) := fun l x y z _ => decide_eq_decide.2 (v4l l x y z)
 rw [e]
 constructor
 ·intro hl x y z hp
  rw [ei, ei] at hp
  rw [List.eq_nil_of_length_eq_zero hl] at h2
  exact z9o _ _ ((h2 (z, x, y)).2 hp)
 ·intro hn
  rw [y2r y1t h1 fun ⟨z, x, y⟩ hp => hn x y z (by rw [ei, ei]; exact (h2 (z, x, y)).1 hp)]
  rfl
end Go.Am
end
section
set_option linter.unusedVariables false
set_option linter.unusedSimpArgs false
namespace Go.Am
open Go.Proofs Go.Sort Go.Shelf Go.RowKit Go.Lib
set_option maxRecDepth 100000
set_option maxHeartbeats 4000000
set_option linter.unusedVariables false
set_option linter.unusedSimpArgs false
theorem vom_run (X Y : List R6) : ∃ N, Ya (y8i X Y) N (z7p X Y) = .ret [.bool true] := by
 refine ⟨0, ?_⟩
 unfold z7p
 simp only [Zg, show ∀ l, z1u l = true from fun _ => rfl, show ∀ l, z3k l = true from fun _ => rfl, show ∀ q a b, z2b q a b = true from fun _ _ _ => rfl, cond_true]
 rcases Yb (v0w X) with g1 | g1
 ·simp only [g1, cond_true]; rfl
 rcases Yb (z2y X != 0) with g2 | g2
 ·simp only [g1, g2, cond_true, cond_false]; rfl
 rcases Yb (v0w Y) with g3 | g3
 ·simp only [g1, g2, g3, cond_true, cond_false]; rfl
 rcases Yb (z2y Y != 0) with g4 | g4
 ·simp only [g1, g2, g3, g4, cond_true, cond_false]; rfl
 have hX : Yz X = 0 := by rw [y4y]; simpa using g2
 have hY : Yz Y = 0 := by rw [y4y]; simpa using g4
 have b1 : (Yz X != 0) = false := by rw [hX]; rfl
 have b2 : (Yz Y != 0) = false := by rw [hY]; rfl
 have o3 : Va X Y = true := by show Wk X Y = true; unfold Wk; rw [y7e g1, y7e g3]; rfl
 have f3 : (Qk X Y != 0) = false := by show (Ue X Y != 0) = false; unfold Ue; rw [b1, b2]; rfl
 have f7 : Uj X Y = relN (S2 X Y) (z0z X) (z0z Y) (w3v X Y) := by unfold Uj; rw [b1, b2]; show relN (z0z (Yf X Y)) _ _ _ = _; rw [v1o hX hY]
 simp only [g1, g2, g3, g4, o3, f3, cond_true, cond_false]
 rcases Yb (y1s Op.e X Y != 0) with e1 | e1
 ·simp only [e1, cond_true]; rfl
 rcases Yb (y1s Op.d X Y != 0) with e2 | e2
 ·simp only [e1, e2, cond_true, cond_false]; rfl
 rcases Yb (y1s Op.d Y X != 0) with e3 | e3
 ·simp only [e1, e2, e3, cond_true, cond_false]; rfl
 have sX := Sol.of hX
 have sY := Sol.of hY
 have h0 := y8d X Y
 have n1 : (z7e Op.e X Y).length = 0 ↔ S2 X Y = 0 := by
  rw [x2t (show slE Op.e X Y = 0 from (by simpa using e1 : y1s Op.e X Y = 0)), v6q sX sY]
  constructor
  ·exact fun h x y z hp => h x y z (by
    show (decide (inS X x y z) && decide (inS Y x y z)) = true
    rw [decide_eq_true hp.1, decide_eq_true hp.2]; rfl)
  ·exact fun h x y z hp => h x y z (by
    change (decide (inS X x y z) && decide (inS Y x y z)) = true at hp
    rw [Bool.and_eq_true] at hp
    exact ⟨of_decide_eq_true hp.1, of_decide_eq_true hp.2⟩)
 have n2 : ∀ A B : List R6, slE Op.d A B = 0 → ((z7e Op.d A B).length = 0 ↔ ∀ x y z, inS A x y z → inS B x y z) := fun A B e => by
  rw [x2t e]
  constructor
  ·exact fun h x y z hp => Classical.byContradiction fun hn => h x y z (by
    show (decide (inS A x y z) && !decide (inS B x y z)) = true
    rw [decide_eq_true hp, decide_eq_false hn]; rfl)
  ·exact fun h x y z hp => by
    change (decide (inS A x y z) && !decide (inS B x y z)) = true at hp
    rw [Bool.and_eq_true] at hp
    rw [decide_eq_true (h x y z (of_decide_eq_true hp.1))] at hp
    cases hp.2
 have n3 : (z7e Op.d X Y).length = 0 ↔ S2 X Y = z0z X := by rw [n2 X Y (by simpa using e2 : y1s Op.d X Y = 0), v1j sX sY]
 have n4 : (z7e Op.d Y X).length = 0 ↔ S2 X Y = z0z Y := by rw [n2 Y X (by simpa using e3 : y1s Op.d Y X = 0), v6r X Y, v1j sY sX]
 have z : ∀ (n : Nat) (P : Prop) [Decidable P], (n = 0 ↔ P) → (((n : Nat) : Int) == 0) = decide P := fun n P _ h => by
  by_cases hp : P
  ·rw [decide_eq_true hp, h.2 hp]; rfl
  ·rw [decide_eq_false hp]
   have : ((n : Nat) : Int) ≠ 0 := fun e => hp (h.1 (by omega))
   simpa using this
 rw [z _ _ n1, z _ _ n3, z _ _ n4, f7]
 simp only [e1, e2, e3, cond_false]
 unfold relN
 generalize w3v X Y = c
 revert h0
 generalize S2 X Y = n
 generalize z0z X = v
 generalize z0z Y = u
 intro h0
 have eb : ∀ a b : Int, (a == b) = decide (a = b) := fun a b => rfl
 by_cases q : n = 0
 ·rw [decide_eq_true q, decide_eq_false (show ¬ n > 0 by omega)]
  cases decide (c > 0) <;> rfl
 ·rw [decide_eq_false q, decide_eq_true (show n > 0 by omega), eb n v, eb n u]
  cases decide (n = v) <;> cases decide (n = u) <;> rfl
end Go.Am
end
