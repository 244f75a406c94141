/- A part of a proof: several texts in one. -/
import Derived.Test.YtijpnpkolglajaaGreatKe3
set_option maxRecDepth 1000000
set_option maxHeartbeats 8000000
set_option linter.unusedVariables false
set_option linter.unusedSimpArgs false
noncomputable section
namespace Go.Am
open Go.Proofs.Tryz
open Go.Proofs
inductive rrcS where
 | h0 (v5 : Int) (v6 : Int)
 | h1 (v5 : Int) (v6 : Int) (v7 : Int)
 | h2 (v5 : Int) (v6 : Int) (v7 : Int) (v8 : Int)
 | h3 (v5 : Int) (v6 : Int) (v7 : Int) (v8 : Int) (v9 : Int)
def rrcC (l0 : List R6) (l1 : List R6) : rrcS → Cfg
 | .h0 v5 v6 => ⟨⟨73, 0, true⟩, none, (Zg prog 59 [1, 1, 0, 1, 0, 0] 0), none, (Zy prog 3), ⟨Yj [(0, (.dat l0.length (Zz l0))), (1, (.dat l1.length (Zz l1))), (5, (ii v5)), (6, (ii v6))], Vf [] 0, 0, [], true⟩, [], .leaf⟩
 | .h1 v5 v6 v7 => ⟨⟨73, 0, true⟩, none, (Zg prog 59 [1, 1, 0, 1, 0, 0, 1, 0, 0, 1, 0, 0] 0), none, (Zy prog 3), ⟨Yj [(0, (.dat l0.length (Zz l0))), (1, (.dat l1.length (Zz l1))), (5, (ii v5)), (6, (ii v6)), (7, (ii v7))], Vf [] 0, 0, [], true⟩, [], .leaf⟩
 | .h2 v5 v6 v7 v8 => ⟨⟨73, 0, true⟩, none, (Zg prog 59 [1, 1, 0, 1, 0, 0, 1, 0, 0, 1, 0, 0, 1, 0, 0, 1, 0, 0] 0), none, (Zy prog 3), ⟨Yj [(0, (.dat l0.length (Zz l0))), (1, (.dat l1.length (Zz l1))), (5, (ii v5)), (6, (ii v6)), (7, (ii v7)), (8, (ii v8))], Vf [] 0, 0, [], true⟩, [], .leaf⟩
 | .h3 v5 v6 v7 v8 v9 => ⟨⟨73, 0, true⟩, none, (Zg prog 59 [1, 1, 0, 1, 0, 0, 1, 0, 0, 1, 0, 0, 1, 0, 0, 1, 0, 0, 1, 0, 0, 1, 0, 0] 0), none, (Zy prog 3), ⟨Yj [(0, (.dat l0.length (Zz l0))), (1, (.dat l1.length (Zz l1))), (5, (ii v5)), (6, (ii v6)), (7, (ii v7)), (8, (ii v8)), (9, (ii v9))], Vf [] 0, 0, [], true⟩, [], .leaf⟩
def rrcN0 : List (Option (List Nat)) := [some [0, 1, 5, 6]]
def rrcM0 : List (Option (List Nat)) := []
def rrcN1 : List (Option (List Nat)) := [some [0, 1, 5, 6, 7]]
def rrcM1 : List (Option (List Nat)) := []
def rrcN2 : List (Option (List Nat)) := [some [0, 1, 5, 6, 7, 8]]
def rrcM2 : List (Option (List Nat)) := []
def rrcN3 : List (Option (List Nat)) := [some [0, 1, 5, 6, 7, 8, 9]]
def rrcM3 : List (Option (List Nat)) := []
def Vi (l0 : List R6) (l1 : List R6) : rrcS → Xd rrcS
 | .h0 v5 v6 => (bif (decide (v6 < (l0.length : Int))) then (bif ((decide (0 ≤ v6 ∧ v6 < (l0.length : Int))) && true) then (.to (.h1 v5 v6 (rd l0 v6.toNat).a)) else .stuck) else (.ret [(.int .i64 v5)]))
 | .h1 v5 v6 v7 => (bif ((decide (0 ≤ v6 ∧ v6 < (l0.length : Int))) && true) then (bif (decide (v7 < (rd l0 v6.toNat).d)) then (.to (.h2 v5 v6 v7 (rd l0 v6.toNat).b)) else (.to (.h0 v5 (IntKind.wrap .i64 (v6 + 1))))) else .stuck)
 | .h2 v5 v6 v7 v8 => (bif ((decide (0 ≤ v6 ∧ v6 < (l0.length : Int))) && true) then (bif (decide (v8 < (rd l0 v6.toNat).e)) then (.to (.h3 v5 v6 v7 v8 (rd l0 v6.toNat).c)) else (.to (.h1 v5 v6 (IntKind.wrap .i64 (v7 + 1))))) else .stuck)
 | .h3 v5 v6 v7 v8 v9 => (bif ((decide (0 ≤ v6 ∧ v6 < (l0.length : Int))) && true) then (bif (decide (v9 < (rd l0 v6.toNat).f)) then (bif (z0e v7 v8 v9 (cvT l1)) then (.to (.h3 (Wt v5 (frmV v7 v8 v9 (cvT l1))) v6 v7 v8 (IntKind.wrap .i64 (v9 + 1)))) else .stuck) else (.to (.h2 v5 v6 v7 (IntKind.wrap .i64 (v8 + 1))))) else .stuck)
def y2y (l0 : List R6) (l1 : List R6) : Xd rrcS := (.to (.h0 0 0))
theorem x4c (l0 : List R6) (l1 : List R6) : ∀ s, Wj prog (Zy prog 59) (rrcC l0 l1) (rrcC l0 l1 s) (Vi l0 l1 s)
 | .h0 v5 v6 => (lb (fun k0 => (lo fun o0 => (sl z1p 24 [] ⟨[], [], rrcN1, rrcM1⟩ ⟨[], [], []⟩ [true] (ww o0 (tt k0 nn))))) (fun k0 => (lr 73 3 [1, 1, 1, 1, 1, 1, 0] 1 3 [(4, (ii v5))] (sl z1p 15 [] ⟨[], [], [some [4]], []⟩ ⟨[], [], []⟩ [false] (tt k0 nn)))))
 | .h1 v5 v6 v7 => (lo fun bB => (lb (fun k0 => (sl z1p 28 [] ⟨[], [], rrcN2, rrcM2⟩ ⟨[], [], []⟩ [true] (ww bB (tt k0 (ww bB nn))))) (fun k0 => (sl z1p 21 [] ⟨[], [], rrcN0, rrcM0⟩ ⟨[], [], []⟩ [false] (tt k0 (ww bB nn))))))
 | .h2 v5 v6 v7 v8 => (lo fun bB => (lb (fun k0 => (sl z1p 28 [] ⟨[], [], rrcN3, rrcM3⟩ ⟨[], [], []⟩ [true] (ww bB (tt k0 (ww bB nn))))) (fun k0 => (sl z1p 21 [] ⟨[], [], rrcN1, rrcM1⟩ ⟨[], [], []⟩ [false] (tt k0 (ww bB nn))))))
 | .h3 v5 v6 v7 v8 v9 => (lo fun bB => (lb (fun k0 => (lo fun o0 => (sl z1p 34 [] ⟨[], [], rrcN3, rrcM3⟩ ⟨[], [], []⟩ [true] (pp (pp (xr l1) (xw o0)) (tt k0 (ww bB nn)))))) (fun k0 => (sl z1p 21 [] ⟨[], [], rrcN2, rrcM2⟩ ⟨[], [], []⟩ [false] (tt k0 (ww bB nn))))))
theorem y8f (l0 : List R6) (l1 : List R6) : Wj prog (Zy prog 59) (rrcC l0 l1) (Zf prog 59 [(.dat l0.length (Zz l0)), (.dat l1.length (Zz l1))] true []) (y2y l0 l1) := (sl z1p 15 [] ⟨[], [], rrcN0, rrcM0⟩ ⟨[], [], []⟩ [] nn)
theorem w2v (l0 : List R6) (l1 : List R6) (n : Nat) (vs : List AVal) (h : Yv (Vi l0 l1) n (y2y l0 l1) = .ret vs) : Jo prog (Zy prog 59) (Zf prog 59 [(.dat l0.length (Zz l0)), (.dat l1.length (Zz l1))] true []) vs := by
 have := Zo (x4c l0 l1) n _ (y8f l0 l1)
 rwa [h] at this
inductive nr39S where
 | h0 (v3 : Int)
def v2r (l0 : List R6) : nr39S → Cfg
 | .h0 v3 => ⟨⟨103, 0, true⟩, none, (Zg prog 15 [1, 1, 0, 1, 0, 0] 0), none, (Zy prog 15), ⟨Yj [(0, (.dat l0.length (Zz l0))), (3, (ii v3))], Vf [] 0, 0, [], true⟩, [], .leaf⟩
def w8r : List (Option (List Nat)) := [some [0, 3]]
def w8s : List (Option (List Nat)) := []
def z2l (l0 : List R6) : nr39S → Xd nr39S
 | .h0 v3 => (bif (decide (v3 < (l0.length : Int))) then (bif ((decide (0 ≤ v3 ∧ v3 < (l0.length : Int))) && true) then (bif (decide ((Kz (Kz (rd l0 v3.toNat).a (rd l0 v3.toNat).b) (rd l0 v3.toNat).c) < (-12))) then (.ret [(.bool false)]) else (bif (decide ((Wt (Wt (rd l0 v3.toNat).d (rd l0 v3.toNat).e) (rd l0 v3.toNat).f) > 12)) then (.ret [(.bool false)]) else (bif (decide ((Kz (Kz (rd l0 v3.toNat).d (rd l0 v3.toNat).e) (rd l0 v3.toNat).f) < (-12))) then (.ret [(.bool false)]) else (bif (decide ((Wt (Wt (rd l0 v3.toNat).a (rd l0 v3.toNat).b) (rd l0 v3.toNat).c) > 12)) then (.ret [(.bool false)]) else (.to (.h0 (IntKind.wrap .i64 (v3 + 1)))))))) else .stuck) else (.ret [(.bool (decide ((l0.length : Int) ≤ 6)))]))
def z4q (l0 : List R6) : Xd nr39S := (bif (decide ((l0.length : Int) > 400)) then (.ret [(.bool (decide ((l0.length : Int) ≤ 420)))]) else (.to (.h0 0)))
theorem y9d (l0 : List R6) : ∀ s, Wj prog (Zy prog 15) (v2r l0) (v2r l0 s) (z2l l0 s)
 | .h0 v3 => (lb (fun k0 => (lo fun aH => (lb (fun k1 => (lr 103 15 [1, 1, 0, 1, 0, 0, 1, 0, 0, 0, 1, 0, 0] 1 15 [(2, (.bool false))] (sl z1p 20 [] ⟨[], [], [some [2]], []⟩ ⟨[], [], []⟩ (trs 22 []) (tt k1 (ww aH (ww aH (ww aH (tt k0 nn)))))))) (fun k1 => (lb (fun k2 => (lr 103 15 [1, 1, 0, 1, 0, 0, 1, 0, 0, 0, 1, 0, 0] 1 15 [(2, (.bool false))] (sl z1p 20 [] ⟨[], [], [some [2]], []⟩ ⟨[], [], []⟩ [true, false, false, false, false, false, false, false, false, false, false, false, false, false, false, false, false, false, false, false, false, true] (tt k2 (ww aH (ww aH (ww aH (tt k1 (ww aH (ww aH (ww aH (tt k0 nn)))))))))))) (fun k2 => (lb (fun k3 => (lr 103 15 [1, 1, 0, 1, 0, 0, 1, 0, 0, 1, 1, 0, 0] 1 15 [(2, (.bool false))] (sl z1p 24 [] ⟨[], [], [some [2]], []⟩ ⟨[], [], []⟩ [true, false, false, false, false, false, false, false, false, false, false, false, false, false, false, false, false, false, false, false, false, false, true, true, true, true, true, true, true, true, true, true, true, true, true, true, true, true, true, true, true, true, true] (tt k3 (ww aH (ww aH (ww aH (tt k2 (ww aH (ww aH (ww aH (tt k1 (ww aH (ww aH (ww aH (tt k0 nn)))))))))))))))) (fun k3 => (lb (fun k4 => (lr 103 15 [1, 1, 0, 1, 0, 0, 1, 0, 0, 1, 1, 0, 0] 1 15 [(2, (.bool false))] (sl z1p 24 [] ⟨[], [], [some [2]], []⟩ ⟨[], [], []⟩ [true, false, false, false, false, false, false, false, false, false, false, false, false, false, false, false, false, false, false, false, false, false, false, false, false, false, false, false, false, false, false, false, false, false, false, false, false, false, false, false, false, false, true] (tt k4 (ww aH (ww aH (ww aH (tt k3 (ww aH (ww aH (ww aH (tt k2 (ww aH (ww aH (ww aH (tt k1 (ww aH (ww aH (ww aH (tt k0 nn)))))))))))))))))))) (fun k4 => (sl z1p 28 [] ⟨[], [], w8r, w8s⟩ ⟨[], [], []⟩ [true, false, false, false, false, false, false, false, false, false, false, false, false, false, false, false, false, false, false, false, false, false, false, false, false, false, false, false, false, false, false, false, false, false, false, false, false, false, false, false, false, false, false] (tt k4 (ww aH (ww aH (ww aH (tt k3 (ww aH (ww aH (ww aH (tt k2 (ww aH (ww aH (ww aH (tt k1 (ww aH (ww aH (ww aH (tt k0 nn)))))))))))))))))))))))))))) (fun k0 => (lr 103 3 [1, 1, 1, 1, 1, 1, 0] 1 15 [(2, (.bool (decide ((l0.length : Int) ≤ 6))))] (sl z1p 17 [] ⟨[], [], [some [2]], []⟩ ⟨[], [], []⟩ [false] (tt k0 nn)))))
theorem y5s (l0 : List R6) : Wj prog (Zy prog 15) (v2r l0) (Zf prog 15 [(.dat l0.length (Zz l0))] true []) (z4q l0) := (lb (fun k0 => (lr 103 15 [1, 0, 1, 0, 0] 1 15 [(2, (.bool (decide ((l0.length : Int) ≤ 420))))] (sl z1p 19 [] ⟨[], [], [some [2]], []⟩ ⟨[], [], []⟩ [true] (tt k0 nn)))) (fun k0 => (sl z1p 20 [] ⟨[], [], w8r, w8s⟩ ⟨[], [], []⟩ [false] (tt k0 nn))))
theorem x9d (l0 : List R6) (n : Nat) (vs : List AVal) (h : Yv (z2l l0) n (z4q l0) = .ret vs) : Jo prog (Zy prog 15) (Zf prog 15 [(.dat l0.length (Zz l0))] true []) vs := by
 have := Zo (y9d l0) n _ (y5s l0)
 rwa [h] at this
end Go.Am
namespace Go.Am
open Go.Proofs.Tryz
open Go.Proofs
def lpI (g : Int → Int → Int) : Nat → Int → Int → Int
 | 0, _, d => d
 | n + 1, z, d => lpI g n (z + 1) (g z d)
def rgZ (L1 : List R6) (r : R6) (x y d : Int) : Int := lpI (fun z d => Wt d (frmV x y z L1)) (r.f - r.c).toNat r.c d
def rgY (L1 : List R6) (r : R6) (x d : Int) : Int := lpI (fun y d => rgZ L1 r x y d) (r.e - r.b).toNat r.b d
def rgX (L1 : List R6) (r : R6) (d : Int) : Int := lpI (fun x d => rgY L1 r x d) (r.d - r.a).toNat r.a d
def rrcF (L1 : List R6) : List R6 → Int → Int
 | [], d => d
 | r :: l, d => rrcF L1 l (rgX L1 r d)
def x4d (L0 L1 : List R6) : Int := rrcF L1 L0 0
def smR (r : R6) : Bool := decide (-1000000000 ≤ r.a) && (decide (-1000000000 ≤ r.b) && (decide (-1000000000 ≤ r.c) && (decide (r.d ≤ 1000000000) && (decide (r.e ≤ 1000000000) && decide (r.f ≤ 1000000000)))))
def Uh (L0 L1 : List R6) : Bool := decide (0 < L1.length) && (decide (L1.length ≤ 100000) && (decide (L0.length ≤ 100000) && L0.all smR))
theorem z7t {r : R6} (h : smR r = true) : (-1000000000 ≤ r.a ∧ -1000000000 ≤ r.b ∧ -1000000000 ≤ r.c) ∧ r.d ≤ 1000000000 ∧ r.e ≤ 1000000000 ∧ r.f ≤ 1000000000 := by
 simp only [smR, Bool.and_eq_true, decide_eq_true_eq] at h; omega
theorem w7v {L0 L1 : List R6} (h1 : 0 < L1.length ∧ L1.length ≤ 100000) {i : Nat} (hi : i < L0.length ∧ L0.length ≤ 100000) (hs : smR (rd L0 i) = true) (x y : Int) : ∀ (k : Nat) (z d : Int), -1000000000 ≤ z → ((rd L0 i).f - z).toNat = k → ∃ N, ∀ M, Yv (Vi L0 L1) (M + N) (.to (.h3 d (i : Int) x y z)) = Yv (Vi L0 L1) M (.to (.h2 (lpI (fun z d => Wt d (frmV x y z L1)) k z d) (i : Int) x (IntKind.wrap .i64 (y + 1))))
 | 0, z, d, hz, hk => by
  have hi := hi
  refine ⟨1, fun M => ?_⟩
  rw [Zv]
  simp (disch := omega) only [Vi, Yz, Zt, Zj, Bool.and_true, cond_true, cond_false, lpI]
 | k + 1, z, d, hz, hk => by
  have hh := z7t hs
  have ho : ∀ x y z, z0e x y z L1 = true := fun x y z => by unfold z0e; rw [Yq h1.1, Yx h1.2]; rfl
  obtain ⟨N, hN⟩ := w7v h1 hi hs x y k (z + 1) (Wt d (frmV x y z L1)) (by omega) (by omega)
  have hi := hi
  have hw : IntKind.wrap .i64 (z + 1) = z + 1 := Zq (by omega)
  refine ⟨N + 1, fun M => ?_⟩
  rw [← Nat.add_assoc, Zv]
  simp (disch := omega) only [Vi, Zs, Zt, Zj, Zb, ho, hw, Bool.and_true, cond_true, lpI]
  exact hN M
theorem w7w {L0 L1 : List R6} (h1 : 0 < L1.length ∧ L1.length ≤ 100000) {i : Nat} (hi : i < L0.length ∧ L0.length ≤ 100000) (hs : smR (rd L0 i) = true) (x : Int) : ∀ (k : Nat) (y d : Int), -1000000000 ≤ y → ((rd L0 i).e - y).toNat = k → ∃ N, ∀ M, Yv (Vi L0 L1) (M + N) (.to (.h2 d (i : Int) x y)) = Yv (Vi L0 L1) M (.to (.h1 (lpI (fun y d => rgZ L1 (rd L0 i) x y d) k y d) (i : Int) (IntKind.wrap .i64 (x + 1))))
 | 0, y, d, hy, hk => by
  have hi := hi
  refine ⟨1, fun M => ?_⟩
  rw [Zv]
  simp (disch := omega) only [Vi, Yz, Zt, Zj, Bool.and_true, cond_true, cond_false, lpI]
 | k + 1, y, d, hy, hk => by
  have hh := z7t hs
  obtain ⟨N, hN⟩ := w7w h1 hi hs x k (y + 1) (rgZ L1 (rd L0 i) x y d) (by omega) (by omega)
  obtain ⟨N', hN'⟩ := w7v h1 hi hs x y ((rd L0 i).f - (rd L0 i).c).toNat (rd L0 i).c d (by omega) rfl
  have hi := hi
  have hw : IntKind.wrap .i64 (y + 1) = y + 1 := Zq (by omega)
  refine ⟨N + N' + 1, fun M => ?_⟩
  rw [← Nat.add_assoc, Zv]
  simp (disch := omega) only [Vi, Zs, Zt, Zj, Bool.and_true, cond_true, lpI]
  rw [← Nat.add_assoc, hN', hw]
  exact hN M
theorem w7x {L0 L1 : List R6} (h1 : 0 < L1.length ∧ L1.length ≤ 100000) {i : Nat} (hi : i < L0.length ∧ L0.length ≤ 100000) (hs : smR (rd L0 i) = true)  : ∀ (k : Nat) (x d : Int), -1000000000 ≤ x → ((rd L0 i).d - x).toNat = k → ∃ N, ∀ M, Yv (Vi L0 L1) (M + N) (.to (.h1 d (i : Int) x)) = Yv (Vi L0 L1) M (.to (.h0 (lpI (fun x d => rgY L1 (rd L0 i) x d) k x d) ((i + 1 : Nat) : Int)))
 | 0, x, d, hx, hk => by
  have hi := hi
  have hw : IntKind.wrap .i64 ((i : Int) + 1) = ((i + 1 : Nat) : Int) := Zq (by omega)
  refine ⟨1, fun M => ?_⟩
  rw [Zv]
  simp (disch := omega) only [Vi, Yz, Zt, Zj, hw, Bool.and_true, cond_true, cond_false, lpI]
 | k + 1, x, d, hx, hk => by
  have hh := z7t hs
  obtain ⟨N, hN⟩ := w7x h1 hi hs k (x + 1) (rgY L1 (rd L0 i) x d) (by omega) (by omega)
  obtain ⟨N', hN'⟩ := w7w h1 hi hs x ((rd L0 i).e - (rd L0 i).b).toNat (rd L0 i).b d (by omega) rfl
  have hi := hi
  have hw : IntKind.wrap .i64 (x + 1) = x + 1 := Zq (by omega)
  refine ⟨N + N' + 1, fun M => ?_⟩
  rw [← Nat.add_assoc, Zv]
  simp (disch := omega) only [Vi, Zs, Zt, Zj, Bool.and_true, cond_true, lpI]
  rw [← Nat.add_assoc, hN', hw]
  exact hN M
theorem w7y {L0 L1 : List R6} (h1 : 0 < L1.length ∧ L1.length ≤ 100000) (h0 : L0.length ≤ 100000) (hs : ∀ r ∈ L0, smR r = true) : ∀ (k i : Nat) (d : Int), i + k = L0.length → ∃ N, Yv (Vi L0 L1) N (.to (.h0 d (i : Int))) = .ret [.int .i64 (rrcF L1 (L0.drop i) d)]
 | 0, i, d, h => by
  refine ⟨1, ?_⟩
  rw [Zv, List.drop_eq_nil_of_le (by omega)]
  simp (disch := omega) only [Vi, Yz, cond_false]; rfl
 | k + 1, i, d, h => by
  have hi : i < L0.length := by omega
  have hr : smR (rd L0 i) = true := hs _ (by rw [Ww hi]; exact List.getElem_mem hi)
  have hh := z7t hr
  obtain ⟨N, hN⟩ := w7y h1 h0 hs k (i + 1) (rgX L1 (rd L0 i) d) (by omega)
  obtain ⟨N', hN'⟩ := w7x h1 ⟨hi, h0⟩ hr ((rd L0 i).d - (rd L0 i).a).toNat (rd L0 i).a d (by omega) rfl
  refine ⟨N + N' + 1, ?_⟩
  rw [Zv, Yf hi]
  simp (disch := omega) only [Vi, Zs, Zt, Zj, Bool.and_true, cond_true]
  rw [hN']
  exact hN
theorem v1t (L0 L1 : List R6) (h : Uh L0 L1 = true) : ∃ N, Yv (Vi L0 L1) N (y2y L0 L1) = .ret [.int .i64 (x4d L0 L1)] := by
 simp only [Uh, Bool.and_eq_true, decide_eq_true_eq, List.all_eq_true] at h
 exact w7y ⟨h.1, h.2.1⟩ h.2.2.1 h.2.2.2 L0.length 0 0 (Nat.zero_add _)
def v2s (r : R6) : Bool := !decide (Kz (Kz r.a r.b) r.c < (-12)) && (!decide (Wt (Wt r.d r.e) r.f > 12) && (!decide (Kz (Kz r.d r.e) r.f < (-12)) && !decide (Wt (Wt r.a r.b) r.c > 12)))
def x4p (L : List R6) : Bool := bif decide ((L.length : Int) > 400) then decide ((L.length : Int) ≤ 420) else L.all v2s && decide ((L.length : Int) ≤ 6)
def z2m (L : List R6) : Bool := true
theorem x9c {L : List R6} (hl : L.length ≤ 400) : ∀ (k i : Nat), i + k = L.length → ∃ N, Yv (z2l L) N (.to (.h0 (i : Int))) = .ret [.bool ((L.drop i).all v2s && decide ((L.length : Int) ≤ 6))]
 | 0, i, h => by
  refine ⟨1, ?_⟩
  rw [Zv, List.drop_eq_nil_of_le (by omega)]
  simp (disch := omega) only [z2l, Yz, cond_false]; rfl
 | k + 1, i, h => by
  have hi : i < L.length := by omega
  obtain ⟨N, hN⟩ := x9c hl k (i + 1) (by omega)
  have hw : IntKind.wrap .i64 ((i : Int) + 1) = ((i + 1 : Nat) : Int) := Zq (by omega)
  refine ⟨N + 1, ?_⟩
  rw [Zv, Yf hi]
  simp (disch := omega) only [z2l, Zs, Zt, hw, Zj, Bool.and_true, cond_true, List.all_cons]
  unfold v2s
  cases decide (Kz (Kz (rd L i).a (rd L i).b) (rd L i).c < (-12)) <;> cases decide (Wt (Wt (rd L i).d (rd L i).e) (rd L i).f > 12) <;> cases decide (Kz (Kz (rd L i).d (rd L i).e) (rd L i).f < (-12)) <;> cases decide (Wt (Wt (rd L i).a (rd L i).b) (rd L i).c > 12) <;> first | exact Zm _ _ _ | exact hN
theorem w3s (L : List R6) (h : z2m L = true) : ∃ N, Yv (z2l L) N (z4q L) = .ret [.bool (x4p L)] := by
 unfold z4q x4p
 by_cases hl : L.length ≤ 400
 ·obtain ⟨N, hN⟩ := x9c hl L.length 0 (Nat.zero_add _)
  refine ⟨N, ?_⟩
  rw [Xk (by omega), cond_false, cond_false]; exact hN
 ·refine ⟨0, ?_⟩
  rw [Yr (by omega)]; rfl
def fRrc : List AVal → Option (AVal × Bool)
 | [a0, a1] => match asL R6 a0, asL R6 a1 with
  | some (L0, g0, n0), some (L1, g1, n1) => some (.int .i64 (x4d L0 L1), isT R6 n0 g0 && (isT R6 n1 g1 && (Uh L0 L1)))
  | _, _ => none
 | _ => none
theorem v4a {S : Specs} (hS : Zu prog S) : Zu prog (S.with y5w fRrc) := by
 refine z1m hS (by kernel_rfl) fun args v h => ?_
 unfold fRrc at h
 split at h
 ·rename_i a0 a1
  split at h
  ·rename_i L0 g0 n0 L1 g1 n1 e0 e1
   simp only [Option.some.injEq, Prod.mk.injEq, Bool.and_eq_true] at h
   obtain ⟨rfl, ho0, ho1, hw⟩ := h
   obtain ⟨N, hN⟩ := v1t L0 L1 hw
   exact ⟨_, _, (.cons (Yh e0 ho0) (.cons (Yh e1 ho1) .nil)), rfl, w2v L0 L1 N _ hN, 3, rfl⟩
  ·cases h
 ·cases h
def v4h : List AVal → Option (AVal × Bool)
 | [a0] => match asL R6 a0 with
  | some (L0, g0, n0) => some (.bool (x4p L0), isT R6 n0 g0 && (z2m L0))
  | _ => none
 | _ => none
theorem w5i {S : Specs} (hS : Zu prog S) : Zu prog (S.with x9k v4h) := by
 refine z1m hS (by kernel_rfl) fun args v h => ?_
 unfold v4h at h
 split at h
 ·rename_i a0
  split at h
  ·rename_i L0 g0 n0 e0
   simp only [Option.some.injEq, Prod.mk.injEq, Bool.and_eq_true] at h
   obtain ⟨rfl, ho0, hw⟩ := h
   obtain ⟨N, hN⟩ := w3s L0 hw
   exact ⟨_, _, (.cons (Yh e0 ho0) .nil), rfl, x9d L0 N _ hN, 3, rfl⟩
  ·cases h
 ·cases h
def Dc : Specs := ((Db.with y5w fRrc).with x9k v4h)
theorem Uw : Zu prog Dc := (w5i (v4a z1p))
end Go.Am
namespace Go.Am
open Go.Proofs Go.Sort Go.Shelf Go.RowKit Go.Lib
def pt (L : List R2) (y : Int) : Prop := ∃ s ∈ L, s.a ≤ y ∧ y < s.b
structure Can (L : List R2) : Prop where
 pos : ∀ s ∈ L, s.a < s.b
 sep : L.Pairwise fun s t => s.b < t.a
theorem Can.nil : Can [] := ⟨by simp, .nil⟩
theorem Can.tail {s : R2} {L : List R2} (h : Can (s :: L)) : Can L := ⟨fun t ht => h.pos t (List.mem_cons_of_mem _ ht), (List.pairwise_cons.1 h.sep).2⟩
theorem Can.head {s : R2} {L : List R2} (h : Can (s :: L)) : ∀ t ∈ L, s.b < t.a := (List.pairwise_cons.1 h.sep).1
theorem v0g {s : R2} {L : List R2} (h : Can (s :: L)) {y : Int} (hy : pt (s :: L) y) : s.a ≤ y := by
 obtain ⟨t, ht, h1, h2⟩ := hy
 rcases List.mem_cons.1 ht with rfl | ht
 ·exact h1
 ·have := h.head t ht; have := h.pos s (by simp); omega
theorem v0h : ∀ (L M : List R2), Can L → Can M → (∀ y, pt L y ↔ pt M y) → L = M
 | [], [], _, _, _ => rfl
 | [], t :: M, _, hM, h => by
  have := (h t.a).2 ⟨t, by simp, Int.le_refl _, hM.pos t (by simp)⟩
  obtain ⟨s, hs, _⟩ := this; cases hs
 | s :: L, [], hL, _, h => by
  have := (h s.a).1 ⟨s, by simp, Int.le_refl _, hL.pos s (by simp)⟩
  obtain ⟨s, hs, _⟩ := this; cases hs
 | s :: L, t :: M, hL, hM, h => by
  have p1 := hL.pos s (by simp)
  have p2 := hM.pos t (by simp)
  have a1 : t.a ≤ s.a := v0g hM ((h s.a).1 ⟨s, by simp, Int.le_refl _, p1⟩)
  have a2 : s.a ≤ t.a := v0g hL ((h t.a).2 ⟨t, by simp, Int.le_refl _, p2⟩)
  have b1 : ¬ s.b < t.b := fun hb => by
   obtain ⟨u, hu, h1, h2⟩ := (h s.b).2 ⟨t, by simp, by omega, hb⟩
   rcases List.mem_cons.1 hu with rfl | hu
   ·omega
   ·have := hL.head u hu; omega
  have b2 : ¬ t.b < s.b := fun hb => by
   obtain ⟨u, hu, h1, h2⟩ := (h t.b).1 ⟨s, by simp, by omega, hb⟩
   rcases List.mem_cons.1 hu with rfl | hu
   ·omega
   ·have := hM.head u hu; omega
  have e : s = t := by
   obtain ⟨sa, sb⟩ := s; obtain ⟨ta, tb⟩ := t
   simp only at a1 a2 b1 b2
   have : sa = ta := by omega
   have : sb = tb := by omega
   subst_vars; rfl
  subst e
  congr 1
  refine v0h L M hL.tail hM.tail fun y => ⟨fun hy => ?_, fun hy => ?_⟩
  ·obtain ⟨u, hu, h1, h2⟩ := hy
   have g := hL.head u hu
   obtain ⟨v, hv, h3, h4⟩ := (h y).1 ⟨u, by simp [hu], h1, h2⟩
   rcases List.mem_cons.1 hv with rfl | hv
   ·omega
   ·exact ⟨v, hv, h3, h4⟩
  ·obtain ⟨u, hu, h1, h2⟩ := hy
   have g := hM.head u hu
   obtain ⟨v, hv, h3, h4⟩ := (h y).2 ⟨u, by simp [hu], h1, h2⟩
   rcases List.mem_cons.1 hv with rfl | hv
   ·omega
   ·exact ⟨v, hv, h3, h4⟩
def push (out : List R2) (x x' : Int) : List R2 :=
 bif decide (0 < out.length) && ((rd out (out.length - 1)).b == x) then out.set (out.length - 1) ⟨(rd out (out.length - 1)).a, x'⟩ else out ++ [⟨x, x'⟩]
theorem x8u (out : List R2) (s : R2) (x x' : Int) : push (out ++ [s]) x x' = bif s.b == x then out ++ [⟨s.a, x'⟩] else out ++ [s] ++ [⟨x, x'⟩] := by
 have e : rd (out ++ [s]) ((out ++ [s]).length - 1) = s := by
  rw [Vo (by simp)]; simp [rd]
 unfold push
 rw [e, decide_eq_true (by simp), Bool.true_and]
 cases (s.b == x)
 ·rfl
 ·simp
theorem x1w {out : List R2} {x x' : Int} (hc : Can out) (hb : ∀ s ∈ out, s.b ≤ x) (hx : x < x') :
  Can (push out x x') ∧ (∀ s ∈ push out x x', s.b ≤ x') ∧ ∀ y, pt (push out x x') y ↔ pt out y ∨ (x ≤ y ∧ y < x') := by
 rcases List.eq_nil_or_concat out with rfl | ⟨L, s, rfl⟩
 ·refine ⟨⟨?_, ?_⟩, ?_, fun y => ?_⟩
  ·intro s hs; simp [push] at hs; subst hs; exact hx
  ·simp [push]
  ·intro s hs; simp [push] at hs; subst hs; exact Int.le_refl _
  ·simp [push, pt]
 ·rw [List.concat_eq_append] at *
  rw [x8u]
  have hs := hb s (by simp)
  have hp := hc.pos s (by simp)
  have sep := List.pairwise_append.1 hc.sep
  rcases Yg (s.b == x) with q | q
  ·rw [q, cond_true]
   have q : s.b = x := by simpa using q
   refine ⟨⟨?_, ?_⟩, ?_, fun y => ?_⟩
   ·intro t ht
    rcases List.mem_append.1 ht with ht | ht
    ·exact hc.pos t (by simp [ht])
    ·rw [List.mem_singleton.1 ht]; show s.a < x'; omega
   ·refine List.pairwise_append.2 ⟨sep.1, List.pairwise_singleton _ _, fun t ht u hu => ?_⟩
    rw [List.mem_singleton.1 hu]
    exact sep.2.2 t ht s (by simp)
   ·intro t ht
    rcases List.mem_append.1 ht with ht | ht
    ·have := hb t (by simp [ht]); omega
    ·rw [List.mem_singleton.1 ht]; exact Int.le_refl _
   ·constructor
    ·rintro ⟨t, ht, h1, h2⟩
     rcases List.mem_append.1 ht with ht | ht
     ·exact .inl ⟨t, by simp [ht], h1, h2⟩
     ·rw [List.mem_singleton.1 ht] at h1 h2
      by_cases hy : y < s.b
      ·exact .inl ⟨s, by simp, h1, hy⟩
      ·exact .inr ⟨by omega, h2⟩
    ·rintro (⟨t, ht, h1, h2⟩ | ⟨h1, h2⟩)
     ·rcases List.mem_append.1 ht with ht | ht
      ·exact ⟨t, by simp [ht], h1, h2⟩
      ·rw [List.mem_singleton.1 ht] at h1 h2
       exact ⟨⟨s.a, x'⟩, by simp, h1, by show y < x'; omega⟩
     ·exact ⟨⟨s.a, x'⟩, by simp, by show s.a ≤ y; omega, h2⟩
  ·rw [q, cond_false]
   have q : s.b ≠ x := by simpa using q
   refine ⟨⟨?_, ?_⟩, ?_, fun y => ?_⟩
   ·intro t ht
    rcases List.mem_append.1 ht with ht | ht
    ·exact hc.pos t ht
    ·rw [List.mem_singleton.1 ht]; exact hx
   ·refine List.pairwise_append.2 ⟨hc.sep, List.pairwise_singleton _ _, fun t ht u hu => ?_⟩
    rw [List.mem_singleton.1 hu]
    show t.b < x
    rcases List.mem_append.1 ht with h | h
    ·have h1 := sep.2.2 t h s (by simp); omega
    ·rw [List.mem_singleton.1 h]; omega
   ·intro t ht
    rcases List.mem_append.1 ht with ht | ht
    ·have := hb t ht; omega
    ·rw [List.mem_singleton.1 ht]; exact Int.le_refl _
   ·constructor
    ·rintro ⟨t, ht, h1, h2⟩
     rcases List.mem_append.1 ht with ht | ht
     ·exact .inl ⟨t, ht, h1, h2⟩
     ·rw [List.mem_singleton.1 ht] at h1 h2
      exact .inr ⟨h1, h2⟩
    ·rintro (⟨t, ht, h1, h2⟩ | ⟨h1, h2⟩)
     ·exact ⟨t, List.mem_append.2 (.inl ht), h1, h2⟩
     ·exact ⟨⟨x, x'⟩, by simp, h1, h2⟩
theorem w4d {l : List Int} (h : l.Pairwise (· < ·)) {i j : Nat} (hij : i < j) (hj : j < l.length) : rd l i < rd l j := by
 rw [Ww (by omega), Ww hj]
 exact List.pairwise_iff_getElem.1 h i j (by omega) hj hij
theorem y3y (cuts : List Int) (ins : List Bool) (hc : cuts.Pairwise (· < ·)) : ∀ (k i : Nat) (out : List R2), i + k < cuts.length ∨ k = 0 → Can out → (∀ s ∈ out, s.b ≤ rd cuts i) →
  Can (x6n cuts ins k i out) ∧ ∀ y, pt (x6n cuts ins k i out) y ↔ pt out y ∨ ∃ j, i ≤ j ∧ j < i + k ∧ rd ins j = true ∧ rd cuts j ≤ y ∧ y < rd cuts (j + 1)
 | 0, i, out, h, ho, hb => ⟨ho, fun y => ⟨.inl, fun hy => hy.elim id fun ⟨j, h1, h2, _⟩ => by omega⟩⟩
 | k + 1, i, out, h, ho, hb => by
  have hlt : rd cuts i < rd cuts (i + 1) := w4d hc (Nat.lt_succ_self _) (by omega)
  obtain ⟨p1, p2, p3⟩ := x1w ho hb hlt
  have e : x6n cuts ins (k + 1) i out = x6n cuts ins k (i + 1) (bif rd ins i then push out (rd cuts i) (rd cuts (i + 1)) else out) := rfl
  rw [e]
  rcases Yg (rd ins i) with q | q
  ·rw [q, cond_true]
   obtain ⟨r1, r2⟩ := y3y cuts ins hc k (i + 1) (push out (rd cuts i) (rd cuts (i + 1))) (by omega) p1 p2
   refine ⟨r1, fun y => ?_⟩
   rw [r2, p3]
   constructor
   ·rintro ((h | h) | ⟨j, h1, h2, h3⟩)
    ·exact .inl h
    ·exact .inr ⟨i, Nat.le_refl _, by omega, q, h⟩
    ·exact .inr ⟨j, by omega, by omega, h3⟩
   ·rintro (h | ⟨j, h1, h2, h3⟩)
    ·exact .inl (.inl h)
    ·rcases Nat.eq_or_lt_of_le h1 with rfl | h1
     ·exact .inl (.inr h3.2)
     ·exact .inr ⟨j, h1, by omega, h3⟩
  ·rw [q, cond_false]
   obtain ⟨r1, r2⟩ := y3y cuts ins hc k (i + 1) out (by omega) ho (fun s hs => by have := hb s hs; omega)
   refine ⟨r1, fun y => ?_⟩
   rw [r2]
   constructor
   ·rintro (h | ⟨j, h1, h2, h3⟩)
    ·exact .inl h
    ·exact .inr ⟨j, by omega, by omega, h3⟩
   ·rintro (h | ⟨j, h1, h2, h3⟩)
    ·exact .inl h
    ·rcases Nat.eq_or_lt_of_le h1 with rfl | h1
     ·rw [q] at h3; cases h3.1
     ·exact .inr ⟨j, h1, by omega, h3⟩
theorem w1b {cuts : List Int} : ∀ (k : Nat), k < cuts.length → ∀ y, rd cuts 0 ≤ y → y < rd cuts k → ∃ j, j < k ∧ rd cuts j ≤ y ∧ y < rd cuts (j + 1)
 | 0, _, y, h1, h2 => by omega
 | k + 1, hk, y, h1, h2 => by
  by_cases h : rd cuts k ≤ y
  ·exact ⟨k, Nat.lt_succ_self _, h, h2⟩
  ·obtain ⟨j, h3, h4⟩ := w1b k (by omega) y h1 (by omega)
   exact ⟨j, by omega, h4⟩
theorem w6r (cuts : List Int) (hc : cuts.Pairwise (· < ·)) (P : Int → Bool) (S : List R2) (hS : ∀ s ∈ S, s.a ∈ cuts ∧ s.b ∈ cuts) (hP : ∀ y, P y = true ↔ pt S y) :
  Can (z7f cuts (cuts.map P)) ∧ ∀ y, pt (z7f cuts (cuts.map P)) y ↔ pt S y := by
 obtain ⟨r1, r2⟩ := y3y cuts (cuts.map P) hc (cuts.length - 1) 0 [] (by omega) .nil (by simp)
 refine ⟨r1, fun y => ?_⟩
 unfold z7f
 rw [r2]
 have hin : ∀ x, x ∈ cuts → ∃ i, i < cuts.length ∧ rd cuts i = x := fun x hx => by
  obtain ⟨i, hi, h⟩ := List.getElem_of_mem hx
  exact ⟨i, hi, by rw [Ww hi]; exact h⟩
 have hmap : ∀ j, j < cuts.length → rd (cuts.map P) j = P (rd cuts j) := fun j hj => by
  rw [Ww (by simpa using hj), Ww hj, List.getElem_map]
 have le_of : ∀ i j, i < cuts.length → j < cuts.length → i ≤ j → rd cuts i ≤ rd cuts j := fun i j hi hj hij => by
  rcases Nat.eq_or_lt_of_le hij with rfl | h
  ·exact Int.le_refl _
  ·exact Int.le_of_lt (w4d hc h hj)
 constructor
 ·rintro (⟨s, hs, _⟩ | ⟨j, h1, h2, h3, h4, h5⟩)
  ·cases hs
  ·have hj : j + 1 < cuts.length := by omega
   rw [hmap j (by omega)] at h3
   obtain ⟨s, hs, a1, a2⟩ := (hP _).1 h3
   obtain ⟨ca, cb⟩ := hS s hs
   obtain ⟨m, hm, em⟩ := hin s.b cb
   refine ⟨s, hs, by omega, ?_⟩
   have : j < m := by
    rcases Nat.lt_or_ge j m with h | h
    ·exact h
    ·have := le_of m j hm (by omega) h; omega
   have := le_of (j + 1) m hj hm this
   omega
 ·rintro ⟨s, hs, a1, a2⟩
  right
  obtain ⟨ca, cb⟩ := hS s hs
  obtain ⟨n, hn, en⟩ := hin s.a ca
  obtain ⟨m, hm, em⟩ := hin s.b cb
  have h0 := le_of 0 n (by omega) hn (Nat.zero_le _)
  obtain ⟨j, h1, h2, h3⟩ := w1b m hm y (by omega) (by omega)
  refine ⟨j, Nat.zero_le _, by omega, ?_, h2, h3⟩
  rw [hmap j (by omega), hP]
  refine ⟨s, hs, ?_, ?_⟩
  ·have : n ≤ j := by
    rcases Nat.lt_or_ge j n with h | h
    ·have := le_of (j + 1) n (by omega) hn h; omega
    ·exact h
   have := le_of n j hn (by omega) this
   omega
  ·omega
end Go.Am
namespace Go.Am
open Go.Proofs Go.Sort Go.Shelf Go.RowKit Go.Lib
def net (E : List R3) (y : Int) : Int := (E.map fun e => if e.a ≤ y then e.c else 0).sum
theorem Kj (e : R3) (E : List R3) (y : Int) : net (e :: E) y = (if e.a ≤ y then e.c else 0) + net E y := by simp [net]
theorem w3u {E F : List R3} (h : E.Perm F) (y : Int) : net E y = net F y := by
 induction h with
 | nil => rfl
 | cons e _ ih => rw [Kj, Kj, ih]
 | swap a b l => simp only [Kj]; omega
 | trans _ _ i1 i2 => rw [i1, i2]
theorem x1z (E : List R3) (y : Int) (h : ∀ e ∈ E, y < e.a) : net E y = 0 := by
 induction E with
 | nil => rfl
 | cons e E ih =>
  rw [Kj, if_neg (by have := h e (by simp); omega), ih fun f hf => h f (by simp [hf])]; rfl
theorem w1a (out : List R2) (last : Int) (inn : Bool) (x : Int) : Qb out last inn x = bif inn && !(last == x) then push out last x else out := by
 unfold Qb push
 cases inn
 ·rfl
 ·cases (last == x) <;> rfl
theorem x5z {out : List R2} {last x : Int} (inn : Bool) (hc : Can out) (hb : ∀ s ∈ out, s.b ≤ last) (hx : last ≤ x) :
  Can (Qb out last inn x) ∧ (∀ s ∈ Qb out last inn x, s.b ≤ x) ∧ ∀ y, pt (Qb out last inn x) y ↔ pt out y ∨ (inn = true ∧ last ≤ y ∧ y < x) := by
 rw [w1a]
 rcases Yg (inn && !(last == x)) with q | q
 ·rw [q, cond_true]
  simp only [Bool.and_eq_true, Bool.not_eq_true', beq_eq_false_iff_ne, ne_eq] at q
  obtain ⟨p1, p2, p3⟩ := x1w hc hb (show last < x by omega)
  refine ⟨p1, p2, fun y => ?_⟩
  rw [p3]; simp [q.1]
 ·rw [q, cond_false]
  refine ⟨hc, fun s hs => by have := hb s hs; omega, fun y => ⟨.inl, fun h => h.elim id fun ⟨h1, h2, h3⟩ => ?_⟩⟩
  rw [h1, Bool.true_and] at q
  have : last = x := by simpa using q
  omega
def Asc (E : List R3) : Prop := E.Pairwise fun e f => e.a ≤ f.a
theorem x6w : ∀ (E : List R3) (o last : Int) (out : List R2), Asc E → (∀ e ∈ E, last ≤ e.a) → Can out → (∀ s ∈ out, s.b ≤ last) →
  Can (swF E o last (decide (o > 0)) out) ∧ ∀ y, pt (swF E o last (decide (o > 0)) out) y ↔ pt out y ∨ (last ≤ y ∧ 0 < o + net E y ∧ ∃ e ∈ E, y < e.a)
 | [], o, last, out, _, _, hc, _ => ⟨hc, fun y => ⟨.inl, fun h => h.elim id fun ⟨_, _, e, he, _⟩ => by cases he⟩⟩
 | e :: r, o, last, out, hE, hl, hc, hb => by
  have he := hl e (by simp)
  have hr := List.pairwise_cons.1 hE
  obtain ⟨p1, p2, p3⟩ := x5z (decide (o > 0)) hc hb he
  obtain ⟨q1, q2⟩ := x6w r (o + e.c) e.a (Qb out last (decide (o > 0)) e.a) hr.2 hr.1 p1 p2
  rw [z7r]
  refine ⟨q1, fun y => ?_⟩
  rw [q2, p3, Kj]
  constructor
  ·rintro ((h | ⟨h1, h2, h3⟩) | ⟨h1, h2, f, hf, h3⟩)
   ·exact .inl h
   ·right
    have h1 := of_decide_eq_true h1
    refine ⟨h2, ?_, e, by simp, h3⟩
    rw [if_neg (by omega), x1z r y fun f hf => by have := hr.1 f hf; omega]
    omega
   ·right
    refine ⟨by omega, ?_, f, by simp [hf], h3⟩
    rw [if_pos h1]; omega
  ·rintro (h | ⟨h1, h2, f, hf, h3⟩)
   ·exact .inl (.inl h)
   ·by_cases hy : e.a ≤ y
    ·right
     rw [if_pos hy] at h2
     refine ⟨hy, by omega, f, ?_, h3⟩
     rcases List.mem_cons.1 hf with rfl | hf
     ·omega
     ·exact hf
    ·left; right
     rw [if_neg hy, x1z r y fun f hf => by have := hr.1 f hf; omega] at h2
     exact ⟨decide_eq_true (by omega), h1, by omega⟩
theorem w3v (l : List R2) (hv : ∀ s ∈ l, s.a < s.b) (y : Int) : 0 ≤ net (Jx l) y ∧ (0 < net (Jx l) y ↔ pt l y) := by
 induction l with
 | nil => exact ⟨Int.le_refl _, by simp [net, Jx, pt]⟩
 | cons s l ih =>
  obtain ⟨i1, i2⟩ := ih fun t ht => hv t (by simp [ht])
  have hs := hv s (by simp)
  have e : net (Jx (s :: l)) y = (if s.a ≤ y ∧ y < s.b then 1 else 0) + net (Jx l) y := by
   show net (⟨s.a, 0, 1⟩ :: ⟨s.b, 0, -1⟩ :: Jx l) y = _
   rw [Kj, Kj]
   show (if s.a ≤ y then (1 : Int) else 0) + ((if s.b ≤ y then (-1 : Int) else 0) + net (Jx l) y) = _
   by_cases h1 : s.a ≤ y
   ·by_cases h2 : s.b ≤ y
    ·rw [if_pos h1, if_pos h2, if_neg (show ¬ (s.a ≤ y ∧ y < s.b) by omega)]; omega
    ·rw [if_pos h1, if_neg h2, if_pos (show s.a ≤ y ∧ y < s.b by omega)]; omega
   ·rw [if_neg h1, if_neg (show ¬ s.b ≤ y by omega), if_neg (show ¬ (s.a ≤ y ∧ y < s.b) by omega)]; omega
  rw [e]
  by_cases h : s.a ≤ y ∧ y < s.b
  ·rw [if_pos h]
   exact ⟨by omega, ⟨fun _ => ⟨s, by simp, h⟩, fun _ => by omega⟩⟩
  ·rw [if_neg h]
   refine ⟨by omega, ?_⟩
   rw [Int.zero_add, i2]
   constructor
   ·rintro ⟨t, ht, h2⟩; exact ⟨t, by simp [ht], h2⟩
   ·rintro ⟨t, ht, h2⟩
    rcases List.mem_cons.1 ht with rfl | ht
    ·exact absurd h2 h
    ·exact ⟨t, ht, h2⟩
theorem y0f {l : List R2} {s : R2} (h : s ∈ l) : (⟨s.b, 0, -1⟩ : R3) ∈ Jx l ∧ (⟨s.a, 0, 1⟩ : R3) ∈ Jx l :=
 ⟨List.mem_flatMap.2 ⟨s, h, by simp⟩, List.mem_flatMap.2 ⟨s, h, by simp⟩⟩
theorem w2a (l : List R3) (h : y4p l = true) : Asc (z3w l) := by
 refine List.pairwise_iff_getElem.2 fun i j hi hj hij => ?_
 have := (Qn l h).2 i j hij hj
 rwa [Ww hi, Ww hj] at this
theorem x6v (l : List R2) (hv : l.all y1d = true) : Can (swV l) ∧ ∀ y, pt (swV l) y ↔ pt l y := by
 have hb : y4p (Jx l) = true := List.all_eq_true.2 fun e he => by
  obtain ⟨s, hs, h1⟩ := List.mem_flatMap.1 he
  have hv := List.all_eq_true.1 hv s hs
  simp only [y1d, Bool.and_eq_true, decide_eq_true_eq] at hv
  simp only [List.mem_cons, List.not_mem_nil, or_false] at h1
  rcases h1 with rfl | rfl <;> exact decide_eq_true (by simp only; omega)
 have hpos : ∀ s ∈ l, s.a < s.b := fun s hs => by
  have := List.all_eq_true.1 hv s hs
  simp only [y1d, Bool.and_eq_true, decide_eq_true_eq] at this
  exact this.1
 obtain ⟨hp, _⟩ := Qn (Jx l) hb
 have ha := w2a (Jx l) hb
 have hn : ∀ y, net (z3w (Jx l)) y = net (Jx l) y := fun y => w3u hp y
 unfold swV
 generalize z3w (Jx l) = E at hp ha hn
 cases E with
 | nil =>
  refine ⟨.nil, fun y => ⟨fun ⟨s, hs, _⟩ => (by cases hs), fun ⟨s, hs, _⟩ => ?_⟩⟩
  have := hp.mem_iff.2 (y0f hs).1
  cases this
 | cons e r =>
  have hr := List.pairwise_cons.1 ha
  rw [z7r, Int.zero_add]
  have e0 : Qb [] 0 false e.a = [] := rfl
  rw [e0]
  obtain ⟨q1, q2⟩ := x6w r e.c e.a [] hr.2 hr.1 .nil (by simp)
  refine ⟨q1, fun y => ?_⟩
  rw [q2]
  obtain ⟨n1, n2⟩ := w3v l hpos y
  rw [← n2, ← hn, Kj]
  constructor
  ·rintro (⟨s, hs, _⟩ | ⟨h1, h2, _⟩)
   ·cases hs
   ·rw [if_pos h1]; omega
  ·intro h
   have hpt := n2.1 (by rw [← hn, Kj]; exact h)
   obtain ⟨s, hs, s1, s2⟩ := hpt
   have m1 := hp.mem_iff.2 (y0f hs).1
   have m2 := hp.mem_iff.2 (y0f hs).2
   have hea : e.a ≤ y := by
    rcases List.mem_cons.1 m2 with h' | h'
    ·rw [← h']; exact s1
    ·have h'' : e.a ≤ s.a := hr.1 _ h'
     omega
   right
   rw [if_pos hea] at h
   refine ⟨hea, h, ⟨s.b, 0, -1⟩, ?_, s2⟩
   rcases List.mem_cons.1 m1 with h' | h'
   ·have h'' : e.a = s.b := by rw [← h']
    omega
   ·exact h'
theorem y5o (out : List Int) (hs : out.Pairwise (· < ·)) (x : Int) : ∀ k, k ≤ out.length → y8y out x k ≤ k ∧ (∀ i, y8y out x k ≤ i → i < k → x < rd out i) ∧ (0 < y8y out x k → rd out (y8y out x k - 1) ≤ x)
 | 0, _ => ⟨Nat.le_refl _, fun i h1 h2 => by omega, fun h => by simp [y8y] at h⟩
 | k + 1, hk => by
  unfold y8y
  rcases Yg (decide (rd out k > x)) with q | q
  ·rw [q, cond_true]
   obtain ⟨h1, h2, h3⟩ := y5o out hs x k (by omega)
   refine ⟨by omega, fun i a b => ?_, h3⟩
   rcases Nat.eq_or_lt_of_le (Nat.le_of_lt_succ b) with rfl | b
   ·exact of_decide_eq_true q
   ·exact h2 i a b
  ·rw [q, cond_false]
   exact ⟨Nat.le_refl _, fun i a b => by omega, fun _ => by have := of_decide_eq_false q; simp only [Nat.add_sub_cancel]; omega⟩
theorem w0b (out : List Int) (hs : out.Pairwise (· < ·)) (x : Int) : (z9v out x).Pairwise (· < ·) ∧ ∀ y, y ∈ z9v out x ↔ y ∈ out ∨ y = x := by
 obtain ⟨h1, h2, h3⟩ := y5o out hs x out.length (Nat.le_refl _)
 unfold z9v
 split
 ·rename_i h0
  rw [h0] at h2
  refine ⟨List.pairwise_cons.2 ⟨fun y hy => ?_, hs⟩, fun y => by simp [or_comm]⟩
  obtain ⟨i, hi, rfl⟩ := List.getElem_of_mem hy
  have := h2 i (Nat.zero_le _) hi
  rwa [Ww hi] at this
 ·rename_i k hk
  rw [hk] at h1 h2 h3
  have h3 : rd out k ≤ x := h3 (Nat.succ_pos _)
  have hkl : k < out.length := by omega
  rcases Yg (rd out k == x) with q | q
  ·rw [q, cond_true]
   have q : rd out k = x := by simpa using q
   refine ⟨hs, fun y => ⟨.inl, fun h => h.elim id fun e => ?_⟩⟩
   rw [e, ← q, Ww hkl]; exact List.getElem_mem hkl
  ·rw [q, cond_false]
   have q : rd out k ≠ x := by simpa using q
   refine ⟨?_, fun y => ?_⟩
   ·have st : (out.take (k + 1)).Pairwise (· < ·) := hs.sublist (List.take_sublist _ _)
    have sd : (out.drop (k + 1)).Pairwise (· < ·) := hs.sublist (List.drop_sublist _ _)
    have ht : ∀ y ∈ out.take (k + 1), y < x := fun y hy => by
     obtain ⟨i, hi, rfl⟩ := List.getElem_of_mem hy
     have hi' : i < k + 1 := by simp at hi; omega
     rw [List.getElem_take]
     have : rd out i ≤ rd out k := by
      rcases Nat.eq_or_lt_of_le (Nat.le_of_lt_succ hi') with rfl | h
      ·exact Int.le_refl _
      ·exact Int.le_of_lt (w4d hs h hkl)
     rw [Ww (show i < out.length by omega)] at this
     omega
    have hd : ∀ y ∈ out.drop (k + 1), x < y := fun y hy => by
     obtain ⟨i, hi, rfl⟩ := List.getElem_of_mem hy
     have hi' : k + 1 + i < out.length := by simp at hi; omega
     rw [List.getElem_drop, ← Ww hi']
     exact h2 _ (by omega) hi'
    refine List.pairwise_append.2 ⟨st, List.pairwise_cons.2 ⟨hd, sd⟩, fun a ha b hb => ?_⟩
    rcases List.mem_cons.1 hb with rfl | hb
    ·exact ht a ha
    ·exact Int.lt_trans (ht a ha) (hd b hb)
   ·rw [List.mem_append, List.mem_cons]
    constructor
    ·rintro (h | h | h)
     ·exact .inl (List.mem_of_mem_take h)
     ·exact .inr h
     ·exact .inl (List.mem_of_mem_drop h)
    ·rintro (h | h)
     ·rw [← List.take_append_drop (k + 1) out, List.mem_append] at h
      exact h.elim .inl fun h => .inr (.inr h)
     ·exact .inr (.inl h)
theorem z9a (l : List Int) : (z0l l).Pairwise (· < ·) ∧ ∀ y, y ∈ z0l l ↔ y ∈ l := by
 have : ∀ (l out : List Int), out.Pairwise (· < ·) → (l.foldl z9v out).Pairwise (· < ·) ∧ ∀ y, y ∈ l.foldl z9v out ↔ y ∈ out ∨ y ∈ l := by
  intro l
  induction l with
  | nil => intro out h; exact ⟨h, fun y => by simp⟩
  | cons x l ih =>
   intro out h
   obtain ⟨a, b⟩ := w0b out h x
   obtain ⟨c, d⟩ := ih (z9v out x) a
   refine ⟨c, fun y => ?_⟩
   show y ∈ l.foldl z9v (z9v out x) ↔ _
   rw [d, b, List.mem_cons, or_assoc]
 obtain ⟨a, b⟩ := this l [] .nil
 exact ⟨a, fun y => by rw [z0l, b]; simp⟩
theorem z6v : ∀ (l m : List Int), l.Pairwise (· < ·) → m.Pairwise (· < ·) → (∀ x, x ∈ l ↔ x ∈ m) → l = m
 | [], [], _, _, _ => rfl
 | [], b :: m, _, _, h => by have := (h b).2 (by simp); cases this
 | a :: l, [], _, _, h => by have := (h a).1 (by simp); cases this
 | a :: l, b :: m, hl, hm, h => by
  obtain ⟨a1, a2⟩ := List.pairwise_cons.1 hl
  obtain ⟨b1, b2⟩ := List.pairwise_cons.1 hm
  have e : a = b := by
   have x1 := (h a).1 (by simp)
   have x2 := (h b).2 (by simp)
   rcases List.mem_cons.1 x1 with x1 | x1
   ·exact x1
   rcases List.mem_cons.1 x2 with x2 | x2
   ·exact x2.symm
   have := b1 a x1
   have := a1 b x2
   omega
  subst e
  congr 1
  refine z6v l m a2 b2 fun x => ⟨fun hx => ?_, fun hx => ?_⟩
  ·rcases List.mem_cons.1 ((h x).1 (by simp [hx])) with e | e
   ·have := a1 x hx; omega
   ·exact e
  ·rcases List.mem_cons.1 ((h x).2 (by simp [hx])) with e | e
   ·have := b1 x hx; omega
   ·exact e
theorem z6w (zs : List Int) (hs : zs.Pairwise (· ≤ ·)) : ∀ m, m ≤ zs.length → (compactUpTo zs.toArray m).Pairwise (· < ·) ∧ ∀ x, x ∈ compactUpTo zs.toArray m ↔ x ∈ zs.take m
 | 0, _ => by simp [compactUpTo]
 | m + 1, h => by
  obtain ⟨h1, h2⟩ := z6w zs hs m (by omega)
  have hg : ∀ j (hj : j < zs.length), zs.toArray[j]! = zs[j] := fun j hj => by simp [hj]
  have hle : ∀ i j (hi : i < zs.length) (hj : j < zs.length), i < j → zs[i] ≤ zs[j] := fun i j hi hj hij => List.pairwise_iff_getElem.1 hs i j hi hj hij
  have hm : m < zs.length := by omega
  rw [compactUpTo_succ, hg m hm, List.take_succ_eq_append_getElem hm]
  by_cases hk : keeps zs.toArray m = true
  ·rw [if_pos hk]
   refine ⟨List.pairwise_append.2 ⟨h1, List.pairwise_singleton _ _, fun x hx y hy => ?_⟩, fun x => by rw [List.mem_append, List.mem_append, h2 x]⟩
   rw [List.mem_singleton.1 hy]
   obtain ⟨i, hi, rfl⟩ := List.getElem_of_mem ((h2 x).1 hx)
   have hi' : i < m := by simp at hi; omega
   rw [List.getElem_take]
   simp only [keeps, decide_eq_true_eq] at hk
   rcases hk with hk | hk
   ·omega
   ·rw [hg m hm, hg (m - 1) (by omega)] at hk
    have k1 : zs[i] ≤ zs[m - 1] := by
     rcases Nat.lt_or_ge i (m - 1) with q | q
     ·exact hle i (m - 1) _ _ q
     ·have e : i = m - 1 := by omega
      subst e; exact Int.le_refl _
    have k2 := hle (m - 1) m (by omega) hm (by omega)
    omega
  ·rw [if_neg hk, List.append_nil]
   refine ⟨h1, fun x => ?_⟩
   rw [h2 x, List.mem_append, List.mem_singleton]
   refine ⟨.inl, fun hx => hx.elim id fun e => ?_⟩
   simp only [keeps, decide_eq_true_eq, not_or, Decidable.not_not] at hk
   rw [hg m hm, hg (m - 1) (by omega)] at hk
   rw [e, hk.2]
   have : m - 1 < (zs.take m).length := by simp; omega
   have e2 : (zs.take m)[m - 1] = zs[m - 1] := List.getElem_take
   rw [← e2]
   exact List.getElem_mem this
theorem srt_le (zs : List Int) : (Yo zs).Pairwise (· ≤ ·) := by
 have := List.pairwise_mergeSort (le := fun x y : Int => decide (x ≤ y)) (fun a b c h1 h2 => by simp at *; omega) (fun a b => by simp; omega) zs
 exact this.imp fun h => by simpa using h
theorem v0u (zs : List Int) (x : Int) : x ∈ Yo zs ↔ x ∈ zs := List.mem_mergeSort
theorem y3v (zs : List Int) : z5g zs = z0l zs := by
 obtain ⟨h1, h2⟩ := z6w (Yo zs) (srt_le zs) (Yo zs).length (Nat.le_refl _)
 obtain ⟨s1, s2⟩ := z9a zs
 refine z6v _ _ h1 s1 fun x => ?_
 rw [show z5g zs = compactUpTo (Yo zs).toArray (Yo zs).length from rfl, h2 x, List.take_length, v0u, s2]
end Go.Am
namespace Go.Am
open Go.Proofs Go.Sort Go.Shelf Go.RowKit Go.Lib
namespace Dim
variable {α β : Type} (D : Dim α β)
def ref (sec : Int → List β) (cs : List Int) : Nat → Nat → List α → List β → Nat → List α
 | 0, _, out, _, _ => out
 | k + 1, i, out, last, first =>
  bif decide (0 < i) && D.same (sec (rd cs i)) last then ref sec cs k (i + 1) (D.grow out first (rd cs (i + 1))) last first
  else ref sec cs k (i + 1) (out ++ (sec (rd cs i)).map (D.put (rd cs i) (rd cs (i + 1)))) (sec (rd cs i)) out.length
theorem ref_eq (hs : ∀ a b, D.same a b = true ↔ a = b) (l : List α) : ∀ (k i : Nat) (s : Sw α β) (out : List α) (last : List β) (first : Nat),
  s.out = out → s.last = last → (last ≠ [] → s.first = first) → (last = [] → out.length ≤ first) → (0 < i → s.fin = rd (D.cuts l) i) → (i = 0 → last = []) →
  (D.go l k i s).out = D.ref (D.sec l) (D.cuts l) k i out last first
 | 0, i, s, out, last, first, h1, h2, h3, h4, h5, h6 => h1
 | k + 1, i, s, out, last, first, h1, h2, h3, h4, h5, h6 => by
  subst h1 h2
  have e1 : D.go l (k + 1) i s = D.go l k (i + 1) (D.one l (rd (D.cuts l) i) (rd (D.cuts l) (i + 1)) s) := rfl
  rw [e1]
  unfold ref
  rcases Yg (decide (0 < (D.sec l (rd (D.cuts l) i)).length) && ((s.fin == rd (D.cuts l) i) && D.same s.last (D.sec l (rd (D.cuts l) i)))) with q | q
  ·have e : D.one l (rd (D.cuts l) i) (rd (D.cuts l) (i + 1)) s = ⟨D.grow s.out s.first (rd (D.cuts l) (i + 1)), s.last, s.first, rd (D.cuts l) (i + 1)⟩ := by unfold one; rw [q]; rfl
   simp only [Bool.and_eq_true, decide_eq_true_eq] at q
   obtain ⟨q1, q2, q3⟩ := q
   have q3 := (hs _ _).1 q3
   have hne : s.last ≠ [] := fun h => by rw [h] at q3; rw [← q3] at q1; exact Nat.lt_irrefl _ q1
   have hi : 0 < i := Nat.pos_of_ne_zero fun h => hne (h6 h)
   have e2 : (decide (0 < i) && D.same (D.sec l (rd (D.cuts l) i)) s.last) = true := by
    rw [decide_eq_true hi, Bool.true_and, hs, q3]
   rw [e2, cond_true, e]
   refine ref_eq hs l k (i + 1) _ _ _ _ ?_ rfl h3 (fun h => absurd h hne) (fun _ => rfl) (fun h => by omega)
   rw [h3 hne]
  ·have e : D.one l (rd (D.cuts l) i) (rd (D.cuts l) (i + 1)) s = ⟨s.out ++ (D.sec l (rd (D.cuts l) i)).map (D.put (rd (D.cuts l) i) (rd (D.cuts l) (i + 1))), D.sec l (rd (D.cuts l) i), s.out.length, rd (D.cuts l) (i + 1)⟩ := by unfold one; rw [q]; rfl
   rcases Yg (decide (0 < i) && D.same (D.sec l (rd (D.cuts l) i)) s.last) with q2 | q2
   ·rw [q2, cond_true, e]
    simp only [Bool.and_eq_true, decide_eq_true_eq] at q2
    obtain ⟨hi, q3⟩ := q2
    have q3 := (hs _ _).1 q3
    rw [(hs s.last (D.sec l (rd (D.cuts l) i))).2 q3.symm, Bool.and_true, h5 hi] at q
    have hz : D.sec l (rd (D.cuts l) i) = [] := by
     cases h : D.sec l (rd (D.cuts l) i) with
     | nil => rfl
     | cons a b => rw [h] at q; simp at q
    have hl : s.last = [] := by rw [← q3, hz]
    have hf := h4 hl
    rw [hz, List.map_nil, List.append_nil]
    refine ref_eq hs l k (i + 1) _ _ _ _ ?_ hl.symm (fun h => absurd hl h) (fun _ => ?_) (fun _ => rfl) (fun h => by omega)
    ·exact (D.grow_nil _ _ _ hf).symm
    ·rw [D.grow_length]; exact hf
   ·rw [q2, cond_false, e]
    exact ref_eq hs l k (i + 1) _ _ _ _ rfl rfl (fun _ => rfl) (fun h => by rw [h]; simp) (fun _ => rfl) (fun h => by omega)
theorem out_eq (hs : ∀ a b, D.same a b = true ↔ a = b) (l : List α) : D.out l = D.ref (D.sec l) (D.cuts l) ((D.cuts l).length - 1) 0 [] [] 0 :=
 D.ref_eq hs l _ 0 _ [] [] 0 rfl rfl (fun _ => rfl) (fun _ => Nat.le_refl _) (fun h => absurd h (Nat.lt_irrefl _)) (fun _ => rfl)
end Dim
theorem v6b (l : List R4) : D4.cuts l = xsV l [] := by
 unfold Dim.cuts xsV
 rw [y3v, show z1l ([] : List R4) = [] from rfl, List.append_nil]; rfl
theorem v5p (l : List R4) (x y : Int) : w6p 2 l [] x y = has4V l x y := by
 unfold w6p Qg
 show (has4V l x y || has4V [] x y) = _
 rw [show has4V [] x y = false from rfl, Bool.or_false]
theorem y9q {l : List R4} {x : Int} {s : R2} (h : s ∈ D4.inn l x) : ∃ r ∈ l, r.a ≤ x ∧ x < r.c ∧ s = ⟨r.b, r.d⟩ := by
 obtain ⟨r, hr, e⟩ := List.mem_map.1 h
 obtain ⟨h1, h2⟩ := List.mem_filter.1 hr
 simp only [Bool.and_eq_true, decide_eq_true_eq] at h2
 exact ⟨r, h1, h2.1, h2.2, e.symm⟩
theorem v2t {l : List R4} {x : Int} {r : R4} (h : r ∈ l) (h1 : r.a ≤ x) (h2 : x < r.c) : (⟨r.b, r.d⟩ : R2) ∈ D4.inn l x := by
 refine List.mem_map.2 ⟨r, List.mem_filter.2 ⟨h, ?_⟩, rfl⟩
 simp only [Bool.and_eq_true, decide_eq_true_eq]
 exact ⟨h1, h2⟩
theorem sec_eq (l : List R4) (hv : l.all z7q = true) (hl : l.length ≤ 400) (x : Int) : D4.sec l x = x1m 2 l [] x := by
 have hin := D4.inn_length l x
 have hvi : (D4.inn l x).all y1d = true := List.all_eq_true.2 fun s hs => by
  obtain ⟨r, hr, _, _, rfl⟩ := y9q hs
  have := List.all_eq_true.1 hv r hr
  simp only [z7q, y1d, Bool.and_eq_true, decide_eq_true_eq] at this ⊢
  omega
 have e1 : D4.sec l x = swV (D4.inn l x) := by
  show Wy (D4.inn l x) = _
  unfold Wy
  rw [decide_eq_false (by omega), hvi]; rfl
 obtain ⟨c1, c2⟩ := x6v _ hvi
 obtain ⟨y1, y2⟩ := z9a (z0j l ++ z0j [])
 have e2 : x1m 2 l [] x = z7f (ysV l []) ((ysV l []).map fun y => has4V l x y) := by
  unfold x1m
  congr 1
  exact List.map_congr_left fun y _ => v5p l x y
 obtain ⟨d1, d2⟩ := w6r (ysV l []) y1 (fun y => has4V l x y) (D4.inn l x) (fun s hs => by
  obtain ⟨r, hr, _, _, rfl⟩ := y9q hs
  unfold ysV
  exact ⟨(y2 _).2 (List.mem_append.2 (.inl (List.mem_flatMap.2 ⟨r, hr, by simp⟩))), (y2 _).2 (List.mem_append.2 (.inl (List.mem_flatMap.2 ⟨r, hr, by simp⟩)))⟩) (fun y => by
  unfold has4V
  rw [List.any_eq_true]
  constructor
  ·rintro ⟨r, hr, h⟩
   simp only [in4, Bool.and_eq_true, decide_eq_true_eq] at h
   exact ⟨_, v2t hr h.1 h.2.1, h.2.2.1, h.2.2.2⟩
  ·rintro ⟨s, hs, h1, h2⟩
   obtain ⟨r, hr, r1, r2, rfl⟩ := y9q hs
   refine ⟨r, hr, ?_⟩
   simp only [in4, Bool.and_eq_true, decide_eq_true_eq]
   exact ⟨r1, r2, h1, h2⟩)
 rw [e1, e2]
 exact v0h _ _ c1 d1 fun y => by rw [c2, d2]
theorem x9x (l : List R4) : ∀ (k i : Nat) (out : List R4) (last : List R2) (first : Nat), jF 2 l [] k i out last first = D4.ref (x1m 2 l []) (xsV l []) k i out last first
 | 0, _, _, _, _ => rfl
 | k + 1, i, out, last, first => by
  unfold jF Dim.ref
  rw [x9x l k, x9x l k]
  rfl
theorem joV_eq (l : List R4) (hv : l.all z7q = true) (hl : l.length ≤ 400) : D4.out l = joV 2 l [] := by
 rw [D4.out_eq (fun a b => decide_eq_true_iff) l, joV, x9x, ← v6b]
 congr 1
 funext x
 exact sec_eq l hv hl x
theorem w1s (l : List R6) : D6.cuts l = Ys l [] := by
 unfold Dim.cuts Ys
 rw [y3v, show z1k ([] : List R6) = [] from rfl, List.append_nil]; rfl
theorem v0o (l : List R6) (z : Int) : D6.inn l z = atV l z := rfl
theorem x6t (r : R6) : z2x r = x3h r := by
 unfold z2x x3h
 simp only [v3k, v3l]
 rw [Bool.eq_iff_iff]
 simp only [Bool.and_eq_true, decide_eq_true_eq]
 have m1 : ∀ x y z : Int, x ≤ min y z ↔ x ≤ y ∧ x ≤ z := fun x y z => by omega
 have m2 : ∀ x y z : Int, max y z ≤ x ↔ y ≤ x ∧ z ≤ x := fun x y z => by omega
 simp only [ge_iff_le, m1, m2]
 constructor <;> intro h <;> (repeat' apply And.intro) <;> omega
theorem w1e (l : List R6) (hv : l.all z2x = true) (z : Int) : (atV l z).all z7q = true := List.all_eq_true.2 fun s hs => by
 obtain ⟨r, hr, rfl⟩ := List.mem_map.1 hs
 have := List.all_eq_true.1 hv r (List.mem_filter.1 hr).1
 rw [x6t] at this
 simp only [x3h, Bool.and_eq_true, decide_eq_true_eq] at this
 show z7q ⟨r.a, r.b, r.d, r.e⟩ = true
 simp only [z7q, Bool.and_eq_true, decide_eq_true_eq]
 (repeat' apply And.intro) <;> omega
section
variable (l : List R6) (hv : l.all z2x = true) (hl : l.length ≤ 400)
include hv hl
theorem v0k (z : Int) : D4.out (atV l z) = joV 2 (atV l z) [] := joV_eq _ (w1e l hv z) (Nat.le_trans (z0i l z) hl)
theorem v0j (z : Int) : w6t l z = z7e 2 l [] z := by
 have h1 := v0k l hv hl z
 have h2 := z0i l z
 have e : joV 2 (atV [] z) [] = [] := rfl
 unfold w6t z7e y4n
 rw [e, show atV ([] : List R6) z = [] from rfl, v0o]
 unfold Js
 rw [decide_eq_false (by omega), w1e l hv z, h1, cond_false, cond_true]
 by_cases h : 400 < (joV 2 (atV l z) []).length
 ·rw [decide_eq_true (show ((joV 2 (atV l z) []).length : Int) > 400 by omega), decide_eq_true h]; rfl
 ·rw [decide_eq_false (show ¬ ((joV 2 (atV l z) []).length : Int) > 400 by omega), decide_eq_false h]; rfl
theorem v1g (z : Int) (h : w6t l z = false) : D6.sec l z = y4n 2 l [] z := by
 have h1 := v0k l hv hl z
 have h2 := z0i l z
 rw [v0j l hv hl] at h
 show Yc (D6.inn l z) = joV 2 (atV l z) (atV [] z)
 rw [v0o]
 unfold Yc
 have h3 : ¬ 400 < (joV 2 (atV l z) []).length := fun hh => by
  unfold z7e y4n at h
  rw [show atV ([] : List R6) z = [] from rfl, decide_eq_true hh] at h
  cases h
 rw [decide_eq_false (by omega), w1e l hv z, h1, cond_false, cond_true, decide_eq_false (by omega)]
 rfl
theorem y9n : ∀ (k i : Nat) (out : List R6) (last : List R4) (first : Nat), jsF 2 l [] k i out last first = bif okF l k i then some (D6.ref (D6.sec l) (D6.cuts l) k i out last first) else none
 | 0, _, _, _, _ => rfl
 | k + 1, i, out, last, first => by
  unfold jsF okF Dim.ref
  rw [← w1s, ← v0j l hv hl]
  rcases Yg (w6t l (rd (D6.cuts l) i)) with q | q
  ·rw [q]; rfl
  ·have := v1g l hv hl _ q
   rw [q, cond_false, cond_false, this, y9n k, y9n k]
   have e : D6.same (y4n 2 l [] (rd (D6.cuts l) i)) last = Ua (y4n 2 l [] (rd (D6.cuts l) i)) last := rfl
   rw [e]
   cases (decide (0 < i) && Ua (y4n 2 l [] (rd (D6.cuts l) i)) last) <;> rfl
theorem jsO_eq : jsO 2 l [] = bif okF l ((D6.cuts l).length - 1) 0 then some (D6.out l) else none := by
 unfold jsO
 rw [y9n l hv hl, ← w1s, D6.out_eq (fun a b => decide_eq_true_iff) l]
end
theorem x2z (l : List R6) : Zr l = Wv l := by
 unfold Zr Wv
 by_cases h : 400 < l.length
 ·rw [decide_eq_true h]; rfl
 ·rw [decide_eq_false h, cond_false, cond_false, show l.all x3h = l.all z2x from by congr 1; funext r; exact (x6t r).symm]
  rcases Yg (l.all z2x) with hv | hv
  ·rw [hv, cond_true, cond_true]
   unfold rckF y6d z3p
   rw [jsO_eq l hv (by omega)]
   rcases Yg (okF l ((D6.cuts l).length - 1) 0) with q | q
   ·rw [q, cond_true, cond_true]
    show _ = bif decide (((D6.out l).length : Int) ≤ 400) then (bif Jw (D6.out l) l then 0 else 8) else 8
    by_cases h2 : ((D6.out l).length : Int) > 400
    ·rw [decide_eq_true h2, decide_eq_false (by omega)]; rfl
    ·rw [decide_eq_false h2, decide_eq_true (by omega)]; rfl
   ·rw [q]; rfl
  ·rw [hv]; rfl
end Go.Am
namespace Go.Am
def Cg (x y : Int) : Prop := (18446744073709551616 : Int) ∣ x - y
theorem Cg.refl (x : Int) : Cg x x := by unfold Cg; rw [Int.sub_self]; exact Int.dvd_zero _
theorem Cg.trans {x y z : Int} (h : Cg x y) (k : Cg y z) : Cg x z := by unfold Cg at *; omega
theorem Cg.wrap (x : Int) : Cg (IntKind.wrap .i64 x) x := by rw [w64]; unfold Cg; omega
theorem Cg.eq {x y : Int} (h : Cg x y) : IntKind.wrap .i64 x = IntKind.wrap .i64 y := by rw [w64, w64]; unfold Cg at h; omega
theorem Cg.w {x y : Int} (h : Cg x y) : Cg (IntKind.wrap .i64 x) y := (Cg.wrap x).trans h
theorem Cg.is {x y : Int} (h : Cg x y) (hx : -9223372036854775808 ≤ x ∧ x ≤ 9223372036854775807) (hy : -9223372036854775808 ≤ y ∧ y ≤ 9223372036854775807) : x = y := by unfold Cg at h; omega
def ovl (a b c d : Int) : Int := max 0 (min b d - max a c)
def ov (r s : R6) : Int := ovl r.a r.d s.a s.d * ovl r.b r.e s.b s.e * ovl r.c r.f s.c s.f
def nx (d : Int) (r : R6) : R6 :=
 let t := 1 - 2 * Int.tmod d 2
 bif Int.tdiv d 2 == 0 then ⟨r.a + t, r.b, r.c, r.d + t, r.e, r.f⟩ else bif Int.tdiv d 2 == 1 then ⟨r.a, r.b + t, r.c, r.d, r.e + t, r.f⟩ else ⟨r.a, r.b, r.c + t, r.d, r.e, r.f + t⟩
def sm {α : Type} (l : List α) (f : α → Int) : Int := (l.map f).sum
theorem v0z {α : Type} (x : α) (l : List α) (f : α → Int) : sm (x :: l) f = f x + sm l f := by simp [sm]
theorem w2c {α : Type} {l : List α} {f g : α → Int} (h : ∀ x ∈ l, f x = g x) : sm l f = sm l g := by
 unfold sm; rw [List.map_congr_left h]
theorem v0y {α : Type} (l : List α) : sm l (fun _ => 0) = 0 := by
 induction l with
 | nil => rfl
 | cons x l ih => rw [v0z, ih]; rfl
def E2 (d : Int) (X Y : List R6) : Int := sm X fun x => sm Y fun y => ov (nx d x) y
def Eqv (B B' : List R6) : Prop := ∀ f, sm B f = sm B' f
theorem Eqv.refl (X : List R6) : Eqv X X := fun _ => rfl
def c1 (d : Int) (X Y B : List R6) : Int := (E2 d X Y - E2 d B Y) - (E2 d X B - E2 d B B)
end Go.Am
namespace Go.Am
open Go.Proofs
end Go.Am
namespace Go.Am
open Go.Proofs
section
variable (X Y : List R6) (hX : X.length ≤ 10000) (hY : Y.length ≤ 10000)
include hX hY
end
end Go.Am
namespace Go.Am
open Go.Proofs
-- h0: index into an array (choices [true, false, false, false])
end Go.Am
namespace Go.Am
open Go.Proofs
end Go.Am
namespace Go.Am
open Go.Proofs
end Go.Am
namespace Go.Am
open Go.Proofs
end Go.Am
namespace Go.Am
open Go.Proofs
end Go.Am
namespace Go.Am
open Go.Proofs
def Vj (l : List R6) : Bool := true
def Jk (l : List R6) : Bool := true
end Go.Am
namespace Go.Am
open Go.Proofs.Tryz
open Go.Proofs
inductive dreS where
def dreC (l0 : List R6) (l1 : List R6) : dreS → Cfg
 := nofun
def x0i (l0 : List R6) (l1 : List R6) : dreS → Xd dreS
 := nofun
def z8q (l0 : List R6) (l1 : List R6) : Xd dreS := (bif (Vj (cvT l0)) then (bif ((Zr (cvT l0)) != 0) then (.ret [(.int .i64 0), (.int .i64 (Zr (cvT l0)))]) else (bif (Vj (cvT l1)) then (bif ((Zr (cvT l1)) != 0) then (.ret [(.int .i64 0), (.int .i64 (Zr (cvT l1)))]) else (bif ((l1.length : Int) == 0) then (bif (decide ((l0.length : Int) > 0)) then (.ret [(.int .i64 0), (.int .i64 6)]) else (bif (decide ((Wt (l0.length : Int) (l1.length : Int)) > 40)) then (.ret [(.int .i64 0), (.int .i64 4)]) else (bif (Un (cvT l0) (cvT l1)) then (.ret [(.int .i64 (x4m (cvT l0) (cvT l1))), (.int .i64 0)]) else .stuck))) else (bif (decide ((Wt (l0.length : Int) (l1.length : Int)) > 40)) then (.ret [(.int .i64 0), (.int .i64 4)]) else (bif (Un (cvT l0) (cvT l1)) then (.ret [(.int .i64 (x4m (cvT l0) (cvT l1))), (.int .i64 0)]) else .stuck)))) else .stuck)) else .stuck)
theorem x5s (l0 : List R6) (l1 : List R6) : ∀ s, Wj prog (Zy prog 16) (dreC l0 l1) (dreC l0 l1 s) (x0i l0 l1 s)
 := nofun
theorem x0j (l0 : List R6) (l1 : List R6) : Wj prog (Zy prog 16) (dreC l0 l1) (Zf prog 16 [(.dat l0.length (Zz l0)), (.dat l1.length (Zz l1))] true []) (z8q l0 l1) := (lo fun bB => (lb (fun k0 => (lr 30 16 [1, 0, 1, 1, 0, 0] 1 16 [(4, (ii 0)), (5, (ii (Zr (cvT l0))))] (sl Uw 48 [] ⟨[], [], [some [4, 5]], []⟩ ⟨[], [], []⟩ [true, true] (tt k0 (tt k0 (pp (pp (xr l0) (xw bB)) nn)))))) (fun k0 => (lo fun aH => (lb (fun k1 => (lr 30 16 [1, 0, 1, 1, 0, 0] 1 16 [(4, (ii 0)), (5, (ii (Zr (cvT l1))))] (sl Uw 50 [] ⟨[], [], [some [4, 5]], []⟩ ⟨[], [], []⟩ [false, true] (tt k1 (pp (pp (xr l1) (xw aH)) (tt k0 (pp (pp (xr l0) (xw bB)) nn))))))) (fun k1 => (lb (fun k2 => (lb (fun k3 => (lr 30 16 [1, 1, 0, 1, 0, 0] 1 16 [(4, (ii 0)), (5, (ii 6))] (sl Uw 63 [] ⟨[], [], [some [4, 5]], []⟩ ⟨[], [], []⟩ [false, false, true, true, true, true] (tt k3 (tt k2 (tt k1 (pp (pp (xr l1) (xw aH)) (tt k0 (pp (pp (xr l0) (xw bB)) nn))))))))) (fun k3 => (lb (fun k4 => (lr 30 16 [1, 1, 1, 0, 1, 0, 0] 1 16 [(4, (ii 0)), (5, (ii 4))] (sl Uw 75 [] ⟨[], [], [some [4, 5]], []⟩ ⟨[], [], []⟩ [false, false, true, true, true, false, true] (tt k4 (tt k3 (tt k2 (tt k1 (pp (pp (xr l1) (xw aH)) (tt k0 (pp (pp (xr l0) (xw bB)) nn)))))))))) (fun k4 => (lo fun o0 => (lr 30 3 [1, 1, 1, 1, 1, 1, 0] 1 16 [(4, (ii (x4m (cvT l0) (cvT l1)))), (5, (ii 0))] (sl Uw 79 [] ⟨[], [], [some [4, 5]], []⟩ ⟨[], [], []⟩ [false, false, true, true, true, false, false] (pp (pp (xr l0) (pp (xr l1) (xw o0))) (tt k4 (tt k3 (tt k2 (tt k1 (pp (pp (xr l1) (xw aH)) (tt k0 (pp (pp (xr l0) (xw bB)) nn)))))))))))))))) (fun k2 => (lb (fun k3 => (lr 30 16 [1, 1, 1, 0, 1, 0, 0] 1 16 [(4, (ii 0)), (5, (ii 4))] (sl Uw 75 [] ⟨[], [], [some [4, 5]], []⟩ ⟨[], [], []⟩ [false, false, false, false, false, false, true] (tt k3 (tt k2 (tt k1 (pp (pp (xr l1) (xw aH)) (tt k0 (pp (pp (xr l0) (xw bB)) nn))))))))) (fun k3 => (lo fun o0 => (lr 30 3 [1, 1, 1, 1, 1, 1, 0] 1 16 [(4, (ii (x4m (cvT l0) (cvT l1)))), (5, (ii 0))] (sl Uw 79 [] ⟨[], [], [some [4, 5]], []⟩ ⟨[], [], []⟩ [false, false, false, false, false, false, false] (pp (pp (xr l0) (pp (xr l1) (xw o0))) (tt k3 (tt k2 (tt k1 (pp (pp (xr l1) (xw aH)) (tt k0 (pp (pp (xr l0) (xw bB)) nn))))))))))))))))))))
theorem w5v (l0 : List R6) (l1 : List R6) (n : Nat) (vs : List AVal) (h : Yv (x0i l0 l1) n (z8q l0 l1) = .ret vs) : Jo prog (Zy prog 16) (Zf prog 16 [(.dat l0.length (Zz l0)), (.dat l1.length (Zz l1))] true []) vs := by
 have := Zo (x5s l0 l1) n _ (x0j l0 l1)
 rwa [h] at this
inductive ddiS where
def ddiC (l0 : List R6) (l1 : List R6) : ddiS → Cfg
 := nofun
def x0m (l0 : List R6) (l1 : List R6) : ddiS → Xd ddiS
 := nofun
def z8s (l0 : List R6) (l1 : List R6) : Xd ddiS := (bif (Vj (cvT l0)) then (bif ((Zr (cvT l0)) != 0) then (.ret [(.int .i64 0), (.int .i64 (Zr (cvT l0)))]) else (bif (Vj (cvT l1)) then (bif ((Zr (cvT l1)) != 0) then (.ret [(.int .i64 0), (.int .i64 (Zr (cvT l1)))]) else (bif ((l0.length : Int) == 0) then (.ret [(.int .i64 0), (.int .i64 6)]) else (bif ((l1.length : Int) == 0) then (.ret [(.int .i64 0), (.int .i64 6)]) else (bif (decide ((Wt (l0.length : Int) (l1.length : Int)) > 40)) then (.ret [(.int .i64 0), (.int .i64 4)]) else (bif (Un (cvT l0) (cvT l1)) then (bif (Un (cvT l1) (cvT l0)) then (.ret [(.int .i64 (Wt (x4m (cvT l0) (cvT l1)) (x4m (cvT l1) (cvT l0)))), (.int .i64 0)]) else .stuck) else .stuck))))) else .stuck)) else .stuck)
theorem x5u (l0 : List R6) (l1 : List R6) : ∀ s, Wj prog (Zy prog 18) (ddiC l0 l1) (ddiC l0 l1 s) (x0m l0 l1 s)
 := nofun
theorem x0n (l0 : List R6) (l1 : List R6) : Wj prog (Zy prog 18) (ddiC l0 l1) (Zf prog 18 [(.dat l0.length (Zz l0)), (.dat l1.length (Zz l1))] true []) (z8s l0 l1) := (lo fun bB => (lb (fun k0 => (lr 34 18 [1, 0, 1, 1, 0, 0] 1 16 [(4, (ii 0)), (5, (ii (Zr (cvT l0))))] (sl Uw 48 [] ⟨[], [], [some [4, 5]], []⟩ ⟨[], [], []⟩ [true, true] (tt k0 (tt k0 (pp (pp (xr l0) (xw bB)) nn)))))) (fun k0 => (lo fun aH => (lb (fun k1 => (lr 34 18 [1, 0, 1, 1, 0, 0] 1 16 [(4, (ii 0)), (5, (ii (Zr (cvT l1))))] (sl Uw 50 [] ⟨[], [], [some [4, 5]], []⟩ ⟨[], [], []⟩ [false, true] (tt k1 (pp (pp (xr l1) (xw aH)) (tt k0 (pp (pp (xr l0) (xw bB)) nn))))))) (fun k1 => (lb (fun k2 => (lr 34 18 [1, 1, 0, 1, 0, 0] 1 16 [(4, (ii 0)), (5, (ii 6))] (sl Uw 63 [] ⟨[], [], [some [4, 5]], []⟩ ⟨[], [], []⟩ [false, false, true, true, true, true] (tt k2 (tt k1 (pp (pp (xr l1) (xw aH)) (tt k0 (pp (pp (xr l0) (xw bB)) nn)))))))) (fun k2 => (lb (fun k3 => (lr 34 18 [1, 1, 0, 1, 0, 0] 1 16 [(4, (ii 0)), (5, (ii 6))] (sl Uw 63 [] ⟨[], [], [some [4, 5]], []⟩ ⟨[], [], []⟩ [false, false, false, false, false, true] (tt k3 (tt k2 (tt k1 (pp (pp (xr l1) (xw aH)) (tt k0 (pp (pp (xr l0) (xw bB)) nn))))))))) (fun k3 => (lb (fun k4 => (lr 34 18 [1, 1, 1, 0, 1, 0, 0] 1 16 [(4, (ii 0)), (5, (ii 4))] (sl Uw 75 [] ⟨[], [], [some [4, 5]], []⟩ ⟨[], [], []⟩ [false, false, false, false, false, false, true] (tt k4 (tt k3 (tt k2 (tt k1 (pp (pp (xr l1) (xw aH)) (tt k0 (pp (pp (xr l0) (xw bB)) nn)))))))))) (fun k4 => (lo fun o0 => (lo fun o1 => (lr 34 3 [1, 1, 1, 1, 1, 1, 0] 1 16 [(4, (ii (Wt (x4m (cvT l0) (cvT l1)) (x4m (cvT l1) (cvT l0))))), (5, (ii 0))] (sl Uw 83 [] ⟨[], [], [some [4, 5]], []⟩ ⟨[], [], []⟩ [false, false, false, false, false, false, false] (pp (pp (xr l1) (pp (xr l0) (xw o1))) (pp (pp (xr l0) (pp (xr l1) (xw o0))) (tt k4 (tt k3 (tt k2 (tt k1 (pp (pp (xr l1) (xw aH)) (tt k0 (pp (pp (xr l0) (xw bB)) nn)))))))))))))))))))))))))
theorem w5y (l0 : List R6) (l1 : List R6) (n : Nat) (vs : List AVal) (h : Yv (x0m l0 l1) n (z8s l0 l1) = .ret vs) : Jo prog (Zy prog 18) (Zf prog 18 [(.dat l0.length (Zz l0)), (.dat l1.length (Zz l1))] true []) vs := by
 have := Zo (x5u l0 l1) n _ (x0n l0 l1)
 rwa [h] at this
inductive rreS where
def rreC (l0 : List R6) (l1 : List R6) : rreS → Cfg
 := nofun
def y8d (l0 : List R6) (l1 : List R6) : rreS → Xd rreS
 := nofun
def z7y (l0 : List R6) (l1 : List R6) : Xd rreS := (bif (Jk (cvT l0)) then (bif ((Wv (cvT l0)) != 0) then (.ret [(.int .i64 0), (.int .i64 (Wv (cvT l0)))]) else (bif (Jk (cvT l1)) then (bif ((Wv (cvT l1)) != 0) then (.ret [(.int .i64 0), (.int .i64 (Wv (cvT l1)))]) else (bif (decide ((l0.length : Int) > 0)) then (bif ((l1.length : Int) == 0) then (.ret [(.int .i64 0), (.int .i64 6)]) else (bif (decide ((l0.length : Int) > 40)) then (.ret [(.int .i64 0), (.int .i64 4)]) else (bif (decide ((l1.length : Int) > 40)) then (.ret [(.int .i64 0), (.int .i64 4)]) else (bif ((l0.length : Int) == 0) then (.ret [(.int .i64 0), (.int .i64 0)]) else (bif (Uh (cvT l0) (cvT l1)) then (.ret [(.int .i64 (x4d (cvT l0) (cvT l1))), (.int .i64 0)]) else .stuck))))) else (bif (decide ((l0.length : Int) > 40)) then (.ret [(.int .i64 0), (.int .i64 4)]) else (bif (decide ((l1.length : Int) > 40)) then (.ret [(.int .i64 0), (.int .i64 4)]) else (bif ((l0.length : Int) == 0) then (.ret [(.int .i64 0), (.int .i64 0)]) else (bif (Uh (cvT l0) (cvT l1)) then (.ret [(.int .i64 (x4d (cvT l0) (cvT l1))), (.int .i64 0)]) else .stuck)))))) else .stuck)) else .stuck)
theorem x4b (l0 : List R6) (l1 : List R6) : ∀ s, Wj prog (Zy prog 17) (rreC l0 l1) (rreC l0 l1 s) (y8d l0 l1 s)
 := nofun
theorem y8e (l0 : List R6) (l1 : List R6) : Wj prog (Zy prog 17) (rreC l0 l1) (Zf prog 17 [(.dat l0.length (Zz l0)), (.dat l1.length (Zz l1))] true []) (z7y l0 l1) := (lo fun bB => (lb (fun k0 => (lr 35 17 [1, 0, 1, 0, 0] 1 16 [(4, (ii 0)), (5, (ii (Wv (cvT l0))))] (sl Uw 60 [] ⟨[], [], [some [4, 5]], []⟩ ⟨[], [], []⟩ (trs 3 []) (pp (pp (xr l0) (xw bB)) (tt k0 (pp (pp (xr l0) (xw bB)) (tt k0 (pp (pp (xr l0) (xw bB)) (tt k0 (pp (pp (xr l0) (xw bB)) nn)))))))))) (fun k0 => (lo fun aH => (lb (fun k1 => (lr 35 17 [1, 0, 1, 0, 0] 1 16 [(4, (ii 0)), (5, (ii (Wv (cvT l1))))] (sl Uw 62 [] ⟨[], [], [some [4, 5]], []⟩ ⟨[], [], []⟩ [false, true, false] (pp (pp (xr l1) (xw aH)) (tt k0 (pp (pp (xr l0) (xw bB)) (tt k1 (pp (pp (xr l1) (xw aH)) (tt k0 (pp (pp (xr l0) (xw bB)) nn)))))))))) (fun k1 => (lb (fun k2 => (lb (fun k3 => (lr 35 17 [1, 1, 0, 1, 0, 0] 1 16 [(4, (ii 0)), (5, (ii 6))] (sl Uw 53 [] ⟨[], [], [some [4, 5]], []⟩ ⟨[], [], []⟩ [false, false, true, true, true, true] (tt k3 (tt k2 (tt k1 (pp (pp (xr l1) (xw aH)) (tt k0 (pp (pp (xr l0) (xw bB)) nn))))))))) (fun k3 => (lb (fun k4 => (lr 35 17 [1, 1, 1, 0, 1, 0, 0] 1 16 [(4, (ii 0)), (5, (ii 4))] (sl Uw 67 [] ⟨[], [], [some [4, 5]], []⟩ ⟨[], [], []⟩ [false, false, true, true, true, false, true, true, true, true] (tt k4 (tt k3 (tt k2 (tt k1 (pp (pp (xr l1) (xw aH)) (tt k0 (pp (pp (xr l0) (xw bB)) nn)))))))))) (fun k4 => (lb (fun k5 => (lr 35 17 [1, 1, 1, 0, 1, 0, 0] 1 16 [(4, (ii 0)), (5, (ii 4))] (sl Uw 67 [] ⟨[], [], [some [4, 5]], []⟩ ⟨[], [], []⟩ [false, false, true, true, true, false, false, false, false, true] (tt k5 (tt k4 (tt k3 (tt k2 (tt k1 (pp (pp (xr l1) (xw aH)) (tt k0 (pp (pp (xr l0) (xw bB)) nn))))))))))) (fun k5 => (lb (fun k6 => (lr 35 17 [1, 1, 1, 1, 0, 1, 0, 0] 1 16 [(4, (ii 0)), (5, (ii 0))] (sl Uw 76 [] ⟨[], [], [some [4, 5]], []⟩ ⟨[], [], []⟩ [false, false, true, true, true, false, false, false, false, false, true] (tt k6 (tt k5 (tt k4 (tt k3 (tt k2 (tt k1 (pp (pp (xr l1) (xw aH)) (tt k0 (pp (pp (xr l0) (xw bB)) nn)))))))))))) (fun k6 => (lo fun o0 => (lr 35 3 [1, 1, 1, 1, 1, 1, 0] 1 16 [(4, (ii (x4d (cvT l0) (cvT l1)))), (5, (ii 0))] (sl Uw 80 [] ⟨[], [], [some [4, 5]], []⟩ ⟨[], [], []⟩ [false, false, true, true, true, false, false, false, false, false, false] (pp (pp (xr l0) (pp (xr l1) (xw o0))) (tt k6 (tt k5 (tt k4 (tt k3 (tt k2 (tt k1 (pp (pp (xr l1) (xw aH)) (tt k0 (pp (pp (xr l0) (xw bB)) nn)))))))))))))))))))))) (fun k2 => (lb (fun k3 => (lr 35 17 [1, 1, 1, 0, 1, 0, 0] 1 16 [(4, (ii 0)), (5, (ii 4))] (sl Uw 67 [] ⟨[], [], [some [4, 5]], []⟩ ⟨[], [], []⟩ [false, false, false, false, false, false, true, true, true, true] (tt k3 (tt k2 (tt k1 (pp (pp (xr l1) (xw aH)) (tt k0 (pp (pp (xr l0) (xw bB)) nn))))))))) (fun k3 => (lb (fun k4 => (lr 35 17 [1, 1, 1, 0, 1, 0, 0] 1 16 [(4, (ii 0)), (5, (ii 4))] (sl Uw 67 [] ⟨[], [], [some [4, 5]], []⟩ ⟨[], [], []⟩ [false, false, false, false, false, false, false, false, false, true] (tt k4 (tt k3 (tt k2 (tt k1 (pp (pp (xr l1) (xw aH)) (tt k0 (pp (pp (xr l0) (xw bB)) nn)))))))))) (fun k4 => (lb (fun k5 => (lr 35 17 [1, 1, 1, 1, 0, 1, 0, 0] 1 16 [(4, (ii 0)), (5, (ii 0))] (sl Uw 76 [] ⟨[], [], [some [4, 5]], []⟩ ⟨[], [], []⟩ [false, false, false, false, false, false, false, false, false, false, true] (tt k5 (tt k4 (tt k3 (tt k2 (tt k1 (pp (pp (xr l1) (xw aH)) (tt k0 (pp (pp (xr l0) (xw bB)) nn))))))))))) (fun k5 => (lo fun o0 => (lr 35 3 [1, 1, 1, 1, 1, 1, 0] 1 16 [(4, (ii (x4d (cvT l0) (cvT l1)))), (5, (ii 0))] (sl Uw 80 [] ⟨[], [], [some [4, 5]], []⟩ ⟨[], [], []⟩ [false, false, false, false, false, false, false, false, false, false, false] (pp (pp (xr l0) (pp (xr l1) (xw o0))) (tt k5 (tt k4 (tt k3 (tt k2 (tt k1 (pp (pp (xr l1) (xw aH)) (tt k0 (pp (pp (xr l0) (xw bB)) nn))))))))))))))))))))))))))
theorem w2u (l0 : List R6) (l1 : List R6) (n : Nat) (vs : List AVal) (h : Yv (y8d l0 l1) n (z7y l0 l1) = .ret vs) : Jo prog (Zy prog 17) (Zf prog 17 [(.dat l0.length (Zz l0)), (.dat l1.length (Zz l1))] true []) vs := by
 have := Zo (x4b l0 l1) n _ (y8e l0 l1)
 rwa [h] at this
inductive rdiS where
def rdiC (l0 : List R6) (l1 : List R6) : rdiS → Cfg
 := nofun
def y8q (l0 : List R6) (l1 : List R6) : rdiS → Xd rdiS
 := nofun
def z8c (l0 : List R6) (l1 : List R6) : Xd rdiS := (bif (Jk (cvT l0)) then (bif ((Wv (cvT l0)) != 0) then (.ret [(.int .i64 0), (.int .i64 (Wv (cvT l0)))]) else (bif (Jk (cvT l1)) then (bif ((Wv (cvT l1)) != 0) then (.ret [(.int .i64 0), (.int .i64 (Wv (cvT l1)))]) else (bif ((l0.length : Int) == 0) then (.ret [(.int .i64 0), (.int .i64 6)]) else (bif ((l1.length : Int) == 0) then (.ret [(.int .i64 0), (.int .i64 6)]) else (bif (decide ((l0.length : Int) > 40)) then (.ret [(.int .i64 0), (.int .i64 4)]) else (bif (decide ((l1.length : Int) > 40)) then (.ret [(.int .i64 0), (.int .i64 4)]) else (bif (Uh (cvT l0) (cvT l1)) then (bif (Uh (cvT l1) (cvT l0)) then (.ret [(.int .i64 (Wt (x4d (cvT l0) (cvT l1)) (x4d (cvT l1) (cvT l0)))), (.int .i64 0)]) else .stuck) else .stuck)))))) else .stuck)) else .stuck)
theorem x4k (l0 : List R6) (l1 : List R6) : ∀ s, Wj prog (Zy prog 19) (rdiC l0 l1) (rdiC l0 l1 s) (y8q l0 l1 s)
 := nofun
theorem y8r (l0 : List R6) (l1 : List R6) : Wj prog (Zy prog 19) (rdiC l0 l1) (Zf prog 19 [(.dat l0.length (Zz l0)), (.dat l1.length (Zz l1))] true []) (z8c l0 l1) := (lo fun bB => (lb (fun k0 => (lr 36 19 [1, 0, 1, 0, 0] 1 16 [(4, (ii 0)), (5, (ii (Wv (cvT l0))))] (sl Uw 60 [] ⟨[], [], [some [4, 5]], []⟩ ⟨[], [], []⟩ (trs 3 []) (pp (pp (xr l0) (xw bB)) (tt k0 (pp (pp (xr l0) (xw bB)) (tt k0 (pp (pp (xr l0) (xw bB)) (tt k0 (pp (pp (xr l0) (xw bB)) nn)))))))))) (fun k0 => (lo fun aH => (lb (fun k1 => (lr 36 19 [1, 0, 1, 0, 0] 1 16 [(4, (ii 0)), (5, (ii (Wv (cvT l1))))] (sl Uw 62 [] ⟨[], [], [some [4, 5]], []⟩ ⟨[], [], []⟩ [false, true, false] (pp (pp (xr l1) (xw aH)) (tt k0 (pp (pp (xr l0) (xw bB)) (tt k1 (pp (pp (xr l1) (xw aH)) (tt k0 (pp (pp (xr l0) (xw bB)) nn)))))))))) (fun k1 => (lb (fun k2 => (lr 36 19 [1, 1, 0, 1, 0, 0] 1 16 [(4, (ii 0)), (5, (ii 6))] (sl Uw 53 [] ⟨[], [], [some [4, 5]], []⟩ ⟨[], [], []⟩ [false, false, true, true, true, true] (tt k2 (tt k1 (pp (pp (xr l1) (xw aH)) (tt k0 (pp (pp (xr l0) (xw bB)) nn)))))))) (fun k2 => (lb (fun k3 => (lr 36 19 [1, 1, 0, 1, 0, 0] 1 16 [(4, (ii 0)), (5, (ii 6))] (sl Uw 53 [] ⟨[], [], [some [4, 5]], []⟩ ⟨[], [], []⟩ [false, false, false, false, false, true] (tt k3 (tt k2 (tt k1 (pp (pp (xr l1) (xw aH)) (tt k0 (pp (pp (xr l0) (xw bB)) nn))))))))) (fun k3 => (lb (fun k4 => (lr 36 19 [1, 1, 1, 0, 1, 0, 0] 1 16 [(4, (ii 0)), (5, (ii 4))] (sl Uw 67 [] ⟨[], [], [some [4, 5]], []⟩ ⟨[], [], []⟩ [false, false, false, false, false, false, true, true, true, true] (tt k4 (tt k3 (tt k2 (tt k1 (pp (pp (xr l1) (xw aH)) (tt k0 (pp (pp (xr l0) (xw bB)) nn)))))))))) (fun k4 => (lb (fun k5 => (lr 36 19 [1, 1, 1, 0, 1, 0, 0] 1 16 [(4, (ii 0)), (5, (ii 4))] (sl Uw 67 [] ⟨[], [], [some [4, 5]], []⟩ ⟨[], [], []⟩ [false, false, false, false, false, false, false, false, false, true] (tt k5 (tt k4 (tt k3 (tt k2 (tt k1 (pp (pp (xr l1) (xw aH)) (tt k0 (pp (pp (xr l0) (xw bB)) nn))))))))))) (fun k5 => (lo fun o0 => (lo fun o1 => (lr 36 3 [1, 1, 1, 1, 1, 1, 0] 1 16 [(4, (ii (Wt (x4d (cvT l0) (cvT l1)) (x4d (cvT l1) (cvT l0))))), (5, (ii 0))] (sl Uw 75 [] ⟨[], [], [some [4, 5]], []⟩ ⟨[], [], []⟩ [false, false, false, false, false, false, false, false, false, false] (pp (pp (xr l1) (pp (xr l0) (xw o1))) (pp (pp (xr l0) (pp (xr l1) (xw o0))) (tt k5 (tt k4 (tt k3 (tt k2 (tt k1 (pp (pp (xr l1) (xw aH)) (tt k0 (pp (pp (xr l0) (xw bB)) nn))))))))))))))))))))))))))))
theorem w3d (l0 : List R6) (l1 : List R6) (n : Nat) (vs : List AVal) (h : Yv (y8q l0 l1) n (z8c l0 l1) = .ret vs) : Jo prog (Zy prog 19) (Zf prog 19 [(.dat l0.length (Zz l0)), (.dat l1.length (Zz l1))] true []) vs := by
 have := Zo (x4k l0 l1) n _ (y8r l0 l1)
 rwa [h] at this
end Go.Am
namespace Go.Am
open Go.Proofs Go.Sort Go.Shelf Go.RowKit Go.Lib
namespace Dim
variable {α β : Type} (D : Dim α β)
structure Fair : Prop where
 lo_put : ∀ x x' b, D.lo (D.put x x' b) = x
 hi_put : ∀ x x' b, D.hi (D.put x x' b) = x'
 pr_put : ∀ x x' b, D.pr (D.put x x' b) = b
 ext_put : ∀ x x' x'' b, D.ext x'' (D.put x x' b) = D.put x x'' b
def Ap (R : β → β → Prop) (a b : α) : Prop := D.hi a ≤ D.lo b ∨ D.hi b ≤ D.lo a ∨ R (D.pr a) (D.pr b)
theorem x8f {D : Dim α β} (hD : D.Fair) (R : β → β → Prop) (sec : Int → List β) (cs : List Int) (hc : cs.Pairwise (· < ·)) (fT : ∀ x, (sec x).Pairwise R) :
  ∀ (k i : Nat) (pre : List α) (last : List β) (x0 : Int), (i + k < cs.length ∨ k = 0) → pre.Pairwise (D.Ap R) → (∀ a ∈ pre, D.hi a ≤ x0) → (last ≠ [] → x0 ≤ rd cs i) → (last = [] → x0 ≤ rd cs i) → last.Pairwise R →
  (D.ref sec cs k i (pre ++ last.map (D.put x0 (rd cs i))) last pre.length).Pairwise (D.Ap R) := by
 have fin : ∀ (pre : List α) (last : List β) (x0 x' : Int), pre.Pairwise (D.Ap R) → (∀ a ∈ pre, D.hi a ≤ x0) → last.Pairwise R → (pre ++ last.map (D.put x0 x')).Pairwise (D.Ap R) := fun pre last x0 x' h1 h2 h3 => by
  refine List.pairwise_append.2 ⟨h1, ?_, fun a ha b hb => ?_⟩
  ·refine List.pairwise_map.2 (h3.imp fun {a b} h => .inr (.inr ?_))
   rw [hD.pr_put, hD.pr_put]; exact h
  ·obtain ⟨c, _, rfl⟩ := List.mem_map.1 hb
   exact .inl (by rw [hD.lo_put]; exact h2 a ha)
 intro k
 induction k with
 | zero => intro i pre last x0 _ h1 h2 _ _ h3; exact fin pre last x0 _ h1 h2 h3
 | succ k ih =>
  intro i pre last x0 hk h1 h2 h4 h5 h3
  have hlt : rd cs i < rd cs (i + 1) := w4d hc (Nat.lt_succ_self _) (by omega)
  unfold ref
  cases hq : (decide (0 < i) && D.same (sec (rd cs i)) last) with
  | true =>
   rw [cond_true]
   have e : D.grow (pre ++ last.map (D.put x0 (rd cs i))) pre.length (rd cs (i + 1)) = pre ++ last.map (D.put x0 (rd cs (i + 1))) := by
    unfold grow
    rw [List.take_left, List.drop_left, List.map_map]
    congr 1
    exact List.map_congr_left fun b _ => hD.ext_put _ _ _ _
   rw [e]
   exact ih (i + 1) pre last x0 (by omega) h1 h2 (fun h => by have := h4 h; omega) (fun h => by have := h5 h; omega) h3
  | false =>
   rw [cond_false]
   refine ih (i + 1) (pre ++ last.map (D.put x0 (rd cs i))) (sec (rd cs i)) (rd cs i) (by omega) (fin pre last x0 _ h1 h2 h3) (fun a ha => ?_) (fun _ => by omega) (fun _ => by omega) (fT _)
   rcases List.mem_append.1 ha with ha | ha
   ·have := h2 a ha
    by_cases e : last = []
    ·have := h5 e; omega
    ·have := h4 e; omega
   ·obtain ⟨c, _, rfl⟩ := List.mem_map.1 ha
    rw [hD.hi_put]; exact Int.le_refl _
theorem out_apart {D : Dim α β} (hD : D.Fair) (R : β → β → Prop) (hs : ∀ a b, D.same a b = true ↔ a = b) (l : List α) (fT : ∀ x, (D.sec l x).Pairwise R) : (D.out l).Pairwise (D.Ap R) := by
 rw [D.out_eq hs l]
 have hc : (D.cuts l).Pairwise (· < ·) := by
  show (z5g (D.ends l)).Pairwise (· < ·)
  rw [y3v]; exact (z9a _).1
 have := x8f hD R (D.sec l) (D.cuts l) hc fT ((D.cuts l).length - 1) 0 [] [] (rd (D.cuts l) 0) (by omega) .nil (by simp) (fun _ => Int.le_refl _) (fun _ => Int.le_refl _) .nil
 exact this
end Dim
theorem v6a : D4.Fair := ⟨fun _ _ _ => rfl, fun _ _ _ => rfl, fun _ _ _ => rfl, fun _ _ _ _ => rfl⟩
theorem v5z : D6.Fair := ⟨fun _ _ _ => rfl, fun _ _ _ => rfl, fun _ _ _ => rfl, fun _ _ _ _ => rfl⟩
def Ap2 (s t : R2) : Prop := s.b ≤ t.a ∨ t.b ≤ s.a
def Ap4 (s t : R4) : Prop := s.c ≤ t.a ∨ t.c ≤ s.a ∨ s.d ≤ t.b ∨ t.d ≤ s.b
def Ap6 (s t : R6) : Prop := s.d ≤ t.a ∨ t.d ≤ s.a ∨ s.e ≤ t.b ∨ t.e ≤ s.b ∨ s.f ≤ t.c ∨ t.f ≤ s.c
theorem x6z (l : List R2) : (Wy l).Pairwise Ap2 := by
 unfold Wy
 by_cases h : 400 < l.length
 ·rw [decide_eq_true h]; exact .nil
 ·rw [decide_eq_false h, cond_false]
  cases hv : l.all y1d with
  | false => exact .nil
  | true =>
   rw [cond_true]
   exact (x6v l hv).1.sep.imp fun {s t} h => .inl (by omega)
theorem x8c (l : List R4) : (Yc l).Pairwise Ap4 := by
 have key : (D4.out l).Pairwise Ap4 := (Dim.out_apart v6a Ap2 (fun a b => decide_eq_true_iff) l fun x => x6z _).imp fun {s t} h => by
  rcases h with h | h | h | h
  ·exact .inl h
  ·exact .inr (.inl h)
  ·exact .inr (.inr (.inl h))
  ·exact .inr (.inr (.inr h))
 unfold Yc
 by_cases h : 400 < l.length
 ·rw [decide_eq_true h]; exact .nil
 ·rw [decide_eq_false h, cond_false]
  cases l.all z7q with
  | false => exact .nil
  | true =>
   rw [cond_true]
   cases decide (((D4.out l).length : Int) > 400) with
   | true => exact .nil
   | false => exact key
theorem z0n {l : List R6} (h : Zr l = 0) : l.length ≤ 400 ∧ (∀ r ∈ l, z2x r = true) ∧ l = D6.out l ∧ l.Pairwise Ap6 := by
 unfold Zr at h
 by_cases h1 : 400 < l.length
 ·rw [decide_eq_true h1] at h; cases h
 ·rw [decide_eq_false h1, cond_false] at h
  cases hv : l.all z2x with
  | false => rw [hv] at h; cases h
  | true =>
   rw [hv, cond_true] at h
   cases ho : okF l ((D6.cuts l).length - 1) 0 with
   | false => rw [ho] at h; cases h
   | true =>
    rw [ho, cond_true] at h
    cases h2 : decide (((D6.out l).length : Int) > 400) with
    | true => rw [h2] at h; cases h
    | false =>
     rw [h2, cond_false] at h
     cases h3 : Jw (D6.out l) l with
     | false => rw [h3] at h; cases h
     | true =>
      have e : D6.out l = l := of_decide_eq_true h3
      refine ⟨by omega, fun r hr => List.all_eq_true.1 hv r hr, e.symm, ?_⟩
      have := (Dim.out_apart v5z Ap4 (fun a b => decide_eq_true_iff) l fun x => x8c _).imp (S := Ap6) fun {s t} h => by
       rcases h with h | h | h | h | h | h
       ·exact .inr (.inr (.inr (.inr (.inl h))))
       ·exact .inr (.inr (.inr (.inr (.inr h))))
       ·exact .inl h
       ·exact .inr (.inl h)
       ·exact .inr (.inr (.inl h))
       ·exact .inr (.inr (.inr (.inl h)))
      rwa [e] at this
theorem y4t {r : R6} (h : z2x r = true) : r.a < r.d ∧ r.b < r.e ∧ r.c < r.f ∧ -1000000 ≤ r.a ∧ -1000000 ≤ r.b ∧ -1000000 ≤ r.c ∧ r.d ≤ 1000000 ∧ r.e ≤ 1000000 ∧ r.f ≤ 1000000 := by
 rw [x6t] at h
 simp only [x3h, Bool.and_eq_true, decide_eq_true_eq] at h
 omega
end Go.Am
namespace Go.Am
open Go.Proofs.Tryz
open Go.Proofs
theorem z2c (l : List R6) : Vj l = true := rfl
theorem y3d (l : List R6) : Jk l = true := rfl
def eRe (k : List R6 → Int) (L0 L1 : List R6) : Int := bif k L0 != 0 then k L0 else bif k L1 != 0 then k L1 else bif decide ((L0.length : Int) > 0) && ((L1.length : Int) == 0) then 6 else bif decide ((L0.length : Int) > 40) || decide ((L1.length : Int) > 40) then 4 else 0
def eDi (k : List R6 → Int) (L0 L1 : List R6) : Int := bif k L0 != 0 then k L0 else bif k L1 != 0 then k L1 else bif ((L0.length : Int) == 0) || ((L1.length : Int) == 0) then 6 else bif decide ((L0.length : Int) > 40) || decide ((L1.length : Int) > 40) then 4 else 0
def Vz (L0 L1 : List R6) : Int := eRe Zr L0 L1
def Us (L0 L1 : List R6) : Int := bif eRe Zr L0 L1 == 0 then x4m L0 L1 else 0
def Yi (L0 L1 : List R6) : Int := eDi Zr L0 L1
def Xe (L0 L1 : List R6) : Int := bif eDi Zr L0 L1 == 0 then Wt (x4m L0 L1) (x4m L1 L0) else 0
def x7r (L0 L1 : List R6) : Int := eRe Wv L0 L1
def x7s (L0 L1 : List R6) : Int := bif eRe Wv L0 L1 == 0 then (bif ((L0.length : Int) == 0) then 0 else x4d L0 L1) else 0
def x8g (L0 L1 : List R6) : Int := eDi Wv L0 L1
def x8h (L0 L1 : List R6) : Int := bif eDi Wv L0 L1 == 0 then Wt (x4d L0 L1) (x4d L1 L0) else 0
def Ur (L0 L1 : List R6) : Bool := true
def Vb (L0 L1 : List R6) : Bool := true
def y4z (L0 L1 : List R6) : Bool := true
def y5i (L0 L1 : List R6) : Bool := true
theorem w9s (a b : Int) : decide (Wt a b > 40) = (decide (a > 40) || decide (b > 40)) := by
 unfold Wt
 split
 ·rcases Yg (decide (b > 40)) with h | h
  ·rw [h, Bool.or_true]
  ·have := of_decide_eq_false h
   rw [h, Xk (by omega)]; rfl
 ·rcases Yg (decide (a > 40)) with h | h
  ·rw [h]; rfl
  ·have := of_decide_eq_false h
   rw [h, Xk (by omega)]; rfl
theorem x8r {L0 L1 : List R6} (h0 : ¬ ((L0.length : Int) > 40)) (h1 : ¬ ((L1.length : Int) > 40)) : Un L0 L1 = true := by
 unfold Un; rw [Yx (by omega), Yx (by omega)]; rfl
theorem smR_of {r : R6} (h : z2x r = true) : smR r = true := by
 obtain ⟨_, _, _, h1, h2, h3, h4, h5, h6⟩ := y4t h
 unfold smR
 rw [Xa (by omega), Xa (by omega), Xa (by omega), Xa (by omega), Xa (by omega), Xa (by omega)]; rfl
theorem sck_sm {L : List R6} (h : (Zr L == 0) = true) : L.all smR = true :=
 List.all_eq_true.2 fun r hr => smR_of ((z0n (eq_of_beq h)).2.1 r hr)
theorem rck_sm {L : List R6} (h : (Wv L == 0) = true) : L.all smR = true := sck_sm (by rw [x2z]; exact h)
theorem x7t {L0 L1 : List R6} (k0 : (Wv L0 == 0) = true) (h0 : decide ((L0.length : Int) > 40) = false) (h1 : decide ((L1.length : Int) > 40) = false) (z : ((L1.length : Int) == 0) = false) : Uh L0 L1 = true := by
 have h0 := of_decide_eq_false h0
 have h1 := of_decide_eq_false h1
 have hz : (L1.length : Int) ≠ 0 := fun e => by rw [e] at z; cases z
 unfold Uh
 rw [rck_sm k0, Yq (by omega), Yx (by omega), Yx (by omega)]; rfl
theorem v2z {L : List R6} (h : decide ((L.length : Int) > 0) = false) : ((L.length : Int) == 0) = true := by
 have := of_decide_eq_false h
 exact beq_t' (by omega)
theorem len1 {L : List R6} (h : decide ((L.length : Int) > 0) = true) : ((L.length : Int) == 0) = false := by
 have := of_decide_eq_true h
 exact beq_f' (by omega)
theorem v5h (L0 L1 : List R6) (h : Ur L0 L1 = true) : ∃ N, Yv (x0i L0 L1) N (z8q L0 L1) = .ret [.int .i64 (Us L0 L1), .int .i64 (Vz L0 L1)] := ⟨0, by
 have hk : ∀ l, (Zr l != 0) = !(Zr l == 0) := fun _ => rfl
 unfold z8q Us Vz eRe
 simp only [Zb, z2c, cond_true, w9s, hk]
 rcases Yg (Zr L0 == 0) with a0 | a0 <;> rcases Yg (Zr L1 == 0) with a1 | a1 <;> rcases Yg ((L1.length : Int) == 0) with b | b <;> rcases Yg (decide ((L0.length : Int) > 0)) with c | c <;> rcases Yg (decide ((L0.length : Int) > 40)) with d | d <;> rcases Yg (decide ((L1.length : Int) > 40)) with e | e <;> rw [a0, a1, b, c, d, e] <;>
  simp only [Bool.not_true, Bool.not_false, Bool.and_true, Bool.and_false, Bool.true_and, Bool.false_and, Bool.or_true, Bool.or_false, Bool.true_or, Bool.false_or, cond_true, cond_false, a0, a1] <;>
  first | rfl | (rw [x8r (of_decide_eq_false d) (of_decide_eq_false e)]; rfl)⟩
theorem v5j (L0 L1 : List R6) (h : Vb L0 L1 = true) : ∃ N, Yv (x0m L0 L1) N (z8s L0 L1) = .ret [.int .i64 (Xe L0 L1), .int .i64 (Yi L0 L1)] := ⟨0, by
 have hk : ∀ l, (Zr l != 0) = !(Zr l == 0) := fun _ => rfl
 unfold z8s Xe Yi eDi
 simp only [Zb, z2c, cond_true, w9s, hk]
 rcases Yg (Zr L0 == 0) with a0 | a0 <;> rcases Yg (Zr L1 == 0) with a1 | a1 <;> rcases Yg ((L1.length : Int) == 0) with b | b <;> rcases Yg ((L0.length : Int) == 0) with c | c <;> rcases Yg (decide ((L0.length : Int) > 40)) with d | d <;> rcases Yg (decide ((L1.length : Int) > 40)) with e | e <;> rw [a0, a1, b, c, d, e] <;>
  simp only [Bool.not_true, Bool.not_false, Bool.and_true, Bool.and_false, Bool.true_and, Bool.false_and, Bool.or_true, Bool.or_false, Bool.true_or, Bool.false_or, cond_true, cond_false, a0, a1] <;>
  first | rfl | (rw [x8r (of_decide_eq_false d) (of_decide_eq_false e), x8r (of_decide_eq_false e) (of_decide_eq_false d)]; rfl)⟩
theorem v1s (L0 L1 : List R6) (h : y4z L0 L1 = true) : ∃ N, Yv (y8d L0 L1) N (z7y L0 L1) = .ret [.int .i64 (x7s L0 L1), .int .i64 (x7r L0 L1)] := ⟨0, by
 have hk : ∀ l, (Wv l != 0) = !(Wv l == 0) := fun _ => rfl
 unfold z7y x7s x7r eRe
 simp only [Zb, y3d, cond_true, hk]
 rcases Yg (Wv L0 == 0) with a0 | a0 <;> rcases Yg (Wv L1 == 0) with a1 | a1 <;> rcases Yg ((L1.length : Int) == 0) with b | b <;> rcases Yg (decide ((L0.length : Int) > 0)) with c | c <;> rcases Yg (decide ((L0.length : Int) > 40)) with d | d <;> rcases Yg (decide ((L1.length : Int) > 40)) with e | e <;> rw [a0, a1, b, c, d, e] <;>
  (try rw [v2z c]) <;> (try rw [len1 c]) <;>
  simp only [Bool.not_true, Bool.not_false, Bool.and_true, Bool.and_false, Bool.true_and, Bool.false_and, Bool.or_true, Bool.or_false, Bool.true_or, Bool.false_or, cond_true, cond_false, a0, a1] <;>
  first | rfl | (rw [x7t a0 d e b]; rfl)⟩
theorem v2g (L0 L1 : List R6) (h : y5i L0 L1 = true) : ∃ N, Yv (y8q L0 L1) N (z8c L0 L1) = .ret [.int .i64 (x8h L0 L1), .int .i64 (x8g L0 L1)] := ⟨0, by
 have hk : ∀ l, (Wv l != 0) = !(Wv l == 0) := fun _ => rfl
 unfold z8c x8h x8g eDi
 simp only [Zb, y3d, cond_true, hk]
 rcases Yg (Wv L0 == 0) with a0 | a0 <;> rcases Yg (Wv L1 == 0) with a1 | a1 <;> rcases Yg ((L1.length : Int) == 0) with b | b <;> rcases Yg ((L0.length : Int) == 0) with c | c <;> rcases Yg (decide ((L0.length : Int) > 40)) with d | d <;> rcases Yg (decide ((L1.length : Int) > 40)) with e | e <;> rw [a0, a1, b, c, d, e] <;>
  simp only [Bool.not_true, Bool.not_false, Bool.and_true, Bool.and_false, Bool.true_and, Bool.false_and, Bool.or_true, Bool.or_false, Bool.true_or, Bool.false_or, cond_true, cond_false, a0, a1] <;>
  first | rfl | (rw [x7t a0 d e b, x7t a1 e d c]; rfl)⟩
def fDre : List AVal → Option (AVal × Bool)
 | [a0, a1] => match asL R6 a0, asL R6 a1 with
  | some (L0, g0, n0), some (L1, g1, n1) => some (.tup [.int .i64 (Us L0 L1), .int .i64 (Vz L0 L1)], isT R6 n0 g0 && (isT R6 n1 g1 && (Ur L0 L1)))
  | _, _ => none
 | _ => none
theorem v4s {S : Specs} (hS : Zu prog S) : Zu prog (S.with x9n fDre) := by
 refine z1m hS (by kernel_rfl) fun args v h => ?_
 unfold fDre at h
 split at h
 ·rename_i a0 a1
  split at h
  ·rename_i L0 g0 n0 L1 g1 n1 e0 e1
   simp only [Option.some.injEq, Prod.mk.injEq, Bool.and_eq_true] at h
   obtain ⟨rfl, ho0, ho1, hw⟩ := h
   obtain ⟨N, hN⟩ := v5h L0 L1 hw
   exact ⟨_, _, (.cons (Yh e0 ho0) (.cons (Yh e1 ho1) .nil)), rfl, w5v L0 L1 N _ hN, 3, rfl⟩
  ·cases h
 ·cases h
def fDdi : List AVal → Option (AVal × Bool)
 | [a0, a1] => match asL R6 a0, asL R6 a1 with
  | some (L0, g0, n0), some (L1, g1, n1) => some (.tup [.int .i64 (Xe L0 L1), .int .i64 (Yi L0 L1)], isT R6 n0 g0 && (isT R6 n1 g1 && (Vb L0 L1)))
  | _, _ => none
 | _ => none
theorem v4t {S : Specs} (hS : Zu prog S) : Zu prog (S.with w9d fDdi) := by
 refine z1m hS (by kernel_rfl) fun args v h => ?_
 unfold fDdi at h
 split at h
 ·rename_i a0 a1
  split at h
  ·rename_i L0 g0 n0 L1 g1 n1 e0 e1
   simp only [Option.some.injEq, Prod.mk.injEq, Bool.and_eq_true] at h
   obtain ⟨rfl, ho0, ho1, hw⟩ := h
   obtain ⟨N, hN⟩ := v5j L0 L1 hw
   exact ⟨_, _, (.cons (Yh e0 ho0) (.cons (Yh e1 ho1) .nil)), rfl, w5y L0 L1 N _ hN, 3, rfl⟩
  ·cases h
 ·cases h
def fRre : List AVal → Option (AVal × Bool)
 | [a0, a1] => match asL R6 a0, asL R6 a1 with
  | some (L0, g0, n0), some (L1, g1, n1) => some (.tup [.int .i64 (x7s L0 L1), .int .i64 (x7r L0 L1)], isT R6 n0 g0 && (isT R6 n1 g1 && (y4z L0 L1)))
  | _, _ => none
 | _ => none
theorem v3z {S : Specs} (hS : Zu prog S) : Zu prog (S.with x2d fRre) := by
 refine z1m hS (by kernel_rfl) fun args v h => ?_
 unfold fRre at h
 split at h
 ·rename_i a0 a1
  split at h
  ·rename_i L0 g0 n0 L1 g1 n1 e0 e1
   simp only [Option.some.injEq, Prod.mk.injEq, Bool.and_eq_true] at h
   obtain ⟨rfl, ho0, ho1, hw⟩ := h
   obtain ⟨N, hN⟩ := v1s L0 L1 hw
   exact ⟨_, _, (.cons (Yh e0 ho0) (.cons (Yh e1 ho1) .nil)), rfl, w2u L0 L1 N _ hN, 3, rfl⟩
  ·cases h
 ·cases h
def fRdi : List AVal → Option (AVal × Bool)
 | [a0, a1] => match asL R6 a0, asL R6 a1 with
  | some (L0, g0, n0), some (L1, g1, n1) => some (.tup [.int .i64 (x8h L0 L1), .int .i64 (x8g L0 L1)], isT R6 n0 g0 && (isT R6 n1 g1 && (y5i L0 L1)))
  | _, _ => none
 | _ => none
theorem v4c {S : Specs} (hS : Zu prog S) : Zu prog (S.with x9m fRdi) := by
 refine z1m hS (by kernel_rfl) fun args v h => ?_
 unfold fRdi at h
 split at h
 ·rename_i a0 a1
  split at h
  ·rename_i L0 g0 n0 L1 g1 n1 e0 e1
   simp only [Option.some.injEq, Prod.mk.injEq, Bool.and_eq_true] at h
   obtain ⟨rfl, ho0, ho1, hw⟩ := h
   obtain ⟨N, hN⟩ := v2g L0 L1 hw
   exact ⟨_, _, (.cons (Yh e0 ho0) (.cons (Yh e1 ho1) .nil)), rfl, w3d L0 L1 N _ hN, 3, rfl⟩
  ·cases h
 ·cases h
def Dd : Specs := ((((Dc.with x9n fDre).with w9d fDdi).with x2d fRre).with x9m fRdi)
theorem Uf : Zu prog Dd := (v4c (v3z (v4t (v4s Uw))))
end Go.Am
namespace Go.Am
open Go.Proofs.Tryz
open Go.Proofs
inductive slmS where
 | h0 (v8 : Int)
 | h1 (v16 : Int) (aA : List Int)
 | h2 (v4 : Int) (aC : List R6) (bP : List R4) (bY : Int) (bZ : Int) (aJ : Nat) (aM : List Int)
 | h3 (v4 : Int) (v38 : Int) (aC : List R6) (bP : List R4) (bY : Int) (bZ : Int) (aJ : Nat) (aM : List Int) (bM : Int) (cE : Int) (aD : List R4)
 | h4 (v1 : Int) (v2 : Int) (v72 : List R4) (v73 : Int) (v74 : Int) (bN : List R4) (bD : Int) (aF : List R6) (bL : List R4) (bS : Int) (aJ : Nat) (aM : List Int) (bM : List R4)
 | h5 (v2 : Int) (v8 : Int) (cJ : Int) (bN : List R4) (bD : Int) (aF : List R6) (bL : List R4) (bS : Int) (cN : Int) (cA : Nat) (cH : List Int) (aD : List R4)
def slmC (l0 : List R6) : slmS → Cfg
 | .h0 v8 => ⟨⟨19, 0, true⟩, none, (Zg prog 134 [1, 0, 1, 0, 0] 0), none, (Zy prog 3), ⟨Yj [(0, (.dat l0.length (Zz l0))), (1, (.fn 113 [])), (7, (ii (l0.length : Int))), (8, (ii v8))], Vf [] 0, 0, [], true⟩, [⟨⟨9, 0, true⟩, (Vv prog 112 [1, 0] 2), (Zg prog 112 [1, 0] 1), none, (Zy prog 3), Yj [(5, (.dat l0.length (Zz l0))), (6, (.fn 113 []))]⟩, ⟨⟨15, 0, true⟩, (Vv prog 77 [1, 1, 0, 0] 1), (Zg prog 77 [1, 1, 0, 0] 1), none, (Zy prog 77), Yj [(0, (.dat l0.length (Zz l0))), (7, (.dat l0.length (Zz l0)))]⟩], .leaf⟩
 | .h1 v16 aA => ⟨⟨36, 0, true⟩, none, (Zg prog 129 [1, 1, 0, 1, 0, 0, 1, 1, 0, 0, 1, 1, 0, 0] 0), none, (Zy prog 15), ⟨Yj [(1, (.ptr 0 0)), (3, (.ptr 2 0)), (8, (.sl 1 0 1 (.un 1))), (9, (ii 1)), (10, (ii 0)), (14, (.dat l0.length (Zz l0))), (15, (ii (l0.length : Int))), (16, (ii v16))], Vf [⟨[(.sl 1 0 1 (.un 1))], 168, none⟩, ⟨[(.dat l0.length (Zz l0))], 22, none⟩, ⟨[(.sla 7 1 0 aA.length (.un 1))], 47, none⟩, ⟨[.nilf], 124, none⟩, ⟨[.nils], 30, none⟩, ⟨[(ii 0)], 24, none⟩, ⟨[.nils, .nils, (ii 0), (ii 0)], 170, none⟩, ⟨rows aA.length (Zz aA), 3, some ⟨1, aA.length, (Zz aA)⟩⟩] 0, 8, [], true⟩, [⟨⟨65, 0, true⟩, (Vv prog 108 [1, 1, 0, 0] 1), (Zg prog 108 [1, 1, 0, 0] 1), none, (Zy prog 36), Yj [(2, (.ptr 3 0)), (4, (.ptr 4 0)), (5, (.ptr 5 0)), (6, (.ptr 6 0)), (13, (.sl 1 0 1 (.un 1)))]⟩, ⟨⟨15, 0, true⟩, (Vv prog 77 [1, 1, 1, 0] 3), (Zg prog 77 [1, 1, 1, 0] 1), none, (Zy prog 77), Yj [(9, (.agg [.nilf])), (11, (.sl 1 0 1 (.un 1)))]⟩], .leaf⟩
 | .h2 v4 aC bP bY bZ aJ aM => ⟨⟨86, 0, true⟩, none, (Zg prog 150 [1, 0, 0] 0), none, [], ⟨Yj [(0, (.yld 0)), (1, (.ptr 5 0)), (2, (.ptr 7 0)), (4, (ii v4))], z4r [(1, ⟨[.nilf], 124, none⟩), (2, ⟨[.nils], 30, none⟩), (3, ⟨[(ii 0)], 24, none⟩), (4, ⟨[(.sla 9 6 0 aC.length (.un 6)), (.dat bP.length (Zz bP)), (ii bY), (ii bZ)], 170, none⟩), (5, ⟨[(.sla 6 1 0 aJ (.un 1))], 47, none⟩), (6, ⟨rows aM.length (Zz aM), 3, some ⟨1, aM.length, (Zz aM)⟩⟩), (7, ⟨[(.sl 8 0 1 (.un 1))], 168, none⟩), (8, ⟨[(.dat l0.length (Zz l0))], 22, none⟩), (9, ⟨rows aC.length (Zz aC), 68, some ⟨6, aC.length, (Zz aC)⟩⟩)], 10, [], true⟩, [⟨⟨65, 0, true⟩, none, (.inRangeFunc 0 :: (Zg prog 108 [1, 1, 0, 1, 0] 1)), none, (Zy prog 36), Yj [(4, (.ptr 2 0)), (5, (.ptr 3 0)), (6, (.ptr 4 0))]⟩, ⟨⟨15, 0, true⟩, (Vv prog 77 [1, 1, 1, 0] 3), (Zg prog 77 [1, 1, 1, 0] 1), none, (Zy prog 77), Yj [(9, (.agg [.nilf])), (11, (.sl 8 0 1 (.un 1)))]⟩], (z4t [(0, ⟨.ready, none, 65, Yj [(2, (.ptr 1 0)), (4, (.ptr 2 0)), (5, (.ptr 3 0)), (6, (.ptr 4 0))], [15], (Xn prog 108 [1, 1, 0, 1, 0, 0]), (Xn prog 108 [1, 1, 0, 1, 0, 1])⟩)])⟩
 | .h3 v4 v38 aC bP bY bZ aJ aM bM cE aD => ⟨⟨86, 0, true⟩, none, (Zg prog 150 [1, 0, 0, 1, 0, 0, 1, 0, 1, 0, 0, 1, 1, 0, 0, 1, 1, 0, 0] 0), none, [], ⟨Yj [(0, (.yld 0)), (1, (.ptr 5 0)), (2, (.ptr 7 0)), (4, (ii v4)), (5, (.ptr 9 0)), (6, (ii 0)), (29, (.sl 8 0 1 (.un 1))), (30, (ii 1)), (31, (ii 0)), (36, (.dat l0.length (Zz l0))), (37, (ii (l0.length : Int))), (38, (ii v38))], z4r [(1, ⟨[.nilf], 124, none⟩), (2, ⟨[.nils], 30, none⟩), (3, ⟨[(ii 0)], 24, none⟩), (4, ⟨[(.sla 12 6 0 aC.length (.un 6)), (.dat bP.length (Zz bP)), (ii bY), (ii bZ)], 170, none⟩), (5, ⟨[(.sla 6 1 0 aJ (.un 1))], 47, none⟩), (6, ⟨rows aM.length (Zz aM), 3, some ⟨1, aM.length, (Zz aM)⟩⟩), (7, ⟨[(.sl 8 0 1 (.un 1))], 168, none⟩), (8, ⟨[(.dat l0.length (Zz l0))], 22, none⟩), (9, ⟨[(ii bM), (ii cE), (.sl 10 0 1 (.ex 1))], 175, none⟩), (10, ⟨[(.sla 11 4 0 aD.length (.un 4))], 105, none⟩), (11, ⟨rows aD.length (Zz aD), 114, some ⟨4, aD.length, (Zz aD)⟩⟩), (12, ⟨rows aC.length (Zz aC), 68, some ⟨6, aC.length, (Zz aC)⟩⟩)], 13, [], true⟩, [⟨⟨65, 0, true⟩, none, (.inRangeFunc 0 :: (Zg prog 108 [1, 1, 0, 1, 0] 1)), none, (Zy prog 36), Yj [(4, (.ptr 2 0)), (5, (.ptr 3 0)), (6, (.ptr 4 0))]⟩, ⟨⟨15, 0, true⟩, (Vv prog 77 [1, 1, 1, 0] 3), (Zg prog 77 [1, 1, 1, 0] 1), none, (Zy prog 77), Yj [(9, (.agg [.nilf])), (11, (.sl 8 0 1 (.un 1)))]⟩], (z4t [(0, ⟨.ready, none, 65, Yj [(2, (.ptr 1 0)), (4, (.ptr 2 0)), (5, (.ptr 3 0)), (6, (.ptr 4 0))], [15], (Xn prog 108 [1, 1, 0, 1, 0, 0]), (Xn prog 108 [1, 1, 0, 1, 0, 1])⟩)])⟩
 | .h4 v1 v2 v72 v73 v74 bN bD aF bL bS aJ aM bM => ⟨⟨101, 0, true⟩, none, (Zg prog 131 [1, 1, 1, 0, 0] 0), none, [], ⟨Yj [(0, (.ptr 0 0)), (1, (ii v1)), (2, (ii v2)), (72, (.dat v72.length (Zz v72))), (73, (ii v73)), (74, (ii v74))], z4r [(0, ⟨[(.sla 10 6 0 aF.length (.un 6)), (.dat bL.length (Zz bL)), (ii bS), (ii v2)], 170, none⟩), (2, ⟨[.nilf], 124, none⟩), (3, ⟨[.nils], 30, none⟩), (4, ⟨[(ii 0)], 24, none⟩), (5, ⟨[(.sla 6 1 0 aJ (.un 1))], 47, none⟩), (6, ⟨rows aM.length (Zz aM), 3, some ⟨1, aM.length, (Zz aM)⟩⟩), (7, ⟨[(.sl 8 0 1 (.un 1))], 168, none⟩), (8, ⟨[(.dat l0.length (Zz l0))], 22, none⟩), (9, ⟨[(.dat bM.length (Zz bM))], 105, none⟩), (10, ⟨rows aF.length (Zz aF), 68, some ⟨6, aF.length, (Zz aF)⟩⟩)], 11, [], true⟩, [⟨⟨65, 0, true⟩, (Vv prog 108 [1, 1, 0, 1, 0, 1, 0, 1, 1, 1] 5), (Zg prog 108 [1, 1, 0, 1, 0, 1, 0, 1, 1, 1] 1), (some 1), [], Yj [(6, (.ptr 0 0)), (54, (ii v1)), (56, (ii v2)), (57, (.dat bN.length (Zz bN)))]⟩, ⟨⟨86, 0, true⟩, (Vv prog 150 [1, 0, 0, 1, 0, 0, 1, 1, 0] 2), (Zg prog 150 [1, 0, 0, 1, 0, 0, 1, 1, 0] 1), none, [], Yj [(0, (.yld 1)), (1, (.ptr 5 0)), (2, (.ptr 7 0)), (4, (ii bD)), (82, (.yld 1)), (83, (.agg [(ii v1), (ii v2), (.sl 9 0 1 (.ex 1))]))]⟩, ⟨⟨65, 0, true⟩, none, (.inRangeFunc 1 :: (Zg prog 108 [1, 1, 0, 1, 0] 1)), none, (Zy prog 36), Yj [(4, (.ptr 3 0)), (5, (.ptr 4 0)), (6, (.ptr 0 0))]⟩, ⟨⟨15, 0, true⟩, (Vv prog 77 [1, 1, 1, 0] 3), (Zg prog 77 [1, 1, 1, 0] 1), none, (Zy prog 77), Yj [(9, (.agg [.nilf])), (11, (.sl 8 0 1 (.un 1)))]⟩], (z4t [(1, ⟨.busy, none, 65, Yj [(2, (.ptr 2 0)), (4, (.ptr 3 0)), (5, (.ptr 4 0)), (6, (.ptr 0 0))], [15], (Xn prog 108 [1, 1, 0, 1, 0, 0]), (Xn prog 108 [1, 1, 0, 1, 0, 1])⟩)])⟩
 | .h5 v2 v8 cJ bN bD aF bL bS cN cA cH aD => ⟨⟨101, 0, true⟩, none, (Zg prog 131 [0, 1, 0, 0, 1, 0, 0] 0), none, [], ⟨Yj [(0, (.ptr 0 0)), (2, (ii v2)), (8, (ii v8))], z4r [(0, ⟨[(.sla 1 6 0 aF.length (.un 6)), (.dat bL.length (Zz bL)), (ii bS), (ii cN)], 170, none⟩), (1, ⟨rows aF.length (Zz aF), 68, some ⟨6, aF.length, (Zz aF)⟩⟩), (3, ⟨[.nilf], 124, none⟩), (4, ⟨[.nils], 30, none⟩), (5, ⟨[(ii 0)], 24, none⟩), (6, ⟨[(.sla 7 1 0 cA (.un 1))], 47, none⟩), (7, ⟨rows cH.length (Zz cH), 3, some ⟨1, cH.length, (Zz cH)⟩⟩), (8, ⟨[(.sl 9 0 1 (.un 1))], 168, none⟩), (9, ⟨[(.dat l0.length (Zz l0))], 22, none⟩), (10, ⟨[(.dat aD.length (Zz aD))], 105, none⟩)], 11, [], true⟩, [⟨⟨65, 0, true⟩, (Vv prog 108 [1, 1, 0, 1, 0, 1, 0, 1, 1, 1] 5), (Zg prog 108 [1, 1, 0, 1, 0, 1, 0, 1, 1, 1] 1), (some 2), [], Yj [(6, (.ptr 0 0)), (54, (ii cJ)), (56, (ii v2)), (57, (.dat bN.length (Zz bN)))]⟩, ⟨⟨86, 0, true⟩, (Vv prog 150 [1, 0, 0, 1, 0, 0, 1, 1, 0] 2), (Zg prog 150 [1, 0, 0, 1, 0, 0, 1, 1, 0] 1), none, [], Yj [(0, (.yld 2)), (1, (.ptr 6 0)), (2, (.ptr 8 0)), (4, (ii bD)), (82, (.yld 2)), (83, (.agg [(ii cJ), (ii v2), (.sl 10 0 1 (.ex 1))]))]⟩, ⟨⟨65, 0, true⟩, none, (.inRangeFunc 2 :: (Zg prog 108 [1, 1, 0, 1, 0] 1)), none, (Zy prog 36), Yj [(4, (.ptr 4 0)), (5, (.ptr 5 0)), (6, (.ptr 0 0))]⟩, ⟨⟨15, 0, true⟩, (Vv prog 77 [1, 1, 1, 0] 3), (Zg prog 77 [1, 1, 1, 0] 1), none, (Zy prog 77), Yj [(9, (.agg [.nilf])), (11, (.sl 9 0 1 (.un 1)))]⟩], (z4t [(2, ⟨.busy, none, 65, Yj [(2, (.ptr 3 0)), (4, (.ptr 4 0)), (5, (.ptr 5 0)), (6, (.ptr 0 0))], [15], (Xn prog 108 [1, 1, 0, 1, 0, 0]), (Xn prog 108 [1, 1, 0, 1, 0, 1])⟩)])⟩
def slmN0 : List (Option (List Nat)) := [some [0, 1, 7, 8], some [5, 6], some [0, 7]]
def slmM0 : List (Option (List Nat)) := []
def v1d : List (Option (List Nat)) := [some [1, 3, 8, 9, 10, 14, 15, 16], some [2, 4, 5, 6, 13], some [9, 11]]
def v1f : List (Option (List Nat)) := []
def v1c : List (Option (List Nat)) := [some [0, 1, 2, 4], some [4, 5, 6], some [9, 11]]
def v1e : List (Option (List Nat)) := [some [2, 4, 5, 6], none, none, none, none, none, none, none, none, none]
def w2f : List (Option (List Nat)) := [some [0, 1, 2, 4, 5, 6, 29, 30, 31, 36, 37, 38], some [4, 5, 6], some [9, 11]]
def w2h : List (Option (List Nat)) := [some [2, 4, 5, 6], none, none, none, none, none, none, none, none, none, none, none, none]
def w2e : List (Option (List Nat)) := [some [0, 1, 2, 72, 73, 74], some [6, 54, 56, 57], some [0, 1, 2, 4, 82, 83], some [4, 5, 6], some [9, 11]]
def w2g : List (Option (List Nat)) := [none, some [2, 4, 5, 6], none, none, none, none, none, none, none, none, none]
def slmN5 : List (Option (List Nat)) := [some [0, 2, 8], some [6, 54, 56, 57], some [0, 1, 2, 4, 82, 83], some [4, 5, 6], some [9, 11]]
def slmM5 : List (Option (List Nat)) := [none, none, some [2, 4, 5, 6], none, none, none, none, none, none, none, none]
def Xx (l0 : List R6) : slmS → Xd slmS
 | .h0 v8 => (bif (decide (v8 < (l0.length : Int))) then (bif ((decide (0 ≤ v8 ∧ v8 < (l0.length : Int))) && true) then (bif (!(v0q (rd l0 v8.toNat).a (rd l0 v8.toNat).b (rd l0 v8.toNat).c (rd l0 v8.toNat).d (rd l0 v8.toNat).e (rd l0 v8.toNat).f)) then (bif (decide (v8 ≥ 0)) then (.ret [.nils, (.int .i64 8)]) else (.to (.h1 0 ([] : List Int)))) else (.to (.h0 (IntKind.wrap .i64 (v8 + 1))))) else .stuck) else (.to (.h1 0 ([] : List Int))))
 | .h1 v16 aA => (bif (decide (v16 < (l0.length : Int))) then (bif ((decide (0 ≤ v16 ∧ v16 < (l0.length : Int))) && true) then (bif (Nat.beq 1 1 && ((decide (0 + aA.length = aA.length)) && decide ((aA.length + 2 + 1) * (8 + 1) ≤ Jb))) then (.to (.h1 (IntKind.wrap .i64 (v16 + 1)) (aA ++ [(rd l0 v16.toNat).c, (rd l0 v16.toNat).f]))) else .stuck) else .stuck) else (bif (decide (aA.length < 4611686018427387904)) then (bif (decide (aA.length = aA.length)) then (.to (.h2 1 ([] : List R6) ([] : List R4) 0 0 (w6q (Za aA.length (cOf (Zz (Yo (Za aA.length (cOf (Zz aA)))))))) (Xv (Za aA.length (cOf (Zz (Yo (Za aA.length (cOf (Zz aA)))))))))) else .stuck) else .stuck))
 | .h2 v4 aC bP bY bZ aJ aM => (bif (decide (v4 < ((aJ : Nat) : Int))) then (bif ((decide (0 ≤ (IntKind.wrap .i64 (v4 - 1)) ∧ (IntKind.wrap .i64 (v4 - 1)) < ((aJ : Nat) : Int))) && true) then (bif (decide ((0 + (Int.toNat (IntKind.wrap .i64 (v4 - 1)))) < aM.length)) then (bif ((decide (0 ≤ v4 ∧ v4 < ((aJ : Nat) : Int))) && true) then (bif (decide ((0 + v4.toNat) < aM.length)) then (.to (.h3 v4 0 aC bP bY bZ aJ aM (rd aM (0 + (Int.toNat (IntKind.wrap .i64 (v4 - 1))))) (rd aM (0 + v4.toNat)) ([] : List R4))) else .stuck) else .stuck) else .stuck) else .stuck) else (bif (decide ((aC.length : Int) > 400)) then (.ret [.nils, (.int .i64 4)]) else (.ret [(.dat aC.length (Zz aC)), (.int .i64 0)])))
 | .h3 v4 v38 aC bP bY bZ aJ aM bM cE aD => (bif (decide (v38 < (l0.length : Int))) then (bif ((decide (0 ≤ v38 ∧ v38 < (l0.length : Int))) && true) then (bif (decide ((rd l0 v38.toNat).c ≤ bM)) then (bif (decide (bM < (rd l0 v38.toNat).f)) then (bif (Nat.beq 4 4 && ((decide (0 + aD.length = aD.length)) && decide ((aD.length + 1 + 1) * (32 + 1) ≤ Jb))) then (.to (.h3 v4 (IntKind.wrap .i64 (v38 + 1)) aC bP bY bZ aJ aM bM cE (aD ++ [(R4.mk (rd l0 v38.toNat).a (rd l0 v38.toNat).b (rd l0 v38.toNat).d (rd l0 v38.toNat).e)]))) else .stuck) else (.to (.h3 v4 (IntKind.wrap .i64 (v38 + 1)) aC bP bY bZ aJ aM bM cE aD))) else (.to (.h3 v4 (IntKind.wrap .i64 (v38 + 1)) aC bP bY bZ aJ aM bM cE aD))) else .stuck) else (bif (Qs (cvT aD)) then (bif ((Js (cvT aD)) != 0) then (.ret [.nils, (.int .i64 (Js (cvT aD)))]) else (bif (decide ((((Yc (cvT aD)).length : Nat) : Int) > 0)) then (bif (bZ == bM) then (bif (Wc (cvT bP) (cvT (Yc (cvT aD)))) then (bif (Ua (cvT bP) (cvT (Yc (cvT aD)))) then (.to (.h5 cE bY bM (Yc (cvT aD)) v4 aC bP bY bZ aJ aM aD)) else (.to (.h4 bM cE (Yc (cvT aD)) (((Yc (cvT aD)).length : Nat) : Int) 0 (Yc (cvT aD)) v4 aC (Yc (cvT aD)) (aC.length : Int) aJ aM aD))) else .stuck) else (.to (.h4 bM cE (Yc (cvT aD)) (((Yc (cvT aD)).length : Nat) : Int) 0 (Yc (cvT aD)) v4 aC (Yc (cvT aD)) (aC.length : Int) aJ aM aD))) else (.to (.h4 bM cE (Yc (cvT aD)) (((Yc (cvT aD)).length : Nat) : Int) 0 (Yc (cvT aD)) v4 aC (Yc (cvT aD)) (aC.length : Int) aJ aM aD)))) else .stuck))
 | .h4 v1 v2 v72 v73 v74 bN bD aF bL bS aJ aM bM => (bif (decide (v74 < v73)) then (bif ((decide (0 ≤ v74 ∧ v74 < (v72.length : Int))) && true) then (bif (Nat.beq 6 6 && ((decide (0 + aF.length = aF.length)) && decide ((aF.length + 1 + 1) * (48 + 1) ≤ Jb))) then (.to (.h4 v1 v2 v72 v73 (IntKind.wrap .i64 (v74 + 1)) bN bD (aF ++ [(R6.mk (rd v72 v74.toNat).a (rd v72 v74.toNat).b v1 (rd v72 v74.toNat).c (rd v72 v74.toNat).d v2)]) bL bS aJ aM bM)) else .stuck) else .stuck) else (.to (.h2 (IntKind.wrap .i64 (bD + 1)) aF bL bS v2 aJ aM)))
 | .h5 v2 v8 cJ bN bD aF bL bS cN cA cH aD => (bif (decide (v8 < (aF.length : Int))) then (bif ((decide (0 ≤ v8 ∧ v8 < (aF.length : Int))) && true) then (bif (decide ((0 + v8.toNat) < aF.length)) then (.to (.h5 v2 (IntKind.wrap .i64 (v8 + 1)) cJ bN bD (aF.set (0 + v8.toNat) (R6.mk (rd aF (0 + v8.toNat)).a (rd aF (0 + v8.toNat)).b (rd aF (0 + v8.toNat)).c (rd aF (0 + v8.toNat)).d (rd aF (0 + v8.toNat)).e v2)) bL bS cN cA cH aD)) else .stuck) else .stuck) else (.to (.h2 (IntKind.wrap .i64 (bD + 1)) aF bL bS v2 cA cH)))
def z7u (l0 : List R6) : Xd slmS := (bif (decide ((l0.length : Int) > 400)) then (.ret [.nils, (.int .i64 4)]) else (.to (.h0 0)))
theorem x3q (l0 : List R6) : ∀ s, Wj prog (Zy prog 77) (slmC l0) (slmC l0 s) (Xx l0 s)
 | .h0 v8 => (lb (fun k0 => (lo fun aH => (lb (fun k1 => (lb (fun k2 => (lr 15 77 [1, 1, 0, 1, 0, 0] 1 77 [(2, .nils), (3, (ii 8))] (sl Uf 54 [] ⟨[], [], [some [2, 3]], []⟩ ⟨[], [], []⟩ (trs 3 []) (tt k2 (tt k1 (ww aH (tt k0 nn))))))) (fun k2 => (sl Uf 112 [(3, 1, Zz ([] : List Int))] ⟨[6, 1, 7, 2, 3, 4, 5, 8], [], v1d, v1f⟩ ⟨[], [.keep, .keep, .cells [.grow 7 1], .keep, .keep, .keep, .keep, .keep], []⟩ [true, true, false, true] (pp (fl ([] : List Int) nn) (tt k2 (tt k1 (ww aH (tt k0 nn))))))))) (fun k1 => (sl Uf 44 [] ⟨[], [], slmN0, slmM0⟩ ⟨[], [], []⟩ [true, false] (tt k1 (ww aH (tt k0 nn)))))))) (fun k0 => (sl Uf 81 [(3, 1, Zz ([] : List Int))] ⟨[5, 0, 6, 1, 2, 3, 4, 7], [], v1d, v1f⟩ ⟨[], [.keep, .keep, .cells [.grow 7 1], .keep, .keep, .keep, .keep, .keep], []⟩ [false, false, true] (pp (fl ([] : List Int) nn) (tt k0 nn)))))
 | .h1 v16 aA => (lb (fun k0 => (lo fun o0 => (lo fun o1 => (sl Uf 34 [] ⟨[0, 1, 2, 3, 4, 5, 6, 10], [], v1d, v1f⟩ ⟨[], [.keep, .keep, .cells [.len (aA ++ [(rd l0 (tn v16)).c, (rd l0 (tn v16)).f]).length], .keep, .keep, .keep, .keep, .rowed 1 (aA ++ [(rd l0 (tn v16)).c, (rd l0 (tn v16)).f]).length (Zz (aA ++ [(rd l0 (tn v16)).c, (rd l0 (tn v16)).f]))], []⟩ [true] (pp (xL (aA.length + 2) (aA ++ [(rd l0 (tn v16)).c, (rd l0 (tn v16)).f]).length) (pp (xL (aA.length + 2) (aA ++ [(rd l0 (tn v16)).c, (rd l0 (tn v16)).f]).length) (pp (xS (aA.length + 2) (Ze (Zz aA) 0 aA.length 1 [(ii (rd l0 (tn v16)).c), (ii (rd l0 (tn v16)).f)]) (Zz (aA ++ [(rd l0 (tn v16)).c, (rd l0 (tn v16)).f]))) (pp (pp (xF (Ze (Zz aA) 0 aA.length 1 [(ii (rd l0 (tn v16)).c), (ii (rd l0 (tn v16)).f)])) nn) (ww o1 (ww o0 (tt k0 nn))))))))))) (fun k0 => (lo fun o0 => (lo fun o1 => (sl Uf 46 [(68, 6, Zz ([] : List R6))] ⟨[8, 3, 4, 5, 6, 2, 7, 0, 1, 9], [], v1c, v1e⟩ ⟨[], (kpB 4 [.cells [.grow 9 6, .list 0 (Zz ([] : List R4)), .keep, .keep], .keep, .rowed 1 (Xv (Za aA.length (cOf (Zz (Yo (Za aA.length (cOf (Zz aA)))))))).length (Zz (Xv (Za aA.length (cOf (Zz (Yo (Za aA.length (cOf (Zz aA))))))))), .keep, .keep, .keep]), []⟩ [false, false] (pp (xL aA.length (Xv (Za aA.length (cOf (Zz (Yo (Za aA.length (cOf (Zz aA)))))))).length (by first | exact z0b _ _ | exact Uv rfl)) (pp (xS aA.length (Zz (Xv (Za aA.length (cOf (Zz (Yo (Za aA.length (cOf (Zz aA))))))))) (Zz (Xv (Za aA.length (cOf (Zz (Yo (Za aA.length (cOf (Zz aA)))))))))) (pp (fl (Xv (Za aA.length (cOf (Zz (Yo (Za aA.length (cOf (Zz aA)))))))) (fl ([] : List R6) nn)) (pp (pp (xG (Nat.beq 1 1)) (pp (xG (Nat.beq 1 1)) (pp (xG (Nat.beq 0 0)) (pp (xG (decide (aA.length = aA.length))) (pp (xG (isI (Zz (Yo (Za aA.length (cOf (Zz aA))))))) (xG (decide (aA.length < 4611686018427387904)))))))) (pp (pp (xG (Nat.beq 1 1)) (pp (xG (Nat.beq 1 1)) (pp (xG (Nat.beq 0 0)) (pp (xG (decide (aA.length = aA.length))) (pp (xG (isI (Zz aA))) (xG (decide (aA.length < 4611686018427387904)))))))) (tt k0 nn)))))))))))
 | .h2 v4 aC bP bY bZ aJ aM => (lb (fun k0 => (lo fun o0 => (lo fun o1 => (lo fun o2 => (lo fun o3 => (sl Uf 48 [(114, 4, Zz ([] : List R4))] ⟨[0, 1, 2, 3, 4, 5, 6, 7, 8, 10, 11, 12, 9], [], w2f, w2h⟩ ⟨[], (kpB 10 [.cells [.grow 11 4], .keep, .keep]), []⟩ (trs 3 []) (pp (fl aM (fl ([] : List R4) (fl aC nn))) (ww o3 (ww o2 (ww o1 (ww o0 (tt k0 nn)))))))))))) (fun k0 => (lb (fun k1 => (lr 15 3 [1, 1, 1, 1, 1, 1, 0] 1 77 [(2, .nils), (3, (ii 4))] (sl Uf 33 [] ⟨[], [], [some [2, 3]], []⟩ ⟨[], [], []⟩ [false, true] (tt k1 (tt k0 nn))))) (fun k1 => (lr 15 3 [1, 1, 1, 1, 1, 1, 0] 1 77 [(2, (.dat aC.length (Zz aC))), (3, (ii 0))] (sl Uf 36 [] ⟨[], [9], [some [2, 3]], []⟩ ⟨[(2, .frz aC.length aC.length (Zz aC) (Zz aC))], [], []⟩ [false, false] (pp (xZ (z4w 6 6 0 aC.length aC.length (Zz aC)) aC.length (Zz aC)) (pp (xL aC.length aC.length) (pp (xS aC.length (Zz aC) (Zz aC)) (pp (fl aC nn) (tt k1 (tt k0 nn))))))))))))
 | .h3 v4 v38 aC bP bY bZ aJ aM bM cE aD => (lb (fun k0 => (lo fun aH => (lb (fun k1 => (lb (fun k2 => (lo fun o0 => (sl Uf 41 [] ⟨[0, 1, 2, 3, 4, 5, 6, 7, 8, 9, 10, 15, 12], [], w2f, w2h⟩ ⟨[], (kpB 10 [.cells [.len (aD ++ [(R4.mk (rd l0 (tn v38)).a (rd l0 (tn v38)).b (rd l0 (tn v38)).d (rd l0 (tn v38)).e)]).length], .rowed 4 (aD ++ [(R4.mk (rd l0 (tn v38)).a (rd l0 (tn v38)).b (rd l0 (tn v38)).d (rd l0 (tn v38)).e)]).length (Zz (aD ++ [(R4.mk (rd l0 (tn v38)).a (rd l0 (tn v38)).b (rd l0 (tn v38)).d (rd l0 (tn v38)).e)])), .keep]), []⟩ (trs 8 []) (pp (xL (aD.length + 1) (aD ++ [(R4.mk (rd l0 (tn v38)).a (rd l0 (tn v38)).b (rd l0 (tn v38)).d (rd l0 (tn v38)).e)]).length) (pp (xL (aD.length + 1) (aD ++ [(R4.mk (rd l0 (tn v38)).a (rd l0 (tn v38)).b (rd l0 (tn v38)).d (rd l0 (tn v38)).e)]).length) (pp (xS (aD.length + 1) (Ze (Zz aD) 0 aD.length 4 [(ii (rd l0 (tn v38)).a), (ii (rd l0 (tn v38)).b), (ii (rd l0 (tn v38)).d), (ii (rd l0 (tn v38)).e)]) (Zz (aD ++ [(R4.mk (rd l0 (tn v38)).a (rd l0 (tn v38)).b (rd l0 (tn v38)).d (rd l0 (tn v38)).e)]))) (pp (fl aM (pp (xF (Ze (Zz aD) 0 aD.length 4 [(ii (rd l0 (tn v38)).a), (ii (rd l0 (tn v38)).b), (ii (rd l0 (tn v38)).d), (ii (rd l0 (tn v38)).e)])) (fl aC nn))) (ww o0 (tt k2 (tt k1 (ww aH (tt k0 nn)))))))))))) (fun k2 => (sl Uf 41 [] ⟨(List.range 13), [], w2f, w2h⟩ ⟨[], [], []⟩ (trs 7 [false]) (pp (fl aM (fl aD (fl aC nn))) (tt k2 (tt k1 (ww aH (tt k0 nn))))))))) (fun k1 => (sl Uf 41 [] ⟨(List.range 13), [], w2f, w2h⟩ ⟨[], [], []⟩ [true, false, false, false, false, false, false, false] (pp (fl aM (fl aD (fl aC nn))) (tt k1 (ww aH (tt k0 nn))))))))) (fun k0 => (Xi (sl Uf (C' := ⟨⟨65, 0, true⟩, (Vv prog 108 [1, 1, 0, 1, 0, 1, 0, 0] 4), (Zg prog 108 [1, 1, 0, 1, 0, 1, 0, 0] 1), (some 0), [], ⟨Yj [(2, (.ptr 1 0)), (4, (.ptr 2 0)), (5, (.ptr 3 0)), (6, (.ptr 4 0)), (7, (.ptr 6 0)), (20, (.dat aD.length (Zz aD)))], z4r [(1, ⟨[.nilf], 124, none⟩), (2, ⟨[.nils], 30, none⟩), (3, ⟨[(ii 0)], 24, none⟩), (4, ⟨[(.sla 5 6 0 aC.length (.un 6)), (.dat bP.length (Zz bP)), (ii bY), (ii bZ)], 170, none⟩), (5, ⟨rows aC.length (Zz aC), 68, some ⟨6, aC.length, (Zz aC)⟩⟩), (6, ⟨[(ii bM), (ii cE), (.sl 7 0 1 (.ex 1))], 175, none⟩), (7, ⟨[(.dat aD.length (Zz aD))], 105, none⟩), (8, ⟨[(.sla 9 1 0 aJ (.un 1))], 47, none⟩), (9, ⟨rows aM.length (Zz aM), 3, some ⟨1, aM.length, (Zz aM)⟩⟩), (10, ⟨[(.sl 11 0 1 (.un 1))], 168, none⟩), (11, ⟨[(.dat l0.length (Zz l0))], 22, none⟩)], 12, [], true⟩, [⟨⟨86, 0, true⟩, (Vv prog 150 [1, 0, 0, 1, 0, 0, 1, 1, 0] 2), (Zg prog 150 [1, 0, 0, 1, 0, 0, 1, 1, 0] 1), none, [], Yj [(0, (.yld 0)), (1, (.ptr 8 0)), (2, (.ptr 10 0)), (4, (ii v4)), (82, (.yld 0)), (83, (.agg [(ii bM), (ii cE), (.sl 7 0 1 (.ex 1))]))]⟩, ⟨⟨65, 0, true⟩, none, (.inRangeFunc 0 :: (Zg prog 108 [1, 1, 0, 1, 0] 1)), none, (Zy prog 36), Yj [(4, (.ptr 2 0)), (5, (.ptr 3 0)), (6, (.ptr 4 0))]⟩, ⟨⟨15, 0, true⟩, (Vv prog 77 [1, 1, 1, 0] 3), (Zg prog 77 [1, 1, 1, 0] 1), none, (Zy prog 77), Yj [(9, (.agg [.nilf])), (11, (.sl 11 0 1 (.un 1)))]⟩], (z4t [(0, ⟨.busy, none, 65, Yj [(2, (.ptr 1 0)), (4, (.ptr 2 0)), (5, (.ptr 3 0)), (6, (.ptr 4 0))], [15], (Xn prog 108 [1, 1, 0, 1, 0, 0]), (Xn prog 108 [1, 1, 0, 1, 0, 1])⟩)])⟩) 37 [] ⟨[0, 1, 2, 3, 4, 12, 13, 10, 5, 6, 7, 8], [11], [some [2, 4, 5, 6, 7, 20], some [0, 1, 2, 4, 82, 83], some [4, 5, 6], some [9, 11]], [some [2, 4, 5, 6], none, none, none, none, none, none, none, none, none, none, none]⟩ ⟨[(20, .frz aD.length aD.length (Zz aD) (Zz aD))], [.keep, .keep, .keep, .keep, .keep, .keep, .keep, .cells [.frz aD.length aD.length (Zz aD) (Zz aD)], .keep, .keep, .keep, .keep], []⟩ [false, false] (pp (xZ (z4w 4 4 0 aD.length aD.length (Zz aD)) aD.length (Zz aD)) (pp (xL aD.length aD.length) (pp (xS aD.length (Zz aD) (Zz aD)) (pp (xZ (z4w 4 4 0 aD.length aD.length (Zz aD)) aD.length (Zz aD)) (pp (xL aD.length aD.length) (pp (xS aD.length (Zz aD) (Zz aD)) (pp (fl aC (fl aM nn)) (pp (fl aD nn) (tt k0 nn)))))))))) (lo fun aH => (lb (fun k1 => (lr 15 3 [1, 1, 1, 1, 1, 1, 0] 1 77 [(2, .nils), (3, (ii (Js (cvT aD))))] (sl Uf 50 [] ⟨[], [], [some [2, 3]], []⟩ ⟨[], [], []⟩ [false, true, true] (tt k1 (pp (pp (xr aD) (xw aH)) nn))))) (fun k1 => (lb (fun k2 => (lb (fun k3 => (lo fun cD => (lb (fun k4 => (sl Uf 75 [] ⟨[4, 5, 0, 1, 2, 3, 8, 9, 10, 11, 7], [], slmN5, slmM5⟩ ⟨[], [], []⟩ [false, false, true, true, true, true, true, true, true, true, true, true, true, true, true] (pp (fl aC (fl aM nn)) (tt k4 (pp (pp (xr bP) (pp (xI R4 (Yc (cvT aD)).length (Zz (Yc (cvT aD)))) (xw cD))) (tt k3 (tt k2 (tt k1 (pp (pp (xr aD) (xw aH)) nn))))))))) (fun k4 => (sl Uf 95 [] ⟨[4, 0, 1, 2, 3, 8, 9, 10, 11, 7, 5], [], w2e, w2g⟩ ⟨[], [], []⟩ [false, false, true, true, true, true, true, true, true, true, true, true, true, true, false] (pp (fl aM (fl aC nn)) (tt k4 (pp (pp (xr bP) (pp (xI R4 (Yc (cvT aD)).length (Zz (Yc (cvT aD)))) (xw cD))) (tt k3 (tt k2 (tt k1 (pp (pp (xr aD) (xw aH)) nn)))))))))))) (fun k3 => (sl Uf 95 [] ⟨[4, 0, 1, 2, 3, 8, 9, 10, 11, 7, 5], [], w2e, w2g⟩ ⟨[], [], []⟩ [false, false, true, true, true, true, true, true, false, false, false, false, false, false, false] (pp (fl aM (fl aC nn)) (tt k3 (tt k2 (tt k1 (pp (pp (xr aD) (xw aH)) nn))))))))) (fun k2 => (sl Uf 95 [] ⟨[4, 0, 1, 2, 3, 8, 9, 10, 11, 7, 5], [], w2e, w2g⟩ ⟨[], [], []⟩ [false, false, false, false, false, false, false, false, false, false, false, false, false, false, false] (pp (fl aM (fl aC nn)) (tt k2 (tt k1 (pp (pp (xr aD) (xw aH)) nn)))))))))))))
 | .h4 v1 v2 v72 v73 v74 bN bD aF bL bS aJ aM bM => (lb (fun k0 => (lo fun o0 => (lo fun o1 => (sl Uf 23 [] ⟨[0, 1, 2, 3, 4, 5, 6, 7, 8, 9, 13], [], w2e, w2g⟩ ⟨[], [.cells [.len (aF ++ [(R6.mk (rd v72 (tn v74)).a (rd v72 (tn v74)).b v1 (rd v72 (tn v74)).c (rd v72 (tn v74)).d v2)]).length, .keep, .keep, .keep], .keep, .keep, .keep, .keep, .keep, .keep, .keep, .keep, .keep, .rowed 6 (aF ++ [(R6.mk (rd v72 (tn v74)).a (rd v72 (tn v74)).b v1 (rd v72 (tn v74)).c (rd v72 (tn v74)).d v2)]).length (Zz (aF ++ [(R6.mk (rd v72 (tn v74)).a (rd v72 (tn v74)).b v1 (rd v72 (tn v74)).c (rd v72 (tn v74)).d v2)]))], []⟩ [true] (pp (xL (aF.length + 1) (aF ++ [(R6.mk (rd v72 (tn v74)).a (rd v72 (tn v74)).b v1 (rd v72 (tn v74)).c (rd v72 (tn v74)).d v2)]).length) (pp (xL (aF.length + 1) (aF ++ [(R6.mk (rd v72 (tn v74)).a (rd v72 (tn v74)).b v1 (rd v72 (tn v74)).c (rd v72 (tn v74)).d v2)]).length) (pp (xS (aF.length + 1) (Ze (Zz aF) 0 aF.length 6 [(ii (rd v72 (tn v74)).a), (ii (rd v72 (tn v74)).b), (ii v1), (ii (rd v72 (tn v74)).c), (ii (rd v72 (tn v74)).d), (ii v2)]) (Zz (aF ++ [(R6.mk (rd v72 (tn v74)).a (rd v72 (tn v74)).b v1 (rd v72 (tn v74)).c (rd v72 (tn v74)).d v2)]))) (pp (fl aM (pp (xF (Ze (Zz aF) 0 aF.length 6 [(ii (rd v72 (tn v74)).a), (ii (rd v72 (tn v74)).b), (ii v1), (ii (rd v72 (tn v74)).c), (ii (rd v72 (tn v74)).d), (ii v2)])) nn)) (ww o1 (ww o0 (tt k0 nn))))))))))) (fun k0 => (sl Uf 22 [] ⟨[1, 2, 3, 4, 0, 5, 6, 7, 8, 10], [], v1c, v1e⟩ ⟨[], [], []⟩ [false, false] (pp (fl aM (fl aF nn)) (tt k0 nn)))))
 | .h5 v2 v8 cJ bN bD aF bL bS cN cA cH aD => (lb (fun k0 => (lo fun o0 => (lo fun o1 => (sl Uf 34 [] ⟨(List.range 11), [], slmN5, slmM5⟩ ⟨[], [.cells [.len (aF.set (0 + (tn v8)) (R6.mk (rd aF (0 + (tn v8))).a (rd aF (0 + (tn v8))).b (rd aF (0 + (tn v8))).c (rd aF (0 + (tn v8))).d (rd aF (0 + (tn v8))).e v2)).length, .keep, .keep, .keep], .rowed 6 (aF.set (0 + (tn v8)) (R6.mk (rd aF (0 + (tn v8))).a (rd aF (0 + (tn v8))).b (rd aF (0 + (tn v8))).c (rd aF (0 + (tn v8))).d (rd aF (0 + (tn v8))).e v2)).length (Zz (aF.set (0 + (tn v8)) (R6.mk (rd aF (0 + (tn v8))).a (rd aF (0 + (tn v8))).b (rd aF (0 + (tn v8))).c (rd aF (0 + (tn v8))).d (rd aF (0 + (tn v8))).e v2))), .keep, .keep, .keep, .keep, .keep, .keep, .keep, .keep, .keep], []⟩ [true] (pp (xL aF.length (aF.set (0 + (tn v8)) (R6.mk (rd aF (0 + (tn v8))).a (rd aF (0 + (tn v8))).b (rd aF (0 + (tn v8))).c (rd aF (0 + (tn v8))).d (rd aF (0 + (tn v8))).e v2)).length) (pp (xL aF.length (aF.set (0 + (tn v8)) (R6.mk (rd aF (0 + (tn v8))).a (rd aF (0 + (tn v8))).b (rd aF (0 + (tn v8))).c (rd aF (0 + (tn v8))).d (rd aF (0 + (tn v8))).e v2)).length) (pp (xS aF.length (Xf (Zz aF) (0 + (tn v8)) 5 [(ii v2)]) (Zz (aF.set (0 + (tn v8)) (R6.mk (rd aF (0 + (tn v8))).a (rd aF (0 + (tn v8))).b (rd aF (0 + (tn v8))).c (rd aF (0 + (tn v8))).d (rd aF (0 + (tn v8))).e v2)))) (pp (pp (xF (Xf (Zz aF) (0 + (tn v8)) 5 [(ii v2)])) (fl cH nn)) (ww o1 (ww o0 (tt k0 nn))))))))))) (fun k0 => (sl Uf 36 [] ⟨[2, 3, 4, 5, 0, 6, 7, 8, 9, 1], [], v1c, v1e⟩ ⟨[], [], []⟩ [false, false] (pp (fl cH (fl aF nn)) (tt k0 nn)))))
theorem y7u (l0 : List R6) : Wj prog (Zy prog 77) (slmC l0) (Zf prog 77 [(.dat l0.length (Zz l0))] true []) (z7u l0) := (lb (fun k0 => (lr 15 77 [1, 0, 1, 0, 0] 1 77 [(2, .nils), (3, (ii 4))] (sl Uf 18 [] ⟨[], [], [some [2, 3]], []⟩ ⟨[], [], []⟩ [true] (tt k0 nn)))) (fun k0 => (sl Uf 41 [] ⟨[], [], slmN0, slmM0⟩ ⟨[], [], []⟩ [false] (tt k0 nn))))
theorem w2d (l0 : List R6) (n : Nat) (vs : List AVal) (h : Yv (Xx l0) n (z7u l0) = .ret vs) : Jo prog (Zy prog 77) (Zf prog 77 [(.dat l0.length (Zz l0))] true []) vs := by
 have := Zo (x3q l0) n _ (y7u l0)
 rwa [h] at this
inductive fulS where
 | h0 (v10 : Int) (v31 : Int)
def fulC (l0 : List R6) (aW : Int) (aX : Int) (bW : Int) (bX : Int) (cO : Int) (cP : Int) : fulS → Cfg
 | .h0 v10 v31 => ⟨⟨70, 0, true⟩, none, (Zg prog 143 [1, 1, 1, 0, 1, 0, 0] 0), none, (Zy prog 102), ⟨Yj [(5, (.ptr 0 0)), (6, (.ptr 1 0)), (7, (.ptr 2 0)), (9, (.fn 166 [])), (10, (ii v10)), (29, (.dat l0.length (Zz l0))), (30, (ii (l0.length : Int))), (31, (ii v31))], Vf [⟨[(ii aW), (ii aX)], 110, none⟩, ⟨[(ii bW), (ii bX)], 110, none⟩, ⟨[(ii cO), (ii cP)], 110, none⟩] 0, 3, [], true⟩, [], .leaf⟩
def fulN0 : List (Option (List Nat)) := [some [5, 6, 7, 9, 10, 29, 30, 31]]
def fulM0 : List (Option (List Nat)) := []
def z5z (l0 : List R6) (aW : Int) (aX : Int) (bW : Int) (bX : Int) (cO : Int) (cP : Int) : fulS → Xd fulS
 | .h0 v10 v31 => (bif (decide (v31 < (l0.length : Int))) then (bif ((decide (0 ≤ v31 ∧ v31 < (l0.length : Int))) && true) then (.to (.h0 (IntKind.wrap .i64 (v10 - (IntKind.wrap .i64 ((IntKind.wrap .i64 ((IntKind.wrap .i64 (1 * (Wt (IntKind.wrap .i64 ((Kz (rd l0 v31.toNat).d aX) - (Wt (rd l0 v31.toNat).a aW))) 0))) * (Wt (IntKind.wrap .i64 ((Kz (rd l0 v31.toNat).e bX) - (Wt (rd l0 v31.toNat).b bW))) 0))) * (Wt (IntKind.wrap .i64 ((Kz (rd l0 v31.toNat).f cP) - (Wt (rd l0 v31.toNat).c cO))) 0))))) (IntKind.wrap .i64 (v31 + 1)))) else .stuck) else (.ret [(.bool (v10 == 0))]))
def y3p (l0 : List R6) (aW : Int) (aX : Int) (bW : Int) (bX : Int) (cO : Int) (cP : Int) : Xd fulS := (.to (.h0 (IntKind.wrap .i64 ((IntKind.wrap .i64 ((IntKind.wrap .i64 (aX - aW)) * (IntKind.wrap .i64 (bX - bW)))) * (IntKind.wrap .i64 (cP - cO)))) 0))
theorem x5f (l0 : List R6) (aW : Int) (aX : Int) (bW : Int) (bX : Int) (cO : Int) (cP : Int) : ∀ s, Wj prog (Zy prog 143) (fulC l0 aW aX bW bX cO cP) (fulC l0 aW aX bW bX cO cP s) (z5z l0 aW aX bW bX cO cP s)
 | .h0 v10 v31 => (lb (fun k0 => (lo fun o0 => (sl Uf 281 [] ⟨[0, 1, 2], [], fulN0, fulM0⟩ ⟨[], [], []⟩ [true, true, false, false, false, true, true, false, true, false, true, false, true, true, true, false, true, true, false, true, true, false, false] (ww o0 (tt k0 nn))))) (fun k0 => (lr 70 3 [1, 1, 1, 1, 1, 1, 0] 1 102 [(8, (.bool (v10 == 0)))] (sl Uf 13 [] ⟨[], [], [some [8]], []⟩ ⟨[], [], []⟩ [false] (tt k0 nn)))))
theorem y9u (l0 : List R6) (aW : Int) (aX : Int) (bW : Int) (bX : Int) (cO : Int) (cP : Int) : Wj prog (Zy prog 143) (fulC l0 aW aX bW bX cO cP) (Zf prog 143 [(.dat l0.length (Zz l0)), (.agg [(.int .i64 aW), (.int .i64 aX)]), (.agg [(.int .i64 bW), (.int .i64 bX)]), (.agg [(.int .i64 cO), (.int .i64 cP)])] true []) (y3p l0 aW aX bW bX cO cP) := (sl Uf 22 [] ⟨[0, 1, 2], [], fulN0, fulM0⟩ ⟨[], [], []⟩ [] nn)
theorem w5a (l0 : List R6) (aW : Int) (aX : Int) (bW : Int) (bX : Int) (cO : Int) (cP : Int) (n : Nat) (vs : List AVal) (h : Yv (z5z l0 aW aX bW bX cO cP) n (y3p l0 aW aX bW bX cO cP) = .ret vs) : Jo prog (Zy prog 143) (Zf prog 143 [(.dat l0.length (Zz l0)), (.agg [(.int .i64 aW), (.int .i64 aX)]), (.agg [(.int .i64 bW), (.int .i64 bX)]), (.agg [(.int .i64 cO), (.int .i64 cP)])] true []) vs := by
 have := Zo (x5f l0 aW aX bW bX cO cP) n _ (y9u l0 aW aX bW bX cO cP)
 rwa [h] at this
inductive dwnS where
def dwnC (x0 : Int) (x1 : Int) : dwnS → Cfg
 := nofun
def x0g (x0 : Int) (x1 : Int) : dwnS → Xd dwnS
 := nofun
def z8p (x0 : Int) (x1 : Int) : Xd dwnS := (bif (!decide (x1 = 0)) then (bif (decide ((IntKind.wrap .i64 ((IntKind.wrap .i64 (Int.tdiv x0 x1)) * x1)) > x0)) then (.ret [(.int .i64 (IntKind.wrap .i64 ((IntKind.wrap .i64 ((IntKind.wrap .i64 (Int.tdiv x0 x1)) - 1)) * x1)))]) else (.ret [(.int .i64 (IntKind.wrap .i64 ((IntKind.wrap .i64 (Int.tdiv x0 x1)) * x1)))])) else .stuck)
theorem x5r (x0 : Int) (x1 : Int) : ∀ s, Wj prog (Zy prog 75) (dwnC x0 x1) (dwnC x0 x1 s) (x0g x0 x1 s)
 := nofun
theorem x0h (x0 : Int) (x1 : Int) : Wj prog (Zy prog 75) (dwnC x0 x1) (Zf prog 75 [(.int .i64 x0), (.int .i64 x1)] true []) (z8p x0 x1) := (lo fun bB => (lb (fun k0 => (lr 19 3 [1, 1, 1, 1, 1, 1, 0] 1 3 [(4, (ii (wr ((wr ((wr (Int.tdiv x0 x1)) - 1)) * x1))))] (sl Uf 33 [] ⟨[], [], [some [4]], []⟩ ⟨[], [], []⟩ [true] (tt k0 (ww bB nn))))) (fun k0 => (lr 19 3 [1, 1, 1, 1, 1, 1, 0] 1 3 [(4, (ii (wr ((wr (Int.tdiv x0 x1)) * x1))))] (sl Uf 29 [] ⟨[], [], [some [4]], []⟩ ⟨[], [], []⟩ [false] (tt k0 (ww bB nn)))))))
theorem w5t (x0 : Int) (x1 : Int) (n : Nat) (vs : List AVal) (h : Yv (x0g x0 x1) n (z8p x0 x1) = .ret vs) : Jo prog (Zy prog 75) (Zf prog 75 [(.int .i64 x0), (.int .i64 x1)] true []) vs := by
 have := Zo (x5r x0 x1) n _ (x0h x0 x1)
 rwa [h] at this
end Go.Am
namespace Go.Am
open Go.Proofs.Tryz
open Go.Proofs Go.Sort Go.Shelf Go.RowKit Go.Lib
def slmX : List AVal := [.nils, .int .i64 8]
def eF (l : List R6) : Nat → Nat → Int
 | 0, _ => 0
 | k + 1, i => bif w6t l (rd (D6.cuts l) i) then Js (D6.inn l (rd (D6.cuts l) i)) else eF l k (i + 1)
def slmE (l : List R6) (k i : Nat) : List AVal := [.nils, .int .i64 (eF l k i)]
section
variable (l : List R6) (hl : l.length ≤ 400)
include hl
theorem w7g (i : Nat) (out : List R6) (last : List R4) (first fin x x' : Int) : ∀ (k j : Nat) (acc : List R4), j + k = l.length → acc.length ≤ j →
  ∃ n, ∀ N, Yv (Xx l) (N + n) (.to (.h3 (i : Int) (j : Int) out last first fin ((D6.cuts l).length) (Xv (Yo (D6.ends l))) x x' acc)) = Yv (Xx l) N (.to (.h3 (i : Int) (l.length : Int) out last first fin ((D6.cuts l).length) (Xv (Yo (D6.ends l))) x x' (acc ++ D6.inn (l.drop j) x)))
 | 0, j, acc, h, ha => by
  refine ⟨0, fun N => ?_⟩
  rw [List.drop_eq_nil_of_le (by omega), show D6.inn ([] : List R6) x = [] from rfl, List.append_nil, Nat.add_zero, show j = l.length by omega]
 | k + 1, j, acc, h, ha => by
  have hj : j < l.length := by omega
  obtain ⟨n, hn⟩ := w7g i out last first fin x x' k (j + 1) (acc ++ D6.inn [rd l j] x) (by omega) (by have := D6.inn_length [rd l j] x; simp only [List.length_append, List.length_singleton] at *; omega)
  refine ⟨n + 1, fun N => ?_⟩
  have e : D6.inn (l.drop j) x = D6.inn [rd l j] x ++ D6.inn (l.drop (j + 1)) x := by
   rw [Yf hj, ← D6.inn_append]; rfl
  rw [e, ← Nat.add_assoc, Zv, ← List.append_assoc, ← hn N]
  by_cases h1 : D6.lo (rd l j) ≤ x
  ·by_cases h2 : x < D6.hi (rd l j)
   ·rw [D6.inn_t _ _ h1 h2]
    simp only [D6] at h1 h2 ⊢
    simp (disch := omega) only [Xx, Xa, Zb, Zk, Zs, Zt, Yx, Yq, Yp, Zh, Zq, Zx, Ya, Zj, Nat.zero_add, decide_true, Bool.and_true, Bool.true_and, cond_true, cond_false]
   ·rw [D6.inn_f2 _ _ h2, List.append_nil]
    simp only [D6] at h1 h2
    simp (disch := omega) only [Xx, Xa, Yz, Zb, Zk, Zs, Zt, Yx, Yq, Yp, Zh, Zq, Zx, Ya, Zj, Nat.zero_add, decide_true, Bool.and_true, Bool.true_and, cond_true, cond_false]
  ·rw [D6.inn_f1 _ _ h1, List.append_nil]
   simp only [D6] at h1
   simp (disch := omega) only [Xx, v5i, Zb, Zk, Zs, Zt, Yx, Yq, Yp, Zh, Zq, Zx, Ya, Zj, Nat.zero_add, decide_true, Bool.and_true, Bool.true_and, cond_true, cond_false]
theorem w7f (i : Nat) (hi : i ≤ 1000) (x x' : Int) (s last : List R4) (first : Int) (inn : List R4) (hs : s.length ≤ 1000) : ∀ (k j : Nat) (out : List R6), j + k = s.length → out.length ≤ 10000000 + j →
  ∃ n, ∀ N, Yv (Xx l) (N + n) (.to (.h4 x x' s (s.length : Int) (j : Int) s (i : Int) out last first ((D6.cuts l).length) (Xv (Yo (D6.ends l))) inn)) = Yv (Xx l) N (.to (.h2 ((i + 1 : Nat) : Int) (out ++ (s.drop j).map (D6.put x x')) last first x' ((D6.cuts l).length) (Xv (Yo (D6.ends l)))))
 | 0, j, out, h, ho => by
  have _u := hl
  refine ⟨1, fun N => ?_⟩
  rw [List.drop_eq_nil_of_le (by omega), Zv]
  simp (disch := omega) only [Xx, Yz, Zq, Zx, cond_false, List.map_nil, List.append_nil]
 | k + 1, j, out, h, ho => by
  obtain ⟨n, hn⟩ := w7f i hi x x' s last first inn hs k (j + 1) (out ++ [D6.put x x' (rd s j)]) (by omega) (by simp; omega)
  refine ⟨n + 1, fun N => ?_⟩
  have := hn N
  rw [Yf (show j < s.length by omega), List.map_cons, ← Nat.add_assoc, Zv]
  simp (disch := omega) only [Xx, Zb, Zk, Zs, Zt, Yx, Yq, Yp, Zh, Zq, Zx, Ya, Zj, Nat.zero_add, decide_true, Bool.and_true, Bool.true_and, cond_true, cond_false]
  rw [List.append_assoc] at this
  exact this
theorem w7e (i : Nat) (hi : i ≤ 1000) (x x' fin : Int) (s last : List R4) (first : Int) (inn : List R4) : ∀ (k j : Nat) (out : List R6), j + k = out.length → out.length ≤ 10000000 →
  ∃ n, ∀ N, Yv (Xx l) (N + n) (.to (.h5 x' (j : Int) x s (i : Int) out last first fin ((D6.cuts l).length) (Xv (Yo (D6.ends l))) inn)) = Yv (Xx l) N (.to (.h2 ((i + 1 : Nat) : Int) (D6.grow out j x') last first x' ((D6.cuts l).length) (Xv (Yo (D6.ends l)))))
 | 0, j, out, h, ho => by
  have _u := hl
  refine ⟨1, fun N => ?_⟩
  rw [D6.grow_nil _ _ _ (by omega), Zv]
  simp (disch := omega) only [Xx, Yz, Zq, Zx, cond_false]
 | k + 1, j, out, h, ho => by
  obtain ⟨n, hn⟩ := w7e i hi x x' fin s last first inn k (j + 1) (out.set j (D6.ext x' (rd out j))) (by simp; omega) (by simpa using ho)
  refine ⟨n + 1, fun N => ?_⟩
  have := hn N
  rw [D6.grow_set out j _ (by omega)] at this
  rw [← Nat.add_assoc, Zv]
  simp (disch := omega) only [Xx, Zb, Zk, Zs, Zt, Yx, Yq, Yp, Zh, Zq, Zx, Ya, Zj, Nat.zero_add, decide_true, Bool.and_true, Bool.true_and, cond_true, cond_false]
  exact this
theorem x7e : ∀ (k i : Nat) (s : Sw R6 R4), k = (D6.cuts l).length - 1 - i → i ≤ (D6.cuts l).length → s.out.length ≤ i * 1000 → s.last.length ≤ 1000 → s.first ≤ s.out.length →
  ∃ n, Yv (Xx l) n (.to (.h2 ((i + 1 : Nat) : Int) s.out s.last (s.first : Int) s.fin ((D6.cuts l).length) (Xv (Yo (D6.ends l))))) = .ret ((bif okF l k i then z1j (D6.go l k i s).out else slmE l k i))
 | 0, i, s, h, hi, ho, hla, hf => by
  have hc := D6.cuts_length l
  refine ⟨1, ?_⟩
  rw [Zv, show D6.go l 0 i s = s from rfl, show okF l 0 i = true from rfl, cond_true]
  unfold z1j
  by_cases q : (s.out.length : Int) > 400
  ·simp (disch := omega) only [Xx, Yz, Yr, cond_true, cond_false, Zm]
  ·simp (disch := omega) only [Xx, Zb, Yz, Xk, cond_true, cond_false, Zm]
 | k + 1, i, s, h, hi, ho, hla, hf => by
  have hc := D6.cuts_length l
  have hi1 : i + 1 < (D6.cuts l).length := by omega
  have hpl : (Xv (Yo (D6.ends l))).length = 2 * l.length := by rw [Wr, Wb, D6.ends_length]
  have r0 : rd (Xv (Yo (D6.ends l))) i = rd (D6.cuts l) i := Jv _ _ (by show i < (D6.cuts l).length; omega)
  have r1 : rd (Xv (Yo (D6.ends l))) (i + 1) = rd (D6.cuts l) (i + 1) := Jv _ _ (by show i + 1 < (D6.cuts l).length; omega)
  have hbig : i * 1000 ≤ 1000 * 1000 := Nat.mul_le_mul_right _ (by omega)
  have hsl := v0n l (rd (D6.cuts l) i)
  have hsd : D6.sec l (rd (D6.cuts l) i) = Yc (D6.inn l (rd (D6.cuts l) i)) := rfl
  obtain ⟨n3, h3⟩ := w7g l hl (i + 1) s.out s.last (s.first : Int) s.fin (rd (D6.cuts l) i) (rd (D6.cuts l) (i + 1)) l.length 0 [] (Nat.zero_add _) (Nat.le_refl _)
  simp only [List.drop_zero, List.nil_append, z0y] at h3
  have w1 : Qs (D6.inn l (rd (D6.cuts l) i)) = true := rfl
  have w2 : Wc s.last (Yc (D6.inn l (rd (D6.cuts l) i))) = true := decide_eq_true (by omega)
  have ol := D6.one_length l (rd (D6.cuts l) i) (rd (D6.cuts l) (i + 1)) s
  have st0 : ∀ N, Yv (Xx l) (N + n3 + 1) (.to (.h2 ((i + 1 : Nat) : Int) s.out s.last (s.first : Int) s.fin ((D6.cuts l).length) (Xv (Yo (D6.ends l))))) = Yv (Xx l) N (.to (.h3 ((i + 1 : Nat) : Int) (l.length : Int) s.out s.last (s.first : Int) s.fin ((D6.cuts l).length) (Xv (Yo (D6.ends l))) (rd (D6.cuts l) i) (rd (D6.cuts l) (i + 1)) (D6.inn l (rd (D6.cuts l) i)))) := fun N => by
   rw [← h3 N, Zv]
   have e1 : IntKind.wrap .i64 (((i + 1 : Nat) : Int) - 1) = (i : Int) := by rw [Zd]; exact Zq (by omega)
   simp (disch := omega) only [Xx, e1, r0, r1, Zb, Zk, Zs, Zt, Yx, Yq, Yp, Zh, Zq, Zx, Ya, Zj, Nat.zero_add, decide_true, Bool.and_true, Bool.true_and, cond_true, cond_false]
  rcases Yg (w6t l (rd (D6.cuts l) i)) with q0 | q0
  ·refine ⟨1 + n3 + 1, ?_⟩
   rw [st0 1, Zv]
   simp only [okF, slmE, eF, q0, cond_true, cond_false]
   have q0' : (Js (D6.inn l (rd (D6.cuts l) i)) != 0) = true := q0
   simp (disch := omega) only [Xx, Zb, Zk, Yz, q0', w1, cond_true, cond_false, Zm]
  have q0' : (Js (D6.inn l (rd (D6.cuts l) i)) != 0) = false := q0
  rcases Yg (decide (0 < (D6.sec l (rd (D6.cuts l) i)).length) && ((s.fin == rd (D6.cuts l) i) && D6.same s.last (D6.sec l (rd (D6.cuts l) i)))) with q | q
  ·obtain ⟨n5, h5⟩ := w7e l hl (i + 1) (by omega) (rd (D6.cuts l) i) (rd (D6.cuts l) (i + 1)) s.fin (D6.sec l (rd (D6.cuts l) i)) s.last (s.first : Int) (D6.inn l (rd (D6.cuts l) i)) (s.out.length - s.first) s.first s.out (by omega) (by omega)
   have e : D6.one l (rd (D6.cuts l) i) (rd (D6.cuts l) (i + 1)) s = ⟨D6.grow s.out s.first (rd (D6.cuts l) (i + 1)), s.last, s.first, rd (D6.cuts l) (i + 1)⟩ := by unfold Dim.one; rw [q]; rfl
   obtain ⟨n0, h0⟩ := x7e k (i + 1) (D6.one l (rd (D6.cuts l) i) (rd (D6.cuts l) (i + 1)) s) (by omega) (by omega) (by omega) (by rw [e]; exact hla) (by rw [e]; simpa [Dim.grow_length] using hf)
   refine ⟨n0 + n5 + 1 + n3 + 1, ?_⟩
   rw [st0 (n0 + n5 + 1), Zv]
   simp only [Bool.and_eq_true, decide_eq_true_eq] at q
   obtain ⟨q1, q2, q3⟩ := q
   have q3' : Ua s.last (Yc (D6.inn l (rd (D6.cuts l) i))) = true := q3
   rw [hsd] at q1
   simp (disch := omega) only [Xx, Zb, Zk, Yz, Yr, q0', q2, q3', w1, w2, cond_true, cond_false]
   rw [← hsd, h5 n0]
   simp only [okF, slmE, eF, q0, cond_false]; simp only [Dim.go]
   rw [e] at h0 ⊢
   exact h0
  ·obtain ⟨n4, h4⟩ := w7f l hl (i + 1) (by omega) (rd (D6.cuts l) i) (rd (D6.cuts l) (i + 1)) (D6.sec l (rd (D6.cuts l) i)) (D6.sec l (rd (D6.cuts l) i)) (s.out.length : Int) (D6.inn l (rd (D6.cuts l) i)) hsl (D6.sec l (rd (D6.cuts l) i)).length 0 s.out (Nat.zero_add _) (by omega)
   simp only [List.drop_zero, z0y] at h4
   have e : D6.one l (rd (D6.cuts l) i) (rd (D6.cuts l) (i + 1)) s = ⟨s.out ++ (D6.sec l (rd (D6.cuts l) i)).map (D6.put (rd (D6.cuts l) i) (rd (D6.cuts l) (i + 1))), D6.sec l (rd (D6.cuts l) i), s.out.length, rd (D6.cuts l) (i + 1)⟩ := by unfold Dim.one; rw [q]; rfl
   obtain ⟨n0, h0⟩ := x7e k (i + 1) (D6.one l (rd (D6.cuts l) i) (rd (D6.cuts l) (i + 1)) s) (by omega) (by omega) (by omega) (by rw [e]; exact hsl) (by rw [e]; simp)
   have hg : Yv (Xx l) 1 (.to (.h3 ((i + 1 : Nat) : Int) (l.length : Int) s.out s.last (s.first : Int) s.fin ((D6.cuts l).length) (Xv (Yo (D6.ends l))) (rd (D6.cuts l) i) (rd (D6.cuts l) (i + 1)) (D6.inn l (rd (D6.cuts l) i)))) = .to (.h4 (rd (D6.cuts l) i) (rd (D6.cuts l) (i + 1)) (D6.sec l (rd (D6.cuts l) i)) ((D6.sec l (rd (D6.cuts l) i)).length : Int) 0 (D6.sec l (rd (D6.cuts l) i)) ((i + 1 : Nat) : Int) s.out (D6.sec l (rd (D6.cuts l) i)) (s.out.length : Int) ((D6.cuts l).length) (Xv (Yo (D6.ends l))) (D6.inn l (rd (D6.cuts l) i))) := by
    rw [show (1 : Nat) = 0 + 1 from rfl, Zv]
    rw [hsd] at q ⊢
    have e3 : D6.same s.last (Yc (D6.inn l (rd (D6.cuts l) i))) = Ua s.last (Yc (D6.inn l (rd (D6.cuts l) i))) := rfl
    rw [e3] at q
    by_cases q1 : 0 < (Yc (D6.inn l (rd (D6.cuts l) i))).length
    ·rw [decide_eq_true q1, Bool.true_and] at q
     rcases Yg (s.fin == rd (D6.cuts l) i) with q2 | q2
     ·rw [q2, Bool.true_and] at q
      simp (disch := omega) only [Xx, Zb, Zk, Yz, Yr, q0', q2, q, w1, w2, cond_true, cond_false]
      rfl
     ·simp (disch := omega) only [Xx, Zb, Zk, Yz, Yr, q0', q2, w1, w2, cond_true, cond_false]
      rfl
    ·simp (disch := omega) only [Xx, Zb, Zk, Yz, Xk, q0', w1, w2, cond_true, cond_false]
     rfl
   refine ⟨n0 + n4 + 1 + n3 + 1, ?_⟩
   rw [st0 (n0 + n4 + 1), z9z _ (n0 + n4) 1, hg, h4 n0]
   simp only [okF, slmE, eF, q0, cond_false]; simp only [Dim.go]
   rw [e] at h0 ⊢
   exact h0
theorem w7h : ∀ (k i : Nat) (acc : List Int), i + k = l.length → acc = D6.ends (l.take i) → ∃ n, Yv (Xx l) n (.to (.h1 (i : Int) acc)) = .ret ((bif okF l ((D6.cuts l).length - 1) 0 then z1j (D6.go l ((D6.cuts l).length - 1) 0 ⟨[], [], 0, 0⟩).out else slmE l ((D6.cuts l).length - 1) 0))
 | 0, i, acc, h, ha => by
  have e : acc = D6.ends l := by rw [ha, List.take_of_length_le (by omega)]
  subst e
  have hle := D6.ends_length l
  obtain ⟨n, hn⟩ := x7e l hl ((D6.cuts l).length - 1) 0 ⟨[], [], 0, 0⟩ (by omega) (Nat.zero_le _) (Nat.zero_le _) (Nat.zero_le _) (Nat.zero_le _)
  refine ⟨n + 1, ?_⟩
  rw [Zv]
  simp (disch := omega) only [Xx, Uu, Kg, z6e, Yz, Yq, Yp, decide_true, cond_true, cond_false]
  exact hn
 | k + 1, i, acc, h, ha => by
  have hle := D6.ends_length (l.take i)
  have fK : acc.length ≤ 2 * i := by rw [ha, hle]; simp; omega
  obtain ⟨n, hn⟩ := w7h k (i + 1) (acc ++ D6.ends [rd l i]) (by omega) (by
   rw [ha, List.take_add_one]
   have : l[i]? = some (rd l i) := by rw [Ww (show i < l.length by omega)]; exact List.getElem?_eq_getElem _
   rw [this, D6.ends_append]; rfl)
  refine ⟨n + 1, ?_⟩
  rw [Zv]
  simp (disch := omega) only [Xx, Zb, Zk, Zs, Zt, Yx, Yq, Yp, Zh, Zq, Zx, Ya, Zj, Nat.zero_add, decide_true, Bool.and_true, Bool.true_and, cond_true, cond_false]
  exact hn
theorem w7i : ∀ (k i : Nat), i + k = l.length → (∀ s ∈ l.take i, z2x s = true) → ∃ n, Yv (Xx l) n (.to (.h0 (i : Int))) = .ret (bif l.all z2x then (bif okF l ((D6.cuts l).length - 1) 0 then z1j (D6.go l ((D6.cuts l).length - 1) 0 ⟨[], [], 0, 0⟩).out else slmE l ((D6.cuts l).length - 1) 0) else slmX)
 | 0, i, h, ht => by
  have hv : l.all z2x = true := List.all_eq_true.2 fun s hs => ht s (by rw [List.take_of_length_le (by omega)]; exact hs)
  obtain ⟨n, hn⟩ := w7h l hl l.length 0 [] (Nat.zero_add _) rfl
  refine ⟨n + 1, ?_⟩
  rw [Zv, hv, cond_true]
  simp (disch := omega) only [Xx, Yz, cond_false]
  exact hn
 | k + 1, i, h, ht => by
  have hi : i < l.length := by omega
  have hs : Xx l (.h0 (i : Int)) = bif z2x (rd l i) then .to (.h0 ((i + 1 : Nat) : Int)) else .ret slmX := by
   have e : v0q (rd l i).a (rd l i).b (rd l i).c (rd l i).d (rd l i).e (rd l i).f = z2x (rd l i) := rfl
   simp (disch := omega) only [Xx, e, y4a, x2y, w0s, Zt, Zq, Zx, Zj, Bool.and_true, cond_true, cond_false]
   rfl
  rcases Yg (z2x (rd l i)) with q | q
  ·obtain ⟨n, hn⟩ := w7i k (i + 1) (by omega) (fun s hs => by
    rw [List.take_add_one] at hs
    have e : l[i]? = some (rd l i) := by rw [Ww hi]; exact List.getElem?_eq_getElem _
    rw [e] at hs
    simp only [Option.toList_some, List.mem_append, List.mem_singleton] at hs
    rcases hs with hs | rfl
    ·exact ht s hs
    ·exact q)
   refine ⟨n + 1, ?_⟩
   rw [Zv, hs, q, cond_true]
   exact hn
  ·have hv : l.all z2x = false := Bool.eq_false_iff.2 fun e => by
    have := List.all_eq_true.1 e (rd l i) (by rw [Ww hi]; exact List.getElem_mem hi)
    rw [this] at q; cases q
   refine ⟨1, ?_⟩
   rw [Zv, hv, cond_false, hs, q, cond_false, Zm]
end
theorem eF_ne {l : List R6} : ∀ (k i : Nat), okF l k i = false → (eF l k i != 0) = true
 | 0, i, h => by cases h
 | k + 1, i, h => by
  unfold okF at h
  unfold eF
  rcases Yg (w6t l (rd (D6.cuts l) i)) with q | q
  ·rw [q, cond_true]; exact q
  ·rw [q, cond_false] at h ⊢; exact eF_ne k (i + 1) h
def z1h (l : List R6) : Int := bif decide (400 < l.length) then 4 else bif l.all z2x then (bif okF l ((D6.cuts l).length - 1) 0 then v0f (D6.out l).length else eF l ((D6.cuts l).length - 1) 0) else 8
def z1i (l : List R6) : List R6 := w9w (z1h l) (D6.out l)
def z3z (l : List R6) : Bool := true
theorem v1b (l : List R6) (h : z3z l = true) : ∃ n, Yv (Xx l) n (z7u l) = .ret (x6j (z1h l) (D6.out l)) := by
 unfold z7u z1h
 by_cases h : 400 < l.length
 ·refine ⟨0, ?_⟩
  rw [decide_eq_true h, Yr (show (l.length : Int) > 400 by omega)]; rfl
 ·obtain ⟨n, hn⟩ := w7i l (by omega) l.length 0 (Nat.zero_add _) (fun s hs => by simp at hs)
  refine ⟨n, ?_⟩
  rw [decide_eq_false h, Xk (show ¬ (l.length : Int) > 400 by omega), cond_false, cond_false]
  rw [z0y] at hn
  rw [hn]
  rcases Yg (l.all z2x) with q | q
  ·rw [q, cond_true, cond_true]
   rcases Yg (okF l ((D6.cuts l).length - 1) 0) with q2 | q2
   ·rw [q2, cond_true, cond_true, y0m]; rfl
   ·rw [q2, cond_false, cond_false, x1s _ (eF_ne _ _ q2)]; rfl
  ·rw [q]; rfl
def fSlm : List AVal → Option (AVal × Bool)
 | [a0] => match asL R6 a0 with
  | some (L0, g0, n0) => some (.tup [.dat (z1i L0).length (Zz (z1i L0)), .int .i64 (z1h L0)], isT R6 n0 g0 && (z3z L0))
  | _ => none
 | _ => none
theorem v3x {S : Specs} (hS : Zu prog S) : Zu prog (S.with x9h fSlm) := by
 refine w9v hS (by kernel_rfl) fun args v h => ?_
 unfold fSlm at h
 split at h
 ·rename_i a0
  split at h
  ·rename_i L0 g0 n0 e0
   simp only [Option.some.injEq, Prod.mk.injEq, Bool.and_eq_true] at h
   obtain ⟨rfl, ho0, hw⟩ := h
   obtain ⟨N, hN⟩ := v1b L0 hw
   exact ⟨_, _, (.cons (Yh e0 ho0) .nil), y3a _ _, w2d L0 N _ hN, 3, y8o _ _⟩
  ·cases h
 ·cases h
def Ye (x n : Int) : Int := bif decide (IntKind.wrap .i64 (IntKind.wrap .i64 (Int.tdiv x n) * n) > x) then IntKind.wrap .i64 (IntKind.wrap .i64 (IntKind.wrap .i64 (Int.tdiv x n) - 1) * n) else IntKind.wrap .i64 (IntKind.wrap .i64 (Int.tdiv x n) * n)
def Xj (x n : Int) : Bool := !decide (n = 0)
theorem v5g (x n : Int) (h : Xj x n = true) : ∃ N, Yv (x0g x n) N (z8p x n) = .ret [.int .i64 (Ye x n)] := ⟨0, by
 have h : (!decide (n = 0)) = true := h
 unfold z8p Ye
 rw [h, cond_true]
 cases decide (IntKind.wrap .i64 (IntKind.wrap .i64 (Int.tdiv x n) * n) > x) <;> rfl⟩
def spC (lo hi a b : Int) : Int := Wt (IntKind.wrap .i64 (Kz hi b - Wt lo a)) 0
def fu1 (r : R6) (a b c d e f : Int) : Int := IntKind.wrap .i64 (IntKind.wrap .i64 (IntKind.wrap .i64 (1 * spC r.a r.d a b) * spC r.b r.e c d) * spC r.c r.f e f)
def fuF (a b c d e f : Int) : List R6 → Int → Int
 | [], s => s
 | r :: l, s => fuF a b c d e f l (IntKind.wrap .i64 (s - fu1 r a b c d e f))
def fu0 (a b c d e f : Int) : Int := IntKind.wrap .i64 (IntKind.wrap .i64 (IntKind.wrap .i64 (b - a) * IntKind.wrap .i64 (d - c)) * IntKind.wrap .i64 (f - e))
def w1u (L : List R6) (a b c d e f : Int) : Bool := fuF a b c d e f L (fu0 a b c d e f) == 0
def z4v (L : List R6) (a b c d e f : Int) : Bool := decide (L.length ≤ 100000)
theorem w9t {L : List R6} {a b c d e f : Int} (hl : L.length ≤ 100000) : ∀ (k i : Nat) (s : Int), i + k = L.length → ∃ N, Yv (z5z L a b c d e f) N (.to (.h0 s (i : Int))) = .ret [.bool (fuF a b c d e f (L.drop i) s == 0)]
 | 0, i, s, h => by
  refine ⟨1, ?_⟩
  rw [Zv, List.drop_eq_nil_of_le (by omega)]
  simp (disch := omega) only [z5z, Yz, cond_false]; rfl
 | k + 1, i, s, h => by
  have hi : i < L.length := by omega
  obtain ⟨N, hN⟩ := w9t (a := a) (b := b) (c := c) (d := d) (e := e) (f := f) hl k (i + 1) (IntKind.wrap .i64 (s - fu1 (rd L i) a b c d e f)) (by omega)
  have hw : IntKind.wrap .i64 ((i : Int) + 1) = ((i + 1 : Nat) : Int) := Zq (by omega)
  refine ⟨N + 1, ?_⟩
  rw [Zv, Yf hi]
  simp (disch := omega) only [z5z, fuF, Zs, Zt, hw, Zj, Bool.and_true, cond_true]
  exact hN
theorem v3n (L : List R6) (a b c d e f : Int) (h : z4v L a b c d e f = true) : ∃ N, Yv (z5z L a b c d e f) N (y3p L a b c d e f) = .ret [.bool (w1u L a b c d e f)] :=
 w9t (of_decide_eq_true h) L.length 0 _ (Nat.zero_add _)
def fDwn : List AVal → Option (AVal × Bool)
 | [.int .i64 x0, .int .i64 x1] => some (.int .i64 (Ye x0 x1), Xj x0 x1)
 | _ => none
theorem v4r {S : Specs} (hS : Zu prog S) : Zu prog (S.with nDown fDwn) := by
 refine z1m hS (by kernel_rfl) fun args v h => ?_
 unfold fDwn at h
 split at h
 ·rename_i x0 x1
  simp only [Option.some.injEq, Prod.mk.injEq, Bool.and_eq_true] at h
  obtain ⟨rfl, hw⟩ := h
  obtain ⟨N, hN⟩ := v5g x0 x1 hw
  exact ⟨_, _, (.cons (.refl _) (.cons (.refl _) .nil)), rfl, w5t x0 x1 N _ hN, 3, rfl⟩
 ·cases h
def fFul : List AVal → Option (AVal × Bool)
 | [a0, .agg [.int .i64 aW, .int .i64 aX], .agg [.int .i64 bW, .int .i64 bX], .agg [.int .i64 cO, .int .i64 cP]] => match asL R6 a0 with
  | some (L0, g0, n0) => some (.bool (w1u L0 aW aX bW bX cO cP), isT R6 n0 g0 && (z4v L0 aW aX bW bX cO cP))
  | _ => none
 | _ => none
theorem v4n {S : Specs} (hS : Zu prog S) : Zu prog (S.with nFull fFul) := by
 refine z1m hS (by kernel_rfl) fun args v h => ?_
 unfold fFul at h
 split at h
 ·rename_i a0 aW aX bW bX cO cP
  split at h
  ·rename_i L0 g0 n0 e0
   simp only [Option.some.injEq, Prod.mk.injEq, Bool.and_eq_true] at h
   obtain ⟨rfl, ho0, hw⟩ := h
   obtain ⟨N, hN⟩ := v3n L0 aW aX bW bX cO cP hw
   exact ⟨_, _, (.cons (Yh e0 ho0) (.cons (.refl _) (.cons (.refl _) (.cons (.refl _) .nil)))), rfl, w5a L0 aW aX bW bX cO cP N _ hN, 3, rfl⟩
  ·cases h
 ·cases h
def De : Specs := (((Dd.with x9h fSlm).with nDown fDwn).with nFull fFul)
theorem Qy : Zu prog De := (v4n (v4r (v3x Uf)))
end Go.Am
namespace Go.Am
open Go.Proofs.Tryz
open Go.Proofs
inductive outeS where
 | h0 (v7 : List R6) (v19 : Int)
def v2p (l0 : List R6) (x1 : Int) : outeS → Cfg
 | .h0 v7 v19 => ⟨⟨89, 0, true⟩, none, (Zg prog 34 [1, 1, 1, 0, 1, 0, 0] 0), none, (Zy prog 16), ⟨Yj [(1, (ii x1)), (7, (.sla 0 6 0 v7.length (.un 6))), (17, (.dat l0.length (Zz l0))), (18, (ii (l0.length : Int))), (19, (ii v19))], Vf [⟨rows v7.length (Zz v7), 68, some ⟨6, v7.length, (Zz v7)⟩⟩] 0, 1, [], true⟩, [], .leaf⟩
def w8p : List (Option (List Nat)) := [some [1, 7, 17, 18, 19]]
def w8q : List (Option (List Nat)) := []
def z0r (l0 : List R6) (x1 : Int) : outeS → Xd outeS
 | .h0 v7 v19 => (bif (decide (v19 < (l0.length : Int))) then (bif ((decide (0 ≤ v19 ∧ v19 < (l0.length : Int))) && true) then (bif (Xj (rd l0 v19.toNat).a x1) then (bif (Xj (rd l0 v19.toNat).b x1) then (bif (Xj (rd l0 v19.toNat).c x1) then (bif (Xj (IntKind.wrap .i64 (0 - (rd l0 v19.toNat).d)) x1) then (bif (Xj (IntKind.wrap .i64 (0 - (rd l0 v19.toNat).e)) x1) then (bif (Xj (IntKind.wrap .i64 (0 - (rd l0 v19.toNat).f)) x1) then (bif (decide ((Kz (Kz (Ye (rd l0 v19.toNat).a x1) (Ye (rd l0 v19.toNat).b x1)) (Ye (rd l0 v19.toNat).c x1)) < (-1000000))) then (.ret [.nils, (.int .i64 16)]) else (bif (decide ((Wt (Wt (IntKind.wrap .i64 (0 - (Ye (IntKind.wrap .i64 (0 - (rd l0 v19.toNat).d)) x1))) (IntKind.wrap .i64 (0 - (Ye (IntKind.wrap .i64 (0 - (rd l0 v19.toNat).e)) x1)))) (IntKind.wrap .i64 (0 - (Ye (IntKind.wrap .i64 (0 - (rd l0 v19.toNat).f)) x1)))) > 1000000)) then (.ret [.nils, (.int .i64 16)]) else (bif (Nat.beq 6 6 && ((decide (0 + v7.length = v7.length)) && decide ((v7.length + 1 + 1) * (48 + 1) ≤ Jb))) then (.to (.h0 (v7 ++ [(R6.mk (Ye (rd l0 v19.toNat).a x1) (Ye (rd l0 v19.toNat).b x1) (Ye (rd l0 v19.toNat).c x1) (IntKind.wrap .i64 (0 - (Ye (IntKind.wrap .i64 (0 - (rd l0 v19.toNat).d)) x1))) (IntKind.wrap .i64 (0 - (Ye (IntKind.wrap .i64 (0 - (rd l0 v19.toNat).e)) x1))) (IntKind.wrap .i64 (0 - (Ye (IntKind.wrap .i64 (0 - (rd l0 v19.toNat).f)) x1))))]) (IntKind.wrap .i64 (v19 + 1)))) else .stuck))) else .stuck) else .stuck) else .stuck) else .stuck) else .stuck) else .stuck) else .stuck) else (bif (z3z (cvT v7)) then (.ret [(.dat (z1i (cvT v7)).length (Zz (z1i (cvT v7)))), (.int .i64 (z1h (cvT v7)))]) else .stuck))
def z4o (l0 : List R6) (x1 : Int) : Xd outeS := (bif (Vj (cvT l0)) then (bif ((Zr (cvT l0)) != 0) then (.ret [.nils, (.int .i64 (Zr (cvT l0)))]) else (bif (decide (x1 < 1)) then (.ret [.nils, (.int .i64 2)]) else (bif (decide (x1 > 1000)) then (.ret [.nils, (.int .i64 2)]) else (.to (.h0 ([] : List R6) 0))))) else .stuck)
theorem y9b (l0 : List R6) (x1 : Int) : ∀ s, Wj prog (Zy prog 34) (v2p l0 x1) (v2p l0 x1 s) (z0r l0 x1 s)
 | .h0 v7 v19 => (lb (fun k0 => (lo fun aH => (lo fun bG => (lo fun cF => (lo fun dC => (lo fun dL => (lo fun dM => (lo fun dT => (lb (fun k1 => (lr 89 34 [1, 1, 1, 0, 1, 0, 0, 1, 1, 0, 0, 1, 1, 0, 1, 0, 0] 1 16 [(4, .nils), (5, (ii 16))] (sl Qy 52 [] ⟨[], [], [some [4, 5]], []⟩ ⟨[], [], []⟩ (trs 13 []) (tt k1 (ww dT (ww dM (ww dL (ww dC (ww cF (ww bG (ww aH (tt k0 nn)))))))))))) (fun k1 => (lb (fun k2 => (lr 89 34 [1, 1, 1, 0, 1, 0, 0, 1, 1, 0, 0, 1, 1, 0, 1, 0, 0] 1 16 [(4, .nils), (5, (ii 16))] (sl Qy 52 [] ⟨[], [], [some [4, 5]], []⟩ ⟨[], [], []⟩ [true, false, false, false, false, false, false, false, false, false, false, false, true] (tt k2 (tt k1 (ww dT (ww dM (ww dL (ww dC (ww cF (ww bG (ww aH (tt k0 nn))))))))))))) (fun k2 => (lo fun o0 => (sl Qy 61 [] ⟨[4], [], w8p, w8q⟩ ⟨[(7, .len (v7 ++ [(R6.mk (Ye (rd l0 (tn v19)).a x1) (Ye (rd l0 (tn v19)).b x1) (Ye (rd l0 (tn v19)).c x1) (wr (0 - (Ye (wr (0 - (rd l0 (tn v19)).d)) x1))) (wr (0 - (Ye (wr (0 - (rd l0 (tn v19)).e)) x1))) (wr (0 - (Ye (wr (0 - (rd l0 (tn v19)).f)) x1))))]).length)], [.rowed 6 (v7 ++ [(R6.mk (Ye (rd l0 (tn v19)).a x1) (Ye (rd l0 (tn v19)).b x1) (Ye (rd l0 (tn v19)).c x1) (wr (0 - (Ye (wr (0 - (rd l0 (tn v19)).d)) x1))) (wr (0 - (Ye (wr (0 - (rd l0 (tn v19)).e)) x1))) (wr (0 - (Ye (wr (0 - (rd l0 (tn v19)).f)) x1))))]).length (Zz (v7 ++ [(R6.mk (Ye (rd l0 (tn v19)).a x1) (Ye (rd l0 (tn v19)).b x1) (Ye (rd l0 (tn v19)).c x1) (wr (0 - (Ye (wr (0 - (rd l0 (tn v19)).d)) x1))) (wr (0 - (Ye (wr (0 - (rd l0 (tn v19)).e)) x1))) (wr (0 - (Ye (wr (0 - (rd l0 (tn v19)).f)) x1))))]))], []⟩ [true, false, false, false, false, false, false, false, false, false, false, false, false] (pp (xL (v7.length + 1) (v7 ++ [(R6.mk (Ye (rd l0 (tn v19)).a x1) (Ye (rd l0 (tn v19)).b x1) (Ye (rd l0 (tn v19)).c x1) (wr (0 - (Ye (wr (0 - (rd l0 (tn v19)).d)) x1))) (wr (0 - (Ye (wr (0 - (rd l0 (tn v19)).e)) x1))) (wr (0 - (Ye (wr (0 - (rd l0 (tn v19)).f)) x1))))]).length) (pp (xL (v7.length + 1) (v7 ++ [(R6.mk (Ye (rd l0 (tn v19)).a x1) (Ye (rd l0 (tn v19)).b x1) (Ye (rd l0 (tn v19)).c x1) (wr (0 - (Ye (wr (0 - (rd l0 (tn v19)).d)) x1))) (wr (0 - (Ye (wr (0 - (rd l0 (tn v19)).e)) x1))) (wr (0 - (Ye (wr (0 - (rd l0 (tn v19)).f)) x1))))]).length) (pp (xS (v7.length + 1) (Ze (Zz v7) 0 v7.length 6 [(ii (Ye (rd l0 (tn v19)).a x1)), (ii (Ye (rd l0 (tn v19)).b x1)), (ii (Ye (rd l0 (tn v19)).c x1)), (ii (wr (0 - (Ye (wr (0 - (rd l0 (tn v19)).d)) x1)))), (ii (wr (0 - (Ye (wr (0 - (rd l0 (tn v19)).e)) x1)))), (ii (wr (0 - (Ye (wr (0 - (rd l0 (tn v19)).f)) x1))))]) (Zz (v7 ++ [(R6.mk (Ye (rd l0 (tn v19)).a x1) (Ye (rd l0 (tn v19)).b x1) (Ye (rd l0 (tn v19)).c x1) (wr (0 - (Ye (wr (0 - (rd l0 (tn v19)).d)) x1))) (wr (0 - (Ye (wr (0 - (rd l0 (tn v19)).e)) x1))) (wr (0 - (Ye (wr (0 - (rd l0 (tn v19)).f)) x1))))]))) (pp (pp (xF (Ze (Zz v7) 0 v7.length 6 [(ii (Ye (rd l0 (tn v19)).a x1)), (ii (Ye (rd l0 (tn v19)).b x1)), (ii (Ye (rd l0 (tn v19)).c x1)), (ii (wr (0 - (Ye (wr (0 - (rd l0 (tn v19)).d)) x1)))), (ii (wr (0 - (Ye (wr (0 - (rd l0 (tn v19)).e)) x1)))), (ii (wr (0 - (Ye (wr (0 - (rd l0 (tn v19)).f)) x1))))])) nn) (ww o0 (tt k2 (tt k1 (ww dT (ww dM (ww dL (ww dC (ww cF (ww bG (ww aH (tt k0 nn))))))))))))))))))))))))))))) (fun k0 => (Xi (sl Qy (C' := ⟨⟨89, 0, true⟩, (Vv prog 34 [1, 1, 1, 1, 0] 1), (Zg prog 34 [1, 1, 1, 1, 0] 1), none, (Zy prog 16), ⟨Yj [(85, (.dat v7.length (Zz v7)))], Vf [] 0, 0, [], true⟩, [], .leaf⟩) 10 [] ⟨[], [0], [some [85]], []⟩ ⟨[(85, .frz v7.length v7.length (Zz v7) (Zz v7))], [], []⟩ [false] (pp (xZ (z4w 6 6 0 v7.length v7.length (Zz v7)) v7.length (Zz v7)) (pp (xL v7.length v7.length) (pp (xS v7.length (Zz v7) (Zz v7)) (pp (fl v7 nn) (tt k0 nn)))))) (lo fun o0 => (lr 89 3 [1, 1, 1, 1, 1, 1, 0] 1 16 [(4, (.dat (z1i (cvT v7)).length (Zz (z1i (cvT v7))))), (5, (ii (z1h (cvT v7))))] (sl Qy 6 [] ⟨[], [], [some [4, 5]], []⟩ ⟨[], [], []⟩ [] (pp (pp (xr v7) (xw o0)) nn)))))))
theorem y5q (l0 : List R6) (x1 : Int) : Wj prog (Zy prog 34) (v2p l0 x1) (Zf prog 34 [(.dat l0.length (Zz l0)), (.int .i64 x1)] true []) (z4o l0 x1) := (lo fun bB => (lb (fun k0 => (lr 89 34 [1, 0, 1, 1, 0, 0] 1 16 [(4, .nils), (5, (ii (Zr (cvT l0))))] (sl Qy 48 [] ⟨[], [], [some [4, 5]], []⟩ ⟨[], [], []⟩ [true, true] (tt k0 (tt k0 (pp (pp (xr l0) (xw bB)) nn)))))) (fun k0 => (lb (fun k1 => (lr 89 34 [1, 0, 1, 1, 0, 0] 1 16 [(4, .nils), (5, (ii 2))] (sl Qy 59 [] ⟨[], [], [some [4, 5]], []⟩ ⟨[], [], []⟩ [false, true, true, true, true] (tt k1 (tt k0 (pp (pp (xr l0) (xw bB)) nn)))))) (fun k1 => (lb (fun k2 => (lr 89 34 [1, 0, 1, 1, 0, 0] 1 16 [(4, .nils), (5, (ii 2))] (sl Qy 59 [] ⟨[], [], [some [4, 5]], []⟩ ⟨[], [], []⟩ [false, false, false, true, true] (tt k2 (tt k1 (tt k0 (pp (pp (xr l0) (xw bB)) nn))))))) (fun k2 => (sl Qy 68 [(68, 6, Zz ([] : List R6))] ⟨[0], [], w8p, w8q⟩ ⟨[(7, .grow 0 6)], [], []⟩ [false, false, false, false, false] (pp (fl ([] : List R6) nn) (tt k2 (tt k1 (tt k0 (pp (pp (xr l0) (xw bB)) nn)))))))))))))
theorem x8y (l0 : List R6) (x1 : Int) (n : Nat) (vs : List AVal) (h : Yv (z0r l0 x1) n (z4o l0 x1) = .ret vs) : Jo prog (Zy prog 34) (Zf prog 34 [(.dat l0.length (Zz l0)), (.int .i64 x1)] true []) vs := by
 have := Zo (y9b l0 x1) n _ (y5q l0 x1)
 rwa [h] at this
inductive colS where
 | h0 (v14 : Int) (aA : List Int)
 | h1 (v5 : Int) (aB : List R2) (bH : Nat) (aP : List Int)
 | h2 (v5 : Int) (v6 : List R6) (v19 : Int) (aB : List R2) (bH : Nat) (aP : List Int)
def colC (l0 : List R6) (aW : Int) (aX : Int) (bW : Int) (bX : Int) (x3 : Int) : colS → Cfg
 | .h0 v14 aA => ⟨⟨45, 0, true⟩, none, (Zg prog 80 [1, 1, 0, 1, 0, 0] 0), none, (Zy prog 4), ⟨Yj [(2, (ii x3)), (3, (.ptr 0 0)), (4, (.ptr 1 0)), (7, (.ptr 2 0)), (12, (.dat l0.length (Zz l0))), (13, (ii (l0.length : Int))), (14, (ii v14))], Vf [⟨[(.dat l0.length (Zz l0))], 22, none⟩, ⟨[(ii 1)], 3, none⟩, ⟨[(.sla 6 1 0 aA.length (.un 1))], 47, none⟩, ⟨[(ii aW), (ii aX)], 110, none⟩, ⟨[(ii bW), (ii bX)], 110, none⟩, ⟨[.nils], 158, none⟩, ⟨rows aA.length (Zz aA), 3, some ⟨1, aA.length, (Zz aA)⟩⟩] 0, 7, [], true⟩, [⟨⟨51, 0, true⟩, (Vv prog 122 [1, 1, 0, 0] 2), (Zg prog 122 [1, 1, 0, 0] 1), none, (Zy prog 102), Yj [(5, (.ptr 3 0)), (6, (.ptr 4 0)), (8, .nils), (9, (.ptr 5 0)), (13, (.dat l0.length (Zz l0))), (14, (ii x3))]⟩], .leaf⟩
 | .h1 v5 aB bH aP => ⟨⟨63, 0, true⟩, none, (Zg prog 121 [1, 0, 0] 0), none, [], ⟨Yj [(0, (.yld 0)), (1, (.ptr 4 0)), (2, (.ptr 6 0)), (3, (.ptr 7 0)), (5, (ii v5))], z4r [(1, ⟨[(ii aW), (ii aX)], 110, none⟩), (2, ⟨[(ii bW), (ii bX)], 110, none⟩), (3, ⟨[(.sla 8 2 0 aB.length (.un 2))], 158, none⟩), (4, ⟨[(.sla 5 1 0 bH (.un 1))], 47, none⟩), (5, ⟨rows aP.length (Zz aP), 3, some ⟨1, aP.length, (Zz aP)⟩⟩), (6, ⟨[(.dat l0.length (Zz l0))], 22, none⟩), (7, ⟨[(ii 1)], 3, none⟩), (8, ⟨rows aB.length (Zz aB), 110, some ⟨2, aB.length, (Zz aB)⟩⟩)], 9, [], true⟩, [⟨⟨51, 0, true⟩, none, (.inRangeFunc 0 :: (Zg prog 122 [1, 1, 0, 1, 0] 1)), none, (Zy prog 102), Yj [(8, .nils), (9, (.ptr 3 0))]⟩], (z4t [(0, ⟨.ready, none, 51, Yj [(5, (.ptr 1 0)), (6, (.ptr 2 0)), (9, (.ptr 3 0))], [16, 17], (Xn prog 122 [1, 1, 0, 1, 0, 0]), (Xn prog 122 [1, 1, 0, 1, 0, 1])⟩)])⟩
 | .h2 v5 v6 v19 aB bH aP => ⟨⟨63, 0, true⟩, none, (Zg prog 121 [1, 0, 0, 1, 0, 0, 1, 0, 1, 0, 0] 0), none, [], ⟨Yj [(0, (.yld 0)), (1, (.ptr 4 0)), (2, (.ptr 6 0)), (3, (.ptr 7 0)), (5, (ii v5)), (6, (.sla 8 6 0 v6.length (.un 6))), (17, (.dat l0.length (Zz l0))), (18, (ii (l0.length : Int))), (19, (ii v19))], z4r [(1, ⟨[(ii aW), (ii aX)], 110, none⟩), (2, ⟨[(ii bW), (ii bX)], 110, none⟩), (3, ⟨[(.sla 9 2 0 aB.length (.un 2))], 158, none⟩), (4, ⟨[(.sla 5 1 0 bH (.un 1))], 47, none⟩), (5, ⟨rows aP.length (Zz aP), 3, some ⟨1, aP.length, (Zz aP)⟩⟩), (6, ⟨[(.dat l0.length (Zz l0))], 22, none⟩), (7, ⟨[(ii 1)], 3, none⟩), (8, ⟨rows v6.length (Zz v6), 68, some ⟨6, v6.length, (Zz v6)⟩⟩), (9, ⟨rows aB.length (Zz aB), 110, some ⟨2, aB.length, (Zz aB)⟩⟩)], 10, [], true⟩, [⟨⟨51, 0, true⟩, none, (.inRangeFunc 0 :: (Zg prog 122 [1, 1, 0, 1, 0] 1)), none, (Zy prog 102), Yj [(8, .nils), (9, (.ptr 3 0))]⟩], (z4t [(0, ⟨.ready, none, 51, Yj [(5, (.ptr 1 0)), (6, (.ptr 2 0)), (9, (.ptr 3 0))], [16, 17], (Xn prog 122 [1, 1, 0, 1, 0, 0]), (Xn prog 122 [1, 1, 0, 1, 0, 1])⟩)])⟩
def colN0 : List (Option (List Nat)) := [some [2, 3, 4, 7, 12, 13, 14], some [5, 6, 8, 9, 13, 14]]
def colM0 : List (Option (List Nat)) := []
def w0y : List (Option (List Nat)) := [some [0, 1, 2, 3, 5], some [8, 9]]
def w0z : List (Option (List Nat)) := [some [5, 6, 9], none, none, none, none, none, none, none, none]
def w6n : List (Option (List Nat)) := [some [0, 1, 2, 3, 5, 6, 17, 18, 19], some [8, 9]]
def w6o : List (Option (List Nat)) := [some [5, 6, 9], none, none, none, none, none, none, none, none, none]
def Vm (l0 : List R6) (aW : Int) (aX : Int) (bW : Int) (bX : Int) (x3 : Int) : colS → Xd colS
 | .h0 v14 aA => (bif (decide (v14 < (l0.length : Int))) then (bif ((decide (0 ≤ v14 ∧ v14 < (l0.length : Int))) && true) then (bif (Xj (rd l0 v14.toNat).b x3) then (bif (Xj (IntKind.wrap .i64 (0 - (rd l0 v14.toNat).b)) x3) then (bif (Xj (rd l0 v14.toNat).e x3) then (bif (Xj (IntKind.wrap .i64 (0 - (rd l0 v14.toNat).e)) x3) then (bif (Nat.beq 1 1 && ((decide (0 + aA.length = aA.length)) && decide ((aA.length + 4 + 1) * (8 + 1) ≤ Jb))) then (.to (.h0 (IntKind.wrap .i64 (v14 + 1)) (aA ++ [(Ye (rd l0 v14.toNat).b x3), (IntKind.wrap .i64 (0 - (Ye (IntKind.wrap .i64 (0 - (rd l0 v14.toNat).b)) x3))), (Ye (rd l0 v14.toNat).e x3), (IntKind.wrap .i64 (0 - (Ye (IntKind.wrap .i64 (0 - (rd l0 v14.toNat).e)) x3)))]))) else .stuck) else .stuck) else .stuck) else .stuck) else .stuck) else .stuck) else (bif (decide (aA.length < 4611686018427387904)) then (bif (decide (aA.length = aA.length)) then (.to (.h1 1 ([] : List R2) (w6q (Za aA.length (cOf (Zz (Yo (Za aA.length (cOf (Zz aA)))))))) (Xv (Za aA.length (cOf (Zz (Yo (Za aA.length (cOf (Zz aA)))))))))) else .stuck) else .stuck))
 | .h1 v5 aB bH aP => (bif (decide (v5 < ((bH : Nat) : Int))) then (.to (.h2 v5 ([] : List R6) 0 aB bH aP)) else (.ret [(.dat aB.length (Zz aB))]))
 | .h2 v5 v6 v19 aB bH aP => (bif (decide (v19 < (l0.length : Int))) then (bif ((decide (0 ≤ v19 ∧ v19 < (l0.length : Int))) && true) then (bif ((decide (0 ≤ v5 ∧ v5 < ((bH : Nat) : Int))) && true) then (bif (decide ((0 + v5.toNat) < aP.length)) then (bif (decide ((rd l0 v19.toNat).b < (rd aP (0 + v5.toNat)))) then (bif ((decide (0 ≤ (IntKind.wrap .i64 (v5 - 1)) ∧ (IntKind.wrap .i64 (v5 - 1)) < ((bH : Nat) : Int))) && true) then (bif (decide ((0 + (Int.toNat (IntKind.wrap .i64 (v5 - 1)))) < aP.length)) then (bif (decide ((rd aP (0 + (Int.toNat (IntKind.wrap .i64 (v5 - 1))))) < (rd l0 v19.toNat).e)) then (bif (Nat.beq 6 6 && ((decide (0 + v6.length = v6.length)) && decide ((v6.length + 1 + 1) * (48 + 1) ≤ Jb))) then (.to (.h2 v5 (v6 ++ [(R6.mk (rd l0 v19.toNat).a (rd l0 v19.toNat).b (rd l0 v19.toNat).c (rd l0 v19.toNat).d (rd l0 v19.toNat).e (rd l0 v19.toNat).f)]) (IntKind.wrap .i64 (v19 + 1)) aB bH aP)) else .stuck) else (.to (.h2 v5 v6 (IntKind.wrap .i64 (v19 + 1)) aB bH aP))) else .stuck) else .stuck) else (.to (.h2 v5 v6 (IntKind.wrap .i64 (v19 + 1)) aB bH aP))) else .stuck) else .stuck) else .stuck) else (bif ((decide (0 ≤ (IntKind.wrap .i64 (v5 - 1)) ∧ (IntKind.wrap .i64 (v5 - 1)) < ((bH : Nat) : Int))) && true) then (bif (decide ((0 + (Int.toNat (IntKind.wrap .i64 (v5 - 1)))) < aP.length)) then (bif ((decide (0 ≤ v5 ∧ v5 < ((bH : Nat) : Int))) && true) then (bif (decide ((0 + v5.toNat) < aP.length)) then (bif (Nat.beq 6 6 && (decide (0 + v6.length ≤ v6.length) && Qe (Zz v6))) then (bif (z4v (lst R6 (v6.length) (fun k => (Zz v6) (0 + k))) aW aX (rd aP (0 + (Int.toNat (IntKind.wrap .i64 (v5 - 1))))) (rd aP (0 + v5.toNat)) bW bX) then (bif (!(w1u (lst R6 (v6.length) (fun k => (Zz v6) (0 + k))) aW aX (rd aP (0 + (Int.toNat (IntKind.wrap .i64 (v5 - 1))))) (rd aP (0 + v5.toNat)) bW bX)) then (.to (.h1 (IntKind.wrap .i64 (v5 + 1)) aB bH aP)) else (bif (decide ((aB.length : Int) > 0)) then (bif ((decide (0 ≤ (IntKind.wrap .i64 ((aB.length : Int) - 1)) ∧ (IntKind.wrap .i64 ((aB.length : Int) - 1)) < (aB.length : Int))) && true) then (bif (decide ((0 + (Int.toNat (IntKind.wrap .i64 ((aB.length : Int) - 1)))) < aB.length)) then (bif ((rd aB (0 + (Int.toNat (IntKind.wrap .i64 ((aB.length : Int) - 1))))).b == (rd aP (0 + (Int.toNat (IntKind.wrap .i64 (v5 - 1)))))) then (.to (.h1 (IntKind.wrap .i64 (v5 + 1)) (aB.set (0 + (Int.toNat (IntKind.wrap .i64 ((aB.length : Int) - 1)))) (R2.mk (rd aB (0 + (Int.toNat (IntKind.wrap .i64 ((aB.length : Int) - 1))))).a (rd aP (0 + v5.toNat)))) bH aP)) else (bif (Nat.beq 2 2 && ((decide (0 + aB.length = aB.length)) && decide ((aB.length + 1 + 1) * (16 + 1) ≤ Jb))) then (.to (.h1 (IntKind.wrap .i64 (v5 + 1)) (aB ++ [(R2.mk (rd aP (0 + (Int.toNat (IntKind.wrap .i64 (v5 - 1))))) (rd aP (0 + v5.toNat)))]) bH aP)) else .stuck)) else .stuck) else .stuck) else (bif (Nat.beq 2 2 && ((decide (0 + aB.length = aB.length)) && decide ((aB.length + 1 + 1) * (16 + 1) ≤ Jb))) then (.to (.h1 (IntKind.wrap .i64 (v5 + 1)) (aB ++ [(R2.mk (rd aP (0 + (Int.toNat (IntKind.wrap .i64 (v5 - 1))))) (rd aP (0 + v5.toNat)))]) bH aP)) else .stuck))) else .stuck) else .stuck) else .stuck) else .stuck) else .stuck) else .stuck))
def y3x (l0 : List R6) (aW : Int) (aX : Int) (bW : Int) (bX : Int) (x3 : Int) : Xd colS := (.to (.h0 0 ([] : List Int)))
theorem x5y (l0 : List R6) (aW : Int) (aX : Int) (bW : Int) (bX : Int) (x3 : Int) : ∀ s, Wj prog (Zy prog 122) (colC l0 aW aX bW bX x3) (colC l0 aW aX bW bX x3 s) (Vm l0 aW aX bW bX x3 s)
 | .h0 v14 aA => (lb (fun k0 => (lo fun o0 => (lo fun o1 => (lo fun o2 => (lo fun o3 => (lo fun o4 => (lo fun o5 => (sl Qy 45 [] ⟨[0, 1, 2, 3, 4, 5, 12], [], colN0, colM0⟩ ⟨[], [.keep, .keep, .cells [.len (aA ++ [(Ye (rd l0 (tn v14)).b x3), (wr (0 - (Ye (wr (0 - (rd l0 (tn v14)).b)) x3))), (Ye (rd l0 (tn v14)).e x3), (wr (0 - (Ye (wr (0 - (rd l0 (tn v14)).e)) x3)))]).length], .keep, .keep, .keep, .rowed 1 (aA ++ [(Ye (rd l0 (tn v14)).b x3), (wr (0 - (Ye (wr (0 - (rd l0 (tn v14)).b)) x3))), (Ye (rd l0 (tn v14)).e x3), (wr (0 - (Ye (wr (0 - (rd l0 (tn v14)).e)) x3)))]).length (Zz (aA ++ [(Ye (rd l0 (tn v14)).b x3), (wr (0 - (Ye (wr (0 - (rd l0 (tn v14)).b)) x3))), (Ye (rd l0 (tn v14)).e x3), (wr (0 - (Ye (wr (0 - (rd l0 (tn v14)).e)) x3)))]))], []⟩ [true, true, false, true, false] (pp (xL (aA.length + 4) (aA ++ [(Ye (rd l0 (tn v14)).b x3), (wr (0 - (Ye (wr (0 - (rd l0 (tn v14)).b)) x3))), (Ye (rd l0 (tn v14)).e x3), (wr (0 - (Ye (wr (0 - (rd l0 (tn v14)).e)) x3)))]).length) (pp (xL (aA.length + 4) (aA ++ [(Ye (rd l0 (tn v14)).b x3), (wr (0 - (Ye (wr (0 - (rd l0 (tn v14)).b)) x3))), (Ye (rd l0 (tn v14)).e x3), (wr (0 - (Ye (wr (0 - (rd l0 (tn v14)).e)) x3)))]).length) (pp (xS (aA.length + 4) (Ze (Zz aA) 0 aA.length 1 [(ii (Ye (rd l0 (tn v14)).b x3)), (ii (wr (0 - (Ye (wr (0 - (rd l0 (tn v14)).b)) x3)))), (ii (Ye (rd l0 (tn v14)).e x3)), (ii (wr (0 - (Ye (wr (0 - (rd l0 (tn v14)).e)) x3))))]) (Zz (aA ++ [(Ye (rd l0 (tn v14)).b x3), (wr (0 - (Ye (wr (0 - (rd l0 (tn v14)).b)) x3))), (Ye (rd l0 (tn v14)).e x3), (wr (0 - (Ye (wr (0 - (rd l0 (tn v14)).e)) x3)))]))) (pp (pp (xF (Ze (Zz aA) 0 aA.length 1 [(ii (Ye (rd l0 (tn v14)).b x3)), (ii (wr (0 - (Ye (wr (0 - (rd l0 (tn v14)).b)) x3)))), (ii (Ye (rd l0 (tn v14)).e x3)), (ii (wr (0 - (Ye (wr (0 - (rd l0 (tn v14)).e)) x3))))])) nn) (ww o5 (ww o4 (ww o3 (ww o2 (ww o1 (ww o0 (tt k0 nn))))))))))))))))))) (fun k0 => (lo fun o0 => (lo fun o1 => (sl Qy 33 [(110, 2, Zz ([] : List R2))] ⟨[7, 3, 4, 5, 2, 6, 0, 1, 8], [], w0y, w0z⟩ ⟨[], (kpB 3 [.cells [.grow 8 2], .keep, .rowed 1 (Xv (Za aA.length (cOf (Zz (Yo (Za aA.length (cOf (Zz aA)))))))).length (Zz (Xv (Za aA.length (cOf (Zz (Yo (Za aA.length (cOf (Zz aA))))))))), .keep, .keep, .keep]), []⟩ [false] (pp (xL aA.length (Xv (Za aA.length (cOf (Zz (Yo (Za aA.length (cOf (Zz aA)))))))).length (by first | exact z0b _ _ | exact Uv rfl)) (pp (xS aA.length (Zz (Xv (Za aA.length (cOf (Zz (Yo (Za aA.length (cOf (Zz aA))))))))) (Zz (Xv (Za aA.length (cOf (Zz (Yo (Za aA.length (cOf (Zz aA)))))))))) (pp (fl (Xv (Za aA.length (cOf (Zz (Yo (Za aA.length (cOf (Zz aA)))))))) (fl ([] : List R2) nn)) (pp (pp (xG (Nat.beq 1 1)) (pp (xG (Nat.beq 1 1)) (pp (xG (Nat.beq 0 0)) (pp (xG (decide (aA.length = aA.length))) (pp (xG (isI (Zz (Yo (Za aA.length (cOf (Zz aA))))))) (xG (decide (aA.length < 4611686018427387904)))))))) (pp (pp (xG (Nat.beq 1 1)) (pp (xG (Nat.beq 1 1)) (pp (xG (Nat.beq 0 0)) (pp (xG (decide (aA.length = aA.length))) (pp (xG (isI (Zz aA))) (xG (decide (aA.length < 4611686018427387904)))))))) (tt k0 nn)))))))))))
 | .h1 v5 aB bH aP => (lb (fun k0 => (sl Qy 25 [(68, 6, Zz ([] : List R6))] ⟨[0, 1, 2, 3, 4, 5, 6, 7, 9, 8], [], w6n, w6o⟩ ⟨[(6, .grow 8 6)], [], []⟩ [true] (pp (fl aP (fl ([] : List R6) (fl aB nn))) (tt k0 nn)))) (fun k0 => (lr 51 3 [1, 1, 1, 1, 1, 1, 0] 1 102 [(8, (.dat aB.length (Zz aB)))] (sl Qy 18 [] ⟨[], [8], [some [8]], []⟩ ⟨[(8, .frz aB.length aB.length (Zz aB) (Zz aB))], [], []⟩ [false] (pp (xZ (z4w 2 2 0 aB.length aB.length (Zz aB)) aB.length (Zz aB)) (pp (xL aB.length aB.length) (pp (xS aB.length (Zz aB) (Zz aB)) (pp (fl aB nn) (tt k0 nn)))))))))
 | .h2 v5 v6 v19 aB bH aP => (lb (fun k0 => (lo fun aH => (lo fun bG => (lo fun cF => (lb (fun k1 => (lo fun cL => (lo fun dK => (lb (fun k2 => (lo fun o0 => (sl Qy 70 [] ⟨[0, 1, 2, 3, 4, 5, 6, 7, 15, 9], [], w6n, w6o⟩ ⟨[(6, .len (v6 ++ [(R6.mk (rd l0 (tn v19)).a (rd l0 (tn v19)).b (rd l0 (tn v19)).c (rd l0 (tn v19)).d (rd l0 (tn v19)).e (rd l0 (tn v19)).f)]).length)], (kpB 8 [.rowed 6 (v6 ++ [(R6.mk (rd l0 (tn v19)).a (rd l0 (tn v19)).b (rd l0 (tn v19)).c (rd l0 (tn v19)).d (rd l0 (tn v19)).e (rd l0 (tn v19)).f)]).length (Zz (v6 ++ [(R6.mk (rd l0 (tn v19)).a (rd l0 (tn v19)).b (rd l0 (tn v19)).c (rd l0 (tn v19)).d (rd l0 (tn v19)).e (rd l0 (tn v19)).f)])), .keep]), []⟩ [true, true, false, true, false, true, true, true, true, true, true, true, true] (pp (xL (v6.length + 1) (v6 ++ [(R6.mk (rd l0 (tn v19)).a (rd l0 (tn v19)).b (rd l0 (tn v19)).c (rd l0 (tn v19)).d (rd l0 (tn v19)).e (rd l0 (tn v19)).f)]).length) (pp (xL (v6.length + 1) (v6 ++ [(R6.mk (rd l0 (tn v19)).a (rd l0 (tn v19)).b (rd l0 (tn v19)).c (rd l0 (tn v19)).d (rd l0 (tn v19)).e (rd l0 (tn v19)).f)]).length) (pp (xS (v6.length + 1) (Ze (Zz v6) 0 v6.length 6 [(ii (rd l0 (tn v19)).a), (ii (rd l0 (tn v19)).b), (ii (rd l0 (tn v19)).c), (ii (rd l0 (tn v19)).d), (ii (rd l0 (tn v19)).e), (ii (rd l0 (tn v19)).f)]) (Zz (v6 ++ [(R6.mk (rd l0 (tn v19)).a (rd l0 (tn v19)).b (rd l0 (tn v19)).c (rd l0 (tn v19)).d (rd l0 (tn v19)).e (rd l0 (tn v19)).f)]))) (pp (fl aP (pp (xF (Ze (Zz v6) 0 v6.length 6 [(ii (rd l0 (tn v19)).a), (ii (rd l0 (tn v19)).b), (ii (rd l0 (tn v19)).c), (ii (rd l0 (tn v19)).d), (ii (rd l0 (tn v19)).e), (ii (rd l0 (tn v19)).f)])) (fl aB nn))) (ww o0 (tt k2 (ww dK (ww cL (tt k1 (ww cF (ww bG (ww aH (tt k0 nn)))))))))))))))) (fun k2 => (sl Qy 64 [] ⟨(List.range 10), [], w6n, w6o⟩ ⟨[], [], []⟩ [true, true, false, true, false, true, true, true, true, true, true, true, false] (pp (fl aP (fl v6 (fl aB nn))) (tt k2 (ww dK (ww cL (tt k1 (ww cF (ww bG (ww aH (tt k0 nn))))))))))))))) (fun k1 => (sl Qy 64 [] ⟨(List.range 10), [], w6n, w6o⟩ ⟨[], [], []⟩ [true, true, false, true, false, false, false, false, false, false, false, false, false] (pp (fl aP (fl v6 (fl aB nn))) (tt k1 (ww cF (ww bG (ww aH (tt k0 nn))))))))))))) (fun k0 => (lo fun aH => (lo fun bG => (lo fun cF => (lo fun dC => (lo fun dL => (lo fun dM => (lb (fun k1 => (sl Qy 44 [] ⟨[0, 1, 2, 3, 4, 5, 6, 7, 9], [], w0y, w0z⟩ ⟨[], [], []⟩ [false, true, false] (pp (fl aP (fl aB nn)) (tt k1 (pp (pp (pp (xw dL) (pp nn (pp nn (pp nn nn)))) (pp (xI R6 (v6.length) (fun k => (Zz v6) (0 + k))) (xw dM))) (ww dC (ww cF (ww bG (ww aH (tt k0 nn)))))))))) (fun k1 => (lb (fun k2 => (lo fun cU => (lo fun dJ => (lb (fun k3 => (sl Qy 64 [] ⟨[0, 1, 2, 3, 4, 5, 6, 7, 9], [], w0y, w0z⟩ ⟨[], (kpB 3 [.cells [.len (aB.set (0 + (tn (wr ((aB.length : Int) - 1)))) (R2.mk (rd aB (0 + (tn (wr ((aB.length : Int) - 1))))).a (rd aP (0 + (tn v5))))).length], .keep, .keep, .keep, .keep, .rowed 2 (aB.set (0 + (tn (wr ((aB.length : Int) - 1)))) (R2.mk (rd aB (0 + (tn (wr ((aB.length : Int) - 1))))).a (rd aP (0 + (tn v5))))).length (Zz (aB.set (0 + (tn (wr ((aB.length : Int) - 1)))) (R2.mk (rd aB (0 + (tn (wr ((aB.length : Int) - 1))))).a (rd aP (0 + (tn v5))))))]), []⟩ [false, false, true, true, true, true, true, true, true, true, true, true, false] (pp (xL aB.length (aB.set (0 + (tn (wr ((aB.length : Int) - 1)))) (R2.mk (rd aB (0 + (tn (wr ((aB.length : Int) - 1))))).a (rd aP (0 + (tn v5))))).length) (pp (xL aB.length (aB.set (0 + (tn (wr ((aB.length : Int) - 1)))) (R2.mk (rd aB (0 + (tn (wr ((aB.length : Int) - 1))))).a (rd aP (0 + (tn v5))))).length) (pp (xS aB.length (Xf (Zz aB) (0 + (tn (wr ((aB.length : Int) - 1)))) 1 [(ii (rd aP (0 + (tn v5))))]) (Zz (aB.set (0 + (tn (wr ((aB.length : Int) - 1)))) (R2.mk (rd aB (0 + (tn (wr ((aB.length : Int) - 1))))).a (rd aP (0 + (tn v5))))))) (pp (fl aP (pp (xF (Xf (Zz aB) (0 + (tn (wr ((aB.length : Int) - 1)))) 1 [(ii (rd aP (0 + (tn v5))))])) nn)) (ww dJ (ww cU (tt k3 (ww dJ (ww cU (tt k2 (tt k1 (pp (pp (pp (xw dL) (pp nn (pp nn (pp nn nn)))) (pp (xI R6 (v6.length) (fun k => (Zz v6) (0 + k))) (xw dM))) (ww dC (ww cF (ww bG (ww aH (tt k0 nn))))))))))))))))))) (fun k3 => (lo fun o0 => (sl Qy 61 [] ⟨[0, 1, 2, 3, 4, 5, 6, 7, 12], [], w0y, w0z⟩ ⟨[], (kpB 3 [.cells [.len (aB ++ [(R2.mk (rd aP (0 + (tn (wr (v5 - 1))))) (rd aP (0 + (tn v5))))]).length], .keep, .keep, .keep, .keep, .rowed 2 (aB ++ [(R2.mk (rd aP (0 + (tn (wr (v5 - 1))))) (rd aP (0 + (tn v5))))]).length (Zz (aB ++ [(R2.mk (rd aP (0 + (tn (wr (v5 - 1))))) (rd aP (0 + (tn v5))))]))]), []⟩ [false, false, true, true, true, true, true, true, true, true, true, false, false] (pp (xL (aB.length + 1) (aB ++ [(R2.mk (rd aP (0 + (tn (wr (v5 - 1))))) (rd aP (0 + (tn v5))))]).length) (pp (xL (aB.length + 1) (aB ++ [(R2.mk (rd aP (0 + (tn (wr (v5 - 1))))) (rd aP (0 + (tn v5))))]).length) (pp (xS (aB.length + 1) (Ze (Zz aB) 0 aB.length 2 [(ii (rd aP (0 + (tn (wr (v5 - 1)))))), (ii (rd aP (0 + (tn v5))))]) (Zz (aB ++ [(R2.mk (rd aP (0 + (tn (wr (v5 - 1))))) (rd aP (0 + (tn v5))))]))) (pp (fl aP (pp (xF (Ze (Zz aB) 0 aB.length 2 [(ii (rd aP (0 + (tn (wr (v5 - 1)))))), (ii (rd aP (0 + (tn v5))))])) nn)) (ww o0 (tt k3 (ww dJ (ww cU (tt k2 (tt k1 (pp (pp (pp (xw dL) (pp nn (pp nn (pp nn nn)))) (pp (xI R6 (v6.length) (fun k => (Zz v6) (0 + k))) (xw dM))) (ww dC (ww cF (ww bG (ww aH (tt k0 nn))))))))))))))))))))))) (fun k2 => (lo fun o0 => (sl Qy 61 [] ⟨[0, 1, 2, 3, 4, 5, 6, 7, 12], [], w0y, w0z⟩ ⟨[], (kpB 3 [.cells [.len (aB ++ [(R2.mk (rd aP (0 + (tn (wr (v5 - 1))))) (rd aP (0 + (tn v5))))]).length], .keep, .keep, .keep, .keep, .rowed 2 (aB ++ [(R2.mk (rd aP (0 + (tn (wr (v5 - 1))))) (rd aP (0 + (tn v5))))]).length (Zz (aB ++ [(R2.mk (rd aP (0 + (tn (wr (v5 - 1))))) (rd aP (0 + (tn v5))))]))]), []⟩ [false, false, false, false, false, false, false, false, false, false, false, false, false] (pp (xL (aB.length + 1) (aB ++ [(R2.mk (rd aP (0 + (tn (wr (v5 - 1))))) (rd aP (0 + (tn v5))))]).length) (pp (xL (aB.length + 1) (aB ++ [(R2.mk (rd aP (0 + (tn (wr (v5 - 1))))) (rd aP (0 + (tn v5))))]).length) (pp (xS (aB.length + 1) (Ze (Zz aB) 0 aB.length 2 [(ii (rd aP (0 + (tn (wr (v5 - 1)))))), (ii (rd aP (0 + (tn v5))))]) (Zz (aB ++ [(R2.mk (rd aP (0 + (tn (wr (v5 - 1))))) (rd aP (0 + (tn v5))))]))) (pp (fl aP (pp (xF (Ze (Zz aB) 0 aB.length 2 [(ii (rd aP (0 + (tn (wr (v5 - 1)))))), (ii (rd aP (0 + (tn v5))))])) nn)) (ww o0 (tt k2 (tt k1 (pp (pp (pp (xw dL) (pp nn (pp nn (pp nn nn)))) (pp (xI R6 (v6.length) (fun k => (Zz v6) (0 + k))) (xw dM))) (ww dC (ww cF (ww bG (ww aH (tt k0 nn)))))))))))))))))))))))))))
theorem x0t (l0 : List R6) (aW : Int) (aX : Int) (bW : Int) (bX : Int) (x3 : Int) : Wj prog (Zy prog 122) (colC l0 aW aX bW bX x3) (Zf prog 122 [(.dat l0.length (Zz l0)), (.agg [(.int .i64 aW), (.int .i64 aX)]), (.agg [(.int .i64 bW), (.int .i64 bX)]), (.int .i64 x3)] true []) (y3x l0 aW aX bW bX x3) := (sl Qy 35 [(3, 1, Zz ([] : List Int))] ⟨[3, 4, 5, 0, 1, 2, 6], [], colN0, colM0⟩ ⟨[], [.keep, .keep, .cells [.grow 6 1], .keep, .keep, .keep, .keep], []⟩ [] (pp (fl ([] : List Int) nn) nn))
theorem w6m (l0 : List R6) (aW : Int) (aX : Int) (bW : Int) (bX : Int) (x3 : Int) (n : Nat) (vs : List AVal) (h : Yv (Vm l0 aW aX bW bX x3) n (y3x l0 aW aX bW bX x3) = .ret vs) : Jo prog (Zy prog 122) (Zf prog 122 [(.dat l0.length (Zz l0)), (.agg [(.int .i64 aW), (.int .i64 aX)]), (.agg [(.int .i64 bW), (.int .i64 bX)]), (.int .i64 x3)] true []) vs := by
 have := Zo (x5y l0 aW aX bW bX x3) n _ (x0t l0 aW aX bW bX x3)
 rwa [h] at this
end Go.Am
namespace Go.Am
open Go.Proofs.Tryz
open Go.Proofs Go.Sort Go.Shelf Go.RowKit Go.Lib
def upV (x n : Int) : Int := IntKind.wrap .i64 (0 - Ye (IntKind.wrap .i64 (0 - x)) n)
theorem w5s {x n : Int} (h : n ≠ 0) : Xj x n = true := by unfold Xj; rw [decide_eq_false h]; rfl
def oB (n : Int) (r : R6) : R6 := ⟨Ye r.a n, Ye r.b n, Ye r.c n, upV r.d n, upV r.e n, upV r.f n⟩
def oOk (n : Int) (r : R6) : Bool := !decide (Kz (Kz (Ye r.a n) (Ye r.b n)) (Ye r.c n) < (-1000000)) && !decide (Wt (Wt (upV r.d n) (upV r.e n)) (upV r.f n) > 1000000)
def outR (n : Int) (L : List R6) (ok : Bool) : List AVal := bif ok then [.dat (z1i (L.map (oB n))).length (Zz (z1i (L.map (oB n)))), .int .i64 (z1h (L.map (oB n)))] else [.nils, .int .i64 16]
theorem x8x {L : List R6} {n : Int} (hl : L.length ≤ 400) (hn : n ≠ 0) : ∀ (k i : Nat) (acc : List R6), i + k = L.length → acc = (L.take i).map (oB n) → ∃ N, Yv (z0r L n) N (.to (.h0 acc (i : Int))) = .ret (outR n L ((L.drop i).all (oOk n)))
 | 0, i, acc, h, ha => by
  refine ⟨1, ?_⟩
  rw [List.take_of_length_le (by omega)] at ha
  subst ha
  rw [Zv, List.drop_eq_nil_of_le (by omega)]
  simp (disch := omega) only [z0r, Yz, Zb, show ∀ l, z3z l = true from fun _ => rfl, cond_true, cond_false, Zm, outR, List.all_nil]
 | k + 1, i, acc, h, ha => by
  have hi : i < L.length := by omega
  have hla : acc.length = i := by rw [ha, List.length_map, List.length_take]; omega
  obtain ⟨N, hN⟩ := x8x hl hn k (i + 1) (acc ++ [oB n (rd L i)]) (by omega) (by rw [ha, Ww hi, ← List.map_singleton, ← List.map_append, List.take_append_getElem])
  have hw : IntKind.wrap .i64 ((i : Int) + 1) = ((i + 1 : Nat) : Int) := Zq (by omega)
  have hs : z0r L n (.h0 acc (i : Int)) = bif oOk n (rd L i) then .to (.h0 (acc ++ [oB n (rd L i)]) ((i + 1 : Nat) : Int)) else .ret [.nils, .int .i64 16] := by
   simp (disch := omega) only [z0r, Zs, Zt, hw, Zj, w5s hn, Yp, Zh, Ya, Nat.zero_add, decide_true, Bool.and_true, Bool.true_and, cond_true]
   unfold oOk upV oB
   cases decide (Kz (Kz (Ye (rd L i).a n) (Ye (rd L i).b n)) (Ye (rd L i).c n) < (-1000000)) <;> cases decide (Wt (Wt (IntKind.wrap .i64 (0 - Ye (IntKind.wrap .i64 (0 - (rd L i).d)) n)) (IntKind.wrap .i64 (0 - Ye (IntKind.wrap .i64 (0 - (rd L i).e)) n))) (IntKind.wrap .i64 (0 - Ye (IntKind.wrap .i64 (0 - (rd L i).f)) n)) > 1000000) <;> rfl
  refine ⟨N + 1, ?_⟩
  rw [Zv, hs, Yf hi, List.all_cons]
  rcases Yg (oOk n (rd L i)) with q | q
  ·rw [q, cond_true, Bool.true_and]; exact hN
  ·rw [q, cond_false, Bool.false_and]; exact Zm _ _ _
def y7i (L : List R6) (n : Int) : Bool := (Zr L == 0) && (!decide (n < 1) && (!decide (n > 1000) && L.all (oOk n)))
def Zc (L : List R6) (n : Int) : List R6 := bif y7i L n then z1i (L.map (oB n)) else []
def Xt (L : List R6) (n : Int) : Int := bif Zr L != 0 then Zr L else bif decide (n < 1) || decide (n > 1000) then 2 else bif L.all (oOk n) then z1h (L.map (oB n)) else 16
def outW (L : List R6) (n : Int) : List AVal := bif y7i L n then [.dat (Zc L n).length (Zz (Zc L n)), .int .i64 (Xt L n)] else [.nils, .int .i64 (Xt L n)]
theorem w3r (L : List R6) (n : Int) : ∃ N, Yv (z0r L n) N (z4o L n) = .ret (outW L n) := by
 have hk : (Zr L != 0) = !(Zr L == 0) := rfl
 unfold z4o outW Zc Xt y7i
 simp only [Zb, z2c, cond_true, hk]
 rcases Yg (Zr L == 0) with a | a
 ·rcases Yg (decide (n < 1)) with b | b
  ·refine ⟨0, ?_⟩
   rw [a, b]; rfl
  ·rcases Yg (decide (n > 1000)) with c | c
   ·refine ⟨0, ?_⟩
    rw [a, b, c]; rfl
   ·have hb := of_decide_eq_false b
    obtain ⟨N, hN⟩ := x8x (L := L) (n := n) (z0n (eq_of_beq a)).1 (by omega) L.length 0 [] (Nat.zero_add _) rfl
    refine ⟨N, ?_⟩
    rw [a, b, c]
    simp only [Bool.not_true, Bool.not_false, Bool.true_and, Bool.or_false, cond_true, cond_false]
    rw [z0y] at hN
    rw [hN, List.drop_zero]
    unfold outR
    cases L.all (oOk n) <;> rfl
 ·refine ⟨0, ?_⟩
  rw [a]; rfl
def Uo (L : List R6) (n : Int) : Bool := true
def fOut : List AVal → Option (AVal × Bool)
 | [a0, .int .i64 x1] => match asL R6 a0 with
  | some (L0, g0, n0) => some (.tup [.dat (Zc L0 x1).length (Zz (Zc L0 x1)), .int .i64 (Xt L0 x1)], isT R6 n0 g0 && Uo L0 x1)
  | _ => none
 | _ => none
theorem v4g {S : Specs} (hS : Zu prog S) : Zu prog (S.with x9o fOut) := by
 refine w9v hS (by kernel_rfl) fun args v h => ?_
 unfold fOut at h
 split at h
 ·rename_i a0 x1
  split at h
  ·rename_i L0 g0 n0 e0
   simp only [Option.some.injEq, Prod.mk.injEq, Bool.and_eq_true] at h
   obtain ⟨rfl, ho0, hw⟩ := h
   obtain ⟨N, hN⟩ := w3r L0 x1
   refine ⟨_, outW L0 x1, (.cons (Yh e0 ho0) (.cons (.refl _) .nil)), ?_, x8y L0 x1 N _ hN, 3, ?_⟩
   ·unfold outW
    rcases Yg (y7i L0 x1) with q | q
    ·rw [q]; exact fun ρ u hu => hu
    ·rw [q]
     unfold Zc
     rw [q]
     exact fun ρ u hu => z3y (.cons (z0u R6) (RLe.refl _)) ρ u hu
   ·unfold outW
    cases y7i L0 x1 <;> rfl
  ·cases h
 ·cases h
def crS (lo hi : R6 → Int) (L : List R6) (x x' : Int) : List R6 := L.filter fun r => decide (lo r < x') && decide (x < hi r)
theorem z6d (lo hi : R6 → Int) (L M : List R6) (x x' : Int) : crS lo hi (L ++ M) x x' = crS lo hi L x x' ++ crS lo hi M x x' := by simp [crS]
theorem Kb (lo hi : R6 → Int) (L : List R6) (x x' : Int) : (crS lo hi L x x').length ≤ L.length := List.length_filter_le _ L
theorem v5l {lo hi : R6 → Int} {r : R6} {x x' : Int} (h1 : lo r < x') (h2 : x < hi r) : crS lo hi [r] x x' = [r] := by simp [crS, h1, h2]
theorem w0x {lo hi : R6 → Int} {r : R6} {x x' : Int} (h1 : ¬ lo r < x') : crS lo hi [r] x x' = [] := by simp [crS, h1]
theorem w0w {lo hi : R6 → Int} {r : R6} {x x' : Int} (h2 : ¬ x < hi r) : crS lo hi [r] x x' = [] := by simp [crS, h2]
def rnE (lo hi : R6 → Int) (n : Int) (L : List R6) : List Int := L.flatMap fun r => [Ye (lo r) n, upV (lo r) n, Ye (hi r) n, upV (hi r) n]
theorem z5q (lo hi : R6 → Int) (n : Int) (L M : List R6) : rnE lo hi n (L ++ M) = rnE lo hi n L ++ rnE lo hi n M := by simp [rnE]
theorem Wk (lo hi : R6 → Int) (n : Int) : ∀ (L : List R6), (rnE lo hi n L).length = 4 * L.length
 | [] => rfl
 | r :: L => by
  show (_ :: _ :: _ :: _ :: rnE lo hi n L).length = _
  simp only [List.length_cons, Wk lo hi n L]; omega
def rnC (lo hi : R6 → Int) (n : Int) (L : List R6) : List Int := z5g (rnE lo hi n L)
theorem Vd (lo hi : R6 → Int) (n : Int) (L : List R6) : (rnC lo hi n L).length ≤ 4 * L.length := by
 have := z5f (rnE lo hi n L)
 rw [Wk] at this
 exact this
theorem v0c {L : List R6} {a b e f n : Int} (hl : L.length ≤ 400) {i : Nat} (hi : i + 1 < (rnC R6.b R6.e n L).length) (out : List R2) : ∀ (k j : Nat) (acc : List R6), j + k = L.length → acc.length ≤ j →
  ∃ N, ∀ M, Yv (Vm L a b e f n) (M + N) (.to (.h2 ((i + 1 : Nat) : Int) acc (j : Int) out (rnC R6.b R6.e n L).length (Xv (Yo (rnE R6.b R6.e n L))))) = Yv (Vm L a b e f n) M (.to (.h2 ((i + 1 : Nat) : Int) (acc ++ crS R6.b R6.e (L.drop j) (rd (rnC R6.b R6.e n L) i) (rd (rnC R6.b R6.e n L) (i + 1))) (L.length : Int) out (rnC R6.b R6.e n L).length (Xv (Yo (rnE R6.b R6.e n L)))))
 | 0, j, acc, h, ha => by
  refine ⟨0, fun M => ?_⟩
  rw [List.drop_eq_nil_of_le (by omega), show crS R6.b R6.e ([] : List R6) (rd (rnC R6.b R6.e n L) i) (rd (rnC R6.b R6.e n L) (i + 1)) = [] from rfl, List.append_nil, Nat.add_zero, show j = L.length by omega]
 | k + 1, j, acc, h, ha => by
  have hj : j < L.length := by omega
  have hc := Vd R6.b R6.e n L
  have hpl : (Xv (Yo (rnE R6.b R6.e n L))).length = 4 * L.length := by rw [Wr, Wb, Wk]
  have r0 : rd (Xv (Yo (rnE R6.b R6.e n L))) i = rd (rnC R6.b R6.e n L) i := Jv _ _ (by show i < (rnC R6.b R6.e n L).length; omega)
  have r1 : rd (Xv (Yo (rnE R6.b R6.e n L))) (i + 1) = rd (rnC R6.b R6.e n L) (i + 1) := Jv _ _ (by show i + 1 < (rnC R6.b R6.e n L).length; omega)
  have e1 : IntKind.wrap .i64 (((i + 1 : Nat) : Int) - 1) = (i : Int) := by rw [Zd]; exact Zq (by omega)
  have hw : IntKind.wrap .i64 ((j : Int) + 1) = ((j + 1 : Nat) : Int) := Zq (by omega)
  obtain ⟨N, hN⟩ := v0c hl hi out k (j + 1) (acc ++ crS R6.b R6.e [rd L j] (rd (rnC R6.b R6.e n L) i) (rd (rnC R6.b R6.e n L) (i + 1))) (by omega) (by have := Kb R6.b R6.e [rd L j] (rd (rnC R6.b R6.e n L) i) (rd (rnC R6.b R6.e n L) (i + 1)); simp only [List.length_append, List.length_singleton] at *; omega)
  refine ⟨N + 1, fun M => ?_⟩
  have e : crS R6.b R6.e (L.drop j) (rd (rnC R6.b R6.e n L) i) (rd (rnC R6.b R6.e n L) (i + 1)) = crS R6.b R6.e [rd L j] (rd (rnC R6.b R6.e n L) i) (rd (rnC R6.b R6.e n L) (i + 1)) ++ crS R6.b R6.e (L.drop (j + 1)) (rd (rnC R6.b R6.e n L) i) (rd (rnC R6.b R6.e n L) (i + 1)) := by
   rw [Yf hj, ← z6d]; rfl
  rw [e, ← Nat.add_assoc, Zv, ← List.append_assoc, ← hN M]
  by_cases h1 : (rd L j).b < rd (rnC R6.b R6.e n L) (i + 1)
  ·by_cases h2 : rd (rnC R6.b R6.e n L) i < (rd L j).e
   ·rw [v5l h1 h2]
    simp (disch := omega) only [Vm, e1, r0, r1, hw, Zb, Zk, Zs, Zt, Yx, Yq, Yp, Zh, Zq, Zx, Ya, Zj, Nat.zero_add, decide_true, Bool.and_true, Bool.true_and, cond_true, cond_false]
   ·rw [w0w h2, List.append_nil]
    simp (disch := omega) only [Vm, Yz, e1, r0, r1, hw, Zb, Zk, Zs, Zt, Yx, Yq, Yp, Zh, Zq, Zx, Ya, Zj, Nat.zero_add, decide_true, Bool.and_true, Bool.true_and, cond_true, cond_false]
  ·rw [w0x h1, List.append_nil]
   simp (disch := omega) only [Vm, Yz, e1, r0, r1, hw, Zb, Zk, Zs, Zt, Yx, Yq, Yp, Zh, Zq, Zx, Ya, Zj, Nat.zero_add, decide_true, Bool.and_true, Bool.true_and, cond_true, cond_false]
theorem v0e {L : List R6} {a b e f n : Int} (hl : L.length ≤ 400) (hn : n ≠ 0) {R : List AVal} (hR : ∃ N, Yv (Vm L a b e f n) N (.to (.h1 1 [] (rnC R6.b R6.e n L).length (Xv (Yo (rnE R6.b R6.e n L))))) = .ret R) : ∀ (k i : Nat) (acc : List Int), i + k = L.length → acc = rnE R6.b R6.e n (L.take i) → ∃ N, Yv (Vm L a b e f n) N (.to (.h0 (i : Int) acc)) = .ret R
 | 0, i, acc, h, ha => by
  have e : acc = (rnE R6.b R6.e n L) := by rw [ha, List.take_of_length_le (by omega)]
  subst e
  have hle := Wk R6.b R6.e n L
  obtain ⟨N, hN⟩ := hR
  refine ⟨N + 1, ?_⟩
  rw [Zv]
  simp (disch := omega) only [Vm, Uu, Kg, z6e, Yz, Yq, Yp, decide_true, cond_true, cond_false]
  exact hN
 | k + 1, i, acc, h, ha => by
  have hle := Wk R6.b R6.e n (L.take i)
  have fK : acc.length ≤ 4 * i := by rw [ha, hle]; simp; omega
  obtain ⟨N, hN⟩ := v0e hl hn hR k (i + 1) (acc ++ rnE R6.b R6.e n [rd L i]) (by omega) (by
   rw [ha, List.take_add_one]
   have : L[i]? = some (rd L i) := by rw [Ww (show i < L.length by omega)]; exact List.getElem?_eq_getElem _
   rw [this, z5q]; rfl)
  refine ⟨N + 1, ?_⟩
  rw [Zv]
  simp (disch := omega) only [Vm, w5s hn, Zb, Zk, Zs, Zt, Yx, Yq, Yp, Zh, Zq, Zx, Ya, Zj, Nat.zero_add, decide_true, Bool.and_true, Bool.true_and, cond_true, cond_false]
  exact hN
def v5q (out : List R2) (x x' : Int) : List R2 := bif decide (0 < out.length) && ((rd out (out.length - 1)).b == x) then out.set (out.length - 1) ⟨(rd out (out.length - 1)).a, x'⟩ else out ++ [⟨x, x'⟩]
def v5o (L : List R6) (a b e f : Int) (cs : List Int) : Nat → Nat → List R2 → List R2
 | 0, _, o => o
 | k + 1, i, o => v5o L a b e f cs k (i + 1) (bif w1u (crS R6.b R6.e L (rd cs i) (rd cs (i + 1))) a b (rd cs i) (rd cs (i + 1)) e f then v5q o (rd cs i) (rd cs (i + 1)) else o)
def Qi (L : List R6) (a b e f n : Int) : List R2 := v5o L a b e f (rnC R6.b R6.e n L) ((rnC R6.b R6.e n L).length - 1) 0 []
def z0h (L : List R6) (a b e f n : Int) : Bool := decide (L.length ≤ 400) && !decide (n = 0)
theorem y0l (out : List R2) (x x' : Int) : (v5q out x x').length ≤ out.length + 1 := by
 unfold v5q
 cases (decide (0 < out.length) && ((rd out (out.length - 1)).b == x)) <;> simp
theorem v0d {L : List R6} {a b e f n : Int} (hl : L.length ≤ 400) : ∀ (k i : Nat) (out : List R2), k = (rnC R6.b R6.e n L).length - 1 - i → i ≤ (rnC R6.b R6.e n L).length → out.length ≤ i → ∃ N, Yv (Vm L a b e f n) N (.to (.h1 ((i + 1 : Nat) : Int) out (rnC R6.b R6.e n L).length (Xv (Yo (rnE R6.b R6.e n L))))) = .ret [.dat (v5o L a b e f (rnC R6.b R6.e n L) k i out).length (Zz (v5o L a b e f (rnC R6.b R6.e n L) k i out))]
 | 0, i, out, h, hi, ho => by
  have hc := Vd R6.b R6.e n L
  refine ⟨1, ?_⟩
  rw [Zv]
  simp (disch := omega) only [Vm, Yz, cond_false, Zm]
  rfl
 | k + 1, i, out, h, hi, ho => by
  have hc := Vd R6.b R6.e n L
  have hi1 : i + 1 < (rnC R6.b R6.e n L).length := by omega
  have hpl : (Xv (Yo (rnE R6.b R6.e n L))).length = 4 * L.length := by rw [Wr, Wb, Wk]
  have r0 : rd (Xv (Yo (rnE R6.b R6.e n L))) i = rd (rnC R6.b R6.e n L) i := Jv _ _ (by show i < (rnC R6.b R6.e n L).length; omega)
  have r1 : rd (Xv (Yo (rnE R6.b R6.e n L))) (i + 1) = rd (rnC R6.b R6.e n L) (i + 1) := Jv _ _ (by show i + 1 < (rnC R6.b R6.e n L).length; omega)
  have e1 : IntKind.wrap .i64 (((i + 1 : Nat) : Int) - 1) = (i : Int) := by rw [Zd]; exact Zq (by omega)
  have hw : IntKind.wrap .i64 (((i + 1 : Nat) : Int) + 1) = ((i + 1 + 1 : Nat) : Int) := Zq (by omega)
  obtain ⟨N2, h2⟩ := v0c (a := a) (b := b) (e := e) (f := f) (n := n) hl hi1 out L.length 0 [] (Nat.zero_add _) (Nat.le_refl _)
  rw [List.drop_zero, List.nil_append, z0y] at h2
  have hin := Kb R6.b R6.e L (rd (rnC R6.b R6.e n L) i) (rd (rnC R6.b R6.e n L) (i + 1))
  have ew : ∀ (v : List R6), lst R6 v.length (fun k => (Zz v) (0 + k)) = v := x4s
  have fo : z4v (crS R6.b R6.e L (rd (rnC R6.b R6.e n L) i) (rd (rnC R6.b R6.e n L) (i + 1))) a b (rd (rnC R6.b R6.e n L) i) (rd (rnC R6.b R6.e n L) (i + 1)) e f = true := decide_eq_true (by omega)
  have st0 : ∀ M, Yv (Vm L a b e f n) (M + N2 + 1) (.to (.h1 ((i + 1 : Nat) : Int) out (rnC R6.b R6.e n L).length (Xv (Yo (rnE R6.b R6.e n L))))) = Yv (Vm L a b e f n) M (.to (.h2 ((i + 1 : Nat) : Int) (crS R6.b R6.e L (rd (rnC R6.b R6.e n L) i) (rd (rnC R6.b R6.e n L) (i + 1))) (L.length : Int) out (rnC R6.b R6.e n L).length (Xv (Yo (rnE R6.b R6.e n L))))) := fun M => by
   rw [← h2 M, Zv]
   simp (disch := omega) only [Vm, Zs, cond_true]
  have st1 : Vm L a b e f n (.h2 ((i + 1 : Nat) : Int) (crS R6.b R6.e L (rd (rnC R6.b R6.e n L) i) (rd (rnC R6.b R6.e n L) (i + 1))) (L.length : Int) out (rnC R6.b R6.e n L).length (Xv (Yo (rnE R6.b R6.e n L)))) = .to (.h1 ((i + 1 + 1 : Nat) : Int) (bif w1u (crS R6.b R6.e L (rd (rnC R6.b R6.e n L) i) (rd (rnC R6.b R6.e n L) (i + 1))) a b (rd (rnC R6.b R6.e n L) i) (rd (rnC R6.b R6.e n L) (i + 1)) e f then v5q out (rd (rnC R6.b R6.e n L) i) (rd (rnC R6.b R6.e n L) (i + 1)) else out) (rnC R6.b R6.e n L).length (Xv (Yo (rnE R6.b R6.e n L)))) := by
   simp (disch := omega) only [Vm, Yz, e1, r0, r1, hw, ew, fo, Xp, Yx, Zb, Zk, Zs, Zt, Yx, Yq, Yp, Zh, Zq, Zx, Ya, Zj, Nat.zero_add, decide_true, Bool.and_true, Bool.true_and, cond_true, cond_false]
   rcases Yg (w1u (crS R6.b R6.e L (rd (rnC R6.b R6.e n L) i) (rd (rnC R6.b R6.e n L) (i + 1))) a b (rd (rnC R6.b R6.e n L) i) (rd (rnC R6.b R6.e n L) (i + 1)) e f) with q | q
   ·rw [q]
    unfold v5q
    by_cases h0 : 0 < out.length
    ·have e2 : IntKind.wrap .i64 ((out.length : Int) - 1) = ((out.length - 1 : Nat) : Int) := by rw [Zq (by omega)]; omega
     have e3 : Int.toNat ((out.length : Int) - 1) = out.length - 1 := by omega
     rcases Yg ((rd out (out.length - 1)).b == rd (rnC R6.b R6.e n L) i) with q2 | q2 <;>
      simp (disch := omega) only [Bool.not_true, Yr, e2, e3, q2, Zb, Zk, Zs, Zt, Yx, Yq, Yp, Zh, Zq, Zx, Ya, Zj, Nat.zero_add, decide_true, Bool.and_true, Bool.true_and, cond_true, cond_false]
    ·have h1 : out.length = 0 := by omega
     simp (disch := omega) only [Bool.not_true, Xk, decide_eq_false h0, Bool.false_and, Zb, Zk, Zs, Zt, Yx, Yq, Yp, Zh, Zq, Zx, Ya, Zj, Nat.zero_add, decide_true, Bool.and_true, Bool.true_and, cond_true, cond_false]
   ·rw [q]; rfl
  have dX : (bif w1u (crS R6.b R6.e L (rd (rnC R6.b R6.e n L) i) (rd (rnC R6.b R6.e n L) (i + 1))) a b (rd (rnC R6.b R6.e n L) i) (rd (rnC R6.b R6.e n L) (i + 1)) e f then v5q out (rd (rnC R6.b R6.e n L) i) (rd (rnC R6.b R6.e n L) (i + 1)) else out).length ≤ i + 1 := by
   have := y0l out (rd (rnC R6.b R6.e n L) i) (rd (rnC R6.b R6.e n L) (i + 1))
   cases w1u (crS R6.b R6.e L (rd (rnC R6.b R6.e n L) i) (rd (rnC R6.b R6.e n L) (i + 1))) a b (rd (rnC R6.b R6.e n L) i) (rd (rnC R6.b R6.e n L) (i + 1)) e f <;> simp only [cond_true, cond_false] <;> omega
  obtain ⟨N, hN⟩ := v0d (a := a) (b := b) (e := e) (f := f) (n := n) hl k (i + 1) _ (by omega) (by omega) dX
  refine ⟨N + 1 + N2 + 1, ?_⟩
  rw [st0, Zv, st1]
  exact hN
theorem v5m (L : List R6) (a b e f n : Int) (h : z0h L a b e f n = true) : ∃ N, Yv (Vm L a b e f n) N (y3x L a b e f n) = .ret [.dat (Qi L a b e f n).length (Zz (Qi L a b e f n))] := by
 simp only [z0h, Bool.and_eq_true, Bool.not_eq_true', decide_eq_true_eq, decide_eq_false_iff_not] at h
 exact v0e h.1 h.2 (v0d h.1 _ 0 [] (by omega) (Nat.zero_le _) (Nat.le_refl _)) L.length 0 [] (Nat.zero_add _) rfl
def fCol : List AVal → Option (AVal × Bool)
 | [a0, .agg [.int .i64 aW, .int .i64 aX], .agg [.int .i64 bW, .int .i64 bX], .int .i64 x3] => match asL R6 a0 with
  | some (L0, g0, n0) => some (.dat (Qi L0 aW aX bW bX x3).length (Zz (Qi L0 aW aX bW bX x3)), isT R6 n0 g0 && (z0h L0 aW aX bW bX x3))
  | _ => none
 | _ => none
theorem v4w {S : Specs} (hS : Zu prog S) : Zu prog (S.with x9r fCol) := by
 refine z1m hS (by kernel_rfl) fun args v h => ?_
 unfold fCol at h
 split at h
 ·rename_i a0 aW aX bW bX x3
  split at h
  ·rename_i L0 g0 n0 e0
   simp only [Option.some.injEq, Prod.mk.injEq, Bool.and_eq_true] at h
   obtain ⟨rfl, ho0, hw⟩ := h
   obtain ⟨N, hN⟩ := v5m L0 aW aX bW bX x3 hw
   exact ⟨_, _, (.cons (Yh e0 ho0) (.cons (.refl _) (.cons (.refl _) (.cons (.refl _) .nil)))), rfl, w6m L0 aW aX bW bX x3 N _ hN, 3, rfl⟩
  ·cases h
 ·cases h
def Df : Specs := ((De.with x9o fOut).with x9r fCol)
theorem z1o : Zu prog Df := (v4w (v4g Qy))
end Go.Am
namespace Go.Am
open Go.Proofs.Tryz
open Go.Proofs
inductive layS where
 | h0 (v14 : Int) (aA : List Int)
 | h1 (v5 : Int) (aB : List R4) (aC : List R2) (bF : Int) (aE : Int) (bE : Nat) (aQ : List Int)
 | h2 (v5 : Int) (v6 : List R6) (v19 : Int) (aB : List R4) (aC : List R2) (bF : Int) (aE : Int) (bE : Nat) (aQ : List Int)
 | h3 (v61 : List R2) (v62 : Int) (v63 : Int) (bV : Int) (aL : Int) (aI : Int) (bO : List R6) (aB : List R4) (bF : Int) (aT : Nat) (aN : List Int)
 | h4 (v14 : Int) (bV : Int) (aL : Int) (aI : Int) (bO : List R6) (aB : List R4) (bF : List R2) (aE : Int) (aK : Int) (cB : Nat) (cC : List Int)
def layC (l0 : List R6) (aW : Int) (aX : Int) (x2 : Int) : layS → Cfg
 | .h0 v14 aA => ⟨⟨45, 0, true⟩, none, (Zg prog 80 [1, 1, 0, 1, 0, 0] 0), none, (Zy prog 4), ⟨Yj [(2, (ii x2)), (3, (.ptr 0 0)), (4, (.ptr 1 0)), (7, (.ptr 2 0)), (12, (.dat l0.length (Zz l0))), (13, (ii (l0.length : Int))), (14, (ii v14))], Vf [⟨[(.dat l0.length (Zz l0))], 22, none⟩, ⟨[(ii 0)], 3, none⟩, ⟨[(.sla 9 1 0 aA.length (.un 1))], 47, none⟩, ⟨[(ii aW), (ii aX)], 110, none⟩, ⟨[(ii x2)], 3, none⟩, ⟨[.nils], 106, none⟩, ⟨[.nils], 158, none⟩, ⟨[(ii 0)], 3, none⟩, ⟨[(ii 0)], 3, none⟩, ⟨rows aA.length (Zz aA), 3, some ⟨1, aA.length, (Zz aA)⟩⟩] 0, 10, [], true⟩, [⟨⟨81, 0, true⟩, (Vv prog 81 [1, 1, 1, 1, 0, 0] 2), (Zg prog 81 [1, 1, 1, 1, 0, 0] 1), none, (Zy prog 4), Yj [(4, (.ptr 3 0)), (5, (.ptr 4 0)), (6, .nils), (7, (.ptr 5 0)), (8, (.ptr 6 0)), (9, (.ptr 7 0)), (10, (.ptr 8 0)), (17, (.dat l0.length (Zz l0))), (18, (ii x2))]⟩], .leaf⟩
 | .h1 v5 aB aC bF aE bE aQ => ⟨⟨63, 0, true⟩, none, (Zg prog 121 [1, 0, 0] 0), none, [], ⟨Yj [(0, (.yld 0)), (1, (.ptr 7 0)), (2, (.ptr 9 0)), (3, (.ptr 10 0)), (5, (ii v5))], z4r [(1, ⟨[(ii aW), (ii aX)], 110, none⟩), (2, ⟨[(ii x2)], 3, none⟩), (3, ⟨[(.sla 11 4 0 aB.length (.un 4))], 106, none⟩), (4, ⟨[(.dat aC.length (Zz aC))], 158, none⟩), (5, ⟨[(ii bF)], 3, none⟩), (6, ⟨[(ii aE)], 3, none⟩), (7, ⟨[(.sla 8 1 0 bE (.un 1))], 47, none⟩), (8, ⟨rows aQ.length (Zz aQ), 3, some ⟨1, aQ.length, (Zz aQ)⟩⟩), (9, ⟨[(.dat l0.length (Zz l0))], 22, none⟩), (10, ⟨[(ii 0)], 3, none⟩), (11, ⟨rows aB.length (Zz aB), 114, some ⟨4, aB.length, (Zz aB)⟩⟩)], 12, [], true⟩, [⟨⟨81, 0, true⟩, none, (.inRangeFunc 0 :: (Zg prog 81 [1, 1, 1, 1, 0, 1, 0] 1)), none, (Zy prog 4), Yj [(6, .nils), (7, (.ptr 3 0))]⟩], (z4t [(0, ⟨.ready, none, 81, Yj [(4, (.ptr 1 0)), (5, (.ptr 2 0)), (7, (.ptr 3 0)), (8, (.ptr 4 0)), (9, (.ptr 5 0)), (10, (.ptr 6 0))], [20, 21], (Xn prog 81 [1, 1, 1, 1, 0, 1, 0, 0]), (Xn prog 81 [1, 1, 1, 1, 0, 1, 0, 1])⟩)])⟩
 | .h2 v5 v6 v19 aB aC bF aE bE aQ => ⟨⟨63, 0, true⟩, none, (Zg prog 121 [1, 0, 0, 1, 0, 0, 1, 0, 1, 0, 0] 0), none, [], ⟨Yj [(0, (.yld 0)), (1, (.ptr 7 0)), (2, (.ptr 9 0)), (3, (.ptr 10 0)), (5, (ii v5)), (6, (.sla 11 6 0 v6.length (.un 6))), (17, (.dat l0.length (Zz l0))), (18, (ii (l0.length : Int))), (19, (ii v19))], z4r [(1, ⟨[(ii aW), (ii aX)], 110, none⟩), (2, ⟨[(ii x2)], 3, none⟩), (3, ⟨[(.sla 12 4 0 aB.length (.un 4))], 106, none⟩), (4, ⟨[(.dat aC.length (Zz aC))], 158, none⟩), (5, ⟨[(ii bF)], 3, none⟩), (6, ⟨[(ii aE)], 3, none⟩), (7, ⟨[(.sla 8 1 0 bE (.un 1))], 47, none⟩), (8, ⟨rows aQ.length (Zz aQ), 3, some ⟨1, aQ.length, (Zz aQ)⟩⟩), (9, ⟨[(.dat l0.length (Zz l0))], 22, none⟩), (10, ⟨[(ii 0)], 3, none⟩), (11, ⟨rows v6.length (Zz v6), 68, some ⟨6, v6.length, (Zz v6)⟩⟩), (12, ⟨rows aB.length (Zz aB), 114, some ⟨4, aB.length, (Zz aB)⟩⟩)], 13, [], true⟩, [⟨⟨81, 0, true⟩, none, (.inRangeFunc 0 :: (Zg prog 81 [1, 1, 1, 1, 0, 1, 0] 1)), none, (Zy prog 4), Yj [(6, .nils), (7, (.ptr 3 0))]⟩], (z4t [(0, ⟨.ready, none, 81, Yj [(4, (.ptr 1 0)), (5, (.ptr 2 0)), (7, (.ptr 3 0)), (8, (.ptr 4 0)), (9, (.ptr 5 0)), (10, (.ptr 6 0))], [20, 21], (Xn prog 81 [1, 1, 1, 1, 0, 1, 0, 0]), (Xn prog 81 [1, 1, 1, 1, 0, 1, 0, 1])⟩)])⟩
 | .h3 v61 v62 v63 bV aL aI bO aB bF aT aN => ⟨⟨81, 0, true⟩, none, (Zg prog 81 [1, 1, 1, 1, 0, 1, 0, 1, 0, 1, 1, 1, 1, 0, 0] 0), (some 0), [], ⟨Yj [(7, (.ptr 3 0)), (11, (.ptr 7 0)), (61, (.dat v61.length (Zz v61))), (62, (ii v62)), (63, (ii v63))], z4r [(1, ⟨[(ii aW), (ii aX)], 110, none⟩), (2, ⟨[(ii x2)], 3, none⟩), (3, ⟨[(.sla 12 4 0 aB.length (.un 4))], 106, none⟩), (4, ⟨[(.dat v61.length (Zz v61))], 158, none⟩), (5, ⟨[(ii bF)], 3, none⟩), (6, ⟨[(ii aI)], 3, none⟩), (7, ⟨[(ii aL), (ii aI)], 110, none⟩), (8, ⟨[(.sla 9 1 0 aT (.un 1))], 47, none⟩), (9, ⟨rows aN.length (Zz aN), 3, some ⟨1, aN.length, (Zz aN)⟩⟩), (10, ⟨[(.dat l0.length (Zz l0))], 22, none⟩), (11, ⟨[(ii 0)], 3, none⟩), (12, ⟨rows aB.length (Zz aB), 114, some ⟨4, aB.length, (Zz aB)⟩⟩)], 13, [], true⟩, [⟨⟨63, 0, true⟩, (Vv prog 121 [1, 0, 0, 1, 0, 0, 1, 1, 0] 12), (Zg prog 121 [1, 0, 0, 1, 0, 0, 1, 1, 0] 1), none, [], Yj [(0, (.yld 0)), (1, (.ptr 8 0)), (2, (.ptr 10 0)), (3, (.ptr 11 0)), (5, (ii bV)), (49, (.yld 0)), (59, (.agg [(ii aL), (ii aI)])), (60, (.dat bO.length (Zz bO)))]⟩, ⟨⟨81, 0, true⟩, none, (.inRangeFunc 0 :: (Zg prog 81 [1, 1, 1, 1, 0, 1, 0] 1)), none, (Zy prog 4), Yj [(6, .nils), (7, (.ptr 3 0))]⟩], (z4t [(0, ⟨.busy, none, 81, Yj [(4, (.ptr 1 0)), (5, (.ptr 2 0)), (7, (.ptr 3 0)), (8, (.ptr 4 0)), (9, (.ptr 5 0)), (10, (.ptr 6 0))], [20, 21], (Xn prog 81 [1, 1, 1, 1, 0, 1, 0, 0]), (Xn prog 81 [1, 1, 1, 1, 0, 1, 0, 1])⟩)])⟩
 | .h4 v14 bV aL aI bO aB bF aE aK cB cC => ⟨⟨81, 0, true⟩, none, (Zg prog 81 [1, 1, 1, 1, 0, 1, 0, 1, 0, 1, 0, 1, 0, 0, 1, 0, 0] 0), (some 0), [], ⟨Yj [(7, (.ptr 3 0)), (10, (.ptr 7 0)), (11, (.ptr 8 0)), (14, (ii v14))], z4r [(1, ⟨[(ii aW), (ii aX)], 110, none⟩), (2, ⟨[(ii x2)], 3, none⟩), (3, ⟨[(.sla 4 4 0 aB.length (.un 4))], 106, none⟩), (4, ⟨rows aB.length (Zz aB), 114, some ⟨4, aB.length, (Zz aB)⟩⟩), (5, ⟨[(.dat bF.length (Zz bF))], 158, none⟩), (6, ⟨[(ii aE)], 3, none⟩), (7, ⟨[(ii aK)], 3, none⟩), (8, ⟨[(ii aL), (ii aI)], 110, none⟩), (9, ⟨[(.sla 10 1 0 cB (.un 1))], 47, none⟩), (10, ⟨rows cC.length (Zz cC), 3, some ⟨1, cC.length, (Zz cC)⟩⟩), (11, ⟨[(.dat l0.length (Zz l0))], 22, none⟩), (12, ⟨[(ii 0)], 3, none⟩)], 13, [], true⟩, [⟨⟨63, 0, true⟩, (Vv prog 121 [1, 0, 0, 1, 0, 0, 1, 1, 0] 12), (Zg prog 121 [1, 0, 0, 1, 0, 0, 1, 1, 0] 1), none, [], Yj [(0, (.yld 0)), (1, (.ptr 9 0)), (2, (.ptr 11 0)), (3, (.ptr 12 0)), (5, (ii bV)), (49, (.yld 0)), (59, (.agg [(ii aL), (ii aI)])), (60, (.dat bO.length (Zz bO)))]⟩, ⟨⟨81, 0, true⟩, none, (.inRangeFunc 0 :: (Zg prog 81 [1, 1, 1, 1, 0, 1, 0] 1)), none, (Zy prog 4), Yj [(6, .nils), (7, (.ptr 3 0))]⟩], (z4t [(0, ⟨.busy, none, 81, Yj [(4, (.ptr 1 0)), (5, (.ptr 2 0)), (7, (.ptr 3 0)), (8, (.ptr 5 0)), (9, (.ptr 6 0)), (10, (.ptr 7 0))], [20, 21], (Xn prog 81 [1, 1, 1, 1, 0, 1, 0, 0]), (Xn prog 81 [1, 1, 1, 1, 0, 1, 0, 1])⟩)])⟩
def layN0 : List (Option (List Nat)) := [some [2, 3, 4, 7, 12, 13, 14], some [4, 5, 6, 7, 8, 9, 10, 17, 18]]
def layM0 : List (Option (List Nat)) := []
def v3c : List (Option (List Nat)) := [some [0, 1, 2, 3, 5], some [6, 7]]
def v3d : List (Option (List Nat)) := [some [4, 5, 7, 8, 9, 10], none, none, none, none, none, none, none, none, none, none, none]
def w4m : List (Option (List Nat)) := [some [0, 1, 2, 3, 5, 6, 17, 18, 19], some [6, 7]]
def w4o : List (Option (List Nat)) := [some [4, 5, 7, 8, 9, 10], none, none, none, none, none, none, none, none, none, none, none, none]
def w4l : List (Option (List Nat)) := [some [7, 11, 61, 62, 63], some [0, 1, 2, 3, 5, 49, 59, 60], some [6, 7]]
def w4n : List (Option (List Nat)) := [some [4, 5, 7, 8, 9, 10], none, none, none, none, none, none, none, none, none, none, none, none]
def layN4 : List (Option (List Nat)) := [some [7, 10, 11, 14], some [0, 1, 2, 3, 5, 49, 59, 60], some [6, 7]]
def layM4 : List (Option (List Nat)) := [some [4, 5, 7, 8, 9, 10], none, none, none, none, none, none, none, none, none, none, none, none]
def Xc (l0 : List R6) (aW : Int) (aX : Int) (x2 : Int) : layS → Xd layS
 | .h0 v14 aA => (bif (decide (v14 < (l0.length : Int))) then (bif ((decide (0 ≤ v14 ∧ v14 < (l0.length : Int))) && true) then (bif (Xj (rd l0 v14.toNat).a x2) then (bif (Xj (IntKind.wrap .i64 (0 - (rd l0 v14.toNat).a)) x2) then (bif (Xj (rd l0 v14.toNat).d x2) then (bif (Xj (IntKind.wrap .i64 (0 - (rd l0 v14.toNat).d)) x2) then (bif (Nat.beq 1 1 && ((decide (0 + aA.length = aA.length)) && decide ((aA.length + 4 + 1) * (8 + 1) ≤ Jb))) then (.to (.h0 (IntKind.wrap .i64 (v14 + 1)) (aA ++ [(Ye (rd l0 v14.toNat).a x2), (IntKind.wrap .i64 (0 - (Ye (IntKind.wrap .i64 (0 - (rd l0 v14.toNat).a)) x2))), (Ye (rd l0 v14.toNat).d x2), (IntKind.wrap .i64 (0 - (Ye (IntKind.wrap .i64 (0 - (rd l0 v14.toNat).d)) x2)))]))) else .stuck) else .stuck) else .stuck) else .stuck) else .stuck) else .stuck) else (bif (decide (aA.length < 4611686018427387904)) then (bif (decide (aA.length = aA.length)) then (.to (.h1 1 ([] : List R4) ([] : List R2) 0 0 (w6q (Za aA.length (cOf (Zz (Yo (Za aA.length (cOf (Zz aA)))))))) (Xv (Za aA.length (cOf (Zz (Yo (Za aA.length (cOf (Zz aA)))))))))) else .stuck) else .stuck))
 | .h1 v5 aB aC bF aE bE aQ => (bif (decide (v5 < ((bE : Nat) : Int))) then (.to (.h2 v5 ([] : List R6) 0 aB aC bF aE bE aQ)) else (.ret [(.dat aB.length (Zz aB))]))
 | .h2 v5 v6 v19 aB aC bF aE bE aQ => (bif (decide (v19 < (l0.length : Int))) then (bif ((decide (0 ≤ v19 ∧ v19 < (l0.length : Int))) && true) then (bif ((decide (0 ≤ v5 ∧ v5 < ((bE : Nat) : Int))) && true) then (bif (decide ((0 + v5.toNat) < aQ.length)) then (bif (decide ((rd l0 v19.toNat).a < (rd aQ (0 + v5.toNat)))) then (bif ((decide (0 ≤ (IntKind.wrap .i64 (v5 - 1)) ∧ (IntKind.wrap .i64 (v5 - 1)) < ((bE : Nat) : Int))) && true) then (bif (decide ((0 + (Int.toNat (IntKind.wrap .i64 (v5 - 1)))) < aQ.length)) then (bif (decide ((rd aQ (0 + (Int.toNat (IntKind.wrap .i64 (v5 - 1))))) < (rd l0 v19.toNat).d)) then (bif (Nat.beq 6 6 && ((decide (0 + v6.length = v6.length)) && decide ((v6.length + 1 + 1) * (48 + 1) ≤ Jb))) then (.to (.h2 v5 (v6 ++ [(R6.mk (rd l0 v19.toNat).a (rd l0 v19.toNat).b (rd l0 v19.toNat).c (rd l0 v19.toNat).d (rd l0 v19.toNat).e (rd l0 v19.toNat).f)]) (IntKind.wrap .i64 (v19 + 1)) aB aC bF aE bE aQ)) else .stuck) else (.to (.h2 v5 v6 (IntKind.wrap .i64 (v19 + 1)) aB aC bF aE bE aQ))) else .stuck) else .stuck) else (.to (.h2 v5 v6 (IntKind.wrap .i64 (v19 + 1)) aB aC bF aE bE aQ))) else .stuck) else .stuck) else .stuck) else (bif ((decide (0 ≤ (IntKind.wrap .i64 (v5 - 1)) ∧ (IntKind.wrap .i64 (v5 - 1)) < ((bE : Nat) : Int))) && true) then (bif (decide ((0 + (Int.toNat (IntKind.wrap .i64 (v5 - 1)))) < aQ.length)) then (bif ((decide (0 ≤ v5 ∧ v5 < ((bE : Nat) : Int))) && true) then (bif (decide ((0 + v5.toNat) < aQ.length)) then (bif (z0h (cvT v6) (rd aQ (0 + (Int.toNat (IntKind.wrap .i64 (v5 - 1))))) (rd aQ (0 + v5.toNat)) aW aX x2) then (bif (decide ((((Qi (cvT v6) (rd aQ (0 + (Int.toNat (IntKind.wrap .i64 (v5 - 1))))) (rd aQ (0 + v5.toNat)) aW aX x2).length : Nat) : Int) > 0)) then (bif (aE == (rd aQ (0 + (Int.toNat (IntKind.wrap .i64 (v5 - 1)))))) then (bif (Vq (cvT aC) (cvT (Qi (cvT v6) (rd aQ (0 + (Int.toNat (IntKind.wrap .i64 (v5 - 1))))) (rd aQ (0 + v5.toNat)) aW aX x2))) then (bif (Jf (cvT aC) (cvT (Qi (cvT v6) (rd aQ (0 + (Int.toNat (IntKind.wrap .i64 (v5 - 1))))) (rd aQ (0 + v5.toNat)) aW aX x2))) then (.to (.h4 bF v5 (rd aQ (0 + (Int.toNat (IntKind.wrap .i64 (v5 - 1))))) (rd aQ (0 + v5.toNat)) v6 aB aC bF aE bE aQ)) else (.to (.h3 (Qi (cvT v6) (rd aQ (0 + (Int.toNat (IntKind.wrap .i64 (v5 - 1))))) (rd aQ (0 + v5.toNat)) aW aX x2) (((Qi (cvT v6) (rd aQ (0 + (Int.toNat (IntKind.wrap .i64 (v5 - 1))))) (rd aQ (0 + v5.toNat)) aW aX x2).length : Nat) : Int) 0 v5 (rd aQ (0 + (Int.toNat (IntKind.wrap .i64 (v5 - 1))))) (rd aQ (0 + v5.toNat)) v6 aB (aB.length : Int) bE aQ))) else .stuck) else (.to (.h3 (Qi (cvT v6) (rd aQ (0 + (Int.toNat (IntKind.wrap .i64 (v5 - 1))))) (rd aQ (0 + v5.toNat)) aW aX x2) (((Qi (cvT v6) (rd aQ (0 + (Int.toNat (IntKind.wrap .i64 (v5 - 1))))) (rd aQ (0 + v5.toNat)) aW aX x2).length : Nat) : Int) 0 v5 (rd aQ (0 + (Int.toNat (IntKind.wrap .i64 (v5 - 1))))) (rd aQ (0 + v5.toNat)) v6 aB (aB.length : Int) bE aQ))) else (.to (.h3 (Qi (cvT v6) (rd aQ (0 + (Int.toNat (IntKind.wrap .i64 (v5 - 1))))) (rd aQ (0 + v5.toNat)) aW aX x2) (((Qi (cvT v6) (rd aQ (0 + (Int.toNat (IntKind.wrap .i64 (v5 - 1))))) (rd aQ (0 + v5.toNat)) aW aX x2).length : Nat) : Int) 0 v5 (rd aQ (0 + (Int.toNat (IntKind.wrap .i64 (v5 - 1))))) (rd aQ (0 + v5.toNat)) v6 aB (aB.length : Int) bE aQ))) else .stuck) else .stuck) else .stuck) else .stuck) else .stuck))
 | .h3 v61 v62 v63 bV aL aI bO aB bF aT aN => (bif (decide (v63 < v62)) then (bif ((decide (0 ≤ v63 ∧ v63 < (v61.length : Int))) && true) then (bif (Nat.beq 4 4 && ((decide (0 + aB.length = aB.length)) && decide ((aB.length + 1 + 1) * (32 + 1) ≤ Jb))) then (.to (.h3 v61 v62 (IntKind.wrap .i64 (v63 + 1)) bV aL aI bO (aB ++ [(R4.mk aL (rd v61 v63.toNat).a aI (rd v61 v63.toNat).b)]) bF aT aN)) else .stuck) else .stuck) else (.to (.h1 (IntKind.wrap .i64 (bV + 1)) aB v61 bF aI aT aN)))
 | .h4 v14 bV aL aI bO aB bF aE aK cB cC => (bif (decide (v14 < (aB.length : Int))) then (bif ((decide (0 ≤ v14 ∧ v14 < (aB.length : Int))) && true) then (bif (decide ((0 + v14.toNat) < aB.length)) then (.to (.h4 (IntKind.wrap .i64 (v14 + 1)) bV aL aI bO (aB.set (0 + v14.toNat) (R4.mk (rd aB (0 + v14.toNat)).a (rd aB (0 + v14.toNat)).b aI (rd aB (0 + v14.toNat)).d)) bF aE aK cB cC)) else .stuck) else .stuck) else (.to (.h1 (IntKind.wrap .i64 (bV + 1)) aB bF aE aI cB cC)))
def y3n (l0 : List R6) (aW : Int) (aX : Int) (x2 : Int) : Xd layS := (.to (.h0 0 ([] : List Int)))
theorem x4z (l0 : List R6) (aW : Int) (aX : Int) (x2 : Int) : ∀ s, Wj prog (Zy prog 81) (layC l0 aW aX x2) (layC l0 aW aX x2 s) (Xc l0 aW aX x2 s)
 | .h0 v14 aA => (lb (fun k0 => (lo fun o0 => (lo fun o1 => (lo fun o2 => (lo fun o3 => (lo fun o4 => (lo fun o5 => (sl z1o 45 [] ⟨[0, 1, 2, 3, 4, 5, 6, 7, 8, 15], [], layN0, layM0⟩ ⟨[], [.keep, .keep, .cells [.len (aA ++ [(Ye (rd l0 (tn v14)).a x2), (wr (0 - (Ye (wr (0 - (rd l0 (tn v14)).a)) x2))), (Ye (rd l0 (tn v14)).d x2), (wr (0 - (Ye (wr (0 - (rd l0 (tn v14)).d)) x2)))]).length], .keep, .keep, .keep, .keep, .keep, .keep, .rowed 1 (aA ++ [(Ye (rd l0 (tn v14)).a x2), (wr (0 - (Ye (wr (0 - (rd l0 (tn v14)).a)) x2))), (Ye (rd l0 (tn v14)).d x2), (wr (0 - (Ye (wr (0 - (rd l0 (tn v14)).d)) x2)))]).length (Zz (aA ++ [(Ye (rd l0 (tn v14)).a x2), (wr (0 - (Ye (wr (0 - (rd l0 (tn v14)).a)) x2))), (Ye (rd l0 (tn v14)).d x2), (wr (0 - (Ye (wr (0 - (rd l0 (tn v14)).d)) x2)))]))], []⟩ [true, false, false] (pp (xL (aA.length + 4) (aA ++ [(Ye (rd l0 (tn v14)).a x2), (wr (0 - (Ye (wr (0 - (rd l0 (tn v14)).a)) x2))), (Ye (rd l0 (tn v14)).d x2), (wr (0 - (Ye (wr (0 - (rd l0 (tn v14)).d)) x2)))]).length) (pp (xL (aA.length + 4) (aA ++ [(Ye (rd l0 (tn v14)).a x2), (wr (0 - (Ye (wr (0 - (rd l0 (tn v14)).a)) x2))), (Ye (rd l0 (tn v14)).d x2), (wr (0 - (Ye (wr (0 - (rd l0 (tn v14)).d)) x2)))]).length) (pp (xS (aA.length + 4) (Ze (Zz aA) 0 aA.length 1 [(ii (Ye (rd l0 (tn v14)).a x2)), (ii (wr (0 - (Ye (wr (0 - (rd l0 (tn v14)).a)) x2)))), (ii (Ye (rd l0 (tn v14)).d x2)), (ii (wr (0 - (Ye (wr (0 - (rd l0 (tn v14)).d)) x2))))]) (Zz (aA ++ [(Ye (rd l0 (tn v14)).a x2), (wr (0 - (Ye (wr (0 - (rd l0 (tn v14)).a)) x2))), (Ye (rd l0 (tn v14)).d x2), (wr (0 - (Ye (wr (0 - (rd l0 (tn v14)).d)) x2)))]))) (pp (pp (xF (Ze (Zz aA) 0 aA.length 1 [(ii (Ye (rd l0 (tn v14)).a x2)), (ii (wr (0 - (Ye (wr (0 - (rd l0 (tn v14)).a)) x2)))), (ii (Ye (rd l0 (tn v14)).d x2)), (ii (wr (0 - (Ye (wr (0 - (rd l0 (tn v14)).d)) x2))))])) nn) (ww o5 (ww o4 (ww o3 (ww o2 (ww o1 (ww o0 (tt k0 nn))))))))))))))))))) (fun k0 => (lo fun o0 => (lo fun o1 => (sl z1o 33 [(114, 4, Zz ([] : List R4))] ⟨[10, 3, 4, 5, 6, 7, 8, 2, 9, 0, 1, 11], [], v3c, v3d⟩ ⟨[], (kpB 3 [.cells [.grow 11 4], .cells [.list 0 (Zz ([] : List R2))], .keep, .keep, .keep, .rowed 1 (Xv (Za aA.length (cOf (Zz (Yo (Za aA.length (cOf (Zz aA)))))))).length (Zz (Xv (Za aA.length (cOf (Zz (Yo (Za aA.length (cOf (Zz aA))))))))), .keep, .keep, .keep]), []⟩ [false] (pp (xL aA.length (Xv (Za aA.length (cOf (Zz (Yo (Za aA.length (cOf (Zz aA)))))))).length (by first | exact z0b _ _ | exact Uv rfl)) (pp (xS aA.length (Zz (Xv (Za aA.length (cOf (Zz (Yo (Za aA.length (cOf (Zz aA))))))))) (Zz (Xv (Za aA.length (cOf (Zz (Yo (Za aA.length (cOf (Zz aA)))))))))) (pp (fl (Xv (Za aA.length (cOf (Zz (Yo (Za aA.length (cOf (Zz aA)))))))) (fl ([] : List R4) nn)) (pp (pp (xG (Nat.beq 1 1)) (pp (xG (Nat.beq 1 1)) (pp (xG (Nat.beq 0 0)) (pp (xG (decide (aA.length = aA.length))) (pp (xG (isI (Zz (Yo (Za aA.length (cOf (Zz aA))))))) (xG (decide (aA.length < 4611686018427387904)))))))) (pp (pp (xG (Nat.beq 1 1)) (pp (xG (Nat.beq 1 1)) (pp (xG (Nat.beq 0 0)) (pp (xG (decide (aA.length = aA.length))) (pp (xG (isI (Zz aA))) (xG (decide (aA.length < 4611686018427387904)))))))) (tt k0 nn)))))))))))
 | .h1 v5 aB aC bF aE bE aQ => (lb (fun k0 => (sl z1o 25 [(68, 6, Zz ([] : List R6))] ⟨[0, 1, 2, 3, 4, 5, 6, 7, 8, 9, 10, 12, 11], [], w4m, w4o⟩ ⟨[(6, .grow 11 6)], [], []⟩ [true] (pp (fl aQ (fl ([] : List R6) (fl aB nn))) (tt k0 nn)))) (fun k0 => (lr 81 3 [1, 1, 1, 1, 1, 1, 0] 1 4 [(6, (.dat aB.length (Zz aB)))] (sl z1o 18 [] ⟨[], [11], [some [6]], []⟩ ⟨[(6, .frz aB.length aB.length (Zz aB) (Zz aB))], [], []⟩ [false] (pp (xZ (z4w 4 4 0 aB.length aB.length (Zz aB)) aB.length (Zz aB)) (pp (xL aB.length aB.length) (pp (xS aB.length (Zz aB) (Zz aB)) (pp (fl aB nn) (tt k0 nn)))))))))
 | .h2 v5 v6 v19 aB aC bF aE bE aQ => (lb (fun k0 => (lo fun aH => (lo fun bG => (lo fun cF => (lb (fun k1 => (lo fun cL => (lo fun dK => (lb (fun k2 => (lo fun o0 => (sl z1o 70 [] ⟨[0, 1, 2, 3, 4, 5, 6, 7, 8, 9, 10, 18, 12], [], w4m, w4o⟩ ⟨[(6, .len (v6 ++ [(R6.mk (rd l0 (tn v19)).a (rd l0 (tn v19)).b (rd l0 (tn v19)).c (rd l0 (tn v19)).d (rd l0 (tn v19)).e (rd l0 (tn v19)).f)]).length)], (kpB 11 [.rowed 6 (v6 ++ [(R6.mk (rd l0 (tn v19)).a (rd l0 (tn v19)).b (rd l0 (tn v19)).c (rd l0 (tn v19)).d (rd l0 (tn v19)).e (rd l0 (tn v19)).f)]).length (Zz (v6 ++ [(R6.mk (rd l0 (tn v19)).a (rd l0 (tn v19)).b (rd l0 (tn v19)).c (rd l0 (tn v19)).d (rd l0 (tn v19)).e (rd l0 (tn v19)).f)])), .keep]), []⟩ [true, false, false, true, true, true, true, true, true, true, true] (pp (xL (v6.length + 1) (v6 ++ [(R6.mk (rd l0 (tn v19)).a (rd l0 (tn v19)).b (rd l0 (tn v19)).c (rd l0 (tn v19)).d (rd l0 (tn v19)).e (rd l0 (tn v19)).f)]).length) (pp (xL (v6.length + 1) (v6 ++ [(R6.mk (rd l0 (tn v19)).a (rd l0 (tn v19)).b (rd l0 (tn v19)).c (rd l0 (tn v19)).d (rd l0 (tn v19)).e (rd l0 (tn v19)).f)]).length) (pp (xS (v6.length + 1) (Ze (Zz v6) 0 v6.length 6 [(ii (rd l0 (tn v19)).a), (ii (rd l0 (tn v19)).b), (ii (rd l0 (tn v19)).c), (ii (rd l0 (tn v19)).d), (ii (rd l0 (tn v19)).e), (ii (rd l0 (tn v19)).f)]) (Zz (v6 ++ [(R6.mk (rd l0 (tn v19)).a (rd l0 (tn v19)).b (rd l0 (tn v19)).c (rd l0 (tn v19)).d (rd l0 (tn v19)).e (rd l0 (tn v19)).f)]))) (pp (fl aQ (pp (xF (Ze (Zz v6) 0 v6.length 6 [(ii (rd l0 (tn v19)).a), (ii (rd l0 (tn v19)).b), (ii (rd l0 (tn v19)).c), (ii (rd l0 (tn v19)).d), (ii (rd l0 (tn v19)).e), (ii (rd l0 (tn v19)).f)])) (fl aB nn))) (ww o0 (tt k2 (ww dK (ww cL (tt k1 (ww cF (ww bG (ww aH (tt k0 nn)))))))))))))))) (fun k2 => (sl z1o 64 [] ⟨(List.range 13), [], w4m, w4o⟩ ⟨[], [], []⟩ [true, false, false, true, true, true, true, true, true, true, false] (pp (fl aQ (fl v6 (fl aB nn))) (tt k2 (ww dK (ww cL (tt k1 (ww cF (ww bG (ww aH (tt k0 nn))))))))))))))) (fun k1 => (sl z1o 64 [] ⟨(List.range 13), [], w4m, w4o⟩ ⟨[], [], []⟩ [true, false, false, false, false, false, false, false, false, false, false] (pp (fl aQ (fl v6 (fl aB nn))) (tt k1 (ww cF (ww bG (ww aH (tt k0 nn))))))))))))) (fun k0 => (lo fun q1_0 => (lo fun q1_1 => (lo fun q1_2 => (lo fun q1_3 => (Xi (sl z1o (C' := ⟨⟨81, 0, true⟩, (Vv prog 81 [1, 1, 1, 1, 0, 1, 0, 1, 0, 0] 4), (Zg prog 81 [1, 1, 1, 1, 0, 1, 0, 1, 0, 0] 1), (some 0), [], ⟨Yj [(7, (.ptr 3 0)), (8, (.ptr 5 0)), (9, (.ptr 6 0)), (10, (.ptr 7 0)), (11, (.ptr 8 0)), (22, (.dat v6.length (Zz v6))), (23, (.agg [(ii (rd aQ (0 + (tn (wr (v5 - 1)))))), (ii (rd aQ (0 + (tn v5))))])), (24, (.agg [(ii aW), (ii aX)])), (25, (ii x2))], z4r [(1, ⟨[(ii aW), (ii aX)], 110, none⟩), (2, ⟨[(ii x2)], 3, none⟩), (3, ⟨[(.sla 4 4 0 aB.length (.un 4))], 106, none⟩), (4, ⟨rows aB.length (Zz aB), 114, some ⟨4, aB.length, (Zz aB)⟩⟩), (5, ⟨[(.dat aC.length (Zz aC))], 158, none⟩), (6, ⟨[(ii bF)], 3, none⟩), (7, ⟨[(ii aE)], 3, none⟩), (8, ⟨[(ii (rd aQ (0 + (tn (wr (v5 - 1)))))), (ii (rd aQ (0 + (tn v5))))], 110, none⟩), (9, ⟨[(.sla 10 1 0 bE (.un 1))], 47, none⟩), (10, ⟨rows aQ.length (Zz aQ), 3, some ⟨1, aQ.length, (Zz aQ)⟩⟩), (11, ⟨[(.dat l0.length (Zz l0))], 22, none⟩), (12, ⟨[(ii 0)], 3, none⟩)], 13, [], true⟩, [⟨⟨63, 0, true⟩, (Vv prog 121 [1, 0, 0, 1, 0, 0, 1, 1, 0] 12), (Zg prog 121 [1, 0, 0, 1, 0, 0, 1, 1, 0] 1), none, [], Yj [(0, (.yld 0)), (1, (.ptr 9 0)), (2, (.ptr 11 0)), (3, (.ptr 12 0)), (5, (ii v5)), (49, (.yld 0)), (59, (.agg [(ii (rd aQ (0 + (tn (wr (v5 - 1)))))), (ii (rd aQ (0 + (tn v5))))])), (60, (.dat v6.length (Zz v6)))]⟩, ⟨⟨81, 0, true⟩, none, (.inRangeFunc 0 :: (Zg prog 81 [1, 1, 1, 1, 0, 1, 0] 1)), none, (Zy prog 4), Yj [(6, .nils), (7, (.ptr 3 0))]⟩], (z4t [(0, ⟨.busy, none, 81, Yj [(4, (.ptr 1 0)), (5, (.ptr 2 0)), (7, (.ptr 3 0)), (8, (.ptr 5 0)), (9, (.ptr 6 0)), (10, (.ptr 7 0))], [20, 21], (Xn prog 81 [1, 1, 1, 1, 0, 1, 0, 0]), (Xn prog 81 [1, 1, 1, 1, 0, 1, 0, 1])⟩)])⟩) 26 [] ⟨[0, 1, 2, 3, 12, 4, 5, 6, 13, 7, 8, 9, 10], [11], [some [7, 8, 9, 10, 11, 22, 23, 24, 25], some [0, 1, 2, 3, 5, 49, 59, 60], some [6, 7]], [some [4, 5, 7, 8, 9, 10], none, none, none, none, none, none, none, none, none, none, none, none]⟩ ⟨[(22, .frz v6.length v6.length (Zz v6) (Zz v6))], [], [[(60, .frz v6.length v6.length (Zz v6) (Zz v6))], []]⟩ [false] (pp (xZ (z4w 6 6 0 v6.length v6.length (Zz v6)) v6.length (Zz v6)) (pp (xL v6.length v6.length) (pp (xS v6.length (Zz v6) (Zz v6)) (pp (xZ (z4w 6 6 0 v6.length v6.length (Zz v6)) v6.length (Zz v6)) (pp (xL v6.length v6.length) (pp (xS v6.length (Zz v6) (Zz v6)) (pp (fl aB (fl aQ nn)) (pp (fl v6 nn) (ww q1_3 (ww q1_2 (ww q1_1 (ww q1_0 (tt k0 nn)))))))))))))) (lo fun aH => (lb (fun k1 => (lb (fun k2 => (lo fun cU => (lb (fun k3 => (sl z1o 30 [] ⟨(List.range 13), [], layN4, layM4⟩ ⟨[], [], []⟩ (trs 8 []) (pp (fl aB (fl aQ nn)) (tt k3 (pp (pp (xr aC) (pp (xI R2 (Qi (cvT v6) (rd aQ (0 + (tn (wr (v5 - 1))))) (rd aQ (0 + (tn v5))) aW aX x2).length (Zz (Qi (cvT v6) (rd aQ (0 + (tn (wr (v5 - 1))))) (rd aQ (0 + (tn v5))) aW aX x2))) (xw cU))) (tt k2 (tt k1 (pp (pp (xr v6) (xw aH)) nn)))))))) (fun k3 => (sl z1o 33 [] ⟨[0, 1, 2, 3, 5, 6, 7, 8, 9, 10, 11, 12, 4], [], w4l, w4n⟩ ⟨[], [], []⟩ (trs 7 [false]) (pp (fl aQ (fl aB nn)) (tt k3 (pp (pp (xr aC) (pp (xI R2 (Qi (cvT v6) (rd aQ (0 + (tn (wr (v5 - 1))))) (rd aQ (0 + (tn v5))) aW aX x2).length (Zz (Qi (cvT v6) (rd aQ (0 + (tn (wr (v5 - 1))))) (rd aQ (0 + (tn v5))) aW aX x2))) (xw cU))) (tt k2 (tt k1 (pp (pp (xr v6) (xw aH)) nn))))))))))) (fun k2 => (sl z1o 33 [] ⟨[0, 1, 2, 3, 5, 6, 7, 8, 9, 10, 11, 12, 4], [], w4l, w4n⟩ ⟨[], [], []⟩ (trs 4 [false, false, false, false]) (pp (fl aQ (fl aB nn)) (tt k2 (tt k1 (pp (pp (xr v6) (xw aH)) nn)))))))) (fun k1 => (sl z1o 33 [] ⟨[0, 1, 2, 3, 5, 6, 7, 8, 9, 10, 11, 12, 4], [], w4l, w4n⟩ ⟨[], [], []⟩ [false, false, false, false, false, false, false, false] (pp (fl aQ (fl aB nn)) (tt k1 (pp (pp (xr v6) (xw aH)) nn))))))))))))))
 | .h3 v61 v62 v63 bV aL aI bO aB bF aT aN => (lb (fun k0 => (lo fun o0 => (lo fun o1 => (sl z1o 37 [] ⟨[0, 1, 2, 3, 4, 5, 6, 7, 8, 9, 10, 11, 15], [], w4l, w4n⟩ ⟨[], (kpB 3 [.cells [.len (aB ++ [(R4.mk aL (rd v61 (tn v63)).a aI (rd v61 (tn v63)).b)]).length], .keep, .keep, .keep, .keep, .keep, .keep, .keep, .keep, .rowed 4 (aB ++ [(R4.mk aL (rd v61 (tn v63)).a aI (rd v61 (tn v63)).b)]).length (Zz (aB ++ [(R4.mk aL (rd v61 (tn v63)).a aI (rd v61 (tn v63)).b)]))]), []⟩ [true] (pp (xL (aB.length + 1) (aB ++ [(R4.mk aL (rd v61 (tn v63)).a aI (rd v61 (tn v63)).b)]).length) (pp (xL (aB.length + 1) (aB ++ [(R4.mk aL (rd v61 (tn v63)).a aI (rd v61 (tn v63)).b)]).length) (pp (xS (aB.length + 1) (Ze (Zz aB) 0 aB.length 4 [(ii aL), (ii (rd v61 (tn v63)).a), (ii aI), (ii (rd v61 (tn v63)).b)]) (Zz (aB ++ [(R4.mk aL (rd v61 (tn v63)).a aI (rd v61 (tn v63)).b)]))) (pp (fl aN (pp (xF (Ze (Zz aB) 0 aB.length 4 [(ii aL), (ii (rd v61 (tn v63)).a), (ii aI), (ii (rd v61 (tn v63)).b)])) nn)) (ww o1 (ww o0 (tt k0 nn))))))))))) (fun k0 => (sl z1o 20 [] ⟨[0, 1, 2, 3, 4, 5, 6, 8, 9, 10, 11, 12], [], v3c, v3d⟩ ⟨[], [], []⟩ [false, false] (pp (fl aN (fl aB nn)) (tt k0 nn)))))
 | .h4 v14 bV aL aI bO aB bF aE aK cB cC => (lb (fun k0 => (lo fun o0 => (lo fun o1 => (sl z1o 28 [] ⟨(List.range 13), [], layN4, layM4⟩ ⟨[], (kpB 3 [.cells [.len (aB.set (0 + (tn v14)) (R4.mk (rd aB (0 + (tn v14))).a (rd aB (0 + (tn v14))).b aI (rd aB (0 + (tn v14))).d)).length], .rowed 4 (aB.set (0 + (tn v14)) (R4.mk (rd aB (0 + (tn v14))).a (rd aB (0 + (tn v14))).b aI (rd aB (0 + (tn v14))).d)).length (Zz (aB.set (0 + (tn v14)) (R4.mk (rd aB (0 + (tn v14))).a (rd aB (0 + (tn v14))).b aI (rd aB (0 + (tn v14))).d))), .keep, .keep, .keep, .keep, .keep, .keep, .keep, .keep]), []⟩ [true] (pp (xL aB.length (aB.set (0 + (tn v14)) (R4.mk (rd aB (0 + (tn v14))).a (rd aB (0 + (tn v14))).b aI (rd aB (0 + (tn v14))).d)).length) (pp (xL aB.length (aB.set (0 + (tn v14)) (R4.mk (rd aB (0 + (tn v14))).a (rd aB (0 + (tn v14))).b aI (rd aB (0 + (tn v14))).d)).length) (pp (xS aB.length (Xf (Zz aB) (0 + (tn v14)) 2 [(ii aI)]) (Zz (aB.set (0 + (tn v14)) (R4.mk (rd aB (0 + (tn v14))).a (rd aB (0 + (tn v14))).b aI (rd aB (0 + (tn v14))).d)))) (pp (pp (xF (Xf (Zz aB) (0 + (tn v14)) 2 [(ii aI)])) (fl cC nn)) (ww o1 (ww o0 (tt k0 nn))))))))))) (fun k0 => (sl z1o 29 [] ⟨[0, 1, 2, 3, 5, 6, 7, 9, 10, 11, 12, 4], [], v3c, v3d⟩ ⟨[], [], []⟩ [false, false] (pp (fl cC (fl aB nn)) (tt k0 nn)))))
theorem y9i (l0 : List R6) (aW : Int) (aX : Int) (x2 : Int) : Wj prog (Zy prog 81) (layC l0 aW aX x2) (Zf prog 81 [(.dat l0.length (Zz l0)), (.agg [(.int .i64 aW), (.int .i64 aX)]), (.int .i64 x2)] true []) (y3n l0 aW aX x2) := (sl z1o 46 [(3, 1, Zz ([] : List Int))] ⟨[6, 7, 8, 0, 1, 2, 3, 4, 5, 9], [], layN0, layM0⟩ ⟨[], [.keep, .keep, .cells [.grow 9 1], .keep, .keep, .keep, .keep, .keep, .keep, .keep], []⟩ [] (pp (fl ([] : List Int) nn) nn))
theorem w4k (l0 : List R6) (aW : Int) (aX : Int) (x2 : Int) (n : Nat) (vs : List AVal) (h : Yv (Xc l0 aW aX x2) n (y3n l0 aW aX x2) = .ret vs) : Jo prog (Zy prog 81) (Zf prog 81 [(.dat l0.length (Zz l0)), (.agg [(.int .i64 aW), (.int .i64 aX)]), (.int .i64 x2)] true []) vs := by
 have := Zo (x4z l0 aW aX x2) n _ (y9i l0 aW aX x2)
 rwa [h] at this
end Go.Am
namespace Go.Am
open Go.Proofs Go.Sort Go.Shelf Go.RowKit Go.Lib
structure y1b (β : Type) where
 a : Int
 b : Int
 s : List β
def ptL {β γ : Type} (inB : β → γ → Prop) (s : List β) (q : γ) : Prop := ∃ r ∈ s, inB r q
structure Sem (β γ : Type) where
 can : List β → Prop
 inB : β → γ → Prop
 uniq : ∀ s t, can s → can t → (∀ q, ptL inB s q ↔ ptL inB t q) → s = t
 some : ∀ s, can s → s ≠ [] → ∃ q, ptL inB s q
 nil : can []
section
variable {β γ : Type} (M : Sem β γ)
def OkS (g : y1b β) : Prop := g.a < g.b ∧ M.can g.s ∧ g.s ≠ []
def Nxt (g h : y1b β) : Prop := g.b ≤ h.a ∧ (g.b = h.a → g.s ≠ h.s)
inductive y4m : List (y1b β) → Prop
 | nil : y4m []
 | one (g : y1b β) (h : OkS M g) : y4m [g]
 | cons (g h : y1b β) (r : List (y1b β)) (ok : OkS M g) (nx : Nxt g h) (k : y4m (h :: r)) : y4m (g :: h :: r)
def ptG (G : List (y1b β)) (x : Int) (q : γ) : Prop := ∃ g ∈ G, g.a ≤ x ∧ x < g.b ∧ ptL M.inB g.s q
variable {M}
theorem y4m.head {g : y1b β} {r : List (y1b β)} (h : y4m M (g :: r)) : OkS M g := by cases h <;> assumption
theorem y4m.tail {g : y1b β} {r : List (y1b β)} (h : y4m M (g :: r)) : y4m M r := by
 cases h with
 | one => exact .nil
 | cons _ _ _ _ _ k => exact k
theorem y4m.later {g : y1b β} {r : List (y1b β)} (h : y4m M (g :: r)) : ∀ k ∈ r, g.b ≤ k.a := by
 induction r generalizing g with
 | nil => intro k hk; cases hk
 | cons k r ih =>
  cases h with
  | cons _ _ _ ok nx kk =>
   intro m hm
   rcases List.mem_cons.1 hm with rfl | hm
   ·exact nx.1
   ·have h1 := ih kk m hm
    have h2 := kk.head.1
    have h3 := nx.1
    omega
theorem y4m.before {G : List (y1b β)} {g : y1b β} (k : y4m M (G ++ [g])) : ∀ m ∈ G, m.b ≤ g.a := by
 induction G with
 | nil => intro m hm; cases hm
 | cons m r ih =>
  intro n hn
  rcases List.mem_cons.1 hn with rfl | hn
  ·exact k.later g (by simp)
  ·exact ih k.tail n hn
theorem x1x (g : y1b β) (G : List (y1b β)) (x : Int) (q : γ) : ptG M (g :: G) x q ↔ (g.a ≤ x ∧ x < g.b ∧ ptL M.inB g.s q) ∨ ptG M G x q := by
 constructor
 ·rintro ⟨k, hk, h⟩
  rcases List.mem_cons.1 hk with rfl | hk
  ·exact .inl h
  ·exact .inr ⟨k, hk, h⟩
 ·rintro (h | ⟨k, hk, h⟩)
  ·exact ⟨g, by simp, h⟩
  ·exact ⟨k, by simp [hk], h⟩
theorem y4m.low {g : y1b β} {r : List (y1b β)} (h : y4m M (g :: r)) {x : Int} {q : γ} (hp : ptG M (g :: r) x q) : g.a ≤ x := by
 rcases (x1x g r x q).1 hp with hp | ⟨k, hk, h1, _⟩
 ·exact hp.1
 ·have := h.later k hk
  have := h.head.1
  omega
theorem y4m.rest {g : y1b β} {r : List (y1b β)} (h : y4m M (g :: r)) (x : Int) (q : γ) : ptG M r x q ↔ g.b ≤ x ∧ ptG M (g :: r) x q := by
 constructor
 ·rintro ⟨k, hk, h1, h2⟩
  have := h.later k hk
  exact ⟨by omega, k, by simp [hk], h1, h2⟩
 ·rintro ⟨hx, hp⟩
  rcases (x1x g r x q).1 hp with hp | hp
  ·omega
  ·exact hp
end
namespace Dim
variable {α β : Type} (D : Dim α β)
def flat (G : List (y1b β)) : List α := G.flatMap fun g => g.s.map (D.put g.a g.b)
variable {D}
def can {γ : Type} (M : Sem β γ) (l : List α) : Prop := ∃ G, y4m M G ∧ l = D.flat G
variable (D)
def oneS (sec : List β) (x x' : Int) (s : Sw α β) : Sw α β :=
 bif decide (0 < sec.length) && ((s.fin == x) && D.same s.last sec) then ⟨D.grow s.out s.first x', s.last, s.first, x'⟩
 else ⟨s.out ++ sec.map (D.put x x'), sec, s.out.length, x'⟩
variable {D}
structure Inv {γ : Type} (M : Sem β γ) (sec : Int → List β) (cs : List Int) (i : Nat) (s : Sw α β) (G : List (y1b β)) : Prop where
 can : y4m M G
 out : s.out = D.flat G
 gap : s.last = [] → ∀ g ∈ G, g.b < rd cs i
 end_ : s.last ≠ [] → ∃ Gp g, G = Gp ++ [g] ∧ g.s = s.last ∧ g.b = rd cs i ∧ s.fin = rd cs i ∧ s.first = (D.flat Gp).length
 pts : ∀ x q, ptG M G x q ↔ ∃ j, j < i ∧ rd cs j ≤ x ∧ x < rd cs (j + 1) ∧ ptL M.inB (sec (rd cs j)) q
end Dim
end Go.Am
namespace Go.Am
open Go.Proofs.Tryz
open Go.Proofs Go.Sort Go.Shelf Go.RowKit Go.Lib
namespace Dim
variable {α β : Type} (D : Dim α β)
def goX (S : Int → Int → List β) (cs : List Int) : Nat → Nat → Sw α β → Sw α β
 | 0, _, s => s
 | k + 1, i, s => goX S cs k (i + 1) (D.oneS (S (rd cs i) (rd cs (i + 1))) (rd cs i) (rd cs (i + 1)) s)
theorem oneS_length (q : List β) (x x' : Int) (s : Sw α β) : (D.oneS q x x' s).out.length ≤ s.out.length + q.length := by
 unfold oneS
 cases (decide (0 < q.length) && ((s.fin == x) && D.same s.last q)) <;> simp [grow_length]
end Dim
def okX {β : Type} (S : Int → Int → List β) (cs : List Int) : Nat → Nat → Bool
 | 0, _ => true
 | k + 1, i => bif decide (((S (rd cs i) (rd cs (i + 1))).length : Int) > 400) then false else okX S cs k (i + 1)
theorem y0k (L : List R6) (a b e f : Int) (cs : List Int) : ∀ (k i : Nat) (o : List R2), (v5o L a b e f cs k i o).length ≤ o.length + k
 | 0, _, _ => Nat.le_refl _
 | k + 1, i, o => by
  unfold v5o
  have h1 := y0k L a b e f cs k (i + 1) (bif w1u (crS R6.b R6.e L (rd cs i) (rd cs (i + 1))) a b (rd cs i) (rd cs (i + 1)) e f then v5q o (rd cs i) (rd cs (i + 1)) else o)
  have h2 := y0l o (rd cs i) (rd cs (i + 1))
  revert h1
  cases w1u (crS R6.b R6.e L (rd cs i) (rd cs (i + 1))) a b (rd cs i) (rd cs (i + 1)) e f <;> simp only [cond_true, cond_false] <;> omega
theorem x0u (L : List R6) (a b e f n : Int) : (Qi L a b e f n).length ≤ (rnC R6.b R6.e n L).length := by
 have := y0k L a b e f (rnC R6.b R6.e n L) ((rnC R6.b R6.e n L).length - 1) 0 []
 unfold Qi
 simp only [List.length_nil] at this; omega
theorem w9m {L : List R6} {a b n : Int} (hl : L.length ≤ 400) {i : Nat} (hi : i + 1 < (rnC R6.a R6.d n L).length) (out : List R4) (last : List R2) (first fin : Int) : ∀ (k j : Nat) (acc : List R6), j + k = L.length → acc.length ≤ j →
  ∃ N, ∀ M, Yv (Xc L a b n) (M + N) (.to (.h2 ((i + 1 : Nat) : Int) acc (j : Int) out last first fin (rnC R6.a R6.d n L).length (Xv (Yo (rnE R6.a R6.d n L))))) = Yv (Xc L a b n) M (.to (.h2 ((i + 1 : Nat) : Int) (acc ++ crS R6.a R6.d (L.drop j) (rd (rnC R6.a R6.d n L) i) (rd (rnC R6.a R6.d n L) (i + 1))) (L.length : Int) out last first fin (rnC R6.a R6.d n L).length (Xv (Yo (rnE R6.a R6.d n L)))))
 | 0, j, acc, h, ha => by
  refine ⟨0, fun M => ?_⟩
  rw [List.drop_eq_nil_of_le (by omega), show crS R6.a R6.d ([] : List R6) (rd (rnC R6.a R6.d n L) i) (rd (rnC R6.a R6.d n L) (i + 1)) = [] from rfl, List.append_nil, Nat.add_zero, show j = L.length by omega]
 | k + 1, j, acc, h, ha => by
  have hj : j < L.length := by omega
  have hc := Vd R6.a R6.d n L
  have hpl : (Xv (Yo (rnE R6.a R6.d n L))).length = 4 * L.length := by rw [Wr, Wb, Wk]
  have r0 : rd (Xv (Yo (rnE R6.a R6.d n L))) i = rd (rnC R6.a R6.d n L) i := Jv _ _ (by show i < (rnC R6.a R6.d n L).length; omega)
  have r1 : rd (Xv (Yo (rnE R6.a R6.d n L))) (i + 1) = rd (rnC R6.a R6.d n L) (i + 1) := Jv _ _ (by show i + 1 < (rnC R6.a R6.d n L).length; omega)
  have e1 : IntKind.wrap .i64 (((i + 1 : Nat) : Int) - 1) = (i : Int) := by rw [Zd]; exact Zq (by omega)
  have hw : IntKind.wrap .i64 ((j : Int) + 1) = ((j + 1 : Nat) : Int) := Zq (by omega)
  obtain ⟨N, hN⟩ := w9m hl hi out last first fin k (j + 1) (acc ++ crS R6.a R6.d [rd L j] (rd (rnC R6.a R6.d n L) i) (rd (rnC R6.a R6.d n L) (i + 1))) (by omega) (by have := Kb R6.a R6.d [rd L j] (rd (rnC R6.a R6.d n L) i) (rd (rnC R6.a R6.d n L) (i + 1)); simp only [List.length_append, List.length_singleton] at *; omega)
  refine ⟨N + 1, fun M => ?_⟩
  have e : crS R6.a R6.d (L.drop j) (rd (rnC R6.a R6.d n L) i) (rd (rnC R6.a R6.d n L) (i + 1)) = crS R6.a R6.d [rd L j] (rd (rnC R6.a R6.d n L) i) (rd (rnC R6.a R6.d n L) (i + 1)) ++ crS R6.a R6.d (L.drop (j + 1)) (rd (rnC R6.a R6.d n L) i) (rd (rnC R6.a R6.d n L) (i + 1)) := by
   rw [Yf hj, ← z6d]; rfl
  rw [e, ← Nat.add_assoc, Zv, ← List.append_assoc, ← hN M]
  by_cases h1 : (rd L j).a < rd (rnC R6.a R6.d n L) (i + 1)
  ·by_cases h2 : rd (rnC R6.a R6.d n L) i < (rd L j).d
   ·rw [v5l h1 h2]
    simp (disch := omega) only [Xc, e1, r0, r1, hw, Zb, Zk, Zs, Zt, Yx, Yq, Yp, Zh, Zq, Zx, Ya, Zj, Nat.zero_add, decide_true, Bool.and_true, Bool.true_and, cond_true, cond_false]
   ·rw [w0w h2, List.append_nil]
    simp (disch := omega) only [Xc, Yz, e1, r0, r1, hw, Zb, Zk, Zs, Zt, Yx, Yq, Yp, Zh, Zq, Zx, Ya, Zj, Nat.zero_add, decide_true, Bool.and_true, Bool.true_and, cond_true, cond_false]
  ·rw [w0x h1, List.append_nil]
   simp (disch := omega) only [Xc, Yz, e1, r0, r1, hw, Zb, Zk, Zs, Zt, Yx, Yq, Yp, Zh, Zq, Zx, Ya, Zj, Nat.zero_add, decide_true, Bool.and_true, Bool.true_and, cond_true, cond_false]
theorem w9n {L : List R6} {a b n : Int} (hl : L.length ≤ 400) (hn : n ≠ 0) {R : List AVal} (hR : ∃ N, Yv (Xc L a b n) N (.to (.h1 1 [] [] 0 0 (rnC R6.a R6.d n L).length (Xv (Yo (rnE R6.a R6.d n L))))) = .ret R) : ∀ (k i : Nat) (acc : List Int), i + k = L.length → acc = rnE R6.a R6.d n (L.take i) → ∃ N, Yv (Xc L a b n) N (.to (.h0 (i : Int) acc)) = .ret R
 | 0, i, acc, h, ha => by
  have e : acc = (rnE R6.a R6.d n L) := by rw [ha, List.take_of_length_le (by omega)]
  subst e
  have hle := Wk R6.a R6.d n L
  obtain ⟨N, hN⟩ := hR
  refine ⟨N + 1, ?_⟩
  rw [Zv]
  simp (disch := omega) only [Xc, Uu, Kg, z6e, Yz, Yq, Yp, decide_true, cond_true, cond_false]
  exact hN
 | k + 1, i, acc, h, ha => by
  have hle := Wk R6.a R6.d n (L.take i)
  have fK : acc.length ≤ 4 * i := by rw [ha, hle]; simp; omega
  obtain ⟨N, hN⟩ := w9n hl hn hR k (i + 1) (acc ++ rnE R6.a R6.d n [rd L i]) (by omega) (by
   rw [ha, List.take_add_one]
   have : L[i]? = some (rd L i) := by rw [Ww (show i < L.length by omega)]; exact List.getElem?_eq_getElem _
   rw [this, z5q]; rfl)
  refine ⟨N + 1, ?_⟩
  rw [Zv]
  simp (disch := omega) only [Xc, w5s hn, Zb, Zk, Zs, Zt, Yx, Yq, Yp, Zh, Zq, Zx, Ya, Zj, Nat.zero_add, decide_true, Bool.and_true, Bool.true_and, cond_true, cond_false]
  exact hN
def layQ (L : List R6) (a b n : Int) (x x' : Int) : List R2 := (Qi (crS R6.a R6.d L x x') x x' a b n)
theorem w9l {L : List R6} {a b n : Int} (hl : L.length ≤ 400) (i : Nat) (hi : i ≤ 2000) (x x' : Int) (q : List R2) (first : Int) (inn : List R6) (hq : q.length ≤ 2000) : ∀ (k j : Nat) (out : List R4), j + k = q.length → out.length ≤ 10000000 + j →
  ∃ N, ∀ M, Yv (Xc L a b n) (M + N) (.to (.h3 q (q.length : Int) (j : Int) (i : Int) x x' inn out first (rnC R6.a R6.d n L).length (Xv (Yo (rnE R6.a R6.d n L))))) = Yv (Xc L a b n) M (.to (.h1 ((i + 1 : Nat) : Int) (out ++ (q.drop j).map (D4.put x x')) q first x' (rnC R6.a R6.d n L).length (Xv (Yo (rnE R6.a R6.d n L)))))
 | 0, j, out, h, ho => by
  refine ⟨1, fun M => ?_⟩
  rw [List.drop_eq_nil_of_le (by omega), Zv]
  simp (disch := omega) only [Xc, Yz, Zq, Zx, cond_false, List.map_nil, List.append_nil]
 | k + 1, j, out, h, ho => by
  obtain ⟨N, hN⟩ := w9l hl i hi x x' q first inn hq k (j + 1) (out ++ [D4.put x x' (rd q j)]) (by omega) (by simp; omega)
  refine ⟨N + 1, fun M => ?_⟩
  have := hN M
  rw [Yf (show j < q.length by omega), List.map_cons, ← Nat.add_assoc, Zv]
  simp (disch := omega) only [Xc, Zb, Zk, Zs, Zt, Yx, Yq, Yp, Zh, Zq, Zx, Ya, Zj, Nat.zero_add, decide_true, Bool.and_true, Bool.true_and, cond_true, cond_false]
  rw [List.append_assoc] at this
  exact this
theorem w9k {L : List R6} {a b n : Int} (hl : L.length ≤ 400) (i : Nat) (hi : i ≤ 2000) (x x' fin : Int) (last : List R2) (first : Int) (inn : List R6) : ∀ (k j : Nat) (out : List R4), j + k = out.length → out.length ≤ 10000000 →
  ∃ N, ∀ M, Yv (Xc L a b n) (M + N) (.to (.h4 (j : Int) (i : Int) x x' inn out last first fin (rnC R6.a R6.d n L).length (Xv (Yo (rnE R6.a R6.d n L))))) = Yv (Xc L a b n) M (.to (.h1 ((i + 1 : Nat) : Int) (D4.grow out j x') last first x' (rnC R6.a R6.d n L).length (Xv (Yo (rnE R6.a R6.d n L)))))
 | 0, j, out, h, ho => by
  refine ⟨1, fun M => ?_⟩
  rw [D4.grow_nil _ _ _ (by omega), Zv]
  simp (disch := omega) only [Xc, Yz, Zq, Zx, cond_false]
 | k + 1, j, out, h, ho => by
  obtain ⟨N, hN⟩ := w9k hl i hi x x' fin last first inn k (j + 1) (out.set j (D4.ext x' (rd out j))) (by simp; omega) (by simpa using ho)
  refine ⟨N + 1, fun M => ?_⟩
  have := hN M
  rw [D4.grow_set out j _ (by omega)] at this
  rw [← Nat.add_assoc, Zv]
  simp (disch := omega) only [Xc, Zb, Zk, Zs, Zt, Yx, Yq, Yp, Zh, Zq, Zx, Ya, Zj, Nat.zero_add, decide_true, Bool.and_true, Bool.true_and, cond_true, cond_false]
  exact this
theorem x9u {L : List R6} {a b n : Int} (hl : L.length ≤ 400) (hn : n ≠ 0) : ∀ (k i : Nat) (s : Sw R4 R2), k = (rnC R6.a R6.d n L).length - 1 - i → i ≤ (rnC R6.a R6.d n L).length → s.out.length ≤ i * 2000 → s.last.length ≤ 2000 → s.first ≤ s.out.length → ∃ N, Yv (Xc L a b n) N (.to (.h1 ((i + 1 : Nat) : Int) s.out s.last (s.first : Int) s.fin (rnC R6.a R6.d n L).length (Xv (Yo (rnE R6.a R6.d n L))))) = .ret [.dat (D4.goX (layQ L a b n) (rnC R6.a R6.d n L) k i s).out.length (Zz (D4.goX (layQ L a b n) (rnC R6.a R6.d n L) k i s).out)]
 | 0, i, s, h, hi, ho, hla, hf => by
  have hc := Vd R6.a R6.d n L
  refine ⟨1, ?_⟩
  rw [Zv]
  simp (disch := omega) only [Xc, Yz, cond_false, Zm]
  rfl
 | k + 1, i, s, h, hi, ho, hla, hf => by
  have hc := Vd R6.a R6.d n L
  have hi1 : i + 1 < (rnC R6.a R6.d n L).length := by omega
  have hpl : (Xv (Yo (rnE R6.a R6.d n L))).length = 4 * L.length := by rw [Wr, Wb, Wk]
  have r0 : rd (Xv (Yo (rnE R6.a R6.d n L))) i = rd (rnC R6.a R6.d n L) i := Jv _ _ (by show i < (rnC R6.a R6.d n L).length; omega)
  have r1 : rd (Xv (Yo (rnE R6.a R6.d n L))) (i + 1) = rd (rnC R6.a R6.d n L) (i + 1) := Jv _ _ (by show i + 1 < (rnC R6.a R6.d n L).length; omega)
  have e1 : IntKind.wrap .i64 (((i + 1 : Nat) : Int) - 1) = (i : Int) := by rw [Zd]; exact Zq (by omega)
  have hbig : i * 2000 ≤ 1600 * 2000 := Nat.mul_le_mul_right _ (by omega)
  obtain ⟨N2, h2⟩ := w9m (a := a) (b := b) (n := n) hl hi1 s.out s.last (s.first : Int) s.fin L.length 0 [] (Nat.zero_add _) (Nat.le_refl _)
  rw [List.drop_zero, List.nil_append, z0y] at h2
  have hin := Kb R6.a R6.d L (rd (rnC R6.a R6.d n L) i) (rd (rnC R6.a R6.d n L) (i + 1))
  have w1 : z0h (crS R6.a R6.d L (rd (rnC R6.a R6.d n L) i) (rd (rnC R6.a R6.d n L) (i + 1))) (rd (rnC R6.a R6.d n L) i) (rd (rnC R6.a R6.d n L) (i + 1)) a b n = true := by
   unfold z0h
   rw [Yx (by omega), decide_eq_false hn]; rfl
  have st0 : ∀ M, Yv (Xc L a b n) (M + N2 + 1) (.to (.h1 ((i + 1 : Nat) : Int) s.out s.last (s.first : Int) s.fin (rnC R6.a R6.d n L).length (Xv (Yo (rnE R6.a R6.d n L))))) = Yv (Xc L a b n) M (.to (.h2 ((i + 1 : Nat) : Int) (crS R6.a R6.d L (rd (rnC R6.a R6.d n L) i) (rd (rnC R6.a R6.d n L) (i + 1))) (L.length : Int) s.out s.last (s.first : Int) s.fin (rnC R6.a R6.d n L).length (Xv (Yo (rnE R6.a R6.d n L))))) := fun M => by
   rw [← h2 M, Zv]
   simp (disch := omega) only [Xc, Zs, cond_true]
  have hq : (layQ L a b n) (rd (rnC R6.a R6.d n L) i) (rd (rnC R6.a R6.d n L) (i + 1)) = (Qi (crS R6.a R6.d L (rd (rnC R6.a R6.d n L) i) (rd (rnC R6.a R6.d n L) (i + 1))) (rd (rnC R6.a R6.d n L) i) (rd (rnC R6.a R6.d n L) (i + 1)) a b n) := rfl
  have hsl : (Qi (crS R6.a R6.d L (rd (rnC R6.a R6.d n L) i) (rd (rnC R6.a R6.d n L) (i + 1))) (rd (rnC R6.a R6.d n L) i) (rd (rnC R6.a R6.d n L) (i + 1)) a b n).length ≤ 2000 := by have := x0u (crS R6.a R6.d L (rd (rnC R6.a R6.d n L) i) (rd (rnC R6.a R6.d n L) (i + 1))) (rd (rnC R6.a R6.d n L) i) (rd (rnC R6.a R6.d n L) (i + 1)) a b n ; have := Vd R6.b R6.e n (crS R6.a R6.d L (rd (rnC R6.a R6.d n L) i) (rd (rnC R6.a R6.d n L) (i + 1))); omega
  have w2 : Vq s.last (Qi (crS R6.a R6.d L (rd (rnC R6.a R6.d n L) i) (rd (rnC R6.a R6.d n L) (i + 1))) (rd (rnC R6.a R6.d n L) i) (rd (rnC R6.a R6.d n L) (i + 1)) a b n) = true := decide_eq_true (by omega)
  have ol := D4.oneS_length (Qi (crS R6.a R6.d L (rd (rnC R6.a R6.d n L) i) (rd (rnC R6.a R6.d n L) (i + 1))) (rd (rnC R6.a R6.d n L) i) (rd (rnC R6.a R6.d n L) (i + 1)) a b n) (rd (rnC R6.a R6.d n L) i) (rd (rnC R6.a R6.d n L) (i + 1)) s
  rcases Yg (decide (0 < (Qi (crS R6.a R6.d L (rd (rnC R6.a R6.d n L) i) (rd (rnC R6.a R6.d n L) (i + 1))) (rd (rnC R6.a R6.d n L) i) (rd (rnC R6.a R6.d n L) (i + 1)) a b n).length) && ((s.fin == (rd (rnC R6.a R6.d n L) i)) && D4.same s.last (Qi (crS R6.a R6.d L (rd (rnC R6.a R6.d n L) i) (rd (rnC R6.a R6.d n L) (i + 1))) (rd (rnC R6.a R6.d n L) i) (rd (rnC R6.a R6.d n L) (i + 1)) a b n))) with q | q
  ·obtain ⟨N4, h4⟩ := w9k (a := a) (b := b) (n := n) hl (i + 1) (by omega) (rd (rnC R6.a R6.d n L) i) (rd (rnC R6.a R6.d n L) (i + 1)) s.fin s.last (s.first : Int) (crS R6.a R6.d L (rd (rnC R6.a R6.d n L) i) (rd (rnC R6.a R6.d n L) (i + 1))) (s.out.length - s.first) s.first s.out (by omega) (by omega)
   have e : D4.oneS (Qi (crS R6.a R6.d L (rd (rnC R6.a R6.d n L) i) (rd (rnC R6.a R6.d n L) (i + 1))) (rd (rnC R6.a R6.d n L) i) (rd (rnC R6.a R6.d n L) (i + 1)) a b n) (rd (rnC R6.a R6.d n L) i) (rd (rnC R6.a R6.d n L) (i + 1)) s = ⟨D4.grow s.out s.first (rd (rnC R6.a R6.d n L) (i + 1)), s.last, s.first, (rd (rnC R6.a R6.d n L) (i + 1))⟩ := by unfold Dim.oneS; rw [q]; rfl
   obtain ⟨N0, h0⟩ := x9u hl hn k (i + 1) (D4.oneS (Qi (crS R6.a R6.d L (rd (rnC R6.a R6.d n L) i) (rd (rnC R6.a R6.d n L) (i + 1))) (rd (rnC R6.a R6.d n L) i) (rd (rnC R6.a R6.d n L) (i + 1)) a b n) (rd (rnC R6.a R6.d n L) i) (rd (rnC R6.a R6.d n L) (i + 1)) s) (by omega) (by omega) (by omega) (by rw [e]; exact hla) (by rw [e]; simpa [Dim.grow_length] using hf)
   refine ⟨N0 + N4 + 1 + N2 + 1, ?_⟩
   rw [st0 (N0 + N4 + 1), Zv]
   simp only [Bool.and_eq_true, decide_eq_true_eq] at q
   obtain ⟨q1, q2, q3⟩ := q
   have q3' : Jf s.last (Qi (crS R6.a R6.d L (rd (rnC R6.a R6.d n L) i) (rd (rnC R6.a R6.d n L) (i + 1))) (rd (rnC R6.a R6.d n L) i) (rd (rnC R6.a R6.d n L) (i + 1)) a b n) = true := q3
   simp (disch := omega) only [Xc, Yz, Yr, e1, r0, r1, q2, q3', w1, w2, Zb, Zk, Zs, Zt, Yx, Yq, Yp, Zh, Zq, Zx, Ya, Zj, Nat.zero_add, decide_true, Bool.and_true, Bool.true_and, cond_true, cond_false]
   rw [h4 N0]
   unfold Dim.goX
   rw [hq]
   rw [e] at h0 ⊢
   exact h0
  ·obtain ⟨N3, h3⟩ := w9l (a := a) (b := b) (n := n) hl (i + 1) (by omega) (rd (rnC R6.a R6.d n L) i) (rd (rnC R6.a R6.d n L) (i + 1)) (Qi (crS R6.a R6.d L (rd (rnC R6.a R6.d n L) i) (rd (rnC R6.a R6.d n L) (i + 1))) (rd (rnC R6.a R6.d n L) i) (rd (rnC R6.a R6.d n L) (i + 1)) a b n) (s.out.length : Int) (crS R6.a R6.d L (rd (rnC R6.a R6.d n L) i) (rd (rnC R6.a R6.d n L) (i + 1))) hsl (Qi (crS R6.a R6.d L (rd (rnC R6.a R6.d n L) i) (rd (rnC R6.a R6.d n L) (i + 1))) (rd (rnC R6.a R6.d n L) i) (rd (rnC R6.a R6.d n L) (i + 1)) a b n).length 0 s.out (Nat.zero_add _) (by omega)
   simp only [List.drop_zero, z0y] at h3
   have e : D4.oneS (Qi (crS R6.a R6.d L (rd (rnC R6.a R6.d n L) i) (rd (rnC R6.a R6.d n L) (i + 1))) (rd (rnC R6.a R6.d n L) i) (rd (rnC R6.a R6.d n L) (i + 1)) a b n) (rd (rnC R6.a R6.d n L) i) (rd (rnC R6.a R6.d n L) (i + 1)) s = ⟨s.out ++ (Qi (crS R6.a R6.d L (rd (rnC R6.a R6.d n L) i) (rd (rnC R6.a R6.d n L) (i + 1))) (rd (rnC R6.a R6.d n L) i) (rd (rnC R6.a R6.d n L) (i + 1)) a b n).map (D4.put (rd (rnC R6.a R6.d n L) i) (rd (rnC R6.a R6.d n L) (i + 1))), (Qi (crS R6.a R6.d L (rd (rnC R6.a R6.d n L) i) (rd (rnC R6.a R6.d n L) (i + 1))) (rd (rnC R6.a R6.d n L) i) (rd (rnC R6.a R6.d n L) (i + 1)) a b n), s.out.length, (rd (rnC R6.a R6.d n L) (i + 1))⟩ := by unfold Dim.oneS; rw [q]; rfl
   obtain ⟨N0, h0⟩ := x9u hl hn k (i + 1) (D4.oneS (Qi (crS R6.a R6.d L (rd (rnC R6.a R6.d n L) i) (rd (rnC R6.a R6.d n L) (i + 1))) (rd (rnC R6.a R6.d n L) i) (rd (rnC R6.a R6.d n L) (i + 1)) a b n) (rd (rnC R6.a R6.d n L) i) (rd (rnC R6.a R6.d n L) (i + 1)) s) (by omega) (by omega) (by omega) (by rw [e]; exact hsl) (by rw [e]; simp)
   have hg : Xc L a b n (.h2 ((i + 1 : Nat) : Int) (crS R6.a R6.d L (rd (rnC R6.a R6.d n L) i) (rd (rnC R6.a R6.d n L) (i + 1))) (L.length : Int) s.out s.last (s.first : Int) s.fin (rnC R6.a R6.d n L).length (Xv (Yo (rnE R6.a R6.d n L)))) = .to (.h3 (Qi (crS R6.a R6.d L (rd (rnC R6.a R6.d n L) i) (rd (rnC R6.a R6.d n L) (i + 1))) (rd (rnC R6.a R6.d n L) i) (rd (rnC R6.a R6.d n L) (i + 1)) a b n) ((Qi (crS R6.a R6.d L (rd (rnC R6.a R6.d n L) i) (rd (rnC R6.a R6.d n L) (i + 1))) (rd (rnC R6.a R6.d n L) i) (rd (rnC R6.a R6.d n L) (i + 1)) a b n).length : Int) 0 ((i + 1 : Nat) : Int) (rd (rnC R6.a R6.d n L) i) (rd (rnC R6.a R6.d n L) (i + 1)) (crS R6.a R6.d L (rd (rnC R6.a R6.d n L) i) (rd (rnC R6.a R6.d n L) (i + 1))) s.out (s.out.length : Int) (rnC R6.a R6.d n L).length (Xv (Yo (rnE R6.a R6.d n L)))) := by
    have e3 : D4.same s.last (Qi (crS R6.a R6.d L (rd (rnC R6.a R6.d n L) i) (rd (rnC R6.a R6.d n L) (i + 1))) (rd (rnC R6.a R6.d n L) i) (rd (rnC R6.a R6.d n L) (i + 1)) a b n) = Jf s.last (Qi (crS R6.a R6.d L (rd (rnC R6.a R6.d n L) i) (rd (rnC R6.a R6.d n L) (i + 1))) (rd (rnC R6.a R6.d n L) i) (rd (rnC R6.a R6.d n L) (i + 1)) a b n) := rfl
    rw [e3] at q
    by_cases q1 : 0 < (Qi (crS R6.a R6.d L (rd (rnC R6.a R6.d n L) i) (rd (rnC R6.a R6.d n L) (i + 1))) (rd (rnC R6.a R6.d n L) i) (rd (rnC R6.a R6.d n L) (i + 1)) a b n).length
    ·rw [decide_eq_true q1, Bool.true_and] at q
     rcases Yg (s.fin == (rd (rnC R6.a R6.d n L) i)) with q2 | q2
     ·rw [q2, Bool.true_and] at q
      simp (disch := omega) only [Xc, Yz, Yr, e1, r0, r1, q2, q, w1, w2, Zb, Zk, Zs, Zt, Yx, Yq, Yp, Zh, Zq, Zx, Ya, Zj, Nat.zero_add, decide_true, Bool.and_true, Bool.true_and, cond_true, cond_false]
     ·simp (disch := omega) only [Xc, Yz, Yr, e1, r0, r1, q2, w1, w2, Zb, Zk, Zs, Zt, Yx, Yq, Yp, Zh, Zq, Zx, Ya, Zj, Nat.zero_add, decide_true, Bool.and_true, Bool.true_and, cond_true, cond_false]
    ·simp (disch := omega) only [Xc, Yz, Xk, e1, r0, r1, w1, w2, Zb, Zk, Zs, Zt, Yx, Yq, Yp, Zh, Zq, Zx, Ya, Zj, Nat.zero_add, decide_true, Bool.and_true, Bool.true_and, cond_true, cond_false]
   refine ⟨N0 + N3 + 1 + N2 + 1, ?_⟩
   rw [st0 (N0 + N3 + 1), Zv, hg, h3 N0]
   unfold Dim.goX
   rw [hq]
   rw [e] at h0 ⊢
   exact h0
def z0c (L : List R6) (a b n : Int) : Bool := decide (L.length ≤ 400) && !decide (n = 0)
def Qh (L : List R6) (a b n : Int) : List R4 := (D4.goX (layQ L a b n) (rnC R6.a R6.d n L) ((rnC R6.a R6.d n L).length - 1) 0 ⟨[], [], 0, 0⟩).out
theorem v3a (L : List R6) (a b n : Int) (h : z0c L a b n = true) : ∃ N, Yv (Xc L a b n) N (y3n L a b n) = .ret [.dat (Qh L a b n).length (Zz (Qh L a b n))] := by
 simp only [z0c, Bool.and_eq_true, Bool.not_eq_true', decide_eq_true_eq, decide_eq_false_iff_not] at h
 exact w9n h.1 h.2 (x9u h.1 h.2 _ 0 ⟨[], [], 0, 0⟩ (by omega) (Nat.zero_le _) (Nat.zero_le _) (Nat.zero_le _) (Nat.le_refl _)) L.length 0 [] (Nat.zero_add _) rfl
def fLay : List AVal → Option (AVal × Bool)
 | [a0, .agg [.int .i64 aW, .int .i64 aX], .int .i64 x2] => match asL R6 a0 with
  | some (L0, g0, n0) => some (.dat (Qh L0 aW aX x2).length (Zz (Qh L0 aW aX x2)), isT R6 n0 g0 && (z0c L0 aW aX x2))
  | _ => none
 | _ => none
theorem v4k {S : Specs} (hS : Zu prog S) : Zu prog (S.with w8x fLay) := by
 refine z1m hS (by kernel_rfl) fun args v h => ?_
 unfold fLay at h
 split at h
 ·rename_i a0 aW aX x2
  split at h
  ·rename_i L0 g0 n0 e0
   simp only [Option.some.injEq, Prod.mk.injEq, Bool.and_eq_true] at h
   obtain ⟨rfl, ho0, hw⟩ := h
   obtain ⟨N, hN⟩ := v3a L0 aW aX x2 hw
   exact ⟨_, _, (.cons (Yh e0 ho0) (.cons (.refl _) (.cons (.refl _) .nil))), rfl, w4k L0 aW aX x2 N _ hN, 3, rfl⟩
  ·cases h
 ·cases h
def Dg : Specs := (Df.with w8x fLay)
theorem Kr : Zu prog Dg := (v4k z1o)
end Go.Am
end
