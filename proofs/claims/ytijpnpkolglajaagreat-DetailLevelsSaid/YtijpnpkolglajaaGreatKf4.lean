/- A part of a proof: several texts in one. -/
import Derived.Test.YtijpnpkolglajaaGreatKf3
set_option maxRecDepth 1000000
set_option maxHeartbeats 8000000
set_option linter.unusedVariables false
set_option linter.unusedSimpArgs false
noncomputable section
namespace Go.Am
open Go.Proofs.Tryz
open Go.Proofs
def v3p (L1 : List R6) (d : Int) (L0 : List R6) : Bool := L0.all fun r => cvdV r.a r.b r.c r.d r.e r.f L1 d
def w4h (F : Int → Bool) : Nat → Int → Int → Int
 | 0, i, _ => i
 | n + 1, i, j => bif decide (i < j) then (bif F ((i + j) / 2) then w4h F n i ((i + j) / 2) else w4h F n ((i + j) / 2 + 1) j) else i
def y8o (L0 L1 : List R6) : Int := w4h (fun d => v3p L1 d L0) 22 0 2000000
def Uk (L0 L1 : List R6) : Bool := decide (L0.length ≤ 100000) && decide (L1.length ≤ 100000)
theorem cvd_o {a b c d e f : Int} {L : List R6} {x : Int} (h : L.length ≤ 100000) : z5d a b c d e f L x = true := decide_eq_true h
theorem v1y {L0 L1 : List R6} (h0 : L0.length ≤ 100000) (h1 : L1.length ≤ 100000) (v5 v6 v7 v19 d : Int) : ∀ (k i : Nat), i + k = L0.length → ∃ N, ∀ M, Yu (Ud L0 L1) (M + N) (.to (.h1 (i : Int) v5 v6 v7 v19 d)) = Yu (Ud L0 L1) M (bif v3p L1 d (L0.drop i) then .to (.h0 v5 v7) else .to (.h0 (IntKind.wrap .i64 (v7 + 1)) v6))
 | 0, i, h => by
  refine ⟨1, fun M => ?_⟩
  rw [Zw, List.drop_eq_nil_of_le (by omega)]
  simp (disch := omega) only [Ud, Zs, cond_false]; rfl
 | k + 1, i, h => by
  have hi : i < L0.length := by omega
  obtain ⟨N, hN⟩ := v1y h0 h1 v5 v6 v7 v19 d k (i + 1) (by omega)
  have hw : IntKind.wrap .i64 ((i : Int) + 1) = ((i + 1 : Nat) : Int) := Zj (by omega)
  rcases Zn (cvdV (rd L0 i).a (rd L0 i).b (rd L0 i).c (rd L0 i).d (rd L0 i).e (rd L0 i).f L1 d) with q | q
  ·refine ⟨N + 1, fun M => ?_⟩
   rw [← Nat.add_assoc, Zw, Yg hi]
   simp (disch := omega) only [Ud, Yv, Yj, w8y, hw, Zk, Zc, cvd_o h1, q, Bool.and_true, Bool.true_and, Bool.not_true, Bool.not_false, cond_true, cond_false, v3p, List.all_cons]
   exact hN M
  ·refine ⟨1, fun M => ?_⟩
   rw [Zw, Yg hi]
   simp (disch := omega) only [Ud, Yv, Yj, w8y, hw, Zk, Zc, cvd_o h1, q, Bool.and_true, Bool.false_and, Bool.not_true, Bool.not_false, cond_true, cond_false, v3p, List.all_cons]
theorem x2x {i j : Int} (hi : 0 ≤ i) (hj : j ≤ 2000000) (hij : i ≤ j) : IntKind.wrap .i64 (Int.fdiv (IntKind.wrap IntKind.u64 (IntKind.wrap .i64 (i + j))) 2) = (i + j) / 2 := by
 rw [Zj (n := i + j) (by omega)]
 have e : IntKind.wrap IntKind.u64 (i + j) = i + j := by
  show (i + j) % 18446744073709551616 = i + j
  omega
 rw [e, Int.fdiv_eq_ediv_of_nonneg _ (by omega), Zj (by omega)]
theorem w0t {L0 L1 : List R6} (h0 : L0.length ≤ 100000) (h1 : L1.length ≤ 100000) : ∀ (n : Nat) (i j : Int), 0 ≤ i → i ≤ j → j ≤ 2000000 → j - i < 2 ^ n → ∃ N, Yu (Ud L0 L1) N (.to (.h0 i j)) = .ret [.int .i64 (w4h (fun d => v3p L1 d L0) n i j)]
 | 0, i, j, hi, hij, hj, hn => by
  refine ⟨1, ?_⟩
  have : i = j := by simp at hn; omega
  rw [Zw]
  simp (disch := omega) only [Ud, Zs, cond_false, Zm, w4h]
 | n + 1, i, j, hi, hij, hj, hn => by
  by_cases hlt : i < j
  ·have hp : (2 : Int) ^ (n + 1) = 2 * 2 ^ n := by rw [Int.pow_succ, Int.mul_comm]
   rw [hp] at hn
   generalize hP : (2 : Int) ^ n = p at hn
   obtain ⟨N, hN⟩ := v1y h0 h1 i j ((i + j) / 2) ((i + j) / 2) ((i + j) / 2) L0.length 0 (Nat.zero_add _)
   unfold w4h
   rw [Yv hlt, cond_true]
   have hw : IntKind.wrap .i64 ((i + j) / 2 + 1) = (i + j) / 2 + 1 := Zj (by omega)
   rcases Zn (v3p L1 ((i + j) / 2) L0) with q | q
   ·obtain ⟨M, hM⟩ := w0t h0 h1 n i ((i + j) / 2) hi (by omega) (by omega) (by rw [hP]; omega)
    refine ⟨M + N + 1, ?_⟩
    rw [Zw]
    simp only [Ud, Yv hlt, cond_true, x2x hi hj hij]
    rw [show (0 : Int) = ((0 : Nat) : Int) from rfl, hN, List.drop_zero, q, cond_true, hM]; rfl
   ·obtain ⟨M, hM⟩ := w0t h0 h1 n ((i + j) / 2 + 1) j (by omega) (by omega) hj (by rw [hP]; omega)
    refine ⟨M + N + 1, ?_⟩
    rw [Zw]
    simp only [Ud, Yv hlt, cond_true, x2x hi hj hij]
    rw [show (0 : Int) = ((0 : Nat) : Int) from rfl, hN, List.drop_zero, q, cond_false, hw, hM]; rfl
  ·refine ⟨1, ?_⟩
   rw [Zw]
   simp (disch := omega) only [Ud, Zs, cond_false, Zm, w4h]
theorem v5y (L0 L1 : List R6) (h : Uk L0 L1 = true) : ∃ N, Yu (Ud L0 L1) N (y3y L0 L1) = .ret [.int .i64 (y8o L0 L1)] := by
 simp only [Uk, Bool.and_eq_true, decide_eq_true_eq] at h
 exact w0t h.1 h.2 22 0 2000000 (by omega) (by omega) (by omega) (by decide)
def w8h (x y z : Int) (r : R6) : Int := Xv (Xv (Xv (Xv (Xv (Xv 0 (IntKind.wrap .i64 (r.a - x))) (IntKind.wrap .i64 (IntKind.wrap .i64 (x - r.d) + 1))) (IntKind.wrap .i64 (r.b - y))) (IntKind.wrap .i64 (IntKind.wrap .i64 (y - r.e) + 1))) (IntKind.wrap .i64 (r.c - z))) (IntKind.wrap .i64 (IntKind.wrap .i64 (z - r.f) + 1))
def v3a (x y z : Int) : List R6 → Int → Int
 | [], d => d
 | r :: l, d => v3a x y z l (Wa d (w8h x y z r))
def z8t (x y z : Int) (L : List R6) : Int := v3a x y z (L.drop 1) (w8h x y z (rd L 0))
def Uq (x y z : Int) (L : List R6) : Bool := decide (0 < L.length) && decide (L.length ≤ 100000)
theorem v2z {x y z : Int} {L : List R6} (hl : L.length ≤ 100000) : ∀ (k i : Nat) (d : Int), i + k = L.length → ∃ N, Yu (z6a x y z L) N (.to (.h0 d (i : Int))) = .ret [.int .i64 (v3a x y z (L.drop i) d)]
 | 0, i, d, h => by
  refine ⟨1, ?_⟩
  rw [Zw, List.drop_eq_nil_of_le (by omega)]
  simp (disch := omega) only [z6a, Zs, cond_false]; rfl
 | k + 1, i, d, h => by
  have hi : i < L.length := by omega
  obtain ⟨N, hN⟩ := v2z hl k (i + 1) (Wa d (w8h x y z (rd L i))) (by omega)
  have hw : IntKind.wrap .i64 ((i : Int) + 1) = ((i + 1 : Nat) : Int) := Zj (by omega)
  refine ⟨N + 1, ?_⟩
  rw [Zw, Yg hi]
  simp (disch := omega) only [z6a, v3a, Yv, Yj, hw, Zk, Bool.and_true, cond_true]
  exact hN
theorem v7f (x y z : Int) (L : List R6) (h : Uq x y z L = true) : ∃ N, Yu (z6a x y z L) N (z8s x y z L) = .ret [.int .i64 (z8t x y z L)] := by
 simp only [Uq, Bool.and_eq_true, decide_eq_true_eq] at h
 obtain ⟨N, hN⟩ := v2z (x := x) (y := y) (z := z) h.2 (L.length - 1) 1 (w8h x y z (rd L 0)) (by omega)
 refine ⟨N, ?_⟩
 simp (disch := omega) only [z8s, Yj, Bool.and_true, cond_true]
 exact hN
def fRch : List AVal → Option (AVal × Bool)
 | [a0, a1] => match asL R6 a0, asL R6 a1 with
  | some (L0, g0, n0), some (L1, g1, n1) => some (.int .i64 (y8o L0 L1), isT R6 n0 g0 && (isT R6 n1 g1 && (Uk L0 L1)))
  | _, _ => none
 | _ => none
theorem v7y {S : Specs} (hS : Zu prog S) : Zu prog (S.with x3v fRch) := by
 refine z0x hS (by kernel_rfl) fun args v h => ?_
 unfold fRch at h
 split at h
 ·rename_i a0 a1
  split at h
  ·rename_i L0 g0 n0 L1 g1 n1 e0 e1
   simp only [Option.some.injEq, Prod.mk.injEq, Bool.and_eq_true] at h
   obtain ⟨rfl, ho0, ho1, hw⟩ := h
   obtain ⟨N, hN⟩ := v5y L0 L1 hw
   exact ⟨_, _, (.cons (asL_le e0 ho0) (.cons (asL_le e1 ho1) .nil)), rfl, w6i L0 L1 N _ hN, 3, rfl⟩
  ·cases h
 ·cases h
def fFrm : List AVal → Option (AVal × Bool)
 | [.agg [.int .i64 aM, .int .i64 aK, .int .i64 aI], a1] => match asL R6 a1 with
  | some (L1, g1, n1) => some (.int .i64 (z8t aM aK aI L1), isT R6 n1 g1 && (Uq aM aK aI L1))
  | _ => none
 | _ => none
theorem v8i {S : Specs} (hS : Zu prog S) : Zu prog (S.with w1r fFrm) := by
 refine z0x hS (by kernel_rfl) fun args v h => ?_
 unfold fFrm at h
 split at h
 ·rename_i aM aK aI a1
  split at h
  ·rename_i L1 g1 n1 e1
   simp only [Option.some.injEq, Prod.mk.injEq, Bool.and_eq_true] at h
   obtain ⟨rfl, ho1, hw⟩ := h
   obtain ⟨N, hN⟩ := v7f aM aK aI L1 hw
   exact ⟨_, _, (.cons (.refl _) (.cons (asL_le e1 ho1) .nil)), rfl, w8c aM aK aI L1 N _ hN, 3, rfl⟩
  ·cases h
 ·cases h
def Db : Specs := ((Da.with x3v fRch).with w1r fFrm)
theorem z0y : Zu prog Db := (v8i (v7y y1p))
end Go.Am
namespace Go.Am
open Go.Proofs.Tryz
open Go.Proofs
inductive rrcS where
 | h0 (v5 : Int) (v6 : Int)
 | h1 (v5 : Int) (v6 : Int) (v7 : Int)
 | h2 (v5 : Int) (v6 : Int) (v7 : Int) (v8 : Int)
 | h3 (v5 : Int) (v6 : Int) (v7 : Int) (v8 : Int) (v9 : Int)
def rrcC (l0 : List R6) (l1 : List R6) : rrcS → Cfg
 | .h0 v5 v6 => ⟨⟨73, 0, true⟩, none, (Za prog 59 [1, 1, 0, 1, 0, 0] 0), none, (Zy prog 3), ⟨Yb [(0, (.dat l0.length (Zz l0))), (1, (.dat l1.length (Zz l1))), (5, (ii v5)), (6, (ii v6))], Vq [] 0, 0, [], true⟩, [], .leaf⟩
 | .h1 v5 v6 v7 => ⟨⟨73, 0, true⟩, none, (Za prog 59 [1, 1, 0, 1, 0, 0, 1, 0, 0, 1, 0, 0] 0), none, (Zy prog 3), ⟨Yb [(0, (.dat l0.length (Zz l0))), (1, (.dat l1.length (Zz l1))), (5, (ii v5)), (6, (ii v6)), (7, (ii v7))], Vq [] 0, 0, [], true⟩, [], .leaf⟩
 | .h2 v5 v6 v7 v8 => ⟨⟨73, 0, true⟩, none, (Za prog 59 [1, 1, 0, 1, 0, 0, 1, 0, 0, 1, 0, 0, 1, 0, 0, 1, 0, 0] 0), none, (Zy prog 3), ⟨Yb [(0, (.dat l0.length (Zz l0))), (1, (.dat l1.length (Zz l1))), (5, (ii v5)), (6, (ii v6)), (7, (ii v7)), (8, (ii v8))], Vq [] 0, 0, [], true⟩, [], .leaf⟩
 | .h3 v5 v6 v7 v8 v9 => ⟨⟨73, 0, true⟩, none, (Za prog 59 [1, 1, 0, 1, 0, 0, 1, 0, 0, 1, 0, 0, 1, 0, 0, 1, 0, 0, 1, 0, 0, 1, 0, 0] 0), none, (Zy prog 3), ⟨Yb [(0, (.dat l0.length (Zz l0))), (1, (.dat l1.length (Zz l1))), (5, (ii v5)), (6, (ii v6)), (7, (ii v7)), (8, (ii v8)), (9, (ii v9))], Vq [] 0, 0, [], true⟩, [], .leaf⟩
def rrcN0 : List (Option (List Nat)) := [some [0, 1, 5, 6]]
def rrcM0 : List (Option (List Nat)) := []
def rrcN1 : List (Option (List Nat)) := [some [0, 1, 5, 6, 7]]
def rrcM1 : List (Option (List Nat)) := []
def rrcN2 : List (Option (List Nat)) := [some [0, 1, 5, 6, 7, 8]]
def rrcM2 : List (Option (List Nat)) := []
def rrcN3 : List (Option (List Nat)) := [some [0, 1, 5, 6, 7, 8, 9]]
def rrcM3 : List (Option (List Nat)) := []
def Ws (l0 : List R6) (l1 : List R6) : rrcS → Xj rrcS
 | .h0 v5 v6 => (bif (decide (v6 < (l0.length : Int))) then (bif ((decide (0 ≤ v6 ∧ v6 < (l0.length : Int))) && true) then (.to (.h1 v5 v6 (rd l0 v6.toNat).a)) else .stuck) else (.ret [(.int .i64 v5)]))
 | .h1 v5 v6 v7 => (bif ((decide (0 ≤ v6 ∧ v6 < (l0.length : Int))) && true) then (bif (decide (v7 < (rd l0 v6.toNat).d)) then (.to (.h2 v5 v6 v7 (rd l0 v6.toNat).b)) else (.to (.h0 v5 (IntKind.wrap .i64 (v6 + 1))))) else .stuck)
 | .h2 v5 v6 v7 v8 => (bif ((decide (0 ≤ v6 ∧ v6 < (l0.length : Int))) && true) then (bif (decide (v8 < (rd l0 v6.toNat).e)) then (.to (.h3 v5 v6 v7 v8 (rd l0 v6.toNat).c)) else (.to (.h1 v5 v6 (IntKind.wrap .i64 (v7 + 1))))) else .stuck)
 | .h3 v5 v6 v7 v8 v9 => (bif ((decide (0 ≤ v6 ∧ v6 < (l0.length : Int))) && true) then (bif (decide (v9 < (rd l0 v6.toNat).f)) then (bif (Uq v7 v8 v9 (cvT l1)) then (.to (.h3 (Xv v5 (z8t v7 v8 v9 (cvT l1))) v6 v7 v8 (IntKind.wrap .i64 (v9 + 1)))) else .stuck) else (.to (.h2 v5 v6 v7 (IntKind.wrap .i64 (v8 + 1))))) else .stuck)
def y3s (l0 : List R6) (l1 : List R6) : Xj rrcS := (.to (.h0 0 0))
theorem x5u (l0 : List R6) (l1 : List R6) : ∀ s, Xd prog (Zy prog 59) (rrcC l0 l1) (rrcC l0 l1 s) (Ws l0 l1 s)
 | .h0 v5 v6 => (lb (fun k0 => (lo fun o0 => (sl z0y 24 [] ⟨[], [], rrcN1, rrcM1⟩ ⟨[], [], []⟩ [true] (ww o0 (tt k0 nn))))) (fun k0 => (lr 73 3 [1, 1, 1, 1, 1, 1, 0] 1 3 [(4, (ii v5))] (sl z0y 15 [] ⟨[], [], [some [4]], []⟩ ⟨[], [], []⟩ [false] (tt k0 nn)))))
 | .h1 v5 v6 v7 => (lo fun aS => (lb (fun k0 => (sl z0y 28 [] ⟨[], [], rrcN2, rrcM2⟩ ⟨[], [], []⟩ [true] (ww aS (tt k0 (ww aS nn))))) (fun k0 => (sl z0y 21 [] ⟨[], [], rrcN0, rrcM0⟩ ⟨[], [], []⟩ [false] (tt k0 (ww aS nn))))))
 | .h2 v5 v6 v7 v8 => (lo fun aS => (lb (fun k0 => (sl z0y 28 [] ⟨[], [], rrcN3, rrcM3⟩ ⟨[], [], []⟩ [true] (ww aS (tt k0 (ww aS nn))))) (fun k0 => (sl z0y 21 [] ⟨[], [], rrcN1, rrcM1⟩ ⟨[], [], []⟩ [false] (tt k0 (ww aS nn))))))
 | .h3 v5 v6 v7 v8 v9 => (lo fun aS => (lb (fun k0 => (lo fun o0 => (sl z0y 34 [] ⟨[], [], rrcN3, rrcM3⟩ ⟨[], [], []⟩ [true] (pp (pp (xr l1) (xw o0)) (tt k0 (ww aS nn)))))) (fun k0 => (sl z0y 21 [] ⟨[], [], rrcN2, rrcM2⟩ ⟨[], [], []⟩ [false] (tt k0 (ww aS nn))))))
theorem y9q (l0 : List R6) (l1 : List R6) : Xd prog (Zy prog 59) (rrcC l0 l1) (Zg prog 59 [(.dat l0.length (Zz l0)), (.dat l1.length (Zz l1))] true []) (y3s l0 l1) := (sl z0y 15 [] ⟨[], [], rrcN0, rrcM0⟩ ⟨[], [], []⟩ [] nn)
theorem w5t (l0 : List R6) (l1 : List R6) (n : Nat) (vs : List AVal) (h : Yu (Ws l0 l1) n (y3s l0 l1) = .ret vs) : Ur prog (Zy prog 59) (Zg prog 59 [(.dat l0.length (Zz l0)), (.dat l1.length (Zz l1))] true []) vs := by
 have := Ze (x5u l0 l1) n _ (y9q l0 l1)
 rwa [h] at this
inductive nr39S where
 | h0 (v3 : Int)
def v6l (l0 : List R6) : nr39S → Cfg
 | .h0 v3 => ⟨⟨103, 0, true⟩, none, (Za prog 15 [1, 1, 0, 1, 0, 0] 0), none, (Zy prog 15), ⟨Yb [(0, (.dat l0.length (Zz l0))), (3, (ii v3))], Vq [] 0, 0, [], true⟩, [], .leaf⟩
def v2d : List (Option (List Nat)) := [some [0, 3]]
def v2e : List (Option (List Nat)) := []
def z2a (l0 : List R6) : nr39S → Xj nr39S
 | .h0 v3 => (bif (decide (v3 < (l0.length : Int))) then (bif ((decide (0 ≤ v3 ∧ v3 < (l0.length : Int))) && true) then (bif (decide ((Wa (Wa (rd l0 v3.toNat).a (rd l0 v3.toNat).b) (rd l0 v3.toNat).c) < (-12))) then (.ret [(.bool false)]) else (bif (decide ((Xv (Xv (rd l0 v3.toNat).d (rd l0 v3.toNat).e) (rd l0 v3.toNat).f) > 12)) then (.ret [(.bool false)]) else (bif (decide ((Wa (Wa (rd l0 v3.toNat).d (rd l0 v3.toNat).e) (rd l0 v3.toNat).f) < (-12))) then (.ret [(.bool false)]) else (bif (decide ((Xv (Xv (rd l0 v3.toNat).a (rd l0 v3.toNat).b) (rd l0 v3.toNat).c) > 12)) then (.ret [(.bool false)]) else (.to (.h0 (IntKind.wrap .i64 (v3 + 1)))))))) else .stuck) else (.ret [(.bool (decide ((l0.length : Int) ≤ 6)))]))
def z4p (l0 : List R6) : Xj nr39S := (bif (decide ((l0.length : Int) > 400)) then (.ret [(.bool (decide ((l0.length : Int) ≤ 420)))]) else (.to (.h0 0)))
theorem x0r (l0 : List R6) : ∀ s, Xd prog (Zy prog 15) (v6l l0) (v6l l0 s) (z2a l0 s)
 | .h0 v3 => (lb (fun k0 => (lo fun aF => (lb (fun k1 => (lr 103 15 [1, 1, 0, 1, 0, 0, 1, 0, 0, 0, 1, 0, 0] 1 15 [(2, (.bool false))] (sl z0y 20 [] ⟨[], [], [some [2]], []⟩ ⟨[], [], []⟩ (trs 22 []) (tt k1 (ww aF (ww aF (ww aF (tt k0 nn)))))))) (fun k1 => (lb (fun k2 => (lr 103 15 [1, 1, 0, 1, 0, 0, 1, 0, 0, 0, 1, 0, 0] 1 15 [(2, (.bool false))] (sl z0y 20 [] ⟨[], [], [some [2]], []⟩ ⟨[], [], []⟩ [true, false, false, false, false, false, false, false, false, false, false, false, false, false, false, false, false, false, false, false, false, true] (tt k2 (ww aF (ww aF (ww aF (tt k1 (ww aF (ww aF (ww aF (tt k0 nn)))))))))))) (fun k2 => (lb (fun k3 => (lr 103 15 [1, 1, 0, 1, 0, 0, 1, 0, 0, 1, 1, 0, 0] 1 15 [(2, (.bool false))] (sl z0y 24 [] ⟨[], [], [some [2]], []⟩ ⟨[], [], []⟩ [true, false, false, false, false, false, false, false, false, false, false, false, false, false, false, false, false, false, false, false, false, false, true, true, true, true, true, true, true, true, true, true, true, true, true, true, true, true, true, true, true, true, true] (tt k3 (ww aF (ww aF (ww aF (tt k2 (ww aF (ww aF (ww aF (tt k1 (ww aF (ww aF (ww aF (tt k0 nn)))))))))))))))) (fun k3 => (lb (fun k4 => (lr 103 15 [1, 1, 0, 1, 0, 0, 1, 0, 0, 1, 1, 0, 0] 1 15 [(2, (.bool false))] (sl z0y 24 [] ⟨[], [], [some [2]], []⟩ ⟨[], [], []⟩ [true, false, false, false, false, false, false, false, false, false, false, false, false, false, false, false, false, false, false, false, false, false, false, false, false, false, false, false, false, false, false, false, false, false, false, false, false, false, false, false, false, false, true] (tt k4 (ww aF (ww aF (ww aF (tt k3 (ww aF (ww aF (ww aF (tt k2 (ww aF (ww aF (ww aF (tt k1 (ww aF (ww aF (ww aF (tt k0 nn)))))))))))))))))))) (fun k4 => (sl z0y 28 [] ⟨[], [], v2d, v2e⟩ ⟨[], [], []⟩ [true, false, false, false, false, false, false, false, false, false, false, false, false, false, false, false, false, false, false, false, false, false, false, false, false, false, false, false, false, false, false, false, false, false, false, false, false, false, false, false, false, false, false] (tt k4 (ww aF (ww aF (ww aF (tt k3 (ww aF (ww aF (ww aF (tt k2 (ww aF (ww aF (ww aF (tt k1 (ww aF (ww aF (ww aF (tt k0 nn)))))))))))))))))))))))))))) (fun k0 => (lr 103 3 [1, 1, 1, 1, 1, 1, 0] 1 15 [(2, (.bool (decide ((l0.length : Int) ≤ 6))))] (sl z0y 17 [] ⟨[], [], [some [2]], []⟩ ⟨[], [], []⟩ [false] (tt k0 nn)))))
theorem y6o (l0 : List R6) : Xd prog (Zy prog 15) (v6l l0) (Zg prog 15 [(.dat l0.length (Zz l0))] true []) (z4p l0) := (lb (fun k0 => (lr 103 15 [1, 0, 1, 0, 0] 1 15 [(2, (.bool (decide ((l0.length : Int) ≤ 420))))] (sl z0y 19 [] ⟨[], [], [some [2]], []⟩ ⟨[], [], []⟩ [true] (tt k0 nn)))) (fun k0 => (sl z0y 20 [] ⟨[], [], v2d, v2e⟩ ⟨[], [], []⟩ [false] (tt k0 nn))))
theorem w1i (l0 : List R6) (n : Nat) (vs : List AVal) (h : Yu (z2a l0) n (z4p l0) = .ret vs) : Ur prog (Zy prog 15) (Zg prog 15 [(.dat l0.length (Zz l0))] true []) vs := by
 have := Ze (x0r l0) n _ (y6o l0)
 rwa [h] at this
end Go.Am
namespace Go.Am
open Go.Proofs.Tryz
open Go.Proofs
def lpI (g : Int → Int → Int) : Nat → Int → Int → Int
 | 0, _, d => d
 | n + 1, z, d => lpI g n (z + 1) (g z d)
def rgZ (L1 : List R6) (r : R6) (x y d : Int) : Int := lpI (fun z d => Xv d (z8t x y z L1)) (r.f - r.c).toNat r.c d
def rgY (L1 : List R6) (r : R6) (x d : Int) : Int := lpI (fun y d => rgZ L1 r x y d) (r.e - r.b).toNat r.b d
def rgX (L1 : List R6) (r : R6) (d : Int) : Int := lpI (fun x d => rgY L1 r x d) (r.d - r.a).toNat r.a d
def rrcF (L1 : List R6) : List R6 → Int → Int
 | [], d => d
 | r :: l, d => rrcF L1 l (rgX L1 r d)
def z8a (L0 L1 : List R6) : Int := rrcF L1 L0 0
def smR (r : R6) : Bool := decide (-1000000000 ≤ r.a) && (decide (-1000000000 ≤ r.b) && (decide (-1000000000 ≤ r.c) && (decide (r.d ≤ 1000000000) && (decide (r.e ≤ 1000000000) && decide (r.f ≤ 1000000000)))))
def Uu (L0 L1 : List R6) : Bool := decide (0 < L1.length) && (decide (L1.length ≤ 100000) && (decide (L0.length ≤ 100000) && L0.all smR))
theorem z7u {r : R6} (h : smR r = true) : (-1000000000 ≤ r.a ∧ -1000000000 ≤ r.b ∧ -1000000000 ≤ r.c) ∧ r.d ≤ 1000000000 ∧ r.e ≤ 1000000000 ∧ r.f ≤ 1000000000 := by
 simp only [smR, Bool.and_eq_true, decide_eq_true_eq] at h; omega
theorem v0z {L0 L1 : List R6} (h1 : 0 < L1.length ∧ L1.length ≤ 100000) {i : Nat} (hi : i < L0.length ∧ L0.length ≤ 100000) (hs : smR (rd L0 i) = true) (x y : Int) : ∀ (k : Nat) (z d : Int), -1000000000 ≤ z → ((rd L0 i).f - z).toNat = k → ∃ N, ∀ M, Yu (Ws L0 L1) (M + N) (.to (.h3 d (i : Int) x y z)) = Yu (Ws L0 L1) M (.to (.h2 (lpI (fun z d => Xv d (z8t x y z L1)) k z d) (i : Int) x (IntKind.wrap .i64 (y + 1))))
 | 0, z, d, hz, hk => by
  have hi := hi
  refine ⟨1, fun M => ?_⟩
  rw [Zw]
  simp (disch := omega) only [Ws, Zs, Yj, Zk, Bool.and_true, cond_true, cond_false, lpI]
 | k + 1, z, d, hz, hk => by
  have hh := z7u hs
  have ho : ∀ x y z, Uq x y z L1 = true := fun x y z => by unfold Uq; rw [Yd h1.1, Yp h1.2]; rfl
  obtain ⟨N, hN⟩ := v0z h1 hi hs x y k (z + 1) (Xv d (z8t x y z L1)) (by omega) (by omega)
  have hi := hi
  have hw : IntKind.wrap .i64 (z + 1) = z + 1 := Zj (by omega)
  refine ⟨N + 1, fun M => ?_⟩
  rw [← Nat.add_assoc, Zw]
  simp (disch := omega) only [Ws, Yv, Yj, Zk, Zc, ho, hw, Bool.and_true, cond_true, lpI]
  exact hN M
theorem v1a {L0 L1 : List R6} (h1 : 0 < L1.length ∧ L1.length ≤ 100000) {i : Nat} (hi : i < L0.length ∧ L0.length ≤ 100000) (hs : smR (rd L0 i) = true) (x : Int) : ∀ (k : Nat) (y d : Int), -1000000000 ≤ y → ((rd L0 i).e - y).toNat = k → ∃ N, ∀ M, Yu (Ws L0 L1) (M + N) (.to (.h2 d (i : Int) x y)) = Yu (Ws L0 L1) M (.to (.h1 (lpI (fun y d => rgZ L1 (rd L0 i) x y d) k y d) (i : Int) (IntKind.wrap .i64 (x + 1))))
 | 0, y, d, hy, hk => by
  have hi := hi
  refine ⟨1, fun M => ?_⟩
  rw [Zw]
  simp (disch := omega) only [Ws, Zs, Yj, Zk, Bool.and_true, cond_true, cond_false, lpI]
 | k + 1, y, d, hy, hk => by
  have hh := z7u hs
  obtain ⟨N, hN⟩ := v1a h1 hi hs x k (y + 1) (rgZ L1 (rd L0 i) x y d) (by omega) (by omega)
  obtain ⟨N', hN'⟩ := v0z h1 hi hs x y ((rd L0 i).f - (rd L0 i).c).toNat (rd L0 i).c d (by omega) rfl
  have hi := hi
  have hw : IntKind.wrap .i64 (y + 1) = y + 1 := Zj (by omega)
  refine ⟨N + N' + 1, fun M => ?_⟩
  rw [← Nat.add_assoc, Zw]
  simp (disch := omega) only [Ws, Yv, Yj, Zk, Bool.and_true, cond_true, lpI]
  rw [← Nat.add_assoc, hN', hw]
  exact hN M
theorem v1b {L0 L1 : List R6} (h1 : 0 < L1.length ∧ L1.length ≤ 100000) {i : Nat} (hi : i < L0.length ∧ L0.length ≤ 100000) (hs : smR (rd L0 i) = true)  : ∀ (k : Nat) (x d : Int), -1000000000 ≤ x → ((rd L0 i).d - x).toNat = k → ∃ N, ∀ M, Yu (Ws L0 L1) (M + N) (.to (.h1 d (i : Int) x)) = Yu (Ws L0 L1) M (.to (.h0 (lpI (fun x d => rgY L1 (rd L0 i) x d) k x d) ((i + 1 : Nat) : Int)))
 | 0, x, d, hx, hk => by
  have hi := hi
  have hw : IntKind.wrap .i64 ((i : Int) + 1) = ((i + 1 : Nat) : Int) := Zj (by omega)
  refine ⟨1, fun M => ?_⟩
  rw [Zw]
  simp (disch := omega) only [Ws, Zs, Yj, Zk, hw, Bool.and_true, cond_true, cond_false, lpI]
 | k + 1, x, d, hx, hk => by
  have hh := z7u hs
  obtain ⟨N, hN⟩ := v1b h1 hi hs k (x + 1) (rgY L1 (rd L0 i) x d) (by omega) (by omega)
  obtain ⟨N', hN'⟩ := v1a h1 hi hs x ((rd L0 i).e - (rd L0 i).b).toNat (rd L0 i).b d (by omega) rfl
  have hi := hi
  have hw : IntKind.wrap .i64 (x + 1) = x + 1 := Zj (by omega)
  refine ⟨N + N' + 1, fun M => ?_⟩
  rw [← Nat.add_assoc, Zw]
  simp (disch := omega) only [Ws, Yv, Yj, Zk, Bool.and_true, cond_true, lpI]
  rw [← Nat.add_assoc, hN', hw]
  exact hN M
theorem v1c {L0 L1 : List R6} (h1 : 0 < L1.length ∧ L1.length ≤ 100000) (h0 : L0.length ≤ 100000) (hs : ∀ r ∈ L0, smR r = true) : ∀ (k i : Nat) (d : Int), i + k = L0.length → ∃ N, Yu (Ws L0 L1) N (.to (.h0 d (i : Int))) = .ret [.int .i64 (rrcF L1 (L0.drop i) d)]
 | 0, i, d, h => by
  refine ⟨1, ?_⟩
  rw [Zw, List.drop_eq_nil_of_le (by omega)]
  simp (disch := omega) only [Ws, Zs, cond_false]; rfl
 | k + 1, i, d, h => by
  have hi : i < L0.length := by omega
  have hr : smR (rd L0 i) = true := hs _ (by rw [Xa hi]; exact List.getElem_mem hi)
  have hh := z7u hr
  obtain ⟨N, hN⟩ := v1c h1 h0 hs k (i + 1) (rgX L1 (rd L0 i) d) (by omega)
  obtain ⟨N', hN'⟩ := v1b h1 ⟨hi, h0⟩ hr ((rd L0 i).d - (rd L0 i).a).toNat (rd L0 i).a d (by omega) rfl
  refine ⟨N + N' + 1, ?_⟩
  rw [Zw, Yg hi]
  simp (disch := omega) only [Ws, Yv, Yj, Zk, Bool.and_true, cond_true]
  rw [hN']
  exact hN
theorem v5c (L0 L1 : List R6) (h : Uu L0 L1 = true) : ∃ N, Yu (Ws L0 L1) N (y3s L0 L1) = .ret [.int .i64 (z8a L0 L1)] := by
 simp only [Uu, Bool.and_eq_true, decide_eq_true_eq, List.all_eq_true] at h
 exact v1c ⟨h.1, h.2.1⟩ h.2.2.1 h.2.2.2 L0.length 0 0 (Nat.zero_add _)
def w7c (r : R6) : Bool := !decide (Wa (Wa r.a r.b) r.c < (-12)) && (!decide (Xv (Xv r.d r.e) r.f > 12) && (!decide (Wa (Wa r.d r.e) r.f < (-12)) && !decide (Xv (Xv r.a r.b) r.c > 12)))
def y6p (L : List R6) : Bool := bif decide ((L.length : Int) > 400) then decide ((L.length : Int) ≤ 420) else L.all w7c && decide ((L.length : Int) ≤ 6)
def z2b (L : List R6) : Bool := true
theorem w1h {L : List R6} (hl : L.length ≤ 400) : ∀ (k i : Nat), i + k = L.length → ∃ N, Yu (z2a L) N (.to (.h0 (i : Int))) = .ret [.bool ((L.drop i).all w7c && decide ((L.length : Int) ≤ 6))]
 | 0, i, h => by
  refine ⟨1, ?_⟩
  rw [Zw, List.drop_eq_nil_of_le (by omega)]
  simp (disch := omega) only [z2a, Zs, cond_false]; rfl
 | k + 1, i, h => by
  have hi : i < L.length := by omega
  obtain ⟨N, hN⟩ := w1h hl k (i + 1) (by omega)
  have hw : IntKind.wrap .i64 ((i : Int) + 1) = ((i + 1 : Nat) : Int) := Zj (by omega)
  refine ⟨N + 1, ?_⟩
  rw [Zw, Yg hi]
  simp (disch := omega) only [z2a, Yv, Yj, hw, Zk, Bool.and_true, cond_true, List.all_cons]
  unfold w7c
  cases decide (Wa (Wa (rd L i).a (rd L i).b) (rd L i).c < (-12)) <;> cases decide (Xv (Xv (rd L i).d (rd L i).e) (rd L i).f > 12) <;> cases decide (Wa (Wa (rd L i).d (rd L i).e) (rd L i).f < (-12)) <;> cases decide (Xv (Xv (rd L i).a (rd L i).b) (rd L i).c > 12) <;> first | exact Zm _ _ _ | exact hN
theorem w6x (L : List R6) (h : z2b L = true) : ∃ N, Yu (z2a L) N (z4p L) = .ret [.bool (y6p L)] := by
 unfold z4p y6p
 by_cases hl : L.length ≤ 400
 ·obtain ⟨N, hN⟩ := w1h hl L.length 0 (Nat.zero_add _)
  refine ⟨N, ?_⟩
  rw [Yo (by omega), cond_false, cond_false]; exact hN
 ·refine ⟨0, ?_⟩
  rw [Yn (by omega)]; rfl
def fRrc : List AVal → Option (AVal × Bool)
 | [a0, a1] => match asL R6 a0, asL R6 a1 with
  | some (L0, g0, n0), some (L1, g1, n1) => some (.int .i64 (z8a L0 L1), isT R6 n0 g0 && (isT R6 n1 g1 && (Uu L0 L1)))
  | _, _ => none
 | _ => none
theorem v7r {S : Specs} (hS : Zu prog S) : Zu prog (S.with y6t fRrc) := by
 refine z0x hS (by kernel_rfl) fun args v h => ?_
 unfold fRrc at h
 split at h
 ·rename_i a0 a1
  split at h
  ·rename_i L0 g0 n0 L1 g1 n1 e0 e1
   simp only [Option.some.injEq, Prod.mk.injEq, Bool.and_eq_true] at h
   obtain ⟨rfl, ho0, ho1, hw⟩ := h
   obtain ⟨N, hN⟩ := v5c L0 L1 hw
   exact ⟨_, _, (.cons (asL_le e0 ho0) (.cons (asL_le e1 ho1) .nil)), rfl, w5t L0 L1 N _ hN, 3, rfl⟩
  ·cases h
 ·cases h
def v8c : List AVal → Option (AVal × Bool)
 | [a0] => match asL R6 a0 with
  | some (L0, g0, n0) => some (.bool (y6p L0), isT R6 n0 g0 && (z2b L0))
  | _ => none
 | _ => none
theorem w8j {S : Specs} (hS : Zu prog S) : Zu prog (S.with w1q v8c) := by
 refine z0x hS (by kernel_rfl) fun args v h => ?_
 unfold v8c at h
 split at h
 ·rename_i a0
  split at h
  ·rename_i L0 g0 n0 e0
   simp only [Option.some.injEq, Prod.mk.injEq, Bool.and_eq_true] at h
   obtain ⟨rfl, ho0, hw⟩ := h
   obtain ⟨N, hN⟩ := w6x L0 hw
   exact ⟨_, _, (.cons (asL_le e0 ho0) .nil), rfl, w1i L0 N _ hN, 3, rfl⟩
  ·cases h
 ·cases h
def Dc : Specs := ((Db.with y6t fRrc).with w1q v8c)
theorem Ve : Zu prog Dc := (w8j (v7r z0y))
end Go.Am
namespace Go.Am
open Go.Proofs Go.Sort Go.Shelf Go.RowKit Go.Lib
def pt (L : List R2) (y : Int) : Prop := ∃ s ∈ L, s.a ≤ y ∧ y < s.b
structure Can (L : List R2) : Prop where
 pos : ∀ s ∈ L, s.a < s.b
 sep : L.Pairwise fun s t => s.b < t.a
theorem Can.nil : Can [] := ⟨by simp, .nil⟩
theorem Can.tail {s : R2} {L : List R2} (h : Can (s :: L)) : Can L := ⟨fun t ht => h.pos t (List.mem_cons_of_mem _ ht), (List.pairwise_cons.1 h.sep).2⟩
theorem Can.head {s : R2} {L : List R2} (h : Can (s :: L)) : ∀ t ∈ L, s.b < t.a := (List.pairwise_cons.1 h.sep).1
theorem v3k {s : R2} {L : List R2} (h : Can (s :: L)) {y : Int} (hy : pt (s :: L) y) : s.a ≤ y := by
 obtain ⟨t, ht, h1, h2⟩ := hy
 rcases List.mem_cons.1 ht with rfl | ht
 ·exact h1
 ·have := h.head t ht; have := h.pos s (by simp); omega
theorem w3n : ∀ (L M : List R2), Can L → Can M → (∀ y, pt L y ↔ pt M y) → L = M
 | [], [], _, _, _ => rfl
 | [], t :: M, _, hM, h => by
  have := (h t.a).2 ⟨t, by simp, Int.le_refl _, hM.pos t (by simp)⟩
  obtain ⟨s, hs, _⟩ := this; cases hs
 | s :: L, [], hL, _, h => by
  have := (h s.a).1 ⟨s, by simp, Int.le_refl _, hL.pos s (by simp)⟩
  obtain ⟨s, hs, _⟩ := this; cases hs
 | s :: L, t :: M, hL, hM, h => by
  have p1 := hL.pos s (by simp)
  have p2 := hM.pos t (by simp)
  have a1 : t.a ≤ s.a := v3k hM ((h s.a).1 ⟨s, by simp, Int.le_refl _, p1⟩)
  have a2 : s.a ≤ t.a := v3k hL ((h t.a).2 ⟨t, by simp, Int.le_refl _, p2⟩)
  have b1 : ¬ s.b < t.b := fun hb => by
   obtain ⟨u, hu, h1, h2⟩ := (h s.b).2 ⟨t, by simp, by omega, hb⟩
   rcases List.mem_cons.1 hu with rfl | hu
   ·omega
   ·have := hL.head u hu; omega
  have b2 : ¬ t.b < s.b := fun hb => by
   obtain ⟨u, hu, h1, h2⟩ := (h t.b).1 ⟨s, by simp, by omega, hb⟩
   rcases List.mem_cons.1 hu with rfl | hu
   ·omega
   ·have := hM.head u hu; omega
  have e : s = t := by
   obtain ⟨sa, sb⟩ := s; obtain ⟨ta, tb⟩ := t
   simp only at a1 a2 b1 b2
   have : sa = ta := by omega
   have : sb = tb := by omega
   subst_vars; rfl
  subst e
  congr 1
  refine w3n L M hL.tail hM.tail fun y => ⟨fun hy => ?_, fun hy => ?_⟩
  ·obtain ⟨u, hu, h1, h2⟩ := hy
   have g := hL.head u hu
   obtain ⟨v, hv, h3, h4⟩ := (h y).1 ⟨u, by simp [hu], h1, h2⟩
   rcases List.mem_cons.1 hv with rfl | hv
   ·omega
   ·exact ⟨v, hv, h3, h4⟩
  ·obtain ⟨u, hu, h1, h2⟩ := hy
   have g := hM.head u hu
   obtain ⟨v, hv, h3, h4⟩ := (h y).2 ⟨u, by simp [hu], h1, h2⟩
   rcases List.mem_cons.1 hv with rfl | hv
   ·omega
   ·exact ⟨v, hv, h3, h4⟩
def push (out : List R2) (x x' : Int) : List R2 :=
 bif decide (0 < out.length) && ((rd out (out.length - 1)).b == x) then out.set (out.length - 1) ⟨(rd out (out.length - 1)).a, x'⟩ else out ++ [⟨x, x'⟩]
theorem w0x (out : List R2) (s : R2) (x x' : Int) : push (out ++ [s]) x x' = bif s.b == x then out ++ [⟨s.a, x'⟩] else out ++ [s] ++ [⟨x, x'⟩] := by
 have e : rd (out ++ [s]) ((out ++ [s]).length - 1) = s := by
  rw [Vx (by simp)]; simp [rd]
 unfold push
 rw [e, decide_eq_true (by simp), Bool.true_and]
 cases (s.b == x)
 ·rfl
 ·simp
theorem x3l {out : List R2} {x x' : Int} (hc : Can out) (hb : ∀ s ∈ out, s.b ≤ x) (hx : x < x') :
  Can (push out x x') ∧ (∀ s ∈ push out x x', s.b ≤ x') ∧ ∀ y, pt (push out x x') y ↔ pt out y ∨ (x ≤ y ∧ y < x') := by
 rcases List.eq_nil_or_concat out with rfl | ⟨L, s, rfl⟩
 ·refine ⟨⟨?_, ?_⟩, ?_, fun y => ?_⟩
  ·intro s hs; simp [push] at hs; subst hs; exact hx
  ·simp [push]
  ·intro s hs; simp [push] at hs; subst hs; exact Int.le_refl _
  ·simp [push, pt]
 ·rw [List.concat_eq_append] at *
  rw [w0x]
  have hs := hb s (by simp)
  have hp := hc.pos s (by simp)
  have sep := List.pairwise_append.1 hc.sep
  rcases Zn (s.b == x) with q | q
  ·rw [q, cond_true]
   have q : s.b = x := by simpa using q
   refine ⟨⟨?_, ?_⟩, ?_, fun y => ?_⟩
   ·intro t ht
    rcases List.mem_append.1 ht with ht | ht
    ·exact hc.pos t (by simp [ht])
    ·rw [List.mem_singleton.1 ht]; show s.a < x'; omega
   ·refine List.pairwise_append.2 ⟨sep.1, List.pairwise_singleton _ _, fun t ht u hu => ?_⟩
    rw [List.mem_singleton.1 hu]
    exact sep.2.2 t ht s (by simp)
   ·intro t ht
    rcases List.mem_append.1 ht with ht | ht
    ·have := hb t (by simp [ht]); omega
    ·rw [List.mem_singleton.1 ht]; exact Int.le_refl _
   ·constructor
    ·rintro ⟨t, ht, h1, h2⟩
     rcases List.mem_append.1 ht with ht | ht
     ·exact .inl ⟨t, by simp [ht], h1, h2⟩
     ·rw [List.mem_singleton.1 ht] at h1 h2
      by_cases hy : y < s.b
      ·exact .inl ⟨s, by simp, h1, hy⟩
      ·exact .inr ⟨by omega, h2⟩
    ·rintro (⟨t, ht, h1, h2⟩ | ⟨h1, h2⟩)
     ·rcases List.mem_append.1 ht with ht | ht
      ·exact ⟨t, by simp [ht], h1, h2⟩
      ·rw [List.mem_singleton.1 ht] at h1 h2
       exact ⟨⟨s.a, x'⟩, by simp, h1, by show y < x'; omega⟩
     ·exact ⟨⟨s.a, x'⟩, by simp, by show s.a ≤ y; omega, h2⟩
  ·rw [q, cond_false]
   have q : s.b ≠ x := by simpa using q
   refine ⟨⟨?_, ?_⟩, ?_, fun y => ?_⟩
   ·intro t ht
    rcases List.mem_append.1 ht with ht | ht
    ·exact hc.pos t ht
    ·rw [List.mem_singleton.1 ht]; exact hx
   ·refine List.pairwise_append.2 ⟨hc.sep, List.pairwise_singleton _ _, fun t ht u hu => ?_⟩
    rw [List.mem_singleton.1 hu]
    show t.b < x
    rcases List.mem_append.1 ht with h | h
    ·have h1 := sep.2.2 t h s (by simp); omega
    ·rw [List.mem_singleton.1 h]; omega
   ·intro t ht
    rcases List.mem_append.1 ht with ht | ht
    ·have := hb t ht; omega
    ·rw [List.mem_singleton.1 ht]; exact Int.le_refl _
   ·constructor
    ·rintro ⟨t, ht, h1, h2⟩
     rcases List.mem_append.1 ht with ht | ht
     ·exact .inl ⟨t, ht, h1, h2⟩
     ·rw [List.mem_singleton.1 ht] at h1 h2
      exact .inr ⟨h1, h2⟩
    ·rintro (⟨t, ht, h1, h2⟩ | ⟨h1, h2⟩)
     ·exact ⟨t, List.mem_append.2 (.inl ht), h1, h2⟩
     ·exact ⟨⟨x, x'⟩, by simp, h1, h2⟩
theorem y4e {l : List Int} (h : l.Pairwise (· < ·)) {i j : Nat} (hij : i < j) (hj : j < l.length) : rd l i < rd l j := by
 rw [Xa (by omega), Xa hj]
 exact List.pairwise_iff_getElem.1 h i j (by omega) hj hij
theorem y4v (cuts : List Int) (ins : List Bool) (hc : cuts.Pairwise (· < ·)) : ∀ (k i : Nat) (out : List R2), i + k < cuts.length ∨ k = 0 → Can out → (∀ s ∈ out, s.b ≤ rd cuts i) →
  Can (x8g cuts ins k i out) ∧ ∀ y, pt (x8g cuts ins k i out) y ↔ pt out y ∨ ∃ j, i ≤ j ∧ j < i + k ∧ rd ins j = true ∧ rd cuts j ≤ y ∧ y < rd cuts (j + 1)
 | 0, i, out, h, ho, hb => ⟨ho, fun y => ⟨.inl, fun hy => hy.elim id fun ⟨j, h1, h2, _⟩ => by omega⟩⟩
 | k + 1, i, out, h, ho, hb => by
  have hlt : rd cuts i < rd cuts (i + 1) := y4e hc (Nat.lt_succ_self _) (by omega)
  obtain ⟨p1, p2, p3⟩ := x3l ho hb hlt
  have e : x8g cuts ins (k + 1) i out = x8g cuts ins k (i + 1) (bif rd ins i then push out (rd cuts i) (rd cuts (i + 1)) else out) := rfl
  rw [e]
  rcases Zn (rd ins i) with q | q
  ·rw [q, cond_true]
   obtain ⟨r1, r2⟩ := y4v cuts ins hc k (i + 1) (push out (rd cuts i) (rd cuts (i + 1))) (by omega) p1 p2
   refine ⟨r1, fun y => ?_⟩
   rw [r2, p3]
   constructor
   ·rintro ((h | h) | ⟨j, h1, h2, h3⟩)
    ·exact .inl h
    ·exact .inr ⟨i, Nat.le_refl _, by omega, q, h⟩
    ·exact .inr ⟨j, by omega, by omega, h3⟩
   ·rintro (h | ⟨j, h1, h2, h3⟩)
    ·exact .inl (.inl h)
    ·rcases Nat.eq_or_lt_of_le h1 with rfl | h1
     ·exact .inl (.inr h3.2)
     ·exact .inr ⟨j, h1, by omega, h3⟩
  ·rw [q, cond_false]
   obtain ⟨r1, r2⟩ := y4v cuts ins hc k (i + 1) out (by omega) ho (fun s hs => by have := hb s hs; omega)
   refine ⟨r1, fun y => ?_⟩
   rw [r2]
   constructor
   ·rintro (h | ⟨j, h1, h2, h3⟩)
    ·exact .inl h
    ·exact .inr ⟨j, by omega, by omega, h3⟩
   ·rintro (h | ⟨j, h1, h2, h3⟩)
    ·exact .inl h
    ·rcases Nat.eq_or_lt_of_le h1 with rfl | h1
     ·rw [q] at h3; cases h3.1
     ·exact .inr ⟨j, h1, by omega, h3⟩
theorem x2g {cuts : List Int} : ∀ (k : Nat), k < cuts.length → ∀ y, rd cuts 0 ≤ y → y < rd cuts k → ∃ j, j < k ∧ rd cuts j ≤ y ∧ y < rd cuts (j + 1)
 | 0, _, y, h1, h2 => by omega
 | k + 1, hk, y, h1, h2 => by
  by_cases h : rd cuts k ≤ y
  ·exact ⟨k, Nat.lt_succ_self _, h, h2⟩
  ·obtain ⟨j, h3, h4⟩ := x2g k (by omega) y h1 (by omega)
   exact ⟨j, by omega, h4⟩
theorem w9o (cuts : List Int) (hc : cuts.Pairwise (· < ·)) (P : Int → Bool) (S : List R2) (hS : ∀ s ∈ S, s.a ∈ cuts ∧ s.b ∈ cuts) (hP : ∀ y, P y = true ↔ pt S y) :
  Can (z7g cuts (cuts.map P)) ∧ ∀ y, pt (z7g cuts (cuts.map P)) y ↔ pt S y := by
 obtain ⟨r1, r2⟩ := y4v cuts (cuts.map P) hc (cuts.length - 1) 0 [] (by omega) .nil (by simp)
 refine ⟨r1, fun y => ?_⟩
 unfold z7g
 rw [r2]
 have hin : ∀ x, x ∈ cuts → ∃ i, i < cuts.length ∧ rd cuts i = x := fun x hx => by
  obtain ⟨i, hi, h⟩ := List.getElem_of_mem hx
  exact ⟨i, hi, by rw [Xa hi]; exact h⟩
 have hmap : ∀ j, j < cuts.length → rd (cuts.map P) j = P (rd cuts j) := fun j hj => by
  rw [Xa (by simpa using hj), Xa hj, List.getElem_map]
 have le_of : ∀ i j, i < cuts.length → j < cuts.length → i ≤ j → rd cuts i ≤ rd cuts j := fun i j hi hj hij => by
  rcases Nat.eq_or_lt_of_le hij with rfl | h
  ·exact Int.le_refl _
  ·exact Int.le_of_lt (y4e hc h hj)
 constructor
 ·rintro (⟨s, hs, _⟩ | ⟨j, h1, h2, h3, h4, h5⟩)
  ·cases hs
  ·have hj : j + 1 < cuts.length := by omega
   rw [hmap j (by omega)] at h3
   obtain ⟨s, hs, a1, a2⟩ := (hP _).1 h3
   obtain ⟨ca, cb⟩ := hS s hs
   obtain ⟨m, hm, em⟩ := hin s.b cb
   refine ⟨s, hs, by omega, ?_⟩
   have : j < m := by
    rcases Nat.lt_or_ge j m with h | h
    ·exact h
    ·have := le_of m j hm (by omega) h; omega
   have := le_of (j + 1) m hj hm this
   omega
 ·rintro ⟨s, hs, a1, a2⟩
  right
  obtain ⟨ca, cb⟩ := hS s hs
  obtain ⟨n, hn, en⟩ := hin s.a ca
  obtain ⟨m, hm, em⟩ := hin s.b cb
  have h0 := le_of 0 n (by omega) hn (Nat.zero_le _)
  obtain ⟨j, h1, h2, h3⟩ := x2g m hm y (by omega) (by omega)
  refine ⟨j, Nat.zero_le _, by omega, ?_, h2, h3⟩
  rw [hmap j (by omega), hP]
  refine ⟨s, hs, ?_, ?_⟩
  ·have : n ≤ j := by
    rcases Nat.lt_or_ge j n with h | h
    ·have := le_of (j + 1) n (by omega) hn h; omega
    ·exact h
   have := le_of n j hn (by omega) this
   omega
  ·omega
end Go.Am
namespace Go.Am
open Go.Proofs Go.Sort Go.Shelf Go.RowKit Go.Lib
def net (E : List R3) (y : Int) : Int := (E.map fun e => if e.a ≤ y then e.c else 0).sum
theorem Jh (e : R3) (E : List R3) (y : Int) : net (e :: E) y = (if e.a ≤ y then e.c else 0) + net E y := by simp [net]
theorem w7a {E F : List R3} (h : E.Perm F) (y : Int) : net E y = net F y := by
 induction h with
 | nil => rfl
 | cons e _ ih => rw [Jh, Jh, ih]
 | swap a b l => simp only [Jh]; omega
 | trans _ _ i1 i2 => rw [i1, i2]
theorem x3n (E : List R3) (y : Int) (h : ∀ e ∈ E, y < e.a) : net E y = 0 := by
 induction E with
 | nil => rfl
 | cons e E ih =>
  rw [Jh, if_neg (by have := h e (by simp); omega), ih fun f hf => h f (by simp [hf])]; rfl
theorem w3l (out : List R2) (last : Int) (inn : Bool) (x : Int) : Qu out last inn x = bif inn && !(last == x) then push out last x else out := by
 unfold Qu push
 cases inn
 ·rfl
 ·cases (last == x) <;> rfl
theorem x7r {out : List R2} {last x : Int} (inn : Bool) (hc : Can out) (hb : ∀ s ∈ out, s.b ≤ last) (hx : last ≤ x) :
  Can (Qu out last inn x) ∧ (∀ s ∈ Qu out last inn x, s.b ≤ x) ∧ ∀ y, pt (Qu out last inn x) y ↔ pt out y ∨ (inn = true ∧ last ≤ y ∧ y < x) := by
 rw [w3l]
 rcases Zn (inn && !(last == x)) with q | q
 ·rw [q, cond_true]
  simp only [Bool.and_eq_true, Bool.not_eq_true', beq_eq_false_iff_ne, ne_eq] at q
  obtain ⟨p1, p2, p3⟩ := x3l hc hb (show last < x by omega)
  refine ⟨p1, p2, fun y => ?_⟩
  rw [p3]; simp [q.1]
 ·rw [q, cond_false]
  refine ⟨hc, fun s hs => by have := hb s hs; omega, fun y => ⟨.inl, fun h => h.elim id fun ⟨h1, h2, h3⟩ => ?_⟩⟩
  rw [h1, Bool.true_and] at q
  have : last = x := by simpa using q
  omega
def Asc (E : List R3) : Prop := E.Pairwise fun e f => e.a ≤ f.a
theorem x8o : ∀ (E : List R3) (o last : Int) (out : List R2), Asc E → (∀ e ∈ E, last ≤ e.a) → Can out → (∀ s ∈ out, s.b ≤ last) →
  Can (swF E o last (decide (o > 0)) out) ∧ ∀ y, pt (swF E o last (decide (o > 0)) out) y ↔ pt out y ∨ (last ≤ y ∧ 0 < o + net E y ∧ ∃ e ∈ E, y < e.a)
 | [], o, last, out, _, _, hc, _ => ⟨hc, fun y => ⟨.inl, fun h => h.elim id fun ⟨_, _, e, he, _⟩ => by cases he⟩⟩
 | e :: r, o, last, out, hE, hl, hc, hb => by
  have he := hl e (by simp)
  have hr := List.pairwise_cons.1 hE
  obtain ⟨p1, p2, p3⟩ := x7r (decide (o > 0)) hc hb he
  obtain ⟨q1, q2⟩ := x8o r (o + e.c) e.a (Qu out last (decide (o > 0)) e.a) hr.2 hr.1 p1 p2
  rw [z7s]
  refine ⟨q1, fun y => ?_⟩
  rw [q2, p3, Jh]
  constructor
  ·rintro ((h | ⟨h1, h2, h3⟩) | ⟨h1, h2, f, hf, h3⟩)
   ·exact .inl h
   ·right
    have h1 := of_decide_eq_true h1
    refine ⟨h2, ?_, e, by simp, h3⟩
    rw [if_neg (by omega), x3n r y fun f hf => by have := hr.1 f hf; omega]
    omega
   ·right
    refine ⟨by omega, ?_, f, by simp [hf], h3⟩
    rw [if_pos h1]; omega
  ·rintro (h | ⟨h1, h2, f, hf, h3⟩)
   ·exact .inl (.inl h)
   ·by_cases hy : e.a ≤ y
    ·right
     rw [if_pos hy] at h2
     refine ⟨hy, by omega, f, ?_, h3⟩
     rcases List.mem_cons.1 hf with rfl | hf
     ·omega
     ·exact hf
    ·left; right
     rw [if_neg hy, x3n r y fun f hf => by have := hr.1 f hf; omega] at h2
     exact ⟨decide_eq_true (by omega), h1, by omega⟩
theorem w7b (l : List R2) (hv : ∀ s ∈ l, s.a < s.b) (y : Int) : 0 ≤ net (Ua l) y ∧ (0 < net (Ua l) y ↔ pt l y) := by
 induction l with
 | nil => exact ⟨Int.le_refl _, by simp [net, Ua, pt]⟩
 | cons s l ih =>
  obtain ⟨i1, i2⟩ := ih fun t ht => hv t (by simp [ht])
  have hs := hv s (by simp)
  have e : net (Ua (s :: l)) y = (if s.a ≤ y ∧ y < s.b then 1 else 0) + net (Ua l) y := by
   show net (⟨s.a, 0, 1⟩ :: ⟨s.b, 0, -1⟩ :: Ua l) y = _
   rw [Jh, Jh]
   show (if s.a ≤ y then (1 : Int) else 0) + ((if s.b ≤ y then (-1 : Int) else 0) + net (Ua l) y) = _
   by_cases h1 : s.a ≤ y
   ·by_cases h2 : s.b ≤ y
    ·rw [if_pos h1, if_pos h2, if_neg (show ¬ (s.a ≤ y ∧ y < s.b) by omega)]; omega
    ·rw [if_pos h1, if_neg h2, if_pos (show s.a ≤ y ∧ y < s.b by omega)]; omega
   ·rw [if_neg h1, if_neg (show ¬ s.b ≤ y by omega), if_neg (show ¬ (s.a ≤ y ∧ y < s.b) by omega)]; omega
  rw [e]
  by_cases h : s.a ≤ y ∧ y < s.b
  ·rw [if_pos h]
   exact ⟨by omega, ⟨fun _ => ⟨s, by simp, h⟩, fun _ => by omega⟩⟩
  ·rw [if_neg h]
   refine ⟨by omega, ?_⟩
   rw [Int.zero_add, i2]
   constructor
   ·rintro ⟨t, ht, h2⟩; exact ⟨t, by simp [ht], h2⟩
   ·rintro ⟨t, ht, h2⟩
    rcases List.mem_cons.1 ht with rfl | ht
    ·exact absurd h2 h
    ·exact ⟨t, ht, h2⟩
theorem y0u {l : List R2} {s : R2} (h : s ∈ l) : (⟨s.b, 0, -1⟩ : R3) ∈ Ua l ∧ (⟨s.a, 0, 1⟩ : R3) ∈ Ua l :=
 ⟨List.mem_flatMap.2 ⟨s, h, by simp⟩, List.mem_flatMap.2 ⟨s, h, by simp⟩⟩
theorem w4w (l : List R3) (h : y5i l = true) : Asc (z3u l) := by
 refine List.pairwise_iff_getElem.2 fun i j hi hj hij => ?_
 have := (Qb l h).2 i j hij hj
 rwa [Xa hi, Xa hj] at this
theorem y8y (l : List R2) (hv : l.all z7e = true) : Can (swV l) ∧ ∀ y, pt (swV l) y ↔ pt l y := by
 have hb : y5i (Ua l) = true := List.all_eq_true.2 fun e he => by
  obtain ⟨s, hs, h1⟩ := List.mem_flatMap.1 he
  have hv := List.all_eq_true.1 hv s hs
  simp only [z7e, Bool.and_eq_true, decide_eq_true_eq] at hv
  simp only [List.mem_cons, List.not_mem_nil, or_false] at h1
  rcases h1 with rfl | rfl <;> exact decide_eq_true (by simp only; omega)
 have hpos : ∀ s ∈ l, s.a < s.b := fun s hs => by
  have := List.all_eq_true.1 hv s hs
  simp only [z7e, Bool.and_eq_true, decide_eq_true_eq] at this
  exact this.1
 obtain ⟨hp, _⟩ := Qb (Ua l) hb
 have ha := w4w (Ua l) hb
 have hn : ∀ y, net (z3u (Ua l)) y = net (Ua l) y := fun y => w7a hp y
 unfold swV
 generalize z3u (Ua l) = E at hp ha hn
 cases E with
 | nil =>
  refine ⟨.nil, fun y => ⟨fun ⟨s, hs, _⟩ => (by cases hs), fun ⟨s, hs, _⟩ => ?_⟩⟩
  have := hp.mem_iff.2 (y0u hs).1
  cases this
 | cons e r =>
  have hr := List.pairwise_cons.1 ha
  rw [z7s, Int.zero_add]
  have e0 : Qu [] 0 false e.a = [] := rfl
  rw [e0]
  obtain ⟨q1, q2⟩ := x8o r e.c e.a [] hr.2 hr.1 .nil (by simp)
  refine ⟨q1, fun y => ?_⟩
  rw [q2]
  obtain ⟨n1, n2⟩ := w7b l hpos y
  rw [← n2, ← hn, Jh]
  constructor
  ·rintro (⟨s, hs, _⟩ | ⟨h1, h2, _⟩)
   ·cases hs
   ·rw [if_pos h1]; omega
  ·intro h
   have hpt := n2.1 (by rw [← hn, Jh]; exact h)
   obtain ⟨s, hs, s1, s2⟩ := hpt
   have m1 := hp.mem_iff.2 (y0u hs).1
   have m2 := hp.mem_iff.2 (y0u hs).2
   have hea : e.a ≤ y := by
    rcases List.mem_cons.1 m2 with h' | h'
    ·rw [← h']; exact s1
    ·have h'' : e.a ≤ s.a := hr.1 _ h'
     omega
   right
   rw [if_pos hea] at h
   refine ⟨hea, h, ⟨s.b, 0, -1⟩, ?_, s2⟩
   rcases List.mem_cons.1 m1 with h' | h'
   ·have h'' : e.a = s.b := by rw [← h']
    omega
   ·exact h'
theorem y6k (out : List Int) (hs : out.Pairwise (· < ·)) (x : Int) : ∀ k, k ≤ out.length → x0l out x k ≤ k ∧ (∀ i, x0l out x k ≤ i → i < k → x < rd out i) ∧ (0 < x0l out x k → rd out (x0l out x k - 1) ≤ x)
 | 0, _ => ⟨Nat.le_refl _, fun i h1 h2 => by omega, fun h => by simp [x0l] at h⟩
 | k + 1, hk => by
  unfold x0l
  rcases Zn (decide (rd out k > x)) with q | q
  ·rw [q, cond_true]
   obtain ⟨h1, h2, h3⟩ := y6k out hs x k (by omega)
   refine ⟨by omega, fun i a b => ?_, h3⟩
   rcases Nat.eq_or_lt_of_le (Nat.le_of_lt_succ b) with rfl | b
   ·exact of_decide_eq_true q
   ·exact h2 i a b
  ·rw [q, cond_false]
   exact ⟨Nat.le_refl _, fun i a b => by omega, fun _ => by have := of_decide_eq_false q; simp only [Nat.add_sub_cancel]; omega⟩
theorem w2i (out : List Int) (hs : out.Pairwise (· < ·)) (x : Int) : (y0k out x).Pairwise (· < ·) ∧ ∀ y, y ∈ y0k out x ↔ y ∈ out ∨ y = x := by
 obtain ⟨h1, h2, h3⟩ := y6k out hs x out.length (Nat.le_refl _)
 unfold y0k
 split
 ·rename_i h0
  rw [h0] at h2
  refine ⟨List.pairwise_cons.2 ⟨fun y hy => ?_, hs⟩, fun y => by simp [or_comm]⟩
  obtain ⟨i, hi, rfl⟩ := List.getElem_of_mem hy
  have := h2 i (Nat.zero_le _) hi
  rwa [Xa hi] at this
 ·rename_i k hk
  rw [hk] at h1 h2 h3
  have h3 : rd out k ≤ x := h3 (Nat.succ_pos _)
  have hkl : k < out.length := by omega
  rcases Zn (rd out k == x) with q | q
  ·rw [q, cond_true]
   have q : rd out k = x := by simpa using q
   refine ⟨hs, fun y => ⟨.inl, fun h => h.elim id fun e => ?_⟩⟩
   rw [e, ← q, Xa hkl]; exact List.getElem_mem hkl
  ·rw [q, cond_false]
   have q : rd out k ≠ x := by simpa using q
   refine ⟨?_, fun y => ?_⟩
   ·have st : (out.take (k + 1)).Pairwise (· < ·) := hs.sublist (List.take_sublist _ _)
    have sd : (out.drop (k + 1)).Pairwise (· < ·) := hs.sublist (List.drop_sublist _ _)
    have ht : ∀ y ∈ out.take (k + 1), y < x := fun y hy => by
     obtain ⟨i, hi, rfl⟩ := List.getElem_of_mem hy
     have hi' : i < k + 1 := by simp at hi; omega
     rw [List.getElem_take]
     have : rd out i ≤ rd out k := by
      rcases Nat.eq_or_lt_of_le (Nat.le_of_lt_succ hi') with rfl | h
      ·exact Int.le_refl _
      ·exact Int.le_of_lt (y4e hs h hkl)
     rw [Xa (show i < out.length by omega)] at this
     omega
    have hd : ∀ y ∈ out.drop (k + 1), x < y := fun y hy => by
     obtain ⟨i, hi, rfl⟩ := List.getElem_of_mem hy
     have hi' : k + 1 + i < out.length := by simp at hi; omega
     rw [List.getElem_drop, ← Xa hi']
     exact h2 _ (by omega) hi'
    refine List.pairwise_append.2 ⟨st, List.pairwise_cons.2 ⟨hd, sd⟩, fun a ha b hb => ?_⟩
    rcases List.mem_cons.1 hb with rfl | hb
    ·exact ht a ha
    ·exact Int.lt_trans (ht a ha) (hd b hb)
   ·rw [List.mem_append, List.mem_cons]
    constructor
    ·rintro (h | h | h)
     ·exact .inl (List.mem_of_mem_take h)
     ·exact .inr h
     ·exact .inl (List.mem_of_mem_drop h)
    ·rintro (h | h)
     ·rw [← List.take_append_drop (k + 1) out, List.mem_append] at h
      exact h.elim .inl fun h => .inr (.inr h)
     ·exact .inr (.inl h)
theorem Xe (l : List Int) : (Kx l).Pairwise (· < ·) ∧ ∀ y, y ∈ Kx l ↔ y ∈ l := by
 have : ∀ (l out : List Int), out.Pairwise (· < ·) → (l.foldl y0k out).Pairwise (· < ·) ∧ ∀ y, y ∈ l.foldl y0k out ↔ y ∈ out ∨ y ∈ l := by
  intro l
  induction l with
  | nil => intro out h; exact ⟨h, fun y => by simp⟩
  | cons x l ih =>
   intro out h
   obtain ⟨a, b⟩ := w2i out h x
   obtain ⟨c, d⟩ := ih (y0k out x) a
   refine ⟨c, fun y => ?_⟩
   show y ∈ l.foldl y0k (y0k out x) ↔ _
   rw [d, b, List.mem_cons, or_assoc]
 obtain ⟨a, b⟩ := this l [] .nil
 exact ⟨a, fun y => by rw [Kx, b]; simp⟩
theorem z6w : ∀ (l m : List Int), l.Pairwise (· < ·) → m.Pairwise (· < ·) → (∀ x, x ∈ l ↔ x ∈ m) → l = m
 | [], [], _, _, _ => rfl
 | [], b :: m, _, _, h => by have := (h b).2 (by simp); cases this
 | a :: l, [], _, _, h => by have := (h a).1 (by simp); cases this
 | a :: l, b :: m, hl, hm, h => by
  obtain ⟨a1, a2⟩ := List.pairwise_cons.1 hl
  obtain ⟨b1, b2⟩ := List.pairwise_cons.1 hm
  have e : a = b := by
   have x1 := (h a).1 (by simp)
   have x2 := (h b).2 (by simp)
   rcases List.mem_cons.1 x1 with x1 | x1
   ·exact x1
   rcases List.mem_cons.1 x2 with x2 | x2
   ·exact x2.symm
   have := b1 a x1
   have := a1 b x2
   omega
  subst e
  congr 1
  refine z6w l m a2 b2 fun x => ⟨fun hx => ?_, fun hx => ?_⟩
  ·rcases List.mem_cons.1 ((h x).1 (by simp [hx])) with e | e
   ·have := a1 x hx; omega
   ·exact e
  ·rcases List.mem_cons.1 ((h x).2 (by simp [hx])) with e | e
   ·have := b1 x hx; omega
   ·exact e
theorem z6x (zs : List Int) (hs : zs.Pairwise (· ≤ ·)) : ∀ m, m ≤ zs.length → (compactUpTo zs.toArray m).Pairwise (· < ·) ∧ ∀ x, x ∈ compactUpTo zs.toArray m ↔ x ∈ zs.take m
 | 0, _ => by simp [compactUpTo]
 | m + 1, h => by
  obtain ⟨h1, h2⟩ := z6x zs hs m (by omega)
  have hg : ∀ j (hj : j < zs.length), zs.toArray[j]! = zs[j] := fun j hj => by simp [hj]
  have hle : ∀ i j (hi : i < zs.length) (hj : j < zs.length), i < j → zs[i] ≤ zs[j] := fun i j hi hj hij => List.pairwise_iff_getElem.1 hs i j hi hj hij
  have hm : m < zs.length := by omega
  rw [compactUpTo_succ, hg m hm, List.take_succ_eq_append_getElem hm]
  by_cases hk : keeps zs.toArray m = true
  ·rw [if_pos hk]
   refine ⟨List.pairwise_append.2 ⟨h1, List.pairwise_singleton _ _, fun x hx y hy => ?_⟩, fun x => by rw [List.mem_append, List.mem_append, h2 x]⟩
   rw [List.mem_singleton.1 hy]
   obtain ⟨i, hi, rfl⟩ := List.getElem_of_mem ((h2 x).1 hx)
   have hi' : i < m := by simp at hi; omega
   rw [List.getElem_take]
   simp only [keeps, decide_eq_true_eq] at hk
   rcases hk with hk | hk
   ·omega
   ·rw [hg m hm, hg (m - 1) (by omega)] at hk
    have k1 : zs[i] ≤ zs[m - 1] := by
     rcases Nat.lt_or_ge i (m - 1) with q | q
     ·exact hle i (m - 1) _ _ q
     ·have e : i = m - 1 := by omega
      subst e; exact Int.le_refl _
    have k2 := hle (m - 1) m (by omega) hm (by omega)
    omega
  ·rw [if_neg hk, List.append_nil]
   refine ⟨h1, fun x => ?_⟩
   rw [h2 x, List.mem_append, List.mem_singleton]
   refine ⟨.inl, fun hx => hx.elim id fun e => ?_⟩
   simp only [keeps, decide_eq_true_eq, not_or, Decidable.not_not] at hk
   rw [hg m hm, hg (m - 1) (by omega)] at hk
   rw [e, hk.2]
   have : m - 1 < (zs.take m).length := by simp; omega
   have e2 : (zs.take m)[m - 1] = zs[m - 1] := List.getElem_take
   rw [← e2]
   exact List.getElem_mem this
theorem srt_le (zs : List Int) : (Wk zs).Pairwise (· ≤ ·) := by
 have := List.pairwise_mergeSort (le := fun x y : Int => decide (x ≤ y)) (fun a b c h1 h2 => by simp at *; omega) (fun a b => by simp; omega) zs
 exact this.imp fun h => by simpa using h
theorem v4c (zs : List Int) (x : Int) : x ∈ Wk zs ↔ x ∈ zs := List.mem_mergeSort
theorem z0n (zs : List Int) : Ja zs = Kx zs := by
 obtain ⟨h1, h2⟩ := z6x (Wk zs) (srt_le zs) (Wk zs).length (Nat.le_refl _)
 obtain ⟨s1, s2⟩ := Xe zs
 refine z6w _ _ h1 s1 fun x => ?_
 rw [show Ja zs = compactUpTo (Wk zs).toArray (Wk zs).length from rfl, h2 x, List.take_length, v4c, s2]
end Go.Am
namespace Go.Am
open Go.Proofs Go.Sort Go.Shelf Go.RowKit Go.Lib
namespace Dim
variable {α β : Type} (D : Dim α β)
def ref (sec : Int → List β) (cs : List Int) : Nat → Nat → List α → List β → Nat → List α
 | 0, _, out, _, _ => out
 | k + 1, i, out, last, first =>
  bif decide (0 < i) && D.same (sec (rd cs i)) last then ref sec cs k (i + 1) (D.grow out first (rd cs (i + 1))) last first
  else ref sec cs k (i + 1) (out ++ (sec (rd cs i)).map (D.put (rd cs i) (rd cs (i + 1)))) (sec (rd cs i)) out.length
theorem ref_eq (hs : ∀ a b, D.same a b = true ↔ a = b) (l : List α) : ∀ (k i : Nat) (s : Sw α β) (out : List α) (last : List β) (first : Nat),
  s.out = out → s.last = last → (last ≠ [] → s.first = first) → (last = [] → out.length ≤ first) → (0 < i → s.fin = rd (D.cuts l) i) → (i = 0 → last = []) →
  (D.go l k i s).out = D.ref (D.sec l) (D.cuts l) k i out last first
 | 0, i, s, out, last, first, h1, h2, h3, h4, h5, h6 => h1
 | k + 1, i, s, out, last, first, h1, h2, h3, h4, h5, h6 => by
  subst h1 h2
  have e1 : D.go l (k + 1) i s = D.go l k (i + 1) (D.one l (rd (D.cuts l) i) (rd (D.cuts l) (i + 1)) s) := rfl
  rw [e1]
  unfold ref
  rcases Zn (decide (0 < (D.sec l (rd (D.cuts l) i)).length) && ((s.fin == rd (D.cuts l) i) && D.same s.last (D.sec l (rd (D.cuts l) i)))) with q | q
  ·have e : D.one l (rd (D.cuts l) i) (rd (D.cuts l) (i + 1)) s = ⟨D.grow s.out s.first (rd (D.cuts l) (i + 1)), s.last, s.first, rd (D.cuts l) (i + 1)⟩ := by unfold one; rw [q]; rfl
   simp only [Bool.and_eq_true, decide_eq_true_eq] at q
   obtain ⟨q1, q2, q3⟩ := q
   have q3 := (hs _ _).1 q3
   have hne : s.last ≠ [] := fun h => by rw [h] at q3; rw [← q3] at q1; exact Nat.lt_irrefl _ q1
   have hi : 0 < i := Nat.pos_of_ne_zero fun h => hne (h6 h)
   have e2 : (decide (0 < i) && D.same (D.sec l (rd (D.cuts l) i)) s.last) = true := by
    rw [decide_eq_true hi, Bool.true_and, hs, q3]
   rw [e2, cond_true, e]
   refine ref_eq hs l k (i + 1) _ _ _ _ ?_ rfl h3 (fun h => absurd h hne) (fun _ => rfl) (fun h => by omega)
   rw [h3 hne]
  ·have e : D.one l (rd (D.cuts l) i) (rd (D.cuts l) (i + 1)) s = ⟨s.out ++ (D.sec l (rd (D.cuts l) i)).map (D.put (rd (D.cuts l) i) (rd (D.cuts l) (i + 1))), D.sec l (rd (D.cuts l) i), s.out.length, rd (D.cuts l) (i + 1)⟩ := by unfold one; rw [q]; rfl
   rcases Zn (decide (0 < i) && D.same (D.sec l (rd (D.cuts l) i)) s.last) with q2 | q2
   ·rw [q2, cond_true, e]
    simp only [Bool.and_eq_true, decide_eq_true_eq] at q2
    obtain ⟨hi, q3⟩ := q2
    have q3 := (hs _ _).1 q3
    rw [(hs s.last (D.sec l (rd (D.cuts l) i))).2 q3.symm, Bool.and_true, h5 hi] at q
    have hz : D.sec l (rd (D.cuts l) i) = [] := by
     cases h : D.sec l (rd (D.cuts l) i) with
     | nil => rfl
     | cons a b => rw [h] at q; simp at q
    have hl : s.last = [] := by rw [← q3, hz]
    have hf := h4 hl
    rw [hz, List.map_nil, List.append_nil]
    refine ref_eq hs l k (i + 1) _ _ _ _ ?_ hl.symm (fun h => absurd hl h) (fun _ => ?_) (fun _ => rfl) (fun h => by omega)
    ·exact (D.grow_nil _ _ _ hf).symm
    ·rw [D.grow_length]; exact hf
   ·rw [q2, cond_false, e]
    exact ref_eq hs l k (i + 1) _ _ _ _ rfl rfl (fun _ => rfl) (fun h => by rw [h]; simp) (fun _ => rfl) (fun h => by omega)
theorem out_eq (hs : ∀ a b, D.same a b = true ↔ a = b) (l : List α) : D.out l = D.ref (D.sec l) (D.cuts l) ((D.cuts l).length - 1) 0 [] [] 0 :=
 D.ref_eq hs l _ 0 _ [] [] 0 rfl rfl (fun _ => rfl) (fun _ => Nat.le_refl _) (fun h => absurd h (Nat.lt_irrefl _)) (fun _ => rfl)
end Dim
theorem v9n (l : List R4) : D4.cuts l = xsV l [] := by
 unfold Dim.cuts xsV
 rw [z0n, show z0a ([] : List R4) = [] from rfl, List.append_nil]; rfl
theorem v9d (l : List R4) (x y : Int) : w4p 2 l [] x y = has4V l x y := by
 unfold w4p Kg
 show (has4V l x y || has4V [] x y) = _
 rw [show has4V [] x y = false from rfl, Bool.or_false]
theorem y4k {l : List R4} {x : Int} {s : R2} (h : s ∈ D4.inn l x) : ∃ r ∈ l, r.a ≤ x ∧ x < r.c ∧ s = ⟨r.b, r.d⟩ := by
 obtain ⟨r, hr, e⟩ := List.mem_map.1 h
 obtain ⟨h1, h2⟩ := List.mem_filter.1 hr
 simp only [Bool.and_eq_true, decide_eq_true_eq] at h2
 exact ⟨r, h1, h2.1, h2.2, e.symm⟩
theorem v6m {l : List R4} {x : Int} {r : R4} (h : r ∈ l) (h1 : r.a ≤ x) (h2 : x < r.c) : (⟨r.b, r.d⟩ : R2) ∈ D4.inn l x := by
 refine List.mem_map.2 ⟨r, List.mem_filter.2 ⟨h, ?_⟩, rfl⟩
 simp only [Bool.and_eq_true, decide_eq_true_eq]
 exact ⟨h1, h2⟩
theorem sec_eq (l : List R4) (hv : l.all z1a = true) (hl : l.length ≤ 400) (x : Int) : D4.sec l x = y5q 2 l [] x := by
 have hin := D4.inn_length l x
 have hvi : (D4.inn l x).all z7e = true := List.all_eq_true.2 fun s hs => by
  obtain ⟨r, hr, _, _, rfl⟩ := y4k hs
  have := List.all_eq_true.1 hv r hr
  simp only [z1a, z7e, Bool.and_eq_true, decide_eq_true_eq] at this ⊢
  omega
 have e1 : D4.sec l x = swV (D4.inn l x) := by
  show Xw (D4.inn l x) = _
  unfold Xw
  rw [decide_eq_false (by omega), hvi]; rfl
 obtain ⟨c1, c2⟩ := y8y _ hvi
 obtain ⟨y1, y2⟩ := Xe (Qa l ++ Qa [])
 have e2 : y5q 2 l [] x = z7g (ysV l []) ((ysV l []).map fun y => has4V l x y) := by
  unfold y5q
  congr 1
  exact List.map_congr_left fun y _ => v9d l x y
 obtain ⟨d1, d2⟩ := w9o (ysV l []) y1 (fun y => has4V l x y) (D4.inn l x) (fun s hs => by
  obtain ⟨r, hr, _, _, rfl⟩ := y4k hs
  unfold ysV
  exact ⟨(y2 _).2 (List.mem_append.2 (.inl (List.mem_flatMap.2 ⟨r, hr, by simp⟩))), (y2 _).2 (List.mem_append.2 (.inl (List.mem_flatMap.2 ⟨r, hr, by simp⟩)))⟩) (fun y => by
  unfold has4V
  rw [List.any_eq_true]
  constructor
  ·rintro ⟨r, hr, h⟩
   simp only [in4, Bool.and_eq_true, decide_eq_true_eq] at h
   exact ⟨_, v6m hr h.1 h.2.1, h.2.2.1, h.2.2.2⟩
  ·rintro ⟨s, hs, h1, h2⟩
   obtain ⟨r, hr, r1, r2, rfl⟩ := y4k hs
   refine ⟨r, hr, ?_⟩
   simp only [in4, Bool.and_eq_true, decide_eq_true_eq]
   exact ⟨r1, r2, h1, h2⟩)
 rw [e1, e2]
 exact w3n _ _ c1 d1 fun y => by rw [c2, d2]
theorem w2e (l : List R4) : ∀ (k i : Nat) (out : List R4) (last : List R2) (first : Nat), jF 2 l [] k i out last first = D4.ref (y5q 2 l []) (xsV l []) k i out last first
 | 0, _, _, _, _ => rfl
 | k + 1, i, out, last, first => by
  unfold jF Dim.ref
  rw [w2e l k, w2e l k]
  rfl
theorem joV_eq (l : List R4) (hv : l.all z1a = true) (hl : l.length ≤ 400) : D4.out l = joV 2 l [] := by
 rw [D4.out_eq (fun a b => decide_eq_true_iff) l, joV, w2e, ← v9n]
 congr 1
 funext x
 exact sec_eq l hv hl x
theorem w4e (l : List R6) : D6.cuts l = Ye l [] := by
 unfold Dim.cuts Ye
 rw [z0n, show Qt ([] : List R6) = [] from rfl, List.append_nil]; rfl
theorem v3u (l : List R6) (z : Int) : D6.inn l z = atV l z := rfl
theorem y5m (r : R6) : Jk r = y8x r := by
 unfold Jk y8x
 simp only [w2k, w2l]
 rw [Bool.eq_iff_iff]
 simp only [Bool.and_eq_true, decide_eq_true_eq]
 have m1 : ∀ x y z : Int, x ≤ min y z ↔ x ≤ y ∧ x ≤ z := fun x y z => by omega
 have m2 : ∀ x y z : Int, max y z ≤ x ↔ y ≤ x ∧ z ≤ x := fun x y z => by omega
 simp only [ge_iff_le, m1, m2]
 constructor <;> intro h <;> (repeat' apply And.intro) <;> omega
theorem w3r (l : List R6) (hv : l.all Jk = true) (z : Int) : (atV l z).all z1a = true := List.all_eq_true.2 fun s hs => by
 obtain ⟨r, hr, rfl⟩ := List.mem_map.1 hs
 have := List.all_eq_true.1 hv r (List.mem_filter.1 hr).1
 rw [y5m] at this
 simp only [y8x, Bool.and_eq_true, decide_eq_true_eq] at this
 show z1a ⟨r.a, r.b, r.d, r.e⟩ = true
 simp only [z1a, Bool.and_eq_true, decide_eq_true_eq]
 (repeat' apply And.intro) <;> omega
section
variable (l : List R6) (hv : l.all Jk = true) (hl : l.length ≤ 400)
include hv hl
theorem v3n (z : Int) : D4.out (atV l z) = joV 2 (atV l z) [] := joV_eq _ (w3r l hv z) (Nat.le_trans (Qs l z) hl)
theorem v3m (z : Int) : x8h l z = z3m 2 l [] z := by
 have h1 := v3n l hv hl z
 have h2 := Qs l z
 have e : joV 2 (atV [] z) [] = [] := rfl
 unfold x8h z3m y1u
 rw [e, show atV ([] : List R6) z = [] from rfl, v3u]
 unfold Xt
 rw [decide_eq_false (by omega), w3r l hv z, h1, cond_false, cond_true]
 by_cases h : 400 < (joV 2 (atV l z) []).length
 ·rw [decide_eq_true (show ((joV 2 (atV l z) []).length : Int) > 400 by omega), decide_eq_true h]; rfl
 ·rw [decide_eq_false (show ¬ ((joV 2 (atV l z) []).length : Int) > 400 by omega), decide_eq_false h]; rfl
theorem v4p (z : Int) (h : x8h l z = false) : D6.sec l z = y1u 2 l [] z := by
 have h1 := v3n l hv hl z
 have h2 := Qs l z
 rw [v3m l hv hl] at h
 show Zr (D6.inn l z) = joV 2 (atV l z) (atV [] z)
 rw [v3u]
 unfold Zr
 have h3 : ¬ 400 < (joV 2 (atV l z) []).length := fun hh => by
  unfold z3m y1u at h
  rw [show atV ([] : List R6) z = [] from rfl, decide_eq_true hh] at h
  cases h
 rw [decide_eq_false (by omega), w3r l hv z, h1, cond_false, cond_true, decide_eq_false (by omega)]
 rfl
theorem x1a : ∀ (k i : Nat) (out : List R6) (last : List R4) (first : Nat), jsF 2 l [] k i out last first = bif okF l k i then some (D6.ref (D6.sec l) (D6.cuts l) k i out last first) else none
 | 0, _, _, _, _ => rfl
 | k + 1, i, out, last, first => by
  unfold jsF okF Dim.ref
  rw [← w4e, ← v3m l hv hl]
  rcases Zn (x8h l (rd (D6.cuts l) i)) with q | q
  ·rw [q]; rfl
  ·have := v4p l hv hl _ q
   rw [q, cond_false, cond_false, this, x1a k, x1a k]
   have e : D6.same (y1u 2 l [] (rd (D6.cuts l) i)) last = Jx (y1u 2 l [] (rd (D6.cuts l) i)) last := rfl
   rw [e]
   cases (decide (0 < i) && Jx (y1u 2 l [] (rd (D6.cuts l) i)) last) <;> rfl
theorem v2u : jsO 2 l [] = bif okF l ((D6.cuts l).length - 1) 0 then some (D6.out l) else none := by
 unfold jsO
 rw [x1a l hv hl, ← w4e, D6.out_eq (fun a b => decide_eq_true_iff) l]
end
theorem z2j (l : List R6) : Yx l = Ya l := by
 unfold Yx Ya
 by_cases h : 400 < l.length
 ·rw [decide_eq_true h]; rfl
 ·rw [decide_eq_false h, cond_false, cond_false, show l.all y8x = l.all Jk from by congr 1; funext r; exact (y5m r).symm]
  rcases Zn (l.all Jk) with hv | hv
  ·rw [hv, cond_true, cond_true]
   unfold rckF Qp Ue
   rw [v2u l hv (by omega)]
   rcases Zn (okF l ((D6.cuts l).length - 1) 0) with q | q
   ·rw [q, cond_true, cond_true]
    show _ = bif decide (((D6.out l).length : Int) ≤ 400) then (bif Jy (D6.out l) l then 0 else 8) else 8
    by_cases h2 : ((D6.out l).length : Int) > 400
    ·rw [decide_eq_true h2, decide_eq_false (by omega)]; rfl
    ·rw [decide_eq_false h2, decide_eq_true (by omega)]; rfl
   ·rw [q]; rfl
  ·rw [hv]; rfl
end Go.Am
namespace Go.Am
def Cg (x y : Int) : Prop := (18446744073709551616 : Int) ∣ x - y
theorem Cg.refl (x : Int) : Cg x x := by unfold Cg; rw [Int.sub_self]; exact Int.dvd_zero _
theorem Cg.trans {x y z : Int} (h : Cg x y) (k : Cg y z) : Cg x z := by unfold Cg at *; omega
theorem Cg.wrap (x : Int) : Cg (IntKind.wrap .i64 x) x := by rw [w64]; unfold Cg; omega
theorem Cg.eq {x y : Int} (h : Cg x y) : IntKind.wrap .i64 x = IntKind.wrap .i64 y := by rw [w64, w64]; unfold Cg at h; omega
theorem Cg.w {x y : Int} (h : Cg x y) : Cg (IntKind.wrap .i64 x) y := (Cg.wrap x).trans h
theorem Cg.is {x y : Int} (h : Cg x y) (hx : -9223372036854775808 ≤ x ∧ x ≤ 9223372036854775807) (hy : -9223372036854775808 ≤ y ∧ y ≤ 9223372036854775807) : x = y := by unfold Cg at h; omega
def ovl (a b c d : Int) : Int := max 0 (min b d - max a c)
def ov (r s : R6) : Int := ovl r.a r.d s.a s.d * ovl r.b r.e s.b s.e * ovl r.c r.f s.c s.f
def nx (d : Int) (r : R6) : R6 :=
 let t := 1 - 2 * Int.tmod d 2
 bif Int.tdiv d 2 == 0 then ⟨r.a + t, r.b, r.c, r.d + t, r.e, r.f⟩ else bif Int.tdiv d 2 == 1 then ⟨r.a, r.b + t, r.c, r.d, r.e + t, r.f⟩ else ⟨r.a, r.b, r.c + t, r.d, r.e, r.f + t⟩
def sm {α : Type} (l : List α) (f : α → Int) : Int := (l.map f).sum
theorem v4i {α : Type} (x : α) (l : List α) (f : α → Int) : sm (x :: l) f = f x + sm l f := by simp [sm]
theorem w4y {α : Type} {l : List α} {f g : α → Int} (h : ∀ x ∈ l, f x = g x) : sm l f = sm l g := by
 unfold sm; rw [List.map_congr_left h]
theorem v4h {α : Type} (l : List α) : sm l (fun _ => 0) = 0 := by
 induction l with
 | nil => rfl
 | cons x l ih => rw [v4i, ih]; rfl
def E2 (d : Int) (X Y : List R6) : Int := sm X fun x => sm Y fun y => ov (nx d x) y
def Eqv (B B' : List R6) : Prop := ∀ f, sm B f = sm B' f
theorem Eqv.refl (X : List R6) : Eqv X X := fun _ => rfl
def c1 (d : Int) (X Y B : List R6) : Int := (E2 d X Y - E2 d B Y) - (E2 d X B - E2 d B B)
end Go.Am
namespace Go.Am
open Go.Proofs
end Go.Am
namespace Go.Am
open Go.Proofs
section
variable (X Y : List R6) (hX : X.length ≤ 10000) (hY : Y.length ≤ 10000)
include hX hY
end
end Go.Am
namespace Go.Am
open Go.Proofs
-- h0: index into an array (choices [true, false, false, false])
end Go.Am
namespace Go.Am
open Go.Proofs
end Go.Am
namespace Go.Am
open Go.Proofs
end Go.Am
namespace Go.Am
open Go.Proofs
end Go.Am
namespace Go.Am
open Go.Proofs
end Go.Am
namespace Go.Am
open Go.Proofs
def Vz (l : List R6) : Bool := true
def Xb (l : List R6) : Bool := true
end Go.Am
namespace Go.Am
open Go.Proofs.Tryz
open Go.Proofs
inductive dreS where
def dreC (l0 : List R6) (l1 : List R6) : dreS → Cfg
 := nofun
def x1u (l0 : List R6) (l1 : List R6) : dreS → Xj dreS
 := nofun
def z8w (l0 : List R6) (l1 : List R6) : Xj dreS := (bif (Vz (cvT l0)) then (bif ((Yx (cvT l0)) != 0) then (.ret [(.int .i64 0), (.int .i64 (Yx (cvT l0)))]) else (bif (Vz (cvT l1)) then (bif ((Yx (cvT l1)) != 0) then (.ret [(.int .i64 0), (.int .i64 (Yx (cvT l1)))]) else (bif ((l1.length : Int) == 0) then (bif (decide ((l0.length : Int) > 0)) then (.ret [(.int .i64 0), (.int .i64 6)]) else (bif (decide ((Xv (l0.length : Int) (l1.length : Int)) > 40)) then (.ret [(.int .i64 0), (.int .i64 4)]) else (bif (Uk (cvT l0) (cvT l1)) then (.ret [(.int .i64 (y8o (cvT l0) (cvT l1))), (.int .i64 0)]) else .stuck))) else (bif (decide ((Xv (l0.length : Int) (l1.length : Int)) > 40)) then (.ret [(.int .i64 0), (.int .i64 4)]) else (bif (Uk (cvT l0) (cvT l1)) then (.ret [(.int .i64 (y8o (cvT l0) (cvT l1))), (.int .i64 0)]) else .stuck)))) else .stuck)) else .stuck)
theorem x7l (l0 : List R6) (l1 : List R6) : ∀ s, Xd prog (Zy prog 16) (dreC l0 l1) (dreC l0 l1 s) (x1u l0 l1 s)
 := nofun
theorem x1v (l0 : List R6) (l1 : List R6) : Xd prog (Zy prog 16) (dreC l0 l1) (Zg prog 16 [(.dat l0.length (Zz l0)), (.dat l1.length (Zz l1))] true []) (z8w l0 l1) := (lo fun aS => (lb (fun k0 => (lr 30 16 [1, 0, 1, 1, 0, 0] 1 16 [(4, (ii 0)), (5, (ii (Yx (cvT l0))))] (sl Ve 48 [] ⟨[], [], [some [4, 5]], []⟩ ⟨[], [], []⟩ [true, true] (tt k0 (tt k0 (pp (pp (xr l0) (xw aS)) nn)))))) (fun k0 => (lo fun aF => (lb (fun k1 => (lr 30 16 [1, 0, 1, 1, 0, 0] 1 16 [(4, (ii 0)), (5, (ii (Yx (cvT l1))))] (sl Ve 50 [] ⟨[], [], [some [4, 5]], []⟩ ⟨[], [], []⟩ [false, true] (tt k1 (pp (pp (xr l1) (xw aF)) (tt k0 (pp (pp (xr l0) (xw aS)) nn))))))) (fun k1 => (lb (fun k2 => (lb (fun k3 => (lr 30 16 [1, 1, 0, 1, 0, 0] 1 16 [(4, (ii 0)), (5, (ii 6))] (sl Ve 63 [] ⟨[], [], [some [4, 5]], []⟩ ⟨[], [], []⟩ [false, false, true, true, true, true] (tt k3 (tt k2 (tt k1 (pp (pp (xr l1) (xw aF)) (tt k0 (pp (pp (xr l0) (xw aS)) nn))))))))) (fun k3 => (lb (fun k4 => (lr 30 16 [1, 1, 1, 0, 1, 0, 0] 1 16 [(4, (ii 0)), (5, (ii 4))] (sl Ve 75 [] ⟨[], [], [some [4, 5]], []⟩ ⟨[], [], []⟩ [false, false, true, true, true, false, true] (tt k4 (tt k3 (tt k2 (tt k1 (pp (pp (xr l1) (xw aF)) (tt k0 (pp (pp (xr l0) (xw aS)) nn)))))))))) (fun k4 => (lo fun o0 => (lr 30 3 [1, 1, 1, 1, 1, 1, 0] 1 16 [(4, (ii (y8o (cvT l0) (cvT l1)))), (5, (ii 0))] (sl Ve 79 [] ⟨[], [], [some [4, 5]], []⟩ ⟨[], [], []⟩ [false, false, true, true, true, false, false] (pp (pp (xr l0) (pp (xr l1) (xw o0))) (tt k4 (tt k3 (tt k2 (tt k1 (pp (pp (xr l1) (xw aF)) (tt k0 (pp (pp (xr l0) (xw aS)) nn)))))))))))))))) (fun k2 => (lb (fun k3 => (lr 30 16 [1, 1, 1, 0, 1, 0, 0] 1 16 [(4, (ii 0)), (5, (ii 4))] (sl Ve 75 [] ⟨[], [], [some [4, 5]], []⟩ ⟨[], [], []⟩ [false, false, false, false, false, false, true] (tt k3 (tt k2 (tt k1 (pp (pp (xr l1) (xw aF)) (tt k0 (pp (pp (xr l0) (xw aS)) nn))))))))) (fun k3 => (lo fun o0 => (lr 30 3 [1, 1, 1, 1, 1, 1, 0] 1 16 [(4, (ii (y8o (cvT l0) (cvT l1)))), (5, (ii 0))] (sl Ve 79 [] ⟨[], [], [some [4, 5]], []⟩ ⟨[], [], []⟩ [false, false, false, false, false, false, false] (pp (pp (xr l0) (pp (xr l1) (xw o0))) (tt k3 (tt k2 (tt k1 (pp (pp (xr l1) (xw aF)) (tt k0 (pp (pp (xr l0) (xw aS)) nn))))))))))))))))))))
theorem w8w (l0 : List R6) (l1 : List R6) (n : Nat) (vs : List AVal) (h : Yu (x1u l0 l1) n (z8w l0 l1) = .ret vs) : Ur prog (Zy prog 16) (Zg prog 16 [(.dat l0.length (Zz l0)), (.dat l1.length (Zz l1))] true []) vs := by
 have := Ze (x7l l0 l1) n _ (x1v l0 l1)
 rwa [h] at this
inductive ddiS where
def ddiC (l0 : List R6) (l1 : List R6) : ddiS → Cfg
 := nofun
def x1y (l0 : List R6) (l1 : List R6) : ddiS → Xj ddiS
 := nofun
def z8y (l0 : List R6) (l1 : List R6) : Xj ddiS := (bif (Vz (cvT l0)) then (bif ((Yx (cvT l0)) != 0) then (.ret [(.int .i64 0), (.int .i64 (Yx (cvT l0)))]) else (bif (Vz (cvT l1)) then (bif ((Yx (cvT l1)) != 0) then (.ret [(.int .i64 0), (.int .i64 (Yx (cvT l1)))]) else (bif ((l0.length : Int) == 0) then (.ret [(.int .i64 0), (.int .i64 6)]) else (bif ((l1.length : Int) == 0) then (.ret [(.int .i64 0), (.int .i64 6)]) else (bif (decide ((Xv (l0.length : Int) (l1.length : Int)) > 40)) then (.ret [(.int .i64 0), (.int .i64 4)]) else (bif (Uk (cvT l0) (cvT l1)) then (bif (Uk (cvT l1) (cvT l0)) then (.ret [(.int .i64 (Xv (y8o (cvT l0) (cvT l1)) (y8o (cvT l1) (cvT l0)))), (.int .i64 0)]) else .stuck) else .stuck))))) else .stuck)) else .stuck)
theorem x7n (l0 : List R6) (l1 : List R6) : ∀ s, Xd prog (Zy prog 18) (ddiC l0 l1) (ddiC l0 l1 s) (x1y l0 l1 s)
 := nofun
theorem x1z (l0 : List R6) (l1 : List R6) : Xd prog (Zy prog 18) (ddiC l0 l1) (Zg prog 18 [(.dat l0.length (Zz l0)), (.dat l1.length (Zz l1))] true []) (z8y l0 l1) := (lo fun aS => (lb (fun k0 => (lr 34 18 [1, 0, 1, 1, 0, 0] 1 16 [(4, (ii 0)), (5, (ii (Yx (cvT l0))))] (sl Ve 48 [] ⟨[], [], [some [4, 5]], []⟩ ⟨[], [], []⟩ [true, true] (tt k0 (tt k0 (pp (pp (xr l0) (xw aS)) nn)))))) (fun k0 => (lo fun aF => (lb (fun k1 => (lr 34 18 [1, 0, 1, 1, 0, 0] 1 16 [(4, (ii 0)), (5, (ii (Yx (cvT l1))))] (sl Ve 50 [] ⟨[], [], [some [4, 5]], []⟩ ⟨[], [], []⟩ [false, true] (tt k1 (pp (pp (xr l1) (xw aF)) (tt k0 (pp (pp (xr l0) (xw aS)) nn))))))) (fun k1 => (lb (fun k2 => (lr 34 18 [1, 1, 0, 1, 0, 0] 1 16 [(4, (ii 0)), (5, (ii 6))] (sl Ve 63 [] ⟨[], [], [some [4, 5]], []⟩ ⟨[], [], []⟩ [false, false, true, true, true, true] (tt k2 (tt k1 (pp (pp (xr l1) (xw aF)) (tt k0 (pp (pp (xr l0) (xw aS)) nn)))))))) (fun k2 => (lb (fun k3 => (lr 34 18 [1, 1, 0, 1, 0, 0] 1 16 [(4, (ii 0)), (5, (ii 6))] (sl Ve 63 [] ⟨[], [], [some [4, 5]], []⟩ ⟨[], [], []⟩ [false, false, false, false, false, true] (tt k3 (tt k2 (tt k1 (pp (pp (xr l1) (xw aF)) (tt k0 (pp (pp (xr l0) (xw aS)) nn))))))))) (fun k3 => (lb (fun k4 => (lr 34 18 [1, 1, 1, 0, 1, 0, 0] 1 16 [(4, (ii 0)), (5, (ii 4))] (sl Ve 75 [] ⟨[], [], [some [4, 5]], []⟩ ⟨[], [], []⟩ [false, false, false, false, false, false, true] (tt k4 (tt k3 (tt k2 (tt k1 (pp (pp (xr l1) (xw aF)) (tt k0 (pp (pp (xr l0) (xw aS)) nn)))))))))) (fun k4 => (lo fun o0 => (lo fun o1 => (lr 34 3 [1, 1, 1, 1, 1, 1, 0] 1 16 [(4, (ii (Xv (y8o (cvT l0) (cvT l1)) (y8o (cvT l1) (cvT l0))))), (5, (ii 0))] (sl Ve 83 [] ⟨[], [], [some [4, 5]], []⟩ ⟨[], [], []⟩ [false, false, false, false, false, false, false] (pp (pp (xr l1) (pp (xr l0) (xw o1))) (pp (pp (xr l0) (pp (xr l1) (xw o0))) (tt k4 (tt k3 (tt k2 (tt k1 (pp (pp (xr l1) (xw aF)) (tt k0 (pp (pp (xr l0) (xw aS)) nn)))))))))))))))))))))))))
theorem w8z (l0 : List R6) (l1 : List R6) (n : Nat) (vs : List AVal) (h : Yu (x1y l0 l1) n (z8y l0 l1) = .ret vs) : Ur prog (Zy prog 18) (Zg prog 18 [(.dat l0.length (Zz l0)), (.dat l1.length (Zz l1))] true []) vs := by
 have := Ze (x7n l0 l1) n _ (x1z l0 l1)
 rwa [h] at this
inductive rreS where
def rreC (l0 : List R6) (l1 : List R6) : rreS → Cfg
 := nofun
def y9o (l0 : List R6) (l1 : List R6) : rreS → Xj rreS
 := nofun
def z7z (l0 : List R6) (l1 : List R6) : Xj rreS := (bif (Xb (cvT l0)) then (bif ((Ya (cvT l0)) != 0) then (.ret [(.int .i64 0), (.int .i64 (Ya (cvT l0)))]) else (bif (Xb (cvT l1)) then (bif ((Ya (cvT l1)) != 0) then (.ret [(.int .i64 0), (.int .i64 (Ya (cvT l1)))]) else (bif (decide ((l0.length : Int) > 0)) then (bif ((l1.length : Int) == 0) then (.ret [(.int .i64 0), (.int .i64 6)]) else (bif (decide ((l0.length : Int) > 40)) then (.ret [(.int .i64 0), (.int .i64 4)]) else (bif (decide ((l1.length : Int) > 40)) then (.ret [(.int .i64 0), (.int .i64 4)]) else (bif ((l0.length : Int) == 0) then (.ret [(.int .i64 0), (.int .i64 0)]) else (bif (Uu (cvT l0) (cvT l1)) then (.ret [(.int .i64 (z8a (cvT l0) (cvT l1))), (.int .i64 0)]) else .stuck))))) else (bif (decide ((l0.length : Int) > 40)) then (.ret [(.int .i64 0), (.int .i64 4)]) else (bif (decide ((l1.length : Int) > 40)) then (.ret [(.int .i64 0), (.int .i64 4)]) else (bif ((l0.length : Int) == 0) then (.ret [(.int .i64 0), (.int .i64 0)]) else (bif (Uu (cvT l0) (cvT l1)) then (.ret [(.int .i64 (z8a (cvT l0) (cvT l1))), (.int .i64 0)]) else .stuck)))))) else .stuck)) else .stuck)
theorem x5t (l0 : List R6) (l1 : List R6) : ∀ s, Xd prog (Zy prog 17) (rreC l0 l1) (rreC l0 l1 s) (y9o l0 l1 s)
 := nofun
theorem y9p (l0 : List R6) (l1 : List R6) : Xd prog (Zy prog 17) (rreC l0 l1) (Zg prog 17 [(.dat l0.length (Zz l0)), (.dat l1.length (Zz l1))] true []) (z7z l0 l1) := (lo fun aS => (lb (fun k0 => (lr 35 17 [1, 0, 1, 0, 0] 1 16 [(4, (ii 0)), (5, (ii (Ya (cvT l0))))] (sl Ve 60 [] ⟨[], [], [some [4, 5]], []⟩ ⟨[], [], []⟩ (trs 3 []) (pp (pp (xr l0) (xw aS)) (tt k0 (pp (pp (xr l0) (xw aS)) (tt k0 (pp (pp (xr l0) (xw aS)) (tt k0 (pp (pp (xr l0) (xw aS)) nn)))))))))) (fun k0 => (lo fun aF => (lb (fun k1 => (lr 35 17 [1, 0, 1, 0, 0] 1 16 [(4, (ii 0)), (5, (ii (Ya (cvT l1))))] (sl Ve 62 [] ⟨[], [], [some [4, 5]], []⟩ ⟨[], [], []⟩ [false, true, false] (pp (pp (xr l1) (xw aF)) (tt k0 (pp (pp (xr l0) (xw aS)) (tt k1 (pp (pp (xr l1) (xw aF)) (tt k0 (pp (pp (xr l0) (xw aS)) nn)))))))))) (fun k1 => (lb (fun k2 => (lb (fun k3 => (lr 35 17 [1, 1, 0, 1, 0, 0] 1 16 [(4, (ii 0)), (5, (ii 6))] (sl Ve 53 [] ⟨[], [], [some [4, 5]], []⟩ ⟨[], [], []⟩ [false, false, true, true, true, true] (tt k3 (tt k2 (tt k1 (pp (pp (xr l1) (xw aF)) (tt k0 (pp (pp (xr l0) (xw aS)) nn))))))))) (fun k3 => (lb (fun k4 => (lr 35 17 [1, 1, 1, 0, 1, 0, 0] 1 16 [(4, (ii 0)), (5, (ii 4))] (sl Ve 67 [] ⟨[], [], [some [4, 5]], []⟩ ⟨[], [], []⟩ [false, false, true, true, true, false, true, true, true, true] (tt k4 (tt k3 (tt k2 (tt k1 (pp (pp (xr l1) (xw aF)) (tt k0 (pp (pp (xr l0) (xw aS)) nn)))))))))) (fun k4 => (lb (fun k5 => (lr 35 17 [1, 1, 1, 0, 1, 0, 0] 1 16 [(4, (ii 0)), (5, (ii 4))] (sl Ve 67 [] ⟨[], [], [some [4, 5]], []⟩ ⟨[], [], []⟩ [false, false, true, true, true, false, false, false, false, true] (tt k5 (tt k4 (tt k3 (tt k2 (tt k1 (pp (pp (xr l1) (xw aF)) (tt k0 (pp (pp (xr l0) (xw aS)) nn))))))))))) (fun k5 => (lb (fun k6 => (lr 35 17 [1, 1, 1, 1, 0, 1, 0, 0] 1 16 [(4, (ii 0)), (5, (ii 0))] (sl Ve 76 [] ⟨[], [], [some [4, 5]], []⟩ ⟨[], [], []⟩ [false, false, true, true, true, false, false, false, false, false, true] (tt k6 (tt k5 (tt k4 (tt k3 (tt k2 (tt k1 (pp (pp (xr l1) (xw aF)) (tt k0 (pp (pp (xr l0) (xw aS)) nn)))))))))))) (fun k6 => (lo fun o0 => (lr 35 3 [1, 1, 1, 1, 1, 1, 0] 1 16 [(4, (ii (z8a (cvT l0) (cvT l1)))), (5, (ii 0))] (sl Ve 80 [] ⟨[], [], [some [4, 5]], []⟩ ⟨[], [], []⟩ [false, false, true, true, true, false, false, false, false, false, false] (pp (pp (xr l0) (pp (xr l1) (xw o0))) (tt k6 (tt k5 (tt k4 (tt k3 (tt k2 (tt k1 (pp (pp (xr l1) (xw aF)) (tt k0 (pp (pp (xr l0) (xw aS)) nn)))))))))))))))))))))) (fun k2 => (lb (fun k3 => (lr 35 17 [1, 1, 1, 0, 1, 0, 0] 1 16 [(4, (ii 0)), (5, (ii 4))] (sl Ve 67 [] ⟨[], [], [some [4, 5]], []⟩ ⟨[], [], []⟩ [false, false, false, false, false, false, true, true, true, true] (tt k3 (tt k2 (tt k1 (pp (pp (xr l1) (xw aF)) (tt k0 (pp (pp (xr l0) (xw aS)) nn))))))))) (fun k3 => (lb (fun k4 => (lr 35 17 [1, 1, 1, 0, 1, 0, 0] 1 16 [(4, (ii 0)), (5, (ii 4))] (sl Ve 67 [] ⟨[], [], [some [4, 5]], []⟩ ⟨[], [], []⟩ [false, false, false, false, false, false, false, false, false, true] (tt k4 (tt k3 (tt k2 (tt k1 (pp (pp (xr l1) (xw aF)) (tt k0 (pp (pp (xr l0) (xw aS)) nn)))))))))) (fun k4 => (lb (fun k5 => (lr 35 17 [1, 1, 1, 1, 0, 1, 0, 0] 1 16 [(4, (ii 0)), (5, (ii 0))] (sl Ve 76 [] ⟨[], [], [some [4, 5]], []⟩ ⟨[], [], []⟩ [false, false, false, false, false, false, false, false, false, false, true] (tt k5 (tt k4 (tt k3 (tt k2 (tt k1 (pp (pp (xr l1) (xw aF)) (tt k0 (pp (pp (xr l0) (xw aS)) nn))))))))))) (fun k5 => (lo fun o0 => (lr 35 3 [1, 1, 1, 1, 1, 1, 0] 1 16 [(4, (ii (z8a (cvT l0) (cvT l1)))), (5, (ii 0))] (sl Ve 80 [] ⟨[], [], [some [4, 5]], []⟩ ⟨[], [], []⟩ [false, false, false, false, false, false, false, false, false, false, false] (pp (pp (xr l0) (pp (xr l1) (xw o0))) (tt k5 (tt k4 (tt k3 (tt k2 (tt k1 (pp (pp (xr l1) (xw aF)) (tt k0 (pp (pp (xr l0) (xw aS)) nn))))))))))))))))))))))))))
theorem w5s (l0 : List R6) (l1 : List R6) (n : Nat) (vs : List AVal) (h : Yu (y9o l0 l1) n (z7z l0 l1) = .ret vs) : Ur prog (Zy prog 17) (Zg prog 17 [(.dat l0.length (Zz l0)), (.dat l1.length (Zz l1))] true []) vs := by
 have := Ze (x5t l0 l1) n _ (y9p l0 l1)
 rwa [h] at this
inductive rdiS where
def rdiC (l0 : List R6) (l1 : List R6) : rdiS → Cfg
 := nofun
def x0d (l0 : List R6) (l1 : List R6) : rdiS → Xj rdiS
 := nofun
def z8h (l0 : List R6) (l1 : List R6) : Xj rdiS := (bif (Xb (cvT l0)) then (bif ((Ya (cvT l0)) != 0) then (.ret [(.int .i64 0), (.int .i64 (Ya (cvT l0)))]) else (bif (Xb (cvT l1)) then (bif ((Ya (cvT l1)) != 0) then (.ret [(.int .i64 0), (.int .i64 (Ya (cvT l1)))]) else (bif ((l0.length : Int) == 0) then (.ret [(.int .i64 0), (.int .i64 6)]) else (bif ((l1.length : Int) == 0) then (.ret [(.int .i64 0), (.int .i64 6)]) else (bif (decide ((l0.length : Int) > 40)) then (.ret [(.int .i64 0), (.int .i64 4)]) else (bif (decide ((l1.length : Int) > 40)) then (.ret [(.int .i64 0), (.int .i64 4)]) else (bif (Uu (cvT l0) (cvT l1)) then (bif (Uu (cvT l1) (cvT l0)) then (.ret [(.int .i64 (Xv (z8a (cvT l0) (cvT l1)) (z8a (cvT l1) (cvT l0)))), (.int .i64 0)]) else .stuck) else .stuck)))))) else .stuck)) else .stuck)
theorem x6e (l0 : List R6) (l1 : List R6) : ∀ s, Xd prog (Zy prog 19) (rdiC l0 l1) (rdiC l0 l1 s) (x0d l0 l1 s)
 := nofun
theorem x0e (l0 : List R6) (l1 : List R6) : Xd prog (Zy prog 19) (rdiC l0 l1) (Zg prog 19 [(.dat l0.length (Zz l0)), (.dat l1.length (Zz l1))] true []) (z8h l0 l1) := (lo fun aS => (lb (fun k0 => (lr 36 19 [1, 0, 1, 0, 0] 1 16 [(4, (ii 0)), (5, (ii (Ya (cvT l0))))] (sl Ve 60 [] ⟨[], [], [some [4, 5]], []⟩ ⟨[], [], []⟩ (trs 3 []) (pp (pp (xr l0) (xw aS)) (tt k0 (pp (pp (xr l0) (xw aS)) (tt k0 (pp (pp (xr l0) (xw aS)) (tt k0 (pp (pp (xr l0) (xw aS)) nn)))))))))) (fun k0 => (lo fun aF => (lb (fun k1 => (lr 36 19 [1, 0, 1, 0, 0] 1 16 [(4, (ii 0)), (5, (ii (Ya (cvT l1))))] (sl Ve 62 [] ⟨[], [], [some [4, 5]], []⟩ ⟨[], [], []⟩ [false, true, false] (pp (pp (xr l1) (xw aF)) (tt k0 (pp (pp (xr l0) (xw aS)) (tt k1 (pp (pp (xr l1) (xw aF)) (tt k0 (pp (pp (xr l0) (xw aS)) nn)))))))))) (fun k1 => (lb (fun k2 => (lr 36 19 [1, 1, 0, 1, 0, 0] 1 16 [(4, (ii 0)), (5, (ii 6))] (sl Ve 53 [] ⟨[], [], [some [4, 5]], []⟩ ⟨[], [], []⟩ [false, false, true, true, true, true] (tt k2 (tt k1 (pp (pp (xr l1) (xw aF)) (tt k0 (pp (pp (xr l0) (xw aS)) nn)))))))) (fun k2 => (lb (fun k3 => (lr 36 19 [1, 1, 0, 1, 0, 0] 1 16 [(4, (ii 0)), (5, (ii 6))] (sl Ve 53 [] ⟨[], [], [some [4, 5]], []⟩ ⟨[], [], []⟩ [false, false, false, false, false, true] (tt k3 (tt k2 (tt k1 (pp (pp (xr l1) (xw aF)) (tt k0 (pp (pp (xr l0) (xw aS)) nn))))))))) (fun k3 => (lb (fun k4 => (lr 36 19 [1, 1, 1, 0, 1, 0, 0] 1 16 [(4, (ii 0)), (5, (ii 4))] (sl Ve 67 [] ⟨[], [], [some [4, 5]], []⟩ ⟨[], [], []⟩ [false, false, false, false, false, false, true, true, true, true] (tt k4 (tt k3 (tt k2 (tt k1 (pp (pp (xr l1) (xw aF)) (tt k0 (pp (pp (xr l0) (xw aS)) nn)))))))))) (fun k4 => (lb (fun k5 => (lr 36 19 [1, 1, 1, 0, 1, 0, 0] 1 16 [(4, (ii 0)), (5, (ii 4))] (sl Ve 67 [] ⟨[], [], [some [4, 5]], []⟩ ⟨[], [], []⟩ [false, false, false, false, false, false, false, false, false, true] (tt k5 (tt k4 (tt k3 (tt k2 (tt k1 (pp (pp (xr l1) (xw aF)) (tt k0 (pp (pp (xr l0) (xw aS)) nn))))))))))) (fun k5 => (lo fun o0 => (lo fun o1 => (lr 36 3 [1, 1, 1, 1, 1, 1, 0] 1 16 [(4, (ii (Xv (z8a (cvT l0) (cvT l1)) (z8a (cvT l1) (cvT l0))))), (5, (ii 0))] (sl Ve 75 [] ⟨[], [], [some [4, 5]], []⟩ ⟨[], [], []⟩ [false, false, false, false, false, false, false, false, false, false] (pp (pp (xr l1) (pp (xr l0) (xw o1))) (pp (pp (xr l0) (pp (xr l1) (xw o0))) (tt k5 (tt k4 (tt k3 (tt k2 (tt k1 (pp (pp (xr l1) (xw aF)) (tt k0 (pp (pp (xr l0) (xw aS)) nn))))))))))))))))))))))))))))
theorem w6f (l0 : List R6) (l1 : List R6) (n : Nat) (vs : List AVal) (h : Yu (x0d l0 l1) n (z8h l0 l1) = .ret vs) : Ur prog (Zy prog 19) (Zg prog 19 [(.dat l0.length (Zz l0)), (.dat l1.length (Zz l1))] true []) vs := by
 have := Ze (x6e l0 l1) n _ (x0e l0 l1)
 rwa [h] at this
end Go.Am
namespace Go.Am
open Go.Proofs Go.Sort Go.Shelf Go.RowKit Go.Lib
namespace Dim
variable {α β : Type} (D : Dim α β)
structure Fair : Prop where
 lo_put : ∀ x x' b, D.lo (D.put x x' b) = x
 hi_put : ∀ x x' b, D.hi (D.put x x' b) = x'
 pr_put : ∀ x x' b, D.pr (D.put x x' b) = b
 ext_put : ∀ x x' x'' b, D.ext x'' (D.put x x' b) = D.put x x'' b
def Ap (R : β → β → Prop) (a b : α) : Prop := D.hi a ≤ D.lo b ∨ D.hi b ≤ D.lo a ∨ R (D.pr a) (D.pr b)
theorem w0i {D : Dim α β} (hD : D.Fair) (R : β → β → Prop) (sec : Int → List β) (cs : List Int) (hc : cs.Pairwise (· < ·)) (eM : ∀ x, (sec x).Pairwise R) :
  ∀ (k i : Nat) (pre : List α) (last : List β) (x0 : Int), (i + k < cs.length ∨ k = 0) → pre.Pairwise (D.Ap R) → (∀ a ∈ pre, D.hi a ≤ x0) → (last ≠ [] → x0 ≤ rd cs i) → (last = [] → x0 ≤ rd cs i) → last.Pairwise R →
  (D.ref sec cs k i (pre ++ last.map (D.put x0 (rd cs i))) last pre.length).Pairwise (D.Ap R) := by
 have fin : ∀ (pre : List α) (last : List β) (x0 x' : Int), pre.Pairwise (D.Ap R) → (∀ a ∈ pre, D.hi a ≤ x0) → last.Pairwise R → (pre ++ last.map (D.put x0 x')).Pairwise (D.Ap R) := fun pre last x0 x' h1 h2 h3 => by
  refine List.pairwise_append.2 ⟨h1, ?_, fun a ha b hb => ?_⟩
  ·refine List.pairwise_map.2 (h3.imp fun {a b} h => .inr (.inr ?_))
   rw [hD.pr_put, hD.pr_put]; exact h
  ·obtain ⟨c, _, rfl⟩ := List.mem_map.1 hb
   exact .inl (by rw [hD.lo_put]; exact h2 a ha)
 intro k
 induction k with
 | zero => intro i pre last x0 _ h1 h2 _ _ h3; exact fin pre last x0 _ h1 h2 h3
 | succ k ih =>
  intro i pre last x0 hk h1 h2 h4 h5 h3
  have hlt : rd cs i < rd cs (i + 1) := y4e hc (Nat.lt_succ_self _) (by omega)
  unfold ref
  cases hq : (decide (0 < i) && D.same (sec (rd cs i)) last) with
  | true =>
   rw [cond_true]
   have e : D.grow (pre ++ last.map (D.put x0 (rd cs i))) pre.length (rd cs (i + 1)) = pre ++ last.map (D.put x0 (rd cs (i + 1))) := by
    unfold grow
    rw [List.take_left, List.drop_left, List.map_map]
    congr 1
    exact List.map_congr_left fun b _ => hD.ext_put _ _ _ _
   rw [e]
   exact ih (i + 1) pre last x0 (by omega) h1 h2 (fun h => by have := h4 h; omega) (fun h => by have := h5 h; omega) h3
  | false =>
   rw [cond_false]
   refine ih (i + 1) (pre ++ last.map (D.put x0 (rd cs i))) (sec (rd cs i)) (rd cs i) (by omega) (fin pre last x0 _ h1 h2 h3) (fun a ha => ?_) (fun _ => by omega) (fun _ => by omega) (eM _)
   rcases List.mem_append.1 ha with ha | ha
   ·have := h2 a ha
    by_cases e : last = []
    ·have := h5 e; omega
    ·have := h4 e; omega
   ·obtain ⟨c, _, rfl⟩ := List.mem_map.1 ha
    rw [hD.hi_put]; exact Int.le_refl _
theorem out_apart {D : Dim α β} (hD : D.Fair) (R : β → β → Prop) (hs : ∀ a b, D.same a b = true ↔ a = b) (l : List α) (eM : ∀ x, (D.sec l x).Pairwise R) : (D.out l).Pairwise (D.Ap R) := by
 rw [D.out_eq hs l]
 have hc : (D.cuts l).Pairwise (· < ·) := by
  show (Ja (D.ends l)).Pairwise (· < ·)
  rw [z0n]; exact (Xe _).1
 have := w0i hD R (D.sec l) (D.cuts l) hc eM ((D.cuts l).length - 1) 0 [] [] (rd (D.cuts l) 0) (by omega) .nil (by simp) (fun _ => Int.le_refl _) (fun _ => Int.le_refl _) .nil
 exact this
end Dim
theorem x2w : D4.Fair := ⟨fun _ _ _ => rfl, fun _ _ _ => rfl, fun _ _ _ => rfl, fun _ _ _ _ => rfl⟩
theorem y1q : D6.Fair := ⟨fun _ _ _ => rfl, fun _ _ _ => rfl, fun _ _ _ => rfl, fun _ _ _ _ => rfl⟩
def Ap2 (s t : R2) : Prop := s.b ≤ t.a ∨ t.b ≤ s.a
def Ap4 (s t : R4) : Prop := s.c ≤ t.a ∨ t.c ≤ s.a ∨ s.d ≤ t.b ∨ t.d ≤ s.b
def Ap6 (s t : R6) : Prop := s.d ≤ t.a ∨ t.d ≤ s.a ∨ s.e ≤ t.b ∨ t.e ≤ s.b ∨ s.f ≤ t.c ∨ t.f ≤ s.c
theorem x8s (l : List R2) : (Xw l).Pairwise Ap2 := by
 unfold Xw
 by_cases h : 400 < l.length
 ·rw [decide_eq_true h]; exact .nil
 ·rw [decide_eq_false h, cond_false]
  cases hv : l.all z7e with
  | false => exact .nil
  | true =>
   rw [cond_true]
   exact (y8y l hv).1.sep.imp fun {s t} h => .inl (by omega)
theorem w0d (l : List R4) : (Zr l).Pairwise Ap4 := by
 have key : (D4.out l).Pairwise Ap4 := (Dim.out_apart x2w Ap2 (fun a b => decide_eq_true_iff) l fun x => x8s _).imp fun {s t} h => by
  rcases h with h | h | h | h
  ·exact .inl h
  ·exact .inr (.inl h)
  ·exact .inr (.inr (.inl h))
  ·exact .inr (.inr (.inr h))
 unfold Zr
 by_cases h : 400 < l.length
 ·rw [decide_eq_true h]; exact .nil
 ·rw [decide_eq_false h, cond_false]
  cases l.all z1a with
  | false => exact .nil
  | true =>
   rw [cond_true]
   cases decide (((D4.out l).length : Int) > 400) with
   | true => exact .nil
   | false => exact key
theorem Uv {l : List R6} (h : Yx l = 0) : l.length ≤ 400 ∧ (∀ r ∈ l, Jk r = true) ∧ l = D6.out l ∧ l.Pairwise Ap6 := by
 unfold Yx at h
 by_cases h1 : 400 < l.length
 ·rw [decide_eq_true h1] at h; cases h
 ·rw [decide_eq_false h1, cond_false] at h
  cases hv : l.all Jk with
  | false => rw [hv] at h; cases h
  | true =>
   rw [hv, cond_true] at h
   cases ho : okF l ((D6.cuts l).length - 1) 0 with
   | false => rw [ho] at h; cases h
   | true =>
    rw [ho, cond_true] at h
    cases h2 : decide (((D6.out l).length : Int) > 400) with
    | true => rw [h2] at h; cases h
    | false =>
     rw [h2, cond_false] at h
     cases h3 : Jy (D6.out l) l with
     | false => rw [h3] at h; cases h
     | true =>
      have e : D6.out l = l := of_decide_eq_true h3
      refine ⟨by omega, fun r hr => List.all_eq_true.1 hv r hr, e.symm, ?_⟩
      have := (Dim.out_apart y1q Ap4 (fun a b => decide_eq_true_iff) l fun x => w0d _).imp (S := Ap6) fun {s t} h => by
       rcases h with h | h | h | h | h | h
       ·exact .inr (.inr (.inr (.inr (.inl h))))
       ·exact .inr (.inr (.inr (.inr (.inr h))))
       ·exact .inl h
       ·exact .inr (.inl h)
       ·exact .inr (.inr (.inl h))
       ·exact .inr (.inr (.inr (.inl h)))
      rwa [e] at this
theorem Xq {r : R6} (h : Jk r = true) : r.a < r.d ∧ r.b < r.e ∧ r.c < r.f ∧ -1000000 ≤ r.a ∧ -1000000 ≤ r.b ∧ -1000000 ≤ r.c ∧ r.d ≤ 1000000 ∧ r.e ≤ 1000000 ∧ r.f ≤ 1000000 := by
 rw [y5m] at h
 simp only [y8x, Bool.and_eq_true, decide_eq_true_eq] at h
 omega
end Go.Am
namespace Go.Am
open Go.Proofs.Tryz
open Go.Proofs
theorem z3x (l : List R6) : Vz l = true := rfl
theorem x3k (l : List R6) : Xb l = true := rfl
def eRe (k : List R6 → Int) (L0 L1 : List R6) : Int := bif k L0 != 0 then k L0 else bif k L1 != 0 then k L1 else bif decide ((L0.length : Int) > 0) && ((L1.length : Int) == 0) then 6 else bif decide ((L0.length : Int) > 40) || decide ((L1.length : Int) > 40) then 4 else 0
def eDi (k : List R6 → Int) (L0 L1 : List R6) : Int := bif k L0 != 0 then k L0 else bif k L1 != 0 then k L1 else bif ((L0.length : Int) == 0) || ((L1.length : Int) == 0) then 6 else bif decide ((L0.length : Int) > 40) || decide ((L1.length : Int) > 40) then 4 else 0
def w3e (L0 L1 : List R6) : Int := eRe Yx L0 L1
def w3f (L0 L1 : List R6) : Int := bif eRe Yx L0 L1 == 0 then y8o L0 L1 else 0
def z1o (L0 L1 : List R6) : Int := eDi Yx L0 L1
def z5c (L0 L1 : List R6) : Int := bif eDi Yx L0 L1 == 0 then Xv (y8o L0 L1) (y8o L1 L0) else 0
def x9o (L0 L1 : List R6) : Int := eRe Ya L0 L1
def x9p (L0 L1 : List R6) : Int := bif eRe Ya L0 L1 == 0 then (bif ((L0.length : Int) == 0) then 0 else z8a L0 L1) else 0
def w0j (L0 L1 : List R6) : Int := eDi Ya L0 L1
def w0k (L0 L1 : List R6) : Int := bif eDi Ya L0 L1 == 0 then Xv (z8a L0 L1) (z8a L1 L0) else 0
def y7r (L0 L1 : List R6) : Bool := true
def z5b (L0 L1 : List R6) : Bool := true
def y5u (L0 L1 : List R6) : Bool := true
def y6e (L0 L1 : List R6) : Bool := true
theorem v2w (a b : Int) : decide (Xv a b > 40) = (decide (a > 40) || decide (b > 40)) := by
 unfold Xv
 split
 ·rcases Zn (decide (b > 40)) with h | h
  ·rw [h, Bool.or_true]
  ·have := of_decide_eq_false h
   rw [h, Yo (by omega)]; rfl
 ·rcases Zn (decide (a > 40)) with h | h
  ·rw [h]; rfl
  ·have := of_decide_eq_false h
   rw [h, Yo (by omega)]; rfl
theorem w0u {L0 L1 : List R6} (h0 : ¬ ((L0.length : Int) > 40)) (h1 : ¬ ((L1.length : Int) > 40)) : Uk L0 L1 = true := by
 unfold Uk; rw [Yp (by omega), Yp (by omega)]; rfl
theorem smR_of {r : R6} (h : Jk r = true) : smR r = true := by
 obtain ⟨_, _, _, h1, h2, h3, h4, h5, h6⟩ := Xq h
 unfold smR
 rw [Xx (by omega), Xx (by omega), Xx (by omega), Xx (by omega), Xx (by omega), Xx (by omega)]; rfl
theorem sck_sm {L : List R6} (h : (Yx L == 0) = true) : L.all smR = true :=
 List.all_eq_true.2 fun r hr => smR_of ((Uv (eq_of_beq h)).2.1 r hr)
theorem rck_sm {L : List R6} (h : (Ya L == 0) = true) : L.all smR = true := sck_sm (by rw [z2j]; exact h)
theorem x9q {L0 L1 : List R6} (k0 : (Ya L0 == 0) = true) (h0 : decide ((L0.length : Int) > 40) = false) (h1 : decide ((L1.length : Int) > 40) = false) (z : ((L1.length : Int) == 0) = false) : Uu L0 L1 = true := by
 have h0 := of_decide_eq_false h0
 have h1 := of_decide_eq_false h1
 have hz : (L1.length : Int) ≠ 0 := fun e => by rw [e] at z; cases z
 unfold Uu
 rw [rck_sm k0, Yd (by omega), Yp (by omega), Yp (by omega)]; rfl
theorem v6t {L : List R6} (h : decide ((L.length : Int) > 0) = false) : ((L.length : Int) == 0) = true := by
 have := of_decide_eq_false h
 exact beq_t' (by omega)
theorem len1 {L : List R6} (h : decide ((L.length : Int) > 0) = true) : ((L.length : Int) == 0) = false := by
 have := of_decide_eq_true h
 exact beq_f' (by omega)
theorem v8z (L0 L1 : List R6) (h : y7r L0 L1 = true) : ∃ N, Yu (x1u L0 L1) N (z8w L0 L1) = .ret [.int .i64 (w3f L0 L1), .int .i64 (w3e L0 L1)] := ⟨0, by
 have hk : ∀ l, (Yx l != 0) = !(Yx l == 0) := fun _ => rfl
 unfold z8w w3f w3e eRe
 simp only [Zc, z3x, cond_true, v2w, hk]
 rcases Zn (Yx L0 == 0) with a0 | a0 <;> rcases Zn (Yx L1 == 0) with a1 | a1 <;> rcases Zn ((L1.length : Int) == 0) with b | b <;> rcases Zn (decide ((L0.length : Int) > 0)) with c | c <;> rcases Zn (decide ((L0.length : Int) > 40)) with d | d <;> rcases Zn (decide ((L1.length : Int) > 40)) with e | e <;> rw [a0, a1, b, c, d, e] <;>
  simp only [Bool.not_true, Bool.not_false, Bool.and_true, Bool.and_false, Bool.true_and, Bool.false_and, Bool.or_true, Bool.or_false, Bool.true_or, Bool.false_or, cond_true, cond_false, a0, a1] <;>
  first | rfl | (rw [w0u (of_decide_eq_false d) (of_decide_eq_false e)]; rfl)⟩
theorem v9b (L0 L1 : List R6) (h : z5b L0 L1 = true) : ∃ N, Yu (x1y L0 L1) N (z8y L0 L1) = .ret [.int .i64 (z5c L0 L1), .int .i64 (z1o L0 L1)] := ⟨0, by
 have hk : ∀ l, (Yx l != 0) = !(Yx l == 0) := fun _ => rfl
 unfold z8y z5c z1o eDi
 simp only [Zc, z3x, cond_true, v2w, hk]
 rcases Zn (Yx L0 == 0) with a0 | a0 <;> rcases Zn (Yx L1 == 0) with a1 | a1 <;> rcases Zn ((L1.length : Int) == 0) with b | b <;> rcases Zn ((L0.length : Int) == 0) with c | c <;> rcases Zn (decide ((L0.length : Int) > 40)) with d | d <;> rcases Zn (decide ((L1.length : Int) > 40)) with e | e <;> rw [a0, a1, b, c, d, e] <;>
  simp only [Bool.not_true, Bool.not_false, Bool.and_true, Bool.and_false, Bool.true_and, Bool.false_and, Bool.or_true, Bool.or_false, Bool.true_or, Bool.false_or, cond_true, cond_false, a0, a1] <;>
  first | rfl | (rw [w0u (of_decide_eq_false d) (of_decide_eq_false e), w0u (of_decide_eq_false e) (of_decide_eq_false d)]; rfl)⟩
theorem v5b (L0 L1 : List R6) (h : y5u L0 L1 = true) : ∃ N, Yu (y9o L0 L1) N (z7z L0 L1) = .ret [.int .i64 (x9p L0 L1), .int .i64 (x9o L0 L1)] := ⟨0, by
 have hk : ∀ l, (Ya l != 0) = !(Ya l == 0) := fun _ => rfl
 unfold z7z x9p x9o eRe
 simp only [Zc, x3k, cond_true, hk]
 rcases Zn (Ya L0 == 0) with a0 | a0 <;> rcases Zn (Ya L1 == 0) with a1 | a1 <;> rcases Zn ((L1.length : Int) == 0) with b | b <;> rcases Zn (decide ((L0.length : Int) > 0)) with c | c <;> rcases Zn (decide ((L0.length : Int) > 40)) with d | d <;> rcases Zn (decide ((L1.length : Int) > 40)) with e | e <;> rw [a0, a1, b, c, d, e] <;>
  (try rw [v6t c]) <;> (try rw [len1 c]) <;>
  simp only [Bool.not_true, Bool.not_false, Bool.and_true, Bool.and_false, Bool.true_and, Bool.false_and, Bool.or_true, Bool.or_false, Bool.true_or, Bool.false_or, cond_true, cond_false, a0, a1] <;>
  first | rfl | (rw [x9q a0 d e b]; rfl)⟩
theorem v5v (L0 L1 : List R6) (h : y6e L0 L1 = true) : ∃ N, Yu (x0d L0 L1) N (z8h L0 L1) = .ret [.int .i64 (w0k L0 L1), .int .i64 (w0j L0 L1)] := ⟨0, by
 have hk : ∀ l, (Ya l != 0) = !(Ya l == 0) := fun _ => rfl
 unfold z8h w0k w0j eDi
 simp only [Zc, x3k, cond_true, hk]
 rcases Zn (Ya L0 == 0) with a0 | a0 <;> rcases Zn (Ya L1 == 0) with a1 | a1 <;> rcases Zn ((L1.length : Int) == 0) with b | b <;> rcases Zn ((L0.length : Int) == 0) with c | c <;> rcases Zn (decide ((L0.length : Int) > 40)) with d | d <;> rcases Zn (decide ((L1.length : Int) > 40)) with e | e <;> rw [a0, a1, b, c, d, e] <;>
  simp only [Bool.not_true, Bool.not_false, Bool.and_true, Bool.and_false, Bool.true_and, Bool.false_and, Bool.or_true, Bool.or_false, Bool.true_or, Bool.false_or, cond_true, cond_false, a0, a1] <;>
  first | rfl | (rw [x9q a0 d e b, x9q a1 e d c]; rfl)⟩
def fDre : List AVal → Option (AVal × Bool)
 | [a0, a1] => match asL R6 a0, asL R6 a1 with
  | some (L0, g0, n0), some (L1, g1, n1) => some (.tup [.int .i64 (w3f L0 L1), .int .i64 (w3e L0 L1)], isT R6 n0 g0 && (isT R6 n1 g1 && (y7r L0 L1)))
  | _, _ => none
 | _ => none
theorem v8l {S : Specs} (hS : Zu prog S) : Zu prog (S.with w1t fDre) := by
 refine z0x hS (by kernel_rfl) fun args v h => ?_
 unfold fDre at h
 split at h
 ·rename_i a0 a1
  split at h
  ·rename_i L0 g0 n0 L1 g1 n1 e0 e1
   simp only [Option.some.injEq, Prod.mk.injEq, Bool.and_eq_true] at h
   obtain ⟨rfl, ho0, ho1, hw⟩ := h
   obtain ⟨N, hN⟩ := v8z L0 L1 hw
   exact ⟨_, _, (.cons (asL_le e0 ho0) (.cons (asL_le e1 ho1) .nil)), rfl, w8w L0 L1 N _ hN, 3, rfl⟩
  ·cases h
 ·cases h
def fDdi : List AVal → Option (AVal × Bool)
 | [a0, a1] => match asL R6 a0, asL R6 a1 with
  | some (L0, g0, n0), some (L1, g1, n1) => some (.tup [.int .i64 (z5c L0 L1), .int .i64 (z1o L0 L1)], isT R6 n0 g0 && (isT R6 n1 g1 && (z5b L0 L1)))
  | _, _ => none
 | _ => none
theorem v8m {S : Specs} (hS : Zu prog S) : Zu prog (S.with v2n fDdi) := by
 refine z0x hS (by kernel_rfl) fun args v h => ?_
 unfold fDdi at h
 split at h
 ·rename_i a0 a1
  split at h
  ·rename_i L0 g0 n0 L1 g1 n1 e0 e1
   simp only [Option.some.injEq, Prod.mk.injEq, Bool.and_eq_true] at h
   obtain ⟨rfl, ho0, ho1, hw⟩ := h
   obtain ⟨N, hN⟩ := v9b L0 L1 hw
   exact ⟨_, _, (.cons (asL_le e0 ho0) (.cons (asL_le e1 ho1) .nil)), rfl, w8z L0 L1 N _ hN, 3, rfl⟩
  ·cases h
 ·cases h
def fRre : List AVal → Option (AVal × Bool)
 | [a0, a1] => match asL R6 a0, asL R6 a1 with
  | some (L0, g0, n0), some (L1, g1, n1) => some (.tup [.int .i64 (x9p L0 L1), .int .i64 (x9o L0 L1)], isT R6 n0 g0 && (isT R6 n1 g1 && (y5u L0 L1)))
  | _, _ => none
 | _ => none
theorem v7q {S : Specs} (hS : Zu prog S) : Zu prog (S.with x3r fRre) := by
 refine z0x hS (by kernel_rfl) fun args v h => ?_
 unfold fRre at h
 split at h
 ·rename_i a0 a1
  split at h
  ·rename_i L0 g0 n0 L1 g1 n1 e0 e1
   simp only [Option.some.injEq, Prod.mk.injEq, Bool.and_eq_true] at h
   obtain ⟨rfl, ho0, ho1, hw⟩ := h
   obtain ⟨N, hN⟩ := v5b L0 L1 hw
   exact ⟨_, _, (.cons (asL_le e0 ho0) (.cons (asL_le e1 ho1) .nil)), rfl, w5s L0 L1 N _ hN, 3, rfl⟩
  ·cases h
 ·cases h
def fRdi : List AVal → Option (AVal × Bool)
 | [a0, a1] => match asL R6 a0, asL R6 a1 with
  | some (L0, g0, n0), some (L1, g1, n1) => some (.tup [.int .i64 (w0k L0 L1), .int .i64 (w0j L0 L1)], isT R6 n0 g0 && (isT R6 n1 g1 && (y6e L0 L1)))
  | _, _ => none
 | _ => none
theorem v7w {S : Specs} (hS : Zu prog S) : Zu prog (S.with w1s fRdi) := by
 refine z0x hS (by kernel_rfl) fun args v h => ?_
 unfold fRdi at h
 split at h
 ·rename_i a0 a1
  split at h
  ·rename_i L0 g0 n0 L1 g1 n1 e0 e1
   simp only [Option.some.injEq, Prod.mk.injEq, Bool.and_eq_true] at h
   obtain ⟨rfl, ho0, ho1, hw⟩ := h
   obtain ⟨N, hN⟩ := v5v L0 L1 hw
   exact ⟨_, _, (.cons (asL_le e0 ho0) (.cons (asL_le e1 ho1) .nil)), rfl, w6f L0 L1 N _ hN, 3, rfl⟩
  ·cases h
 ·cases h
def Dd : Specs := ((((Dc.with w1t fDre).with v2n fDdi).with x3r fRre).with w1s fRdi)
theorem Uw : Zu prog Dd := (v7w (v7q (v8m (v8l Ve))))
end Go.Am
namespace Go.Am
open Go.Proofs.Tryz
open Go.Proofs
inductive slmS where
 | h0 (v8 : Int)
 | h1 (v16 : Int) (aC : List Int)
 | h2 (v4 : Int) (aH : List R6) (bF : List R4) (bK : Int) (bL : Int) (aG : Nat) (aJ : List Int)
 | h3 (v4 : Int) (v38 : Int) (aH : List R6) (bF : List R4) (bK : Int) (bL : Int) (aG : Nat) (aJ : List Int) (bD : Int) (bS : Int) (aB : List R4)
 | h4 (v1 : Int) (v2 : Int) (v72 : List R4) (v73 : Int) (v74 : Int) (bE : List R4) (aY : Int) (aA : List R6) (aN : List R4) (aR : Int) (aG : Nat) (aJ : List Int) (bD : List R4)
 | h5 (v2 : Int) (v8 : Int) (bY : Int) (bE : List R4) (aY : Int) (aA : List R6) (aN : List R4) (aR : Int) (bB : Int) (bQ : Nat) (bW : List Int) (aB : List R4)
def slmC (l0 : List R6) : slmS → Cfg
 | .h0 v8 => ⟨⟨19, 0, true⟩, none, (Za prog 134 [1, 0, 1, 0, 0] 0), none, (Zy prog 3), ⟨Yb [(0, (.dat l0.length (Zz l0))), (1, (.fn 113 [])), (7, (ii (l0.length : Int))), (8, (ii v8))], Vq [] 0, 0, [], true⟩, [⟨⟨9, 0, true⟩, (Vi prog 112 [1, 0] 2), (Za prog 112 [1, 0] 1), none, (Zy prog 3), Yb [(5, (.dat l0.length (Zz l0))), (6, (.fn 113 []))]⟩, ⟨⟨15, 0, true⟩, (Vi prog 77 [1, 1, 0, 0] 1), (Za prog 77 [1, 1, 0, 0] 1), none, (Zy prog 77), Yb [(0, (.dat l0.length (Zz l0))), (7, (.dat l0.length (Zz l0)))]⟩], .leaf⟩
 | .h1 v16 aC => ⟨⟨36, 0, true⟩, none, (Za prog 129 [1, 1, 0, 1, 0, 0, 1, 1, 0, 0, 1, 1, 0, 0] 0), none, (Zy prog 15), ⟨Yb [(1, (.ptr 0 0)), (3, (.ptr 2 0)), (8, (.sl 1 0 1 (.un 1))), (9, (ii 1)), (10, (ii 0)), (14, (.dat l0.length (Zz l0))), (15, (ii (l0.length : Int))), (16, (ii v16))], Vq [⟨[(.sl 1 0 1 (.un 1))], 168, none⟩, ⟨[(.dat l0.length (Zz l0))], 22, none⟩, ⟨[(.sla 7 1 0 aC.length (.un 1))], 47, none⟩, ⟨[.nilf], 124, none⟩, ⟨[.nils], 30, none⟩, ⟨[(ii 0)], 24, none⟩, ⟨[.nils, .nils, (ii 0), (ii 0)], 170, none⟩, ⟨rows aC.length (Zz aC), 3, some ⟨1, aC.length, (Zz aC)⟩⟩] 0, 8, [], true⟩, [⟨⟨65, 0, true⟩, (Vi prog 108 [1, 1, 0, 0] 1), (Za prog 108 [1, 1, 0, 0] 1), none, (Zy prog 36), Yb [(2, (.ptr 3 0)), (4, (.ptr 4 0)), (5, (.ptr 5 0)), (6, (.ptr 6 0)), (13, (.sl 1 0 1 (.un 1)))]⟩, ⟨⟨15, 0, true⟩, (Vi prog 77 [1, 1, 1, 0] 3), (Za prog 77 [1, 1, 1, 0] 1), none, (Zy prog 77), Yb [(9, (.agg [.nilf])), (11, (.sl 1 0 1 (.un 1)))]⟩], .leaf⟩
 | .h2 v4 aH bF bK bL aG aJ => ⟨⟨86, 0, true⟩, none, (Za prog 150 [1, 0, 0] 0), none, [], ⟨Yb [(0, (.yld 0)), (1, (.ptr 5 0)), (2, (.ptr 7 0)), (4, (ii v4))], y6x [(1, ⟨[.nilf], 124, none⟩), (2, ⟨[.nils], 30, none⟩), (3, ⟨[(ii 0)], 24, none⟩), (4, ⟨[(.sla 9 6 0 aH.length (.un 6)), (.dat bF.length (Zz bF)), (ii bK), (ii bL)], 170, none⟩), (5, ⟨[(.sla 6 1 0 aG (.un 1))], 47, none⟩), (6, ⟨rows aJ.length (Zz aJ), 3, some ⟨1, aJ.length, (Zz aJ)⟩⟩), (7, ⟨[(.sl 8 0 1 (.un 1))], 168, none⟩), (8, ⟨[(.dat l0.length (Zz l0))], 22, none⟩), (9, ⟨rows aH.length (Zz aH), 68, some ⟨6, aH.length, (Zz aH)⟩⟩)], 10, [], true⟩, [⟨⟨65, 0, true⟩, none, (.inRangeFunc 0 :: (Za prog 108 [1, 1, 0, 1, 0] 1)), none, (Zy prog 36), Yb [(4, (.ptr 2 0)), (5, (.ptr 3 0)), (6, (.ptr 4 0))]⟩, ⟨⟨15, 0, true⟩, (Vi prog 77 [1, 1, 1, 0] 3), (Za prog 77 [1, 1, 1, 0] 1), none, (Zy prog 77), Yb [(9, (.agg [.nilf])), (11, (.sl 8 0 1 (.un 1)))]⟩], (y6y [(0, ⟨.ready, none, 65, Yb [(2, (.ptr 1 0)), (4, (.ptr 2 0)), (5, (.ptr 3 0)), (6, (.ptr 4 0))], [15], (Vm prog 108 [1, 1, 0, 1, 0, 0]), (Vm prog 108 [1, 1, 0, 1, 0, 1])⟩)])⟩
 | .h3 v4 v38 aH bF bK bL aG aJ bD bS aB => ⟨⟨86, 0, true⟩, none, (Za prog 150 [1, 0, 0, 1, 0, 0, 1, 0, 1, 0, 0, 1, 1, 0, 0, 1, 1, 0, 0] 0), none, [], ⟨Yb [(0, (.yld 0)), (1, (.ptr 5 0)), (2, (.ptr 7 0)), (4, (ii v4)), (5, (.ptr 9 0)), (6, (ii 0)), (29, (.sl 8 0 1 (.un 1))), (30, (ii 1)), (31, (ii 0)), (36, (.dat l0.length (Zz l0))), (37, (ii (l0.length : Int))), (38, (ii v38))], y6x [(1, ⟨[.nilf], 124, none⟩), (2, ⟨[.nils], 30, none⟩), (3, ⟨[(ii 0)], 24, none⟩), (4, ⟨[(.sla 12 6 0 aH.length (.un 6)), (.dat bF.length (Zz bF)), (ii bK), (ii bL)], 170, none⟩), (5, ⟨[(.sla 6 1 0 aG (.un 1))], 47, none⟩), (6, ⟨rows aJ.length (Zz aJ), 3, some ⟨1, aJ.length, (Zz aJ)⟩⟩), (7, ⟨[(.sl 8 0 1 (.un 1))], 168, none⟩), (8, ⟨[(.dat l0.length (Zz l0))], 22, none⟩), (9, ⟨[(ii bD), (ii bS), (.sl 10 0 1 (.ex 1))], 175, none⟩), (10, ⟨[(.sla 11 4 0 aB.length (.un 4))], 105, none⟩), (11, ⟨rows aB.length (Zz aB), 114, some ⟨4, aB.length, (Zz aB)⟩⟩), (12, ⟨rows aH.length (Zz aH), 68, some ⟨6, aH.length, (Zz aH)⟩⟩)], 13, [], true⟩, [⟨⟨65, 0, true⟩, none, (.inRangeFunc 0 :: (Za prog 108 [1, 1, 0, 1, 0] 1)), none, (Zy prog 36), Yb [(4, (.ptr 2 0)), (5, (.ptr 3 0)), (6, (.ptr 4 0))]⟩, ⟨⟨15, 0, true⟩, (Vi prog 77 [1, 1, 1, 0] 3), (Za prog 77 [1, 1, 1, 0] 1), none, (Zy prog 77), Yb [(9, (.agg [.nilf])), (11, (.sl 8 0 1 (.un 1)))]⟩], (y6y [(0, ⟨.ready, none, 65, Yb [(2, (.ptr 1 0)), (4, (.ptr 2 0)), (5, (.ptr 3 0)), (6, (.ptr 4 0))], [15], (Vm prog 108 [1, 1, 0, 1, 0, 0]), (Vm prog 108 [1, 1, 0, 1, 0, 1])⟩)])⟩
 | .h4 v1 v2 v72 v73 v74 bE aY aA aN aR aG aJ bD => ⟨⟨101, 0, true⟩, none, (Za prog 131 [1, 1, 1, 0, 0] 0), none, [], ⟨Yb [(0, (.ptr 0 0)), (1, (ii v1)), (2, (ii v2)), (72, (.dat v72.length (Zz v72))), (73, (ii v73)), (74, (ii v74))], y6x [(0, ⟨[(.sla 10 6 0 aA.length (.un 6)), (.dat aN.length (Zz aN)), (ii aR), (ii v2)], 170, none⟩), (2, ⟨[.nilf], 124, none⟩), (3, ⟨[.nils], 30, none⟩), (4, ⟨[(ii 0)], 24, none⟩), (5, ⟨[(.sla 6 1 0 aG (.un 1))], 47, none⟩), (6, ⟨rows aJ.length (Zz aJ), 3, some ⟨1, aJ.length, (Zz aJ)⟩⟩), (7, ⟨[(.sl 8 0 1 (.un 1))], 168, none⟩), (8, ⟨[(.dat l0.length (Zz l0))], 22, none⟩), (9, ⟨[(.dat bD.length (Zz bD))], 105, none⟩), (10, ⟨rows aA.length (Zz aA), 68, some ⟨6, aA.length, (Zz aA)⟩⟩)], 11, [], true⟩, [⟨⟨65, 0, true⟩, (Vi prog 108 [1, 1, 0, 1, 0, 1, 0, 1, 1, 1] 5), (Za prog 108 [1, 1, 0, 1, 0, 1, 0, 1, 1, 1] 1), (some 1), [], Yb [(6, (.ptr 0 0)), (54, (ii v1)), (56, (ii v2)), (57, (.dat bE.length (Zz bE)))]⟩, ⟨⟨86, 0, true⟩, (Vi prog 150 [1, 0, 0, 1, 0, 0, 1, 1, 0] 2), (Za prog 150 [1, 0, 0, 1, 0, 0, 1, 1, 0] 1), none, [], Yb [(0, (.yld 1)), (1, (.ptr 5 0)), (2, (.ptr 7 0)), (4, (ii aY)), (82, (.yld 1)), (83, (.agg [(ii v1), (ii v2), (.sl 9 0 1 (.ex 1))]))]⟩, ⟨⟨65, 0, true⟩, none, (.inRangeFunc 1 :: (Za prog 108 [1, 1, 0, 1, 0] 1)), none, (Zy prog 36), Yb [(4, (.ptr 3 0)), (5, (.ptr 4 0)), (6, (.ptr 0 0))]⟩, ⟨⟨15, 0, true⟩, (Vi prog 77 [1, 1, 1, 0] 3), (Za prog 77 [1, 1, 1, 0] 1), none, (Zy prog 77), Yb [(9, (.agg [.nilf])), (11, (.sl 8 0 1 (.un 1)))]⟩], (y6y [(1, ⟨.busy, none, 65, Yb [(2, (.ptr 2 0)), (4, (.ptr 3 0)), (5, (.ptr 4 0)), (6, (.ptr 0 0))], [15], (Vm prog 108 [1, 1, 0, 1, 0, 0]), (Vm prog 108 [1, 1, 0, 1, 0, 1])⟩)])⟩
 | .h5 v2 v8 bY bE aY aA aN aR bB bQ bW aB => ⟨⟨101, 0, true⟩, none, (Za prog 131 [0, 1, 0, 0, 1, 0, 0] 0), none, [], ⟨Yb [(0, (.ptr 0 0)), (2, (ii v2)), (8, (ii v8))], y6x [(0, ⟨[(.sla 1 6 0 aA.length (.un 6)), (.dat aN.length (Zz aN)), (ii aR), (ii bB)], 170, none⟩), (1, ⟨rows aA.length (Zz aA), 68, some ⟨6, aA.length, (Zz aA)⟩⟩), (3, ⟨[.nilf], 124, none⟩), (4, ⟨[.nils], 30, none⟩), (5, ⟨[(ii 0)], 24, none⟩), (6, ⟨[(.sla 7 1 0 bQ (.un 1))], 47, none⟩), (7, ⟨rows bW.length (Zz bW), 3, some ⟨1, bW.length, (Zz bW)⟩⟩), (8, ⟨[(.sl 9 0 1 (.un 1))], 168, none⟩), (9, ⟨[(.dat l0.length (Zz l0))], 22, none⟩), (10, ⟨[(.dat aB.length (Zz aB))], 105, none⟩)], 11, [], true⟩, [⟨⟨65, 0, true⟩, (Vi prog 108 [1, 1, 0, 1, 0, 1, 0, 1, 1, 1] 5), (Za prog 108 [1, 1, 0, 1, 0, 1, 0, 1, 1, 1] 1), (some 2), [], Yb [(6, (.ptr 0 0)), (54, (ii bY)), (56, (ii v2)), (57, (.dat bE.length (Zz bE)))]⟩, ⟨⟨86, 0, true⟩, (Vi prog 150 [1, 0, 0, 1, 0, 0, 1, 1, 0] 2), (Za prog 150 [1, 0, 0, 1, 0, 0, 1, 1, 0] 1), none, [], Yb [(0, (.yld 2)), (1, (.ptr 6 0)), (2, (.ptr 8 0)), (4, (ii aY)), (82, (.yld 2)), (83, (.agg [(ii bY), (ii v2), (.sl 10 0 1 (.ex 1))]))]⟩, ⟨⟨65, 0, true⟩, none, (.inRangeFunc 2 :: (Za prog 108 [1, 1, 0, 1, 0] 1)), none, (Zy prog 36), Yb [(4, (.ptr 4 0)), (5, (.ptr 5 0)), (6, (.ptr 0 0))]⟩, ⟨⟨15, 0, true⟩, (Vi prog 77 [1, 1, 1, 0] 3), (Za prog 77 [1, 1, 1, 0] 1), none, (Zy prog 77), Yb [(9, (.agg [.nilf])), (11, (.sl 9 0 1 (.un 1)))]⟩], (y6y [(2, ⟨.busy, none, 65, Yb [(2, (.ptr 3 0)), (4, (.ptr 4 0)), (5, (.ptr 5 0)), (6, (.ptr 0 0))], [15], (Vm prog 108 [1, 1, 0, 1, 0, 0]), (Vm prog 108 [1, 1, 0, 1, 0, 1])⟩)])⟩
def slmN0 : List (Option (List Nat)) := [some [0, 1, 7, 8], some [5, 6], some [0, 7]]
def slmM0 : List (Option (List Nat)) := []
def v4m : List (Option (List Nat)) := [some [1, 3, 8, 9, 10, 14, 15, 16], some [2, 4, 5, 6, 13], some [9, 11]]
def v4o : List (Option (List Nat)) := []
def v4l : List (Option (List Nat)) := [some [0, 1, 2, 4], some [4, 5, 6], some [9, 11]]
def v4n : List (Option (List Nat)) := [some [2, 4, 5, 6], none, none, none, none, none, none, none, none, none]
def w5b : List (Option (List Nat)) := [some [0, 1, 2, 4, 5, 6, 29, 30, 31, 36, 37, 38], some [4, 5, 6], some [9, 11]]
def w5d : List (Option (List Nat)) := [some [2, 4, 5, 6], none, none, none, none, none, none, none, none, none, none, none, none]
def w5a : List (Option (List Nat)) := [some [0, 1, 2, 72, 73, 74], some [6, 54, 56, 57], some [0, 1, 2, 4, 82, 83], some [4, 5, 6], some [9, 11]]
def w5c : List (Option (List Nat)) := [none, some [2, 4, 5, 6], none, none, none, none, none, none, none, none, none]
def slmN5 : List (Option (List Nat)) := [some [0, 2, 8], some [6, 54, 56, 57], some [0, 1, 2, 4, 82, 83], some [4, 5, 6], some [9, 11]]
def slmM5 : List (Option (List Nat)) := [none, none, some [2, 4, 5, 6], none, none, none, none, none, none, none, none]
def Ys (l0 : List R6) : slmS → Xj slmS
 | .h0 v8 => (bif (decide (v8 < (l0.length : Int))) then (bif ((decide (0 ≤ v8 ∧ v8 < (l0.length : Int))) && true) then (bif (!(v3y (rd l0 v8.toNat).a (rd l0 v8.toNat).b (rd l0 v8.toNat).c (rd l0 v8.toNat).d (rd l0 v8.toNat).e (rd l0 v8.toNat).f)) then (bif (decide (v8 ≥ 0)) then (.ret [.nils, (.int .i64 8)]) else (.to (.h1 0 ([] : List Int)))) else (.to (.h0 (IntKind.wrap .i64 (v8 + 1))))) else .stuck) else (.to (.h1 0 ([] : List Int))))
 | .h1 v16 aC => (bif (decide (v16 < (l0.length : Int))) then (bif ((decide (0 ≤ v16 ∧ v16 < (l0.length : Int))) && true) then (bif (Nat.beq 1 1 && ((decide (0 + aC.length = aC.length)) && decide ((aC.length + 2 + 1) * (8 + 1) ≤ Kd))) then (.to (.h1 (IntKind.wrap .i64 (v16 + 1)) (aC ++ [(rd l0 v16.toNat).c, (rd l0 v16.toNat).f]))) else .stuck) else .stuck) else (bif (decide (aC.length < 4611686018427387904)) then (bif (decide (aC.length = aC.length)) then (.to (.h2 1 ([] : List R6) ([] : List R4) 0 0 (cmpN (Yy aC.length (cOf (Zz (Wk (Yy aC.length (cOf (Zz aC)))))))) (Vk (Yy aC.length (cOf (Zz (Wk (Yy aC.length (cOf (Zz aC)))))))))) else .stuck) else .stuck))
 | .h2 v4 aH bF bK bL aG aJ => (bif (decide (v4 < ((aG : Nat) : Int))) then (bif ((decide (0 ≤ (IntKind.wrap .i64 (v4 - 1)) ∧ (IntKind.wrap .i64 (v4 - 1)) < ((aG : Nat) : Int))) && true) then (bif (decide ((0 + (Int.toNat (IntKind.wrap .i64 (v4 - 1)))) < aJ.length)) then (bif ((decide (0 ≤ v4 ∧ v4 < ((aG : Nat) : Int))) && true) then (bif (decide ((0 + v4.toNat) < aJ.length)) then (.to (.h3 v4 0 aH bF bK bL aG aJ (rd aJ (0 + (Int.toNat (IntKind.wrap .i64 (v4 - 1))))) (rd aJ (0 + v4.toNat)) ([] : List R4))) else .stuck) else .stuck) else .stuck) else .stuck) else (bif (decide ((aH.length : Int) > 400)) then (.ret [.nils, (.int .i64 4)]) else (.ret [(.dat aH.length (Zz aH)), (.int .i64 0)])))
 | .h3 v4 v38 aH bF bK bL aG aJ bD bS aB => (bif (decide (v38 < (l0.length : Int))) then (bif ((decide (0 ≤ v38 ∧ v38 < (l0.length : Int))) && true) then (bif (decide ((rd l0 v38.toNat).c ≤ bD)) then (bif (decide (bD < (rd l0 v38.toNat).f)) then (bif (Nat.beq 4 4 && ((decide (0 + aB.length = aB.length)) && decide ((aB.length + 1 + 1) * (32 + 1) ≤ Kd))) then (.to (.h3 v4 (IntKind.wrap .i64 (v38 + 1)) aH bF bK bL aG aJ bD bS (aB ++ [(R4.mk (rd l0 v38.toNat).a (rd l0 v38.toNat).b (rd l0 v38.toNat).d (rd l0 v38.toNat).e)]))) else .stuck) else (.to (.h3 v4 (IntKind.wrap .i64 (v38 + 1)) aH bF bK bL aG aJ bD bS aB))) else (.to (.h3 v4 (IntKind.wrap .i64 (v38 + 1)) aH bF bK bL aG aJ bD bS aB))) else .stuck) else (bif (Qf (cvT aB)) then (bif ((Xt (cvT aB)) != 0) then (.ret [.nils, (.int .i64 (Xt (cvT aB)))]) else (bif (decide ((((Zr (cvT aB)).length : Nat) : Int) > 0)) then (bif (bL == bD) then (bif (Wc (cvT bF) (cvT (Zr (cvT aB)))) then (bif (Jx (cvT bF) (cvT (Zr (cvT aB)))) then (.to (.h5 bS bK bD (Zr (cvT aB)) v4 aH bF bK bL aG aJ aB)) else (.to (.h4 bD bS (Zr (cvT aB)) (((Zr (cvT aB)).length : Nat) : Int) 0 (Zr (cvT aB)) v4 aH (Zr (cvT aB)) (aH.length : Int) aG aJ aB))) else .stuck) else (.to (.h4 bD bS (Zr (cvT aB)) (((Zr (cvT aB)).length : Nat) : Int) 0 (Zr (cvT aB)) v4 aH (Zr (cvT aB)) (aH.length : Int) aG aJ aB))) else (.to (.h4 bD bS (Zr (cvT aB)) (((Zr (cvT aB)).length : Nat) : Int) 0 (Zr (cvT aB)) v4 aH (Zr (cvT aB)) (aH.length : Int) aG aJ aB)))) else .stuck))
 | .h4 v1 v2 v72 v73 v74 bE aY aA aN aR aG aJ bD => (bif (decide (v74 < v73)) then (bif ((decide (0 ≤ v74 ∧ v74 < (v72.length : Int))) && true) then (bif (Nat.beq 6 6 && ((decide (0 + aA.length = aA.length)) && decide ((aA.length + 1 + 1) * (48 + 1) ≤ Kd))) then (.to (.h4 v1 v2 v72 v73 (IntKind.wrap .i64 (v74 + 1)) bE aY (aA ++ [(R6.mk (rd v72 v74.toNat).a (rd v72 v74.toNat).b v1 (rd v72 v74.toNat).c (rd v72 v74.toNat).d v2)]) aN aR aG aJ bD)) else .stuck) else .stuck) else (.to (.h2 (IntKind.wrap .i64 (aY + 1)) aA aN aR v2 aG aJ)))
 | .h5 v2 v8 bY bE aY aA aN aR bB bQ bW aB => (bif (decide (v8 < (aA.length : Int))) then (bif ((decide (0 ≤ v8 ∧ v8 < (aA.length : Int))) && true) then (bif (decide ((0 + v8.toNat) < aA.length)) then (.to (.h5 v2 (IntKind.wrap .i64 (v8 + 1)) bY bE aY (aA.set (0 + v8.toNat) (R6.mk (rd aA (0 + v8.toNat)).a (rd aA (0 + v8.toNat)).b (rd aA (0 + v8.toNat)).c (rd aA (0 + v8.toNat)).d (rd aA (0 + v8.toNat)).e v2)) aN aR bB bQ bW aB)) else .stuck) else .stuck) else (.to (.h2 (IntKind.wrap .i64 (aY + 1)) aA aN aR v2 bQ bW)))
def z7v (l0 : List R6) : Xj slmS := (bif (decide ((l0.length : Int) > 400)) then (.ret [.nils, (.int .i64 4)]) else (.to (.h0 0)))
theorem x5i (l0 : List R6) : ∀ s, Xd prog (Zy prog 77) (slmC l0) (slmC l0 s) (Ys l0 s)
 | .h0 v8 => (lb (fun k0 => (lo fun aF => (lb (fun k1 => (lb (fun k2 => (lr 15 77 [1, 1, 0, 1, 0, 0] 1 77 [(2, .nils), (3, (ii 8))] (sl Uw 54 [] ⟨[], [], [some [2, 3]], []⟩ ⟨[], [], []⟩ (trs 3 []) (tt k2 (tt k1 (ww aF (tt k0 nn))))))) (fun k2 => (sl Uw 112 [(3, 1, Zz ([] : List Int))] ⟨[6, 1, 7, 2, 3, 4, 5, 8], [], v4m, v4o⟩ ⟨[], [.keep, .keep, .cells [.grow 7 1], .keep, .keep, .keep, .keep, .keep], []⟩ [true, true, false, true] (pp (fl ([] : List Int) nn) (tt k2 (tt k1 (ww aF (tt k0 nn))))))))) (fun k1 => (sl Uw 44 [] ⟨[], [], slmN0, slmM0⟩ ⟨[], [], []⟩ [true, false] (tt k1 (ww aF (tt k0 nn)))))))) (fun k0 => (sl Uw 81 [(3, 1, Zz ([] : List Int))] ⟨[5, 0, 6, 1, 2, 3, 4, 7], [], v4m, v4o⟩ ⟨[], [.keep, .keep, .cells [.grow 7 1], .keep, .keep, .keep, .keep, .keep], []⟩ [false, false, true] (pp (fl ([] : List Int) nn) (tt k0 nn)))))
 | .h1 v16 aC => (lb (fun k0 => (lo fun o0 => (lo fun o1 => (sl Uw 34 [] ⟨[0, 1, 2, 3, 4, 5, 6, 10], [], v4m, v4o⟩ ⟨[], [.keep, .keep, .cells [.len (aC ++ [(rd l0 (tn v16)).c, (rd l0 (tn v16)).f]).length], .keep, .keep, .keep, .keep, .rowed 1 (aC ++ [(rd l0 (tn v16)).c, (rd l0 (tn v16)).f]).length (Zz (aC ++ [(rd l0 (tn v16)).c, (rd l0 (tn v16)).f]))], []⟩ [true] (pp (xL (aC.length + 2) (aC ++ [(rd l0 (tn v16)).c, (rd l0 (tn v16)).f]).length) (pp (xL (aC.length + 2) (aC ++ [(rd l0 (tn v16)).c, (rd l0 (tn v16)).f]).length) (pp (xS (aC.length + 2) (Zh (Zz aC) 0 aC.length 1 [(ii (rd l0 (tn v16)).c), (ii (rd l0 (tn v16)).f)]) (Zz (aC ++ [(rd l0 (tn v16)).c, (rd l0 (tn v16)).f]))) (pp (pp (xF (Zh (Zz aC) 0 aC.length 1 [(ii (rd l0 (tn v16)).c), (ii (rd l0 (tn v16)).f)])) nn) (ww o1 (ww o0 (tt k0 nn))))))))))) (fun k0 => (lo fun o0 => (lo fun o1 => (sl Uw 46 [(68, 6, Zz ([] : List R6))] ⟨[8, 3, 4, 5, 6, 2, 7, 0, 1, 9], [], v4l, v4n⟩ ⟨[], (kpB 4 [.cells [.grow 9 6, .list 0 (Zz ([] : List R4)), .keep, .keep], .keep, .rowed 1 (Vk (Yy aC.length (cOf (Zz (Wk (Yy aC.length (cOf (Zz aC)))))))).length (Zz (Vk (Yy aC.length (cOf (Zz (Wk (Yy aC.length (cOf (Zz aC))))))))), .keep, .keep, .keep]), []⟩ [false, false] (pp (xL aC.length (Vk (Yy aC.length (cOf (Zz (Wk (Yy aC.length (cOf (Zz aC)))))))).length (by first | exact y0f _ _ | exact Jn rfl)) (pp (xS aC.length (Zz (Vk (Yy aC.length (cOf (Zz (Wk (Yy aC.length (cOf (Zz aC))))))))) (Zz (Vk (Yy aC.length (cOf (Zz (Wk (Yy aC.length (cOf (Zz aC)))))))))) (pp (fl (Vk (Yy aC.length (cOf (Zz (Wk (Yy aC.length (cOf (Zz aC)))))))) (fl ([] : List R6) nn)) (pp (pp (xG (Nat.beq 1 1)) (pp (xG (Nat.beq 1 1)) (pp (xG (Nat.beq 0 0)) (pp (xG (decide (aC.length = aC.length))) (pp (xG (isI (Zz (Wk (Yy aC.length (cOf (Zz aC))))))) (xG (decide (aC.length < 4611686018427387904)))))))) (pp (pp (xG (Nat.beq 1 1)) (pp (xG (Nat.beq 1 1)) (pp (xG (Nat.beq 0 0)) (pp (xG (decide (aC.length = aC.length))) (pp (xG (isI (Zz aC))) (xG (decide (aC.length < 4611686018427387904)))))))) (tt k0 nn)))))))))))
 | .h2 v4 aH bF bK bL aG aJ => (lb (fun k0 => (lo fun o0 => (lo fun o1 => (lo fun o2 => (lo fun o3 => (sl Uw 48 [(114, 4, Zz ([] : List R4))] ⟨[0, 1, 2, 3, 4, 5, 6, 7, 8, 10, 11, 12, 9], [], w5b, w5d⟩ ⟨[], (kpB 10 [.cells [.grow 11 4], .keep, .keep]), []⟩ (trs 3 []) (pp (fl aJ (fl ([] : List R4) (fl aH nn))) (ww o3 (ww o2 (ww o1 (ww o0 (tt k0 nn)))))))))))) (fun k0 => (lb (fun k1 => (lr 15 3 [1, 1, 1, 1, 1, 1, 0] 1 77 [(2, .nils), (3, (ii 4))] (sl Uw 33 [] ⟨[], [], [some [2, 3]], []⟩ ⟨[], [], []⟩ [false, true] (tt k1 (tt k0 nn))))) (fun k1 => (lr 15 3 [1, 1, 1, 1, 1, 1, 0] 1 77 [(2, (.dat aH.length (Zz aH))), (3, (ii 0))] (sl Uw 36 [] ⟨[], [9], [some [2, 3]], []⟩ ⟨[(2, .frz aH.length aH.length (Zz aH) (Zz aH))], [], []⟩ [false, false] (pp (xZ (z8r 6 6 0 aH.length aH.length (Zz aH)) aH.length (Zz aH)) (pp (xL aH.length aH.length) (pp (xS aH.length (Zz aH) (Zz aH)) (pp (fl aH nn) (tt k1 (tt k0 nn))))))))))))
 | .h3 v4 v38 aH bF bK bL aG aJ bD bS aB => (lb (fun k0 => (lo fun aF => (lb (fun k1 => (lb (fun k2 => (lo fun o0 => (sl Uw 41 [] ⟨[0, 1, 2, 3, 4, 5, 6, 7, 8, 9, 10, 15, 12], [], w5b, w5d⟩ ⟨[], (kpB 10 [.cells [.len (aB ++ [(R4.mk (rd l0 (tn v38)).a (rd l0 (tn v38)).b (rd l0 (tn v38)).d (rd l0 (tn v38)).e)]).length], .rowed 4 (aB ++ [(R4.mk (rd l0 (tn v38)).a (rd l0 (tn v38)).b (rd l0 (tn v38)).d (rd l0 (tn v38)).e)]).length (Zz (aB ++ [(R4.mk (rd l0 (tn v38)).a (rd l0 (tn v38)).b (rd l0 (tn v38)).d (rd l0 (tn v38)).e)])), .keep]), []⟩ (trs 8 []) (pp (xL (aB.length + 1) (aB ++ [(R4.mk (rd l0 (tn v38)).a (rd l0 (tn v38)).b (rd l0 (tn v38)).d (rd l0 (tn v38)).e)]).length) (pp (xL (aB.length + 1) (aB ++ [(R4.mk (rd l0 (tn v38)).a (rd l0 (tn v38)).b (rd l0 (tn v38)).d (rd l0 (tn v38)).e)]).length) (pp (xS (aB.length + 1) (Zh (Zz aB) 0 aB.length 4 [(ii (rd l0 (tn v38)).a), (ii (rd l0 (tn v38)).b), (ii (rd l0 (tn v38)).d), (ii (rd l0 (tn v38)).e)]) (Zz (aB ++ [(R4.mk (rd l0 (tn v38)).a (rd l0 (tn v38)).b (rd l0 (tn v38)).d (rd l0 (tn v38)).e)]))) (pp (fl aJ (pp (xF (Zh (Zz aB) 0 aB.length 4 [(ii (rd l0 (tn v38)).a), (ii (rd l0 (tn v38)).b), (ii (rd l0 (tn v38)).d), (ii (rd l0 (tn v38)).e)])) (fl aH nn))) (ww o0 (tt k2 (tt k1 (ww aF (tt k0 nn)))))))))))) (fun k2 => (sl Uw 41 [] ⟨(List.range 13), [], w5b, w5d⟩ ⟨[], [], []⟩ (trs 7 [false]) (pp (fl aJ (fl aB (fl aH nn))) (tt k2 (tt k1 (ww aF (tt k0 nn))))))))) (fun k1 => (sl Uw 41 [] ⟨(List.range 13), [], w5b, w5d⟩ ⟨[], [], []⟩ [true, false, false, false, false, false, false, false] (pp (fl aJ (fl aB (fl aH nn))) (tt k1 (ww aF (tt k0 nn))))))))) (fun k0 => (Vb (sl Uw (C' := ⟨⟨65, 0, true⟩, (Vi prog 108 [1, 1, 0, 1, 0, 1, 0, 0] 4), (Za prog 108 [1, 1, 0, 1, 0, 1, 0, 0] 1), (some 0), [], ⟨Yb [(2, (.ptr 1 0)), (4, (.ptr 2 0)), (5, (.ptr 3 0)), (6, (.ptr 4 0)), (7, (.ptr 6 0)), (20, (.dat aB.length (Zz aB)))], y6x [(1, ⟨[.nilf], 124, none⟩), (2, ⟨[.nils], 30, none⟩), (3, ⟨[(ii 0)], 24, none⟩), (4, ⟨[(.sla 5 6 0 aH.length (.un 6)), (.dat bF.length (Zz bF)), (ii bK), (ii bL)], 170, none⟩), (5, ⟨rows aH.length (Zz aH), 68, some ⟨6, aH.length, (Zz aH)⟩⟩), (6, ⟨[(ii bD), (ii bS), (.sl 7 0 1 (.ex 1))], 175, none⟩), (7, ⟨[(.dat aB.length (Zz aB))], 105, none⟩), (8, ⟨[(.sla 9 1 0 aG (.un 1))], 47, none⟩), (9, ⟨rows aJ.length (Zz aJ), 3, some ⟨1, aJ.length, (Zz aJ)⟩⟩), (10, ⟨[(.sl 11 0 1 (.un 1))], 168, none⟩), (11, ⟨[(.dat l0.length (Zz l0))], 22, none⟩)], 12, [], true⟩, [⟨⟨86, 0, true⟩, (Vi prog 150 [1, 0, 0, 1, 0, 0, 1, 1, 0] 2), (Za prog 150 [1, 0, 0, 1, 0, 0, 1, 1, 0] 1), none, [], Yb [(0, (.yld 0)), (1, (.ptr 8 0)), (2, (.ptr 10 0)), (4, (ii v4)), (82, (.yld 0)), (83, (.agg [(ii bD), (ii bS), (.sl 7 0 1 (.ex 1))]))]⟩, ⟨⟨65, 0, true⟩, none, (.inRangeFunc 0 :: (Za prog 108 [1, 1, 0, 1, 0] 1)), none, (Zy prog 36), Yb [(4, (.ptr 2 0)), (5, (.ptr 3 0)), (6, (.ptr 4 0))]⟩, ⟨⟨15, 0, true⟩, (Vi prog 77 [1, 1, 1, 0] 3), (Za prog 77 [1, 1, 1, 0] 1), none, (Zy prog 77), Yb [(9, (.agg [.nilf])), (11, (.sl 11 0 1 (.un 1)))]⟩], (y6y [(0, ⟨.busy, none, 65, Yb [(2, (.ptr 1 0)), (4, (.ptr 2 0)), (5, (.ptr 3 0)), (6, (.ptr 4 0))], [15], (Vm prog 108 [1, 1, 0, 1, 0, 0]), (Vm prog 108 [1, 1, 0, 1, 0, 1])⟩)])⟩) 37 [] ⟨[0, 1, 2, 3, 4, 12, 13, 10, 5, 6, 7, 8], [11], [some [2, 4, 5, 6, 7, 20], some [0, 1, 2, 4, 82, 83], some [4, 5, 6], some [9, 11]], [some [2, 4, 5, 6], none, none, none, none, none, none, none, none, none, none, none]⟩ ⟨[(20, .frz aB.length aB.length (Zz aB) (Zz aB))], [.keep, .keep, .keep, .keep, .keep, .keep, .keep, .cells [.frz aB.length aB.length (Zz aB) (Zz aB)], .keep, .keep, .keep, .keep], []⟩ [false, false] (pp (xZ (z8r 4 4 0 aB.length aB.length (Zz aB)) aB.length (Zz aB)) (pp (xL aB.length aB.length) (pp (xS aB.length (Zz aB) (Zz aB)) (pp (xZ (z8r 4 4 0 aB.length aB.length (Zz aB)) aB.length (Zz aB)) (pp (xL aB.length aB.length) (pp (xS aB.length (Zz aB) (Zz aB)) (pp (fl aH (fl aJ nn)) (pp (fl aB nn) (tt k0 nn)))))))))) (lo fun aF => (lb (fun k1 => (lr 15 3 [1, 1, 1, 1, 1, 1, 0] 1 77 [(2, .nils), (3, (ii (Xt (cvT aB))))] (sl Uw 50 [] ⟨[], [], [some [2, 3]], []⟩ ⟨[], [], []⟩ [false, true, true] (tt k1 (pp (pp (xr aB) (xw aF)) nn))))) (fun k1 => (lb (fun k2 => (lb (fun k3 => (lo fun cT => (lb (fun k4 => (sl Uw 75 [] ⟨[4, 5, 0, 1, 2, 3, 8, 9, 10, 11, 7], [], slmN5, slmM5⟩ ⟨[], [], []⟩ [false, false, true, true, true, true, true, true, true, true, true, true, true, true, true] (pp (fl aH (fl aJ nn)) (tt k4 (pp (pp (xr bF) (pp (xI R4 (Zr (cvT aB)).length (Zz (Zr (cvT aB)))) (xw cT))) (tt k3 (tt k2 (tt k1 (pp (pp (xr aB) (xw aF)) nn))))))))) (fun k4 => (sl Uw 95 [] ⟨[4, 0, 1, 2, 3, 8, 9, 10, 11, 7, 5], [], w5a, w5c⟩ ⟨[], [], []⟩ [false, false, true, true, true, true, true, true, true, true, true, true, true, true, false] (pp (fl aJ (fl aH nn)) (tt k4 (pp (pp (xr bF) (pp (xI R4 (Zr (cvT aB)).length (Zz (Zr (cvT aB)))) (xw cT))) (tt k3 (tt k2 (tt k1 (pp (pp (xr aB) (xw aF)) nn)))))))))))) (fun k3 => (sl Uw 95 [] ⟨[4, 0, 1, 2, 3, 8, 9, 10, 11, 7, 5], [], w5a, w5c⟩ ⟨[], [], []⟩ [false, false, true, true, true, true, true, true, false, false, false, false, false, false, false] (pp (fl aJ (fl aH nn)) (tt k3 (tt k2 (tt k1 (pp (pp (xr aB) (xw aF)) nn))))))))) (fun k2 => (sl Uw 95 [] ⟨[4, 0, 1, 2, 3, 8, 9, 10, 11, 7, 5], [], w5a, w5c⟩ ⟨[], [], []⟩ [false, false, false, false, false, false, false, false, false, false, false, false, false, false, false] (pp (fl aJ (fl aH nn)) (tt k2 (tt k1 (pp (pp (xr aB) (xw aF)) nn)))))))))))))
 | .h4 v1 v2 v72 v73 v74 bE aY aA aN aR aG aJ bD => (lb (fun k0 => (lo fun o0 => (lo fun o1 => (sl Uw 23 [] ⟨[0, 1, 2, 3, 4, 5, 6, 7, 8, 9, 13], [], w5a, w5c⟩ ⟨[], [.cells [.len (aA ++ [(R6.mk (rd v72 (tn v74)).a (rd v72 (tn v74)).b v1 (rd v72 (tn v74)).c (rd v72 (tn v74)).d v2)]).length, .keep, .keep, .keep], .keep, .keep, .keep, .keep, .keep, .keep, .keep, .keep, .keep, .rowed 6 (aA ++ [(R6.mk (rd v72 (tn v74)).a (rd v72 (tn v74)).b v1 (rd v72 (tn v74)).c (rd v72 (tn v74)).d v2)]).length (Zz (aA ++ [(R6.mk (rd v72 (tn v74)).a (rd v72 (tn v74)).b v1 (rd v72 (tn v74)).c (rd v72 (tn v74)).d v2)]))], []⟩ [true] (pp (xL (aA.length + 1) (aA ++ [(R6.mk (rd v72 (tn v74)).a (rd v72 (tn v74)).b v1 (rd v72 (tn v74)).c (rd v72 (tn v74)).d v2)]).length) (pp (xL (aA.length + 1) (aA ++ [(R6.mk (rd v72 (tn v74)).a (rd v72 (tn v74)).b v1 (rd v72 (tn v74)).c (rd v72 (tn v74)).d v2)]).length) (pp (xS (aA.length + 1) (Zh (Zz aA) 0 aA.length 6 [(ii (rd v72 (tn v74)).a), (ii (rd v72 (tn v74)).b), (ii v1), (ii (rd v72 (tn v74)).c), (ii (rd v72 (tn v74)).d), (ii v2)]) (Zz (aA ++ [(R6.mk (rd v72 (tn v74)).a (rd v72 (tn v74)).b v1 (rd v72 (tn v74)).c (rd v72 (tn v74)).d v2)]))) (pp (fl aJ (pp (xF (Zh (Zz aA) 0 aA.length 6 [(ii (rd v72 (tn v74)).a), (ii (rd v72 (tn v74)).b), (ii v1), (ii (rd v72 (tn v74)).c), (ii (rd v72 (tn v74)).d), (ii v2)])) nn)) (ww o1 (ww o0 (tt k0 nn))))))))))) (fun k0 => (sl Uw 22 [] ⟨[1, 2, 3, 4, 0, 5, 6, 7, 8, 10], [], v4l, v4n⟩ ⟨[], [], []⟩ [false, false] (pp (fl aJ (fl aA nn)) (tt k0 nn)))))
 | .h5 v2 v8 bY bE aY aA aN aR bB bQ bW aB => (lb (fun k0 => (lo fun o0 => (lo fun o1 => (sl Uw 34 [] ⟨(List.range 11), [], slmN5, slmM5⟩ ⟨[], [.cells [.len (aA.set (0 + (tn v8)) (R6.mk (rd aA (0 + (tn v8))).a (rd aA (0 + (tn v8))).b (rd aA (0 + (tn v8))).c (rd aA (0 + (tn v8))).d (rd aA (0 + (tn v8))).e v2)).length, .keep, .keep, .keep], .rowed 6 (aA.set (0 + (tn v8)) (R6.mk (rd aA (0 + (tn v8))).a (rd aA (0 + (tn v8))).b (rd aA (0 + (tn v8))).c (rd aA (0 + (tn v8))).d (rd aA (0 + (tn v8))).e v2)).length (Zz (aA.set (0 + (tn v8)) (R6.mk (rd aA (0 + (tn v8))).a (rd aA (0 + (tn v8))).b (rd aA (0 + (tn v8))).c (rd aA (0 + (tn v8))).d (rd aA (0 + (tn v8))).e v2))), .keep, .keep, .keep, .keep, .keep, .keep, .keep, .keep, .keep], []⟩ [true] (pp (xL aA.length (aA.set (0 + (tn v8)) (R6.mk (rd aA (0 + (tn v8))).a (rd aA (0 + (tn v8))).b (rd aA (0 + (tn v8))).c (rd aA (0 + (tn v8))).d (rd aA (0 + (tn v8))).e v2)).length) (pp (xL aA.length (aA.set (0 + (tn v8)) (R6.mk (rd aA (0 + (tn v8))).a (rd aA (0 + (tn v8))).b (rd aA (0 + (tn v8))).c (rd aA (0 + (tn v8))).d (rd aA (0 + (tn v8))).e v2)).length) (pp (xS aA.length (Xr (Zz aA) (0 + (tn v8)) 5 [(ii v2)]) (Zz (aA.set (0 + (tn v8)) (R6.mk (rd aA (0 + (tn v8))).a (rd aA (0 + (tn v8))).b (rd aA (0 + (tn v8))).c (rd aA (0 + (tn v8))).d (rd aA (0 + (tn v8))).e v2)))) (pp (pp (xF (Xr (Zz aA) (0 + (tn v8)) 5 [(ii v2)])) (fl bW nn)) (ww o1 (ww o0 (tt k0 nn))))))))))) (fun k0 => (sl Uw 36 [] ⟨[2, 3, 4, 5, 0, 6, 7, 8, 9, 1], [], v4l, v4n⟩ ⟨[], [], []⟩ [false, false] (pp (fl bW (fl aA nn)) (tt k0 nn)))))
theorem y9f (l0 : List R6) : Xd prog (Zy prog 77) (slmC l0) (Zg prog 77 [(.dat l0.length (Zz l0))] true []) (z7v l0) := (lb (fun k0 => (lr 15 77 [1, 0, 1, 0, 0] 1 77 [(2, .nils), (3, (ii 4))] (sl Uw 18 [] ⟨[], [], [some [2, 3]], []⟩ ⟨[], [], []⟩ [true] (tt k0 nn)))) (fun k0 => (sl Uw 41 [] ⟨[], [], slmN0, slmM0⟩ ⟨[], [], []⟩ [false] (tt k0 nn))))
theorem w4z (l0 : List R6) (n : Nat) (vs : List AVal) (h : Yu (Ys l0) n (z7v l0) = .ret vs) : Ur prog (Zy prog 77) (Zg prog 77 [(.dat l0.length (Zz l0))] true []) vs := by
 have := Ze (x5i l0) n _ (y9f l0)
 rwa [h] at this
inductive fulS where
 | h0 (v10 : Int) (v31 : Int)
def fulC (l0 : List R6) (bM : Int) (bN : Int) (cA : Int) (cB : Int) (cC : Int) (cD : Int) : fulS → Cfg
 | .h0 v10 v31 => ⟨⟨70, 0, true⟩, none, (Za prog 143 [1, 1, 1, 0, 1, 0, 0] 0), none, (Zy prog 102), ⟨Yb [(5, (.ptr 0 0)), (6, (.ptr 1 0)), (7, (.ptr 2 0)), (9, (.fn 166 [])), (10, (ii v10)), (29, (.dat l0.length (Zz l0))), (30, (ii (l0.length : Int))), (31, (ii v31))], Vq [⟨[(ii bM), (ii bN)], 110, none⟩, ⟨[(ii cA), (ii cB)], 110, none⟩, ⟨[(ii cC), (ii cD)], 110, none⟩] 0, 3, [], true⟩, [], .leaf⟩
def fulN0 : List (Option (List Nat)) := [some [5, 6, 7, 9, 10, 29, 30, 31]]
def fulM0 : List (Option (List Nat)) := []
def z5y (l0 : List R6) (bM : Int) (bN : Int) (cA : Int) (cB : Int) (cC : Int) (cD : Int) : fulS → Xj fulS
 | .h0 v10 v31 => (bif (decide (v31 < (l0.length : Int))) then (bif ((decide (0 ≤ v31 ∧ v31 < (l0.length : Int))) && true) then (.to (.h0 (IntKind.wrap .i64 (v10 - (IntKind.wrap .i64 ((IntKind.wrap .i64 ((IntKind.wrap .i64 (1 * (Xv (IntKind.wrap .i64 ((Wa (rd l0 v31.toNat).d bN) - (Xv (rd l0 v31.toNat).a bM))) 0))) * (Xv (IntKind.wrap .i64 ((Wa (rd l0 v31.toNat).e cB) - (Xv (rd l0 v31.toNat).b cA))) 0))) * (Xv (IntKind.wrap .i64 ((Wa (rd l0 v31.toNat).f cD) - (Xv (rd l0 v31.toNat).c cC))) 0))))) (IntKind.wrap .i64 (v31 + 1)))) else .stuck) else (.ret [(.bool (v10 == 0))]))
def y4l (l0 : List R6) (bM : Int) (bN : Int) (cA : Int) (cB : Int) (cC : Int) (cD : Int) : Xj fulS := (.to (.h0 (IntKind.wrap .i64 ((IntKind.wrap .i64 ((IntKind.wrap .i64 (bN - bM)) * (IntKind.wrap .i64 (cB - cA)))) * (IntKind.wrap .i64 (cD - cC)))) 0))
theorem x6y (l0 : List R6) (bM : Int) (bN : Int) (cA : Int) (cB : Int) (cC : Int) (cD : Int) : ∀ s, Xd prog (Zy prog 143) (fulC l0 bM bN cA cB cC cD) (fulC l0 bM bN cA cB cC cD s) (z5y l0 bM bN cA cB cC cD s)
 | .h0 v10 v31 => (lb (fun k0 => (lo fun o0 => (sl Uw 281 [] ⟨[0, 1, 2], [], fulN0, fulM0⟩ ⟨[], [], []⟩ [true, true, false, false, false, true, true, false, true, false, true, false, true, true, true, false, true, true, false, true, true, false, false] (ww o0 (tt k0 nn))))) (fun k0 => (lr 70 3 [1, 1, 1, 1, 1, 1, 0] 1 102 [(8, (.bool (v10 == 0)))] (sl Uw 13 [] ⟨[], [], [some [8]], []⟩ ⟨[], [], []⟩ [false] (tt k0 nn)))))
theorem x1g (l0 : List R6) (bM : Int) (bN : Int) (cA : Int) (cB : Int) (cC : Int) (cD : Int) : Xd prog (Zy prog 143) (fulC l0 bM bN cA cB cC cD) (Zg prog 143 [(.dat l0.length (Zz l0)), (.agg [(.int .i64 bM), (.int .i64 bN)]), (.agg [(.int .i64 cA), (.int .i64 cB)]), (.agg [(.int .i64 cC), (.int .i64 cD)])] true []) (y4l l0 bM bN cA cB cC cD) := (sl Uw 22 [] ⟨[0, 1, 2], [], fulN0, fulM0⟩ ⟨[], [], []⟩ [] nn)
theorem w7z (l0 : List R6) (bM : Int) (bN : Int) (cA : Int) (cB : Int) (cC : Int) (cD : Int) (n : Nat) (vs : List AVal) (h : Yu (z5y l0 bM bN cA cB cC cD) n (y4l l0 bM bN cA cB cC cD) = .ret vs) : Ur prog (Zy prog 143) (Zg prog 143 [(.dat l0.length (Zz l0)), (.agg [(.int .i64 bM), (.int .i64 bN)]), (.agg [(.int .i64 cA), (.int .i64 cB)]), (.agg [(.int .i64 cC), (.int .i64 cD)])] true []) vs := by
 have := Ze (x6y l0 bM bN cA cB cC cD) n _ (x1g l0 bM bN cA cB cC cD)
 rwa [h] at this
inductive dwnS where
def dwnC (x0 : Int) (x1 : Int) : dwnS → Cfg
 := nofun
def x1s (x0 : Int) (x1 : Int) : dwnS → Xj dwnS
 := nofun
def z8v (x0 : Int) (x1 : Int) : Xj dwnS := (bif (!decide (x1 = 0)) then (bif (decide ((IntKind.wrap .i64 ((IntKind.wrap .i64 (Int.tdiv x0 x1)) * x1)) > x0)) then (.ret [(.int .i64 (IntKind.wrap .i64 ((IntKind.wrap .i64 ((IntKind.wrap .i64 (Int.tdiv x0 x1)) - 1)) * x1)))]) else (.ret [(.int .i64 (IntKind.wrap .i64 ((IntKind.wrap .i64 (Int.tdiv x0 x1)) * x1)))])) else .stuck)
theorem x7k (x0 : Int) (x1 : Int) : ∀ s, Xd prog (Zy prog 75) (dwnC x0 x1) (dwnC x0 x1 s) (x1s x0 x1 s)
 := nofun
theorem x1t (x0 : Int) (x1 : Int) : Xd prog (Zy prog 75) (dwnC x0 x1) (Zg prog 75 [(.int .i64 x0), (.int .i64 x1)] true []) (z8v x0 x1) := (lo fun aS => (lb (fun k0 => (lr 19 3 [1, 1, 1, 1, 1, 1, 0] 1 3 [(4, (ii (wr ((wr ((wr (Int.tdiv x0 x1)) - 1)) * x1))))] (sl Uw 33 [] ⟨[], [], [some [4]], []⟩ ⟨[], [], []⟩ [true] (tt k0 (ww aS nn))))) (fun k0 => (lr 19 3 [1, 1, 1, 1, 1, 1, 0] 1 3 [(4, (ii (wr ((wr (Int.tdiv x0 x1)) * x1))))] (sl Uw 29 [] ⟨[], [], [some [4]], []⟩ ⟨[], [], []⟩ [false] (tt k0 (ww aS nn)))))))
theorem w8u (x0 : Int) (x1 : Int) (n : Nat) (vs : List AVal) (h : Yu (x1s x0 x1) n (z8v x0 x1) = .ret vs) : Ur prog (Zy prog 75) (Zg prog 75 [(.int .i64 x0), (.int .i64 x1)] true []) vs := by
 have := Ze (x7k x0 x1) n _ (x1t x0 x1)
 rwa [h] at this
end Go.Am
namespace Go.Am
open Go.Proofs.Tryz
open Go.Proofs Go.Sort Go.Shelf Go.RowKit Go.Lib
def slmX : List AVal := [.nils, .int .i64 8]
def eF (l : List R6) : Nat → Nat → Int
 | 0, _ => 0
 | k + 1, i => bif x8h l (rd (D6.cuts l) i) then Xt (D6.inn l (rd (D6.cuts l) i)) else eF l k (i + 1)
def slmE (l : List R6) (k i : Nat) : List AVal := [.nils, .int .i64 (eF l k i)]
section
variable (l : List R6) (hl : l.length ≤ 400)
include hl
theorem v0k (i : Nat) (out : List R6) (last : List R4) (first fin x x' : Int) : ∀ (k j : Nat) (acc : List R4), j + k = l.length → acc.length ≤ j →
  ∃ n, ∀ N, Yu (Ys l) (N + n) (.to (.h3 (i : Int) (j : Int) out last first fin ((D6.cuts l).length) (Vk (Wk (D6.ends l))) x x' acc)) = Yu (Ys l) N (.to (.h3 (i : Int) (l.length : Int) out last first fin ((D6.cuts l).length) (Vk (Wk (D6.ends l))) x x' (acc ++ D6.inn (l.drop j) x)))
 | 0, j, acc, h, ha => by
  refine ⟨0, fun N => ?_⟩
  rw [List.drop_eq_nil_of_le (by omega), show D6.inn ([] : List R6) x = [] from rfl, List.append_nil, Nat.add_zero, show j = l.length by omega]
 | k + 1, j, acc, h, ha => by
  have hj : j < l.length := by omega
  obtain ⟨n, hn⟩ := v0k i out last first fin x x' k (j + 1) (acc ++ D6.inn [rd l j] x) (by omega) (by have := D6.inn_length [rd l j] x; simp only [List.length_append, List.length_singleton] at *; omega)
  refine ⟨n + 1, fun N => ?_⟩
  have e : D6.inn (l.drop j) x = D6.inn [rd l j] x ++ D6.inn (l.drop (j + 1)) x := by
   rw [Yg hj, ← D6.inn_append]; rfl
  rw [e, ← Nat.add_assoc, Zw, ← List.append_assoc, ← hn N]
  by_cases h1 : D6.lo (rd l j) ≤ x
  ·by_cases h2 : x < D6.hi (rd l j)
   ·rw [D6.inn_t _ _ h1 h2]
    simp only [D6] at h1 h2 ⊢
    simp (disch := omega) only [Ys, Xx, Zc, Zp, Yv, Yj, Yp, Yd, Yf, Zt, Zj, Zv, Yi, Zk, Nat.zero_add, decide_true, Bool.and_true, Bool.true_and, cond_true, cond_false]
   ·rw [D6.inn_f2 _ _ h2, List.append_nil]
    simp only [D6] at h1 h2
    simp (disch := omega) only [Ys, Xx, Zs, Zc, Zp, Yv, Yj, Yp, Yd, Yf, Zt, Zj, Zv, Yi, Zk, Nat.zero_add, decide_true, Bool.and_true, Bool.true_and, cond_true, cond_false]
  ·rw [D6.inn_f1 _ _ h1, List.append_nil]
   simp only [D6] at h1
   simp (disch := omega) only [Ys, v9a, Zc, Zp, Yv, Yj, Yp, Yd, Yf, Zt, Zj, Zv, Yi, Zk, Nat.zero_add, decide_true, Bool.and_true, Bool.true_and, cond_true, cond_false]
theorem v0j (i : Nat) (hi : i ≤ 1000) (x x' : Int) (s last : List R4) (first : Int) (inn : List R4) (hs : s.length ≤ 1000) : ∀ (k j : Nat) (out : List R6), j + k = s.length → out.length ≤ 10000000 + j →
  ∃ n, ∀ N, Yu (Ys l) (N + n) (.to (.h4 x x' s (s.length : Int) (j : Int) s (i : Int) out last first ((D6.cuts l).length) (Vk (Wk (D6.ends l))) inn)) = Yu (Ys l) N (.to (.h2 ((i + 1 : Nat) : Int) (out ++ (s.drop j).map (D6.put x x')) last first x' ((D6.cuts l).length) (Vk (Wk (D6.ends l)))))
 | 0, j, out, h, ho => by
  have _u := hl
  refine ⟨1, fun N => ?_⟩
  rw [List.drop_eq_nil_of_le (by omega), Zw]
  simp (disch := omega) only [Ys, Zs, Zj, Zv, cond_false, List.map_nil, List.append_nil]
 | k + 1, j, out, h, ho => by
  obtain ⟨n, hn⟩ := v0j i hi x x' s last first inn hs k (j + 1) (out ++ [D6.put x x' (rd s j)]) (by omega) (by simp; omega)
  refine ⟨n + 1, fun N => ?_⟩
  have := hn N
  rw [Yg (show j < s.length by omega), List.map_cons, ← Nat.add_assoc, Zw]
  simp (disch := omega) only [Ys, Zc, Zp, Yv, Yj, Yp, Yd, Yf, Zt, Zj, Zv, Yi, Zk, Nat.zero_add, decide_true, Bool.and_true, Bool.true_and, cond_true, cond_false]
  rw [List.append_assoc] at this
  exact this
theorem v0i (i : Nat) (hi : i ≤ 1000) (x x' fin : Int) (s last : List R4) (first : Int) (inn : List R4) : ∀ (k j : Nat) (out : List R6), j + k = out.length → out.length ≤ 10000000 →
  ∃ n, ∀ N, Yu (Ys l) (N + n) (.to (.h5 x' (j : Int) x s (i : Int) out last first fin ((D6.cuts l).length) (Vk (Wk (D6.ends l))) inn)) = Yu (Ys l) N (.to (.h2 ((i + 1 : Nat) : Int) (D6.grow out j x') last first x' ((D6.cuts l).length) (Vk (Wk (D6.ends l)))))
 | 0, j, out, h, ho => by
  have _u := hl
  refine ⟨1, fun N => ?_⟩
  rw [D6.grow_nil _ _ _ (by omega), Zw]
  simp (disch := omega) only [Ys, Zs, Zj, Zv, cond_false]
 | k + 1, j, out, h, ho => by
  obtain ⟨n, hn⟩ := v0i i hi x x' fin s last first inn k (j + 1) (out.set j (D6.ext x' (rd out j))) (by simp; omega) (by simpa using ho)
  refine ⟨n + 1, fun N => ?_⟩
  have := hn N
  rw [D6.grow_set out j _ (by omega)] at this
  rw [← Nat.add_assoc, Zw]
  simp (disch := omega) only [Ys, Zc, Zp, Yv, Yj, Yp, Yd, Yf, Zt, Zj, Zv, Yi, Zk, Nat.zero_add, decide_true, Bool.and_true, Bool.true_and, cond_true, cond_false]
  exact this
theorem x8y : ∀ (k i : Nat) (s : Sw R6 R4), k = (D6.cuts l).length - 1 - i → i ≤ (D6.cuts l).length → s.out.length ≤ i * 1000 → s.last.length ≤ 1000 → s.first ≤ s.out.length →
  ∃ n, Yu (Ys l) n (.to (.h2 ((i + 1 : Nat) : Int) s.out s.last (s.first : Int) s.fin ((D6.cuts l).length) (Vk (Wk (D6.ends l))))) = .ret ((bif okF l k i then z2w (D6.go l k i s).out else slmE l k i))
 | 0, i, s, h, hi, ho, hla, hf => by
  have hc := D6.cuts_length l
  refine ⟨1, ?_⟩
  rw [Zw, show D6.go l 0 i s = s from rfl, show okF l 0 i = true from rfl, cond_true]
  unfold z2w
  by_cases q : (s.out.length : Int) > 400
  ·simp (disch := omega) only [Ys, Zs, Yn, cond_true, cond_false, Zm]
  ·simp (disch := omega) only [Ys, Zc, Zs, Yo, cond_true, cond_false, Zm]
 | k + 1, i, s, h, hi, ho, hla, hf => by
  have hc := D6.cuts_length l
  have hi1 : i + 1 < (D6.cuts l).length := by omega
  have hpl : (Vk (Wk (D6.ends l))).length = 2 * l.length := by rw [z0h, Kw, D6.ends_length]
  have r0 : rd (Vk (Wk (D6.ends l))) i = rd (D6.cuts l) i := y2l _ _ (by show i < (D6.cuts l).length; omega)
  have r1 : rd (Vk (Wk (D6.ends l))) (i + 1) = rd (D6.cuts l) (i + 1) := y2l _ _ (by show i + 1 < (D6.cuts l).length; omega)
  have hbig : i * 1000 ≤ 1000 * 1000 := Nat.mul_le_mul_right _ (by omega)
  have hsl := v3t l (rd (D6.cuts l) i)
  have hsd : D6.sec l (rd (D6.cuts l) i) = Zr (D6.inn l (rd (D6.cuts l) i)) := rfl
  obtain ⟨n3, h3⟩ := v0k l hl (i + 1) s.out s.last (s.first : Int) s.fin (rd (D6.cuts l) i) (rd (D6.cuts l) (i + 1)) l.length 0 [] (Nat.zero_add _) (Nat.le_refl _)
  simp only [List.drop_zero, List.nil_append, z1p] at h3
  have w1 : Qf (D6.inn l (rd (D6.cuts l) i)) = true := rfl
  have w2 : Wc s.last (Zr (D6.inn l (rd (D6.cuts l) i))) = true := decide_eq_true (by omega)
  have ol := D6.one_length l (rd (D6.cuts l) i) (rd (D6.cuts l) (i + 1)) s
  have st0 : ∀ N, Yu (Ys l) (N + n3 + 1) (.to (.h2 ((i + 1 : Nat) : Int) s.out s.last (s.first : Int) s.fin ((D6.cuts l).length) (Vk (Wk (D6.ends l))))) = Yu (Ys l) N (.to (.h3 ((i + 1 : Nat) : Int) (l.length : Int) s.out s.last (s.first : Int) s.fin ((D6.cuts l).length) (Vk (Wk (D6.ends l))) (rd (D6.cuts l) i) (rd (D6.cuts l) (i + 1)) (D6.inn l (rd (D6.cuts l) i)))) := fun N => by
   rw [← h3 N, Zw]
   have e1 : IntKind.wrap .i64 (((i + 1 : Nat) : Int) - 1) = (i : Int) := by rw [Zf]; exact Zj (by omega)
   simp (disch := omega) only [Ys, e1, r0, r1, Zc, Zp, Yv, Yj, Yp, Yd, Yf, Zt, Zj, Zv, Yi, Zk, Nat.zero_add, decide_true, Bool.and_true, Bool.true_and, cond_true, cond_false]
  rcases Zn (x8h l (rd (D6.cuts l) i)) with q0 | q0
  ·refine ⟨1 + n3 + 1, ?_⟩
   rw [st0 1, Zw]
   simp only [okF, slmE, eF, q0, cond_true, cond_false]
   have q0' : (Xt (D6.inn l (rd (D6.cuts l) i)) != 0) = true := q0
   simp (disch := omega) only [Ys, Zc, Zp, Zs, q0', w1, cond_true, cond_false, Zm]
  have q0' : (Xt (D6.inn l (rd (D6.cuts l) i)) != 0) = false := q0
  rcases Zn (decide (0 < (D6.sec l (rd (D6.cuts l) i)).length) && ((s.fin == rd (D6.cuts l) i) && D6.same s.last (D6.sec l (rd (D6.cuts l) i)))) with q | q
  ·obtain ⟨n5, h5⟩ := v0i l hl (i + 1) (by omega) (rd (D6.cuts l) i) (rd (D6.cuts l) (i + 1)) s.fin (D6.sec l (rd (D6.cuts l) i)) s.last (s.first : Int) (D6.inn l (rd (D6.cuts l) i)) (s.out.length - s.first) s.first s.out (by omega) (by omega)
   have e : D6.one l (rd (D6.cuts l) i) (rd (D6.cuts l) (i + 1)) s = ⟨D6.grow s.out s.first (rd (D6.cuts l) (i + 1)), s.last, s.first, rd (D6.cuts l) (i + 1)⟩ := by unfold Dim.one; rw [q]; rfl
   obtain ⟨n0, h0⟩ := x8y k (i + 1) (D6.one l (rd (D6.cuts l) i) (rd (D6.cuts l) (i + 1)) s) (by omega) (by omega) (by omega) (by rw [e]; exact hla) (by rw [e]; simpa [Dim.grow_length] using hf)
   refine ⟨n0 + n5 + 1 + n3 + 1, ?_⟩
   rw [st0 (n0 + n5 + 1), Zw]
   simp only [Bool.and_eq_true, decide_eq_true_eq] at q
   obtain ⟨q1, q2, q3⟩ := q
   have q3' : Jx s.last (Zr (D6.inn l (rd (D6.cuts l) i))) = true := q3
   rw [hsd] at q1
   simp (disch := omega) only [Ys, Zc, Zp, Zs, Yn, q0', q2, q3', w1, w2, cond_true, cond_false]
   rw [← hsd, h5 n0]
   simp only [okF, slmE, eF, q0, cond_false]; simp only [Dim.go]
   rw [e] at h0 ⊢
   exact h0
  ·obtain ⟨n4, h4⟩ := v0j l hl (i + 1) (by omega) (rd (D6.cuts l) i) (rd (D6.cuts l) (i + 1)) (D6.sec l (rd (D6.cuts l) i)) (D6.sec l (rd (D6.cuts l) i)) (s.out.length : Int) (D6.inn l (rd (D6.cuts l) i)) hsl (D6.sec l (rd (D6.cuts l) i)).length 0 s.out (Nat.zero_add _) (by omega)
   simp only [List.drop_zero, z1p] at h4
   have e : D6.one l (rd (D6.cuts l) i) (rd (D6.cuts l) (i + 1)) s = ⟨s.out ++ (D6.sec l (rd (D6.cuts l) i)).map (D6.put (rd (D6.cuts l) i) (rd (D6.cuts l) (i + 1))), D6.sec l (rd (D6.cuts l) i), s.out.length, rd (D6.cuts l) (i + 1)⟩ := by unfold Dim.one; rw [q]; rfl
   obtain ⟨n0, h0⟩ := x8y k (i + 1) (D6.one l (rd (D6.cuts l) i) (rd (D6.cuts l) (i + 1)) s) (by omega) (by omega) (by omega) (by rw [e]; exact hsl) (by rw [e]; simp)
   have hg : Yu (Ys l) 1 (.to (.h3 ((i + 1 : Nat) : Int) (l.length : Int) s.out s.last (s.first : Int) s.fin ((D6.cuts l).length) (Vk (Wk (D6.ends l))) (rd (D6.cuts l) i) (rd (D6.cuts l) (i + 1)) (D6.inn l (rd (D6.cuts l) i)))) = .to (.h4 (rd (D6.cuts l) i) (rd (D6.cuts l) (i + 1)) (D6.sec l (rd (D6.cuts l) i)) ((D6.sec l (rd (D6.cuts l) i)).length : Int) 0 (D6.sec l (rd (D6.cuts l) i)) ((i + 1 : Nat) : Int) s.out (D6.sec l (rd (D6.cuts l) i)) (s.out.length : Int) ((D6.cuts l).length) (Vk (Wk (D6.ends l))) (D6.inn l (rd (D6.cuts l) i))) := by
    rw [show (1 : Nat) = 0 + 1 from rfl, Zw]
    rw [hsd] at q ⊢
    have e3 : D6.same s.last (Zr (D6.inn l (rd (D6.cuts l) i))) = Jx s.last (Zr (D6.inn l (rd (D6.cuts l) i))) := rfl
    rw [e3] at q
    by_cases q1 : 0 < (Zr (D6.inn l (rd (D6.cuts l) i))).length
    ·rw [decide_eq_true q1, Bool.true_and] at q
     rcases Zn (s.fin == rd (D6.cuts l) i) with q2 | q2
     ·rw [q2, Bool.true_and] at q
      simp (disch := omega) only [Ys, Zc, Zp, Zs, Yn, q0', q2, q, w1, w2, cond_true, cond_false]
      rfl
     ·simp (disch := omega) only [Ys, Zc, Zp, Zs, Yn, q0', q2, w1, w2, cond_true, cond_false]
      rfl
    ·simp (disch := omega) only [Ys, Zc, Zp, Zs, Yo, q0', w1, w2, cond_true, cond_false]
     rfl
   refine ⟨n0 + n4 + 1 + n3 + 1, ?_⟩
   rw [st0 (n0 + n4 + 1), y0o _ (n0 + n4) 1, hg, h4 n0]
   simp only [okF, slmE, eF, q0, cond_false]; simp only [Dim.go]
   rw [e] at h0 ⊢
   exact h0
theorem v0l : ∀ (k i : Nat) (acc : List Int), i + k = l.length → acc = D6.ends (l.take i) → ∃ n, Yu (Ys l) n (.to (.h1 (i : Int) acc)) = .ret ((bif okF l ((D6.cuts l).length - 1) 0 then z2w (D6.go l ((D6.cuts l).length - 1) 0 ⟨[], [], 0, 0⟩).out else slmE l ((D6.cuts l).length - 1) 0))
 | 0, i, acc, h, ha => by
  have e : acc = D6.ends l := by rw [ha, List.take_of_length_le (by omega)]
  subst e
  have hle := D6.ends_length l
  obtain ⟨n, hn⟩ := x8y l hl ((D6.cuts l).length - 1) 0 ⟨[], [], 0, 0⟩ (by omega) (Nat.zero_le _) (Nat.zero_le _) (Nat.zero_le _) (Nat.zero_le _)
  refine ⟨n + 1, ?_⟩
  rw [Zw]
  simp (disch := omega) only [Ys, z0l, z5v, x2f, Zs, Yd, Yf, decide_true, cond_true, cond_false]
  exact hn
 | k + 1, i, acc, h, ha => by
  have hle := D6.ends_length (l.take i)
  have fK : acc.length ≤ 2 * i := by rw [ha, hle]; simp; omega
  obtain ⟨n, hn⟩ := v0l k (i + 1) (acc ++ D6.ends [rd l i]) (by omega) (by
   rw [ha, List.take_add_one]
   have : l[i]? = some (rd l i) := by rw [Xa (show i < l.length by omega)]; exact List.getElem?_eq_getElem _
   rw [this, D6.ends_append]; rfl)
  refine ⟨n + 1, ?_⟩
  rw [Zw]
  simp (disch := omega) only [Ys, Zc, Zp, Yv, Yj, Yp, Yd, Yf, Zt, Zj, Zv, Yi, Zk, Nat.zero_add, decide_true, Bool.and_true, Bool.true_and, cond_true, cond_false]
  exact hn
theorem v0m : ∀ (k i : Nat), i + k = l.length → (∀ s ∈ l.take i, Jk s = true) → ∃ n, Yu (Ys l) n (.to (.h0 (i : Int))) = .ret (bif l.all Jk then (bif okF l ((D6.cuts l).length - 1) 0 then z2w (D6.go l ((D6.cuts l).length - 1) 0 ⟨[], [], 0, 0⟩).out else slmE l ((D6.cuts l).length - 1) 0) else slmX)
 | 0, i, h, ht => by
  have hv : l.all Jk = true := List.all_eq_true.2 fun s hs => ht s (by rw [List.take_of_length_le (by omega)]; exact hs)
  obtain ⟨n, hn⟩ := v0l l hl l.length 0 [] (Nat.zero_add _) rfl
  refine ⟨n + 1, ?_⟩
  rw [Zw, hv, cond_true]
  simp (disch := omega) only [Ys, Zs, cond_false]
  exact hn
 | k + 1, i, h, ht => by
  have hi : i < l.length := by omega
  have hs : Ys l (.h0 (i : Int)) = bif Jk (rd l i) then .to (.h0 ((i + 1 : Nat) : Int)) else .ret slmX := by
   have e : v3y (rd l i).a (rd l i).b (rd l i).c (rd l i).d (rd l i).e (rd l i).f = Jk (rd l i) := rfl
   simp (disch := omega) only [Ys, e, y4x, x4q, w3g, Yj, Zj, Zv, Zk, Bool.and_true, cond_true, cond_false]
   rfl
  rcases Zn (Jk (rd l i)) with q | q
  ·obtain ⟨n, hn⟩ := v0m k (i + 1) (by omega) (fun s hs => by
    rw [List.take_add_one] at hs
    have e : l[i]? = some (rd l i) := by rw [Xa hi]; exact List.getElem?_eq_getElem _
    rw [e] at hs
    simp only [Option.toList_some, List.mem_append, List.mem_singleton] at hs
    rcases hs with hs | rfl
    ·exact ht s hs
    ·exact q)
   refine ⟨n + 1, ?_⟩
   rw [Zw, hs, q, cond_true]
   exact hn
  ·have hv : l.all Jk = false := Bool.eq_false_iff.2 fun e => by
    have := List.all_eq_true.1 e (rd l i) (by rw [Xa hi]; exact List.getElem_mem hi)
    rw [this] at q; cases q
   refine ⟨1, ?_⟩
   rw [Zw, hv, cond_false, hs, q, cond_false, Zm]
end
theorem w8t {l : List R6} : ∀ (k i : Nat), okF l k i = false → (eF l k i != 0) = true
 | 0, i, h => by cases h
 | k + 1, i, h => by
  unfold okF at h
  unfold eF
  rcases Zn (x8h l (rd (D6.cuts l) i)) with q | q
  ·rw [q, cond_true]; exact q
  ·rw [q, cond_false] at h ⊢; exact w8t k (i + 1) h
def Vp (l : List R6) : Int := bif decide (400 < l.length) then 4 else bif l.all Jk then (bif okF l ((D6.cuts l).length - 1) 0 then x2h (D6.out l).length else eF l ((D6.cuts l).length - 1) 0) else 8
def Jz (l : List R6) : List R6 := v3b (Vp l) (D6.out l)
def z3w (l : List R6) : Bool := true
theorem v4k (l : List R6) (h : z3w l = true) : ∃ n, Yu (Ys l) n (z7v l) = .ret (w0f (Vp l) (D6.out l)) := by
 unfold z7v Vp
 by_cases h : 400 < l.length
 ·refine ⟨0, ?_⟩
  rw [decide_eq_true h, Yn (show (l.length : Int) > 400 by omega)]; rfl
 ·obtain ⟨n, hn⟩ := v0m l (by omega) l.length 0 (Nat.zero_add _) (fun s hs => by simp at hs)
  refine ⟨n, ?_⟩
  rw [decide_eq_false h, Yo (show ¬ (l.length : Int) > 400 by omega), cond_false, cond_false]
  rw [z1p] at hn
  rw [hn]
  rcases Zn (l.all Jk) with q | q
  ·rw [q, cond_true, cond_true]
   rcases Zn (okF l ((D6.cuts l).length - 1) 0) with q2 | q2
   ·rw [q2, cond_true, cond_true, y7u]; rfl
   ·rw [q2, cond_false, cond_false, w6e _ (w8t _ _ q2)]; rfl
  ·rw [q]; rfl
def fSlm : List AVal → Option (AVal × Bool)
 | [a0] => match asL R6 a0 with
  | some (L0, g0, n0) => some (.tup [.dat (Jz L0).length (Zz (Jz L0)), .int .i64 (Vp L0)], isT R6 n0 g0 && (z3w L0))
  | _ => none
 | _ => none
theorem v7o {S : Specs} (hS : Zu prog S) : Zu prog (S.with w1n fSlm) := by
 refine w8i hS (by kernel_rfl) fun args v h => ?_
 unfold fSlm at h
 split at h
 ·rename_i a0
  split at h
  ·rename_i L0 g0 n0 e0
   simp only [Option.some.injEq, Prod.mk.injEq, Bool.and_eq_true] at h
   obtain ⟨rfl, ho0, hw⟩ := h
   obtain ⟨N, hN⟩ := v4k L0 hw
   exact ⟨_, _, (.cons (asL_le e0 ho0) .nil), x3g _ _, w4z L0 N _ hN, 3, w0e _ _⟩
  ·cases h
 ·cases h
def Wx (x n : Int) : Int := bif decide (IntKind.wrap .i64 (IntKind.wrap .i64 (Int.tdiv x n) * n) > x) then IntKind.wrap .i64 (IntKind.wrap .i64 (IntKind.wrap .i64 (Int.tdiv x n) - 1) * n) else IntKind.wrap .i64 (IntKind.wrap .i64 (Int.tdiv x n) * n)
def Vd (x n : Int) : Bool := !decide (n = 0)
theorem v8x (x n : Int) (h : Vd x n = true) : ∃ N, Yu (x1s x n) N (z8v x n) = .ret [.int .i64 (Wx x n)] := ⟨0, by
 have h : (!decide (n = 0)) = true := h
 unfold z8v Wx
 rw [h, cond_true]
 cases decide (IntKind.wrap .i64 (IntKind.wrap .i64 (Int.tdiv x n) * n) > x) <;> rfl⟩
def spC (lo hi a b : Int) : Int := Xv (IntKind.wrap .i64 (Wa hi b - Xv lo a)) 0
def fu1 (r : R6) (a b c d e f : Int) : Int := IntKind.wrap .i64 (IntKind.wrap .i64 (IntKind.wrap .i64 (1 * spC r.a r.d a b) * spC r.b r.e c d) * spC r.c r.f e f)
def fuF (a b c d e f : Int) : List R6 → Int → Int
 | [], s => s
 | r :: l, s => fuF a b c d e f l (IntKind.wrap .i64 (s - fu1 r a b c d e f))
def fu0 (a b c d e f : Int) : Int := IntKind.wrap .i64 (IntKind.wrap .i64 (IntKind.wrap .i64 (b - a) * IntKind.wrap .i64 (d - c)) * IntKind.wrap .i64 (f - e))
def fulV (L : List R6) (a b c d e f : Int) : Bool := fuF a b c d e f L (fu0 a b c d e f) == 0
def y7n (L : List R6) (a b c d e f : Int) : Bool := decide (L.length ≤ 100000)
theorem v2y {L : List R6} {a b c d e f : Int} (hl : L.length ≤ 100000) : ∀ (k i : Nat) (s : Int), i + k = L.length → ∃ N, Yu (z5y L a b c d e f) N (.to (.h0 s (i : Int))) = .ret [.bool (fuF a b c d e f (L.drop i) s == 0)]
 | 0, i, s, h => by
  refine ⟨1, ?_⟩
  rw [Zw, List.drop_eq_nil_of_le (by omega)]
  simp (disch := omega) only [z5y, Zs, cond_false]; rfl
 | k + 1, i, s, h => by
  have hi : i < L.length := by omega
  obtain ⟨N, hN⟩ := v2y (a := a) (b := b) (c := c) (d := d) (e := e) (f := f) hl k (i + 1) (IntKind.wrap .i64 (s - fu1 (rd L i) a b c d e f)) (by omega)
  have hw : IntKind.wrap .i64 ((i : Int) + 1) = ((i + 1 : Nat) : Int) := Zj (by omega)
  refine ⟨N + 1, ?_⟩
  rw [Zw, Yg hi]
  simp (disch := omega) only [z5y, fuF, Yv, Yj, hw, Zk, Bool.and_true, cond_true]
  exact hN
theorem v7c (L : List R6) (a b c d e f : Int) (h : y7n L a b c d e f = true) : ∃ N, Yu (z5y L a b c d e f) N (y4l L a b c d e f) = .ret [.bool (fulV L a b c d e f)] :=
 v2y (of_decide_eq_true h) L.length 0 _ (Nat.zero_add _)
def fDwn : List AVal → Option (AVal × Bool)
 | [.int .i64 x0, .int .i64 x1] => some (.int .i64 (Wx x0 x1), Vd x0 x1)
 | _ => none
theorem v8k {S : Specs} (hS : Zu prog S) : Zu prog (S.with nDown fDwn) := by
 refine z0x hS (by kernel_rfl) fun args v h => ?_
 unfold fDwn at h
 split at h
 ·rename_i x0 x1
  simp only [Option.some.injEq, Prod.mk.injEq, Bool.and_eq_true] at h
  obtain ⟨rfl, hw⟩ := h
  obtain ⟨N, hN⟩ := v8x x0 x1 hw
  exact ⟨_, _, (.cons (.refl _) (.cons (.refl _) .nil)), rfl, w8u x0 x1 N _ hN, 3, rfl⟩
 ·cases h
def fFul : List AVal → Option (AVal × Bool)
 | [a0, .agg [.int .i64 bM, .int .i64 bN], .agg [.int .i64 cA, .int .i64 cB], .agg [.int .i64 cC, .int .i64 cD]] => match asL R6 a0 with
  | some (L0, g0, n0) => some (.bool (fulV L0 bM bN cA cB cC cD), isT R6 n0 g0 && (y7n L0 bM bN cA cB cC cD))
  | _ => none
 | _ => none
theorem v8g {S : Specs} (hS : Zu prog S) : Zu prog (S.with nFull fFul) := by
 refine z0x hS (by kernel_rfl) fun args v h => ?_
 unfold fFul at h
 split at h
 ·rename_i a0 bM bN cA cB cC cD
  split at h
  ·rename_i L0 g0 n0 e0
   simp only [Option.some.injEq, Prod.mk.injEq, Bool.and_eq_true] at h
   obtain ⟨rfl, ho0, hw⟩ := h
   obtain ⟨N, hN⟩ := v7c L0 bM bN cA cB cC cD hw
   exact ⟨_, _, (.cons (asL_le e0 ho0) (.cons (.refl _) (.cons (.refl _) (.cons (.refl _) .nil)))), rfl, w7z L0 bM bN cA cB cC cD N _ hN, 3, rfl⟩
  ·cases h
 ·cases h
def De : Specs := (((Dd.with w1n fSlm).with nDown fDwn).with nFull fFul)
theorem y1z : Zu prog De := (v8g (v8k (v7o Uw)))
end Go.Am
namespace Go.Am
open Go.Proofs.Tryz
open Go.Proofs
inductive outeS where
 | h0 (v7 : List R6) (v19 : Int)
def v6i (l0 : List R6) (x1 : Int) : outeS → Cfg
 | .h0 v7 v19 => ⟨⟨89, 0, true⟩, none, (Za prog 34 [1, 1, 1, 0, 1, 0, 0] 0), none, (Zy prog 16), ⟨Yb [(1, (ii x1)), (7, (.sla 0 6 0 v7.length (.un 6))), (17, (.dat l0.length (Zz l0))), (18, (ii (l0.length : Int))), (19, (ii v19))], Vq [⟨rows v7.length (Zz v7), 68, some ⟨6, v7.length, (Zz v7)⟩⟩] 0, 1, [], true⟩, [], .leaf⟩
def v2b : List (Option (List Nat)) := [some [1, 7, 17, 18, 19]]
def v2c : List (Option (List Nat)) := []
def z0i (l0 : List R6) (x1 : Int) : outeS → Xj outeS
 | .h0 v7 v19 => (bif (decide (v19 < (l0.length : Int))) then (bif ((decide (0 ≤ v19 ∧ v19 < (l0.length : Int))) && true) then (bif (Vd (rd l0 v19.toNat).a x1) then (bif (Vd (rd l0 v19.toNat).b x1) then (bif (Vd (rd l0 v19.toNat).c x1) then (bif (Vd (IntKind.wrap .i64 (0 - (rd l0 v19.toNat).d)) x1) then (bif (Vd (IntKind.wrap .i64 (0 - (rd l0 v19.toNat).e)) x1) then (bif (Vd (IntKind.wrap .i64 (0 - (rd l0 v19.toNat).f)) x1) then (bif (decide ((Wa (Wa (Wx (rd l0 v19.toNat).a x1) (Wx (rd l0 v19.toNat).b x1)) (Wx (rd l0 v19.toNat).c x1)) < (-1000000))) then (.ret [.nils, (.int .i64 16)]) else (bif (decide ((Xv (Xv (IntKind.wrap .i64 (0 - (Wx (IntKind.wrap .i64 (0 - (rd l0 v19.toNat).d)) x1))) (IntKind.wrap .i64 (0 - (Wx (IntKind.wrap .i64 (0 - (rd l0 v19.toNat).e)) x1)))) (IntKind.wrap .i64 (0 - (Wx (IntKind.wrap .i64 (0 - (rd l0 v19.toNat).f)) x1)))) > 1000000)) then (.ret [.nils, (.int .i64 16)]) else (bif (Nat.beq 6 6 && ((decide (0 + v7.length = v7.length)) && decide ((v7.length + 1 + 1) * (48 + 1) ≤ Kd))) then (.to (.h0 (v7 ++ [(R6.mk (Wx (rd l0 v19.toNat).a x1) (Wx (rd l0 v19.toNat).b x1) (Wx (rd l0 v19.toNat).c x1) (IntKind.wrap .i64 (0 - (Wx (IntKind.wrap .i64 (0 - (rd l0 v19.toNat).d)) x1))) (IntKind.wrap .i64 (0 - (Wx (IntKind.wrap .i64 (0 - (rd l0 v19.toNat).e)) x1))) (IntKind.wrap .i64 (0 - (Wx (IntKind.wrap .i64 (0 - (rd l0 v19.toNat).f)) x1))))]) (IntKind.wrap .i64 (v19 + 1)))) else .stuck))) else .stuck) else .stuck) else .stuck) else .stuck) else .stuck) else .stuck) else .stuck) else (bif (z3w (cvT v7)) then (.ret [(.dat (Jz (cvT v7)).length (Zz (Jz (cvT v7)))), (.int .i64 (Vp (cvT v7)))]) else .stuck))
def z4n (l0 : List R6) (x1 : Int) : Xj outeS := (bif (Vz (cvT l0)) then (bif ((Yx (cvT l0)) != 0) then (.ret [.nils, (.int .i64 (Yx (cvT l0)))]) else (bif (decide (x1 < 1)) then (.ret [.nils, (.int .i64 2)]) else (bif (decide (x1 > 1000)) then (.ret [.nils, (.int .i64 2)]) else (.to (.h0 ([] : List R6) 0))))) else .stuck)
theorem x0p (l0 : List R6) (x1 : Int) : ∀ s, Xd prog (Zy prog 34) (v6i l0 x1) (v6i l0 x1 s) (z0i l0 x1 s)
 | .h0 v7 v19 => (lb (fun k0 => (lo fun aF => (lo fun bC => (lo fun bZ => (lo fun cV => (lo fun dE => (lo fun cK => (lo fun dF => (lb (fun k1 => (lr 89 34 [1, 1, 1, 0, 1, 0, 0, 1, 1, 0, 0, 1, 1, 0, 1, 0, 0] 1 16 [(4, .nils), (5, (ii 16))] (sl y1z 52 [] ⟨[], [], [some [4, 5]], []⟩ ⟨[], [], []⟩ (trs 13 []) (tt k1 (ww dF (ww cK (ww dE (ww cV (ww bZ (ww bC (ww aF (tt k0 nn)))))))))))) (fun k1 => (lb (fun k2 => (lr 89 34 [1, 1, 1, 0, 1, 0, 0, 1, 1, 0, 0, 1, 1, 0, 1, 0, 0] 1 16 [(4, .nils), (5, (ii 16))] (sl y1z 52 [] ⟨[], [], [some [4, 5]], []⟩ ⟨[], [], []⟩ [true, false, false, false, false, false, false, false, false, false, false, false, true] (tt k2 (tt k1 (ww dF (ww cK (ww dE (ww cV (ww bZ (ww bC (ww aF (tt k0 nn))))))))))))) (fun k2 => (lo fun o0 => (sl y1z 61 [] ⟨[4], [], v2b, v2c⟩ ⟨[(7, .len (v7 ++ [(R6.mk (Wx (rd l0 (tn v19)).a x1) (Wx (rd l0 (tn v19)).b x1) (Wx (rd l0 (tn v19)).c x1) (wr (0 - (Wx (wr (0 - (rd l0 (tn v19)).d)) x1))) (wr (0 - (Wx (wr (0 - (rd l0 (tn v19)).e)) x1))) (wr (0 - (Wx (wr (0 - (rd l0 (tn v19)).f)) x1))))]).length)], [.rowed 6 (v7 ++ [(R6.mk (Wx (rd l0 (tn v19)).a x1) (Wx (rd l0 (tn v19)).b x1) (Wx (rd l0 (tn v19)).c x1) (wr (0 - (Wx (wr (0 - (rd l0 (tn v19)).d)) x1))) (wr (0 - (Wx (wr (0 - (rd l0 (tn v19)).e)) x1))) (wr (0 - (Wx (wr (0 - (rd l0 (tn v19)).f)) x1))))]).length (Zz (v7 ++ [(R6.mk (Wx (rd l0 (tn v19)).a x1) (Wx (rd l0 (tn v19)).b x1) (Wx (rd l0 (tn v19)).c x1) (wr (0 - (Wx (wr (0 - (rd l0 (tn v19)).d)) x1))) (wr (0 - (Wx (wr (0 - (rd l0 (tn v19)).e)) x1))) (wr (0 - (Wx (wr (0 - (rd l0 (tn v19)).f)) x1))))]))], []⟩ [true, false, false, false, false, false, false, false, false, false, false, false, false] (pp (xL (v7.length + 1) (v7 ++ [(R6.mk (Wx (rd l0 (tn v19)).a x1) (Wx (rd l0 (tn v19)).b x1) (Wx (rd l0 (tn v19)).c x1) (wr (0 - (Wx (wr (0 - (rd l0 (tn v19)).d)) x1))) (wr (0 - (Wx (wr (0 - (rd l0 (tn v19)).e)) x1))) (wr (0 - (Wx (wr (0 - (rd l0 (tn v19)).f)) x1))))]).length) (pp (xL (v7.length + 1) (v7 ++ [(R6.mk (Wx (rd l0 (tn v19)).a x1) (Wx (rd l0 (tn v19)).b x1) (Wx (rd l0 (tn v19)).c x1) (wr (0 - (Wx (wr (0 - (rd l0 (tn v19)).d)) x1))) (wr (0 - (Wx (wr (0 - (rd l0 (tn v19)).e)) x1))) (wr (0 - (Wx (wr (0 - (rd l0 (tn v19)).f)) x1))))]).length) (pp (xS (v7.length + 1) (Zh (Zz v7) 0 v7.length 6 [(ii (Wx (rd l0 (tn v19)).a x1)), (ii (Wx (rd l0 (tn v19)).b x1)), (ii (Wx (rd l0 (tn v19)).c x1)), (ii (wr (0 - (Wx (wr (0 - (rd l0 (tn v19)).d)) x1)))), (ii (wr (0 - (Wx (wr (0 - (rd l0 (tn v19)).e)) x1)))), (ii (wr (0 - (Wx (wr (0 - (rd l0 (tn v19)).f)) x1))))]) (Zz (v7 ++ [(R6.mk (Wx (rd l0 (tn v19)).a x1) (Wx (rd l0 (tn v19)).b x1) (Wx (rd l0 (tn v19)).c x1) (wr (0 - (Wx (wr (0 - (rd l0 (tn v19)).d)) x1))) (wr (0 - (Wx (wr (0 - (rd l0 (tn v19)).e)) x1))) (wr (0 - (Wx (wr (0 - (rd l0 (tn v19)).f)) x1))))]))) (pp (pp (xF (Zh (Zz v7) 0 v7.length 6 [(ii (Wx (rd l0 (tn v19)).a x1)), (ii (Wx (rd l0 (tn v19)).b x1)), (ii (Wx (rd l0 (tn v19)).c x1)), (ii (wr (0 - (Wx (wr (0 - (rd l0 (tn v19)).d)) x1)))), (ii (wr (0 - (Wx (wr (0 - (rd l0 (tn v19)).e)) x1)))), (ii (wr (0 - (Wx (wr (0 - (rd l0 (tn v19)).f)) x1))))])) nn) (ww o0 (tt k2 (tt k1 (ww dF (ww cK (ww dE (ww cV (ww bZ (ww bC (ww aF (tt k0 nn))))))))))))))))))))))))))))) (fun k0 => (Vb (sl y1z (C' := ⟨⟨89, 0, true⟩, (Vi prog 34 [1, 1, 1, 1, 0] 1), (Za prog 34 [1, 1, 1, 1, 0] 1), none, (Zy prog 16), ⟨Yb [(85, (.dat v7.length (Zz v7)))], Vq [] 0, 0, [], true⟩, [], .leaf⟩) 10 [] ⟨[], [0], [some [85]], []⟩ ⟨[(85, .frz v7.length v7.length (Zz v7) (Zz v7))], [], []⟩ [false] (pp (xZ (z8r 6 6 0 v7.length v7.length (Zz v7)) v7.length (Zz v7)) (pp (xL v7.length v7.length) (pp (xS v7.length (Zz v7) (Zz v7)) (pp (fl v7 nn) (tt k0 nn)))))) (lo fun o0 => (lr 89 3 [1, 1, 1, 1, 1, 1, 0] 1 16 [(4, (.dat (Jz (cvT v7)).length (Zz (Jz (cvT v7))))), (5, (ii (Vp (cvT v7))))] (sl y1z 6 [] ⟨[], [], [some [4, 5]], []⟩ ⟨[], [], []⟩ [] (pp (pp (xr v7) (xw o0)) nn)))))))
theorem y6m (l0 : List R6) (x1 : Int) : Xd prog (Zy prog 34) (v6i l0 x1) (Zg prog 34 [(.dat l0.length (Zz l0)), (.int .i64 x1)] true []) (z4n l0 x1) := (lo fun aS => (lb (fun k0 => (lr 89 34 [1, 0, 1, 1, 0, 0] 1 16 [(4, .nils), (5, (ii (Yx (cvT l0))))] (sl y1z 48 [] ⟨[], [], [some [4, 5]], []⟩ ⟨[], [], []⟩ [true, true] (tt k0 (tt k0 (pp (pp (xr l0) (xw aS)) nn)))))) (fun k0 => (lb (fun k1 => (lr 89 34 [1, 0, 1, 1, 0, 0] 1 16 [(4, .nils), (5, (ii 2))] (sl y1z 59 [] ⟨[], [], [some [4, 5]], []⟩ ⟨[], [], []⟩ [false, true, true, true, true] (tt k1 (tt k0 (pp (pp (xr l0) (xw aS)) nn)))))) (fun k1 => (lb (fun k2 => (lr 89 34 [1, 0, 1, 1, 0, 0] 1 16 [(4, .nils), (5, (ii 2))] (sl y1z 59 [] ⟨[], [], [some [4, 5]], []⟩ ⟨[], [], []⟩ [false, false, false, true, true] (tt k2 (tt k1 (tt k0 (pp (pp (xr l0) (xw aS)) nn))))))) (fun k2 => (sl y1z 68 [(68, 6, Zz ([] : List R6))] ⟨[0], [], v2b, v2c⟩ ⟨[(7, .grow 0 6)], [], []⟩ [false, false, false, false, false] (pp (fl ([] : List R6) nn) (tt k2 (tt k1 (tt k0 (pp (pp (xr l0) (xw aS)) nn)))))))))))))
theorem w1d (l0 : List R6) (x1 : Int) (n : Nat) (vs : List AVal) (h : Yu (z0i l0 x1) n (z4n l0 x1) = .ret vs) : Ur prog (Zy prog 34) (Zg prog 34 [(.dat l0.length (Zz l0)), (.int .i64 x1)] true []) vs := by
 have := Ze (x0p l0 x1) n _ (y6m l0 x1)
 rwa [h] at this
end Go.Am
namespace Go.Am
open Go.Proofs.Tryz
open Go.Proofs Go.Sort Go.Shelf Go.RowKit Go.Lib
def upV (x n : Int) : Int := IntKind.wrap .i64 (0 - Wx (IntKind.wrap .i64 (0 - x)) n)
theorem dwn_o {x n : Int} (h : n ≠ 0) : Vd x n = true := by unfold Vd; rw [decide_eq_false h]; rfl
def oB (n : Int) (r : R6) : R6 := ⟨Wx r.a n, Wx r.b n, Wx r.c n, upV r.d n, upV r.e n, upV r.f n⟩
def oOk (n : Int) (r : R6) : Bool := !decide (Wa (Wa (Wx r.a n) (Wx r.b n)) (Wx r.c n) < (-1000000)) && !decide (Xv (Xv (upV r.d n) (upV r.e n)) (upV r.f n) > 1000000)
def outR (n : Int) (L : List R6) (ok : Bool) : List AVal := bif ok then [.dat (Jz (L.map (oB n))).length (Zz (Jz (L.map (oB n)))), .int .i64 (Vp (L.map (oB n)))] else [.nils, .int .i64 16]
theorem w1c {L : List R6} {n : Int} (hl : L.length ≤ 400) (hn : n ≠ 0) : ∀ (k i : Nat) (acc : List R6), i + k = L.length → acc = (L.take i).map (oB n) → ∃ N, Yu (z0i L n) N (.to (.h0 acc (i : Int))) = .ret (outR n L ((L.drop i).all (oOk n)))
 | 0, i, acc, h, ha => by
  refine ⟨1, ?_⟩
  rw [List.take_of_length_le (by omega)] at ha
  subst ha
  rw [Zw, List.drop_eq_nil_of_le (by omega)]
  simp (disch := omega) only [z0i, Zs, Zc, show ∀ l, z3w l = true from fun _ => rfl, cond_true, cond_false, Zm, outR, List.all_nil]
 | k + 1, i, acc, h, ha => by
  have hi : i < L.length := by omega
  have hla : acc.length = i := by rw [ha, List.length_map, List.length_take]; omega
  obtain ⟨N, hN⟩ := w1c hl hn k (i + 1) (acc ++ [oB n (rd L i)]) (by omega) (by rw [ha, Xa hi, ← List.map_singleton, ← List.map_append, List.take_append_getElem])
  have hw : IntKind.wrap .i64 ((i : Int) + 1) = ((i + 1 : Nat) : Int) := Zj (by omega)
  have hs : z0i L n (.h0 acc (i : Int)) = bif oOk n (rd L i) then .to (.h0 (acc ++ [oB n (rd L i)]) ((i + 1 : Nat) : Int)) else .ret [.nils, .int .i64 16] := by
   simp (disch := omega) only [z0i, Yv, Yj, hw, Zk, dwn_o hn, Yf, Zt, Yi, Nat.zero_add, decide_true, Bool.and_true, Bool.true_and, cond_true]
   unfold oOk upV oB
   cases decide (Wa (Wa (Wx (rd L i).a n) (Wx (rd L i).b n)) (Wx (rd L i).c n) < (-1000000)) <;> cases decide (Xv (Xv (IntKind.wrap .i64 (0 - Wx (IntKind.wrap .i64 (0 - (rd L i).d)) n)) (IntKind.wrap .i64 (0 - Wx (IntKind.wrap .i64 (0 - (rd L i).e)) n))) (IntKind.wrap .i64 (0 - Wx (IntKind.wrap .i64 (0 - (rd L i).f)) n)) > 1000000) <;> rfl
  refine ⟨N + 1, ?_⟩
  rw [Zw, hs, Yg hi, List.all_cons]
  rcases Zn (oOk n (rd L i)) with q | q
  ·rw [q, cond_true, Bool.true_and]; exact hN
  ·rw [q, cond_false, Bool.false_and]; exact Zm _ _ _
def v6j (L : List R6) (n : Int) : Bool := (Yx L == 0) && (!decide (n < 1) && (!decide (n > 1000) && L.all (oOk n)))
def Jp (L : List R6) (n : Int) : List R6 := bif v6j L n then Jz (L.map (oB n)) else []
def z1h (L : List R6) (n : Int) : Int := bif Yx L != 0 then Yx L else bif decide (n < 1) || decide (n > 1000) then 2 else bif L.all (oOk n) then Vp (L.map (oB n)) else 16
def outW (L : List R6) (n : Int) : List AVal := bif v6j L n then [.dat (Jp L n).length (Zz (Jp L n)), .int .i64 (z1h L n)] else [.nils, .int .i64 (z1h L n)]
theorem w6w (L : List R6) (n : Int) : ∃ N, Yu (z0i L n) N (z4n L n) = .ret (outW L n) := by
 have hk : (Yx L != 0) = !(Yx L == 0) := rfl
 unfold z4n outW Jp z1h v6j
 simp only [Zc, z3x, cond_true, hk]
 rcases Zn (Yx L == 0) with a | a
 ·rcases Zn (decide (n < 1)) with b | b
  ·refine ⟨0, ?_⟩
   rw [a, b]; rfl
  ·rcases Zn (decide (n > 1000)) with c | c
   ·refine ⟨0, ?_⟩
    rw [a, b, c]; rfl
   ·have hb := of_decide_eq_false b
    obtain ⟨N, hN⟩ := w1c (L := L) (n := n) (Uv (eq_of_beq a)).1 (by omega) L.length 0 [] (Nat.zero_add _) rfl
    refine ⟨N, ?_⟩
    rw [a, b, c]
    simp only [Bool.not_true, Bool.not_false, Bool.true_and, Bool.or_false, cond_true, cond_false]
    rw [z1p] at hN
    rw [hN, List.drop_zero]
    unfold outR
    cases L.all (oOk n) <;> rfl
 ·refine ⟨0, ?_⟩
  rw [a]; rfl
def z9u (L : List R6) (n : Int) : Bool := true
def fOut : List AVal → Option (AVal × Bool)
 | [a0, .int .i64 x1] => match asL R6 a0 with
  | some (L0, g0, n0) => some (.tup [.dat (Jp L0 x1).length (Zz (Jp L0 x1)), .int .i64 (z1h L0 x1)], isT R6 n0 g0 && z9u L0 x1)
  | _ => none
 | _ => none
theorem v8b {S : Specs} (hS : Zu prog S) : Zu prog (S.with w1u fOut) := by
 refine w8i hS (by kernel_rfl) fun args v h => ?_
 unfold fOut at h
 split at h
 ·rename_i a0 x1
  split at h
  ·rename_i L0 g0 n0 e0
   simp only [Option.some.injEq, Prod.mk.injEq, Bool.and_eq_true] at h
   obtain ⟨rfl, ho0, hw⟩ := h
   obtain ⟨N, hN⟩ := w6w L0 x1
   refine ⟨_, outW L0 x1, (.cons (asL_le e0 ho0) (.cons (.refl _) .nil)), ?_, w1d L0 x1 N _ hN, 3, ?_⟩
   ·unfold outW
    rcases Zn (v6j L0 x1) with q | q
    ·rw [q]; exact fun ρ u hu => hu
    ·rw [q]
     unfold Jp
     rw [q]
     exact fun ρ u hu => z1b (.cons (Kp R6) (RLe.refl _)) ρ u hu
   ·unfold outW
    cases v6j L0 x1 <;> rfl
  ·cases h
 ·cases h
end Go.Am
namespace Go.Am
open Go.Proofs.Tryz
open Go.Proofs Go.Sort Go.Shelf Go.RowKit Go.Lib
abbrev y6u : Nat := 35
abbrev x3s : Nat := 39
abbrev y6w : Nat := 111
abbrev w1l : Nat := 73
abbrev y6v : Nat := 32
def Ea : Specs := (De.with w1u fOut)
theorem w4d : Zu prog Ea := (v8b y1z)
end Go.Am
namespace Go.Am
open Go.Proofs.Tryz
open Go.Proofs
inductive pikS where
def pikC (l0 : List R6) (x1 : Int) : pikS → Cfg
 := nofun
def x0n (l0 : List R6) (x1 : Int) : pikS → Xj pikS
 := nofun
def z8k (l0 : List R6) (x1 : Int) : Xj pikS := (bif (Vz (cvT l0)) then (bif ((Yx (cvT l0)) != 0) then (.ret [.nils, (.int .i64 (Yx (cvT l0)))]) else (bif (decide (x1 < 0)) then (.ret [.nils, (.int .i64 2)]) else (bif (decide (x1 > 9)) then (.ret [.nils, (.int .i64 2)]) else (bif (!decide (x1 < 0)) then (bif (z9u (cvT l0) (IntKind.wrap .i64 ((1 : Int) * 2 ^ (min x1.toNat 64)))) then (.ret [(.dat (Jp (cvT l0) (IntKind.wrap .i64 ((1 : Int) * 2 ^ (min x1.toNat 64)))).length (Zz (Jp (cvT l0) (IntKind.wrap .i64 ((1 : Int) * 2 ^ (min x1.toNat 64)))))), (.int .i64 (z1h (cvT l0) (IntKind.wrap .i64 ((1 : Int) * 2 ^ (min x1.toNat 64)))))]) else .stuck) else .stuck)))) else .stuck)
theorem x6i (l0 : List R6) (x1 : Int) : ∀ s, Xd prog (Zy prog 38) (pikC l0 x1) (pikC l0 x1 s) (x0n l0 x1 s)
 := nofun
theorem x0o (l0 : List R6) (x1 : Int) : Xd prog (Zy prog 38) (pikC l0 x1) (Zg prog 38 [(.dat l0.length (Zz l0)), (.int .i64 x1)] true []) (z8k l0 x1) := (lo fun aS => (lb (fun k0 => (lr 24 38 [1, 0, 1, 1, 0, 0] 1 16 [(4, .nils), (5, (ii (Yx (cvT l0))))] (sl w4d 24 [] ⟨[], [], [some [4, 5]], []⟩ ⟨[], [], []⟩ [true] (tt k0 (pp (pp (xr l0) (xw aS)) nn))))) (fun k0 => (lb (fun k1 => (lr 24 38 [1, 1, 0, 1, 0, 0] 1 16 [(4, .nils), (5, (ii 2))] (sl w4d 35 [] ⟨[], [], [some [4, 5]], []⟩ ⟨[], [], []⟩ [false, true, true, true] (tt k1 (tt k0 (pp (pp (xr l0) (xw aS)) nn)))))) (fun k1 => (lb (fun k2 => (lr 24 38 [1, 1, 0, 1, 0, 0] 1 16 [(4, .nils), (5, (ii 2))] (sl w4d 35 [] ⟨[], [], [some [4, 5]], []⟩ ⟨[], [], []⟩ [false, false, false, true] (tt k2 (tt k1 (tt k0 (pp (pp (xr l0) (xw aS)) nn))))))) (fun k2 => (lo fun o0 => (lo fun o1 => (lr 24 3 [1, 1, 1, 1, 1, 1, 0] 1 16 [(4, (.dat (Jp (cvT l0) (wr ((1 : Int) * 2 ^ (min (tn x1) 64)))).length (Zz (Jp (cvT l0) (wr ((1 : Int) * 2 ^ (min (tn x1) 64))))))), (5, (ii (z1h (cvT l0) (wr ((1 : Int) * 2 ^ (min (tn x1) 64))))))] (sl w4d 42 [] ⟨[], [], [some [4, 5]], []⟩ ⟨[], [], []⟩ [false, false, false, false] (pp (pp (xr l0) (xw o1)) (ww o0 (tt k2 (tt k1 (tt k0 (pp (pp (xr l0) (xw aS)) nn)))))))))))))))))
theorem w6v (l0 : List R6) (x1 : Int) (n : Nat) (vs : List AVal) (h : Yu (x0n l0 x1) n (z8k l0 x1) = .ret vs) : Ur prog (Zy prog 38) (Zg prog 38 [(.dat l0.length (Zz l0)), (.int .i64 x1)] true []) vs := by
 have := Ze (x6i l0 x1) n _ (x0o l0 x1)
 rwa [h] at this
end Go.Am
namespace Go.Am
open Go.Proofs.Tryz
open Go.Proofs Go.Sort Go.Shelf Go.RowKit Go.Lib
def w4k (k : Int) : Int := IntKind.wrap .i64 ((1 : Int) * 2 ^ (min k.toNat 64))
def v6h (L : List R6) (k : Int) : Bool := (Yx L == 0) && (!decide (k < 0) && !decide (k > 9))
def Xh (L : List R6) (k : Int) : List R6 := bif v6h L k then Jp L (w4k k) else []
def Jv (L : List R6) (k : Int) : Int := bif Yx L != 0 then Yx L else bif decide (k < 0) || decide (k > 9) then 2 else z1h L (w4k k)
def z9s (L : List R6) (k : Int) : Bool := true
def pikW (L : List R6) (k : Int) : List AVal := bif v6h L k then [.dat (Xh L k).length (Zz (Xh L k)), .int .i64 (Jv L k)] else [.nils, .int .i64 (Jv L k)]
theorem v6g (L : List R6) (k : Int) : ∃ N, Yu (x0n L k) N (z8k L k) = .ret (pikW L k) := ⟨0, by
 have hk : (Yx L != 0) = !(Yx L == 0) := rfl
 unfold z8k pikW Xh Jv v6h
 simp only [Zc, z3x, cond_true, hk, show ∀ l n, z9u l n = true from fun _ _ => rfl]
 cases (Yx L == 0) <;> cases decide (k < 0) <;> cases decide (k > 9) <;> rfl⟩
def fPik : List AVal → Option (AVal × Bool)
 | [a0, .int .i64 x1] => match asL R6 a0 with
  | some (L0, g0, n0) => some (.tup [.dat (Xh L0 x1).length (Zz (Xh L0 x1)), .int .i64 (Jv L0 x1)], isT R6 n0 g0 && z9s L0 x1)
  | _ => none
 | _ => none
theorem v8a {S : Specs} (hS : Zu prog S) : Zu prog (S.with v2m fPik) := by
 refine w8i hS (by kernel_rfl) fun args v h => ?_
 unfold fPik at h
 split at h
 ·rename_i a0 x1
  split at h
  ·rename_i L0 g0 n0 e0
   simp only [Option.some.injEq, Prod.mk.injEq, Bool.and_eq_true] at h
   obtain ⟨rfl, ho0, hw⟩ := h
   obtain ⟨N, hN⟩ := v6g L0 x1
   refine ⟨_, pikW L0 x1, (.cons (asL_le e0 ho0) (.cons (.refl _) .nil)), ?_, w6v L0 x1 N _ hN, 3, ?_⟩
   ·unfold pikW
    rcases Zn (v6h L0 x1) with q | q
    ·rw [q]; exact fun ρ u hu => hu
    ·rw [q]
     unfold Xh
     rw [q]
     exact fun ρ u hu => z1b (.cons (Kp R6) (RLe.refl _)) ρ u hu
   ·unfold pikW
    cases v6h L0 x1 <;> rfl
  ·cases h
 ·cases h
def Eb : Specs := (Ea.with v2m fPik)
theorem z5k : Zu prog Eb := (v8a w4d)
end Go.Am
namespace Go.Am
open Go.Proofs.Tryz
open Go.Proofs
inductive levS where
 | h0 (v7 : Int)
def levC (l0 : List R6) (x1 : Int) : levS → Cfg
 | .h0 v7 => ⟨⟨55, 0, true⟩, none, (Za prog 31 [1, 1, 1, 1, 1, 0, 1, 0, 0] 0), none, (Zy prog 16), ⟨Yb [(0, (.dat l0.length (Zz l0))), (1, (ii x1)), (7, (ii v7))], Vq [] 0, 0, [], true⟩, [], .leaf⟩
def w7n : List (Option (List Nat)) := [some [0, 1, 7]]
def w7o : List (Option (List Nat)) := []
def z3n (l0 : List R6) (x1 : Int) : levS → Xj levS
 | .h0 v7 => (bif (decide (v7 > 0)) then (bif (z9s (cvT l0) v7) then (bif ((Jv (cvT l0) v7) == 0) then (bif (z5b (cvT l0) (cvT (Xh (cvT l0) v7))) then (bif ((z1o (cvT l0) (cvT (Xh (cvT l0) v7))) == 0) then (bif (decide ((z5c (cvT l0) (cvT (Xh (cvT l0) v7))) ≤ x1)) then (.ret [(.int .i64 v7), (.int .i64 0)]) else (.to (.h0 (IntKind.wrap .i64 (v7 - 1))))) else (.to (.h0 (IntKind.wrap .i64 (v7 - 1))))) else .stuck) else (.to (.h0 (IntKind.wrap .i64 (v7 - 1))))) else .stuck) else (.ret [(.int .i64 0), (.int .i64 0)]))
def z8n (l0 : List R6) (x1 : Int) : Xj levS := (bif (Vz (cvT l0)) then (bif ((Yx (cvT l0)) != 0) then (.ret [(.int .i64 0), (.int .i64 (Yx (cvT l0)))]) else (bif (decide (x1 < 0)) then (.ret [(.int .i64 0), (.int .i64 2)]) else (bif (decide (x1 > 1000)) then (.ret [(.int .i64 0), (.int .i64 2)]) else (bif ((l0.length : Int) == 0) then (.ret [(.int .i64 0), (.int .i64 6)]) else (bif (decide ((l0.length : Int) > 40)) then (.ret [(.int .i64 0), (.int .i64 4)]) else (.to (.h0 9))))))) else .stuck)
theorem x6m (l0 : List R6) (x1 : Int) : ∀ s, Xd prog (Zy prog 31) (levC l0 x1) (levC l0 x1 s) (z3n l0 x1 s)
 | .h0 v7 => (lb (fun k0 => (lo fun aF => (lb (fun k1 => (lo fun cP => (lb (fun k2 => (lb (fun k3 => (lr 55 31 [1, 1, 1, 1, 1, 0, 1, 0, 0, 1, 0, 0, 1, 1, 0, 1, 1, 0, 0] 1 16 [(4, (ii v7)), (5, (ii 0))] (sl z5k 55 [] ⟨[], [], [some [4, 5]], []⟩ ⟨[], [], []⟩ (trs 6 []) (tt k3 (tt k2 (pp (pp (xr l0) (pp (xI R6 (Xh (cvT l0) v7).length (Zz (Xh (cvT l0) v7))) (xw cP))) (tt k1 (pp (pp (xr l0) (xw aF)) (tt k0 nn))))))))) (fun k3 => (sl z5k 57 [] ⟨[], [], w7n, w7o⟩ ⟨[], [], []⟩ (trs 5 [false]) (tt k3 (tt k2 (pp (pp (xr l0) (pp (xI R6 (Xh (cvT l0) v7).length (Zz (Xh (cvT l0) v7))) (xw cP))) (tt k1 (pp (pp (xr l0) (xw aF)) (tt k0 nn)))))))))) (fun k2 => (sl z5k 57 [] ⟨[], [], w7n, w7o⟩ ⟨[], [], []⟩ [true, true, false, false, false, false] (tt k2 (pp (pp (xr l0) (pp (xI R6 (Xh (cvT l0) v7).length (Zz (Xh (cvT l0) v7))) (xw cP))) (tt k1 (pp (pp (xr l0) (xw aF)) (tt k0 nn)))))))))) (fun k1 => (sl z5k 35 [] ⟨[], [], w7n, w7o⟩ ⟨[], [], []⟩ [true, false] (tt k1 (pp (pp (xr l0) (xw aF)) (tt k0 nn)))))))) (fun k0 => (lr 55 3 [1, 1, 1, 1, 1, 1, 0] 1 16 [(4, (ii 0)), (5, (ii 0))] (sl z5k 13 [] ⟨[], [], [some [4, 5]], []⟩ ⟨[], [], []⟩ [false] (tt k0 nn)))))
theorem x0t (l0 : List R6) (x1 : Int) : Xd prog (Zy prog 31) (levC l0 x1) (Zg prog 31 [(.dat l0.length (Zz l0)), (.int .i64 x1)] true []) (z8n l0 x1) := (lo fun aS => (lb (fun k0 => (lr 55 31 [1, 0, 1, 1, 0, 0] 1 16 [(4, (ii 0)), (5, (ii (Yx (cvT l0))))] (sl z5k 24 [] ⟨[], [], [some [4, 5]], []⟩ ⟨[], [], []⟩ [true] (tt k0 (pp (pp (xr l0) (xw aS)) nn))))) (fun k0 => (lb (fun k1 => (lr 55 31 [1, 1, 0, 1, 0, 0] 1 16 [(4, (ii 0)), (5, (ii 2))] (sl z5k 35 [] ⟨[], [], [some [4, 5]], []⟩ ⟨[], [], []⟩ [false, true, true, true] (tt k1 (tt k0 (pp (pp (xr l0) (xw aS)) nn)))))) (fun k1 => (lb (fun k2 => (lr 55 31 [1, 1, 0, 1, 0, 0] 1 16 [(4, (ii 0)), (5, (ii 2))] (sl z5k 35 [] ⟨[], [], [some [4, 5]], []⟩ ⟨[], [], []⟩ [false, false, false, true] (tt k2 (tt k1 (tt k0 (pp (pp (xr l0) (xw aS)) nn))))))) (fun k2 => (lb (fun k3 => (lr 55 31 [1, 1, 1, 0, 1, 0, 0] 1 16 [(4, (ii 0)), (5, (ii 6))] (sl z5k 44 [] ⟨[], [], [some [4, 5]], []⟩ ⟨[], [], []⟩ [false, false, false, false, true] (tt k3 (tt k2 (tt k1 (tt k0 (pp (pp (xr l0) (xw aS)) nn)))))))) (fun k3 => (lb (fun k4 => (lr 55 31 [1, 1, 1, 1, 0, 1, 0, 0] 1 16 [(4, (ii 0)), (5, (ii 4))] (sl z5k 53 [] ⟨[], [], [some [4, 5]], []⟩ ⟨[], [], []⟩ [false, false, false, false, false, true] (tt k4 (tt k3 (tt k2 (tt k1 (tt k0 (pp (pp (xr l0) (xw aS)) nn))))))))) (fun k4 => (sl z5k 56 [] ⟨[], [], w7n, w7o⟩ ⟨[], [], []⟩ [false, false, false, false, false, false] (tt k4 (tt k3 (tt k2 (tt k1 (tt k0 (pp (pp (xr l0) (xw aS)) nn))))))))))))))))))
theorem w7m (l0 : List R6) (x1 : Int) (n : Nat) (vs : List AVal) (h : Yu (z3n l0 x1) n (z8n l0 x1) = .ret vs) : Ur prog (Zy prog 31) (Zg prog 31 [(.dat l0.length (Zz l0)), (.int .i64 x1)] true []) vs := by
 have := Ze (x6m l0 x1) n _ (x0t l0 x1)
 rwa [h] at this
inductive flrS where
def flrC (x0 : Int) (x1 : Int) : flrS → Cfg
 := nofun
def x1l (x0 : Int) (x1 : Int) : flrS → Xj flrS
 := nofun
def z8u (x0 : Int) (x1 : Int) : Xj flrS := (bif (!decide (x1 = 0)) then (bif (decide ((Int.tmod x0 x1) < 0)) then (.ret [(.int .i64 (IntKind.wrap .i64 (x0 - (IntKind.wrap .i64 ((Int.tmod x0 x1) + x1)))))]) else (.ret [(.int .i64 (IntKind.wrap .i64 (x0 - (Int.tmod x0 x1))))])) else .stuck)
theorem x7c (x0 : Int) (x1 : Int) : ∀ s, Xd prog (Zy prog 45) (flrC x0 x1) (flrC x0 x1 s) (x1l x0 x1 s)
 := nofun
theorem x1m (x0 : Int) (x1 : Int) : Xd prog (Zy prog 45) (flrC x0 x1) (Zg prog 45 [(.int .i64 x0), (.int .i64 x1)] true []) (z8u x0 x1) := (lo fun aS => (lb (fun k0 => (lr 17 3 [1, 1, 1, 1, 1, 1, 0] 1 3 [(4, (ii (wr (x0 - (wr ((Int.tmod x0 x1) + x1))))))] (sl z5k 31 [] ⟨[], [], [some [4]], []⟩ ⟨[], [], []⟩ [true] (tt k0 (ww aS nn))))) (fun k0 => (lr 17 3 [1, 1, 1, 1, 1, 1, 0] 1 3 [(4, (ii (wr (x0 - (Int.tmod x0 x1)))))] (sl z5k 26 [] ⟨[], [], [some [4]], []⟩ ⟨[], [], []⟩ [false] (tt k0 (ww aS nn)))))))
theorem w8d (x0 : Int) (x1 : Int) (n : Nat) (vs : List AVal) (h : Yu (x1l x0 x1) n (z8u x0 x1) = .ret vs) : Ur prog (Zy prog 45) (Zg prog 45 [(.int .i64 x0), (.int .i64 x1)] true []) vs := by
 have := Ze (x7c x0 x1) n _ (x1m x0 x1)
 rwa [h] at this
end Go.Am
namespace Go.Am
open Go.Proofs.Tryz
open Go.Proofs Go.Sort Go.Shelf Go.RowKit Go.Lib
def levQ (L : List R6) (d k : Int) : Bool := (Jv L k == 0) && ((z1o L (Xh L k) == 0) && decide (z5c L (Xh L k) ≤ d))
def levF (L : List R6) (d : Int) : Nat → Int
 | 0 => 0
 | k + 1 => bif levQ L d ((k + 1 : Nat) : Int) then ((k + 1 : Nat) : Int) else levF L d k
def z2s (L : List R6) (d : Int) : Int := bif Yx L != 0 then Yx L else bif decide (d < 0) || decide (d > 1000) then 2 else bif ((L.length : Int) == 0) then 6 else bif decide ((L.length : Int) > 40) then 4 else 0
def y2r (L : List R6) (d : Int) : Int := bif z2s L d == 0 then levF L d 9 else 0
def z4r (L : List R6) (d : Int) : Bool := true
theorem v2t {L : List R6} {d : Int} : ∀ (k : Nat), k ≤ 9 → ∃ N, Yu (z3n L d) N (.to (.h0 (k : Int))) = .ret [.int .i64 (levF L d k), .int .i64 0]
 | 0, h => by
  refine ⟨1, ?_⟩
  rw [Zw]
  simp (disch := omega) only [z3n, Yo, cond_false]; rfl
 | k + 1, h => by
  obtain ⟨N, hN⟩ := v2t (L := L) (d := d) k (by omega)
  have hw : IntKind.wrap .i64 (((k + 1 : Nat) : Int) - 1) = (k : Int) := by rw [Zf]; exact Zj (by omega)
  refine ⟨N + 1, ?_⟩
  have e : z3n L d (.h0 ((k + 1 : Nat) : Int)) = bif levQ L d ((k + 1 : Nat) : Int) then .ret [.int .i64 ((k + 1 : Nat) : Int), .int .i64 0] else .to (.h0 (k : Int)) := by
   simp (disch := omega) only [z3n, Zc, Yn, hw, show ∀ l k, z9s l k = true from fun _ _ => rfl, show ∀ l m, z5b l m = true from fun _ _ => rfl, cond_true]
   unfold levQ
   cases (Jv L ((k + 1 : Nat) : Int) == 0) <;> cases (z1o L (Xh L ((k + 1 : Nat) : Int)) == 0) <;> cases decide (z5c L (Xh L ((k + 1 : Nat) : Int)) ≤ d) <;> rfl
  rw [Zw, e]
  unfold levF
  rcases Zn (levQ L d ((k + 1 : Nat) : Int)) with q | q
  ·rw [q]; exact Zm _ _ _
  ·rw [q]; exact hN
theorem v6s (L : List R6) (d : Int) (h : z4r L d = true) : ∃ N, Yu (z3n L d) N (z8n L d) = .ret [.int .i64 (y2r L d), .int .i64 (z2s L d)] := by
 obtain ⟨N, hN⟩ := v2t (L := L) (d := d) 9 (Nat.le_refl _)
 refine ⟨N, ?_⟩
 have hk : (Yx L != 0) = !(Yx L == 0) := rfl
 unfold z8n y2r z2s
 simp only [Zc, z3x, cond_true, hk]
 rcases Zn (Yx L == 0) with a | a <;> rcases Zn (decide (d < 0)) with b | b <;> rcases Zn (decide (d > 1000)) with c | c <;> rcases Zn ((L.length : Int) == 0) with e | e <;> rcases Zn (decide ((L.length : Int) > 40)) with f | f <;> rw [a, b, c, e, f] <;>
  simp only [Bool.not_true, Bool.not_false, Bool.or_true, Bool.or_false, Bool.true_or, cond_true, cond_false, a] <;> first | exact hN | exact Zm _ _ _
def fLev : List AVal → Option (AVal × Bool)
 | [a0, .int .i64 x1] => match asL R6 a0 with
  | some (L0, g0, n0) => some (.tup [.int .i64 (y2r L0 x1), .int .i64 (z2s L0 x1)], isT R6 n0 g0 && (z4r L0 x1))
  | _ => none
 | _ => none
theorem v8e {S : Specs} (hS : Zu prog S) : Zu prog (S.with w1v fLev) := by
 refine z0x hS (by kernel_rfl) fun args v h => ?_
 unfold fLev at h
 split at h
 ·rename_i a0 x1
  split at h
  ·rename_i L0 g0 n0 e0
   simp only [Option.some.injEq, Prod.mk.injEq, Bool.and_eq_true] at h
   obtain ⟨rfl, ho0, hw⟩ := h
   obtain ⟨N, hN⟩ := v6s L0 x1 hw
   exact ⟨_, _, (.cons (asL_le e0 ho0) (.cons (.refl _) .nil)), rfl, w7m L0 x1 N _ hN, 3, rfl⟩
  ·cases h
 ·cases h
def We (x n : Int) : Int := bif decide (Int.tmod x n < 0) then IntKind.wrap .i64 (x - IntKind.wrap .i64 (Int.tmod x n + n)) else IntKind.wrap .i64 (x - Int.tmod x n)
def Vc (x n : Int) : Bool := !decide (n = 0)
theorem v7g (x n : Int) (h : Vc x n = true) : ∃ N, Yu (x1l x n) N (z8u x n) = .ret [.int .i64 (We x n)] := ⟨0, by
 have h : (!decide (n = 0)) = true := h
 unfold z8u We
 rw [h, cond_true]
 cases decide (Int.tmod x n < 0) <;> rfl⟩
def fFlr : List AVal → Option (AVal × Bool)
 | [.int .i64 x0, .int .i64 x1] => some (.int .i64 (We x0 x1), Vc x0 x1)
 | _ => none
theorem v8j {S : Specs} (hS : Zu prog S) : Zu prog (S.with x3t fFlr) := by
 refine z0x hS (by kernel_rfl) fun args v h => ?_
 unfold fFlr at h
 split at h
 ·rename_i x0 x1
  simp only [Option.some.injEq, Prod.mk.injEq, Bool.and_eq_true] at h
  obtain ⟨rfl, hw⟩ := h
  obtain ⟨N, hN⟩ := v7g x0 x1 hw
  exact ⟨_, _, (.cons (.refl _) (.cons (.refl _) .nil)), rfl, w8d x0 x1 N _ hN, 3, rfl⟩
 ·cases h
def Ec : Specs := ((Eb.with w1v fLev).with x3t fFlr)
theorem y1o : Zu prog Ec := (v8j (v8e z5k))
end Go.Am
namespace Go.Am
open Go.Proofs.Tryz
open Go.Proofs
inductive rouS where
 | h0 (v6 : List R6) (v7 : Int)
def rouC (l0 : List R6) (x1 : Int) : rouS → Cfg
 | .h0 v6 v7 => ⟨⟨120, 0, true⟩, none, (Za prog 35 [1, 1, 1, 0, 1, 0, 0] 0), none, (Zy prog 16), ⟨Yb [(0, (.dat l0.length (Zz l0))), (1, (ii x1)), (6, (.sla 0 6 0 v6.length (.un 6))), (7, (ii v7))], Vq [⟨rows v6.length (Zz v6), 68, some ⟨6, v6.length, (Zz v6)⟩⟩] 0, 1, [], true⟩, [], .leaf⟩
def rouN0 : List (Option (List Nat)) := [some [0, 1, 6, 7]]
def rouM0 : List (Option (List Nat)) := []
def z3f (l0 : List R6) (x1 : Int) : rouS → Xj rouS
 | .h0 v6 v7 => (bif (decide (v7 < (l0.length : Int))) then (bif (Vc (rd l0 v7.toNat).a x1) then (bif (Vc (rd l0 v7.toNat).b x1) then (bif (Vc (rd l0 v7.toNat).c x1) then (bif (Vc (IntKind.wrap .i64 ((rd l0 v7.toNat).d - 1)) x1) then (bif (Vc (IntKind.wrap .i64 ((rd l0 v7.toNat).e - 1)) x1) then (bif ((decide (0 ≤ v7 ∧ v7 < (l0.length : Int))) && true) then (bif (Vc (IntKind.wrap .i64 ((rd l0 v7.toNat).f - 1)) x1) then (bif (decide ((Wa (Wa (We (rd l0 v7.toNat).a x1) (We (rd l0 v7.toNat).b x1)) (We (rd l0 v7.toNat).c x1)) < (-1000000))) then (.ret [.nils, (.int .i64 16)]) else (bif (decide ((Xv (Xv (IntKind.wrap .i64 ((We (IntKind.wrap .i64 ((rd l0 v7.toNat).d - 1)) x1) + x1)) (IntKind.wrap .i64 ((We (IntKind.wrap .i64 ((rd l0 v7.toNat).e - 1)) x1) + x1))) (IntKind.wrap .i64 ((We (IntKind.wrap .i64 ((rd l0 v7.toNat).f - 1)) x1) + x1))) > 1000000)) then (.ret [.nils, (.int .i64 16)]) else (bif (Nat.beq 6 6 && ((decide (0 + v6.length = v6.length)) && decide ((v6.length + 1 + 1) * (48 + 1) ≤ Kd))) then (.to (.h0 (v6 ++ [(R6.mk (We (rd l0 v7.toNat).a x1) (We (rd l0 v7.toNat).b x1) (We (rd l0 v7.toNat).c x1) (IntKind.wrap .i64 ((We (IntKind.wrap .i64 ((rd l0 v7.toNat).d - 1)) x1) + x1)) (IntKind.wrap .i64 ((We (IntKind.wrap .i64 ((rd l0 v7.toNat).e - 1)) x1) + x1)) (IntKind.wrap .i64 ((We (IntKind.wrap .i64 ((rd l0 v7.toNat).f - 1)) x1) + x1)))]) (IntKind.wrap .i64 (v7 + 1)))) else .stuck))) else .stuck) else .stuck) else .stuck) else .stuck) else .stuck) else .stuck) else .stuck) else (bif (z2c 2 ([] : List R6) (cvT v6)) then (bif (!(Qp 2 ([] : List R6) (cvT v6))) then (.ret [.nils, (.int .i64 4)]) else (.ret [(.dat (Ue 2 ([] : List R6) (cvT v6)).length (Zz (Ue 2 ([] : List R6) (cvT v6)))), (.int .i64 0)])) else .stuck))
def z8d (l0 : List R6) (x1 : Int) : Xj rouS := (bif (Xb (cvT l0)) then (bif ((Ya (cvT l0)) != 0) then (.ret [.nils, (.int .i64 (Ya (cvT l0)))]) else (bif (decide (x1 < 1)) then (.ret [.nils, (.int .i64 2)]) else (bif (decide (x1 > 1000)) then (.ret [.nils, (.int .i64 2)]) else (.to (.h0 ([] : List R6) 0))))) else .stuck)
theorem x5w (l0 : List R6) (x1 : Int) : ∀ s, Xd prog (Zy prog 35) (rouC l0 x1) (rouC l0 x1 s) (z3f l0 x1 s)
 | .h0 v6 v7 => (lb (fun k0 => (lo fun aF => (lo fun bC => (lo fun bZ => (lo fun cV => (lo fun dE => (lo fun cK => (lo fun dF => (lb (fun k1 => (lr 120 35 [1, 1, 1, 0, 1, 0, 0, 1, 0, 0, 1, 0, 1, 0, 0] 1 16 [(4, .nils), (5, (ii 16))] (sl y1o 48 [] ⟨[], [], [some [4, 5]], []⟩ ⟨[], [], []⟩ (trs 13 []) (tt k1 (ww dF (ww cK (ww dE (ww cK (ww cV (ww cK (ww bZ (ww cK (ww bC (ww cK (ww aF (ww cK (tt k0 nn))))))))))))))))) (fun k1 => (lb (fun k2 => (lr 120 35 [1, 1, 1, 0, 1, 0, 0, 1, 0, 0, 1, 0, 1, 0, 0] 1 16 [(4, .nils), (5, (ii 16))] (sl y1o 48 [] ⟨[], [], [some [4, 5]], []⟩ ⟨[], [], []⟩ [true, false, false, false, false, false, false, false, false, false, false, false, true] (tt k2 (tt k1 (ww dF (ww cK (ww dE (ww cK (ww cV (ww cK (ww bZ (ww cK (ww bC (ww cK (ww aF (ww cK (tt k0 nn)))))))))))))))))) (fun k2 => (lo fun o0 => (sl y1o 58 [] ⟨[3], [], rouN0, rouM0⟩ ⟨[(6, .len (v6 ++ [(R6.mk (We (rd l0 (tn v7)).a x1) (We (rd l0 (tn v7)).b x1) (We (rd l0 (tn v7)).c x1) (wr ((We (wr ((rd l0 (tn v7)).d - 1)) x1) + x1)) (wr ((We (wr ((rd l0 (tn v7)).e - 1)) x1) + x1)) (wr ((We (wr ((rd l0 (tn v7)).f - 1)) x1) + x1)))]).length)], [.rowed 6 (v6 ++ [(R6.mk (We (rd l0 (tn v7)).a x1) (We (rd l0 (tn v7)).b x1) (We (rd l0 (tn v7)).c x1) (wr ((We (wr ((rd l0 (tn v7)).d - 1)) x1) + x1)) (wr ((We (wr ((rd l0 (tn v7)).e - 1)) x1) + x1)) (wr ((We (wr ((rd l0 (tn v7)).f - 1)) x1) + x1)))]).length (Zz (v6 ++ [(R6.mk (We (rd l0 (tn v7)).a x1) (We (rd l0 (tn v7)).b x1) (We (rd l0 (tn v7)).c x1) (wr ((We (wr ((rd l0 (tn v7)).d - 1)) x1) + x1)) (wr ((We (wr ((rd l0 (tn v7)).e - 1)) x1) + x1)) (wr ((We (wr ((rd l0 (tn v7)).f - 1)) x1) + x1)))]))], []⟩ [true, false, false, false, false, false, false, false, false, false, false, false, false] (pp (xL (v6.length + 1) (v6 ++ [(R6.mk (We (rd l0 (tn v7)).a x1) (We (rd l0 (tn v7)).b x1) (We (rd l0 (tn v7)).c x1) (wr ((We (wr ((rd l0 (tn v7)).d - 1)) x1) + x1)) (wr ((We (wr ((rd l0 (tn v7)).e - 1)) x1) + x1)) (wr ((We (wr ((rd l0 (tn v7)).f - 1)) x1) + x1)))]).length) (pp (xL (v6.length + 1) (v6 ++ [(R6.mk (We (rd l0 (tn v7)).a x1) (We (rd l0 (tn v7)).b x1) (We (rd l0 (tn v7)).c x1) (wr ((We (wr ((rd l0 (tn v7)).d - 1)) x1) + x1)) (wr ((We (wr ((rd l0 (tn v7)).e - 1)) x1) + x1)) (wr ((We (wr ((rd l0 (tn v7)).f - 1)) x1) + x1)))]).length) (pp (xS (v6.length + 1) (Zh (Zz v6) 0 v6.length 6 [(ii (We (rd l0 (tn v7)).a x1)), (ii (We (rd l0 (tn v7)).b x1)), (ii (We (rd l0 (tn v7)).c x1)), (ii (wr ((We (wr ((rd l0 (tn v7)).d - 1)) x1) + x1))), (ii (wr ((We (wr ((rd l0 (tn v7)).e - 1)) x1) + x1))), (ii (wr ((We (wr ((rd l0 (tn v7)).f - 1)) x1) + x1)))]) (Zz (v6 ++ [(R6.mk (We (rd l0 (tn v7)).a x1) (We (rd l0 (tn v7)).b x1) (We (rd l0 (tn v7)).c x1) (wr ((We (wr ((rd l0 (tn v7)).d - 1)) x1) + x1)) (wr ((We (wr ((rd l0 (tn v7)).e - 1)) x1) + x1)) (wr ((We (wr ((rd l0 (tn v7)).f - 1)) x1) + x1)))]))) (pp (pp (xF (Zh (Zz v6) 0 v6.length 6 [(ii (We (rd l0 (tn v7)).a x1)), (ii (We (rd l0 (tn v7)).b x1)), (ii (We (rd l0 (tn v7)).c x1)), (ii (wr ((We (wr ((rd l0 (tn v7)).d - 1)) x1) + x1))), (ii (wr ((We (wr ((rd l0 (tn v7)).e - 1)) x1) + x1))), (ii (wr ((We (wr ((rd l0 (tn v7)).f - 1)) x1) + x1)))])) nn) (ww o0 (tt k2 (tt k1 (ww dF (ww cK (ww dE (ww cK (ww cV (ww cK (ww bZ (ww cK (ww bC (ww cK (ww aF (ww cK (tt k0 nn)))))))))))))))))))))))))))))))))) (fun k0 => (Vb (sl y1o (C' := ⟨⟨120, 0, true⟩, (Vi prog 35 [1, 1, 1, 1, 0] 1), (Za prog 35 [1, 1, 1, 1, 0] 1), none, (Zy prog 16), ⟨Yb [(113, (.dat v6.length (Zz v6)))], Vq [] 0, 0, [], true⟩, [], .leaf⟩) 13 [] ⟨[], [0], [some [113]], []⟩ ⟨[(113, .frz v6.length v6.length (Zz v6) (Zz v6))], [], []⟩ [false] (pp (xZ (z8r 6 6 0 v6.length v6.length (Zz v6)) v6.length (Zz v6)) (pp (xL v6.length v6.length) (pp (xS v6.length (Zz v6) (Zz v6)) (pp (fl v6 nn) (tt k0 nn)))))) (lo fun aF => (lb (fun k1 => (lr 120 35 [1, 1, 1, 1, 1, 0, 1, 0, 0] 1 16 [(4, .nils), (5, (ii 4))] (sl y1o 19 [] ⟨[], [], [some [4, 5]], []⟩ ⟨[], [], []⟩ [true] (tt k1 (pp (pp (xI R6 0 (fun _ => [])) (pp (xr v6) (xw aF))) nn))))) (fun k1 => (lr 120 3 [1, 1, 1, 1, 1, 1, 0] 1 16 [(4, (.dat (Ue 2 ([] : List R6) (cvT v6)).length (Zz (Ue 2 ([] : List R6) (cvT v6))))), (5, (ii 0))] (sl y1o 21 [] ⟨[], [], [some [4, 5]], []⟩ ⟨[], [], []⟩ [false] (tt k1 (pp (pp (xI R6 0 (fun _ => [])) (pp (xr v6) (xw aF))) nn))))))))))
theorem y9t (l0 : List R6) (x1 : Int) : Xd prog (Zy prog 35) (rouC l0 x1) (Zg prog 35 [(.dat l0.length (Zz l0)), (.int .i64 x1)] true []) (z8d l0 x1) := (lo fun aS => (lb (fun k0 => (lr 120 35 [1, 0, 1, 0, 0] 1 16 [(4, .nils), (5, (ii (Ya (cvT l0))))] (sl y1o 60 [] ⟨[], [], [some [4, 5]], []⟩ ⟨[], [], []⟩ (trs 3 []) (pp (pp (xr l0) (xw aS)) (tt k0 (pp (pp (xr l0) (xw aS)) (tt k0 (pp (pp (xr l0) (xw aS)) (tt k0 (pp (pp (xr l0) (xw aS)) nn)))))))))) (fun k0 => (lb (fun k1 => (lr 120 35 [1, 0, 1, 0, 0] 1 16 [(4, .nils), (5, (ii 2))] (sl y1o 80 [] ⟨[], [], [some [4, 5]], []⟩ ⟨[], [], []⟩ [false, true, true, true, true, false, true, true, true] (tt k1 (tt k0 (pp (pp (xr l0) (xw aS)) (tt k1 (tt k0 (pp (pp (xr l0) (xw aS)) nn))))))))) (fun k1 => (lb (fun k2 => (lr 120 35 [1, 0, 1, 0, 0] 1 16 [(4, .nils), (5, (ii 2))] (sl y1o 80 [] ⟨[], [], [some [4, 5]], []⟩ ⟨[], [], []⟩ [false, false, false, true, true, false, false, false, true] (tt k2 (tt k1 (tt k0 (pp (pp (xr l0) (xw aS)) (tt k2 (tt k1 (tt k0 (pp (pp (xr l0) (xw aS)) nn))))))))))) (fun k2 => (sl y1o 56 [(68, 6, Zz ([] : List R6))] ⟨[0], [], rouN0, rouM0⟩ ⟨[(6, .grow 0 6)], [], []⟩ [false, false, false, false, false] (pp (fl ([] : List R6) nn) (tt k2 (tt k1 (tt k0 (pp (pp (xr l0) (xw aS)) nn)))))))))))))
theorem w5x (l0 : List R6) (x1 : Int) (n : Nat) (vs : List AVal) (h : Yu (z3f l0 x1) n (z8d l0 x1) = .ret vs) : Ur prog (Zy prog 35) (Zg prog 35 [(.dat l0.length (Zz l0)), (.int .i64 x1)] true []) vs := by
 have := Ze (x5w l0 x1) n _ (y9t l0 x1)
 rwa [h] at this
end Go.Am
namespace Go.Am
open Go.Proofs.Tryz
open Go.Proofs Go.Sort Go.Shelf Go.RowKit Go.Lib
def rB (n : Int) (r : R6) : R6 := ⟨We r.a n, We r.b n, We r.c n, IntKind.wrap .i64 (We (IntKind.wrap .i64 (r.d - 1)) n + n), IntKind.wrap .i64 (We (IntKind.wrap .i64 (r.e - 1)) n + n), IntKind.wrap .i64 (We (IntKind.wrap .i64 (r.f - 1)) n + n)⟩
def bOk (r : R6) : Bool := !decide (Wa (Wa r.a r.b) r.c < (-1000000)) && !decide (Xv (Xv r.d r.e) r.f > 1000000)
theorem flr_o {x n : Int} (h : n ≠ 0) : Vc x n = true := by unfold Vc; rw [decide_eq_false h]; rfl
def rouR (n : Int) (L : List R6) (ok : Bool) : List AVal := bif ok then (bif Qp 2 [] (L.map (rB n)) then [.dat (Ue 2 [] (L.map (rB n))).length (Zz (Ue 2 [] (L.map (rB n)))), .int .i64 0] else [.nils, .int .i64 4]) else [.nils, .int .i64 16]
theorem v1g {L : List R6} {n : Int} (hl : L.length ≤ 400) (hn : n ≠ 0) : ∀ (k i : Nat) (acc : List R6), i + k = L.length → acc = (L.take i).map (rB n) → ∃ N, Yu (z3f L n) N (.to (.h0 acc (i : Int))) = .ret (rouR n L ((L.drop i).all fun r => bOk (rB n r)))
 | 0, i, acc, h, ha => by
  refine ⟨1, ?_⟩
  rw [List.take_of_length_le (by omega)] at ha
  subst ha
  have w : z2c 2 [] (L.map (rB n)) = true := decide_eq_true ⟨by simp, by rw [List.length_map]; omega⟩
  rw [Zw, List.drop_eq_nil_of_le (by omega)]
  unfold rouR
  cases q : Qp 2 [] (L.map (rB n)) <;>
   simp (disch := omega) only [z3f, Zs, Zc, w, q, Bool.not_true, Bool.not_false, cond_true, cond_false, Zm, List.all_nil]
 | k + 1, i, acc, h, ha => by
  have hi : i < L.length := by omega
  have hla : acc.length = i := by rw [ha, List.length_map, List.length_take]; omega
  obtain ⟨N, hN⟩ := v1g hl hn k (i + 1) (acc ++ [rB n (rd L i)]) (by omega) (by rw [ha, Xa hi, ← List.map_singleton, ← List.map_append, List.take_append_getElem])
  have hw : IntKind.wrap .i64 ((i : Int) + 1) = ((i + 1 : Nat) : Int) := Zj (by omega)
  have hs : z3f L n (.h0 acc (i : Int)) = bif bOk (rB n (rd L i)) then .to (.h0 (acc ++ [rB n (rd L i)]) ((i + 1 : Nat) : Int)) else .ret [.nils, .int .i64 16] := by
   simp (disch := omega) only [z3f, Yv, Yj, hw, Zk, flr_o hn, Yf, Zt, Yi, Nat.zero_add, decide_true, Bool.and_true, Bool.true_and, cond_true]
   unfold bOk rB
   dsimp only
   cases decide (Wa (Wa (We (rd L i).a n) (We (rd L i).b n)) (We (rd L i).c n) < (-1000000)) <;> cases decide (Xv (Xv (IntKind.wrap .i64 (We (IntKind.wrap .i64 ((rd L i).d - 1)) n + n)) (IntKind.wrap .i64 (We (IntKind.wrap .i64 ((rd L i).e - 1)) n + n))) (IntKind.wrap .i64 (We (IntKind.wrap .i64 ((rd L i).f - 1)) n + n)) > 1000000) <;> rfl
  refine ⟨N + 1, ?_⟩
  rw [Zw, hs, Yg hi, List.all_cons]
  rcases Zn (bOk (rB n (rd L i))) with q | q
  ·rw [q, cond_true, Bool.true_and]; exact hN
  ·rw [q, cond_false, Bool.false_and]; exact Zm _ _ _
def rouP (L : List R6) (n : Int) : Bool := (Ya L == 0) && (!decide (n < 1) && (!decide (n > 1000) && ((L.all fun r => bOk (rB n r)) && Qp 2 [] (L.map (rB n)))))
def Kv (L : List R6) (n : Int) : List R6 := bif rouP L n then Ue 2 [] (L.map (rB n)) else []
def z2q (L : List R6) (n : Int) : Int := bif Ya L != 0 then Ya L else bif decide (n < 1) || decide (n > 1000) then 2 else bif L.all fun r => bOk (rB n r) then (bif Qp 2 [] (L.map (rB n)) then 0 else 4) else 16
def rouW (L : List R6) (n : Int) : List AVal := bif rouP L n then [.dat (Kv L n).length (Zz (Kv L n)), .int .i64 (z2q L n)] else [.nils, .int .i64 (z2q L n)]
theorem v5e (L : List R6) (n : Int) : ∃ N, Yu (z3f L n) N (z8d L n) = .ret (rouW L n) := by
 have hk : (Ya L != 0) = !(Ya L == 0) := rfl
 unfold z8d rouW Kv z2q rouP
 simp only [Zc, show ∀ l, Xb l = true from fun _ => rfl, cond_true, hk]
 rcases Zn (Ya L == 0) with a | a
 ·rcases Zn (decide (n < 1)) with b | b
  ·refine ⟨0, ?_⟩
   rw [a, b]; rfl
  ·rcases Zn (decide (n > 1000)) with c | c
   ·refine ⟨0, ?_⟩
    rw [a, b, c]; rfl
   ·have hb := of_decide_eq_false b
    obtain ⟨N, hN⟩ := v1g (L := L) (n := n) (Uv ((z2j L).trans (eq_of_beq a))).1 (by omega) L.length 0 [] (Nat.zero_add _) rfl
    refine ⟨N, ?_⟩
    rw [a, b, c]
    simp only [Bool.not_true, Bool.not_false, Bool.true_and, Bool.or_false, cond_true, cond_false]
    rw [z1p] at hN
    rw [hN, List.drop_zero]
    unfold rouR
    cases L.all (fun r => bOk (rB n r)) <;> cases Qp 2 [] (L.map (rB n)) <;> rfl
 ·refine ⟨0, ?_⟩
  rw [a]; rfl
def z9o (L : List R6) (n : Int) : Bool := true
def fRou : List AVal → Option (AVal × Bool)
 | [a0, .int .i64 x1] => match asL R6 a0 with
  | some (L0, g0, n0) => some (.tup [.dat (Kv L0 x1).length (Zz (Kv L0 x1)), .int .i64 (z2q L0 x1)], isT R6 n0 g0 && z9o L0 x1)
  | _ => none
 | _ => none
theorem v7t {S : Specs} (hS : Zu prog S) : Zu prog (S.with y6u fRou) := by
 refine w8i hS (by kernel_rfl) fun args v h => ?_
 unfold fRou at h
 split at h
 ·rename_i a0 x1
  split at h
  ·rename_i L0 g0 n0 e0
   simp only [Option.some.injEq, Prod.mk.injEq, Bool.and_eq_true] at h
   obtain ⟨rfl, ho0, hw⟩ := h
   obtain ⟨N, hN⟩ := v5e L0 x1
   refine ⟨_, rouW L0 x1, (.cons (asL_le e0 ho0) (.cons (.refl _) .nil)), ?_, w5x L0 x1 N _ hN, 3, ?_⟩
   ·unfold rouW
    rcases Zn (rouP L0 x1) with q | q
    ·rw [q]; exact fun ρ u hu => hu
    ·rw [q]
     unfold Kv
     rw [q]
     exact fun ρ u hu => z1b (.cons (Kp R6) (RLe.refl _)) ρ u hu
   ·unfold rouW
    cases rouP L0 x1 <;> rfl
  ·cases h
 ·cases h
def Ed : Specs := (Ec.with y6u fRou)
theorem z6n : Zu prog Ed := (v7t y1o)
end Go.Am
namespace Go.Am
open Go.Proofs.Tryz
open Go.Proofs
inductive rpkS where
 | h0 (v6 : Int) (v7 : Int)
def rpkC (l0 : List R6) (x1 : Int) : rpkS → Cfg
 | .h0 v6 v7 => ⟨⟨31, 0, true⟩, none, (Za prog 39 [1, 1, 1, 1, 0, 1, 0, 0] 0), none, (Zy prog 16), ⟨Yb [(0, (.dat l0.length (Zz l0))), (1, (ii x1)), (6, (ii v6)), (7, (ii v7))], Vq [] 0, 0, [], true⟩, [], .leaf⟩
def rpkN0 : List (Option (List Nat)) := [some [0, 1, 6, 7]]
def rpkM0 : List (Option (List Nat)) := []
def z5o (l0 : List R6) (x1 : Int) : rpkS → Xj rpkS
 | .h0 v6 v7 => (bif (decide (v7 < x1)) then (.to (.h0 (IntKind.wrap .i64 (2 * v6)) (IntKind.wrap .i64 (v7 + 1)))) else (bif (z9o (cvT l0) v6) then (.ret [(.dat (Kv (cvT l0) v6).length (Zz (Kv (cvT l0) v6))), (.int .i64 (z2q (cvT l0) v6))]) else .stuck))
def z8b (l0 : List R6) (x1 : Int) : Xj rpkS := (bif (Xb (cvT l0)) then (bif ((Ya (cvT l0)) != 0) then (.ret [.nils, (.int .i64 (Ya (cvT l0)))]) else (bif (decide (x1 < 0)) then (.ret [.nils, (.int .i64 2)]) else (bif (decide (x1 > 9)) then (.ret [.nils, (.int .i64 2)]) else (.to (.h0 1 0))))) else .stuck)
theorem x5v (l0 : List R6) (x1 : Int) : ∀ s, Xd prog (Zy prog 39) (rpkC l0 x1) (rpkC l0 x1 s) (z5o l0 x1 s)
 | .h0 v6 v7 => (lb (fun k0 => (sl z6n 23 [] ⟨[], [], rpkN0, rpkM0⟩ ⟨[], [], []⟩ [true] (tt k0 nn))) (fun k0 => (lo fun o0 => (lr 31 3 [1, 1, 1, 1, 1, 1, 0] 1 16 [(4, (.dat (Kv (cvT l0) v6).length (Zz (Kv (cvT l0) v6)))), (5, (ii (z2q (cvT l0) v6)))] (sl z6n 19 [] ⟨[], [], [some [4, 5]], []⟩ ⟨[], [], []⟩ [false] (pp (pp (xr l0) (xw o0)) (tt k0 nn)))))))
theorem y9r (l0 : List R6) (x1 : Int) : Xd prog (Zy prog 39) (rpkC l0 x1) (Zg prog 39 [(.dat l0.length (Zz l0)), (.int .i64 x1)] true []) (z8b l0 x1) := (lo fun aS => (lb (fun k0 => (lr 31 39 [1, 0, 1, 0, 0] 1 16 [(4, .nils), (5, (ii (Ya (cvT l0))))] (sl z6n 20 [] ⟨[], [], [some [4, 5]], []⟩ ⟨[], [], []⟩ [true] (pp (pp (xr l0) (xw aS)) (tt k0 (pp (pp (xr l0) (xw aS)) nn)))))) (fun k0 => (lb (fun k1 => (lr 31 39 [1, 1, 0, 1, 0, 0] 1 16 [(4, .nils), (5, (ii 2))] (sl z6n 30 [] ⟨[], [], [some [4, 5]], []⟩ ⟨[], [], []⟩ [false, true, true, true] (tt k1 (tt k0 (pp (pp (xr l0) (xw aS)) nn)))))) (fun k1 => (lb (fun k2 => (lr 31 39 [1, 1, 0, 1, 0, 0] 1 16 [(4, .nils), (5, (ii 2))] (sl z6n 30 [] ⟨[], [], [some [4, 5]], []⟩ ⟨[], [], []⟩ [false, false, false, true] (tt k2 (tt k1 (tt k0 (pp (pp (xr l0) (xw aS)) nn))))))) (fun k2 => (sl z6n 37 [] ⟨[], [], rpkN0, rpkM0⟩ ⟨[], [], []⟩ [false, false, false, false] (tt k2 (tt k1 (tt k0 (pp (pp (xr l0) (xw aS)) nn))))))))))))
theorem w5u (l0 : List R6) (x1 : Int) (n : Nat) (vs : List AVal) (h : Yu (z5o l0 x1) n (z8b l0 x1) = .ret vs) : Ur prog (Zy prog 39) (Zg prog 39 [(.dat l0.length (Zz l0)), (.int .i64 x1)] true []) vs := by
 have := Ze (x5v l0 x1) n _ (y9r l0 x1)
 rwa [h] at this
inductive plcS where
 | h0 (v8 : Int) (v10 : Int) (v11 : List Int) (v12 : Int)
def plcC (aM : Int) (aK : Int) (aI : Int) (aO : Int) (aT : Int) (aP : Int) (bM : Int) (bN : Int) (cF : Int) (cG : Int) (cH : Int) (cI : Int) (x2 : Int) : plcS → Cfg
 | .h0 v8 v10 v11 v12 => ⟨⟨45, 0, true⟩, none, (Za prog 111 [1, 1, 1, 1, 0, 1, 0, 0] 0), none, (Zy prog 4), ⟨Yb [(8, (ii v8)), (10, (ii v10)), (11, (.sla 0 1 0 v11.length (.un 1))), (12, (ii v12))], Vq [⟨rows v11.length (Zz v11), 3, some ⟨1, v11.length, (Zz v11)⟩⟩] 0, 1, [], true⟩, [], .leaf⟩
def w6t : List (Option (List Nat)) := [some [8, 10, 11, 12]]
def w6u : List (Option (List Nat)) := []
def z3i (aM : Int) (aK : Int) (aI : Int) (aO : Int) (aT : Int) (aP : Int) (bM : Int) (bN : Int) (cF : Int) (cG : Int) (cH : Int) (cI : Int) (x2 : Int) : plcS → Xj plcS
 | .h0 v8 v10 v11 v12 => (bif (decide (v12 < (Wa v8 v10))) then (bif (Nat.beq 1 1 && ((decide (0 + v11.length = v11.length)) && decide ((v11.length + 1 + 1) * (8 + 1) ≤ Kd))) then (.to (.h0 v8 v10 (v11 ++ [v12]) (IntKind.wrap .i64 (v12 + 1)))) else .stuck) else (bif (Vg (cvT v11)) then (.ret [(.dat (Kx (cvT v11)).length (Zz (Kx (cvT v11))))]) else .stuck))
def z8j (aM : Int) (aK : Int) (aI : Int) (aO : Int) (aT : Int) (aP : Int) (bM : Int) (bN : Int) (cF : Int) (cG : Int) (cH : Int) (cI : Int) (x2 : Int) : Xj plcS := (bif (x2 == 0) then (.to (.h0 aO cG ([aM, (IntKind.wrap .i64 (aO - 1))] : List Int) (Xv aM bM))) else (bif (x2 == 1) then (.to (.h0 aT cH ([aK, (IntKind.wrap .i64 (aT - 1))] : List Int) (Xv aK bN))) else (.to (.h0 aP cI ([aI, (IntKind.wrap .i64 (aP - 1))] : List Int) (Xv aI cF)))))
theorem x6h (aM : Int) (aK : Int) (aI : Int) (aO : Int) (aT : Int) (aP : Int) (bM : Int) (bN : Int) (cF : Int) (cG : Int) (cH : Int) (cI : Int) (x2 : Int) : ∀ s, Xd prog (Zy prog 111) (plcC aM aK aI aO aT aP bM bN cF cG cH cI x2) (plcC aM aK aI aO aT aP bM bN cF cG cH cI x2 s) (z3i aM aK aI aO aT aP bM bN cF cG cH cI x2 s)
 | .h0 v8 v10 v11 v12 => (lb (fun k0 => (lo fun o0 => (sl z6n 27 [] ⟨[2], [], w6t, w6u⟩ ⟨[(11, .len (v11 ++ [v12]).length)], [.rowed 1 (v11 ++ [v12]).length (Zz (v11 ++ [v12]))], []⟩ [true] (pp (xL (v11.length + 1) (v11 ++ [v12]).length) (pp (xL (v11.length + 1) (v11 ++ [v12]).length) (pp (xS (v11.length + 1) (Zh (Zz v11) 0 v11.length 1 [(ii v12)]) (Zz (v11 ++ [v12]))) (pp (pp (xF (Zh (Zz v11) 0 v11.length 1 [(ii v12)])) nn) (ww o0 (tt k0 nn))))))))) (fun k0 => (Vb (sl z6n (C' := ⟨⟨45, 0, true⟩, (Vi prog 111 [1, 1, 1, 1, 1, 0] 1), (Za prog 111 [1, 1, 1, 1, 1, 0] 1), none, (Zy prog 4), ⟨Yb [(43, (.dat v11.length (Zz v11)))], Vq [] 0, 0, [], true⟩, [], .leaf⟩) 14 [] ⟨[], [0], [some [43]], []⟩ ⟨[(43, .frz v11.length v11.length (Zz v11) (Zz v11))], [], []⟩ [false] (pp (xZ (z8r 1 1 0 v11.length v11.length (Zz v11)) v11.length (Zz v11)) (pp (xL v11.length v11.length) (pp (xS v11.length (Zz v11) (Zz v11)) (pp (fl v11 nn) (tt k0 nn)))))) (lo fun o0 => (lr 45 3 [1, 1, 1, 1, 1, 1, 0] 1 4 [(6, (.dat (Kx (cvT v11)).length (Zz (Kx (cvT v11)))))] (sl z6n 3 [] ⟨[], [], [some [6]], []⟩ ⟨[], [], []⟩ [] (pp (pp (xr v11) (xw o0)) nn)))))))
theorem x0m (aM : Int) (aK : Int) (aI : Int) (aO : Int) (aT : Int) (aP : Int) (bM : Int) (bN : Int) (cF : Int) (cG : Int) (cH : Int) (cI : Int) (x2 : Int) : Xd prog (Zy prog 111) (plcC aM aK aI aO aT aP bM bN cF cG cH cI x2) (Zg prog 111 [(.agg [(.int .i64 aM), (.int .i64 aK), (.int .i64 aI), (.int .i64 aO), (.int .i64 aT), (.int .i64 aP)]), (.agg [(.int .i64 bM), (.int .i64 bN), (.int .i64 cF), (.int .i64 cG), (.int .i64 cH), (.int .i64 cI)]), (.int .i64 x2)] true []) (z8j aM aK aI aO aT aP bM bN cF cG cH cI x2) := (lb (fun k0 => (sl z6n 78 [] ⟨[4], [], w6t, w6u⟩ ⟨[(11, .grow 0 1)], [.rowed 1 ([aM, (wr (aO - 1))] : List Int).length (Zz ([aM, (wr (aO - 1))] : List Int))], []⟩ [true, true] (pp (xG (z9n [(ii aM), (ii (wr (aO - 1)))] 1 ([aM, (wr (aO - 1))] : List Int).length (Zz ([aM, (wr (aO - 1))] : List Int)))) (tt k0 (tt k0 nn))))) (fun k0 => (lb (fun k1 => (sl z6n 94 [] ⟨[4], [], w6t, w6u⟩ ⟨[(11, .grow 0 1)], [.rowed 1 ([aK, (wr (aT - 1))] : List Int).length (Zz ([aK, (wr (aT - 1))] : List Int))], []⟩ [false, true, false, true] (pp (xG (z9n [(ii aK), (ii (wr (aT - 1)))] 1 ([aK, (wr (aT - 1))] : List Int).length (Zz ([aK, (wr (aT - 1))] : List Int)))) (tt k1 (tt k0 (tt k1 (tt k0 nn))))))) (fun k1 => (sl z6n 96 [] ⟨[4], [], w6t, w6u⟩ ⟨[(11, .grow 0 1)], [.rowed 1 ([aI, (wr (aP - 1))] : List Int).length (Zz ([aI, (wr (aP - 1))] : List Int))], []⟩ [false, false, false, false] (pp (xG (z9n [(ii aI), (ii (wr (aP - 1)))] 1 ([aI, (wr (aP - 1))] : List Int).length (Zz ([aI, (wr (aP - 1))] : List Int)))) (tt k1 (tt k0 (tt k1 (tt k0 nn))))))))))
theorem w6s (aM : Int) (aK : Int) (aI : Int) (aO : Int) (aT : Int) (aP : Int) (bM : Int) (bN : Int) (cF : Int) (cG : Int) (cH : Int) (cI : Int) (x2 : Int) (n : Nat) (vs : List AVal) (h : Yu (z3i aM aK aI aO aT aP bM bN cF cG cH cI x2) n (z8j aM aK aI aO aT aP bM bN cF cG cH cI x2) = .ret vs) : Ur prog (Zy prog 111) (Zg prog 111 [(.agg [(.int .i64 aM), (.int .i64 aK), (.int .i64 aI), (.int .i64 aO), (.int .i64 aT), (.int .i64 aP)]), (.agg [(.int .i64 bM), (.int .i64 bN), (.int .i64 cF), (.int .i64 cG), (.int .i64 cH), (.int .i64 cI)]), (.int .i64 x2)] true []) vs := by
 have := Ze (x6h aM aK aI aO aT aP bM bN cF cG cH cI x2) n _ (x0m aM aK aI aO aT aP bM bN cF cG cH cI x2)
 rwa [h] at this
end Go.Am
namespace Go.Am
open Go.Proofs.Tryz
open Go.Proofs Go.Sort Go.Shelf Go.RowKit Go.Lib
def dbl : Nat → Int → Int
 | 0, n => n
 | k + 1, n => dbl k (IntKind.wrap .i64 (2 * n))
theorem v1d {L : List R6} {x : Int} (hx : x ≤ 9) : ∀ (k : Nat) (i n : Int), 0 ≤ i → i + k = x → ∃ N, Yu (z5o L x) N (.to (.h0 n i)) = .ret [.dat (Kv L (dbl k n)).length (Zz (Kv L (dbl k n))), .int .i64 (z2q L (dbl k n))]
 | 0, i, n, hi, h => by
  refine ⟨1, ?_⟩
  rw [Zw]
  simp (disch := omega) only [z5o, Zs, Zc, show ∀ l n, z9o l n = true from fun _ _ => rfl, cond_true, cond_false, Zm, dbl]
 | k + 1, i, n, hi, h => by
  obtain ⟨N, hN⟩ := v1d (L := L) hx k (i + 1) (IntKind.wrap .i64 (2 * n)) (by omega) (by omega)
  have hw : IntKind.wrap .i64 (i + 1) = i + 1 := Zj (by omega)
  refine ⟨N + 1, ?_⟩
  rw [Zw]
  simp (disch := omega) only [z5o, Yv, hw, cond_true]
  exact hN
def rpkP (L : List R6) (k : Int) : Bool := (Ya L == 0) && (!decide (k < 0) && !decide (k > 9))
def Vy (L : List R6) (k : Int) : List R6 := bif rpkP L k then Kv L (dbl k.toNat 1) else []
def Qc (L : List R6) (k : Int) : Int := bif Ya L != 0 then Ya L else bif decide (k < 0) || decide (k > 9) then 2 else z2q L (dbl k.toNat 1)
def z9m (L : List R6) (k : Int) : Bool := true
def rpkW (L : List R6) (k : Int) : List AVal := bif rpkP L k then [.dat (Vy L k).length (Zz (Vy L k)), .int .i64 (Qc L k)] else [.nils, .int .i64 (Qc L k)]
theorem v5d (L : List R6) (k : Int) : ∃ N, Yu (z5o L k) N (z8b L k) = .ret (rpkW L k) := by
 have hk : (Ya L != 0) = !(Ya L == 0) := rfl
 unfold z8b rpkW Vy Qc rpkP
 simp only [Zc, show ∀ l, Xb l = true from fun _ => rfl, cond_true, hk]
 rcases Zn (Ya L == 0) with a | a
 ·rcases Zn (decide (k < 0)) with b | b
  ·refine ⟨0, ?_⟩
   rw [a, b]; rfl
  ·rcases Zn (decide (k > 9)) with c | c
   ·refine ⟨0, ?_⟩
    rw [a, b, c]; rfl
   ·have hb := of_decide_eq_false b
    have hc := of_decide_eq_false c
    obtain ⟨N, hN⟩ := v1d (L := L) (x := k) (by omega) k.toNat 0 1 (by omega) (by omega)
    refine ⟨N, ?_⟩
    rw [a, b, c]
    exact hN
 ·refine ⟨0, ?_⟩
  rw [a]; rfl
def fRpk : List AVal → Option (AVal × Bool)
 | [a0, .int .i64 x1] => match asL R6 a0 with
  | some (L0, g0, n0) => some (.tup [.dat (Vy L0 x1).length (Zz (Vy L0 x1)), .int .i64 (Qc L0 x1)], isT R6 n0 g0 && z9m L0 x1)
  | _ => none
 | _ => none
theorem v7s {S : Specs} (hS : Zu prog S) : Zu prog (S.with x3s fRpk) := by
 refine w8i hS (by kernel_rfl) fun args v h => ?_
 unfold fRpk at h
 split at h
 ·rename_i a0 x1
  split at h
  ·rename_i L0 g0 n0 e0
   simp only [Option.some.injEq, Prod.mk.injEq, Bool.and_eq_true] at h
   obtain ⟨rfl, ho0, hw⟩ := h
   obtain ⟨N, hN⟩ := v5d L0 x1
   refine ⟨_, rpkW L0 x1, (.cons (asL_le e0 ho0) (.cons (.refl _) .nil)), ?_, w5u L0 x1 N _ hN, 3, ?_⟩
   ·unfold rpkW
    rcases Zn (rpkP L0 x1) with q | q
    ·rw [q]; exact fun ρ u hu => hu
    ·rw [q]
     unfold Vy
     rw [q]
     exact fun ρ u hu => z1b (.cons (Kp R6) (RLe.refl _)) ρ u hu
   ·unfold rpkW
    cases rpkP L0 x1 <;> rfl
  ·cases h
 ·cases h
def cUp : Nat → Int → List Int
 | 0, _ => []
 | n + 1, c => c :: cUp n (c + 1)
theorem y3c : ∀ (n : Nat) (c : Int), (cUp n c).length = n
 | 0, _ => rfl
 | n + 1, c => by rw [cUp, List.length_cons, y3c n]
def w4j (lo hi p q : Int) : List Int := [lo, IntKind.wrap .i64 (hi - 1)] ++ cUp (Wa hi q - Xv lo p).toNat (Xv lo p)
def w0y (lo hi p q : Int) : Bool := decide (-20000 ≤ p) && decide (q ≤ 20000)
def w4i (a b c d e f A B C D E F x : Int) : List Int := Kx (bif x == 0 then w4j a d A D else bif x == 1 then w4j b e B E else w4j c f C F)
def Jw (a b c d e f A B C D E F x : Int) : Bool := bif x == 0 then w0y a d A D else bif x == 1 then w0y b e B E else w0y c f C F
theorem v2a {a b c d e f A B C D E F x : Int} (v8 v10 : Int) (hq : Wa v8 v10 ≤ 20000) : ∀ (k : Nat) (acc : List Int) (i : Int), -20000 ≤ i → (Wa v8 v10 - i).toNat = k → acc.length + k ≤ 50000 → ∃ N, Yu (z3i a b c d e f A B C D E F x) N (.to (.h0 v8 v10 acc i)) = .ret [.dat (Kx (acc ++ cUp k i)).length (Zz (Kx (acc ++ cUp k i)))]
 | 0, acc, i, hi, h, hl => by
  have w : Vg acc = true := decide_eq_true (by omega)
  refine ⟨1, ?_⟩
  rw [Zw]
  simp (disch := omega) only [z3i, Zs, Zc, w, cond_true, cond_false, Zm, cUp, List.append_nil]
 | k + 1, acc, i, hi, h, hl => by
  obtain ⟨N, hN⟩ := v2a v8 v10 hq k (acc ++ [i]) (i + 1) (by omega) (by omega) (by simp; omega)
  have hw : IntKind.wrap .i64 (i + 1) = i + 1 := Zj (by omega)
  refine ⟨N + 1, ?_⟩
  rw [List.append_assoc] at hN
  rw [Zw]
  simp (disch := omega) only [z3i, Yv, hw, Yf, Zt, Yi, Nat.zero_add, decide_true, Bool.and_true, Bool.true_and, cond_true]
  exact hN
theorem x4h (x y : Int) : Wa x y ≤ y := by rw [w2k]; omega
theorem x4i (x y : Int) : y ≤ Xv x y := by rw [w2l]; omega
theorem v6f {a b c d e f A B C D E F x : Int} (lo hi p q : Int) (h : w0y lo hi p q = true) : ∃ N, Yu (z3i a b c d e f A B C D E F x) N (.to (.h0 hi q ([lo, IntKind.wrap .i64 (hi - 1)] : List Int) (Xv lo p))) = .ret [.dat (Kx (w4j lo hi p q)).length (Zz (Kx (w4j lo hi p q)))] := by
 simp only [w0y, Bool.and_eq_true, decide_eq_true_eq] at h
 have h1 := x4h hi q
 have h2 := x4i lo p
 exact v2a hi q (by omega) (Wa hi q - Xv lo p).toNat [lo, IntKind.wrap .i64 (hi - 1)] (Xv lo p) (by omega) rfl (by simp; omega)
theorem v6e (a b c d e f A B C D E F x : Int) (h : Jw a b c d e f A B C D E F x = true) : ∃ N, Yu (z3i a b c d e f A B C D E F x) N (z8j a b c d e f A B C D E F x) = .ret [.dat (w4i a b c d e f A B C D E F x).length (Zz (w4i a b c d e f A B C D E F x))] := by
 unfold Jw at h
 unfold z8j w4i
 rcases Zn (x == 0) with q | q
 ·rw [q] at h ⊢; exact v6f a d A D h
 ·rcases Zn (x == 1) with q2 | q2
  ·rw [q, q2] at h ⊢; exact v6f b e B E h
  ·rw [q, q2] at h ⊢; exact v6f c f C F h
def fPlc : List AVal → Option (AVal × Bool)
 | [.agg [.int .i64 aM, .int .i64 aK, .int .i64 aI, .int .i64 aO, .int .i64 aT, .int .i64 aP], .agg [.int .i64 bM, .int .i64 bN, .int .i64 cF, .int .i64 cG, .int .i64 cH, .int .i64 cI], .int .i64 x2] => some (.dat (w4i aM aK aI aO aT aP bM bN cF cG cH cI x2).length (Zz (w4i aM aK aI aO aT aP bM bN cF cG cH cI x2)), Jw aM aK aI aO aT aP bM bN cF cG cH cI x2)
 | _ => none
theorem v7z {S : Specs} (hS : Zu prog S) : Zu prog (S.with y6w fPlc) := by
 refine z0x hS (by kernel_rfl) fun args v h => ?_
 unfold fPlc at h
 split at h
 ·rename_i aM aK aI aO aT aP bM bN cF cG cH cI x2
  simp only [Option.some.injEq, Prod.mk.injEq, Bool.and_eq_true] at h
  obtain ⟨rfl, hw⟩ := h
  obtain ⟨N, hN⟩ := v6e aM aK aI aO aT aP bM bN cF cG cH cI x2 hw
  exact ⟨_, _, (.cons (.refl _) (.cons (.refl _) (.cons (.refl _) .nil))), rfl, w6s aM aK aI aO aT aP bM bN cF cG cH cI x2 N _ hN, 3, rfl⟩
 ·cases h
def Ee : Specs := ((Ed.with x3s fRpk).with y6w fPlc)
theorem z5j : Zu prog Ee := (v7z (v7s z6n))
end Go.Am
namespace Go.Am
open Go.Proofs.Tryz
open Go.Proofs
inductive widS where
 | h0 (v7 : Int) (v8 : Int) (aA : Int) (aN : Int) (aR : Int) (bB : Int) (bO : Int) (bP : Int)
 | h1 (v5 : Int) (aE : Int) (bR : Int) (bU : Int) (bV : Int) (dB : Int) (dC : Int)
 | h2 (v7 : Int) (v8 : Int) (v9 : List Int) (v10 : List Int) (v11 : List Int) (v12 : Int) (aA : Int) (aN : Int) (aR : Int) (bB : Int) (bO : Int) (bP : Int)
 | h3 (v7 : Int) (v8 : Int) (v9 : List Int) (v10 : List Int) (v11 : List Int) (v12 : Int) (v13 : Int) (aA : Int) (aN : Int) (aR : Int) (bB : Int) (bO : Int) (bP : Int)
 | h4 (v7 : Int) (v8 : Int) (v9 : List Int) (v10 : List Int) (v11 : List Int) (v12 : Int) (v13 : Int) (v14 : Int) (aA : Int) (aN : Int) (aR : Int) (bB : Int) (bO : Int) (bP : Int)
def widC (l0 : List R6) (l1 : List R6) : widS → Cfg
 | .h0 v7 v8 aA aN aR bB bO bP => ⟨⟨80, 0, true⟩, none, (Za prog 73 [1, 1, 1, 0, 1, 0, 0] 0), none, (Zy prog 3), ⟨Yb [(0, (.dat l0.length (Zz l0))), (1, (.dat l1.length (Zz l1))), (5, (.ptr 0 0)), (7, (ii v7)), (8, (ii v8))], Vq [⟨[(ii aA), (ii aN), (ii aR), (ii bB), (ii bO), (ii bP)], 68, none⟩] 0, 1, [], true⟩, [], .leaf⟩
 | .h1 v5 aE bR bU bV dB dC => ⟨⟨90, 0, true⟩, none, (Za prog 110 [1, 1, 1, 1, 0, 1, 0, 0] 0), none, (Zy prog 50), ⟨Yb [(0, (.dat l1.length (Zz l1))), (2, (.ptr 0 0)), (4, (.ptr 1 0)), (5, (ii v5))], Vq [⟨[(ii 0), (ii 0), (ii 0), (ii 0), (ii 0), (ii 0)], 68, none⟩, ⟨[(ii aE), (ii bR), (ii bU), (ii bV), (ii dB), (ii dC)], 68, none⟩] 0, 2, [], true⟩, [⟨⟨80, 0, true⟩, (Vi prog 73 [1, 0] 1), (Za prog 73 [1, 0] 1), none, (Zy prog 3), Yb [(0, (.dat l0.length (Zz l0))), (1, (.dat l1.length (Zz l1))), (16, (.dat l1.length (Zz l1)))]⟩], .leaf⟩
 | .h2 v7 v8 v9 v10 v11 v12 aA aN aR bB bO bP => ⟨⟨80, 0, true⟩, none, (Za prog 73 [1, 1, 1, 0, 1, 0, 0, 1, 0, 0, 1, 1, 0, 0] 0), none, (Zy prog 3), ⟨Yb [(0, (.dat l0.length (Zz l0))), (1, (.dat l1.length (Zz l1))), (5, (.ptr 0 0)), (7, (ii v7)), (8, (ii v8)), (9, (.dat v9.length (Zz v9))), (10, (.dat v10.length (Zz v10))), (11, (.dat v11.length (Zz v11))), (12, (ii v12))], Vq [⟨[(ii aA), (ii aN), (ii aR), (ii bB), (ii bO), (ii bP)], 68, none⟩] 0, 1, [], true⟩, [], .leaf⟩
 | .h3 v7 v8 v9 v10 v11 v12 v13 aA aN aR bB bO bP => ⟨⟨80, 0, true⟩, none, (Za prog 73 [1, 1, 1, 0, 1, 0, 0, 1, 0, 0, 1, 1, 0, 0, 1, 0, 0, 1, 0, 0] 0), none, (Zy prog 3), ⟨Yb [(0, (.dat l0.length (Zz l0))), (1, (.dat l1.length (Zz l1))), (5, (.ptr 0 0)), (7, (ii v7)), (8, (ii v8)), (9, (.dat v9.length (Zz v9))), (10, (.dat v10.length (Zz v10))), (11, (.dat v11.length (Zz v11))), (12, (ii v12)), (13, (ii v13))], Vq [⟨[(ii aA), (ii aN), (ii aR), (ii bB), (ii bO), (ii bP)], 68, none⟩] 0, 1, [], true⟩, [], .leaf⟩
 | .h4 v7 v8 v9 v10 v11 v12 v13 v14 aA aN aR bB bO bP => ⟨⟨80, 0, true⟩, none, (Za prog 73 [1, 1, 1, 0, 1, 0, 0, 1, 0, 0, 1, 1, 0, 0, 1, 0, 0, 1, 0, 0, 1, 0, 0, 1, 0, 0] 0), none, (Zy prog 3), ⟨Yb [(0, (.dat l0.length (Zz l0))), (1, (.dat l1.length (Zz l1))), (5, (.ptr 0 0)), (7, (ii v7)), (8, (ii v8)), (9, (.dat v9.length (Zz v9))), (10, (.dat v10.length (Zz v10))), (11, (.dat v11.length (Zz v11))), (12, (ii v12)), (13, (ii v13)), (14, (ii v14))], Vq [⟨[(ii aA), (ii aN), (ii aR), (ii bB), (ii bO), (ii bP)], 68, none⟩] 0, 1, [], true⟩, [], .leaf⟩
def w4r : List (Option (List Nat)) := [some [0, 1, 5, 7, 8]]
def w4s : List (Option (List Nat)) := []
def widN1 : List (Option (List Nat)) := [some [0, 2, 4, 5], some [0, 1, 16]]
def widM1 : List (Option (List Nat)) := []
def widN2 : List (Option (List Nat)) := [some [0, 1, 5, 7, 8, 9, 10, 11, 12]]
def widM2 : List (Option (List Nat)) := []
def widN3 : List (Option (List Nat)) := [some [0, 1, 5, 7, 8, 9, 10, 11, 12, 13]]
def widM3 : List (Option (List Nat)) := []
def widN4 : List (Option (List Nat)) := [some [0, 1, 5, 7, 8, 9, 10, 11, 12, 13, 14]]
def widM4 : List (Option (List Nat)) := []
def Ww (l0 : List R6) (l1 : List R6) : widS → Xj widS
 | .h0 v7 v8 aA aN aR bB bO bP => (bif (decide (v8 < (l0.length : Int))) then (bif (Jw (rd l0 v8.toNat).a (rd l0 v8.toNat).b (rd l0 v8.toNat).c (rd l0 v8.toNat).d (rd l0 v8.toNat).e (rd l0 v8.toNat).f aA aN aR bB bO bP 0) then (bif (Jw (rd l0 v8.toNat).a (rd l0 v8.toNat).b (rd l0 v8.toNat).c (rd l0 v8.toNat).d (rd l0 v8.toNat).e (rd l0 v8.toNat).f aA aN aR bB bO bP 1) then (bif ((decide (0 ≤ v8 ∧ v8 < (l0.length : Int))) && true) then (bif (Jw (rd l0 v8.toNat).a (rd l0 v8.toNat).b (rd l0 v8.toNat).c (rd l0 v8.toNat).d (rd l0 v8.toNat).e (rd l0 v8.toNat).f aA aN aR bB bO bP 2) then (.to (.h2 v7 v8 (w4i (rd l0 v8.toNat).a (rd l0 v8.toNat).b (rd l0 v8.toNat).c (rd l0 v8.toNat).d (rd l0 v8.toNat).e (rd l0 v8.toNat).f aA aN aR bB bO bP 0) (w4i (rd l0 v8.toNat).a (rd l0 v8.toNat).b (rd l0 v8.toNat).c (rd l0 v8.toNat).d (rd l0 v8.toNat).e (rd l0 v8.toNat).f aA aN aR bB bO bP 1) (w4i (rd l0 v8.toNat).a (rd l0 v8.toNat).b (rd l0 v8.toNat).c (rd l0 v8.toNat).d (rd l0 v8.toNat).e (rd l0 v8.toNat).f aA aN aR bB bO bP 2) 0 aA aN aR bB bO bP)) else .stuck) else .stuck) else .stuck) else .stuck) else (.ret [(.int .i64 v7)]))
 | .h1 v5 aE bR bU bV dB dC => (bif (decide (v5 < (l1.length : Int))) then (bif ((decide (0 ≤ v5 ∧ v5 < (l1.length : Int))) && true) then (.to (.h1 (IntKind.wrap .i64 (v5 + 1)) (Wa aE (rd l1 v5.toNat).a) (Wa bR (rd l1 v5.toNat).b) (Wa bU (rd l1 v5.toNat).c) (Xv bV (rd l1 v5.toNat).d) (Xv dB (rd l1 v5.toNat).e) (Xv dC (rd l1 v5.toNat).f))) else .stuck) else (.to (.h0 0 0 aE bR bU bV dB dC)))
 | .h2 v7 v8 v9 v10 v11 v12 aA aN aR bB bO bP => (bif (decide (v12 < (v9.length : Int))) then (.to (.h3 v7 v8 v9 v10 v11 v12 0 aA aN aR bB bO bP)) else (.to (.h0 v7 (IntKind.wrap .i64 (v8 + 1)) aA aN aR bB bO bP)))
 | .h3 v7 v8 v9 v10 v11 v12 v13 aA aN aR bB bO bP => (bif (decide (v13 < (v10.length : Int))) then (.to (.h4 v7 v8 v9 v10 v11 v12 v13 0 aA aN aR bB bO bP)) else (.to (.h2 v7 v8 v9 v10 v11 (IntKind.wrap .i64 (v12 + 1)) aA aN aR bB bO bP)))
 | .h4 v7 v8 v9 v10 v11 v12 v13 v14 aA aN aR bB bO bP => (bif (decide (v14 < (v11.length : Int))) then (bif ((decide (0 ≤ v12 ∧ v12 < (v9.length : Int))) && true) then (bif ((decide (0 ≤ v13 ∧ v13 < (v10.length : Int))) && true) then (bif ((decide (0 ≤ v14 ∧ v14 < (v11.length : Int))) && true) then (bif (Uq (rd v9 v12.toNat) (rd v10 v13.toNat) (rd v11 v14.toNat) (cvT l1)) then (.to (.h4 (Xv v7 (z8t (rd v9 v12.toNat) (rd v10 v13.toNat) (rd v11 v14.toNat) (cvT l1))) v8 v9 v10 v11 v12 v13 (IntKind.wrap .i64 (v14 + 1)) aA aN aR bB bO bP)) else .stuck) else .stuck) else .stuck) else .stuck) else (.to (.h3 v7 v8 v9 v10 v11 v12 (IntKind.wrap .i64 (v13 + 1)) aA aN aR bB bO bP)))
def z7p (l0 : List R6) (l1 : List R6) : Xj widS := (bif (Xb (cvT l1)) then (bif ((Ya (cvT l1)) != 0) then (.to (.h0 0 0 0 0 0 0 0 0)) else (bif ((l1.length : Int) == 0) then (.to (.h0 0 0 0 0 0 0 0 0)) else (bif ((decide ((0 : Int) ≤ 0 ∧ 0 < (l1.length : Int))) && true) then (.to (.h1 1 (rd l1 0).a (rd l1 0).b (rd l1 0).c (rd l1 0).d (rd l1 0).e (rd l1 0).f)) else .stuck))) else .stuck)
theorem x4x (l0 : List R6) (l1 : List R6) : ∀ s, Xd prog (Zy prog 73) (widC l0 l1) (widC l0 l1 s) (Ww l0 l1 s)
 | .h0 v7 v8 aA aN aR bB bO bP => (lb (fun k0 => (lo fun o0 => (lo fun o1 => (lo fun o2 => (lo fun o3 => (sl z5j 20 [] ⟨[0], [], widN2, widM2⟩ ⟨[], [], []⟩ [true] (ww o3 (ww o2 (ww o1 (ww o2 (ww o0 (ww o2 (tt k0 nn))))))))))))) (fun k0 => (lr 80 3 [1, 1, 1, 1, 1, 1, 0] 1 3 [(4, (ii v7))] (sl z5j 15 [] ⟨[], [], [some [4]], []⟩ ⟨[], [], []⟩ [false] (tt k0 nn)))))
 | .h1 v5 aE bR bU bV dB dC => (lb (fun k0 => (lo fun o0 => (sl z5j 22 [] ⟨[0, 1], [], widN1, widM1⟩ ⟨[], [], []⟩ [true] (ww o0 (ww o0 (ww o0 (ww o0 (ww o0 (ww o0 (tt k0 nn)))))))))) (fun k0 => (sl z5j 35 [] ⟨[2], [], w4r, w4s⟩ ⟨[], [], []⟩ [false] (tt k0 nn))))
 | .h2 v7 v8 v9 v10 v11 v12 aA aN aR bB bO bP => (lb (fun k0 => (sl z5j 18 [] ⟨[0], [], widN3, widM3⟩ ⟨[], [], []⟩ [true] (tt k0 nn))) (fun k0 => (sl z5j 17 [] ⟨[0], [], w4r, w4s⟩ ⟨[], [], []⟩ [false] (tt k0 nn))))
 | .h3 v7 v8 v9 v10 v11 v12 v13 aA aN aR bB bO bP => (lb (fun k0 => (sl z5j 18 [] ⟨[0], [], widN4, widM4⟩ ⟨[], [], []⟩ [true] (tt k0 nn))) (fun k0 => (sl z5j 17 [] ⟨[0], [], widN2, widM2⟩ ⟨[], [], []⟩ [false] (tt k0 nn))))
 | .h4 v7 v8 v9 v10 v11 v12 v13 v14 aA aN aR bB bO bP => (lb (fun k0 => (lo fun o0 => (lo fun o1 => (lo fun o2 => (lo fun o3 => (sl z5j 20 [] ⟨[0], [], widN4, widM4⟩ ⟨[], [], []⟩ [true] (pp (pp (xr l1) (xw o3)) (ww o2 (ww o1 (ww o0 (tt k0 nn))))))))))) (fun k0 => (sl z5j 17 [] ⟨[0], [], widN3, widM3⟩ ⟨[], [], []⟩ [false] (tt k0 nn))))
theorem y8q (l0 : List R6) (l1 : List R6) : Xd prog (Zy prog 73) (widC l0 l1) (Zg prog 73 [(.dat l0.length (Zz l0)), (.dat l1.length (Zz l1))] true []) (z7p l0 l1) := (lo fun aS => (lb (fun k0 => (sl z5j 48 [] ⟨[1], [], w4r, w4s⟩ ⟨[], [], []⟩ [true] (pp (pp (xr l1) (xw aS)) (tt k0 (pp (pp (xr l1) (xw aS)) nn))))) (fun k0 => (lb (fun k1 => (sl z5j 55 [] ⟨[1], [], w4r, w4s⟩ ⟨[], [], []⟩ [false, true] (tt k1 (tt k0 (pp (pp (xr l1) (xw aS)) nn))))) (fun k1 => (lo fun o0 => (sl z5j 46 [] ⟨[0, 1], [], widN1, widM1⟩ ⟨[], [], []⟩ [false, false] (ww o0 (tt k1 (tt k0 (pp (pp (xr l1) (xw aS)) nn)))))))))))
theorem w4q (l0 : List R6) (l1 : List R6) (n : Nat) (vs : List AVal) (h : Yu (Ww l0 l1) n (z7p l0 l1) = .ret vs) : Ur prog (Zy prog 73) (Zg prog 73 [(.dat l0.length (Zz l0)), (.dat l1.length (Zz l1))] true []) vs := by
 have := Ze (x4x l0 l1) n _ (y8q l0 l1)
 rwa [h] at this
end Go.Am
namespace Go.Am
open Go.Proofs.Tryz
open Go.Proofs Go.Sort Go.Shelf Go.RowKit Go.Lib
def lsI (g : Int → Int → Int) : List Int → Int → Int
 | [], d => d
 | z :: l, d => lsI g l (g z d)
def wdZ (L1 : List R6) (x y : Int) (zs : List Int) (d : Int) : Int := lsI (fun z d => Xv d (z8t x y z L1)) zs d
def wdY (L1 : List R6) (x : Int) (ys zs : List Int) (d : Int) : Int := lsI (fun y d => wdZ L1 x y zs d) ys d
def wdX (L1 : List R6) (xs ys zs : List Int) (d : Int) : Int := lsI (fun x d => wdY L1 x ys zs d) xs d
def y8p (r h : R6) (x : Int) : List Int := w4i r.a r.b r.c r.d r.e r.f h.a h.b h.c h.d h.e h.f x
def wdF (h : R6) (L1 : List R6) : List R6 → Int → Int
 | [], d => d
 | r :: l, d => wdF h L1 l (wdX L1 (y8p r h 0) (y8p r h 1) (y8p r h 2) d)
def huF : List R6 → R6 → R6
 | [], h => h
 | r :: l, h => huF l ⟨Wa h.a r.a, Wa h.b r.b, Wa h.c r.c, Xv h.d r.d, Xv h.e r.e, Xv h.f r.f⟩
def x6v (L : List R6) : R6 := huF (L.drop 1) (rd L 0)
def smH (h : R6) : Bool := (decide (-20000 ≤ h.a) && (decide (-20000 ≤ h.b) && decide (-20000 ≤ h.c))) && (decide (h.d ≤ 20000) && (decide (h.e ≤ 20000) && decide (h.f ≤ 20000)))
def w4g (L0 L1 : List R6) : Int := wdF (x6v L1) L1 L0 0
def Ut (L0 L1 : List R6) : Bool := (Ya L1 == 0) && (decide (0 < L1.length) && (decide (L1.length ≤ 100000) && (decide (L0.length ≤ 100000) && smH (x6v L1))))
section
variable {L0 L1 : List R6} (h1 : 0 < L1.length ∧ L1.length ≤ 100000)
include h1
theorem w9w (v8 : Int) (xs ys zs : List Int) (i j : Nat) (hi : i < xs.length) (hj : j < ys.length) (hx : xs.length ≤ 100000) (hy : ys.length ≤ 100000) (hz : zs.length ≤ 100000) (g0 g1 g2 g3 g4 g5 : Int) : ∀ (k m : Nat) (d : Int), m + k = zs.length → ∃ N, ∀ M, Yu (Ww L0 L1) (M + N) (.to (.h4 d v8 xs ys zs (i : Int) (j : Int) (m : Int) g0 g1 g2 g3 g4 g5)) = Yu (Ww L0 L1) M (.to (.h3 (wdZ L1 (rd xs i) (rd ys j) (zs.drop m) d) v8 xs ys zs (i : Int) ((j + 1 : Nat) : Int) g0 g1 g2 g3 g4 g5))
 | 0, m, d, h => by
  have hw : IntKind.wrap .i64 ((j : Int) + 1) = ((j + 1 : Nat) : Int) := Zj (by omega)
  refine ⟨1, fun M => ?_⟩
  rw [Zw, List.drop_eq_nil_of_le (by omega)]
  simp (disch := omega) only [Ww, Zs, hw, cond_false]; rfl
 | k + 1, m, d, h => by
  have hm : m < zs.length := by omega
  have ho : ∀ x y z, Uq x y z L1 = true := fun x y z => by unfold Uq; rw [Yd h1.1, Yp h1.2]; rfl
  have hw : IntKind.wrap .i64 ((m : Int) + 1) = ((m + 1 : Nat) : Int) := Zj (by omega)
  obtain ⟨N, hN⟩ := w9w v8 xs ys zs i j hi hj hx hy hz g0 g1 g2 g3 g4 g5 k (m + 1) (Xv d (z8t (rd xs i) (rd ys j) (rd zs m) L1)) (by omega)
  refine ⟨N + 1, fun M => ?_⟩
  rw [← Nat.add_assoc, Zw, Yg hm]
  simp (disch := omega) only [Ww, Yv, Yj, Zk, Zc, ho, hw, Bool.and_true, cond_true]
  exact hN M
theorem w9x (v8 : Int) (xs ys zs : List Int) (i : Nat) (hi : i < xs.length) (hx : xs.length ≤ 100000) (hy : ys.length ≤ 100000) (hz : zs.length ≤ 100000) (g0 g1 g2 g3 g4 g5 : Int) : ∀ (k j : Nat) (d : Int), j + k = ys.length → ∃ N, ∀ M, Yu (Ww L0 L1) (M + N) (.to (.h3 d v8 xs ys zs (i : Int) (j : Int) g0 g1 g2 g3 g4 g5)) = Yu (Ww L0 L1) M (.to (.h2 (wdY L1 (rd xs i) (ys.drop j) zs d) v8 xs ys zs ((i + 1 : Nat) : Int) g0 g1 g2 g3 g4 g5))
 | 0, j, d, h => by
  have hw : IntKind.wrap .i64 ((i : Int) + 1) = ((i + 1 : Nat) : Int) := Zj (by omega)
  refine ⟨1, fun M => ?_⟩
  rw [Zw, List.drop_eq_nil_of_le (by omega)]
  simp (disch := omega) only [Ww, Zs, hw, cond_false]; rfl
 | k + 1, j, d, h => by
  have hj : j < ys.length := by omega
  obtain ⟨N, hN⟩ := w9x v8 xs ys zs i hi hx hy hz g0 g1 g2 g3 g4 g5 k (j + 1) (wdZ L1 (rd xs i) (rd ys j) zs d) (by omega)
  obtain ⟨N', hN'⟩ := w9w h1 v8 xs ys zs i j hi hj hx hy hz g0 g1 g2 g3 g4 g5 zs.length 0 d (Nat.zero_add _)
  refine ⟨N + N' + 1, fun M => ?_⟩
  rw [← Nat.add_assoc, Zw, Yg hj]
  simp (disch := omega) only [Ww, Yv, cond_true]
  rw [← Nat.add_assoc]
  rw [z1p, List.drop_zero] at hN'
  rw [hN']
  exact hN M
theorem w9y (i0 : Nat) (hi0 : i0 ≤ 1000000) (xs ys zs : List Int) (hx : xs.length ≤ 100000) (hy : ys.length ≤ 100000) (hz : zs.length ≤ 100000) (g0 g1 g2 g3 g4 g5 : Int) : ∀ (k i : Nat) (d : Int), i + k = xs.length → ∃ N, ∀ M, Yu (Ww L0 L1) (M + N) (.to (.h2 d (i0 : Int) xs ys zs (i : Int) g0 g1 g2 g3 g4 g5)) = Yu (Ww L0 L1) M (.to (.h0 (wdX L1 (xs.drop i) ys zs d) ((i0 + 1 : Nat) : Int) g0 g1 g2 g3 g4 g5))
 | 0, i, d, h => by
  have hw : IntKind.wrap .i64 ((i0 : Int) + 1) = ((i0 + 1 : Nat) : Int) := Zj (by omega)
  refine ⟨1, fun M => ?_⟩
  rw [Zw, List.drop_eq_nil_of_le (by omega)]
  simp (disch := omega) only [Ww, Zs, hw, cond_false]; rfl
 | k + 1, i, d, h => by
  have hi : i < xs.length := by omega
  obtain ⟨N, hN⟩ := w9y i0 hi0 xs ys zs hx hy hz g0 g1 g2 g3 g4 g5 k (i + 1) (wdY L1 (rd xs i) ys zs d) (by omega)
  obtain ⟨N', hN'⟩ := w9x h1 (i0 : Int) xs ys zs i hi hx hy hz g0 g1 g2 g3 g4 g5 ys.length 0 d (Nat.zero_add _)
  refine ⟨N + N' + 1, fun M => ?_⟩
  rw [← Nat.add_assoc, Zw, Yg hi]
  simp (disch := omega) only [Ww, Yv, cond_true]
  rw [← Nat.add_assoc]
  rw [z1p, List.drop_zero] at hN'
  rw [hN']
  exact hN M
end
theorem z3j (lo hi p q : Int) (h : w0y lo hi p q = true) : (w4j lo hi p q).length ≤ 50000 := by
 simp only [w0y, Bool.and_eq_true, decide_eq_true_eq] at h
 have h1 := x4h hi q
 have h2 := x4i lo p
 unfold w4j
 rw [List.length_append, y3c]
 simp only [List.length_cons, List.length_nil]
 omega
theorem x2z {r h : R6} (hh : smH h = true) : w0y r.a r.d h.a h.d = true ∧ w0y r.b r.e h.b h.e = true ∧ w0y r.c r.f h.c h.f = true := by
 simp only [smH, w0y, Bool.and_eq_true, decide_eq_true_eq] at hh ⊢
 omega
theorem z3k {r h : R6} (hh : smH h = true) (x : Int) : (y8p r h x).length ≤ 100000 := by
 obtain ⟨p0, p1, p2⟩ := x2z (r := r) hh
 unfold y8p w4i
 refine Nat.le_trans (z0c _) ?_
 have l0 := z3j _ _ _ _ p0
 have l1 := z3j _ _ _ _ p1
 have l2 := z3j _ _ _ _ p2
 cases (x == 0) <;> cases (x == 1) <;> simp only [cond_true, cond_false] <;> omega
theorem w0z {r h : R6} (hh : smH h = true) (x : Int) : Jw r.a r.b r.c r.d r.e r.f h.a h.b h.c h.d h.e h.f x = true := by
 obtain ⟨p0, p1, p2⟩ := x2z (r := r) hh
 unfold Jw
 rw [p0, p1, p2]
 cases (x == 0) <;> cases (x == 1) <;> rfl
theorem v0a {L0 L1 : List R6} (h1 : 0 < L1.length ∧ L1.length ≤ 100000) (h0 : L0.length ≤ 100000) {h : R6} (hh : smH h = true) : ∀ (k i : Nat) (d : Int), i + k = L0.length → ∃ N, Yu (Ww L0 L1) N (.to (.h0 d (i : Int) h.a h.b h.c h.d h.e h.f)) = .ret [.int .i64 (wdF h L1 (L0.drop i) d)]
 | 0, i, d, e => by
  refine ⟨1, ?_⟩
  rw [Zw, List.drop_eq_nil_of_le (by omega)]
  simp (disch := omega) only [Ww, Zs, cond_false]; rfl
 | k + 1, i, d, e => by
  have hi : i < L0.length := by omega
  obtain ⟨N, hN⟩ := v0a h1 h0 hh k (i + 1) (wdX L1 (y8p (rd L0 i) h 0) (y8p (rd L0 i) h 1) (y8p (rd L0 i) h 2) d) (by omega)
  obtain ⟨N', hN'⟩ := w9y h1 (L0 := L0) i (by omega) (y8p (rd L0 i) h 0) (y8p (rd L0 i) h 1) (y8p (rd L0 i) h 2) (z3k hh 0) (z3k hh 1) (z3k hh 2) h.a h.b h.c h.d h.e h.f (y8p (rd L0 i) h 0).length 0 d (Nat.zero_add _)
  refine ⟨N + N' + 1, ?_⟩
  rw [Zw, Yg hi]
  simp (disch := omega) only [Ww, Yv, Yj, Zk, w0z hh, Bool.and_true, cond_true]
  rw [z1p, List.drop_zero] at hN'
  unfold y8p at hN'
  rw [hN']
  exact hN
theorem w9z {L0 L1 : List R6} (h1 : 0 < L1.length ∧ L1.length ≤ 100000) : ∀ (k i : Nat) (h : R6), i + k = L1.length → ∃ N, ∀ M, Yu (Ww L0 L1) (M + N) (.to (.h1 (i : Int) h.a h.b h.c h.d h.e h.f)) = Yu (Ww L0 L1) M (.to (.h0 0 0 (huF (L1.drop i) h).a (huF (L1.drop i) h).b (huF (L1.drop i) h).c (huF (L1.drop i) h).d (huF (L1.drop i) h).e (huF (L1.drop i) h).f))
 | 0, i, h, e => by
  refine ⟨1, fun M => ?_⟩
  rw [Zw, List.drop_eq_nil_of_le (by omega)]
  simp (disch := omega) only [Ww, Zs, cond_false]; rfl
 | k + 1, i, h, e => by
  have hi : i < L1.length := by omega
  have hw : IntKind.wrap .i64 ((i : Int) + 1) = ((i + 1 : Nat) : Int) := Zj (by omega)
  obtain ⟨N, hN⟩ := w9z (L0 := L0) h1 k (i + 1) ⟨Wa h.a (rd L1 i).a, Wa h.b (rd L1 i).b, Wa h.c (rd L1 i).c, Xv h.d (rd L1 i).d, Xv h.e (rd L1 i).e, Xv h.f (rd L1 i).f⟩ (by omega)
  refine ⟨N + 1, fun M => ?_⟩
  rw [← Nat.add_assoc, Zw, Yg hi]
  simp (disch := omega) only [Ww, Yv, Yj, Zk, hw, Bool.and_true, cond_true]
  exact hN M
theorem v3v (L0 L1 : List R6) (h : Ut L0 L1 = true) : ∃ N, Yu (Ww L0 L1) N (z7p L0 L1) = .ret [.int .i64 (w4g L0 L1)] := by
 simp only [Ut, Bool.and_eq_true, decide_eq_true_eq] at h
 obtain ⟨hc, h1, h2, h3, h4⟩ := h
 obtain ⟨N, hN⟩ := v0a (L0 := L0) ⟨h1, h2⟩ h3 h4 L0.length 0 0 (Nat.zero_add _)
 obtain ⟨N', hN'⟩ := w9z (L0 := L0) ⟨h1, h2⟩ (L1.length - 1) 1 (rd L1 0) (by omega)
 refine ⟨N + N', ?_⟩
 have hk : (Ya L1 != 0) = false := by simp [bne, hc]
 have he : ((L1.length : Int) == 0) = false := beq_eq_false_iff_ne.2 (by omega)
 unfold z7p
 simp (disch := omega) only [Zc, show ∀ l, Xb l = true from fun _ => rfl, hk, he, Yj, Bool.and_true, cond_true, cond_false]
 rw [show ((1 : Nat) : Int) = 1 from rfl] at hN'
 rw [hN']
 exact hN
def fWid : List AVal → Option (AVal × Bool)
 | [a0, a1] => match asL R6 a0, asL R6 a1 with
  | some (L0, g0, n0), some (L1, g1, n1) => some (.int .i64 (w4g L0 L1), isT R6 n0 g0 && (isT R6 n1 g1 && (Ut L0 L1)))
  | _, _ => none
 | _ => none
theorem v7j {S : Specs} (hS : Zu prog S) : Zu prog (S.with w1l fWid) := by
 refine z0x hS (by kernel_rfl) fun args v h => ?_
 unfold fWid at h
 split at h
 ·rename_i a0 a1
  split at h
  ·rename_i L0 g0 n0 L1 g1 n1 e0 e1
   simp only [Option.some.injEq, Prod.mk.injEq, Bool.and_eq_true] at h
   obtain ⟨rfl, ho0, ho1, hw⟩ := h
   obtain ⟨N, hN⟩ := v3v L0 L1 hw
   exact ⟨_, _, (.cons (asL_le e0 ho0) (.cons (asL_le e1 ho1) .nil)), rfl, w4q L0 L1 N _ hN, 3, rfl⟩
  ·cases h
 ·cases h
def Ef : Specs := (Ee.with w1l fWid)
theorem z7m : Zu prog Ef := (v7j z5j)
end Go.Am
namespace Go.Am
open Go.Proofs.Tryz
open Go.Proofs
inductive rlvS where
 | h0 (v6 : Int) (v7 : Int)
def rlvC (l0 : List R6) (x1 : Int) : rlvS → Cfg
 | .h0 v6 v7 => ⟨⟨51, 0, true⟩, none, (Za prog 32 [1, 1, 1, 1, 1, 1, 0, 1, 0, 0] 0), none, (Zy prog 16), ⟨Yb [(0, (.dat l0.length (Zz l0))), (1, (ii x1)), (6, (ii v6)), (7, (ii v7))], Vq [] 0, 0, [], true⟩, [], .leaf⟩
def x9w : List (Option (List Nat)) := [some [0, 1, 6, 7]]
def x9x : List (Option (List Nat)) := []
def z3g (l0 : List R6) (x1 : Int) : rlvS → Xj rlvS
 | .h0 v6 v7 => (bif (decide (v7 ≤ 9)) then (bif (z9m (cvT l0) v7) then (bif ((Qc (cvT l0) v7) != 0) then (.to (.h0 v6 (IntKind.wrap .i64 (v7 + 1)))) else (bif (decide ((((Vy (cvT l0) v7).length : Nat) : Int) > 40)) then (.to (.h0 v6 (IntKind.wrap .i64 (v7 + 1)))) else (bif (Ut (cvT (Vy (cvT l0) v7)) (cvT l0)) then (bif (decide ((w4g (cvT (Vy (cvT l0) v7)) (cvT l0)) ≤ x1)) then (.to (.h0 v7 (IntKind.wrap .i64 (v7 + 1)))) else (.to (.h0 v6 (IntKind.wrap .i64 (v7 + 1))))) else .stuck))) else .stuck) else (.ret [(.int .i64 v6), (.int .i64 0)]))
def z8e (l0 : List R6) (x1 : Int) : Xj rlvS := (bif (Xb (cvT l0)) then (bif ((Ya (cvT l0)) != 0) then (.ret [(.int .i64 0), (.int .i64 (Ya (cvT l0)))]) else (bif (decide (x1 < 0)) then (.ret [(.int .i64 0), (.int .i64 2)]) else (bif (decide (x1 > 1000)) then (.ret [(.int .i64 0), (.int .i64 2)]) else (bif ((l0.length : Int) == 0) then (.ret [(.int .i64 0), (.int .i64 6)]) else (bif (decide ((l0.length : Int) > 40)) then (.ret [(.int .i64 0), (.int .i64 4)]) else (.to (.h0 0 1))))))) else .stuck)
theorem x5x (l0 : List R6) (x1 : Int) : ∀ s, Xd prog (Zy prog 32) (rlvC l0 x1) (rlvC l0 x1 s) (z3g l0 x1 s)
 | .h0 v6 v7 => (lb (fun k0 => (lo fun aF => (lb (fun k1 => (sl z7m 40 [] ⟨[], [], x9w, x9x⟩ ⟨[], [], []⟩ (trs 5 []) (tt k1 (pp (pp (xr l0) (xw aF)) (tt k0 nn))))) (fun k1 => (lb (fun k2 => (sl z7m 40 [] ⟨[], [], x9w, x9x⟩ ⟨[], [], []⟩ [true, false, false, false, true] (tt k2 (tt k1 (pp (pp (xr l0) (xw aF)) (tt k0 nn)))))) (fun k2 => (lo fun cM => (lb (fun k3 => (sl z7m 54 [] ⟨[], [], x9w, x9x⟩ ⟨[], [], []⟩ [true, false, false, false, false, true] (tt k3 (pp (pp (xI R6 (Vy (cvT l0) v7).length (Zz (Vy (cvT l0) v7))) (pp (xr l0) (xw cM))) (tt k2 (tt k1 (pp (pp (xr l0) (xw aF)) (tt k0 nn)))))))) (fun k3 => (sl z7m 51 [] ⟨[], [], x9w, x9x⟩ ⟨[], [], []⟩ [true, false, false, false, false, false] (tt k3 (pp (pp (xI R6 (Vy (cvT l0) v7).length (Zz (Vy (cvT l0) v7))) (pp (xr l0) (xw cM))) (tt k2 (tt k1 (pp (pp (xr l0) (xw aF)) (tt k0 nn)))))))))))))))) (fun k0 => (lr 51 3 [1, 1, 1, 1, 1, 1, 0] 1 16 [(4, (ii v6)), (5, (ii 0))] (sl z7m 14 [] ⟨[], [], [some [4, 5]], []⟩ ⟨[], [], []⟩ [false] (tt k0 nn)))))
theorem y9v (l0 : List R6) (x1 : Int) : Xd prog (Zy prog 32) (rlvC l0 x1) (Zg prog 32 [(.dat l0.length (Zz l0)), (.int .i64 x1)] true []) (z8e l0 x1) := (lo fun aS => (lb (fun k0 => (lr 51 32 [1, 0, 1, 0, 0] 1 16 [(4, (ii 0)), (5, (ii (Ya (cvT l0))))] (sl z7m 20 [] ⟨[], [], [some [4, 5]], []⟩ ⟨[], [], []⟩ [true] (pp (pp (xr l0) (xw aS)) (tt k0 (pp (pp (xr l0) (xw aS)) nn)))))) (fun k0 => (lb (fun k1 => (lr 51 32 [1, 1, 0, 1, 0, 0] 1 16 [(4, (ii 0)), (5, (ii 2))] (sl z7m 30 [] ⟨[], [], [some [4, 5]], []⟩ ⟨[], [], []⟩ [false, true, true, true] (tt k1 (tt k0 (pp (pp (xr l0) (xw aS)) nn)))))) (fun k1 => (lb (fun k2 => (lr 51 32 [1, 1, 0, 1, 0, 0] 1 16 [(4, (ii 0)), (5, (ii 2))] (sl z7m 30 [] ⟨[], [], [some [4, 5]], []⟩ ⟨[], [], []⟩ [false, false, false, true] (tt k2 (tt k1 (tt k0 (pp (pp (xr l0) (xw aS)) nn))))))) (fun k2 => (lb (fun k3 => (lr 51 32 [1, 1, 1, 0, 1, 0, 0] 1 16 [(4, (ii 0)), (5, (ii 6))] (sl z7m 39 [] ⟨[], [], [some [4, 5]], []⟩ ⟨[], [], []⟩ [false, false, false, false, true] (tt k3 (tt k2 (tt k1 (tt k0 (pp (pp (xr l0) (xw aS)) nn)))))))) (fun k3 => (lb (fun k4 => (lr 51 32 [1, 1, 1, 1, 0, 1, 0, 0] 1 16 [(4, (ii 0)), (5, (ii 4))] (sl z7m 48 [] ⟨[], [], [some [4, 5]], []⟩ ⟨[], [], []⟩ [false, false, false, false, false, true] (tt k4 (tt k3 (tt k2 (tt k1 (tt k0 (pp (pp (xr l0) (xw aS)) nn))))))))) (fun k4 => (sl z7m 55 [] ⟨[], [], x9w, x9x⟩ ⟨[], [], []⟩ [false, false, false, false, false, false] (tt k4 (tt k3 (tt k2 (tt k1 (tt k0 (pp (pp (xr l0) (xw aS)) nn))))))))))))))))))
theorem w5y (l0 : List R6) (x1 : Int) (n : Nat) (vs : List AVal) (h : Yu (z3g l0 x1) n (z8e l0 x1) = .ret vs) : Ur prog (Zy prog 32) (Zg prog 32 [(.dat l0.length (Zz l0)), (.int .i64 x1)] true []) vs := by
 have := Ze (x5x l0 x1) n _ (y9v l0 x1)
 rwa [h] at this
end Go.Am
namespace Go.Am
open Go.Proofs.Tryz
open Go.Proofs Go.Sort Go.Shelf Go.RowKit Go.Lib
def v5g (L : List R6) (d k : Int) : Bool := (Qc L k == 0) && (!decide (((Vy L k).length : Int) > 40) && decide (w4g (Vy L k) L ≤ d))
def v5h (L : List R6) (d : Int) : Nat → Int → Int → Int
 | 0, _, b => b
 | n + 1, k, b => v5h L d n (k + 1) (bif v5g L d k then k else b)
def z2r (L : List R6) (d : Int) : Int := bif Ya L != 0 then Ya L else bif decide (d < 0) || decide (d > 1000) then 2 else bif ((L.length : Int) == 0) then 6 else bif decide ((L.length : Int) > 40) then 4 else 0
def y2j (L : List R6) (d : Int) : Int := bif z2r L d == 0 then v5h L d 9 1 0 else 0
def rlvO (L : List R6) : Nat → Int → Bool
 | 0, _ => true
 | n + 1, k => (bif Qc L k != 0 then true else bif decide (((Vy L k).length : Int) > 40) then true else Ut (Vy L k) L) && rlvO L n (k + 1)
def Qe (L : List R6) (d : Int) : Bool := bif z2r L d == 0 then rlvO L 9 1 else true
theorem v1i {L : List R6} {d : Int} : ∀ (n : Nat) (k b : Int), k + n = 10 → 1 ≤ k → rlvO L n k = true → ∃ N, Yu (z3g L d) N (.to (.h0 b k)) = .ret [.int .i64 (v5h L d n k b), .int .i64 0]
 | 0, k, b, h, hk, ho => by
  refine ⟨1, ?_⟩
  rw [Zw]
  have : decide (k ≤ 9) = false := decide_eq_false (by omega)
  simp only [z3g, this, cond_false]; rfl
 | n + 1, k, b, h, hk, ho => by
  simp only [rlvO, Bool.and_eq_true] at ho
  obtain ⟨o1, o2⟩ := ho
  obtain ⟨N, hN⟩ := v1i (L := L) (d := d) n (k + 1) (bif v5g L d k then k else b) (by omega) (by omega) o2
  have hw : IntKind.wrap .i64 (k + 1) = k + 1 := Zj (by omega)
  have hc : decide (k ≤ 9) = true := decide_eq_true (by omega)
  refine ⟨N + 1, ?_⟩
  have e : z3g L d (.h0 b k) = .to (.h0 (bif v5g L d k then k else b) (k + 1)) := by
   have hne : (Qc L k != 0) = !(Qc L k == 0) := rfl
   rw [hne] at o1
   simp only [z3g, hc, hw, hne, Zc, show ∀ l k, z9m l k = true from fun _ _ => rfl, cond_true]
   unfold v5g
   rcases Zn (Qc L k == 0) with q | q
   ·rcases Zn (decide (((Vy L k).length : Int) > 40)) with q2 | q2
    ·rw [q, q2]; rfl
    ·rw [q, q2] at o1
     rw [q, q2]
     simp only [Bool.not_true, Bool.not_false, cond_false] at o1
     rw [o1]
     cases decide (w4g (Vy L k) L ≤ d) <;> rfl
   ·rw [q]; rfl
  rw [Zw, e]
  exact hN
theorem v5f (L : List R6) (d : Int) (h : Qe L d = true) : ∃ N, Yu (z3g L d) N (z8e L d) = .ret [.int .i64 (y2j L d), .int .i64 (z2r L d)] := by
 have hk : (Ya L != 0) = !(Ya L == 0) := rfl
 unfold Qe z2r at h
 unfold z8e y2j z2r
 rw [hk] at h
 simp only [Zc, show ∀ l, Xb l = true from fun _ => rfl, cond_true, hk]
 rcases Zn (Ya L == 0) with a | a <;> rcases Zn (decide (d < 0)) with b | b <;> rcases Zn (decide (d > 1000)) with c | c <;> rcases Zn ((L.length : Int) == 0) with e | e <;> rcases Zn (decide ((L.length : Int) > 40)) with f | f <;> rw [a, b, c, e, f] at h ⊢ <;>
  simp only [Bool.not_true, Bool.not_false, Bool.or_true, Bool.or_false, Bool.true_or, cond_true, cond_false, a] at h ⊢ <;> first | exact v1i 9 1 0 (by omega) (by omega) h | exact ⟨0, Zm _ _ _⟩
def fRlv : List AVal → Option (AVal × Bool)
 | [a0, .int .i64 x1] => match asL R6 a0 with
  | some (L0, g0, n0) => some (.tup [.int .i64 (y2j L0 x1), .int .i64 (z2r L0 x1)], isT R6 n0 g0 && (Qe L0 x1))
  | _ => none
 | _ => none
theorem v7u {S : Specs} (hS : Zu prog S) : Zu prog (S.with y6v fRlv) := by
 refine z0x hS (by kernel_rfl) fun args v h => ?_
 unfold fRlv at h
 split at h
 ·rename_i a0 x1
  split at h
  ·rename_i L0 g0 n0 e0
   simp only [Option.some.injEq, Prod.mk.injEq, Bool.and_eq_true] at h
   obtain ⟨rfl, ho0, hw⟩ := h
   obtain ⟨N, hN⟩ := v5f L0 x1 hw
   exact ⟨_, _, (.cons (asL_le e0 ho0) (.cons (.refl _) .nil)), rfl, w5y L0 x1 N _ hN, 3, rfl⟩
  ·cases h
 ·cases h
def Eg : Specs := (Ef.with y6v fRlv)
theorem v9m : Zu prog Eg := (v7u z7m)
end Go.Am
namespace Go.Am
open Go.Proofs
end Go.Am
namespace Go.Am
open Go.Proofs Go.Sort Go.Shelf Go.RowKit Go.Lib
structure Qg (β : Type) where
 a : Int
 b : Int
 s : List β
def ptL {β γ : Type} (inB : β → γ → Prop) (s : List β) (q : γ) : Prop := ∃ r ∈ s, inB r q
theorem y4a {β γ : Type} (inB : β → γ → Prop) (q : γ) : ¬ ptL inB [] q := fun ⟨_, h, _⟩ => by cases h
structure Sem (β γ : Type) where
 can : List β → Prop
 inB : β → γ → Prop
 uniq : ∀ s t, can s → can t → (∀ q, ptL inB s q ↔ ptL inB t q) → s = t
 some : ∀ s, can s → s ≠ [] → ∃ q, ptL inB s q
 nil : can []
section
variable {β γ : Type} (M : Sem β γ)
def OkS (g : Qg β) : Prop := g.a < g.b ∧ M.can g.s ∧ g.s ≠ []
def Nxt (g h : Qg β) : Prop := g.b ≤ h.a ∧ (g.b = h.a → g.s ≠ h.s)
inductive z0z : List (Qg β) → Prop
 | nil : z0z []
 | one (g : Qg β) (h : OkS M g) : z0z [g]
 | cons (g h : Qg β) (r : List (Qg β)) (ok : OkS M g) (nx : Nxt g h) (k : z0z (h :: r)) : z0z (g :: h :: r)
def ptG (G : List (Qg β)) (x : Int) (q : γ) : Prop := ∃ g ∈ G, g.a ≤ x ∧ x < g.b ∧ ptL M.inB g.s q
variable {M}
theorem z0z.head {g : Qg β} {r : List (Qg β)} (h : z0z M (g :: r)) : OkS M g := by cases h <;> assumption
theorem z0z.tail {g : Qg β} {r : List (Qg β)} (h : z0z M (g :: r)) : z0z M r := by
 cases h with
 | one => exact .nil
 | cons _ _ _ _ _ k => exact k
theorem z0z.later {g : Qg β} {r : List (Qg β)} (h : z0z M (g :: r)) : ∀ k ∈ r, g.b ≤ k.a := by
 induction r generalizing g with
 | nil => intro k hk; cases hk
 | cons k r ih =>
  cases h with
  | cons _ _ _ ok nx kk =>
   intro m hm
   rcases List.mem_cons.1 hm with rfl | hm
   ·exact nx.1
   ·have h1 := ih kk m hm
    have h2 := kk.head.1
    have h3 := nx.1
    omega
theorem z0z.all {G : List (Qg β)} (h : z0z M G) : ∀ g ∈ G, OkS M g := by
 induction G with
 | nil => intro g hg; cases hg
 | cons k r ih =>
  intro g hg
  rcases List.mem_cons.1 hg with rfl | hg
  ·exact h.head
  ·exact ih h.tail g hg
theorem z0z.before {G : List (Qg β)} {g : Qg β} (k : z0z M (G ++ [g])) : ∀ m ∈ G, m.b ≤ g.a := by
 induction G with
 | nil => intro m hm; cases hm
 | cons m r ih =>
  intro n hn
  rcases List.mem_cons.1 hn with rfl | hn
  ·exact k.later g (by simp)
  ·exact ih k.tail n hn
theorem z0z.snoc {G : List (Qg β)} {g h : Qg β} (k : z0z M (G ++ [g])) (ok : OkS M h) (nx : Nxt g h) : z0z M (G ++ [g] ++ [h]) := by
 induction G with
 | nil => exact .cons g h [] k.head nx (.one h ok)
 | cons m r ih =>
  have i := ih k.tail
  cases r with
  | nil =>
   cases k with
   | cons _ _ _ ok1 nx1 k1 => exact .cons m g [h] ok1 nx1 i
  | cons m2 r =>
   cases k with
   | cons _ _ _ ok1 nx1 k1 => exact .cons m m2 _ ok1 nx1 i
theorem z0z.stretch {G : List (Qg β)} {g : Qg β} {x : Int} (k : z0z M (G ++ [g])) (hx : g.b ≤ x) : z0z M (G ++ [⟨g.a, x, g.s⟩]) := by
 induction G with
 | nil =>
  have := k.head
  exact .one _ ⟨by have := this.1; show g.a < x; omega, this.2⟩
 | cons m r ih =>
  have i := ih k.tail
  cases r with
  | nil =>
   cases k with
   | cons _ _ _ ok1 nx1 k1 => exact .cons m _ [] ok1 nx1 i
  | cons m2 r =>
   cases k with
   | cons _ _ _ ok1 nx1 k1 => exact .cons m m2 _ ok1 nx1 i
theorem z4l (g : Qg β) (G : List (Qg β)) (x : Int) (q : γ) : ptG M (g :: G) x q ↔ (g.a ≤ x ∧ x < g.b ∧ ptL M.inB g.s q) ∨ ptG M G x q := by
 constructor
 ·rintro ⟨k, hk, h⟩
  rcases List.mem_cons.1 hk with rfl | hk
  ·exact .inl h
  ·exact .inr ⟨k, hk, h⟩
 ·rintro (h | ⟨k, hk, h⟩)
  ·exact ⟨g, by simp, h⟩
  ·exact ⟨k, by simp [hk], h⟩
theorem y2n (G H : List (Qg β)) (x : Int) (q : γ) : ptG M (G ++ H) x q ↔ ptG M G x q ∨ ptG M H x q := by
 constructor
 ·rintro ⟨k, hk, h⟩
  rcases List.mem_append.1 hk with hk | hk
  ·exact .inl ⟨k, hk, h⟩
  ·exact .inr ⟨k, hk, h⟩
 ·rintro (⟨k, hk, h⟩ | ⟨k, hk, h⟩)
  ·exact ⟨k, List.mem_append.2 (.inl hk), h⟩
  ·exact ⟨k, List.mem_append.2 (.inr hk), h⟩
theorem z0z.low {g : Qg β} {r : List (Qg β)} (h : z0z M (g :: r)) {x : Int} {q : γ} (hp : ptG M (g :: r) x q) : g.a ≤ x := by
 rcases (z4l g r x q).1 hp with hp | ⟨k, hk, h1, _⟩
 ·exact hp.1
 ·have := h.later k hk
  have := h.head.1
  omega
theorem z0z.rest {g : Qg β} {r : List (Qg β)} (h : z0z M (g :: r)) (x : Int) (q : γ) : ptG M r x q ↔ g.b ≤ x ∧ ptG M (g :: r) x q := by
 constructor
 ·rintro ⟨k, hk, h1, h2⟩
  have := h.later k hk
  exact ⟨by omega, k, by simp [hk], h1, h2⟩
 ·rintro ⟨hx, hp⟩
  rcases (z4l g r x q).1 hp with hp | hp
  ·omega
  ·exact hp
theorem z0z.sec0 {g : Qg β} {r : List (Qg β)} (h : z0z M (g :: r)) {x : Int} (hx : g.a ≤ x ∧ x < g.b) (q : γ) : ptG M (g :: r) x q ↔ ptL M.inB g.s q := by
 rw [z4l]
 constructor
 ·rintro (h1 | ⟨k, hk, h1, _⟩)
  ·exact h1.2.2
  ·have := h.later k hk; omega
 ·exact fun h1 => .inl ⟨hx.1, hx.2, h1⟩
theorem y7w : ∀ (G H : List (Qg β)), z0z M G → z0z M H → (∀ x q, ptG M G x q ↔ ptG M H x q) → G = H
 | [], [], _, _, _ => rfl
 | [], h :: H, _, hH, e => by
  obtain ⟨q, hq⟩ := M.some _ hH.head.2.1 hH.head.2.2
  have := (e h.a q).2 ((hH.sec0 ⟨Int.le_refl _, hH.head.1⟩ q).2 hq)
  obtain ⟨k, hk, _⟩ := this; cases hk
 | g :: G, [], hG, _, e => by
  obtain ⟨q, hq⟩ := M.some _ hG.head.2.1 hG.head.2.2
  have := (e g.a q).1 ((hG.sec0 ⟨Int.le_refl _, hG.head.1⟩ q).2 hq)
  obtain ⟨k, hk, _⟩ := this; cases hk
 | g :: G, h :: H, hG, hH, e => by
  have og := hG.head
  have oh := hH.head
  obtain ⟨q, hq⟩ := M.some _ og.2.1 og.2.2
  obtain ⟨p, hp⟩ := M.some _ oh.2.1 oh.2.2
  have a1 : h.a ≤ g.a := hH.low ((e g.a q).1 ((hG.sec0 ⟨Int.le_refl _, og.1⟩ q).2 hq))
  have a2 : g.a ≤ h.a := hG.low ((e h.a p).2 ((hH.sec0 ⟨Int.le_refl _, oh.1⟩ p).2 hp))
  have a3 : g.a = h.a := by omega
  have s1 : g.s = h.s := M.uniq _ _ og.2.1 oh.2.1 fun q => by
   rw [← hG.sec0 (x := g.a) ⟨Int.le_refl _, og.1⟩, e, hH.sec0 (x := g.a) ⟨by omega, by have := oh.1; omega⟩]
  have key : ∀ (g h : Qg β) (G H : List (Qg β)), z0z M (g :: G) → z0z M (h :: H) → (∀ x q, ptG M (g :: G) x q ↔ ptG M (h :: H) x q) → g.a = h.a → g.s = h.s → ¬ g.b < h.b := fun g h G H hG hH e ea es hlt => by
   have og := hG.head
   have oh := hH.head
   have at_ : ∀ q, ptG M (g :: G) g.b q ↔ ptL M.inB h.s q := fun q => by
    rw [e, hH.sec0 ⟨by have := og.1; omega, hlt⟩]
   obtain ⟨q, hq⟩ := M.some _ oh.2.1 oh.2.2
   have := (hG.rest g.b q).2 ⟨Int.le_refl _, (at_ q).2 hq⟩
   cases hG with
   | one => obtain ⟨k, hk, _⟩ := this; cases hk
   | cons _ k r ok nx kk =>
    have hk : k.a ≤ g.b := kk.low this
    have hk2 : g.b = k.a := by have := nx.1; omega
    refine nx.2 hk2 ?_
    rw [es]
    refine M.uniq _ _ oh.2.1 kk.head.2.1 fun p => ?_
    rw [← at_, ← kk.sec0 (x := g.b) ⟨by omega, by have := kk.head.1; omega⟩]
    constructor
    ·exact fun hp => ((z0z.cons g k r ok nx kk).rest g.b p).2 ⟨Int.le_refl _, hp⟩
    ·exact fun hp => (((z0z.cons g k r ok nx kk).rest g.b p).1 hp).2
  have b1 := key g h G H hG hH e a3 s1
  have b2 := key h g H G hH hG (fun x q => (e x q).symm) a3.symm s1.symm
  have b3 : g.b = h.b := by omega
  have eg : g = h := by
   obtain ⟨ga, gb, gs⟩ := g
   obtain ⟨ha, hb, hs⟩ := h
   simp only at a3 b3 s1
   subst_vars; rfl
  subst eg
  congr 1
  exact y7w G H hG.tail hH.tail fun x q => by rw [hG.rest, hH.rest, e]
end
namespace Dim
variable {α β : Type} (D : Dim α β)
def flat (G : List (Qg β)) : List α := G.flatMap fun g => g.s.map (D.put g.a g.b)
theorem flat_append (G H : List (Qg β)) : D.flat (G ++ H) = D.flat G ++ D.flat H := by simp [flat]
theorem flat_one (g : Qg β) : D.flat [g] = g.s.map (D.put g.a g.b) := by simp [flat]
def inA {γ : Type} (inB : β → γ → Prop) (r : α) (p : Int × γ) : Prop := D.lo r ≤ p.1 ∧ p.1 < D.hi r ∧ inB (D.pr r) p.2
variable {D}
theorem y4o (hD : D.Fair) {γ : Type} (M : Sem β γ) (G : List (Qg β)) (x : Int) (q : γ) : ptL (D.inA M.inB) (D.flat G) (x, q) ↔ ptG M G x q := by
 constructor
 ·rintro ⟨r, hr, h⟩
  obtain ⟨g, hg, hr⟩ := List.mem_flatMap.1 hr
  obtain ⟨b, hb, rfl⟩ := List.mem_map.1 hr
  unfold inA at h
  rw [hD.lo_put, hD.hi_put, hD.pr_put] at h
  exact ⟨g, hg, h.1, h.2.1, b, hb, h.2.2⟩
 ·rintro ⟨g, hg, h1, h2, b, hb, h3⟩
  refine ⟨D.put g.a g.b b, List.mem_flatMap.2 ⟨g, hg, List.mem_map.2 ⟨b, hb, rfl⟩⟩, ?_⟩
  unfold inA
  rw [hD.lo_put, hD.hi_put, hD.pr_put]
  exact ⟨h1, h2, h3⟩
def can {γ : Type} (M : Sem β γ) (l : List α) : Prop := ∃ G, z0z M G ∧ l = D.flat G
def sem (hD : D.Fair) {γ : Type} (M : Sem β γ) : Sem α (Int × γ) where
 can := D.can M
 inB := D.inA M.inB
 uniq := fun s t ⟨G, hG, e1⟩ ⟨H, hH, e2⟩ h => by
  subst e1 e2
  rw [y7w G H hG hH fun x q => by rw [← y4o hD, ← y4o hD]; exact h (x, q)]
 some := fun s ⟨G, hG, e1⟩ hs => by
  subst e1
  cases G with
  | nil => exact absurd rfl hs
  | cons g G =>
   obtain ⟨q, hq⟩ := M.some _ hG.head.2.1 hG.head.2.2
   exact ⟨(g.a, q), (y4o hD M _ _ _).2 ((hG.sec0 ⟨Int.le_refl _, hG.head.1⟩ q).2 hq)⟩
 nil := ⟨[], .nil, rfl⟩
variable (D)
def oneS (sec : List β) (x x' : Int) (s : Sw α β) : Sw α β :=
 bif decide (0 < sec.length) && ((s.fin == x) && D.same s.last sec) then ⟨D.grow s.out s.first x', s.last, s.first, x'⟩
 else ⟨s.out ++ sec.map (D.put x x'), sec, s.out.length, x'⟩
def goS (sec : Int → List β) (cs : List Int) : Nat → Nat → Sw α β → Sw α β
 | 0, _, s => s
 | k + 1, i, s => goS sec cs k (i + 1) (D.oneS (sec (rd cs i)) (rd cs i) (rd cs (i + 1)) s)
theorem go_goS (l : List α) : ∀ (k i : Nat) (s : Sw α β), D.go l k i s = D.goS (D.sec l) (D.cuts l) k i s
 | 0, _, _ => rfl
 | k + 1, i, s => go_goS l k (i + 1) _
variable {D}
structure Inv {γ : Type} (M : Sem β γ) (sec : Int → List β) (cs : List Int) (i : Nat) (s : Sw α β) (G : List (Qg β)) : Prop where
 can : z0z M G
 out : s.out = D.flat G
 gap : s.last = [] → ∀ g ∈ G, g.b < rd cs i
 end_ : s.last ≠ [] → ∃ Gp g, G = Gp ++ [g] ∧ g.s = s.last ∧ g.b = rd cs i ∧ s.fin = rd cs i ∧ s.first = (D.flat Gp).length
 pts : ∀ x q, ptG M G x q ↔ ∃ j, j < i ∧ rd cs j ≤ x ∧ x < rd cs (j + 1) ∧ ptL M.inB (sec (rd cs j)) q
theorem w7v (hD : D.Fair) (hs : ∀ a b, D.same a b = true ↔ a = b) {γ : Type} (M : Sem β γ) {sec : Int → List β} {cs : List Int} (hc : cs.Pairwise (· < ·)) (eM : ∀ x, M.can (sec x)) {i : Nat} (hi : i + 1 < cs.length) {s : Sw α β} {G : List (Qg β)} (h : Inv (D := D) M sec cs i s G) :
  ∃ G', Inv (D := D) M sec cs (i + 1) (D.oneS (sec (rd cs i)) (rd cs i) (rd cs (i + 1)) s) G' := by
 have hlt : rd cs i < rd cs (i + 1) := y4e hc (Nat.lt_succ_self _) hi
 unfold oneS
 rcases Zn (decide (0 < (sec (rd cs i)).length) && ((s.fin == rd cs i) && D.same s.last (sec (rd cs i)))) with q | q
 ·rw [q, cond_true]
  simp only [Bool.and_eq_true, decide_eq_true_eq] at q
  obtain ⟨q1, q2, q3⟩ := q
  have q3 := (hs _ _).1 q3
  have hne : s.last ≠ [] := fun e => by rw [e] at q3; rw [← q3] at q1; exact Nat.lt_irrefl _ q1
  obtain ⟨Gp, g, e1, e2, e3, e4, e5⟩ := h.end_ hne
  subst e1
  refine ⟨Gp ++ [⟨g.a, rd cs (i + 1), g.s⟩], h.can.stretch (by omega), ?_, fun e => absurd e hne, fun _ => ⟨Gp, _, rfl, e2, rfl, rfl, e5⟩, fun x p => ?_⟩
  ·show D.grow s.out s.first (rd cs (i + 1)) = _
   rw [h.out, e5]
   unfold grow
   rw [D.flat_append, D.flat_append, D.flat_one, D.flat_one, List.take_left, List.drop_left, List.map_map]
   congr 1
   exact List.map_congr_left fun b _ => hD.ext_put _ _ _ _
  ·have hp := h.pts x p
   rw [y2n, z4l] at hp ⊢
   have z : ¬ ptG M ([] : List (Qg β)) x p := fun ⟨_, hk, _⟩ => by cases hk
   constructor
   ·rintro (h1 | h1 | h1)
    ·obtain ⟨j, j1, j2⟩ := hp.1 (.inl h1)
     exact ⟨j, by omega, j2⟩
    ·simp only at h1
     by_cases hx : x < g.b
     ·obtain ⟨j, j1, j2⟩ := hp.1 (.inr (.inl ⟨h1.1, hx, h1.2.2⟩))
      exact ⟨j, by omega, j2⟩
     ·exact ⟨i, Nat.lt_succ_self _, by omega, h1.2.1, by rw [← q3, ← e2]; exact h1.2.2⟩
    ·exact absurd h1 z
   ·rintro ⟨j, j1, j2, j3, j4⟩
    rcases Nat.eq_or_lt_of_le (Nat.le_of_lt_succ j1) with rfl | j1
    ·refine .inr (.inl ⟨?_, j3, ?_⟩)
     ·have := (h.can.all g (by simp)).1; show g.a ≤ x; omega
     ·show ptL M.inB g.s p
      rw [e2, q3]; exact j4
    ·rcases hp.2 ⟨j, j1, j2, j3, j4⟩ with h1 | h1 | h1
     ·exact .inl h1
     ·exact .inr (.inl ⟨h1.1, by show x < rd cs (i + 1); omega, h1.2.2⟩)
     ·exact absurd h1 z
 ·rw [q, cond_false]
  by_cases he : sec (rd cs i) = []
  ·rw [he]
   refine ⟨G, h.can, ?_, fun _ g hg => ?_, fun e => absurd rfl e, fun x p => ?_⟩
   ·show s.out ++ [].map _ = _
    rw [List.map_nil, List.append_nil, h.out]
   ·by_cases hl : s.last = []
    ·have := h.gap hl g hg; omega
    ·obtain ⟨Gp, g', e1, e2, e3, _⟩ := h.end_ hl
     subst e1
     rcases List.mem_append.1 hg with hg | hg
     ·have := h.can.before g hg
      have := (h.can.all g' (by simp)).1
      omega
     ·rw [List.mem_singleton.1 hg]; omega
   ·rw [h.pts]
    constructor
    ·rintro ⟨j, j1, j2⟩; exact ⟨j, by omega, j2⟩
    ·rintro ⟨j, j1, j2, j3, j4⟩
     rcases Nat.eq_or_lt_of_le (Nat.le_of_lt_succ j1) with rfl | j1
     ·rw [he] at j4; exact absurd j4 (y4a _ _)
     ·exact ⟨j, j1, j2, j3, j4⟩
  ·have ok : OkS M (⟨rd cs i, rd cs (i + 1), sec (rd cs i)⟩ : Qg β) := ⟨hlt, eM _, he⟩
   have hcan : z0z M (G ++ [⟨rd cs i, rd cs (i + 1), sec (rd cs i)⟩]) := by
    rcases List.eq_nil_or_concat G with rfl | ⟨Gp, g, rfl⟩
    ·exact .one _ ok
    ·rw [List.concat_eq_append] at *
     refine h.can.snoc ok ?_
     by_cases hl : s.last = []
     ·have := h.gap hl g (by simp)
      exact ⟨by show g.b ≤ rd cs i; omega, fun e => by simp only at e; omega⟩
     ·obtain ⟨Gp', g', e1, e2, e3, e4, _⟩ := h.end_ hl
      obtain ⟨rfl, e⟩ := List.append_inj' e1 rfl
      obtain rfl : g = g' := by simpa using e
      refine ⟨by show g.b ≤ rd cs i; omega, fun _ e => ?_⟩
      rw [decide_eq_true (show 0 < (sec (rd cs i)).length from List.length_pos_iff.2 he), e4, (hs _ _).2 (e2.symm.trans e)] at q
      simp at q
   refine ⟨_, hcan, ?_, fun e => absurd e he, fun _ => ⟨G, _, rfl, rfl, rfl, rfl, by show s.out.length = _; rw [h.out]⟩, fun x p => ?_⟩
   ·show s.out ++ _ = _
    rw [D.flat_append, D.flat_one, h.out]
   ·rw [y2n, z4l, h.pts]
    have z : ¬ ptG M ([] : List (Qg β)) x p := fun ⟨_, hk, _⟩ => by cases hk
    constructor
    ·rintro (⟨j, j1, j2⟩ | h1 | h1)
     ·exact ⟨j, by omega, j2⟩
     ·exact ⟨i, Nat.lt_succ_self _, h1⟩
     ·exact absurd h1 z
    ·rintro ⟨j, j1, j2, j3, j4⟩
     rcases Nat.eq_or_lt_of_le (Nat.le_of_lt_succ j1) with rfl | j1
     ·exact .inr (.inl ⟨j2, j3, j4⟩)
     ·exact .inl ⟨j, j1, j2, j3, j4⟩
theorem v2v (hD : D.Fair) (hs : ∀ a b, D.same a b = true ↔ a = b) {γ : Type} (M : Sem β γ) {sec : Int → List β} {cs : List Int} (hc : cs.Pairwise (· < ·)) (eM : ∀ x, M.can (sec x)) : ∀ (k i : Nat) (s : Sw α β) (G : List (Qg β)), i + k < cs.length ∨ k = 0 → Inv (D := D) M sec cs i s G →
  ∃ G', Inv (D := D) M sec cs (i + k) (D.goS sec cs k i s) G'
 | 0, i, s, G, _, h => ⟨G, h⟩
 | k + 1, i, s, G, hk, h => by
  obtain ⟨G1, h1⟩ := w7v hD hs M hc eM (show i + 1 < cs.length by omega) h
  obtain ⟨G2, h2⟩ := v2v hD hs M hc eM k (i + 1) _ G1 (by omega) h1
  exact ⟨G2, by rw [show i + (k + 1) = i + 1 + k by omega]; exact h2⟩
theorem goS_can (hD : D.Fair) (hs : ∀ a b, D.same a b = true ↔ a = b) {γ : Type} (M : Sem β γ) {sec : Int → List β} {cs : List Int} (hc : cs.Pairwise (· < ·)) (eM : ∀ x, M.can (sec x)) :
  (D.sem hD M).can (D.goS sec cs (cs.length - 1) 0 ⟨[], [], 0, 0⟩).out ∧ ∀ x q, ptL (D.sem hD M).inB (D.goS sec cs (cs.length - 1) 0 ⟨[], [], 0, 0⟩).out (x, q) ↔ ∃ j, j + 1 < cs.length ∧ rd cs j ≤ x ∧ x < rd cs (j + 1) ∧ ptL M.inB (sec (rd cs j)) q := by
 obtain ⟨G, h⟩ := v2v hD hs M hc eM (cs.length - 1) 0 ⟨[], [], 0, 0⟩ [] (by omega) ⟨.nil, rfl, fun _ g hg => by (cases hg), fun e => absurd rfl e, fun x q => ⟨fun ⟨_, hg, _⟩ => (by cases hg), fun ⟨j, hj, _⟩ => absurd hj (Nat.not_lt_zero _)⟩⟩
 refine ⟨⟨G, h.can, h.out⟩, fun x q => ?_⟩
 rw [h.out]
 rw [show ptL (D.sem hD M).inB (D.flat G) (x, q) ↔ ptG M G x q from y4o hD M G x q, h.pts]
 constructor
 ·rintro ⟨j, h1, h2⟩; exact ⟨j, by omega, h2⟩
 ·rintro ⟨j, h1, h2⟩; exact ⟨j, by omega, h2⟩
end Dim
end Go.Am
namespace Go.Am
open Go.Proofs Go.Sort Go.Shelf Go.RowKit Go.Lib
namespace Dim
variable {α β : Type} (D : Dim α β)
end Dim
end Go.Am
namespace Go.Am
open Go.Proofs
end Go.Am
namespace Go.Am
open Go.Proofs Go.Sort Go.Shelf Go.RowKit Go.Lib
end Go.Am
end
