/- A part of a proof: several texts in one. -/
import Derived.Test.YtijpnpkolglajaaGreatKa3
set_option maxRecDepth 1000000
set_option maxHeartbeats 8000000
set_option linter.unusedVariables false
set_option linter.unusedSimpArgs false
noncomputable section
namespace Go.Am
open Go.Proofs
inductive rchS where
 | h0 (v5 : Int) (v6 : Int)
 | h1 (v8 : Int) (v002_5 : Int) (v002_6 : Int) (v002_7 : Int) (v002_19 : Int) (v_1_0 : Int)
def rchC (l0 : List R6) (l1 : List R6) : rchS → Cfg
 | .h0 v5 v6 => ⟨⟨26, 0, true⟩, none, (Zi Tryz.prog 92 [1, 1, 0, 0, 0] 0), none, (Zy Tryz.prog 3), ⟨Yo [(1, (.fn 93 [(.ptr 0 0), (.ptr 1 0)])), (5, (ii v5)), (6, (ii v6))], Uz [⟨[(.dat l0.length (Zz l0))], 30, none⟩, ⟨[(.dat l1.length (Zz l1))], 30, none⟩] 0, 2, [], true⟩, [⟨⟨7, 0, true⟩, (Ja Tryz.prog 57 [1, 0] 1), (Zi Tryz.prog 57 [1, 0] 1), none, (Zy Tryz.prog 3), Yo [(5, (.fn 93 [(.ptr 0 0), (.ptr 1 0)]))]⟩], .leaf⟩
 | .h1 v8 v002_5 v002_6 v002_7 v002_19 v_1_0 => ⟨⟨19, 0, true⟩, none, (Zi Tryz.prog 124 [1, 0, 1, 0, 0] 0), none, (Zy Tryz.prog 3), ⟨Yo [(0, (.dat l0.length (Zz l0))), (1, (.fn 94 [(.ptr 0 0), (.ptr 1 0)])), (7, (ii (l0.length : Int))), (8, (ii v8))], Uz [⟨[(.dat l1.length (Zz l1))], 30, none⟩, ⟨[(ii v_1_0)], 3, none⟩, ⟨[(.dat l0.length (Zz l0))], 30, none⟩] 0, 3, [], true⟩, [⟨⟨9, 0, true⟩, (Ja Tryz.prog 86 [1, 0] 2), (Zi Tryz.prog 86 [1, 0] 1), none, (Zy Tryz.prog 3), Yo [(5, (.dat l0.length (Zz l0))), (6, (.fn 94 [(.ptr 0 0), (.ptr 1 0)]))]⟩, ⟨⟨9, 0, true⟩, (Ja Tryz.prog 93 [1, 0] 2), (Zi Tryz.prog 93 [1, 0] 1), none, (Zy Tryz.prog 3), Yo [(5, (.dat l0.length (Zz l0))), (6, (.fn 94 [(.ptr 0 0), (.ptr 1 0)]))]⟩, ⟨⟨26, 0, true⟩, (Ja Tryz.prog 92 [1, 1, 0, 0, 0, 1, 0, 1, 0] 2), (Zi Tryz.prog 92 [1, 1, 0, 0, 0, 1, 0, 1, 0] 1), none, (Zy Tryz.prog 3), Yo [(1, (.fn 93 [(.ptr 2 0), (.ptr 0 0)])), (5, (ii v002_5)), (6, (ii v002_6)), (7, (ii v002_7)), (18, (.fn 93 [(.ptr 2 0), (.ptr 0 0)])), (19, (ii v002_19))]⟩, ⟨⟨7, 0, true⟩, (Ja Tryz.prog 57 [1, 0] 1), (Zi Tryz.prog 57 [1, 0] 1), none, (Zy Tryz.prog 3), Yo [(5, (.fn 93 [(.ptr 2 0), (.ptr 0 0)]))]⟩], .leaf⟩
def x9f : List (Option (List Nat)) := [some [1, 5, 6], some [5]]
def x9g : List (Option (List Nat)) := []
def rchN1 : List (Option (List Nat)) := [some [0, 1, 7, 8], some [5, 6], some [5, 6], some [1, 5, 6, 7, 18, 19], some [5]]
def rchM1 : List (Option (List Nat)) := []
def Vd (l0 : List R6) (l1 : List R6) : rchS → Xg rchS
 | .h0 v5 v6 => (bif (decide (v5 < v6)) then (.to (.h1 0 v5 v6 (IntKind.wrap .i64 (Int.fdiv (IntKind.wrap IntKind.u64 (IntKind.wrap .i64 (v5 + v6))) 2)) (IntKind.wrap .i64 (Int.fdiv (IntKind.wrap IntKind.u64 (IntKind.wrap .i64 (v5 + v6))) 2)) (IntKind.wrap .i64 (Int.fdiv (IntKind.wrap IntKind.u64 (IntKind.wrap .i64 (v5 + v6))) 2)))) else (.ret [(.int .i64 v5)]))
 | .h1 v8 v002_5 v002_6 v002_7 v002_19 v_1_0 => (bif (decide (v8 < (l0.length : Int))) then (bif ((decide (0 ≤ v8 ∧ v8 < (l0.length : Int))) && true) then (bif (z3c (rd l0 v8.toNat).a (rd l0 v8.toNat).b (rd l0 v8.toNat).c (rd l0 v8.toNat).d (rd l0 v8.toNat).e (rd l0 v8.toNat).f (cvT l1) v_1_0) then (bif (!(cvdV (rd l0 v8.toNat).a (rd l0 v8.toNat).b (rd l0 v8.toNat).c (rd l0 v8.toNat).d (rd l0 v8.toNat).e (rd l0 v8.toNat).f (cvT l1) v_1_0)) then (bif (!(!(decide (v8 ≥ 0)))) then (.to (.h0 (IntKind.wrap .i64 (v002_7 + 1)) v002_6)) else (.to (.h0 v002_5 v002_7))) else (.to (.h1 (IntKind.wrap .i64 (v8 + 1)) v002_5 v002_6 v002_7 v002_19 v_1_0))) else .stuck) else .stuck) else (.to (.h0 v002_5 v002_7)))
def y0s (l0 : List R6) (l1 : List R6) : Xg rchS := (.to (.h0 0 2000000))
theorem x1h (l0 : List R6) (l1 : List R6) : ∀ s, Xt Tryz.prog (Zy Tryz.prog 57) (rchC l0 l1) (rchC l0 l1 s) (Vd l0 l1 s)
 | .h0 v5 v6 => (lb (fun k0 => (sl z8l 57 [] ⟨[1, 2, 0], [], rchN1, rchM1⟩ ⟨[], [], []⟩ [true] (tt k0 nn))) (fun k0 => (lr 7 3 [1, 1, 1, 1, 1, 1, 0] 1 3 [(4, (ii v5))] (sl z8l 17 [] ⟨[], [], [some [4]], []⟩ ⟨[], [], []⟩ [false] (tt k0 nn)))))
 | .h1 v8 v002_5 v002_6 v002_7 v002_19 v_1_0 => (lb (fun k0 => (lo fun o1_0 => (lo fun o1_1 => (lb (fun k1 => (lb (fun k2 => (sl z8l 63 [] ⟨[2, 0], [], x9f, x9g⟩ ⟨[], [], []⟩ (trs 3 []) (tt k2 (tt k1 (pp (pp (xr l1) (xw o1_1)) (ww o1_0 (tt k0 nn))))))) (fun k2 => (sl z8l 62 [] ⟨[2, 0], [], x9f, x9g⟩ ⟨[], [], []⟩ [true, true, false] (tt k2 (tt k1 (pp (pp (xr l1) (xw o1_1)) (ww o1_0 (tt k0 nn))))))))) (fun k1 => (sl z8l 46 [] ⟨[0, 1, 2], [], rchN1, rchM1⟩ ⟨[], [], []⟩ [true, false] (tt k1 (pp (pp (xr l1) (xw o1_1)) (ww o1_0 (tt k0 nn)))))))))) (fun k0 => (sl z8l 29 [] ⟨[2, 0], [], x9f, x9g⟩ ⟨[], [], []⟩ [false, false] (tt k0 nn))))
theorem y6d (l0 : List R6) (l1 : List R6) : Xt Tryz.prog (Zy Tryz.prog 57) (rchC l0 l1) (Zd Tryz.prog 57 [(.dat l0.length (Zz l0)), (.dat l1.length (Zz l1))] true []) (y0s l0 l1) := (sl z8l 23 [] ⟨[0, 1], [], x9f, x9g⟩ ⟨[], [], []⟩ [] nn)
theorem x9e (l0 : List R6) (l1 : List R6) (n : Nat) (vs : List AVal) (h : Yk (Vd l0 l1) n (y0s l0 l1) = .ret vs) : Kz Tryz.prog (Zy Tryz.prog 57) (Zd Tryz.prog 57 [(.dat l0.length (Zz l0)), (.dat l1.length (Zz l1))] true []) vs := by
 have := Zr (x1h l0 l1) n _ (y6d l0 l1)
 rwa [h] at this
inductive frmS where
 | h0 (v5 : Int) (v6 : Int)
def frmC (x0_0 : Int) (x0_1 : Int) (x0_2 : Int) (l1 : List R6) : frmS → Cfg
 | .h0 v5 v6 => ⟨⟨27, 0, true⟩, none, (Zi Tryz.prog 49 [1, 1, 0, 1, 0, 0] 0), none, (Zy Tryz.prog 3), ⟨Yo [(1, (.dat l1.length (Zz l1))), (2, (.ptr 0 0)), (5, (ii v5)), (6, (ii v6))], Uz [⟨[(ii x0_0), (ii x0_1), (ii x0_2)], 65, none⟩] 0, 1, [], true⟩, [], .leaf⟩
def frmN0 : List (Option (List Nat)) := [some [1, 2, 5, 6]]
def frmM0 : List (Option (List Nat)) := []
def z3t (x0_0 : Int) (x0_1 : Int) (x0_2 : Int) (l1 : List R6) : frmS → Xg frmS
 | .h0 v5 v6 => (bif (decide (v6 < (l1.length : Int))) then (bif ((decide (0 ≤ v6 ∧ v6 < (l1.length : Int))) && true) then (.to (.h0 (Jv v5 (Ww (Ww (Ww (Ww (Ww (Ww 0 (IntKind.wrap .i64 ((rd l1 v6.toNat).a - x0_0))) (IntKind.wrap .i64 ((IntKind.wrap .i64 (x0_0 - (rd l1 v6.toNat).d)) + 1))) (IntKind.wrap .i64 ((rd l1 v6.toNat).b - x0_1))) (IntKind.wrap .i64 ((IntKind.wrap .i64 (x0_1 - (rd l1 v6.toNat).e)) + 1))) (IntKind.wrap .i64 ((rd l1 v6.toNat).c - x0_2))) (IntKind.wrap .i64 ((IntKind.wrap .i64 (x0_2 - (rd l1 v6.toNat).f)) + 1)))) (IntKind.wrap .i64 (v6 + 1)))) else .stuck) else (.ret [(.int .i64 v5)]))
def z5z (x0_0 : Int) (x0_1 : Int) (x0_2 : Int) (l1 : List R6) : Xg frmS := (bif ((decide ((0 : Int) ≤ 0 ∧ 0 < (l1.length : Int))) && true) then (.to (.h0 (Ww (Ww (Ww (Ww (Ww (Ww 0 (IntKind.wrap .i64 ((rd l1 0).a - x0_0))) (IntKind.wrap .i64 ((IntKind.wrap .i64 (x0_0 - (rd l1 0).d)) + 1))) (IntKind.wrap .i64 ((rd l1 0).b - x0_1))) (IntKind.wrap .i64 ((IntKind.wrap .i64 (x0_1 - (rd l1 0).e)) + 1))) (IntKind.wrap .i64 ((rd l1 0).c - x0_2))) (IntKind.wrap .i64 ((IntKind.wrap .i64 (x0_2 - (rd l1 0).f)) + 1))) 1)) else .stuck)
theorem x1x (x0_0 : Int) (x0_1 : Int) (x0_2 : Int) (l1 : List R6) : ∀ s, Xt Tryz.prog (Zy Tryz.prog 49) (frmC x0_0 x0_1 x0_2 l1) (frmC x0_0 x0_1 x0_2 l1 s) (z3t x0_0 x0_1 x0_2 l1 s)
 | .h0 v5 v6 => (lb (fun k0 => (lo fun o0 => (sl z8l 20 [] ⟨[0], [], frmN0, frmM0⟩ ⟨[], [], []⟩ [true] (ww o0 (tt k0 nn))))) (fun k0 => (lr 27 3 [1, 1, 1, 1, 1, 1, 0] 1 3 [(4, (ii v5))] (sl z8l 15 [] ⟨[], [], [some [4]], []⟩ ⟨[], [], []⟩ [false] (tt k0 nn)))))
theorem y7a (x0_0 : Int) (x0_1 : Int) (x0_2 : Int) (l1 : List R6) : Xt Tryz.prog (Zy Tryz.prog 49) (frmC x0_0 x0_1 x0_2 l1) (Zd Tryz.prog 49 [(.agg [(.int .i64 x0_0), (.int .i64 x0_1), (.int .i64 x0_2)]), (.dat l1.length (Zz l1))] true []) (z5z x0_0 x0_1 x0_2 l1) := (lo fun o0 => (sl z8l 14 [] ⟨[0], [], frmN0, frmM0⟩ ⟨[], [], []⟩ [] (ww o0 nn)))
theorem w0m (x0_0 : Int) (x0_1 : Int) (x0_2 : Int) (l1 : List R6) (n : Nat) (vs : List AVal) (h : Yk (z3t x0_0 x0_1 x0_2 l1) n (z5z x0_0 x0_1 x0_2 l1) = .ret vs) : Kz Tryz.prog (Zy Tryz.prog 49) (Zd Tryz.prog 49 [(.agg [(.int .i64 x0_0), (.int .i64 x0_1), (.int .i64 x0_2)]), (.dat l1.length (Zz l1))] true []) vs := by
 have := Zr (x1x x0_0 x0_1 x0_2 l1) n _ (y7a x0_0 x0_1 x0_2 l1)
 rwa [h] at this
end Go.Am
namespace Go.Am
open Go.Proofs
def w4w (L1 : List R6) (d : Int) (L0 : List R6) : Bool := L0.all fun r => cvdV r.a r.b r.c r.d r.e r.f L1 d
def x7v (F : Int → Bool) : Nat → Int → Int → Int
 | 0, i, _ => i
 | n + 1, i, j => bif decide (i < j) then (bif F ((i + j) / 2) then x7v F n i ((i + j) / 2) else x7v F n ((i + j) / 2 + 1) j) else i
def y8y (L0 L1 : List R6) : Int := x7v (fun d => w4w L1 d L0) 22 0 2000000
def Vq (L0 L1 : List R6) : Bool := decide (L0.length ≤ 100000) && decide (L1.length ≤ 100000)
theorem cvd_o {a b c d e f : Int} {L : List R6} {x : Int} (h : L.length ≤ 100000) : z3c a b c d e f L x = true := decide_eq_true h
theorem w3p {L0 L1 : List R6} (h0 : L0.length ≤ 100000) (h1 : L1.length ≤ 100000) (v5 v6 v7 v19 d : Int) : ∀ (k i : Nat), i + k = L0.length → ∃ N, ∀ M, Yk (Vd L0 L1) (M + N) (.to (.h1 (i : Int) v5 v6 v7 v19 d)) = Yk (Vd L0 L1) M (bif w4w L1 d (L0.drop i) then .to (.h0 v5 v7) else .to (.h0 (IntKind.wrap .i64 (v7 + 1)) v6))
 | 0, i, h => by
  refine ⟨1, fun M => ?_⟩
  rw [Zv, List.drop_eq_nil_of_le (by omega)]
  simp (disch := omega) only [Vd, Yv, cond_false]; rfl
 | k + 1, i, h => by
  have hi : i < L0.length := by omega
  obtain ⟨N, hN⟩ := w3p h0 h1 v5 v6 v7 v19 d k (i + 1) (by omega)
  have hw : IntKind.wrap .i64 ((i : Int) + 1) = ((i + 1 : Nat) : Int) := Zq (by omega)
  rcases Yp (cvdV (rd L0 i).a (rd L0 i).b (rd L0 i).c (rd L0 i).d (rd L0 i).e (rd L0 i).f L1 d) with q | q
  ·refine ⟨N + 1, fun M => ?_⟩
   rw [← Nat.add_assoc, Zv, Yd hi]
   simp (disch := omega) only [Vd, Yy, Yx, w1e, hw, Zk, Zo, cvd_o h1, q, Bool.and_true, Bool.true_and, Bool.not_true, Bool.not_false, cond_true, cond_false, w4w, List.all_cons]
   exact hN M
  ·refine ⟨1, fun M => ?_⟩
   rw [Zv, Yd hi]
   simp (disch := omega) only [Vd, Yy, Yx, w1e, hw, Zk, Zo, cvd_o h1, q, Bool.and_true, Bool.false_and, Bool.not_true, Bool.not_false, cond_true, cond_false, w4w, List.all_cons]
theorem y8k {i j : Int} (hi : 0 ≤ i) (hj : j ≤ 2000000) (hij : i ≤ j) : IntKind.wrap .i64 (Int.fdiv (IntKind.wrap IntKind.u64 (IntKind.wrap .i64 (i + j))) 2) = (i + j) / 2 := by
 rw [Zq (n := i + j) (by omega)]
 have e : IntKind.wrap IntKind.u64 (i + j) = i + j := by
  show (i + j) % 18446744073709551616 = i + j
  omega
 rw [e, Int.fdiv_eq_ediv_of_nonneg _ (by omega), Zq (by omega)]
theorem x5d {L0 L1 : List R6} (h0 : L0.length ≤ 100000) (h1 : L1.length ≤ 100000) : ∀ (n : Nat) (i j : Int), 0 ≤ i → i ≤ j → j ≤ 2000000 → j - i < 2 ^ n → ∃ N, Yk (Vd L0 L1) N (.to (.h0 i j)) = .ret [.int .i64 (x7v (fun d => w4w L1 d L0) n i j)]
 | 0, i, j, hi, hij, hj, hn => by
  refine ⟨1, ?_⟩
  have : i = j := by simp at hn; omega
  rw [Zv]
  simp (disch := omega) only [Vd, Yv, cond_false, Zm, x7v]
 | n + 1, i, j, hi, hij, hj, hn => by
  by_cases hlt : i < j
  ·have hp : (2 : Int) ^ (n + 1) = 2 * 2 ^ n := by rw [Int.pow_succ, Int.mul_comm]
   rw [hp] at hn
   generalize hP : (2 : Int) ^ n = p at hn
   obtain ⟨N, hN⟩ := w3p h0 h1 i j ((i + j) / 2) ((i + j) / 2) ((i + j) / 2) L0.length 0 (Nat.zero_add _)
   unfold x7v
   rw [Yy hlt, cond_true]
   have hw : IntKind.wrap .i64 ((i + j) / 2 + 1) = (i + j) / 2 + 1 := Zq (by omega)
   rcases Yp (w4w L1 ((i + j) / 2) L0) with q | q
   ·obtain ⟨M, hM⟩ := x5d h0 h1 n i ((i + j) / 2) hi (by omega) (by omega) (by rw [hP]; omega)
    refine ⟨M + N + 1, ?_⟩
    rw [Zv]
    simp only [Vd, Yy hlt, cond_true, y8k hi hj hij]
    rw [show (0 : Int) = ((0 : Nat) : Int) from rfl, hN, List.drop_zero, q, cond_true, hM]; rfl
   ·obtain ⟨M, hM⟩ := x5d h0 h1 n ((i + j) / 2 + 1) j (by omega) (by omega) hj (by rw [hP]; omega)
    refine ⟨M + N + 1, ?_⟩
    rw [Zv]
    simp only [Vd, Yy hlt, cond_true, y8k hi hj hij]
    rw [show (0 : Int) = ((0 : Nat) : Int) from rfl, hN, List.drop_zero, q, cond_false, hw, hM]; rfl
  ·refine ⟨1, ?_⟩
   rw [Zv]
   simp (disch := omega) only [Vd, Yv, cond_false, Zm, x7v]
theorem w6k (L0 L1 : List R6) (h : Vq L0 L1 = true) : ∃ N, Yk (Vd L0 L1) N (y0s L0 L1) = .ret [.int .i64 (y8y L0 L1)] := by
 simp only [Vq, Bool.and_eq_true, decide_eq_true_eq] at h
 exact x5d h.1 h.2 22 0 2000000 (by omega) (by omega) (by omega) (by decide)
def w0q (x y z : Int) (r : R6) : Int := Ww (Ww (Ww (Ww (Ww (Ww 0 (IntKind.wrap .i64 (r.a - x))) (IntKind.wrap .i64 (IntKind.wrap .i64 (x - r.d) + 1))) (IntKind.wrap .i64 (r.b - y))) (IntKind.wrap .i64 (IntKind.wrap .i64 (y - r.e) + 1))) (IntKind.wrap .i64 (r.c - z))) (IntKind.wrap .i64 (IntKind.wrap .i64 (z - r.f) + 1))
def w4h (x y z : Int) : List R6 → Int → Int
 | [], d => d
 | r :: l, d => w4h x y z l (Jv d (w0q x y z r))
def y4r (x y z : Int) (L : List R6) : Int := w4h x y z (L.drop 1) (w0q x y z (rd L 0))
def Kk (x y z : Int) (L : List R6) : Bool := decide (0 < L.length) && decide (L.length ≤ 100000)
theorem w4g {x y z : Int} {L : List R6} (hl : L.length ≤ 100000) : ∀ (k i : Nat) (d : Int), i + k = L.length → ∃ N, Yk (z3t x y z L) N (.to (.h0 d (i : Int))) = .ret [.int .i64 (w4h x y z (L.drop i) d)]
 | 0, i, d, h => by
  refine ⟨1, ?_⟩
  rw [Zv, List.drop_eq_nil_of_le (by omega)]
  simp (disch := omega) only [z3t, Yv, cond_false]; rfl
 | k + 1, i, d, h => by
  have hi : i < L.length := by omega
  obtain ⟨N, hN⟩ := w4g hl k (i + 1) (Jv d (w0q x y z (rd L i))) (by omega)
  have hw : IntKind.wrap .i64 ((i : Int) + 1) = ((i + 1 : Nat) : Int) := Zq (by omega)
  refine ⟨N + 1, ?_⟩
  rw [Zv, Yd hi]
  simp (disch := omega) only [z3t, w4h, Yy, Yx, hw, Zk, Bool.and_true, cond_true]
  exact hN
theorem w7i (x y z : Int) (L : List R6) (h : Kk x y z L = true) : ∃ N, Yk (z3t x y z L) N (z5z x y z L) = .ret [.int .i64 (y4r x y z L)] := by
 simp only [Kk, Bool.and_eq_true, decide_eq_true_eq] at h
 obtain ⟨N, hN⟩ := w4g (x := x) (y := y) (z := z) h.2 (L.length - 1) 1 (w0q x y z (rd L 0)) (by omega)
 refine ⟨N, ?_⟩
 simp (disch := omega) only [z5z, Yx, Bool.and_true, cond_true]
 exact hN
def fRch : List AVal → Option (AVal × Bool)
 | [a0, a1] => match asL R6 a0, asL R6 a1 with
  | some (L0, g0, n0), some (L1, g1, n1) => some (.int .i64 (y8y L0 L1), isT R6 n0 g0 && (isT R6 n1 g1 && (Vq L0 L1)))
  | _, _ => none
 | _ => none
theorem w7u {S : Specs} (hS : Zu Tryz.prog S) : Zu Tryz.prog (S.with y9g fRch) := by
 refine z1t hS (by kernel_rfl) fun args v h => ?_
 unfold fRch at h
 split at h
 ·rename_i a0 a1
  split at h
  ·rename_i L0 g0 n0 L1 g1 n1 e0 e1
   simp only [Option.some.injEq, Prod.mk.injEq, Bool.and_eq_true] at h
   obtain ⟨rfl, ho0, ho1, hw⟩ := h
   obtain ⟨N, hN⟩ := w6k L0 L1 hw
   exact ⟨_, _, (.cons (asL_le e0 ho0) (.cons (asL_le e1 ho1) .nil)), rfl, x9e L0 L1 N _ hN, 3, rfl⟩
  ·cases h
 ·cases h
def fFrm : List AVal → Option (AVal × Bool)
 | [.agg [.int .i64 x0_0, .int .i64 x0_1, .int .i64 x0_2], a1] => match asL R6 a1 with
  | some (L1, g1, n1) => some (.int .i64 (y4r x0_0 x0_1 x0_2 L1), isT R6 n1 g1 && (Kk x0_0 x0_1 x0_2 L1))
  | _ => none
 | _ => none
theorem w7z {S : Specs} (hS : Zu Tryz.prog S) : Zu Tryz.prog (S.with x5v fFrm) := by
 refine z1t hS (by kernel_rfl) fun args v h => ?_
 unfold fFrm at h
 split at h
 ·rename_i x0_0 x0_1 x0_2 a1
  split at h
  ·rename_i L1 g1 n1 e1
   simp only [Option.some.injEq, Prod.mk.injEq, Bool.and_eq_true] at h
   obtain ⟨rfl, ho1, hw⟩ := h
   obtain ⟨N, hN⟩ := w7i x0_0 x0_1 x0_2 L1 hw
   exact ⟨_, _, (.cons (.refl _) (.cons (asL_le e1 ho1) .nil)), rfl, w0m x0_0 x0_1 x0_2 L1 N _ hN, 3, rfl⟩
  ·cases h
 ·cases h
def Db : Specs := ((Da.with y9g fRch).with x5v fFrm)
theorem Qm : Zu Tryz.prog Db := (w7z (w7u z8l))
end Go.Am
namespace Go.Am
open Go.Proofs
inductive rrcS where
 | h0 (v5 : Int) (v6 : Int)
 | h1 (v5 : Int) (v6 : Int) (v7 : Int)
 | h2 (v5 : Int) (v6 : Int) (v7 : Int) (v8 : Int)
 | h3 (v5 : Int) (v6 : Int) (v7 : Int) (v8 : Int) (v9 : Int)
def rrcC (l0 : List R6) (l1 : List R6) : rrcS → Cfg
 | .h0 v5 v6 => ⟨⟨73, 0, true⟩, none, (Zi Tryz.prog 59 [1, 1, 0, 1, 0, 0] 0), none, (Zy Tryz.prog 3), ⟨Yo [(0, (.dat l0.length (Zz l0))), (1, (.dat l1.length (Zz l1))), (5, (ii v5)), (6, (ii v6))], Uz [] 0, 0, [], true⟩, [], .leaf⟩
 | .h1 v5 v6 v7 => ⟨⟨73, 0, true⟩, none, (Zi Tryz.prog 59 [1, 1, 0, 1, 0, 0, 1, 0, 0, 1, 0, 0] 0), none, (Zy Tryz.prog 3), ⟨Yo [(0, (.dat l0.length (Zz l0))), (1, (.dat l1.length (Zz l1))), (5, (ii v5)), (6, (ii v6)), (7, (ii v7))], Uz [] 0, 0, [], true⟩, [], .leaf⟩
 | .h2 v5 v6 v7 v8 => ⟨⟨73, 0, true⟩, none, (Zi Tryz.prog 59 [1, 1, 0, 1, 0, 0, 1, 0, 0, 1, 0, 0, 1, 0, 0, 1, 0, 0] 0), none, (Zy Tryz.prog 3), ⟨Yo [(0, (.dat l0.length (Zz l0))), (1, (.dat l1.length (Zz l1))), (5, (ii v5)), (6, (ii v6)), (7, (ii v7)), (8, (ii v8))], Uz [] 0, 0, [], true⟩, [], .leaf⟩
 | .h3 v5 v6 v7 v8 v9 => ⟨⟨73, 0, true⟩, none, (Zi Tryz.prog 59 [1, 1, 0, 1, 0, 0, 1, 0, 0, 1, 0, 0, 1, 0, 0, 1, 0, 0, 1, 0, 0, 1, 0, 0] 0), none, (Zy Tryz.prog 3), ⟨Yo [(0, (.dat l0.length (Zz l0))), (1, (.dat l1.length (Zz l1))), (5, (ii v5)), (6, (ii v6)), (7, (ii v7)), (8, (ii v8)), (9, (ii v9))], Uz [] 0, 0, [], true⟩, [], .leaf⟩
def rrcN0 : List (Option (List Nat)) := [some [0, 1, 5, 6]]
def rrcM0 : List (Option (List Nat)) := []
def rrcN1 : List (Option (List Nat)) := [some [0, 1, 5, 6, 7]]
def rrcM1 : List (Option (List Nat)) := []
def rrcN2 : List (Option (List Nat)) := [some [0, 1, 5, 6, 7, 8]]
def rrcM2 : List (Option (List Nat)) := []
def rrcN3 : List (Option (List Nat)) := [some [0, 1, 5, 6, 7, 8, 9]]
def rrcM3 : List (Option (List Nat)) := []
def Wm (l0 : List R6) (l1 : List R6) : rrcS → Xg rrcS
 | .h0 v5 v6 => (bif (decide (v6 < (l0.length : Int))) then (bif ((decide (0 ≤ v6 ∧ v6 < (l0.length : Int))) && true) then (.to (.h1 v5 v6 (rd l0 v6.toNat).a)) else .stuck) else (.ret [(.int .i64 v5)]))
 | .h1 v5 v6 v7 => (bif ((decide (0 ≤ v6 ∧ v6 < (l0.length : Int))) && true) then (bif (decide (v7 < (rd l0 v6.toNat).d)) then (.to (.h2 v5 v6 v7 (rd l0 v6.toNat).b)) else (.to (.h0 v5 (IntKind.wrap .i64 (v6 + 1))))) else .stuck)
 | .h2 v5 v6 v7 v8 => (bif ((decide (0 ≤ v6 ∧ v6 < (l0.length : Int))) && true) then (bif (decide (v8 < (rd l0 v6.toNat).e)) then (.to (.h3 v5 v6 v7 v8 (rd l0 v6.toNat).c)) else (.to (.h1 v5 v6 (IntKind.wrap .i64 (v7 + 1))))) else .stuck)
 | .h3 v5 v6 v7 v8 v9 => (bif ((decide (0 ≤ v6 ∧ v6 < (l0.length : Int))) && true) then (bif (decide (v9 < (rd l0 v6.toNat).f)) then (bif (Kk v7 v8 v9 (cvT l1)) then (.to (.h3 (Ww v5 (y4r v7 v8 v9 (cvT l1))) v6 v7 v8 (IntKind.wrap .i64 (v9 + 1)))) else .stuck) else (.to (.h2 v5 v6 v7 (IntKind.wrap .i64 (v8 + 1))))) else .stuck)
def y0o (l0 : List R6) (l1 : List R6) : Xg rrcS := (.to (.h0 0 0))
theorem x0z (l0 : List R6) (l1 : List R6) : ∀ s, Xt Tryz.prog (Zy Tryz.prog 59) (rrcC l0 l1) (rrcC l0 l1 s) (Wm l0 l1 s)
 | .h0 v5 v6 => (lb (fun k0 => (lo fun o0 => (sl Qm 24 [] ⟨[], [], rrcN1, rrcM1⟩ ⟨[], [], []⟩ [true] (ww o0 (tt k0 nn))))) (fun k0 => (lr 73 3 [1, 1, 1, 1, 1, 1, 0] 1 3 [(4, (ii v5))] (sl Qm 15 [] ⟨[], [], [some [4]], []⟩ ⟨[], [], []⟩ [false] (tt k0 nn)))))
 | .h1 v5 v6 v7 => (lo fun o0_0 => (lb (fun k0 => (sl Qm 28 [] ⟨[], [], rrcN2, rrcM2⟩ ⟨[], [], []⟩ [true] (ww o0_0 (tt k0 (ww o0_0 nn))))) (fun k0 => (sl Qm 21 [] ⟨[], [], rrcN0, rrcM0⟩ ⟨[], [], []⟩ [false] (tt k0 (ww o0_0 nn))))))
 | .h2 v5 v6 v7 v8 => (lo fun o0_0 => (lb (fun k0 => (sl Qm 28 [] ⟨[], [], rrcN3, rrcM3⟩ ⟨[], [], []⟩ [true] (ww o0_0 (tt k0 (ww o0_0 nn))))) (fun k0 => (sl Qm 21 [] ⟨[], [], rrcN1, rrcM1⟩ ⟨[], [], []⟩ [false] (tt k0 (ww o0_0 nn))))))
 | .h3 v5 v6 v7 v8 v9 => (lo fun o0_0 => (lb (fun k0 => (lo fun o0 => (sl Qm 34 [] ⟨[], [], rrcN3, rrcM3⟩ ⟨[], [], []⟩ [true] (pp (pp (xr l1) (xw o0)) (tt k0 (ww o0_0 nn)))))) (fun k0 => (sl Qm 21 [] ⟨[], [], rrcN2, rrcM2⟩ ⟨[], [], []⟩ [false] (tt k0 (ww o0_0 nn))))))
theorem y5p (l0 : List R6) (l1 : List R6) : Xt Tryz.prog (Zy Tryz.prog 59) (rrcC l0 l1) (Zd Tryz.prog 59 [(.dat l0.length (Zz l0)), (.dat l1.length (Zz l1))] true []) (y0o l0 l1) := (sl Qm 15 [] ⟨[], [], rrcN0, rrcM0⟩ ⟨[], [], []⟩ [] nn)
theorem x8s (l0 : List R6) (l1 : List R6) (n : Nat) (vs : List AVal) (h : Yk (Wm l0 l1) n (y0o l0 l1) = .ret vs) : Kz Tryz.prog (Zy Tryz.prog 59) (Zd Tryz.prog 59 [(.dat l0.length (Zz l0)), (.dat l1.length (Zz l1))] true []) vs := by
 have := Zr (x0z l0 l1) n _ (y5p l0 l1)
 rwa [h] at this
inductive nr39S where
 | h0 (v3 : Int)
def w6q (l0 : List R6) : nr39S → Cfg
 | .h0 v3 => ⟨⟨103, 0, true⟩, none, (Zi Tryz.prog 15 [1, 1, 0, 1, 0, 0] 0), none, (Zy Tryz.prog 15), ⟨Yo [(0, (.dat l0.length (Zz l0))), (3, (ii v3))], Uz [] 0, 0, [], true⟩, [], .leaf⟩
def w3q : List (Option (List Nat)) := [some [0, 3]]
def w3r : List (Option (List Nat)) := []
def z0g (l0 : List R6) : nr39S → Xg nr39S
 | .h0 v3 => (bif (decide (v3 < (l0.length : Int))) then (bif ((decide (0 ≤ v3 ∧ v3 < (l0.length : Int))) && true) then (bif (decide ((Jv (Jv (rd l0 v3.toNat).a (rd l0 v3.toNat).b) (rd l0 v3.toNat).c) < (-12))) then (.ret [(.bool false)]) else (bif (decide ((Ww (Ww (rd l0 v3.toNat).d (rd l0 v3.toNat).e) (rd l0 v3.toNat).f) > 12)) then (.ret [(.bool false)]) else (bif (decide ((Jv (Jv (rd l0 v3.toNat).d (rd l0 v3.toNat).e) (rd l0 v3.toNat).f) < (-12))) then (.ret [(.bool false)]) else (bif (decide ((Ww (Ww (rd l0 v3.toNat).a (rd l0 v3.toNat).b) (rd l0 v3.toNat).c) > 12)) then (.ret [(.bool false)]) else (.to (.h0 (IntKind.wrap .i64 (v3 + 1)))))))) else .stuck) else (.ret [(.bool (decide ((l0.length : Int) ≤ 6)))]))
def z2p (l0 : List R6) : Xg nr39S := (bif (decide ((l0.length : Int) > 400)) then (.ret [(.bool (decide ((l0.length : Int) ≤ 420)))]) else (.to (.h0 0)))
theorem y6j (l0 : List R6) : ∀ s, Xt Tryz.prog (Zy Tryz.prog 15) (w6q l0) (w6q l0 s) (z0g l0 s)
 | .h0 v3 => (lb (fun k0 => (lo fun o1_0 => (lb (fun k1 => (lr 103 15 [1, 1, 0, 1, 0, 0, 1, 0, 0, 0, 1, 0, 0] 1 15 [(2, (.bool false))] (sl Qm 20 [] ⟨[], [], [some [2]], []⟩ ⟨[], [], []⟩ (trs 22 []) (tt k1 (ww o1_0 (ww o1_0 (ww o1_0 (tt k0 nn)))))))) (fun k1 => (lb (fun k2 => (lr 103 15 [1, 1, 0, 1, 0, 0, 1, 0, 0, 0, 1, 0, 0] 1 15 [(2, (.bool false))] (sl Qm 20 [] ⟨[], [], [some [2]], []⟩ ⟨[], [], []⟩ [true, false, false, false, false, false, false, false, false, false, false, false, false, false, false, false, false, false, false, false, false, true] (tt k2 (ww o1_0 (ww o1_0 (ww o1_0 (tt k1 (ww o1_0 (ww o1_0 (ww o1_0 (tt k0 nn)))))))))))) (fun k2 => (lb (fun k3 => (lr 103 15 [1, 1, 0, 1, 0, 0, 1, 0, 0, 1, 1, 0, 0] 1 15 [(2, (.bool false))] (sl Qm 24 [] ⟨[], [], [some [2]], []⟩ ⟨[], [], []⟩ [true, false, false, false, false, false, false, false, false, false, false, false, false, false, false, false, false, false, false, false, false, false, true, true, true, true, true, true, true, true, true, true, true, true, true, true, true, true, true, true, true, true, true] (tt k3 (ww o1_0 (ww o1_0 (ww o1_0 (tt k2 (ww o1_0 (ww o1_0 (ww o1_0 (tt k1 (ww o1_0 (ww o1_0 (ww o1_0 (tt k0 nn)))))))))))))))) (fun k3 => (lb (fun k4 => (lr 103 15 [1, 1, 0, 1, 0, 0, 1, 0, 0, 1, 1, 0, 0] 1 15 [(2, (.bool false))] (sl Qm 24 [] ⟨[], [], [some [2]], []⟩ ⟨[], [], []⟩ [true, false, false, false, false, false, false, false, false, false, false, false, false, false, false, false, false, false, false, false, false, false, false, false, false, false, false, false, false, false, false, false, false, false, false, false, false, false, false, false, false, false, true] (tt k4 (ww o1_0 (ww o1_0 (ww o1_0 (tt k3 (ww o1_0 (ww o1_0 (ww o1_0 (tt k2 (ww o1_0 (ww o1_0 (ww o1_0 (tt k1 (ww o1_0 (ww o1_0 (ww o1_0 (tt k0 nn)))))))))))))))))))) (fun k4 => (sl Qm 28 [] ⟨[], [], w3q, w3r⟩ ⟨[], [], []⟩ [true, false, false, false, false, false, false, false, false, false, false, false, false, false, false, false, false, false, false, false, false, false, false, false, false, false, false, false, false, false, false, false, false, false, false, false, false, false, false, false, false, false, false] (tt k4 (ww o1_0 (ww o1_0 (ww o1_0 (tt k3 (ww o1_0 (ww o1_0 (ww o1_0 (tt k2 (ww o1_0 (ww o1_0 (ww o1_0 (tt k1 (ww o1_0 (ww o1_0 (ww o1_0 (tt k0 nn)))))))))))))))))))))))))))) (fun k0 => (lr 103 3 [1, 1, 1, 1, 1, 1, 0] 1 15 [(2, (.bool (decide ((l0.length : Int) ≤ 6))))] (sl Qm 17 [] ⟨[], [], [some [2]], []⟩ ⟨[], [], []⟩ [false] (tt k0 nn)))))
theorem y2z (l0 : List R6) : Xt Tryz.prog (Zy Tryz.prog 15) (w6q l0) (Zd Tryz.prog 15 [(.dat l0.length (Zz l0))] true []) (z2p l0) := (lb (fun k0 => (lr 103 15 [1, 0, 1, 0, 0] 1 15 [(2, (.bool (decide ((l0.length : Int) ≤ 420))))] (sl Qm 19 [] ⟨[], [], [some [2]], []⟩ ⟨[], [], []⟩ [true] (tt k0 nn)))) (fun k0 => (sl Qm 20 [] ⟨[], [], w3q, w3r⟩ ⟨[], [], []⟩ [false] (tt k0 nn))))
theorem x5o (l0 : List R6) (n : Nat) (vs : List AVal) (h : Yk (z0g l0) n (z2p l0) = .ret vs) : Kz Tryz.prog (Zy Tryz.prog 15) (Zd Tryz.prog 15 [(.dat l0.length (Zz l0))] true []) vs := by
 have := Zr (y6j l0) n _ (y2z l0)
 rwa [h] at this
end Go.Am
namespace Go.Am
open Go.Proofs
def lpI (g : Int → Int → Int) : Nat → Int → Int → Int
 | 0, _, d => d
 | n + 1, z, d => lpI g n (z + 1) (g z d)
def rgZ (L1 : List R6) (r : R6) (x y d : Int) : Int := lpI (fun z d => Ww d (y4r x y z L1)) (r.f - r.c).toNat r.c d
def rgY (L1 : List R6) (r : R6) (x d : Int) : Int := lpI (fun y d => rgZ L1 r x y d) (r.e - r.b).toNat r.b d
def rgX (L1 : List R6) (r : R6) (d : Int) : Int := lpI (fun x d => rgY L1 r x d) (r.d - r.a).toNat r.a d
def rrcF (L1 : List R6) : List R6 → Int → Int
 | [], d => d
 | r :: l, d => rrcF L1 l (rgX L1 r d)
def y1x (L0 L1 : List R6) : Int := rrcF L1 L0 0
def smR (r : R6) : Bool := decide (-1000000000 ≤ r.a) && (decide (-1000000000 ≤ r.b) && (decide (-1000000000 ≤ r.c) && (decide (r.d ≤ 1000000000) && (decide (r.e ≤ 1000000000) && decide (r.f ≤ 1000000000)))))
def Vj (L0 L1 : List R6) : Bool := decide (0 < L1.length) && (decide (L1.length ≤ 100000) && (decide (L0.length ≤ 100000) && L0.all smR))
theorem z5j {r : R6} (h : smR r = true) : (-1000000000 ≤ r.a ∧ -1000000000 ≤ r.b ∧ -1000000000 ≤ r.c) ∧ r.d ≤ 1000000000 ∧ r.e ≤ 1000000000 ∧ r.f ≤ 1000000000 := by
 simp only [smR, Bool.and_eq_true, decide_eq_true_eq] at h; omega
theorem w2v {L0 L1 : List R6} (h1 : 0 < L1.length ∧ L1.length ≤ 100000) {i : Nat} (hi : i < L0.length ∧ L0.length ≤ 100000) (hs : smR (rd L0 i) = true) (x y : Int) : ∀ (k : Nat) (z d : Int), -1000000000 ≤ z → ((rd L0 i).f - z).toNat = k → ∃ N, ∀ M, Yk (Wm L0 L1) (M + N) (.to (.h3 d (i : Int) x y z)) = Yk (Wm L0 L1) M (.to (.h2 (lpI (fun z d => Ww d (y4r x y z L1)) k z d) (i : Int) x (IntKind.wrap .i64 (y + 1))))
 | 0, z, d, hz, hk => by
  have hi := hi
  refine ⟨1, fun M => ?_⟩
  rw [Zv]
  simp (disch := omega) only [Wm, Yv, Yx, Zk, Bool.and_true, cond_true, cond_false, lpI]
 | k + 1, z, d, hz, hk => by
  have hh := z5j hs
  have ho : ∀ x y z, Kk x y z L1 = true := fun x y z => by unfold Kk; rw [Ya h1.1, Yj h1.2]; rfl
  obtain ⟨N, hN⟩ := w2v h1 hi hs x y k (z + 1) (Ww d (y4r x y z L1)) (by omega) (by omega)
  have hi := hi
  have hw : IntKind.wrap .i64 (z + 1) = z + 1 := Zq (by omega)
  refine ⟨N + 1, fun M => ?_⟩
  rw [← Nat.add_assoc, Zv]
  simp (disch := omega) only [Wm, Yy, Yx, Zk, Zo, ho, hw, Bool.and_true, cond_true, lpI]
  exact hN M
theorem w2w {L0 L1 : List R6} (h1 : 0 < L1.length ∧ L1.length ≤ 100000) {i : Nat} (hi : i < L0.length ∧ L0.length ≤ 100000) (hs : smR (rd L0 i) = true) (x : Int) : ∀ (k : Nat) (y d : Int), -1000000000 ≤ y → ((rd L0 i).e - y).toNat = k → ∃ N, ∀ M, Yk (Wm L0 L1) (M + N) (.to (.h2 d (i : Int) x y)) = Yk (Wm L0 L1) M (.to (.h1 (lpI (fun y d => rgZ L1 (rd L0 i) x y d) k y d) (i : Int) (IntKind.wrap .i64 (x + 1))))
 | 0, y, d, hy, hk => by
  have hi := hi
  refine ⟨1, fun M => ?_⟩
  rw [Zv]
  simp (disch := omega) only [Wm, Yv, Yx, Zk, Bool.and_true, cond_true, cond_false, lpI]
 | k + 1, y, d, hy, hk => by
  have hh := z5j hs
  obtain ⟨N, hN⟩ := w2w h1 hi hs x k (y + 1) (rgZ L1 (rd L0 i) x y d) (by omega) (by omega)
  obtain ⟨N', hN'⟩ := w2v h1 hi hs x y ((rd L0 i).f - (rd L0 i).c).toNat (rd L0 i).c d (by omega) rfl
  have hi := hi
  have hw : IntKind.wrap .i64 (y + 1) = y + 1 := Zq (by omega)
  refine ⟨N + N' + 1, fun M => ?_⟩
  rw [← Nat.add_assoc, Zv]
  simp (disch := omega) only [Wm, Yy, Yx, Zk, Bool.and_true, cond_true, lpI]
  rw [← Nat.add_assoc, hN', hw]
  exact hN M
theorem w2x {L0 L1 : List R6} (h1 : 0 < L1.length ∧ L1.length ≤ 100000) {i : Nat} (hi : i < L0.length ∧ L0.length ≤ 100000) (hs : smR (rd L0 i) = true)  : ∀ (k : Nat) (x d : Int), -1000000000 ≤ x → ((rd L0 i).d - x).toNat = k → ∃ N, ∀ M, Yk (Wm L0 L1) (M + N) (.to (.h1 d (i : Int) x)) = Yk (Wm L0 L1) M (.to (.h0 (lpI (fun x d => rgY L1 (rd L0 i) x d) k x d) ((i + 1 : Nat) : Int)))
 | 0, x, d, hx, hk => by
  have hi := hi
  have hw : IntKind.wrap .i64 ((i : Int) + 1) = ((i + 1 : Nat) : Int) := Zq (by omega)
  refine ⟨1, fun M => ?_⟩
  rw [Zv]
  simp (disch := omega) only [Wm, Yv, Yx, Zk, hw, Bool.and_true, cond_true, cond_false, lpI]
 | k + 1, x, d, hx, hk => by
  have hh := z5j hs
  obtain ⟨N, hN⟩ := w2x h1 hi hs k (x + 1) (rgY L1 (rd L0 i) x d) (by omega) (by omega)
  obtain ⟨N', hN'⟩ := w2w h1 hi hs x ((rd L0 i).e - (rd L0 i).b).toNat (rd L0 i).b d (by omega) rfl
  have hi := hi
  have hw : IntKind.wrap .i64 (x + 1) = x + 1 := Zq (by omega)
  refine ⟨N + N' + 1, fun M => ?_⟩
  rw [← Nat.add_assoc, Zv]
  simp (disch := omega) only [Wm, Yy, Yx, Zk, Bool.and_true, cond_true, lpI]
  rw [← Nat.add_assoc, hN', hw]
  exact hN M
theorem w2y {L0 L1 : List R6} (h1 : 0 < L1.length ∧ L1.length ≤ 100000) (h0 : L0.length ≤ 100000) (hs : ∀ r ∈ L0, smR r = true) : ∀ (k i : Nat) (d : Int), i + k = L0.length → ∃ N, Yk (Wm L0 L1) N (.to (.h0 d (i : Int))) = .ret [.int .i64 (rrcF L1 (L0.drop i) d)]
 | 0, i, d, h => by
  refine ⟨1, ?_⟩
  rw [Zv, List.drop_eq_nil_of_le (by omega)]
  simp (disch := omega) only [Wm, Yv, cond_false]; rfl
 | k + 1, i, d, h => by
  have hi : i < L0.length := by omega
  have hr : smR (rd L0 i) = true := hs _ (by rw [Xe hi]; exact List.getElem_mem hi)
  have hh := z5j hr
  obtain ⟨N, hN⟩ := w2y h1 h0 hs k (i + 1) (rgX L1 (rd L0 i) d) (by omega)
  obtain ⟨N', hN'⟩ := w2x h1 ⟨hi, h0⟩ hr ((rd L0 i).d - (rd L0 i).a).toNat (rd L0 i).a d (by omega) rfl
  refine ⟨N + N' + 1, ?_⟩
  rw [Zv, Yd hi]
  simp (disch := omega) only [Wm, Yy, Yx, Zk, Bool.and_true, cond_true]
  rw [hN']
  exact hN
theorem w5t (L0 L1 : List R6) (h : Vj L0 L1 = true) : ∃ N, Yk (Wm L0 L1) N (y0o L0 L1) = .ret [.int .i64 (y1x L0 L1)] := by
 simp only [Vj, Bool.and_eq_true, decide_eq_true_eq, List.all_eq_true] at h
 exact w2y ⟨h.1, h.2.1⟩ h.2.2.1 h.2.2.2 L0.length 0 0 (Nat.zero_add _)
def w6r (r : R6) : Bool := !decide (Jv (Jv r.a r.b) r.c < (-12)) && (!decide (Ww (Ww r.d r.e) r.f > 12) && (!decide (Jv (Jv r.d r.e) r.f < (-12)) && !decide (Ww (Ww r.a r.b) r.c > 12)))
def y6k (L : List R6) : Bool := bif decide ((L.length : Int) > 400) then decide ((L.length : Int) ≤ 420) else L.all w6r && decide ((L.length : Int) ≤ 6)
def Ku (L : List R6) : Bool := true
theorem x5n {L : List R6} (hl : L.length ≤ 400) : ∀ (k i : Nat), i + k = L.length → ∃ N, Yk (z0g L) N (.to (.h0 (i : Int))) = .ret [.bool ((L.drop i).all w6r && decide ((L.length : Int) ≤ 6))]
 | 0, i, h => by
  refine ⟨1, ?_⟩
  rw [Zv, List.drop_eq_nil_of_le (by omega)]
  simp (disch := omega) only [z0g, Yv, cond_false]; rfl
 | k + 1, i, h => by
  have hi : i < L.length := by omega
  obtain ⟨N, hN⟩ := x5n hl k (i + 1) (by omega)
  have hw : IntKind.wrap .i64 ((i : Int) + 1) = ((i + 1 : Nat) : Int) := Zq (by omega)
  refine ⟨N + 1, ?_⟩
  rw [Zv, Yd hi]
  simp (disch := omega) only [z0g, Yy, Yx, hw, Zk, Bool.and_true, cond_true, List.all_cons]
  unfold w6r
  cases decide (Jv (Jv (rd L i).a (rd L i).b) (rd L i).c < (-12)) <;> cases decide (Ww (Ww (rd L i).d (rd L i).e) (rd L i).f > 12) <;> cases decide (Jv (Jv (rd L i).d (rd L i).e) (rd L i).f < (-12)) <;> cases decide (Ww (Ww (rd L i).a (rd L i).b) (rd L i).c > 12) <;> first | exact Zm _ _ _ | exact hN
theorem x9o (L : List R6) (h : Ku L = true) : ∃ N, Yk (z0g L) N (z2p L) = .ret [.bool (y6k L)] := by
 unfold z2p y6k
 by_cases hl : L.length ≤ 400
 ·obtain ⟨N, hN⟩ := x5n hl L.length 0 (Nat.zero_add _)
  refine ⟨N, ?_⟩
  rw [Xx (by omega), cond_false, cond_false]; exact hN
 ·refine ⟨0, ?_⟩
  rw [Yh (by omega)]; rfl
def fRrc : List AVal → Option (AVal × Bool)
 | [a0, a1] => match asL R6 a0, asL R6 a1 with
  | some (L0, g0, n0), some (L1, g1, n1) => some (.int .i64 (y1x L0 L1), isT R6 n0 g0 && (isT R6 n1 g1 && (Vj L0 L1)))
  | _, _ => none
 | _ => none
theorem w7q {S : Specs} (hS : Zu Tryz.prog S) : Zu Tryz.prog (S.with y3d fRrc) := by
 refine z1t hS (by kernel_rfl) fun args v h => ?_
 unfold fRrc at h
 split at h
 ·rename_i a0 a1
  split at h
  ·rename_i L0 g0 n0 L1 g1 n1 e0 e1
   simp only [Option.some.injEq, Prod.mk.injEq, Bool.and_eq_true] at h
   obtain ⟨rfl, ho0, ho1, hw⟩ := h
   obtain ⟨N, hN⟩ := w5t L0 L1 hw
   exact ⟨_, _, (.cons (asL_le e0 ho0) (.cons (asL_le e1 ho1) .nil)), rfl, x8s L0 L1 N _ hN, 3, rfl⟩
  ·cases h
 ·cases h
def w7v : List AVal → Option (AVal × Bool)
 | [a0] => match asL R6 a0 with
  | some (L0, g0, n0) => some (.bool (y6k L0), isT R6 n0 g0 && (Ku L0))
  | _ => none
 | _ => none
theorem w0r {S : Specs} (hS : Zu Tryz.prog S) : Zu Tryz.prog (S.with x5u w7v) := by
 refine z1t hS (by kernel_rfl) fun args v h => ?_
 unfold w7v at h
 split at h
 ·rename_i a0
  split at h
  ·rename_i L0 g0 n0 e0
   simp only [Option.some.injEq, Prod.mk.injEq, Bool.and_eq_true] at h
   obtain ⟨rfl, ho0, hw⟩ := h
   obtain ⟨N, hN⟩ := x9o L0 hw
   exact ⟨_, _, (.cons (asL_le e0 ho0) .nil), rfl, x5o L0 N _ hN, 3, rfl⟩
  ·cases h
 ·cases h
def Dc : Specs := ((Db.with y3d fRrc).with x5u w7v)
theorem Wi : Zu Tryz.prog Dc := (w0r (w7q Qm))
end Go.Am
namespace Go.Am
open Go.Proofs Go.Sort Go.Shelf Go.RowKit Go.Lib
def pt (L : List R2) (y : Int) : Prop := ∃ s ∈ L, s.a ≤ y ∧ y < s.b
structure Can (L : List R2) : Prop where
 pos : ∀ s ∈ L, s.a < s.b
 sep : L.Pairwise fun s t => s.b < t.a
theorem Can.nil : Can [] := ⟨by simp, .nil⟩
theorem Can.tail {s : R2} {L : List R2} (h : Can (s :: L)) : Can L := ⟨fun t ht => h.pos t (List.mem_cons_of_mem _ ht), (List.pairwise_cons.1 h.sep).2⟩
theorem Can.head {s : R2} {L : List R2} (h : Can (s :: L)) : ∀ t ∈ L, s.b < t.a := (List.pairwise_cons.1 h.sep).1
theorem w4q {s : R2} {L : List R2} (h : Can (s :: L)) {y : Int} (hy : pt (s :: L) y) : s.a ≤ y := by
 obtain ⟨t, ht, h1, h2⟩ := hy
 rcases List.mem_cons.1 ht with rfl | ht
 ·exact h1
 ·have := h.head t ht; have := h.pos s (by simp); omega
theorem w4r : ∀ (L M : List R2), Can L → Can M → (∀ y, pt L y ↔ pt M y) → L = M
 | [], [], _, _, _ => rfl
 | [], t :: M, _, hM, h => by
  have := (h t.a).2 ⟨t, by simp, Int.le_refl _, hM.pos t (by simp)⟩
  obtain ⟨s, hs, _⟩ := this; cases hs
 | s :: L, [], hL, _, h => by
  have := (h s.a).1 ⟨s, by simp, Int.le_refl _, hL.pos s (by simp)⟩
  obtain ⟨s, hs, _⟩ := this; cases hs
 | s :: L, t :: M, hL, hM, h => by
  have p1 := hL.pos s (by simp)
  have p2 := hM.pos t (by simp)
  have a1 : t.a ≤ s.a := w4q hM ((h s.a).1 ⟨s, by simp, Int.le_refl _, p1⟩)
  have a2 : s.a ≤ t.a := w4q hL ((h t.a).2 ⟨t, by simp, Int.le_refl _, p2⟩)
  have b1 : ¬ s.b < t.b := fun hb => by
   obtain ⟨u, hu, h1, h2⟩ := (h s.b).2 ⟨t, by simp, by omega, hb⟩
   rcases List.mem_cons.1 hu with rfl | hu
   ·omega
   ·have := hL.head u hu; omega
  have b2 : ¬ t.b < s.b := fun hb => by
   obtain ⟨u, hu, h1, h2⟩ := (h t.b).1 ⟨s, by simp, by omega, hb⟩
   rcases List.mem_cons.1 hu with rfl | hu
   ·omega
   ·have := hM.head u hu; omega
  have e : s = t := by
   obtain ⟨sa, sb⟩ := s; obtain ⟨ta, tb⟩ := t
   simp only at a1 a2 b1 b2
   have : sa = ta := by omega
   have : sb = tb := by omega
   subst_vars; rfl
  subst e
  congr 1
  refine w4r L M hL.tail hM.tail fun y => ⟨fun hy => ?_, fun hy => ?_⟩
  ·obtain ⟨u, hu, h1, h2⟩ := hy
   have g := hL.head u hu
   obtain ⟨v, hv, h3, h4⟩ := (h y).1 ⟨u, by simp [hu], h1, h2⟩
   rcases List.mem_cons.1 hv with rfl | hv
   ·omega
   ·exact ⟨v, hv, h3, h4⟩
  ·obtain ⟨u, hu, h1, h2⟩ := hy
   have g := hM.head u hu
   obtain ⟨v, hv, h3, h4⟩ := (h y).2 ⟨u, by simp [hu], h1, h2⟩
   rcases List.mem_cons.1 hv with rfl | hv
   ·omega
   ·exact ⟨v, hv, h3, h4⟩
def push (out : List R2) (x x' : Int) : List R2 :=
 bif decide (0 < out.length) && ((rd out (out.length - 1)).b == x) then out.set (out.length - 1) ⟨(rd out (out.length - 1)).a, x'⟩ else out ++ [⟨x, x'⟩]
theorem x5i (out : List R2) (s : R2) (x x' : Int) : push (out ++ [s]) x x' = bif s.b == x then out ++ [⟨s.a, x'⟩] else out ++ [s] ++ [⟨x, x'⟩] := by
 have e : rd (out ++ [s]) ((out ++ [s]).length - 1) = s := by
  rw [Wa (by simp)]; simp [rd]
 unfold push
 rw [e, decide_eq_true (by simp), Bool.true_and]
 cases (s.b == x)
 ·rfl
 ·simp
theorem y8z {out : List R2} {x x' : Int} (hc : Can out) (hb : ∀ s ∈ out, s.b ≤ x) (hx : x < x') :
  Can (push out x x') ∧ (∀ s ∈ push out x x', s.b ≤ x') ∧ ∀ y, pt (push out x x') y ↔ pt out y ∨ (x ≤ y ∧ y < x') := by
 rcases List.eq_nil_or_concat out with rfl | ⟨L, s, rfl⟩
 ·refine ⟨⟨?_, ?_⟩, ?_, fun y => ?_⟩
  ·intro s hs; simp [push] at hs; subst hs; exact hx
  ·simp [push]
  ·intro s hs; simp [push] at hs; subst hs; exact Int.le_refl _
  ·simp [push, pt]
 ·rw [List.concat_eq_append] at *
  rw [x5i]
  have hs := hb s (by simp)
  have hp := hc.pos s (by simp)
  have sep := List.pairwise_append.1 hc.sep
  rcases Yp (s.b == x) with q | q
  ·rw [q, cond_true]
   have q : s.b = x := by simpa using q
   refine ⟨⟨?_, ?_⟩, ?_, fun y => ?_⟩
   ·intro t ht
    rcases List.mem_append.1 ht with ht | ht
    ·exact hc.pos t (by simp [ht])
    ·rw [List.mem_singleton.1 ht]; show s.a < x'; omega
   ·refine List.pairwise_append.2 ⟨sep.1, List.pairwise_singleton _ _, fun t ht u hu => ?_⟩
    rw [List.mem_singleton.1 hu]
    exact sep.2.2 t ht s (by simp)
   ·intro t ht
    rcases List.mem_append.1 ht with ht | ht
    ·have := hb t (by simp [ht]); omega
    ·rw [List.mem_singleton.1 ht]; exact Int.le_refl _
   ·constructor
    ·rintro ⟨t, ht, h1, h2⟩
     rcases List.mem_append.1 ht with ht | ht
     ·exact .inl ⟨t, by simp [ht], h1, h2⟩
     ·rw [List.mem_singleton.1 ht] at h1 h2
      by_cases hy : y < s.b
      ·exact .inl ⟨s, by simp, h1, hy⟩
      ·exact .inr ⟨by omega, h2⟩
    ·rintro (⟨t, ht, h1, h2⟩ | ⟨h1, h2⟩)
     ·rcases List.mem_append.1 ht with ht | ht
      ·exact ⟨t, by simp [ht], h1, h2⟩
      ·rw [List.mem_singleton.1 ht] at h1 h2
       exact ⟨⟨s.a, x'⟩, by simp, h1, by show y < x'; omega⟩
     ·exact ⟨⟨s.a, x'⟩, by simp, by show s.a ≤ y; omega, h2⟩
  ·rw [q, cond_false]
   have q : s.b ≠ x := by simpa using q
   refine ⟨⟨?_, ?_⟩, ?_, fun y => ?_⟩
   ·intro t ht
    rcases List.mem_append.1 ht with ht | ht
    ·exact hc.pos t ht
    ·rw [List.mem_singleton.1 ht]; exact hx
   ·refine List.pairwise_append.2 ⟨hc.sep, List.pairwise_singleton _ _, fun t ht u hu => ?_⟩
    rw [List.mem_singleton.1 hu]
    show t.b < x
    rcases List.mem_append.1 ht with h | h
    ·have h1 := sep.2.2 t h s (by simp); omega
    ·rw [List.mem_singleton.1 h]; omega
   ·intro t ht
    rcases List.mem_append.1 ht with ht | ht
    ·have := hb t ht; omega
    ·rw [List.mem_singleton.1 ht]; exact Int.le_refl _
   ·constructor
    ·rintro ⟨t, ht, h1, h2⟩
     rcases List.mem_append.1 ht with ht | ht
     ·exact .inl ⟨t, ht, h1, h2⟩
     ·rw [List.mem_singleton.1 ht] at h1 h2
      exact .inr ⟨h1, h2⟩
    ·rintro (⟨t, ht, h1, h2⟩ | ⟨h1, h2⟩)
     ·exact ⟨t, List.mem_append.2 (.inl ht), h1, h2⟩
     ·exact ⟨⟨x, x'⟩, by simp, h1, h2⟩
theorem x9z {l : List Int} (h : l.Pairwise (· < ·)) {i j : Nat} (hij : i < j) (hj : j < l.length) : rd l i < rd l j := by
 rw [Xe (by omega), Xe hj]
 exact List.pairwise_iff_getElem.1 h i j (by omega) hj hij
theorem y1l (cuts : List Int) (ins : List Bool) (hc : cuts.Pairwise (· < ·)) : ∀ (k i : Nat) (out : List R2), i + k < cuts.length ∨ k = 0 → Can out → (∀ s ∈ out, s.b ≤ rd cuts i) →
  Can (x3d cuts ins k i out) ∧ ∀ y, pt (x3d cuts ins k i out) y ↔ pt out y ∨ ∃ j, i ≤ j ∧ j < i + k ∧ rd ins j = true ∧ rd cuts j ≤ y ∧ y < rd cuts (j + 1)
 | 0, i, out, h, ho, hb => ⟨ho, fun y => ⟨.inl, fun hy => hy.elim id fun ⟨j, h1, h2, _⟩ => by omega⟩⟩
 | k + 1, i, out, h, ho, hb => by
  have hlt : rd cuts i < rd cuts (i + 1) := x9z hc (Nat.lt_succ_self _) (by omega)
  obtain ⟨p1, p2, p3⟩ := y8z ho hb hlt
  have e : x3d cuts ins (k + 1) i out = x3d cuts ins k (i + 1) (bif rd ins i then push out (rd cuts i) (rd cuts (i + 1)) else out) := rfl
  rw [e]
  rcases Yp (rd ins i) with q | q
  ·rw [q, cond_true]
   obtain ⟨r1, r2⟩ := y1l cuts ins hc k (i + 1) (push out (rd cuts i) (rd cuts (i + 1))) (by omega) p1 p2
   refine ⟨r1, fun y => ?_⟩
   rw [r2, p3]
   constructor
   ·rintro ((h | h) | ⟨j, h1, h2, h3⟩)
    ·exact .inl h
    ·exact .inr ⟨i, Nat.le_refl _, by omega, q, h⟩
    ·exact .inr ⟨j, by omega, by omega, h3⟩
   ·rintro (h | ⟨j, h1, h2, h3⟩)
    ·exact .inl (.inl h)
    ·rcases Nat.eq_or_lt_of_le h1 with rfl | h1
     ·exact .inl (.inr h3.2)
     ·exact .inr ⟨j, h1, by omega, h3⟩
  ·rw [q, cond_false]
   obtain ⟨r1, r2⟩ := y1l cuts ins hc k (i + 1) out (by omega) ho (fun s hs => by have := hb s hs; omega)
   refine ⟨r1, fun y => ?_⟩
   rw [r2]
   constructor
   ·rintro (h | ⟨j, h1, h2, h3⟩)
    ·exact .inl h
    ·exact .inr ⟨j, by omega, by omega, h3⟩
   ·rintro (h | ⟨j, h1, h2, h3⟩)
    ·exact .inl h
    ·rcases Nat.eq_or_lt_of_le h1 with rfl | h1
     ·rw [q] at h3; cases h3.1
     ·exact .inr ⟨j, h1, by omega, h3⟩
theorem x7d {cuts : List Int} : ∀ (k : Nat), k < cuts.length → ∀ y, rd cuts 0 ≤ y → y < rd cuts k → ∃ j, j < k ∧ rd cuts j ≤ y ∧ y < rd cuts (j + 1)
 | 0, _, y, h1, h2 => by omega
 | k + 1, hk, y, h1, h2 => by
  by_cases h : rd cuts k ≤ y
  ·exact ⟨k, Nat.lt_succ_self _, h, h2⟩
  ·obtain ⟨j, h3, h4⟩ := x7d k (by omega) y h1 (by omega)
   exact ⟨j, by omega, h4⟩
theorem w1v (cuts : List Int) (hc : cuts.Pairwise (· < ·)) (P : Int → Bool) (S : List R2) (hS : ∀ s ∈ S, s.a ∈ cuts ∧ s.b ∈ cuts) (hP : ∀ y, P y = true ↔ pt S y) :
  Can (z4w cuts (cuts.map P)) ∧ ∀ y, pt (z4w cuts (cuts.map P)) y ↔ pt S y := by
 obtain ⟨r1, r2⟩ := y1l cuts (cuts.map P) hc (cuts.length - 1) 0 [] (by omega) .nil (by simp)
 refine ⟨r1, fun y => ?_⟩
 unfold z4w
 rw [r2]
 have hin : ∀ x, x ∈ cuts → ∃ i, i < cuts.length ∧ rd cuts i = x := fun x hx => by
  obtain ⟨i, hi, h⟩ := List.getElem_of_mem hx
  exact ⟨i, hi, by rw [Xe hi]; exact h⟩
 have hmap : ∀ j, j < cuts.length → rd (cuts.map P) j = P (rd cuts j) := fun j hj => by
  rw [Xe (by simpa using hj), Xe hj, List.getElem_map]
 have le_of : ∀ i j, i < cuts.length → j < cuts.length → i ≤ j → rd cuts i ≤ rd cuts j := fun i j hi hj hij => by
  rcases Nat.eq_or_lt_of_le hij with rfl | h
  ·exact Int.le_refl _
  ·exact Int.le_of_lt (x9z hc h hj)
 constructor
 ·rintro (⟨s, hs, _⟩ | ⟨j, h1, h2, h3, h4, h5⟩)
  ·cases hs
  ·have hj : j + 1 < cuts.length := by omega
   rw [hmap j (by omega)] at h3
   obtain ⟨s, hs, a1, a2⟩ := (hP _).1 h3
   obtain ⟨ca, cb⟩ := hS s hs
   obtain ⟨m, hm, em⟩ := hin s.b cb
   refine ⟨s, hs, by omega, ?_⟩
   have : j < m := by
    rcases Nat.lt_or_ge j m with h | h
    ·exact h
    ·have := le_of m j hm (by omega) h; omega
   have := le_of (j + 1) m hj hm this
   omega
 ·rintro ⟨s, hs, a1, a2⟩
  right
  obtain ⟨ca, cb⟩ := hS s hs
  obtain ⟨n, hn, en⟩ := hin s.a ca
  obtain ⟨m, hm, em⟩ := hin s.b cb
  have h0 := le_of 0 n (by omega) hn (Nat.zero_le _)
  obtain ⟨j, h1, h2, h3⟩ := x7d m hm y (by omega) (by omega)
  refine ⟨j, Nat.zero_le _, by omega, ?_, h2, h3⟩
  rw [hmap j (by omega), hP]
  refine ⟨s, hs, ?_, ?_⟩
  ·have : n ≤ j := by
    rcases Nat.lt_or_ge j n with h | h
    ·have := le_of (j + 1) n (by omega) hn h; omega
    ·exact h
   have := le_of n j hn (by omega) this
   omega
  ·omega
end Go.Am
namespace Go.Am
open Go.Proofs Go.Sort Go.Shelf Go.RowKit Go.Lib
def net (E : List R3) (y : Int) : Int := (E.map fun e => if e.a ≤ y then e.c else 0).sum
theorem Um (e : R3) (E : List R3) (y : Int) : net (e :: E) y = (if e.a ≤ y then e.c else 0) + net E y := by simp [net]
theorem x9q {E F : List R3} (h : E.Perm F) (y : Int) : net E y = net F y := by
 induction h with
 | nil => rfl
 | cons e _ ih => rw [Um, Um, ih]
 | swap a b l => simp only [Um]; omega
 | trans _ _ i1 i2 => rw [i1, i2]
theorem y9a (E : List R3) (y : Int) (h : ∀ e ∈ E, y < e.a) : net E y = 0 := by
 induction E with
 | nil => rfl
 | cons e E ih =>
  rw [Um, if_neg (by have := h e (by simp); omega), ih fun f hf => h f (by simp [hf])]; rfl
theorem x7c (out : List R2) (last : Int) (inn : Bool) (x : Int) : Jo out last inn x = bif inn && !(last == x) then push out last x else out := by
 unfold Jo push
 cases inn
 ·rfl
 ·cases (last == x) <;> rfl
theorem x2l {out : List R2} {last x : Int} (inn : Bool) (hc : Can out) (hb : ∀ s ∈ out, s.b ≤ last) (hx : last ≤ x) :
  Can (Jo out last inn x) ∧ (∀ s ∈ Jo out last inn x, s.b ≤ x) ∧ ∀ y, pt (Jo out last inn x) y ↔ pt out y ∨ (inn = true ∧ last ≤ y ∧ y < x) := by
 rw [x7c]
 rcases Yp (inn && !(last == x)) with q | q
 ·rw [q, cond_true]
  simp only [Bool.and_eq_true, Bool.not_eq_true', beq_eq_false_iff_ne, ne_eq] at q
  obtain ⟨p1, p2, p3⟩ := y8z hc hb (show last < x by omega)
  refine ⟨p1, p2, fun y => ?_⟩
  rw [p3]; simp [q.1]
 ·rw [q, cond_false]
  refine ⟨hc, fun s hs => by have := hb s hs; omega, fun y => ⟨.inl, fun h => h.elim id fun ⟨h1, h2, h3⟩ => ?_⟩⟩
  rw [h1, Bool.true_and] at q
  have : last = x := by simpa using q
  omega
def Asc (E : List R3) : Prop := E.Pairwise fun e f => e.a ≤ f.a
theorem x3m : ∀ (E : List R3) (o last : Int) (out : List R2), Asc E → (∀ e ∈ E, last ≤ e.a) → Can out → (∀ s ∈ out, s.b ≤ last) →
  Can (swF E o last (decide (o > 0)) out) ∧ ∀ y, pt (swF E o last (decide (o > 0)) out) y ↔ pt out y ∨ (last ≤ y ∧ 0 < o + net E y ∧ ∃ e ∈ E, y < e.a)
 | [], o, last, out, _, _, hc, _ => ⟨hc, fun y => ⟨.inl, fun h => h.elim id fun ⟨_, _, e, he, _⟩ => by cases he⟩⟩
 | e :: r, o, last, out, hE, hl, hc, hb => by
  have he := hl e (by simp)
  have hr := List.pairwise_cons.1 hE
  obtain ⟨p1, p2, p3⟩ := x2l (decide (o > 0)) hc hb he
  obtain ⟨q1, q2⟩ := x3m r (o + e.c) e.a (Jo out last (decide (o > 0)) e.a) hr.2 hr.1 p1 p2
  rw [z5h]
  refine ⟨q1, fun y => ?_⟩
  rw [q2, p3, Um]
  constructor
  ·rintro ((h | ⟨h1, h2, h3⟩) | ⟨h1, h2, f, hf, h3⟩)
   ·exact .inl h
   ·right
    have h1 := of_decide_eq_true h1
    refine ⟨h2, ?_, e, by simp, h3⟩
    rw [if_neg (by omega), y9a r y fun f hf => by have := hr.1 f hf; omega]
    omega
   ·right
    refine ⟨by omega, ?_, f, by simp [hf], h3⟩
    rw [if_pos h1]; omega
  ·rintro (h | ⟨h1, h2, f, hf, h3⟩)
   ·exact .inl (.inl h)
   ·by_cases hy : e.a ≤ y
    ·right
     rw [if_pos hy] at h2
     refine ⟨hy, by omega, f, ?_, h3⟩
     rcases List.mem_cons.1 hf with rfl | hf
     ·omega
     ·exact hf
    ·left; right
     rw [if_neg hy, y9a r y fun f hf => by have := hr.1 f hf; omega] at h2
     exact ⟨decide_eq_true (by omega), h1, by omega⟩
theorem x9r (l : List R2) (hv : ∀ s ∈ l, s.a < s.b) (y : Int) : 0 ≤ net (Va l) y ∧ (0 < net (Va l) y ↔ pt l y) := by
 induction l with
 | nil => exact ⟨Int.le_refl _, by simp [net, Va, pt]⟩
 | cons s l ih =>
  obtain ⟨i1, i2⟩ := ih fun t ht => hv t (by simp [ht])
  have hs := hv s (by simp)
  have e : net (Va (s :: l)) y = (if s.a ≤ y ∧ y < s.b then 1 else 0) + net (Va l) y := by
   show net (⟨s.a, 0, 1⟩ :: ⟨s.b, 0, -1⟩ :: Va l) y = _
   rw [Um, Um]
   show (if s.a ≤ y then (1 : Int) else 0) + ((if s.b ≤ y then (-1 : Int) else 0) + net (Va l) y) = _
   by_cases h1 : s.a ≤ y
   ·by_cases h2 : s.b ≤ y
    ·rw [if_pos h1, if_pos h2, if_neg (show ¬ (s.a ≤ y ∧ y < s.b) by omega)]; omega
    ·rw [if_pos h1, if_neg h2, if_pos (show s.a ≤ y ∧ y < s.b by omega)]; omega
   ·rw [if_neg h1, if_neg (show ¬ s.b ≤ y by omega), if_neg (show ¬ (s.a ≤ y ∧ y < s.b) by omega)]; omega
  rw [e]
  by_cases h : s.a ≤ y ∧ y < s.b
  ·rw [if_pos h]
   exact ⟨by omega, ⟨fun _ => ⟨s, by simp, h⟩, fun _ => by omega⟩⟩
  ·rw [if_neg h]
   refine ⟨by omega, ?_⟩
   rw [Int.zero_add, i2]
   constructor
   ·rintro ⟨t, ht, h2⟩; exact ⟨t, by simp [ht], h2⟩
   ·rintro ⟨t, ht, h2⟩
    rcases List.mem_cons.1 ht with rfl | ht
    ·exact absurd h2 h
    ·exact ⟨t, ht, h2⟩
theorem z7r {l : List R2} {s : R2} (h : s ∈ l) : (⟨s.b, 0, -1⟩ : R3) ∈ Va l ∧ (⟨s.a, 0, 1⟩ : R3) ∈ Va l :=
 ⟨List.mem_flatMap.2 ⟨s, h, by simp⟩, List.mem_flatMap.2 ⟨s, h, by simp⟩⟩
theorem x8d (l : List R3) (h : y1z l = true) : Asc (z1s l) := by
 refine List.pairwise_iff_getElem.2 fun i j hi hj hij => ?_
 have := (Ky l h).2 i j hij hj
 rwa [Xe hi, Xe hj] at this
theorem x3l (l : List R2) (hv : l.all z8n = true) : Can (swV l) ∧ ∀ y, pt (swV l) y ↔ pt l y := by
 have hb : y1z (Va l) = true := List.all_eq_true.2 fun e he => by
  obtain ⟨s, hs, h1⟩ := List.mem_flatMap.1 he
  have hv := List.all_eq_true.1 hv s hs
  simp only [z8n, Bool.and_eq_true, decide_eq_true_eq] at hv
  simp only [List.mem_cons, List.not_mem_nil, or_false] at h1
  rcases h1 with rfl | rfl <;> exact decide_eq_true (by simp only; omega)
 have hpos : ∀ s ∈ l, s.a < s.b := fun s hs => by
  have := List.all_eq_true.1 hv s hs
  simp only [z8n, Bool.and_eq_true, decide_eq_true_eq] at this
  exact this.1
 obtain ⟨hp, _⟩ := Ky (Va l) hb
 have ha := x8d (Va l) hb
 have hn : ∀ y, net (z1s (Va l)) y = net (Va l) y := fun y => x9q hp y
 unfold swV
 generalize z1s (Va l) = E at hp ha hn
 cases E with
 | nil =>
  refine ⟨.nil, fun y => ⟨fun ⟨s, hs, _⟩ => (by cases hs), fun ⟨s, hs, _⟩ => ?_⟩⟩
  have := hp.mem_iff.2 (z7r hs).1
  cases this
 | cons e r =>
  have hr := List.pairwise_cons.1 ha
  rw [z5h, Int.zero_add]
  have e0 : Jo [] 0 false e.a = [] := rfl
  rw [e0]
  obtain ⟨q1, q2⟩ := x3m r e.c e.a [] hr.2 hr.1 .nil (by simp)
  refine ⟨q1, fun y => ?_⟩
  rw [q2]
  obtain ⟨n1, n2⟩ := x9r l hpos y
  rw [← n2, ← hn, Um]
  constructor
  ·rintro (⟨s, hs, _⟩ | ⟨h1, h2, _⟩)
   ·cases hs
   ·rw [if_pos h1]; omega
  ·intro h
   have hpt := n2.1 (by rw [← hn, Um]; exact h)
   obtain ⟨s, hs, s1, s2⟩ := hpt
   have m1 := hp.mem_iff.2 (z7r hs).1
   have m2 := hp.mem_iff.2 (z7r hs).2
   have hea : e.a ≤ y := by
    rcases List.mem_cons.1 m2 with h' | h'
    ·rw [← h']; exact s1
    ·have h'' : e.a ≤ s.a := hr.1 _ h'
     omega
   right
   rw [if_pos hea] at h
   refine ⟨hea, h, ⟨s.b, 0, -1⟩, ?_, s2⟩
   rcases List.mem_cons.1 m1 with h' | h'
   ·have h'' : e.a = s.b := by rw [← h']
    omega
   ·exact h'
theorem y2w (out : List Int) (hs : out.Pairwise (· < ·)) (x : Int) : ∀ k, k ≤ out.length → y6h out x k ≤ k ∧ (∀ i, y6h out x k ≤ i → i < k → x < rd out i) ∧ (0 < y6h out x k → rd out (y6h out x k - 1) ≤ x)
 | 0, _ => ⟨Nat.le_refl _, fun i h1 h2 => by omega, fun h => by simp [y6h] at h⟩
 | k + 1, hk => by
  unfold y6h
  rcases Yp (decide (rd out k > x)) with q | q
  ·rw [q, cond_true]
   obtain ⟨h1, h2, h3⟩ := y2w out hs x k (by omega)
   refine ⟨by omega, fun i a b => ?_, h3⟩
   rcases Nat.eq_or_lt_of_le (Nat.le_of_lt_succ b) with rfl | b
   ·exact of_decide_eq_true q
   ·exact h2 i a b
  ·rw [q, cond_false]
   exact ⟨Nat.le_refl _, fun i a b => by omega, fun _ => by have := of_decide_eq_false q; simp only [Nat.add_sub_cancel]; omega⟩
theorem x6f (out : List Int) (hs : out.Pairwise (· < ·)) (x : Int) : (z7i out x).Pairwise (· < ·) ∧ ∀ y, y ∈ z7i out x ↔ y ∈ out ∨ y = x := by
 obtain ⟨h1, h2, h3⟩ := y2w out hs x out.length (Nat.le_refl _)
 unfold z7i
 split
 ·rename_i h0
  rw [h0] at h2
  refine ⟨List.pairwise_cons.2 ⟨fun y hy => ?_, hs⟩, fun y => by simp [or_comm]⟩
  obtain ⟨i, hi, rfl⟩ := List.getElem_of_mem hy
  have := h2 i (Nat.zero_le _) hi
  rwa [Xe hi] at this
 ·rename_i k hk
  rw [hk] at h1 h2 h3
  have h3 : rd out k ≤ x := h3 (Nat.succ_pos _)
  have hkl : k < out.length := by omega
  rcases Yp (rd out k == x) with q | q
  ·rw [q, cond_true]
   have q : rd out k = x := by simpa using q
   refine ⟨hs, fun y => ⟨.inl, fun h => h.elim id fun e => ?_⟩⟩
   rw [e, ← q, Xe hkl]; exact List.getElem_mem hkl
  ·rw [q, cond_false]
   have q : rd out k ≠ x := by simpa using q
   refine ⟨?_, fun y => ?_⟩
   ·have st : (out.take (k + 1)).Pairwise (· < ·) := hs.sublist (List.take_sublist _ _)
    have sd : (out.drop (k + 1)).Pairwise (· < ·) := hs.sublist (List.drop_sublist _ _)
    have ht : ∀ y ∈ out.take (k + 1), y < x := fun y hy => by
     obtain ⟨i, hi, rfl⟩ := List.getElem_of_mem hy
     have hi' : i < k + 1 := by simp at hi; omega
     rw [List.getElem_take]
     have : rd out i ≤ rd out k := by
      rcases Nat.eq_or_lt_of_le (Nat.le_of_lt_succ hi') with rfl | h
      ·exact Int.le_refl _
      ·exact Int.le_of_lt (x9z hs h hkl)
     rw [Xe (show i < out.length by omega)] at this
     omega
    have hd : ∀ y ∈ out.drop (k + 1), x < y := fun y hy => by
     obtain ⟨i, hi, rfl⟩ := List.getElem_of_mem hy
     have hi' : k + 1 + i < out.length := by simp at hi; omega
     rw [List.getElem_drop, ← Xe hi']
     exact h2 _ (by omega) hi'
    refine List.pairwise_append.2 ⟨st, List.pairwise_cons.2 ⟨hd, sd⟩, fun a ha b hb => ?_⟩
    rcases List.mem_cons.1 hb with rfl | hb
    ·exact ht a ha
    ·exact Int.lt_trans (ht a ha) (hd b hb)
   ·rw [List.mem_append, List.mem_cons]
    constructor
    ·rintro (h | h | h)
     ·exact .inl (List.mem_of_mem_take h)
     ·exact .inr h
     ·exact .inl (List.mem_of_mem_drop h)
    ·rintro (h | h)
     ·rw [← List.take_append_drop (k + 1) out, List.mem_append] at h
      exact h.elim .inl fun h => .inr (.inr h)
     ·exact .inr (.inl h)
theorem z6l (l : List Int) : (Qk l).Pairwise (· < ·) ∧ ∀ y, y ∈ Qk l ↔ y ∈ l := by
 have : ∀ (l out : List Int), out.Pairwise (· < ·) → (l.foldl z7i out).Pairwise (· < ·) ∧ ∀ y, y ∈ l.foldl z7i out ↔ y ∈ out ∨ y ∈ l := by
  intro l
  induction l with
  | nil => intro out h; exact ⟨h, fun y => by simp⟩
  | cons x l ih =>
   intro out h
   obtain ⟨a, b⟩ := x6f out h x
   obtain ⟨c, d⟩ := ih (z7i out x) a
   refine ⟨c, fun y => ?_⟩
   show y ∈ l.foldl z7i (z7i out x) ↔ _
   rw [d, b, List.mem_cons, or_assoc]
 obtain ⟨a, b⟩ := this l [] .nil
 exact ⟨a, fun y => by rw [Qk, b]; simp⟩
theorem z4m : ∀ (l m : List Int), l.Pairwise (· < ·) → m.Pairwise (· < ·) → (∀ x, x ∈ l ↔ x ∈ m) → l = m
 | [], [], _, _, _ => rfl
 | [], b :: m, _, _, h => by have := (h b).2 (by simp); cases this
 | a :: l, [], _, _, h => by have := (h a).1 (by simp); cases this
 | a :: l, b :: m, hl, hm, h => by
  obtain ⟨a1, a2⟩ := List.pairwise_cons.1 hl
  obtain ⟨b1, b2⟩ := List.pairwise_cons.1 hm
  have e : a = b := by
   have x1 := (h a).1 (by simp)
   have x2 := (h b).2 (by simp)
   rcases List.mem_cons.1 x1 with x1 | x1
   ·exact x1
   rcases List.mem_cons.1 x2 with x2 | x2
   ·exact x2.symm
   have := b1 a x1
   have := a1 b x2
   omega
  subst e
  congr 1
  refine z4m l m a2 b2 fun x => ⟨fun hx => ?_, fun hx => ?_⟩
  ·rcases List.mem_cons.1 ((h x).1 (by simp [hx])) with e | e
   ·have := a1 x hx; omega
   ·exact e
  ·rcases List.mem_cons.1 ((h x).2 (by simp [hx])) with e | e
   ·have := b1 x hx; omega
   ·exact e
theorem z4o (zs : List Int) (hs : zs.Pairwise (· ≤ ·)) : ∀ m, m ≤ zs.length → (compactUpTo zs.toArray m).Pairwise (· < ·) ∧ ∀ x, x ∈ compactUpTo zs.toArray m ↔ x ∈ zs.take m
 | 0, _ => by simp [compactUpTo]
 | m + 1, h => by
  obtain ⟨h1, h2⟩ := z4o zs hs m (by omega)
  have hg : ∀ j (hj : j < zs.length), zs.toArray[j]! = zs[j] := fun j hj => by simp [hj]
  have hle : ∀ i j (hi : i < zs.length) (hj : j < zs.length), i < j → zs[i] ≤ zs[j] := fun i j hi hj hij => List.pairwise_iff_getElem.1 hs i j hi hj hij
  have hm : m < zs.length := by omega
  rw [compactUpTo_succ, hg m hm, List.take_succ_eq_append_getElem hm]
  by_cases hk : keeps zs.toArray m = true
  ·rw [if_pos hk]
   refine ⟨List.pairwise_append.2 ⟨h1, List.pairwise_singleton _ _, fun x hx y hy => ?_⟩, fun x => by rw [List.mem_append, List.mem_append, h2 x]⟩
   rw [List.mem_singleton.1 hy]
   obtain ⟨i, hi, rfl⟩ := List.getElem_of_mem ((h2 x).1 hx)
   have hi' : i < m := by simp at hi; omega
   rw [List.getElem_take]
   simp only [keeps, decide_eq_true_eq] at hk
   rcases hk with hk | hk
   ·omega
   ·rw [hg m hm, hg (m - 1) (by omega)] at hk
    have k1 : zs[i] ≤ zs[m - 1] := by
     rcases Nat.lt_or_ge i (m - 1) with q | q
     ·exact hle i (m - 1) _ _ q
     ·have e : i = m - 1 := by omega
      subst e; exact Int.le_refl _
    have k2 := hle (m - 1) m (by omega) hm (by omega)
    omega
  ·rw [if_neg hk, List.append_nil]
   refine ⟨h1, fun x => ?_⟩
   rw [h2 x, List.mem_append, List.mem_singleton]
   refine ⟨.inl, fun hx => hx.elim id fun e => ?_⟩
   simp only [keeps, decide_eq_true_eq, not_or, Decidable.not_not] at hk
   rw [hg m hm, hg (m - 1) (by omega)] at hk
   rw [e, hk.2]
   have : m - 1 < (zs.take m).length := by simp; omega
   have e2 : (zs.take m)[m - 1] = zs[m - 1] := List.getElem_take
   rw [← e2]
   exact List.getElem_mem this
theorem srt_le (zs : List Int) : (Wf zs).Pairwise (· ≤ ·) := by
 have := List.pairwise_mergeSort (le := fun x y : Int => decide (x ≤ y)) (fun a b c h1 h2 => by simp at *; omega) (fun a b => by simp; omega) zs
 exact this.imp fun h => by simpa using h
theorem w5e (zs : List Int) (x : Int) : x ∈ Wf zs ↔ x ∈ zs := List.mem_mergeSort
theorem y7r (zs : List Int) : z4n zs = Qk zs := by
 obtain ⟨h1, h2⟩ := z4o (Wf zs) (srt_le zs) (Wf zs).length (Nat.le_refl _)
 obtain ⟨s1, s2⟩ := z6l zs
 refine z4m _ _ h1 s1 fun x => ?_
 rw [show z4n zs = compactUpTo (Wf zs).toArray (Wf zs).length from rfl, h2 x, List.take_length, w5e, s2]
end Go.Am
namespace Go.Am
open Go.Proofs Go.Sort Go.Shelf Go.RowKit Go.Lib
namespace Dim
variable {α β : Type} (D : Dim α β)
def ref (sec : Int → List β) (cs : List Int) : Nat → Nat → List α → List β → Nat → List α
 | 0, _, out, _, _ => out
 | k + 1, i, out, last, first =>
  bif decide (0 < i) && D.same (sec (rd cs i)) last then ref sec cs k (i + 1) (D.grow out first (rd cs (i + 1))) last first
  else ref sec cs k (i + 1) (out ++ (sec (rd cs i)).map (D.put (rd cs i) (rd cs (i + 1)))) (sec (rd cs i)) out.length
theorem ref_eq (hs : ∀ a b, D.same a b = true ↔ a = b) (l : List α) : ∀ (k i : Nat) (s : Sw α β) (out : List α) (last : List β) (first : Nat),
  s.out = out → s.last = last → (last ≠ [] → s.first = first) → (last = [] → out.length ≤ first) → (0 < i → s.fin = rd (D.cuts l) i) → (i = 0 → last = []) →
  (D.go l k i s).out = D.ref (D.sec l) (D.cuts l) k i out last first
 | 0, i, s, out, last, first, h1, h2, h3, h4, h5, h6 => h1
 | k + 1, i, s, out, last, first, h1, h2, h3, h4, h5, h6 => by
  subst h1 h2
  have e1 : D.go l (k + 1) i s = D.go l k (i + 1) (D.one l (rd (D.cuts l) i) (rd (D.cuts l) (i + 1)) s) := rfl
  rw [e1]
  unfold ref
  rcases Yp (decide (0 < (D.sec l (rd (D.cuts l) i)).length) && ((s.fin == rd (D.cuts l) i) && D.same s.last (D.sec l (rd (D.cuts l) i)))) with q | q
  ·have e : D.one l (rd (D.cuts l) i) (rd (D.cuts l) (i + 1)) s = ⟨D.grow s.out s.first (rd (D.cuts l) (i + 1)), s.last, s.first, rd (D.cuts l) (i + 1)⟩ := by unfold one; rw [q]; rfl
   simp only [Bool.and_eq_true, decide_eq_true_eq] at q
   obtain ⟨q1, q2, q3⟩ := q
   have q3 := (hs _ _).1 q3
   have hne : s.last ≠ [] := fun h => by rw [h] at q3; rw [← q3] at q1; exact Nat.lt_irrefl _ q1
   have hi : 0 < i := Nat.pos_of_ne_zero fun h => hne (h6 h)
   have e2 : (decide (0 < i) && D.same (D.sec l (rd (D.cuts l) i)) s.last) = true := by
    rw [decide_eq_true hi, Bool.true_and, hs, q3]
   rw [e2, cond_true, e]
   refine ref_eq hs l k (i + 1) _ _ _ _ ?_ rfl h3 (fun h => absurd h hne) (fun _ => rfl) (fun h => by omega)
   rw [h3 hne]
  ·have e : D.one l (rd (D.cuts l) i) (rd (D.cuts l) (i + 1)) s = ⟨s.out ++ (D.sec l (rd (D.cuts l) i)).map (D.put (rd (D.cuts l) i) (rd (D.cuts l) (i + 1))), D.sec l (rd (D.cuts l) i), s.out.length, rd (D.cuts l) (i + 1)⟩ := by unfold one; rw [q]; rfl
   rcases Yp (decide (0 < i) && D.same (D.sec l (rd (D.cuts l) i)) s.last) with q2 | q2
   ·rw [q2, cond_true, e]
    simp only [Bool.and_eq_true, decide_eq_true_eq] at q2
    obtain ⟨hi, q3⟩ := q2
    have q3 := (hs _ _).1 q3
    rw [(hs s.last (D.sec l (rd (D.cuts l) i))).2 q3.symm, Bool.and_true, h5 hi] at q
    have hz : D.sec l (rd (D.cuts l) i) = [] := by
     cases h : D.sec l (rd (D.cuts l) i) with
     | nil => rfl
     | cons a b => rw [h] at q; simp at q
    have hl : s.last = [] := by rw [← q3, hz]
    have hf := h4 hl
    rw [hz, List.map_nil, List.append_nil]
    refine ref_eq hs l k (i + 1) _ _ _ _ ?_ hl.symm (fun h => absurd hl h) (fun _ => ?_) (fun _ => rfl) (fun h => by omega)
    ·exact (D.grow_nil _ _ _ hf).symm
    ·rw [D.grow_length]; exact hf
   ·rw [q2, cond_false, e]
    exact ref_eq hs l k (i + 1) _ _ _ _ rfl rfl (fun _ => rfl) (fun h => by rw [h]; simp) (fun _ => rfl) (fun h => by omega)
theorem out_eq (hs : ∀ a b, D.same a b = true ↔ a = b) (l : List α) : D.out l = D.ref (D.sec l) (D.cuts l) ((D.cuts l).length - 1) 0 [] [] 0 :=
 D.ref_eq hs l _ 0 _ [] [] 0 rfl rfl (fun _ => rfl) (fun _ => Nat.le_refl _) (fun h => absurd h (Nat.lt_irrefl _)) (fun _ => rfl)
end Dim
theorem w8z (l : List R4) : D4.cuts l = xsV l [] := by
 unfold Dim.cuts xsV
 rw [y7r, show Qp ([] : List R4) = [] from rfl, List.append_nil]; rfl
theorem w8p (l : List R4) (x y : Int) : w1u 2 l [] x y = has4V l x y := by
 unfold w1u Ji
 show (has4V l x y || has4V [] x y) = _
 rw [show has4V [] x y = false from rfl, Bool.or_false]
theorem y6u {l : List R4} {x : Int} {s : R2} (h : s ∈ D4.inn l x) : ∃ r ∈ l, r.a ≤ x ∧ x < r.c ∧ s = ⟨r.b, r.d⟩ := by
 obtain ⟨r, hr, e⟩ := List.mem_map.1 h
 obtain ⟨h1, h2⟩ := List.mem_filter.1 hr
 simp only [Bool.and_eq_true, decide_eq_true_eq] at h2
 exact ⟨r, h1, h2.1, h2.2, e.symm⟩
theorem w6s {l : List R4} {x : Int} {r : R4} (h : r ∈ l) (h1 : r.a ≤ x) (h2 : x < r.c) : (⟨r.b, r.d⟩ : R2) ∈ D4.inn l x := by
 refine List.mem_map.2 ⟨r, List.mem_filter.2 ⟨h, ?_⟩, rfl⟩
 simp only [Bool.and_eq_true, decide_eq_true_eq]
 exact ⟨h1, h2⟩
theorem sec_eq (l : List R4) (hv : l.all z5g = true) (hl : l.length ≤ 400) (x : Int) : D4.sec l x = y8m 2 l [] x := by
 have hin := D4.inn_length l x
 have hvi : (D4.inn l x).all z8n = true := List.all_eq_true.2 fun s hs => by
  obtain ⟨r, hr, _, _, rfl⟩ := y6u hs
  have := List.all_eq_true.1 hv r hr
  simp only [z5g, z8n, Bool.and_eq_true, decide_eq_true_eq] at this ⊢
  omega
 have e1 : D4.sec l x = swV (D4.inn l x) := by
  show Xv (D4.inn l x) = _
  unfold Xv
  rw [decide_eq_false (by omega), hvi]; rfl
 obtain ⟨c1, c2⟩ := x3l _ hvi
 obtain ⟨y1, y2⟩ := z6l (Kb l ++ Kb [])
 have e2 : y8m 2 l [] x = z4w (ysV l []) ((ysV l []).map fun y => has4V l x y) := by
  unfold y8m
  congr 1
  exact List.map_congr_left fun y _ => w8p l x y
 obtain ⟨d1, d2⟩ := w1v (ysV l []) y1 (fun y => has4V l x y) (D4.inn l x) (fun s hs => by
  obtain ⟨r, hr, _, _, rfl⟩ := y6u hs
  unfold ysV
  exact ⟨(y2 _).2 (List.mem_append.2 (.inl (List.mem_flatMap.2 ⟨r, hr, by simp⟩))), (y2 _).2 (List.mem_append.2 (.inl (List.mem_flatMap.2 ⟨r, hr, by simp⟩)))⟩) (fun y => by
  unfold has4V
  rw [List.any_eq_true]
  constructor
  ·rintro ⟨r, hr, h⟩
   simp only [in4, Bool.and_eq_true, decide_eq_true_eq] at h
   exact ⟨_, w6s hr h.1 h.2.1, h.2.2.1, h.2.2.2⟩
  ·rintro ⟨s, hs, h1, h2⟩
   obtain ⟨r, hr, r1, r2, rfl⟩ := y6u hs
   refine ⟨r, hr, ?_⟩
   simp only [in4, Bool.and_eq_true, decide_eq_true_eq]
   exact ⟨r1, r2, h1, h2⟩)
 rw [e1, e2]
 exact w4r _ _ c1 d1 fun y => by rw [c2, d2]
theorem x6c (l : List R4) : ∀ (k i : Nat) (out : List R4) (last : List R2) (first : Nat), jF 2 l [] k i out last first = D4.ref (y8m 2 l []) (xsV l []) k i out last first
 | 0, _, _, _, _ => rfl
 | k + 1, i, out, last, first => by
  unfold jF Dim.ref
  rw [x6c l k, x6c l k]
  rfl
theorem joV_eq (l : List R4) (hv : l.all z5g = true) (hl : l.length ≤ 400) : D4.out l = joV 2 l [] := by
 rw [D4.out_eq (fun a b => decide_eq_true_iff) l, joV, x6c, ← w8z]
 congr 1
 funext x
 exact sec_eq l hv hl x
theorem x7t (l : List R6) : D6.cuts l = Ym l [] := by
 unfold Dim.cuts Ym
 rw [y7r, show Qq ([] : List R6) = [] from rfl, List.append_nil]; rfl
theorem w4z (l : List R6) (z : Int) : D6.inn l z = atV l z := rfl
theorem x3j (r : R6) : z1v r = x0f r := by
 unfold z1v x0f
 simp only [w7c, w7d]
 rw [Bool.eq_iff_iff]
 simp only [Bool.and_eq_true, decide_eq_true_eq]
 have m1 : ∀ x y z : Int, x ≤ min y z ↔ x ≤ y ∧ x ≤ z := fun x y z => by omega
 have m2 : ∀ x y z : Int, max y z ≤ x ↔ y ≤ x ∧ z ≤ x := fun x y z => by omega
 simp only [ge_iff_le, m1, m2]
 constructor <;> intro h <;> (repeat' apply And.intro) <;> omega
theorem x7h (l : List R6) (hv : l.all z1v = true) (z : Int) : (atV l z).all z5g = true := List.all_eq_true.2 fun s hs => by
 obtain ⟨r, hr, rfl⟩ := List.mem_map.1 hs
 have := List.all_eq_true.1 hv r (List.mem_filter.1 hr).1
 rw [x3j] at this
 simp only [x0f, Bool.and_eq_true, decide_eq_true_eq] at this
 show z5g ⟨r.a, r.b, r.d, r.e⟩ = true
 simp only [z5g, Bool.and_eq_true, decide_eq_true_eq]
 (repeat' apply And.intro) <;> omega
section
variable (l : List R6) (hv : l.all z1v = true) (hl : l.length ≤ 400)
include hv hl
theorem w4v (z : Int) : D4.out (atV l z) = joV 2 (atV l z) [] := joV_eq _ (x7h l hv z) (Nat.le_trans (Kg l z) hl)
theorem w4u (z : Int) : badS l z = z4v 2 l [] z := by
 have h1 := w4v l hv hl z
 have h2 := Kg l z
 have e : joV 2 (atV [] z) [] = [] := rfl
 unfold badS z4v y1w
 rw [e, show atV ([] : List R6) z = [] from rfl, w4z]
 unfold z0t
 rw [decide_eq_false (by omega), x7h l hv z, h1, cond_false, cond_true]
 by_cases h : 400 < (joV 2 (atV l z) []).length
 ·rw [decide_eq_true (show ((joV 2 (atV l z) []).length : Int) > 400 by omega), decide_eq_true h]; rfl
 ·rw [decide_eq_false (show ¬ ((joV 2 (atV l z) []).length : Int) > 400 by omega), decide_eq_false h]; rfl
theorem w5g (z : Int) (h : badS l z = false) : D6.sec l z = y1w 2 l [] z := by
 have h1 := w4v l hv hl z
 have h2 := Kg l z
 rw [w4u l hv hl] at h
 show Xz (D6.inn l z) = joV 2 (atV l z) (atV [] z)
 rw [w4z]
 unfold Xz
 have h3 : ¬ 400 < (joV 2 (atV l z) []).length := fun hh => by
  unfold z4v y1w at h
  rw [show atV ([] : List R6) z = [] from rfl, decide_eq_true hh] at h
  cases h
 rw [decide_eq_false (by omega), x7h l hv z, h1, cond_false, cond_true, decide_eq_false (by omega)]
 rfl
theorem y6s : ∀ (k i : Nat) (out : List R6) (last : List R4) (first : Nat), jsF 2 l [] k i out last first = bif okF l k i then some (D6.ref (D6.sec l) (D6.cuts l) k i out last first) else none
 | 0, _, _, _, _ => rfl
 | k + 1, i, out, last, first => by
  unfold jsF okF Dim.ref
  rw [← x7t, ← w4u l hv hl]
  rcases Yp (badS l (rd (D6.cuts l) i)) with q | q
  ·rw [q]; rfl
  ·have := w5g l hv hl _ q
   rw [q, cond_false, cond_false, this, y6s k, y6s k]
   have e : D6.same (y1w 2 l [] (rd (D6.cuts l) i)) last = Jm (y1w 2 l [] (rd (D6.cuts l) i)) last := rfl
   rw [e]
   cases (decide (0 < i) && Jm (y1w 2 l [] (rd (D6.cuts l) i)) last) <;> rfl
theorem jsO_eq : jsO 2 l [] = bif okF l ((D6.cuts l).length - 1) 0 then some (D6.out l) else none := by
 unfold jsO
 rw [y6s l hv hl, ← x7t, D6.out_eq (fun a b => decide_eq_true_iff) l]
end
theorem y1j (l : List R6) : Xk l = rckV_0 l := by
 unfold Xk rckV_0
 by_cases h : 400 < l.length
 ·rw [decide_eq_true h]; rfl
 ·rw [decide_eq_false h, cond_false, cond_false, show l.all x0f = l.all z1v from by congr 1; funext r; exact (x3j r).symm]
  rcases Yp (l.all z1v) with hv | hv
  ·rw [hv, cond_true, cond_true]
   unfold rckF y3m z1k
   rw [jsO_eq l hv (by omega)]
   rcases Yp (okF l ((D6.cuts l).length - 1) 0) with q | q
   ·rw [q, cond_true, cond_true]
    show _ = bif decide (((D6.out l).length : Int) ≤ 400) then (bif Ux (D6.out l) l then 0 else 8) else 8
    by_cases h2 : ((D6.out l).length : Int) > 400
    ·rw [decide_eq_true h2, decide_eq_false (by omega)]; rfl
    ·rw [decide_eq_false h2, decide_eq_true (by omega)]; rfl
   ·rw [q]; rfl
  ·rw [hv]; rfl
end Go.Am
namespace Go.Am
def Cg (x y : Int) : Prop := (18446744073709551616 : Int) ∣ x - y
theorem Cg.refl (x : Int) : Cg x x := by unfold Cg; rw [Int.sub_self]; exact Int.dvd_zero _
theorem Cg.trans {x y z : Int} (h : Cg x y) (k : Cg y z) : Cg x z := by unfold Cg at *; omega
theorem Cg.wrap (x : Int) : Cg (IntKind.wrap .i64 x) x := by rw [w64]; unfold Cg; omega
theorem Cg.eq {x y : Int} (h : Cg x y) : IntKind.wrap .i64 x = IntKind.wrap .i64 y := by rw [w64, w64]; unfold Cg at h; omega
theorem Cg.w {x y : Int} (h : Cg x y) : Cg (IntKind.wrap .i64 x) y := (Cg.wrap x).trans h
theorem Cg.is {x y : Int} (h : Cg x y) (hx : -9223372036854775808 ≤ x ∧ x ≤ 9223372036854775807) (hy : -9223372036854775808 ≤ y ∧ y ≤ 9223372036854775807) : x = y := by unfold Cg at h; omega
def ovl (a b c d : Int) : Int := max 0 (min b d - max a c)
def ov (r s : R6) : Int := ovl r.a r.d s.a s.d * ovl r.b r.e s.b s.e * ovl r.c r.f s.c s.f
def nx (d : Int) (r : R6) : R6 :=
 let t := 1 - 2 * Int.tmod d 2
 bif Int.tdiv d 2 == 0 then ⟨r.a + t, r.b, r.c, r.d + t, r.e, r.f⟩ else bif Int.tdiv d 2 == 1 then ⟨r.a, r.b + t, r.c, r.d, r.e + t, r.f⟩ else ⟨r.a, r.b, r.c + t, r.d, r.e, r.f + t⟩
def sm {α : Type} (l : List α) (f : α → Int) : Int := (l.map f).sum
def E2 (d : Int) (X Y : List R6) : Int := sm X fun x => sm Y fun y => ov (nx d x) y
def Eqv (B B' : List R6) : Prop := ∀ f, sm B f = sm B' f
theorem Eqv.refl (X : List R6) : Eqv X X := fun _ => rfl
def c1 (d : Int) (X Y B : List R6) : Int := (E2 d X Y - E2 d B Y) - (E2 d X B - E2 d B B)
end Go.Am
namespace Go.Am
open Go.Proofs
end Go.Am
namespace Go.Am
open Go.Proofs
section
variable (X Y : List R6) (hX : X.length ≤ 10000) (hY : Y.length ≤ 10000)
include hX hY
end
end Go.Am
namespace Go.Am
open Go.Proofs
-- h0: index into an array (choices [true, false, false, false])
end Go.Am
namespace Go.Am
open Go.Proofs
end Go.Am
namespace Go.Am
open Go.Proofs
end Go.Am
namespace Go.Am
open Go.Proofs
end Go.Am
namespace Go.Am
open Go.Proofs
end Go.Am
namespace Go.Am
open Go.Proofs
def Uf (l : List R6) : Bool := true
def Ui (l : List R6) : Bool := true
end Go.Am
namespace Go.Am
open Go.Proofs
inductive dreS where
def dreC (l0 : List R6) (l1 : List R6) : dreS → Cfg
 := nofun
def y7l (l0 : List R6) (l1 : List R6) : dreS → Xg dreS
 := nofun
def z6b (l0 : List R6) (l1 : List R6) : Xg dreS := (bif (Uf (cvT l0)) then (bif ((Xk (cvT l0)) != 0) then (.ret [(.int .i64 0), (.int .i64 (Xk (cvT l0)))]) else (bif (Uf (cvT l1)) then (bif ((Xk (cvT l1)) != 0) then (.ret [(.int .i64 0), (.int .i64 (Xk (cvT l1)))]) else (bif ((l1.length : Int) == 0) then (bif (decide ((l0.length : Int) > 0)) then (.ret [(.int .i64 0), (.int .i64 6)]) else (bif (decide ((Ww (l0.length : Int) (l1.length : Int)) > 40)) then (.ret [(.int .i64 0), (.int .i64 4)]) else (bif (Vq (cvT l0) (cvT l1)) then (.ret [(.int .i64 (y8y (cvT l0) (cvT l1))), (.int .i64 0)]) else .stuck))) else (bif (decide ((Ww (l0.length : Int) (l1.length : Int)) > 40)) then (.ret [(.int .i64 0), (.int .i64 4)]) else (bif (Vq (cvT l0) (cvT l1)) then (.ret [(.int .i64 (y8y (cvT l0) (cvT l1))), (.int .i64 0)]) else .stuck)))) else .stuck)) else .stuck)
theorem x2g (l0 : List R6) (l1 : List R6) : ∀ s, Xt Tryz.prog (Zy Tryz.prog 16) (dreC l0 l1) (dreC l0 l1 s) (y7l l0 l1 s)
 := nofun
theorem y7m (l0 : List R6) (l1 : List R6) : Xt Tryz.prog (Zy Tryz.prog 16) (dreC l0 l1) (Zd Tryz.prog 16 [(.dat l0.length (Zz l0)), (.dat l1.length (Zz l1))] true []) (z6b l0 l1) := (lo fun o0_0 => (lb (fun k0 => (lr 30 16 [1, 0, 1, 1, 0, 0] 1 16 [(4, (ii 0)), (5, (ii (Xk (cvT l0))))] (sl Wi 48 [] ⟨[], [], [some [4, 5]], []⟩ ⟨[], [], []⟩ [true, true] (tt k0 (tt k0 (pp (pp (xr l0) (xw o0_0)) nn)))))) (fun k0 => (lo fun o1_0 => (lb (fun k1 => (lr 30 16 [1, 0, 1, 1, 0, 0] 1 16 [(4, (ii 0)), (5, (ii (Xk (cvT l1))))] (sl Wi 50 [] ⟨[], [], [some [4, 5]], []⟩ ⟨[], [], []⟩ [false, true] (tt k1 (pp (pp (xr l1) (xw o1_0)) (tt k0 (pp (pp (xr l0) (xw o0_0)) nn))))))) (fun k1 => (lb (fun k2 => (lb (fun k3 => (lr 30 16 [1, 1, 0, 1, 0, 0] 1 16 [(4, (ii 0)), (5, (ii 6))] (sl Wi 63 [] ⟨[], [], [some [4, 5]], []⟩ ⟨[], [], []⟩ [false, false, true, true, true, true] (tt k3 (tt k2 (tt k1 (pp (pp (xr l1) (xw o1_0)) (tt k0 (pp (pp (xr l0) (xw o0_0)) nn))))))))) (fun k3 => (lb (fun k4 => (lr 30 16 [1, 1, 1, 0, 1, 0, 0] 1 16 [(4, (ii 0)), (5, (ii 4))] (sl Wi 75 [] ⟨[], [], [some [4, 5]], []⟩ ⟨[], [], []⟩ [false, false, true, true, true, false, true] (tt k4 (tt k3 (tt k2 (tt k1 (pp (pp (xr l1) (xw o1_0)) (tt k0 (pp (pp (xr l0) (xw o0_0)) nn)))))))))) (fun k4 => (lo fun o0 => (lr 30 3 [1, 1, 1, 1, 1, 1, 0] 1 16 [(4, (ii (y8y (cvT l0) (cvT l1)))), (5, (ii 0))] (sl Wi 79 [] ⟨[], [], [some [4, 5]], []⟩ ⟨[], [], []⟩ [false, false, true, true, true, false, false] (pp (pp (xr l0) (pp (xr l1) (xw o0))) (tt k4 (tt k3 (tt k2 (tt k1 (pp (pp (xr l1) (xw o1_0)) (tt k0 (pp (pp (xr l0) (xw o0_0)) nn)))))))))))))))) (fun k2 => (lb (fun k3 => (lr 30 16 [1, 1, 1, 0, 1, 0, 0] 1 16 [(4, (ii 0)), (5, (ii 4))] (sl Wi 75 [] ⟨[], [], [some [4, 5]], []⟩ ⟨[], [], []⟩ [false, false, false, false, false, false, true] (tt k3 (tt k2 (tt k1 (pp (pp (xr l1) (xw o1_0)) (tt k0 (pp (pp (xr l0) (xw o0_0)) nn))))))))) (fun k3 => (lo fun o0 => (lr 30 3 [1, 1, 1, 1, 1, 1, 0] 1 16 [(4, (ii (y8y (cvT l0) (cvT l1)))), (5, (ii 0))] (sl Wi 79 [] ⟨[], [], [some [4, 5]], []⟩ ⟨[], [], []⟩ [false, false, false, false, false, false, false] (pp (pp (xr l0) (pp (xr l1) (xw o0))) (tt k3 (tt k2 (tt k1 (pp (pp (xr l1) (xw o1_0)) (tt k0 (pp (pp (xr l0) (xw o0_0)) nn))))))))))))))))))))
theorem w1c (l0 : List R6) (l1 : List R6) (n : Nat) (vs : List AVal) (h : Yk (y7l l0 l1) n (z6b l0 l1) = .ret vs) : Kz Tryz.prog (Zy Tryz.prog 16) (Zd Tryz.prog 16 [(.dat l0.length (Zz l0)), (.dat l1.length (Zz l1))] true []) vs := by
 have := Zr (x2g l0 l1) n _ (y7m l0 l1)
 rwa [h] at this
inductive ddiS where
def ddiC (l0 : List R6) (l1 : List R6) : ddiS → Cfg
 := nofun
def y7n (l0 : List R6) (l1 : List R6) : ddiS → Xg ddiS
 := nofun
def z6c (l0 : List R6) (l1 : List R6) : Xg ddiS := (bif (Uf (cvT l0)) then (bif ((Xk (cvT l0)) != 0) then (.ret [(.int .i64 0), (.int .i64 (Xk (cvT l0)))]) else (bif (Uf (cvT l1)) then (bif ((Xk (cvT l1)) != 0) then (.ret [(.int .i64 0), (.int .i64 (Xk (cvT l1)))]) else (bif ((l0.length : Int) == 0) then (.ret [(.int .i64 0), (.int .i64 6)]) else (bif ((l1.length : Int) == 0) then (.ret [(.int .i64 0), (.int .i64 6)]) else (bif (decide ((Ww (l0.length : Int) (l1.length : Int)) > 40)) then (.ret [(.int .i64 0), (.int .i64 4)]) else (bif (Vq (cvT l0) (cvT l1)) then (bif (Vq (cvT l1) (cvT l0)) then (.ret [(.int .i64 (Ww (y8y (cvT l0) (cvT l1)) (y8y (cvT l1) (cvT l0)))), (.int .i64 0)]) else .stuck) else .stuck))))) else .stuck)) else .stuck)
theorem x2h (l0 : List R6) (l1 : List R6) : ∀ s, Xt Tryz.prog (Zy Tryz.prog 18) (ddiC l0 l1) (ddiC l0 l1 s) (y7n l0 l1 s)
 := nofun
theorem y7o (l0 : List R6) (l1 : List R6) : Xt Tryz.prog (Zy Tryz.prog 18) (ddiC l0 l1) (Zd Tryz.prog 18 [(.dat l0.length (Zz l0)), (.dat l1.length (Zz l1))] true []) (z6c l0 l1) := (lo fun o0_0 => (lb (fun k0 => (lr 34 18 [1, 0, 1, 1, 0, 0] 1 16 [(4, (ii 0)), (5, (ii (Xk (cvT l0))))] (sl Wi 48 [] ⟨[], [], [some [4, 5]], []⟩ ⟨[], [], []⟩ [true, true] (tt k0 (tt k0 (pp (pp (xr l0) (xw o0_0)) nn)))))) (fun k0 => (lo fun o1_0 => (lb (fun k1 => (lr 34 18 [1, 0, 1, 1, 0, 0] 1 16 [(4, (ii 0)), (5, (ii (Xk (cvT l1))))] (sl Wi 50 [] ⟨[], [], [some [4, 5]], []⟩ ⟨[], [], []⟩ [false, true] (tt k1 (pp (pp (xr l1) (xw o1_0)) (tt k0 (pp (pp (xr l0) (xw o0_0)) nn))))))) (fun k1 => (lb (fun k2 => (lr 34 18 [1, 1, 0, 1, 0, 0] 1 16 [(4, (ii 0)), (5, (ii 6))] (sl Wi 63 [] ⟨[], [], [some [4, 5]], []⟩ ⟨[], [], []⟩ [false, false, true, true, true, true] (tt k2 (tt k1 (pp (pp (xr l1) (xw o1_0)) (tt k0 (pp (pp (xr l0) (xw o0_0)) nn)))))))) (fun k2 => (lb (fun k3 => (lr 34 18 [1, 1, 0, 1, 0, 0] 1 16 [(4, (ii 0)), (5, (ii 6))] (sl Wi 63 [] ⟨[], [], [some [4, 5]], []⟩ ⟨[], [], []⟩ [false, false, false, false, false, true] (tt k3 (tt k2 (tt k1 (pp (pp (xr l1) (xw o1_0)) (tt k0 (pp (pp (xr l0) (xw o0_0)) nn))))))))) (fun k3 => (lb (fun k4 => (lr 34 18 [1, 1, 1, 0, 1, 0, 0] 1 16 [(4, (ii 0)), (5, (ii 4))] (sl Wi 75 [] ⟨[], [], [some [4, 5]], []⟩ ⟨[], [], []⟩ [false, false, false, false, false, false, true] (tt k4 (tt k3 (tt k2 (tt k1 (pp (pp (xr l1) (xw o1_0)) (tt k0 (pp (pp (xr l0) (xw o0_0)) nn)))))))))) (fun k4 => (lo fun o0 => (lo fun o1 => (lr 34 3 [1, 1, 1, 1, 1, 1, 0] 1 16 [(4, (ii (Ww (y8y (cvT l0) (cvT l1)) (y8y (cvT l1) (cvT l0))))), (5, (ii 0))] (sl Wi 83 [] ⟨[], [], [some [4, 5]], []⟩ ⟨[], [], []⟩ [false, false, false, false, false, false, false] (pp (pp (xr l1) (pp (xr l0) (xw o1))) (pp (pp (xr l0) (pp (xr l1) (xw o0))) (tt k4 (tt k3 (tt k2 (tt k1 (pp (pp (xr l1) (xw o1_0)) (tt k0 (pp (pp (xr l0) (xw o0_0)) nn)))))))))))))))))))))))))
theorem w1f (l0 : List R6) (l1 : List R6) (n : Nat) (vs : List AVal) (h : Yk (y7n l0 l1) n (z6c l0 l1) = .ret vs) : Kz Tryz.prog (Zy Tryz.prog 18) (Zd Tryz.prog 18 [(.dat l0.length (Zz l0)), (.dat l1.length (Zz l1))] true []) vs := by
 have := Zr (x2h l0 l1) n _ (y7o l0 l1)
 rwa [h] at this
inductive rreS where
def rreC (l0 : List R6) (l1 : List R6) : rreS → Cfg
 := nofun
def y5n (l0 : List R6) (l1 : List R6) : rreS → Xg rreS
 := nofun
def z5n (l0 : List R6) (l1 : List R6) : Xg rreS := (bif (Ui (cvT l0)) then (bif ((rckV_0 (cvT l0)) != 0) then (.ret [(.int .i64 0), (.int .i64 (rckV_0 (cvT l0)))]) else (bif (Ui (cvT l1)) then (bif ((rckV_0 (cvT l1)) != 0) then (.ret [(.int .i64 0), (.int .i64 (rckV_0 (cvT l1)))]) else (bif (decide ((l0.length : Int) > 0)) then (bif ((l1.length : Int) == 0) then (.ret [(.int .i64 0), (.int .i64 6)]) else (bif (decide ((l0.length : Int) > 40)) then (.ret [(.int .i64 0), (.int .i64 4)]) else (bif (decide ((l1.length : Int) > 40)) then (.ret [(.int .i64 0), (.int .i64 4)]) else (bif ((l0.length : Int) == 0) then (.ret [(.int .i64 0), (.int .i64 0)]) else (bif (Vj (cvT l0) (cvT l1)) then (.ret [(.int .i64 (y1x (cvT l0) (cvT l1))), (.int .i64 0)]) else .stuck))))) else (bif (decide ((l0.length : Int) > 40)) then (.ret [(.int .i64 0), (.int .i64 4)]) else (bif (decide ((l1.length : Int) > 40)) then (.ret [(.int .i64 0), (.int .i64 4)]) else (bif ((l0.length : Int) == 0) then (.ret [(.int .i64 0), (.int .i64 0)]) else (bif (Vj (cvT l0) (cvT l1)) then (.ret [(.int .i64 (y1x (cvT l0) (cvT l1))), (.int .i64 0)]) else .stuck)))))) else .stuck)) else .stuck)
theorem x0y (l0 : List R6) (l1 : List R6) : ∀ s, Xt Tryz.prog (Zy Tryz.prog 17) (rreC l0 l1) (rreC l0 l1 s) (y5n l0 l1 s)
 := nofun
theorem y5o (l0 : List R6) (l1 : List R6) : Xt Tryz.prog (Zy Tryz.prog 17) (rreC l0 l1) (Zd Tryz.prog 17 [(.dat l0.length (Zz l0)), (.dat l1.length (Zz l1))] true []) (z5n l0 l1) := (lo fun o0_0 => (lb (fun k0 => (lr 35 17 [1, 0, 1, 0, 0] 1 16 [(4, (ii 0)), (5, (ii (rckV_0 (cvT l0))))] (sl Wi 60 [] ⟨[], [], [some [4, 5]], []⟩ ⟨[], [], []⟩ (trs 3 []) (pp (pp (xr l0) (xw o0_0)) (tt k0 (pp (pp (xr l0) (xw o0_0)) (tt k0 (pp (pp (xr l0) (xw o0_0)) (tt k0 (pp (pp (xr l0) (xw o0_0)) nn)))))))))) (fun k0 => (lo fun o1_0 => (lb (fun k1 => (lr 35 17 [1, 0, 1, 0, 0] 1 16 [(4, (ii 0)), (5, (ii (rckV_0 (cvT l1))))] (sl Wi 62 [] ⟨[], [], [some [4, 5]], []⟩ ⟨[], [], []⟩ [false, true, false] (pp (pp (xr l1) (xw o1_0)) (tt k0 (pp (pp (xr l0) (xw o0_0)) (tt k1 (pp (pp (xr l1) (xw o1_0)) (tt k0 (pp (pp (xr l0) (xw o0_0)) nn)))))))))) (fun k1 => (lb (fun k2 => (lb (fun k3 => (lr 35 17 [1, 1, 0, 1, 0, 0] 1 16 [(4, (ii 0)), (5, (ii 6))] (sl Wi 53 [] ⟨[], [], [some [4, 5]], []⟩ ⟨[], [], []⟩ [false, false, true, true, true, true] (tt k3 (tt k2 (tt k1 (pp (pp (xr l1) (xw o1_0)) (tt k0 (pp (pp (xr l0) (xw o0_0)) nn))))))))) (fun k3 => (lb (fun k4 => (lr 35 17 [1, 1, 1, 0, 1, 0, 0] 1 16 [(4, (ii 0)), (5, (ii 4))] (sl Wi 67 [] ⟨[], [], [some [4, 5]], []⟩ ⟨[], [], []⟩ [false, false, true, true, true, false, true, true, true, true] (tt k4 (tt k3 (tt k2 (tt k1 (pp (pp (xr l1) (xw o1_0)) (tt k0 (pp (pp (xr l0) (xw o0_0)) nn)))))))))) (fun k4 => (lb (fun k5 => (lr 35 17 [1, 1, 1, 0, 1, 0, 0] 1 16 [(4, (ii 0)), (5, (ii 4))] (sl Wi 67 [] ⟨[], [], [some [4, 5]], []⟩ ⟨[], [], []⟩ [false, false, true, true, true, false, false, false, false, true] (tt k5 (tt k4 (tt k3 (tt k2 (tt k1 (pp (pp (xr l1) (xw o1_0)) (tt k0 (pp (pp (xr l0) (xw o0_0)) nn))))))))))) (fun k5 => (lb (fun k6 => (lr 35 17 [1, 1, 1, 1, 0, 1, 0, 0] 1 16 [(4, (ii 0)), (5, (ii 0))] (sl Wi 76 [] ⟨[], [], [some [4, 5]], []⟩ ⟨[], [], []⟩ [false, false, true, true, true, false, false, false, false, false, true] (tt k6 (tt k5 (tt k4 (tt k3 (tt k2 (tt k1 (pp (pp (xr l1) (xw o1_0)) (tt k0 (pp (pp (xr l0) (xw o0_0)) nn)))))))))))) (fun k6 => (lo fun o0 => (lr 35 3 [1, 1, 1, 1, 1, 1, 0] 1 16 [(4, (ii (y1x (cvT l0) (cvT l1)))), (5, (ii 0))] (sl Wi 80 [] ⟨[], [], [some [4, 5]], []⟩ ⟨[], [], []⟩ [false, false, true, true, true, false, false, false, false, false, false] (pp (pp (xr l0) (pp (xr l1) (xw o0))) (tt k6 (tt k5 (tt k4 (tt k3 (tt k2 (tt k1 (pp (pp (xr l1) (xw o1_0)) (tt k0 (pp (pp (xr l0) (xw o0_0)) nn)))))))))))))))))))))) (fun k2 => (lb (fun k3 => (lr 35 17 [1, 1, 1, 0, 1, 0, 0] 1 16 [(4, (ii 0)), (5, (ii 4))] (sl Wi 67 [] ⟨[], [], [some [4, 5]], []⟩ ⟨[], [], []⟩ [false, false, false, false, false, false, true, true, true, true] (tt k3 (tt k2 (tt k1 (pp (pp (xr l1) (xw o1_0)) (tt k0 (pp (pp (xr l0) (xw o0_0)) nn))))))))) (fun k3 => (lb (fun k4 => (lr 35 17 [1, 1, 1, 0, 1, 0, 0] 1 16 [(4, (ii 0)), (5, (ii 4))] (sl Wi 67 [] ⟨[], [], [some [4, 5]], []⟩ ⟨[], [], []⟩ [false, false, false, false, false, false, false, false, false, true] (tt k4 (tt k3 (tt k2 (tt k1 (pp (pp (xr l1) (xw o1_0)) (tt k0 (pp (pp (xr l0) (xw o0_0)) nn)))))))))) (fun k4 => (lb (fun k5 => (lr 35 17 [1, 1, 1, 1, 0, 1, 0, 0] 1 16 [(4, (ii 0)), (5, (ii 0))] (sl Wi 76 [] ⟨[], [], [some [4, 5]], []⟩ ⟨[], [], []⟩ [false, false, false, false, false, false, false, false, false, false, true] (tt k5 (tt k4 (tt k3 (tt k2 (tt k1 (pp (pp (xr l1) (xw o1_0)) (tt k0 (pp (pp (xr l0) (xw o0_0)) nn))))))))))) (fun k5 => (lo fun o0 => (lr 35 3 [1, 1, 1, 1, 1, 1, 0] 1 16 [(4, (ii (y1x (cvT l0) (cvT l1)))), (5, (ii 0))] (sl Wi 80 [] ⟨[], [], [some [4, 5]], []⟩ ⟨[], [], []⟩ [false, false, false, false, false, false, false, false, false, false, false] (pp (pp (xr l0) (pp (xr l1) (xw o0))) (tt k5 (tt k4 (tt k3 (tt k2 (tt k1 (pp (pp (xr l1) (xw o1_0)) (tt k0 (pp (pp (xr l0) (xw o0_0)) nn))))))))))))))))))))))))))
theorem x8r (l0 : List R6) (l1 : List R6) (n : Nat) (vs : List AVal) (h : Yk (y5n l0 l1) n (z5n l0 l1) = .ret vs) : Kz Tryz.prog (Zy Tryz.prog 17) (Zd Tryz.prog 17 [(.dat l0.length (Zz l0)), (.dat l1.length (Zz l1))] true []) vs := by
 have := Zr (x0y l0 l1) n _ (y5o l0 l1)
 rwa [h] at this
inductive rdiS where
def rdiC (l0 : List R6) (l1 : List R6) : rdiS → Cfg
 := nofun
def y6a (l0 : List R6) (l1 : List R6) : rdiS → Xg rdiS
 := nofun
def z5r (l0 : List R6) (l1 : List R6) : Xg rdiS := (bif (Ui (cvT l0)) then (bif ((rckV_0 (cvT l0)) != 0) then (.ret [(.int .i64 0), (.int .i64 (rckV_0 (cvT l0)))]) else (bif (Ui (cvT l1)) then (bif ((rckV_0 (cvT l1)) != 0) then (.ret [(.int .i64 0), (.int .i64 (rckV_0 (cvT l1)))]) else (bif ((l0.length : Int) == 0) then (.ret [(.int .i64 0), (.int .i64 6)]) else (bif ((l1.length : Int) == 0) then (.ret [(.int .i64 0), (.int .i64 6)]) else (bif (decide ((l0.length : Int) > 40)) then (.ret [(.int .i64 0), (.int .i64 4)]) else (bif (decide ((l1.length : Int) > 40)) then (.ret [(.int .i64 0), (.int .i64 4)]) else (bif (Vj (cvT l0) (cvT l1)) then (bif (Vj (cvT l1) (cvT l0)) then (.ret [(.int .i64 (Ww (y1x (cvT l0) (cvT l1)) (y1x (cvT l1) (cvT l0)))), (.int .i64 0)]) else .stuck) else .stuck)))))) else .stuck)) else .stuck)
theorem x1g (l0 : List R6) (l1 : List R6) : ∀ s, Xt Tryz.prog (Zy Tryz.prog 19) (rdiC l0 l1) (rdiC l0 l1 s) (y6a l0 l1 s)
 := nofun
theorem y6b (l0 : List R6) (l1 : List R6) : Xt Tryz.prog (Zy Tryz.prog 19) (rdiC l0 l1) (Zd Tryz.prog 19 [(.dat l0.length (Zz l0)), (.dat l1.length (Zz l1))] true []) (z5r l0 l1) := (lo fun o0_0 => (lb (fun k0 => (lr 36 19 [1, 0, 1, 0, 0] 1 16 [(4, (ii 0)), (5, (ii (rckV_0 (cvT l0))))] (sl Wi 60 [] ⟨[], [], [some [4, 5]], []⟩ ⟨[], [], []⟩ (trs 3 []) (pp (pp (xr l0) (xw o0_0)) (tt k0 (pp (pp (xr l0) (xw o0_0)) (tt k0 (pp (pp (xr l0) (xw o0_0)) (tt k0 (pp (pp (xr l0) (xw o0_0)) nn)))))))))) (fun k0 => (lo fun o1_0 => (lb (fun k1 => (lr 36 19 [1, 0, 1, 0, 0] 1 16 [(4, (ii 0)), (5, (ii (rckV_0 (cvT l1))))] (sl Wi 62 [] ⟨[], [], [some [4, 5]], []⟩ ⟨[], [], []⟩ [false, true, false] (pp (pp (xr l1) (xw o1_0)) (tt k0 (pp (pp (xr l0) (xw o0_0)) (tt k1 (pp (pp (xr l1) (xw o1_0)) (tt k0 (pp (pp (xr l0) (xw o0_0)) nn)))))))))) (fun k1 => (lb (fun k2 => (lr 36 19 [1, 1, 0, 1, 0, 0] 1 16 [(4, (ii 0)), (5, (ii 6))] (sl Wi 53 [] ⟨[], [], [some [4, 5]], []⟩ ⟨[], [], []⟩ [false, false, true, true, true, true] (tt k2 (tt k1 (pp (pp (xr l1) (xw o1_0)) (tt k0 (pp (pp (xr l0) (xw o0_0)) nn)))))))) (fun k2 => (lb (fun k3 => (lr 36 19 [1, 1, 0, 1, 0, 0] 1 16 [(4, (ii 0)), (5, (ii 6))] (sl Wi 53 [] ⟨[], [], [some [4, 5]], []⟩ ⟨[], [], []⟩ [false, false, false, false, false, true] (tt k3 (tt k2 (tt k1 (pp (pp (xr l1) (xw o1_0)) (tt k0 (pp (pp (xr l0) (xw o0_0)) nn))))))))) (fun k3 => (lb (fun k4 => (lr 36 19 [1, 1, 1, 0, 1, 0, 0] 1 16 [(4, (ii 0)), (5, (ii 4))] (sl Wi 67 [] ⟨[], [], [some [4, 5]], []⟩ ⟨[], [], []⟩ [false, false, false, false, false, false, true, true, true, true] (tt k4 (tt k3 (tt k2 (tt k1 (pp (pp (xr l1) (xw o1_0)) (tt k0 (pp (pp (xr l0) (xw o0_0)) nn)))))))))) (fun k4 => (lb (fun k5 => (lr 36 19 [1, 1, 1, 0, 1, 0, 0] 1 16 [(4, (ii 0)), (5, (ii 4))] (sl Wi 67 [] ⟨[], [], [some [4, 5]], []⟩ ⟨[], [], []⟩ [false, false, false, false, false, false, false, false, false, true] (tt k5 (tt k4 (tt k3 (tt k2 (tt k1 (pp (pp (xr l1) (xw o1_0)) (tt k0 (pp (pp (xr l0) (xw o0_0)) nn))))))))))) (fun k5 => (lo fun o0 => (lo fun o1 => (lr 36 3 [1, 1, 1, 1, 1, 1, 0] 1 16 [(4, (ii (Ww (y1x (cvT l0) (cvT l1)) (y1x (cvT l1) (cvT l0))))), (5, (ii 0))] (sl Wi 75 [] ⟨[], [], [some [4, 5]], []⟩ ⟨[], [], []⟩ [false, false, false, false, false, false, false, false, false, false] (pp (pp (xr l1) (pp (xr l0) (xw o1))) (pp (pp (xr l0) (pp (xr l1) (xw o0))) (tt k5 (tt k4 (tt k3 (tt k2 (tt k1 (pp (pp (xr l1) (xw o1_0)) (tt k0 (pp (pp (xr l0) (xw o0_0)) nn))))))))))))))))))))))))))))
theorem x9b (l0 : List R6) (l1 : List R6) (n : Nat) (vs : List AVal) (h : Yk (y6a l0 l1) n (z5r l0 l1) = .ret vs) : Kz Tryz.prog (Zy Tryz.prog 19) (Zd Tryz.prog 19 [(.dat l0.length (Zz l0)), (.dat l1.length (Zz l1))] true []) vs := by
 have := Zr (x1g l0 l1) n _ (y6b l0 l1)
 rwa [h] at this
end Go.Am
namespace Go.Am
open Go.Proofs Go.Sort Go.Shelf Go.RowKit Go.Lib
namespace Dim
variable {α β : Type} (D : Dim α β)
structure Fair : Prop where
 lo_put : ∀ x x' b, D.lo (D.put x x' b) = x
 hi_put : ∀ x x' b, D.hi (D.put x x' b) = x'
 pr_put : ∀ x x' b, D.pr (D.put x x' b) = b
 ext_put : ∀ x x' x'' b, D.ext x'' (D.put x x' b) = D.put x x'' b
def Ap (R : β → β → Prop) (a b : α) : Prop := D.hi a ≤ D.lo b ∨ D.hi b ≤ D.lo a ∨ R (D.pr a) (D.pr b)
theorem x4u {D : Dim α β} (hD : D.Fair) (R : β → β → Prop) (sec : Int → List β) (cs : List Int) (hc : cs.Pairwise (· < ·)) (hsec : ∀ x, (sec x).Pairwise R) :
  ∀ (k i : Nat) (pre : List α) (last : List β) (x0 : Int), (i + k < cs.length ∨ k = 0) → pre.Pairwise (D.Ap R) → (∀ a ∈ pre, D.hi a ≤ x0) → (last ≠ [] → x0 ≤ rd cs i) → (last = [] → x0 ≤ rd cs i) → last.Pairwise R →
  (D.ref sec cs k i (pre ++ last.map (D.put x0 (rd cs i))) last pre.length).Pairwise (D.Ap R) := by
 have fin : ∀ (pre : List α) (last : List β) (x0 x' : Int), pre.Pairwise (D.Ap R) → (∀ a ∈ pre, D.hi a ≤ x0) → last.Pairwise R → (pre ++ last.map (D.put x0 x')).Pairwise (D.Ap R) := fun pre last x0 x' h1 h2 h3 => by
  refine List.pairwise_append.2 ⟨h1, ?_, fun a ha b hb => ?_⟩
  ·refine List.pairwise_map.2 (h3.imp fun {a b} h => .inr (.inr ?_))
   rw [hD.pr_put, hD.pr_put]; exact h
  ·obtain ⟨c, _, rfl⟩ := List.mem_map.1 hb
   exact .inl (by rw [hD.lo_put]; exact h2 a ha)
 intro k
 induction k with
 | zero => intro i pre last x0 _ h1 h2 _ _ h3; exact fin pre last x0 _ h1 h2 h3
 | succ k ih =>
  intro i pre last x0 hk h1 h2 h4 h5 h3
  have hlt : rd cs i < rd cs (i + 1) := x9z hc (Nat.lt_succ_self _) (by omega)
  unfold ref
  cases hq : (decide (0 < i) && D.same (sec (rd cs i)) last) with
  | true =>
   rw [cond_true]
   have e : D.grow (pre ++ last.map (D.put x0 (rd cs i))) pre.length (rd cs (i + 1)) = pre ++ last.map (D.put x0 (rd cs (i + 1))) := by
    unfold grow
    rw [List.take_left, List.drop_left, List.map_map]
    congr 1
    exact List.map_congr_left fun b _ => hD.ext_put _ _ _ _
   rw [e]
   exact ih (i + 1) pre last x0 (by omega) h1 h2 (fun h => by have := h4 h; omega) (fun h => by have := h5 h; omega) h3
  | false =>
   rw [cond_false]
   refine ih (i + 1) (pre ++ last.map (D.put x0 (rd cs i))) (sec (rd cs i)) (rd cs i) (by omega) (fin pre last x0 _ h1 h2 h3) (fun a ha => ?_) (fun _ => by omega) (fun _ => by omega) (hsec _)
   rcases List.mem_append.1 ha with ha | ha
   ·have := h2 a ha
    by_cases e : last = []
    ·have := h5 e; omega
    ·have := h4 e; omega
   ·obtain ⟨c, _, rfl⟩ := List.mem_map.1 ha
    rw [hD.hi_put]; exact Int.le_refl _
theorem out_apart {D : Dim α β} (hD : D.Fair) (R : β → β → Prop) (hs : ∀ a b, D.same a b = true ↔ a = b) (l : List α) (hsec : ∀ x, (D.sec l x).Pairwise R) : (D.out l).Pairwise (D.Ap R) := by
 rw [D.out_eq hs l]
 have hc : (D.cuts l).Pairwise (· < ·) := by
  show (z4n (D.ends l)).Pairwise (· < ·)
  rw [y7r]; exact (z6l _).1
 have := x4u hD R (D.sec l) (D.cuts l) hc hsec ((D.cuts l).length - 1) 0 [] [] (rd (D.cuts l) 0) (by omega) .nil (by simp) (fun _ => Int.le_refl _) (fun _ => Int.le_refl _) .nil
 exact this
end Dim
theorem w8y : D4.Fair := ⟨fun _ _ _ => rfl, fun _ _ _ => rfl, fun _ _ _ => rfl, fun _ _ _ _ => rfl⟩
theorem w8x : D6.Fair := ⟨fun _ _ _ => rfl, fun _ _ _ => rfl, fun _ _ _ => rfl, fun _ _ _ _ => rfl⟩
def Ap2 (s t : R2) : Prop := s.b ≤ t.a ∨ t.b ≤ s.a
def Ap4 (s t : R4) : Prop := s.c ≤ t.a ∨ t.c ≤ s.a ∨ s.d ≤ t.b ∨ t.d ≤ s.b
def Ap6 (s t : R6) : Prop := s.d ≤ t.a ∨ t.d ≤ s.a ∨ s.e ≤ t.b ∨ t.e ≤ s.b ∨ s.f ≤ t.c ∨ t.f ≤ s.c
theorem x3o (l : List R2) : (Xv l).Pairwise Ap2 := by
 unfold Xv
 by_cases h : 400 < l.length
 ·rw [decide_eq_true h]; exact .nil
 ·rw [decide_eq_false h, cond_false]
  cases hv : l.all z8n with
  | false => exact .nil
  | true =>
   rw [cond_true]
   exact (x3l l hv).1.sep.imp fun {s t} h => .inl (by omega)
theorem x4r (l : List R4) : (Xz l).Pairwise Ap4 := by
 have key : (D4.out l).Pairwise Ap4 := (Dim.out_apart w8y Ap2 (fun a b => decide_eq_true_iff) l fun x => x3o _).imp fun {s t} h => by
  rcases h with h | h | h | h
  ·exact .inl h
  ·exact .inr (.inl h)
  ·exact .inr (.inr (.inl h))
  ·exact .inr (.inr (.inr h))
 unfold Xz
 by_cases h : 400 < l.length
 ·rw [decide_eq_true h]; exact .nil
 ·rw [decide_eq_false h, cond_false]
  cases l.all z5g with
  | false => exact .nil
  | true =>
   rw [cond_true]
   cases decide (((D4.out l).length : Int) > 400) with
   | true => exact .nil
   | false => exact key
theorem z1w {l : List R6} (h : Xk l = 0) : l.length ≤ 400 ∧ (∀ r ∈ l, z1v r = true) ∧ l = D6.out l ∧ l.Pairwise Ap6 := by
 unfold Xk at h
 by_cases h1 : 400 < l.length
 ·rw [decide_eq_true h1] at h; cases h
 ·rw [decide_eq_false h1, cond_false] at h
  cases hv : l.all z1v with
  | false => rw [hv] at h; cases h
  | true =>
   rw [hv, cond_true] at h
   cases ho : okF l ((D6.cuts l).length - 1) 0 with
   | false => rw [ho] at h; cases h
   | true =>
    rw [ho, cond_true] at h
    cases h2 : decide (((D6.out l).length : Int) > 400) with
    | true => rw [h2] at h; cases h
    | false =>
     rw [h2, cond_false] at h
     cases h3 : Ux (D6.out l) l with
     | false => rw [h3] at h; cases h
     | true =>
      have e : D6.out l = l := of_decide_eq_true h3
      refine ⟨by omega, fun r hr => List.all_eq_true.1 hv r hr, e.symm, ?_⟩
      have := (Dim.out_apart w8x Ap4 (fun a b => decide_eq_true_iff) l fun x => x4r _).imp (S := Ap6) fun {s t} h => by
       rcases h with h | h | h | h | h | h
       ·exact .inr (.inr (.inr (.inr (.inl h))))
       ·exact .inr (.inr (.inr (.inr (.inr h))))
       ·exact .inl h
       ·exact .inr (.inl h)
       ·exact .inr (.inr (.inl h))
       ·exact .inr (.inr (.inr (.inl h)))
      rwa [e] at this
theorem Ue {r : R6} (h : z1v r = true) : r.a < r.d ∧ r.b < r.e ∧ r.c < r.f ∧ -1000000 ≤ r.a ∧ -1000000 ≤ r.b ∧ -1000000 ≤ r.c ∧ r.d ≤ 1000000 ∧ r.e ≤ 1000000 ∧ r.f ≤ 1000000 := by
 rw [x3j] at h
 simp only [x0f, Bool.and_eq_true, decide_eq_true_eq] at h
 omega
end Go.Am
namespace Go.Am
open Go.Proofs
theorem y8n (l : List R6) : Uf l = true := rfl
theorem y8x (l : List R6) : Ui l = true := rfl
def eRe (k : List R6 → Int) (L0 L1 : List R6) : Int := bif k L0 != 0 then k L0 else bif k L1 != 0 then k L1 else bif decide ((L0.length : Int) > 0) && ((L1.length : Int) == 0) then 6 else bif decide ((L0.length : Int) > 40) || decide ((L1.length : Int) > 40) then 4 else 0
def eDi (k : List R6 → Int) (L0 L1 : List R6) : Int := bif k L0 != 0 then k L0 else bif k L1 != 0 then k L1 else bif ((L0.length : Int) == 0) || ((L1.length : Int) == 0) then 6 else bif decide ((L0.length : Int) > 40) || decide ((L1.length : Int) > 40) then 4 else 0
def z9v (L0 L1 : List R6) : Int := eRe Xk L0 L1
def z9w (L0 L1 : List R6) : Int := bif eRe Xk L0 L1 == 0 then y8y L0 L1 else 0
def z7v (L0 L1 : List R6) : Int := eDi Xk L0 L1
def z9x (L0 L1 : List R6) : Int := bif eDi Xk L0 L1 == 0 then Ww (y8y L0 L1) (y8y L1 L0) else 0
def z9d (L0 L1 : List R6) : Int := eRe rckV_0 L0 L1
def z9e (L0 L1 : List R6) : Int := bif eRe rckV_0 L0 L1 == 0 then (bif ((L0.length : Int) == 0) then 0 else y1x L0 L1) else 0
def z6s (L0 L1 : List R6) : Int := eDi rckV_0 L0 L1
def z9g (L0 L1 : List R6) : Int := bif eDi rckV_0 L0 L1 == 0 then Ww (y1x L0 L1) (y1x L1 L0) else 0
def z2y (L0 L1 : List R6) : Bool := true
def z3b (L0 L1 : List R6) : Bool := true
def z2b (L0 L1 : List R6) : Bool := true
def z2j (L0 L1 : List R6) : Bool := true
theorem w4f (a b : Int) : decide (Ww a b > 40) = (decide (a > 40) || decide (b > 40)) := by
 unfold Ww
 split
 ·rcases Yp (decide (b > 40)) with h | h
  ·rw [h, Bool.or_true]
  ·have := of_decide_eq_false h
   rw [h, Xx (by omega)]; rfl
 ·rcases Yp (decide (a > 40)) with h | h
  ·rw [h]; rfl
  ·have := of_decide_eq_false h
   rw [h, Xx (by omega)]; rfl
theorem x5f {L0 L1 : List R6} (h0 : ¬ ((L0.length : Int) > 40)) (h1 : ¬ ((L1.length : Int) > 40)) : Vq L0 L1 = true := by
 unfold Vq; rw [Yj (by omega), Yj (by omega)]; rfl
theorem smR_of {r : R6} (h : z1v r = true) : smR r = true := by
 obtain ⟨_, _, _, h1, h2, h3, h4, h5, h6⟩ := Ue h
 unfold smR
 rw [Yt (by omega), Yt (by omega), Yt (by omega), Yt (by omega), Yt (by omega), Yt (by omega)]; rfl
theorem sck_sm {L : List R6} (h : (Xk L == 0) = true) : L.all smR = true :=
 List.all_eq_true.2 fun r hr => smR_of ((z1w (eq_of_beq h)).2.1 r hr)
theorem rck_sm {L : List R6} (h : (rckV_0 L == 0) = true) : L.all smR = true := sck_sm (by rw [y1j]; exact h)
theorem x4f {L0 L1 : List R6} (k0 : (rckV_0 L0 == 0) = true) (h0 : decide ((L0.length : Int) > 40) = false) (h1 : decide ((L1.length : Int) > 40) = false) (z : ((L1.length : Int) == 0) = false) : Vj L0 L1 = true := by
 have h0 := of_decide_eq_false h0
 have h1 := of_decide_eq_false h1
 have hz : (L1.length : Int) ≠ 0 := fun e => by rw [e] at z; cases z
 unfold Vj
 rw [rck_sm k0, Ya (by omega), Yj (by omega), Yj (by omega)]; rfl
theorem w6x {L : List R6} (h : decide ((L.length : Int) > 0) = false) : ((L.length : Int) == 0) = true := by
 have := of_decide_eq_false h
 exact beq_t' (by omega)
theorem len1 {L : List R6} (h : decide ((L.length : Int) > 0) = true) : ((L.length : Int) == 0) = false := by
 have := of_decide_eq_true h
 exact w4t (by omega)
theorem w8m (L0 L1 : List R6) (h : z2y L0 L1 = true) : ∃ N, Yk (y7l L0 L1) N (z6b L0 L1) = .ret [.int .i64 (z9w L0 L1), .int .i64 (z9v L0 L1)] := ⟨0, by
 have hk : ∀ l, (Xk l != 0) = !(Xk l == 0) := fun _ => rfl
 unfold z6b z9w z9v eRe
 simp only [Zo, y8n, cond_true, w4f, hk]
 rcases Yp (Xk L0 == 0) with a0 | a0 <;> rcases Yp (Xk L1 == 0) with a1 | a1 <;> rcases Yp ((L1.length : Int) == 0) with b | b <;> rcases Yp (decide ((L0.length : Int) > 0)) with c | c <;> rcases Yp (decide ((L0.length : Int) > 40)) with d | d <;> rcases Yp (decide ((L1.length : Int) > 40)) with e | e <;> rw [a0, a1, b, c, d, e] <;>
  simp only [Bool.not_true, Bool.not_false, Bool.and_true, Bool.and_false, Bool.true_and, Bool.false_and, Bool.or_true, Bool.or_false, Bool.true_or, Bool.false_or, cond_true, cond_false, a0, a1] <;>
  first | rfl | (rw [x5f (of_decide_eq_false d) (of_decide_eq_false e)]; rfl)⟩
theorem w8n (L0 L1 : List R6) (h : z3b L0 L1 = true) : ∃ N, Yk (y7n L0 L1) N (z6c L0 L1) = .ret [.int .i64 (z9x L0 L1), .int .i64 (z7v L0 L1)] := ⟨0, by
 have hk : ∀ l, (Xk l != 0) = !(Xk l == 0) := fun _ => rfl
 unfold z6c z9x z7v eDi
 simp only [Zo, y8n, cond_true, w4f, hk]
 rcases Yp (Xk L0 == 0) with a0 | a0 <;> rcases Yp (Xk L1 == 0) with a1 | a1 <;> rcases Yp ((L1.length : Int) == 0) with b | b <;> rcases Yp ((L0.length : Int) == 0) with c | c <;> rcases Yp (decide ((L0.length : Int) > 40)) with d | d <;> rcases Yp (decide ((L1.length : Int) > 40)) with e | e <;> rw [a0, a1, b, c, d, e] <;>
  simp only [Bool.not_true, Bool.not_false, Bool.and_true, Bool.and_false, Bool.true_and, Bool.false_and, Bool.or_true, Bool.or_false, Bool.true_or, Bool.false_or, cond_true, cond_false, a0, a1] <;>
  first | rfl | (rw [x5f (of_decide_eq_false d) (of_decide_eq_false e), x5f (of_decide_eq_false e) (of_decide_eq_false d)]; rfl)⟩
theorem w5s (L0 L1 : List R6) (h : z2b L0 L1 = true) : ∃ N, Yk (y5n L0 L1) N (z5n L0 L1) = .ret [.int .i64 (z9e L0 L1), .int .i64 (z9d L0 L1)] := ⟨0, by
 have hk : ∀ l, (rckV_0 l != 0) = !(rckV_0 l == 0) := fun _ => rfl
 unfold z5n z9e z9d eRe
 simp only [Zo, y8x, cond_true, hk]
 rcases Yp (rckV_0 L0 == 0) with a0 | a0 <;> rcases Yp (rckV_0 L1 == 0) with a1 | a1 <;> rcases Yp ((L1.length : Int) == 0) with b | b <;> rcases Yp (decide ((L0.length : Int) > 0)) with c | c <;> rcases Yp (decide ((L0.length : Int) > 40)) with d | d <;> rcases Yp (decide ((L1.length : Int) > 40)) with e | e <;> rw [a0, a1, b, c, d, e] <;>
  (try rw [w6x c]) <;> (try rw [len1 c]) <;>
  simp only [Bool.not_true, Bool.not_false, Bool.and_true, Bool.and_false, Bool.true_and, Bool.false_and, Bool.or_true, Bool.or_false, Bool.true_or, Bool.false_or, cond_true, cond_false, a0, a1] <;>
  first | rfl | (rw [x4f a0 d e b]; rfl)⟩
theorem w6h (L0 L1 : List R6) (h : z2j L0 L1 = true) : ∃ N, Yk (y6a L0 L1) N (z5r L0 L1) = .ret [.int .i64 (z9g L0 L1), .int .i64 (z6s L0 L1)] := ⟨0, by
 have hk : ∀ l, (rckV_0 l != 0) = !(rckV_0 l == 0) := fun _ => rfl
 unfold z5r z9g z6s eDi
 simp only [Zo, y8x, cond_true, hk]
 rcases Yp (rckV_0 L0 == 0) with a0 | a0 <;> rcases Yp (rckV_0 L1 == 0) with a1 | a1 <;> rcases Yp ((L1.length : Int) == 0) with b | b <;> rcases Yp ((L0.length : Int) == 0) with c | c <;> rcases Yp (decide ((L0.length : Int) > 40)) with d | d <;> rcases Yp (decide ((L1.length : Int) > 40)) with e | e <;> rw [a0, a1, b, c, d, e] <;>
  simp only [Bool.not_true, Bool.not_false, Bool.and_true, Bool.and_false, Bool.true_and, Bool.false_and, Bool.or_true, Bool.or_false, Bool.true_or, Bool.false_or, cond_true, cond_false, a0, a1] <;>
  first | rfl | (rw [x4f a0 d e b, x4f a1 e d c]; rfl)⟩
def fDre : List AVal → Option (AVal × Bool)
 | [a0, a1] => match asL R6 a0, asL R6 a1 with
  | some (L0, g0, n0), some (L1, g1, n1) => some (.tup [.int .i64 (z9w L0 L1), .int .i64 (z9v L0 L1)], isT R6 n0 g0 && (isT R6 n1 g1 && (z2y L0 L1)))
  | _, _ => none
 | _ => none
theorem w8a {S : Specs} (hS : Zu Tryz.prog S) : Zu Tryz.prog (S.with x5x fDre) := by
 refine z1t hS (by kernel_rfl) fun args v h => ?_
 unfold fDre at h
 split at h
 ·rename_i a0 a1
  split at h
  ·rename_i L0 g0 n0 L1 g1 n1 e0 e1
   simp only [Option.some.injEq, Prod.mk.injEq, Bool.and_eq_true] at h
   obtain ⟨rfl, ho0, ho1, hw⟩ := h
   obtain ⟨N, hN⟩ := w8m L0 L1 hw
   exact ⟨_, _, (.cons (asL_le e0 ho0) (.cons (asL_le e1 ho1) .nil)), rfl, w1c L0 L1 N _ hN, 3, rfl⟩
  ·cases h
 ·cases h
def fDdi : List AVal → Option (AVal × Bool)
 | [a0, a1] => match asL R6 a0, asL R6 a1 with
  | some (L0, g0, n0), some (L1, g1, n1) => some (.tup [.int .i64 (z9x L0 L1), .int .i64 (z7v L0 L1)], isT R6 n0 g0 && (isT R6 n1 g1 && (z3b L0 L1)))
  | _, _ => none
 | _ => none
theorem w8b {S : Specs} (hS : Zu Tryz.prog S) : Zu Tryz.prog (S.with w3z fDdi) := by
 refine z1t hS (by kernel_rfl) fun args v h => ?_
 unfold fDdi at h
 split at h
 ·rename_i a0 a1
  split at h
  ·rename_i L0 g0 n0 L1 g1 n1 e0 e1
   simp only [Option.some.injEq, Prod.mk.injEq, Bool.and_eq_true] at h
   obtain ⟨rfl, ho0, ho1, hw⟩ := h
   obtain ⟨N, hN⟩ := w8n L0 L1 hw
   exact ⟨_, _, (.cons (asL_le e0 ho0) (.cons (asL_le e1 ho1) .nil)), rfl, w1f L0 L1 N _ hN, 3, rfl⟩
  ·cases h
 ·cases h
def fRre : List AVal → Option (AVal × Bool)
 | [a0, a1] => match asL R6 a0, asL R6 a1 with
  | some (L0, g0, n0), some (L1, g1, n1) => some (.tup [.int .i64 (z9e L0 L1), .int .i64 (z9d L0 L1)], isT R6 n0 g0 && (isT R6 n1 g1 && (z2b L0 L1)))
  | _, _ => none
 | _ => none
theorem w7p {S : Specs} (hS : Zu Tryz.prog S) : Zu Tryz.prog (S.with y9e fRre) := by
 refine z1t hS (by kernel_rfl) fun args v h => ?_
 unfold fRre at h
 split at h
 ·rename_i a0 a1
  split at h
  ·rename_i L0 g0 n0 L1 g1 n1 e0 e1
   simp only [Option.some.injEq, Prod.mk.injEq, Bool.and_eq_true] at h
   obtain ⟨rfl, ho0, ho1, hw⟩ := h
   obtain ⟨N, hN⟩ := w5s L0 L1 hw
   exact ⟨_, _, (.cons (asL_le e0 ho0) (.cons (asL_le e1 ho1) .nil)), rfl, x8r L0 L1 N _ hN, 3, rfl⟩
  ·cases h
 ·cases h
def fRdi : List AVal → Option (AVal × Bool)
 | [a0, a1] => match asL R6 a0, asL R6 a1 with
  | some (L0, g0, n0), some (L1, g1, n1) => some (.tup [.int .i64 (z9g L0 L1), .int .i64 (z6s L0 L1)], isT R6 n0 g0 && (isT R6 n1 g1 && (z2j L0 L1)))
  | _, _ => none
 | _ => none
theorem w7s {S : Specs} (hS : Zu Tryz.prog S) : Zu Tryz.prog (S.with x5w fRdi) := by
 refine z1t hS (by kernel_rfl) fun args v h => ?_
 unfold fRdi at h
 split at h
 ·rename_i a0 a1
  split at h
  ·rename_i L0 g0 n0 L1 g1 n1 e0 e1
   simp only [Option.some.injEq, Prod.mk.injEq, Bool.and_eq_true] at h
   obtain ⟨rfl, ho0, ho1, hw⟩ := h
   obtain ⟨N, hN⟩ := w6h L0 L1 hw
   exact ⟨_, _, (.cons (asL_le e0 ho0) (.cons (asL_le e1 ho1) .nil)), rfl, x9b L0 L1 N _ hN, 3, rfl⟩
  ·cases h
 ·cases h
def Dd : Specs := ((((Dc.with x5x fDre).with w3z fDdi).with y9e fRre).with x5w fRdi)
theorem x2w : Zu Tryz.prog Dd := (w7s (w7p (w8b (w8a Wi))))
end Go.Am
namespace Go.Am
open Go.Proofs
inductive drsS where
def drsC (l0 : List R6) (l1 : List R6) : drsS → Cfg
 := nofun
def y7j (l0 : List R6) (l1 : List R6) : drsS → Xg drsS
 := nofun
def z6a (l0 : List R6) (l1 : List R6) : Xg drsS := (bif (Ku (cvT l0)) then (bif (!(y6k (cvT l0))) then (.ret [(.bool true)]) else (bif (Ku (cvT l1)) then (bif (!(y6k (cvT l1))) then (.ret [(.bool true)]) else (bif (z2y (cvT l0) (cvT l1)) then (bif (z2b (cvT l0) (cvT l1)) then (bif (z3b (cvT l0) (cvT l1)) then (bif (z2j (cvT l0) (cvT l1)) then (bif ((z9w (cvT l0) (cvT l1)) == (z9e (cvT l0) (cvT l1))) then (bif ((z9v (cvT l0) (cvT l1)) == (z9d (cvT l0) (cvT l1))) then (bif ((z9x (cvT l0) (cvT l1)) == (z9g (cvT l0) (cvT l1))) then (.ret [(.bool ((z7v (cvT l0) (cvT l1)) == (z6s (cvT l0) (cvT l1))))]) else (.ret [(.bool false)])) else (.ret [(.bool false)])) else (.ret [(.bool false)])) else .stuck) else .stuck) else .stuck) else .stuck)) else .stuck)) else .stuck)
theorem x2f (l0 : List R6) (l1 : List R6) : ∀ s, Xt Tryz.prog (Zy Tryz.prog 3) (drsC l0 l1) (drsC l0 l1 s) (y7j l0 l1 s)
 := nofun
theorem y7k (l0 : List R6) (l1 : List R6) : Xt Tryz.prog (Zy Tryz.prog 3) (drsC l0 l1) (Zd Tryz.prog 3 [(.dat l0.length (Zz l0)), (.dat l1.length (Zz l1))] true []) (z6a l0 l1) := (lo fun o0_0 => (lb (fun k0 => (lr 63 3 [1, 0, 1, 0, 0] 1 3 [(4, (.bool true))] (sl x2w 21 [] ⟨[], [], [some [4]], []⟩ ⟨[], [], []⟩ (trs 4 []) (tt k0 (pp (pp (xr l0) (xw o0_0)) nn))))) (fun k0 => (lo fun o1_0 => (lb (fun k1 => (lr 63 3 [1, 0, 1, 0, 0] 1 3 [(4, (.bool true))] (sl x2w 21 [] ⟨[], [], [some [4]], []⟩ ⟨[], [], []⟩ [false, false, false, true] (tt k1 (pp (pp (xr l1) (xw o1_0)) (tt k0 (pp (pp (xr l0) (xw o0_0)) nn))))))) (fun k1 => (lo fun o2_0 => (lo fun o2_1 => (lo fun o2_2 => (lo fun o2_3 => (lb (fun k2 => (lb (fun k3 => (lb (fun k4 => (lr 63 3 [1, 1, 1, 1, 1, 1, 0] 1 3 [(4, (.bool ((z7v (cvT l0) (cvT l1)) == (z6s (cvT l0) (cvT l1)))))] (sl x2w 84 [] ⟨[], [], [some [4]], []⟩ ⟨[], [], []⟩ [false, false, false, false, true, true, true, true, true, true, true, true, true] (tt k4 (tt k3 (tt k2 (pp (pp (xr l0) (pp (xr l1) (xw o2_3))) (pp (pp (xr l0) (pp (xr l1) (xw o2_2))) (pp (pp (xr l0) (pp (xr l1) (xw o2_1))) (pp (pp (xr l0) (pp (xr l1) (xw o2_0))) (tt k1 (pp (pp (xr l1) (xw o1_0)) (tt k0 (pp (pp (xr l0) (xw o0_0)) nn)))))))))))))) (fun k4 => (lr 63 3 [1, 1, 1, 1, 1, 1, 0] 1 3 [(4, (.bool false))] (sl x2w 84 [] ⟨[], [], [some [4]], []⟩ ⟨[], [], []⟩ [false, false, false, false, true, true, true, true, true, true, false, false, false] (tt k4 (tt k3 (tt k2 (pp (pp (xr l0) (pp (xr l1) (xw o2_3))) (pp (pp (xr l0) (pp (xr l1) (xw o2_2))) (pp (pp (xr l0) (pp (xr l1) (xw o2_1))) (pp (pp (xr l0) (pp (xr l1) (xw o2_0))) (tt k1 (pp (pp (xr l1) (xw o1_0)) (tt k0 (pp (pp (xr l0) (xw o0_0)) nn)))))))))))))))) (fun k3 => (lr 63 3 [1, 1, 1, 1, 1, 1, 0] 1 3 [(4, (.bool false))] (sl x2w 84 [] ⟨[], [], [some [4]], []⟩ ⟨[], [], []⟩ [false, false, false, false, true, true, true, false, false, false, false, false, false] (tt k3 (tt k2 (pp (pp (xr l0) (pp (xr l1) (xw o2_3))) (pp (pp (xr l0) (pp (xr l1) (xw o2_2))) (pp (pp (xr l0) (pp (xr l1) (xw o2_1))) (pp (pp (xr l0) (pp (xr l1) (xw o2_0))) (tt k1 (pp (pp (xr l1) (xw o1_0)) (tt k0 (pp (pp (xr l0) (xw o0_0)) nn))))))))))))))) (fun k2 => (lr 63 3 [1, 1, 1, 1, 1, 1, 0] 1 3 [(4, (.bool false))] (sl x2w 84 [] ⟨[], [], [some [4]], []⟩ ⟨[], [], []⟩ [false, false, false, false, false, false, false, false, false, false, false, false, false] (tt k2 (pp (pp (xr l0) (pp (xr l1) (xw o2_3))) (pp (pp (xr l0) (pp (xr l1) (xw o2_2))) (pp (pp (xr l0) (pp (xr l1) (xw o2_1))) (pp (pp (xr l0) (pp (xr l1) (xw o2_0))) (tt k1 (pp (pp (xr l1) (xw o1_0)) (tt k0 (pp (pp (xr l0) (xw o0_0)) nn)))))))))))))))))))))))
theorem drs_ends (l0 : List R6) (l1 : List R6) (n : Nat) (vs : List AVal) (h : Yk (y7j l0 l1) n (z6a l0 l1) = .ret vs) : Kz Tryz.prog (Zy Tryz.prog 3) (Zd Tryz.prog 3 [(.dat l0.length (Zz l0)), (.dat l1.length (Zz l1))] true []) vs := by
 have := Zr (x2f l0 l1) n _ (y7k l0 l1)
 rwa [h] at this
end Go.Am
namespace Go.Am
open Go.Proofs
def pin (r : R6) (x y z : Int) : Prop := (r.a ≤ x ∧ x < r.d) ∧ (r.b ≤ y ∧ y < r.e) ∧ r.c ≤ z ∧ z < r.f
def nrp (r : R6) (D x y z : Int) : Prop := (r.a - D ≤ x ∧ x < r.d + D) ∧ (r.b - D ≤ y ∧ y < r.e + D) ∧ r.c - D ≤ z ∧ z < r.f + D
def bdd (r : R6) : Prop := (-1000000000 ≤ r.a ∧ r.a ≤ 1000000000) ∧ (-1000000000 ≤ r.b ∧ r.b ≤ 1000000000) ∧ (-1000000000 ≤ r.c ∧ r.c ≤ 1000000000) ∧ (-1000000000 ≤ r.d ∧ r.d ≤ 1000000000) ∧ (-1000000000 ≤ r.e ∧ r.e ≤ 1000000000) ∧ (-1000000000 ≤ r.f ∧ r.f ≤ 1000000000)
theorem y9q (x y : Int) : x ≤ Ww x y ∧ y ≤ Ww x y ∧ (Ww x y = x ∨ Ww x y = y) := by
 unfold Ww; split <;> omega
theorem y9p (x y : Int) : Jv x y ≤ x ∧ Jv x y ≤ y ∧ (Jv x y = x ∨ Jv x y = y) := by
 unfold Jv; split <;> omega
theorem x6g {x y m : Int} : Ww x y ≤ m ↔ x ≤ m ∧ y ≤ m := by
 have := y9q x y; omega
theorem w7b {x y m : Int} : Jv x y ≤ m ↔ x ≤ m ∨ y ≤ m := by
 have := y9p x y; omega
structure GA (G c B : R6) (D : Int) : Prop where
 ga : c.a - D ≤ G.a ∧ B.a ≤ G.a ∧ (G.a = c.a - D ∨ G.a = B.a)
 gb : c.b - D ≤ G.b ∧ B.b ≤ G.b ∧ (G.b = c.b - D ∨ G.b = B.b)
 gc : c.c - D ≤ G.c ∧ B.c ≤ G.c ∧ (G.c = c.c - D ∨ G.c = B.c)
 gd : G.d ≤ c.d + D ∧ G.d ≤ B.d ∧ (G.d = c.d + D ∨ G.d = B.d)
 ge : G.e ≤ c.e + D ∧ G.e ≤ B.e ∧ (G.e = c.e + D ∨ G.e = B.e)
 gf : G.f ≤ c.f + D ∧ G.f ≤ B.f ∧ (G.f = c.f + D ∨ G.f = B.f)
theorem w7f {c B : R6} {D : Int} (hc : bdd c) (hD : 0 ≤ D ∧ D ≤ 1000000000) : GA (gA D c B) c B D := by
 obtain ⟨h1, h2, h3, h4, h5, h6⟩ := hc
 refine ⟨?_, ?_, ?_, ?_, ?_, ?_⟩ <;> unfold gA <;> simp only <;> (rw [Zq (by omega)])
 ·exact y9q _ _
 ·exact y9q _ _
 ·exact y9q _ _
 ·exact y9p _ _
 ·exact y9p _ _
 ·exact y9p _ _
theorem z0j {r : R6} : z2x r = false ↔ r.a < r.d ∧ r.b < r.e ∧ r.c < r.f := by
 unfold z2x
 simp only [Bool.or_eq_false_iff, decide_eq_false_iff_not]
 omega
theorem w1a {r : R6} (h : z2x r = true) {x y z : Int} : ¬ pin r x y z := fun ⟨p, q, s⟩ => by
 have : z2x r = false := z0j.2 (by omega)
 rw [h] at this; cases this
theorem z6d {D : Int} (hD : 0 ≤ D ∧ D ≤ 1000000000) : ∀ (l : List R6) (B : R6), bdd B → z2x B = false → (∀ c ∈ l, bdd c) → (covB D l B = true ↔ ∀ x y z, pin B x y z → ∃ c ∈ l, nrp c D x y z)
 | [], B, hB, hne, hl => by
  have h := z0j.1 hne
  constructor
  ·intro h; cases h
  ·intro k
   obtain ⟨c, hc, _⟩ := k B.a B.b B.c ⟨⟨Int.le_refl _, h.1⟩, ⟨Int.le_refl _, h.2.1⟩, Int.le_refl _, h.2.2⟩
   cases hc
 | c :: l, B, hB, hne, hl => by
  have hc := hl c (List.mem_cons_self ..)
  have hl' : ∀ c ∈ l, bdd c := fun c h => hl c (List.mem_cons_of_mem _ h)
  have G := w7f (B := B) hc hD
  have hcov : covB D (c :: l) B = bif z2x (gA D c B) then covB D l B else
   (z2x (w4n (gA D c B) B) || covB D l (w4n (gA D c B) B)) && ((z2x (w4m (gA D c B) B) || covB D l (w4m (gA D c B) B)) && ((z2x (x7z (gA D c B) B) || covB D l (x7z (gA D c B) B)) &&
   ((z2x (x7y (gA D c B) B) || covB D l (x7y (gA D c B) B)) && ((z2x (x3b (gA D c B) B) || covB D l (x3b (gA D c B) B)) && (z2x (x3a (gA D c B) B) || covB D l (x3a (gA D c B) B)))))) := rfl
  rw [hcov]
  generalize gA D c B = g at G
  obtain ⟨G1, G2, G3, G4, G5, G6⟩ := G
  have part : ∀ p, bdd p → ((z2x p || covB D l p) = true ↔ ∀ x y z, pin p x y z → ∃ c ∈ l, nrp c D x y z) := fun p hp => by
   cases he : z2x p with
   | true => exact ⟨fun _ x y z k => absurd k (w1a he), fun _ => rfl⟩
   | false => rw [Bool.false_or]; exact z6d hD l p hp he hl'
  cases he : z2x g with
  | true =>
   rw [cond_true, z6d hD l B hB hne hl']
   constructor
   ·intro k x y z hp
    obtain ⟨c', hc', q⟩ := k x y z hp
    exact ⟨c', List.mem_cons_of_mem _ hc', q⟩
   ·intro k x y z hp
    obtain ⟨c', hc', q⟩ := k x y z hp
    rcases List.mem_cons.1 hc' with rfl | hc'
    ·exfalso
     have : z2x g = false := z0j.2 (by obtain ⟨q1, q2, q3⟩ := q; obtain ⟨p1, p2, p3⟩ := hp; omega)
     rw [he] at this; cases this
    ·exact ⟨c', hc', q⟩
  | false =>
   have hg := z0j.1 he
   have hb := z0j.1 hne
   obtain ⟨b1, b2, b3, b4, b5, b6⟩ := hB
   rw [cond_false, Bool.and_eq_true, Bool.and_eq_true, Bool.and_eq_true, Bool.and_eq_true, Bool.and_eq_true]
   rw [part (w4n g B) (by unfold bdd w4n; simp only; omega), part (w4m g B) (by unfold bdd w4m; simp only; omega), part (x7z g B) (by unfold bdd x7z; simp only; omega), part (x7y g B) (by unfold bdd x7y; simp only; omega), part (x3b g B) (by unfold bdd x3b; simp only; omega), part (x3a g B) (by unfold bdd x3a; simp only; omega)]
   have out : ∀ {p : R6}, (∀ x y z, pin p x y z → pin B x y z ∧ ¬ nrp c D x y z) → (∀ x y z, pin B x y z → ∃ c' ∈ c :: l, nrp c' D x y z) → ∀ x y z, pin p x y z → ∃ c' ∈ l, nrp c' D x y z := fun h k x y z hp => by
    obtain ⟨h1, h2⟩ := h x y z hp
    obtain ⟨c', hc', q⟩ := k x y z h1
    rcases List.mem_cons.1 hc' with rfl | hc'
    ·exact absurd q h2
    ·exact ⟨c', hc', q⟩
   constructor
   ·intro ⟨k1, k2, k3, k4, k5, k6⟩ x y z ⟨⟨p1, p2⟩, ⟨p3, p4⟩, p5, p6⟩
    have up : (∃ c' ∈ l, nrp c' D x y z) → ∃ c' ∈ c :: l, nrp c' D x y z := fun ⟨c', h, q⟩ => ⟨c', List.mem_cons_of_mem _ h, q⟩
    by_cases q1 : x < g.a
    ·exact up (k1 x y z ⟨⟨p1, q1⟩, ⟨p3, p4⟩, p5, p6⟩)
    by_cases q2 : g.d ≤ x
    ·exact up (k2 x y z ⟨⟨q2, p2⟩, ⟨p3, p4⟩, p5, p6⟩)
    by_cases q3 : y < g.b
    ·exact up (k3 x y z ⟨⟨by simp only [x7z]; omega, by simp only [x7z]; omega⟩, ⟨p3, q3⟩, p5, p6⟩)
    by_cases q4 : g.e ≤ y
    ·exact up (k4 x y z ⟨⟨by simp only [x7y]; omega, by simp only [x7y]; omega⟩, ⟨q4, p4⟩, p5, p6⟩)
    by_cases q5 : z < g.c
    ·exact up (k5 x y z ⟨⟨by simp only [x3b]; omega, by simp only [x3b]; omega⟩, ⟨by simp only [x3b]; omega, by simp only [x3b]; omega⟩, p5, q5⟩)
    by_cases q6 : g.f ≤ z
    ·exact up (k6 x y z ⟨⟨by simp only [x3a]; omega, by simp only [x3a]; omega⟩, ⟨by simp only [x3a]; omega, by simp only [x3a]; omega⟩, q6, p6⟩)
    exact ⟨c, List.mem_cons_self .., by unfold nrp; omega⟩
   ·intro k
    refine ⟨out (fun x y z hp => ?_) k, out (fun x y z hp => ?_) k, out (fun x y z hp => ?_) k, out (fun x y z hp => ?_) k, out (fun x y z hp => ?_) k, out (fun x y z hp => ?_) k⟩ <;> (unfold pin at hp ⊢; unfold nrp) <;> simp only [w4n, w4m, x7z, x7y, x3b, x3a] at hp <;> omega
theorem y7e {r : R6} (hr : bdd r) {x y z D : Int} (hD : 0 ≤ D) (hx : -1000000000 ≤ x ∧ x ≤ 1000000000) (hy : -1000000000 ≤ y ∧ y ≤ 1000000000) (hz : -1000000000 ≤ z ∧ z ≤ 1000000000) : w0q x y z r ≤ D ↔ nrp r D x y z := by
 obtain ⟨h1, h2, h3, h4, h5, h6⟩ := hr
 unfold w0q nrp
 rw [Zq (n := r.a - x) (by omega), Zq (n := x - r.d) (by omega), Zq (n := x - r.d + 1) (by omega), Zq (n := r.b - y) (by omega), Zq (n := y - r.e) (by omega), Zq (n := y - r.e + 1) (by omega), Zq (n := r.c - z) (by omega), Zq (n := z - r.f) (by omega), Zq (n := z - r.f + 1) (by omega)]
 simp only [x6g]
 omega
theorem x6k {x y z m : Int} : ∀ (l : List R6) (d : Int), w4h x y z l d ≤ m ↔ d ≤ m ∨ ∃ c ∈ l, w0q x y z c ≤ m
 | [], d => by unfold w4h; simp
 | r :: l, d => by
  unfold w4h
  rw [x6k l, w7b]
  constructor
  ·rintro ((h | h) | ⟨c, hc, h⟩)
   ·exact .inl h
   ·exact .inr ⟨r, List.mem_cons_self .., h⟩
   ·exact .inr ⟨c, List.mem_cons_of_mem _ hc, h⟩
  ·rintro (h | ⟨c, hc, h⟩)
   ·exact .inl (.inl h)
   ·rcases List.mem_cons.1 hc with rfl | hc
    ·exact .inl (.inr h)
    ·exact .inr ⟨c, hc, h⟩
theorem y7b {x y z m : Int} {L : List R6} (hL : L ≠ []) : y4r x y z L ≤ m ↔ ∃ c ∈ L, w0q x y z c ≤ m := by
 cases L with
 | nil => exact absurd rfl hL
 | cons r l =>
  have e : y4r x y z (r :: l) = w4h x y z l (w0q x y z r) := rfl
  rw [e, x6k]
  constructor
  ·rintro (h | ⟨c, hc, h⟩)
   ·exact ⟨r, List.mem_cons_self .., h⟩
   ·exact ⟨c, List.mem_cons_of_mem _ hc, h⟩
  ·rintro ⟨c, hc, h⟩
   rcases List.mem_cons.1 hc with rfl | hc
   ·exact .inl h
   ·exact .inr ⟨c, hc, h⟩
theorem y9i {g : Int → Int → Int} {m : Int} {p : Int → Prop} (hg : ∀ z d, g z d ≤ m ↔ d ≤ m ∧ p z) : ∀ (n : Nat) (z d : Int), lpI g n z d ≤ m ↔ d ≤ m ∧ ∀ k, z ≤ k → k < z + n → p k
 | 0, z, d => by
  unfold lpI
  exact ⟨fun h => ⟨h, fun k h1 h2 => by omega⟩, fun h => h.1⟩
 | n + 1, z, d => by
  unfold lpI
  rw [y9i hg n, hg]
  constructor
  ·rintro ⟨⟨h1, h2⟩, h3⟩
   refine ⟨h1, fun k hk hk' => ?_⟩
   by_cases e : k = z
   ·subst e; exact h2
   ·exact h3 k (by omega) (by omega)
  ·rintro ⟨h1, h2⟩
   exact ⟨⟨h1, h2 z (Int.le_refl _) (by omega)⟩, fun k hk hk' => h2 k (by omega) (by omega)⟩
theorem rgX_le {L1 : List R6} {r : R6} {d m : Int} : rgX L1 r d ≤ m ↔ d ≤ m ∧ ∀ x y z, pin r x y z → y4r x y z L1 ≤ m := by
 have hz : ∀ x y d, rgZ L1 r x y d ≤ m ↔ d ≤ m ∧ ∀ z, r.c ≤ z → z < r.f → y4r x y z L1 ≤ m := fun x y d => by
  unfold rgZ
  rw [y9i (p := fun z => y4r x y z L1 ≤ m) (fun z d => x6g)]
  exact and_congr_right fun _ => ⟨fun h k h1 h2 => h k h1 (by omega), fun h k h1 h2 => h k h1 (by omega)⟩
 have hy : ∀ x d, rgY L1 r x d ≤ m ↔ d ≤ m ∧ ∀ y, r.b ≤ y → y < r.e → ∀ z, r.c ≤ z → z < r.f → y4r x y z L1 ≤ m := fun x d => by
  unfold rgY
  rw [y9i (p := fun y => ∀ z, r.c ≤ z → z < r.f → y4r x y z L1 ≤ m) (fun y d => hz x y d)]
  exact and_congr_right fun _ => ⟨fun h k h1 h2 => h k h1 (by omega), fun h k h1 h2 => h k h1 (by omega)⟩
 unfold rgX
 rw [y9i (p := fun x => ∀ y, r.b ≤ y → y < r.e → ∀ z, r.c ≤ z → z < r.f → y4r x y z L1 ≤ m) (fun x d => hy x d)]
 exact and_congr_right fun _ => ⟨fun h x y z ⟨p1, p2, p3⟩ => h x p1.1 (by omega) y p2.1 p2.2 z p3.1 p3.2, fun h x h1 h2 y h3 h4 z h5 h6 => h x y z ⟨⟨h1, by omega⟩, ⟨h3, h4⟩, h5, h6⟩⟩
theorem x4h {L1 : List R6} {m : Int} : ∀ (L0 : List R6) (d : Int), rrcF L1 L0 d ≤ m ↔ d ≤ m ∧ ∀ r ∈ L0, ∀ x y z, pin r x y z → y4r x y z L1 ≤ m
 | [], d => by
  unfold rrcF
  exact ⟨fun h => ⟨h, fun r hr => by cases hr⟩, fun h => h.1⟩
 | r :: l, d => by
  unfold rrcF
  rw [x4h l, rgX_le]
  constructor
  ·rintro ⟨⟨h1, h2⟩, h3⟩
   refine ⟨h1, fun q hq => ?_⟩
   rcases List.mem_cons.1 hq with rfl | hq
   ·exact h2
   ·exact h3 q hq
  ·rintro ⟨h1, h2⟩
   exact ⟨⟨h1, h2 r (List.mem_cons_self ..)⟩, fun q hq => h2 q (List.mem_cons_of_mem _ hq)⟩
theorem y5q {L0 L1 : List R6} {m : Int} : y1x L0 L1 ≤ m ↔ 0 ≤ m ∧ ∀ r ∈ L0, ∀ x y z, pin r x y z → y4r x y z L1 ≤ m := x4h L0 0
theorem z1a {r : R6} (h : z1v r = true) : bdd r := by
 obtain ⟨h1, h2, h3, h4, h5, h6, h7, h8, h9⟩ := Ue h
 unfold bdd; omega
theorem w2d {r : R6} (h : z1v r = true) : z2x r = false := by
 obtain ⟨h1, h2, h3, _⟩ := Ue h
 exact z0j.2 ⟨h1, h2, h3⟩
theorem w1x {L0 L1 : List R6} (h0 : ∀ r ∈ L0, z1v r = true) (h1 : ∀ r ∈ L1, z1v r = true) (hne : L0 = [] ∨ L1 ≠ []) {d : Int} (hd : 0 ≤ d ∧ d ≤ 1000000000) : w4w L1 d L0 = true ↔ y1x L0 L1 ≤ d := by
 rw [y5q]
 unfold w4w
 rw [List.all_eq_true]
 constructor
 ·intro h
  refine ⟨hd.1, fun r hr x y z hp => ?_⟩
  have hL : L1 ≠ [] := by
   rcases hne with e | e
   ·subst e; cases hr
   ·exact e
  obtain ⟨c, hc, q⟩ := (z6d hd L1 r (z1a (h0 r hr)) (w2d (h0 r hr)) fun c hc => z1a (h1 c hc)).1 (h r hr) x y z hp
  obtain ⟨v1, v2, v3, v4, v5, v6, v7, v8, v9⟩ := Ue (h0 r hr)
  obtain ⟨p1, p2, p3⟩ := hp
  exact (y7b hL).2 ⟨c, hc, (y7e (z1a (h1 c hc)) hd.1 (by omega) (by omega) (by omega)).2 q⟩
 ·rintro ⟨_, h⟩ r hr
  refine (z6d hd L1 ⟨r.a, r.b, r.c, r.d, r.e, r.f⟩ (z1a (h0 r hr)) (w2d (h0 r hr)) fun c hc => z1a (h1 c hc)).2 fun x y z hp => ?_
  have hL : L1 ≠ [] := by
   rcases hne with e | e
   ·subst e; cases hr
   ·exact e
  obtain ⟨c, hc, q⟩ := (y7b hL).1 (h r hr x y z hp)
  obtain ⟨v1, v2, v3, v4, v5, v6, v7, v8, v9⟩ := Ue (h0 r hr)
  obtain ⟨p1, p2, p3⟩ := hp
  simp only at p1 p2 p3
  exact ⟨c, hc, (y7e (z1a (h1 c hc)) hd.1 (by omega) (by omega) (by omega)).1 q⟩
theorem x4g {L0 L1 : List R6} (h0 : ∀ r ∈ L0, z1v r = true) (h1 : ∀ r ∈ L1, z1v r = true) (hne : L0 = [] ∨ L1 ≠ []) : 0 ≤ y1x L0 L1 ∧ y1x L0 L1 ≤ 1999999 := by
 refine ⟨(y5q.1 (Int.le_refl _)).1, y5q.2 ⟨by omega, fun r hr x y z hp => ?_⟩⟩
 have hL : L1 ≠ [] := by
  rcases hne with e | e
  ·subst e; cases hr
  ·exact e
 obtain ⟨c, hc⟩ := List.exists_mem_of_ne_nil L1 hL
 obtain ⟨v1, v2, v3, v4, v5, v6, v7, v8, v9⟩ := Ue (h0 r hr)
 obtain ⟨w1, w2, w3, w4, w5, w6, w7, w8, w9⟩ := Ue (h1 c hc)
 obtain ⟨p1, p2, p3⟩ := hp
 refine (y7b hL).2 ⟨c, hc, (y7e (z1a (h1 c hc)) (by omega) (by omega) (by omega) (by omega)).2 ?_⟩
 unfold nrp; omega
theorem y5b {F : Int → Bool} {R : Int} (hF : ∀ d, 0 ≤ d → d < 2000000 → (F d = true ↔ R ≤ d)) : ∀ (n : Nat) (i j : Int), 0 ≤ i → i ≤ R → R ≤ j → j ≤ 2000000 → j - i < 2 ^ n → x7v F n i j = R
 | 0, i, j, h1, h2, h3, h4, h5 => by unfold x7v; simp at h5; omega
 | n + 1, i, j, h1, h2, h3, h4, h5 => by
  have hp : (2 : Int) ^ (n + 1) = 2 * 2 ^ n := by rw [Int.pow_succ, Int.mul_comm]
  rw [hp] at h5
  generalize hP : (2 : Int) ^ n = p at h5
  unfold x7v
  by_cases hlt : i < j
  ·rw [Yy hlt, cond_true]
   rcases Yp (F ((i + j) / 2)) with q | q
   ·rw [q, cond_true]
    have := (hF ((i + j) / 2) (by omega) (by omega)).1 q
    exact y5b hF n i _ h1 h2 this (by omega) (by rw [hP]; omega)
   ·rw [q, cond_false]
    have : ¬ R ≤ (i + j) / 2 := fun e => by rw [(hF _ (by omega) (by omega)).2 e] at q; cases q
    exact y5b hF n _ j (by omega) (by omega) h3 h4 (by rw [hP]; omega)
  ·rw [Yv hlt, cond_false]; omega
theorem x5e {L0 L1 : List R6} (h0 : ∀ r ∈ L0, z1v r = true) (h1 : ∀ r ∈ L1, z1v r = true) (hne : L0 = [] ∨ L1 ≠ []) : y8y L0 L1 = y1x L0 L1 := by
 obtain ⟨m1, m2⟩ := x4g h0 h1 hne
 exact y5b (fun d hd hd' => w1x h0 h1 hne ⟨hd, by omega⟩) 22 0 2000000 (Int.le_refl _) m1 (by omega) (Int.le_refl _) (by decide)
end Go.Am
namespace Go.Am
open Go.Proofs
theorem eRe_ok {k : List R6 → Int} {L0 L1 : List R6} (h : (eRe k L0 L1 == 0) = true) : k L0 = 0 ∧ k L1 = 0 ∧ (L0 = [] ∨ L1 ≠ []) := by
 unfold eRe at h
 have hk : ∀ l, (k l != 0) = !(k l == 0) := fun _ => rfl
 simp only [hk] at h
 rcases Yp (k L0 == 0) with a | a
 ·rw [a, Bool.not_true, cond_false] at h
  rcases Yp (k L1 == 0) with b | b
  ·rw [b, Bool.not_true, cond_false] at h
   refine ⟨eq_of_beq a, eq_of_beq b, ?_⟩
   cases L0 with
   | nil => exact .inl rfl
   | cons r l =>
    cases L1 with
    | nil =>
     rw [Yh (show (((r :: l).length : Nat) : Int) > 0 by simp)] at h
     cases h
    | cons s m => exact .inr (by simp)
  ·rw [b, Bool.not_false, cond_true, b] at h; cases h
 ·rw [a, Bool.not_false, cond_true, a] at h; cases h
theorem eDi_ok {k : List R6 → Int} {L0 L1 : List R6} (h : (eDi k L0 L1 == 0) = true) : k L0 = 0 ∧ k L1 = 0 ∧ L0 ≠ [] ∧ L1 ≠ [] := by
 unfold eDi at h
 have hk : ∀ l, (k l != 0) = !(k l == 0) := fun _ => rfl
 simp only [hk] at h
 rcases Yp (k L0 == 0) with a | a
 ·rw [a, Bool.not_true, cond_false] at h
  rcases Yp (k L1 == 0) with b | b
  ·rw [b, Bool.not_true, cond_false] at h
   refine ⟨eq_of_beq a, eq_of_beq b, fun e => ?_, fun e => ?_⟩
   ·subst e; cases h
   ·subst e
    rw [show ((([] : List R6).length : Nat) : Int) = 0 from rfl, show ((0 : Int) == 0) = true from rfl, Bool.or_true] at h
    cases h
  ·rw [b, Bool.not_false, cond_true, b] at h; cases h
 ·rw [a, Bool.not_false, cond_true, a] at h; cases h
theorem re_eq (L0 L1 : List R6) : z9w L0 L1 = z9e L0 L1 ∧ z9v L0 L1 = z9d L0 L1 := by
 have hk : Xk = rckV_0 := funext y1j
 unfold z9w z9e z9v z9d
 rw [hk]
 refine ⟨?_, rfl⟩
 rcases Yp (eRe rckV_0 L0 L1 == 0) with h | h
 ·rw [h, cond_true, cond_true]
  obtain ⟨h0, h1, hne⟩ := eRe_ok h
  rw [x5e (z1w (by rw [hk]; exact h0)).2.1 (z1w (by rw [hk]; exact h1)).2.1 hne]
  cases L0 with
  | nil => rfl
  | cons r l => rw [w4t (show (((r :: l).length : Nat) : Int) ≠ 0 by simp; omega)]; rfl
 ·rw [h]; rfl
theorem di_eq (L0 L1 : List R6) : z9x L0 L1 = z9g L0 L1 ∧ z7v L0 L1 = z6s L0 L1 := by
 have hk : Xk = rckV_0 := funext y1j
 unfold z9x z9g z7v z6s
 rw [hk]
 refine ⟨?_, rfl⟩
 rcases Yp (eDi rckV_0 L0 L1 == 0) with h | h
 ·rw [h, cond_true, cond_true]
  obtain ⟨h0, h1, n0, n1⟩ := eDi_ok h
  have v0 := (z1w (by rw [hk]; exact h0) : L0.length ≤ 400 ∧ _).2.1
  have v1 := (z1w (by rw [hk]; exact h1) : L1.length ≤ 400 ∧ _).2.1
  rw [x5e v0 v1 (.inr n1), x5e v1 v0 (.inr n0)]
 ·rw [h]; rfl
theorem drs_run (L0 L1 : List R6) : ∃ N, Yk (y7j L0 L1) N (z6a L0 L1) = .ret [.bool true] := ⟨0, by
 unfold z6a
 simp only [Zo, show ∀ l, Ku l = true from fun _ => rfl, show ∀ l m, z2y l m = true from fun _ _ => rfl, show ∀ l m, z3b l m = true from fun _ _ => rfl, show ∀ l m, z2b l m = true from fun _ _ => rfl, show ∀ l m, z2j l m = true from fun _ _ => rfl, cond_true]
 obtain ⟨e1, e2⟩ := re_eq L0 L1
 obtain ⟨e3, e4⟩ := di_eq L0 L1
 rw [e1, e2, e3, e4, beq_self_eq_true, beq_self_eq_true, beq_self_eq_true, beq_self_eq_true]
 cases y6k L0 <;> cases y6k L1 <;> rfl⟩
end Go.Am
end
