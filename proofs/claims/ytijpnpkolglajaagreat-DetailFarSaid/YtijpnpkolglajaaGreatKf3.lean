/- A part of a proof: several texts in one. -/
import Derived.Test.YtijpnpkolglajaaGreatKf2
import Derived.Sort.AssemblyPlain
import Derived.Lib.BitFns
import Derived.Shelf.GgSortFunc.InsertionK
import Derived.Shelf.Sort.Plain
import Derived.Ground.Names2Prog
import Derived.Shelf.Slices.CompactI
import Derived.Shelf.Slices.SearchI
import Derived.Shelf.Slices.Cells
import Derived.Shelf.Slices.In.SortNone
import Derived.Shelf.SlSortCmp.WholeK
import Derived.Ground.SlsfProg
import Derived.Test.YtijpnpkolglajaaGreatProg
import Derived.Shelf.SlSortCmp.NoneTotal
set_option maxRecDepth 1000000
set_option maxHeartbeats 8000000
set_option linter.unusedVariables false
set_option linter.unusedSimpArgs false
noncomputable section
namespace Go.Am
open Go.Proofs
def y9s (out : List Int) (x : Int) : Nat → Nat
 | 0 => 0
 | k + 1 => bif decide (rd out k > x) then y9s out x k else k + 1
def z9y (out : List Int) (x : Int) : List Int :=
 match y9s out x out.length with
 | 0 => x :: out
 | k + 1 => bif rd out k == x then out else out.take (k + 1) ++ x :: out.drop (k + 1)
def z0a (l : List Int) : List Int := l.foldl z9y []
def Jm (l : List Int) : Bool := decide (l.length ≤ 100000)
theorem z9x (out : List Int) (x : Int) : (z9y out x).length ≤ out.length + 1 := by
 unfold z9y
 split
 ·simp
 ·rename_i k _
  cases (rd out k == x) <;> simp <;> omega
theorem y7a (out : List Int) (x : Int) (k : Nat) (hk : k ≤ out.length) :
  (y1m (out ++ [0]) (k + 1) (Nat.min (out.length + 1 - k) (out.length + 1 - (k + 1))) (Kk (out ++ [0]) k (out.length + 1 - k))).set k x = out.take k ++ x :: out.drop k := by
 have hm : Nat.min (out.length + 1 - k) (out.length + 1 - (k + 1)) = out.length - k := by
  show min _ _ = _
  omega
 rw [hm]
 apply List.ext_getElem
 ·simp [Uv]; omega
 ·intro i h1 h2
  have hi : i < out.length + 1 := by simpa [Uv] using h1
  rw [← Xe h1, ← Xe h2]
  rw [v0c (by simpa [Uv] using hi)]
  by_cases e : i = k
  ·subst e
   rw [if_pos rfl, Va (by simp only [List.length_take]; omega), Xe (by simp; omega)]
   simp [Nat.min_eq_left hk]
  ·rw [if_neg e, x9k (by simpa using hi)]
   by_cases h : i < k
   ·rw [w8m (show ¬ k + 1 ≤ i by omega), Bool.false_and, cond_false, Vs (by omega), Vs (by simp; omega)]
    rw [Xe (by omega), Xe (by simp; omega), List.getElem_take]
   ·rw [w2h (show k + 1 ≤ i by omega), w2h (show i + 1 ≤ k + 1 + (out.length - k) by omega), Bool.true_and, cond_true, y3n (by omega), Vs (by omega)]
    rw [Va (by simp; omega), Xe (by omega), Xe (by simp; omega)]
    obtain ⟨j, rfl⟩ : ∃ j, i = k + 1 + j := ⟨i - k - 1, by omega⟩
    simp only [List.length_take, Nat.min_eq_left hk]
    rw [List.getElem_cons, dif_neg (by omega), List.getElem_drop]
    congr 1
theorem x2n (l : List Int) (out : List Int) (i : Nat) (hi : i < l.length) (hl : l.length ≤ 100000) (ho : out.length ≤ i) : ∀ (k N : Nat), k ≤ out.length →
  (y9s out (rd l i) out.length = y9s out (rd l i) k) → ∃ m, ∀ N, Yv (Vx l) (N + m) (.to (.h1 out (i : Int) (k : Int))) = Yv (Vx l) N (.to (.h0 (z9y out (rd l i)) ((i + 1 : Nat) : Int)))
 | 0, N, hk, hp => by
  refine ⟨1, fun N => ?_⟩
  have hins : z9y out (rd l i) = (y1m (out ++ [0]) (0 + 1) (Nat.min (out.length + 1 - 0) (out.length + 1 - (0 + 1))) (Kk (out ++ [0]) 0 (out.length + 1 - 0))).set 0 (rd l i) := by
   rw [y7a out _ 0 (Nat.zero_le _)]
   unfold z9y
   rw [hp]; rfl
  rw [hins, Zv]
  simp (disch := omega) only [Vx, Zf, decide_true, Xz, Zo, Xh, Yw, Yz, Yu, Zt, Zj, Zw, Yp, Zq, Nat.zero_add, Bool.and_true, Bool.true_and, cond_true, cond_false]
 | k + 1, N, hk, hp => by
  rcases Ya (decide (rd out k > rd l i)) with h | h
  ·have hp' : y9s out (rd l i) out.length = y9s out (rd l i) k := by rw [hp]; conv => lhs; unfold y9s; rw [h, cond_true]
   obtain ⟨m, hm⟩ := x2n l out i hi hl ho k N (by omega) hp'
   refine ⟨m + 1, fun N => ?_⟩
   rw [← hm N, ← Nat.add_assoc, Zv]
   simp (disch := omega) only [Vx, Zc, h, Zf, decide_true, Yi, Zo, Xh, Yw, Yz, Yu, Zt, Zj, Zw, Yp, Zq, Nat.zero_add, Bool.and_true, Bool.true_and, cond_true, cond_false]
  ·have hpk : y9s out (rd l i) out.length = k + 1 := by rw [hp]; unfold y9s; rw [h]; rfl
   refine ⟨1, fun N => ?_⟩
   rw [Zv]
   rcases Ya (rd out k == rd l i) with q | q
   ·have hins : z9y out (rd l i) = out := by unfold z9y; rw [hpk]; simp only [q, cond_true]
    rw [hins]
    simp (disch := omega) only [Vx, Zc, h, q, Zf, decide_true, Yi, Zo, Xh, Yw, Yz, Yu, Zt, Zj, Zw, Yp, Zq, Nat.zero_add, Bool.and_true, Bool.true_and, cond_true, cond_false]
   ·have hins : z9y out (rd l i) = (y1m (out ++ [0]) (k + 1 + 1) (Nat.min (out.length + 1 - (k + 1)) (out.length + 1 - (k + 1 + 1))) (Kk (out ++ [0]) (k + 1) (out.length + 1 - (k + 1)))).set (k + 1) (rd l i) := by
     rw [y7a out _ (k + 1) hk]
     unfold z9y
     rw [hpk]; simp only [q, cond_false]
    rw [hins]
    simp (disch := omega) only [Vx, Zc, h, q, Zf, decide_true, Yi, Zo, Xh, Yw, Yz, Yu, Zt, Zj, Zw, Yp, Zq, Nat.zero_add, Bool.and_true, Bool.true_and, cond_true, cond_false]
theorem x2o (l : List Int) (hl : l.length ≤ 100000) : ∀ (k i : Nat) (out : List Int), i + k = l.length → out.length ≤ i → ∃ m, Yv (Vx l) m (.to (.h0 out (i : Int))) = .ret [.dat ((l.drop i).foldl z9y out).length (Zz ((l.drop i).foldl z9y out))]
 | 0, i, out, h, ho => by
  refine ⟨1, ?_⟩
  rw [Zv]
  simp (disch := omega) only [Vx, Zs, cond_false]
  rw [List.drop_eq_nil_of_le (by omega)]; rfl
 | k + 1, i, out, h, ho => by
  obtain ⟨m1, h1⟩ := x2n l out i (by omega) hl ho out.length 0 (Nat.le_refl _) rfl
  obtain ⟨m2, h2⟩ := x2o l hl k (i + 1) (z9y out (rd l i)) (by omega) (Nat.le_trans (z9x _ _) (by omega))
  refine ⟨m2 + m1 + 1, ?_⟩
  rw [Zv]
  simp (disch := omega) only [Vx, Zo, cond_true]
  rw [h1 m2, h2, Yc (show i < l.length by omega)]; rfl
theorem x8p (l : List Int) (h : Jm l = true) : ∃ N, Yv (Vx l) N (z1u l) = .ret [.dat (z0a l).length (Zz (z0a l))] := by
 have := x2o l (of_decide_eq_true h) l.length 0 [] (by omega) (Nat.le_refl _)
 simpa [z1u, z0a] using this
end Go.Am
namespace Go.Am
open Go.Proofs
theorem Zh (n : Nat) : Int.toNat ((n : Int) - 1) = n - 1 := by omega
theorem w4y (x y : R2) : ((x.a == y.a) && (x.b == y.b)) = decide (x = y) := by
 obtain ⟨a, b⟩ := x; obtain ⟨c, d⟩ := y
 rw [Bool.eq_iff_iff]; simp
theorem w4x (x y : R4) : ((x.a == y.a) && ((x.b == y.b) && ((x.c == y.c) && (x.d == y.d)))) = decide (x = y) := by
 obtain ⟨a, b, c, d⟩ := x; obtain ⟨e, f, g, h⟩ := y
 rw [Bool.eq_iff_iff]; simp
theorem w4w (x y : R6) : (((x.a == y.a) && ((x.b == y.b) && (x.c == y.c))) && ((x.d == y.d) && ((x.e == y.e) && (x.f == y.f)))) = decide (x = y) := by
 obtain ⟨a, b, c, d, e, f⟩ := x; obtain ⟨a', b', c', d', e', f'⟩ := y
 rw [Bool.eq_iff_iff]; simp [and_assoc]
def Jg (l m : List R2) : Bool := decide (l = m)
def Up (l m : List R4) : Bool := decide (l = m)
def Ur (l m : List R6) : Bool := decide (l = m)
def Wt (l m : List R2) : Bool := decide (l.length ≤ 1000000)
def Wj (l m : List R4) : Bool := decide (l.length ≤ 1000000)
def Vg (l m : List R6) : Bool := decide (l.length ≤ 1000000)
theorem z2j {α : Type} [DecidableEq α] (x y : α) (l m : List α) : decide (x :: l = y :: m) = (decide (x = y) && decide (l = m)) := by
 rw [← Bool.decide_and]; congr 1; simp
theorem w9r (l m : List R2) (hl : l.length ≤ 1000000) (hm : l.length = m.length) : ∀ (k i : Nat), i + k = l.length → ∃ N, Yv (z3b l m) N (.to (.h0 (i : Int))) = .ret [.bool (decide (l.drop i = m.drop i))]
 | 0, i, h => by
  refine ⟨1, ?_⟩
  rw [Zv, List.drop_eq_nil_of_le (show l.length ≤ i by omega), List.drop_eq_nil_of_le (show m.length ≤ i by omega)]
  simp (disch := omega) only [z3b, Xz, Yi, Zo, Zs, Xh, Yw, Yz, Yu, Zt, Zj, Zf, Kg, Ka, decide_true, Zw, Zc, Zh, Yp, Zq, Nat.zero_add, Bool.and_true, Bool.true_and, cond_true, cond_false, Bool.not_true, Bool.not_false, Zm]
 | k + 1, i, h => by
  obtain ⟨N, hN⟩ := w9r l m hl hm k (i + 1) (by omega)
  refine ⟨N + 1, ?_⟩
  rw [Zv, Yc (show i < l.length by omega), Yc (show i < m.length by omega), z2j]
  rcases Ya (decide (rd l i = rd m i)) with q | q
  ·simp (disch := omega) only [z3b, w4y, q, Xz, Yi, Zo, Zs, Xh, Yw, Yz, Yu, Zt, Zj, Zf, Kg, Ka, decide_true, Zw, Zc, Zh, Yp, Zq, Nat.zero_add, Bool.and_true, Bool.true_and, cond_true, cond_false, Bool.not_true, Bool.not_false, Zm]
   exact hN
  ·simp (disch := omega) only [z3b, w4y, q, Xz, Yi, Zo, Zs, Xh, Yw, Yz, Yu, Zt, Zj, Zf, Kg, Ka, decide_true, Zw, Zc, Zh, Yp, Zq, Nat.zero_add, Bool.and_true, Bool.true_and, cond_true, cond_false, Bool.not_true, Bool.not_false, Zm, Bool.false_and]
theorem v3s (l m : List R2) (h : Wt l m = true) : ∃ N, Yv (z3b l m) N (z3s l m) = .ret [.bool (Jg l m)] := by
 have hl : l.length ≤ 1000000 := of_decide_eq_true h
 by_cases hm : l.length = m.length
 ·obtain ⟨N, hN⟩ := w9r l m hl hm l.length 0 (Nat.zero_add _)
  refine ⟨N, ?_⟩
  unfold z3s
  rw [Ka (show (l.length : Int) = (m.length : Nat) by omega)]
  exact hN
 ·refine ⟨0, ?_⟩
  unfold z3s
  rw [Kg (show (l.length : Int) ≠ (m.length : Nat) by omega)]
  have : Jg l m = false := decide_eq_false fun e => hm (by rw [e])
  rw [this]; rfl
theorem w9q (l m : List R4) (hl : l.length ≤ 1000000) (hm : l.length = m.length) : ∀ (k i : Nat), i + k = l.length → ∃ N, Yv (z3a l m) N (.to (.h0 (i : Int))) = .ret [.bool (decide (l.drop i = m.drop i))]
 | 0, i, h => by
  refine ⟨1, ?_⟩
  rw [Zv, List.drop_eq_nil_of_le (show l.length ≤ i by omega), List.drop_eq_nil_of_le (show m.length ≤ i by omega)]
  simp (disch := omega) only [z3a, Xz, Yi, Zo, Zs, Xh, Yw, Yz, Yu, Zt, Zj, Zf, Kg, Ka, decide_true, Zw, Zc, Zh, Yp, Zq, Nat.zero_add, Bool.and_true, Bool.true_and, cond_true, cond_false, Bool.not_true, Bool.not_false, Zm]
 | k + 1, i, h => by
  obtain ⟨N, hN⟩ := w9q l m hl hm k (i + 1) (by omega)
  refine ⟨N + 1, ?_⟩
  rw [Zv, Yc (show i < l.length by omega), Yc (show i < m.length by omega), z2j]
  rcases Ya (decide (rd l i = rd m i)) with q | q
  ·simp (disch := omega) only [z3a, w4x, q, Xz, Yi, Zo, Zs, Xh, Yw, Yz, Yu, Zt, Zj, Zf, Kg, Ka, decide_true, Zw, Zc, Zh, Yp, Zq, Nat.zero_add, Bool.and_true, Bool.true_and, cond_true, cond_false, Bool.not_true, Bool.not_false, Zm]
   exact hN
  ·simp (disch := omega) only [z3a, w4x, q, Xz, Yi, Zo, Zs, Xh, Yw, Yz, Yu, Zt, Zj, Zf, Kg, Ka, decide_true, Zw, Zc, Zh, Yp, Zq, Nat.zero_add, Bool.and_true, Bool.true_and, cond_true, cond_false, Bool.not_true, Bool.not_false, Zm, Bool.false_and]
theorem v3r (l m : List R4) (h : Wj l m = true) : ∃ N, Yv (z3a l m) N (z3r l m) = .ret [.bool (Up l m)] := by
 have hl : l.length ≤ 1000000 := of_decide_eq_true h
 by_cases hm : l.length = m.length
 ·obtain ⟨N, hN⟩ := w9q l m hl hm l.length 0 (Nat.zero_add _)
  refine ⟨N, ?_⟩
  unfold z3r
  rw [Ka (show (l.length : Int) = (m.length : Nat) by omega)]
  exact hN
 ·refine ⟨0, ?_⟩
  unfold z3r
  rw [Kg (show (l.length : Int) ≠ (m.length : Nat) by omega)]
  have : Up l m = false := decide_eq_false fun e => hm (by rw [e])
  rw [this]; rfl
theorem w9s (l m : List R6) (hl : l.length ≤ 1000000) (hm : l.length = m.length) : ∀ (k i : Nat), i + k = l.length → ∃ N, Yv (z3c l m) N (.to (.h0 (i : Int))) = .ret [.bool (decide (l.drop i = m.drop i))]
 | 0, i, h => by
  refine ⟨1, ?_⟩
  rw [Zv, List.drop_eq_nil_of_le (show l.length ≤ i by omega), List.drop_eq_nil_of_le (show m.length ≤ i by omega)]
  simp (disch := omega) only [z3c, Xz, Yi, Zo, Zs, Xh, Yw, Yz, Yu, Zt, Zj, Zf, Kg, Ka, decide_true, Zw, Zc, Zh, Yp, Zq, Nat.zero_add, Bool.and_true, Bool.true_and, cond_true, cond_false, Bool.not_true, Bool.not_false, Zm]
 | k + 1, i, h => by
  obtain ⟨N, hN⟩ := w9s l m hl hm k (i + 1) (by omega)
  refine ⟨N + 1, ?_⟩
  rw [Zv, Yc (show i < l.length by omega), Yc (show i < m.length by omega), z2j]
  rcases Ya (decide (rd l i = rd m i)) with q | q
  ·simp (disch := omega) only [z3c, w4w, q, Xz, Yi, Zo, Zs, Xh, Yw, Yz, Yu, Zt, Zj, Zf, Kg, Ka, decide_true, Zw, Zc, Zh, Yp, Zq, Nat.zero_add, Bool.and_true, Bool.true_and, cond_true, cond_false, Bool.not_true, Bool.not_false, Zm]
   exact hN
  ·simp (disch := omega) only [z3c, w4w, q, Xz, Yi, Zo, Zs, Xh, Yw, Yz, Yu, Zt, Zj, Zf, Kg, Ka, decide_true, Zw, Zc, Zh, Yp, Zq, Nat.zero_add, Bool.and_true, Bool.true_and, cond_true, cond_false, Bool.not_true, Bool.not_false, Zm, Bool.false_and]
theorem v3t (l m : List R6) (h : Vg l m = true) : ∃ N, Yv (z3c l m) N (z3t l m) = .ret [.bool (Ur l m)] := by
 have hl : l.length ≤ 1000000 := of_decide_eq_true h
 by_cases hm : l.length = m.length
 ·obtain ⟨N, hN⟩ := w9s l m hl hm l.length 0 (Nat.zero_add _)
  refine ⟨N, ?_⟩
  unfold z3t
  rw [Ka (show (l.length : Int) = (m.length : Nat) by omega)]
  exact hN
 ·refine ⟨0, ?_⟩
  unfold z3t
  rw [Kg (show (l.length : Int) ≠ (m.length : Nat) by omega)]
  have : Ur l m = false := decide_eq_false fun e => hm (by rw [e])
  rw [this]; rfl
theorem v1w (l m : List R2) (hl : l.length ≤ 1000000) (hm : l.length = m.length) : ∀ (k i : Nat), i + k = l.length → ∃ N, Yv (z3i l m) N (.to (.h0 (i : Int))) = .ret [.bool (decide (l.drop i = m.drop i))]
 | 0, i, h => by
  refine ⟨1, ?_⟩
  rw [Zv, List.drop_eq_nil_of_le (show l.length ≤ i by omega), List.drop_eq_nil_of_le (show m.length ≤ i by omega)]
  simp (disch := omega) only [z3i, Xz, Yi, Zo, Zs, Xh, Yw, Yz, Yu, Zt, Zj, Zf, Kg, Ka, decide_true, Zw, Zc, Zh, Yp, Zq, Nat.zero_add, Bool.and_true, Bool.true_and, cond_true, cond_false, Bool.not_true, Bool.not_false, Zm]
 | k + 1, i, h => by
  obtain ⟨N, hN⟩ := v1w l m hl hm k (i + 1) (by omega)
  refine ⟨N + 1, ?_⟩
  rw [Zv, Yc (show i < l.length by omega), Yc (show i < m.length by omega), z2j]
  rcases Ya (decide (rd l i = rd m i)) with q | q
  ·simp (disch := omega) only [z3i, w4y, q, Xz, Yi, Zo, Zs, Xh, Yw, Yz, Yu, Zt, Zj, Zf, Kg, Ka, decide_true, Zw, Zc, Zh, Yp, Zq, Nat.zero_add, Bool.and_true, Bool.true_and, cond_true, cond_false, Bool.not_true, Bool.not_false, Zm]
   exact hN
  ·simp (disch := omega) only [z3i, w4y, q, Xz, Yi, Zo, Zs, Xh, Yw, Yz, Yu, Zt, Zj, Zf, Kg, Ka, decide_true, Zw, Zc, Zh, Yp, Zq, Nat.zero_add, Bool.and_true, Bool.true_and, cond_true, cond_false, Bool.not_true, Bool.not_false, Zm, Bool.false_and]
theorem v6z (l m : List R2) (h : Wt l m = true) : ∃ N, Yv (z3i l m) N (z4u l m) = .ret [.bool (Jg l m)] := by
 have hl : l.length ≤ 1000000 := of_decide_eq_true h
 by_cases hm : l.length = m.length
 ·obtain ⟨N, hN⟩ := v1w l m hl hm l.length 0 (Nat.zero_add _)
  refine ⟨N, ?_⟩
  unfold z4u
  rw [Ka (show (l.length : Int) = (m.length : Nat) by omega)]
  exact hN
 ·refine ⟨0, ?_⟩
  unfold z4u
  rw [Kg (show (l.length : Int) ≠ (m.length : Nat) by omega)]
  have : Jg l m = false := decide_eq_false fun e => hm (by rw [e])
  rw [this]; rfl
theorem v1v (l m : List R4) (hl : l.length ≤ 1000000) (hm : l.length = m.length) : ∀ (k i : Nat), i + k = l.length → ∃ N, Yv (z3h l m) N (.to (.h0 (i : Int))) = .ret [.bool (decide (l.drop i = m.drop i))]
 | 0, i, h => by
  refine ⟨1, ?_⟩
  rw [Zv, List.drop_eq_nil_of_le (show l.length ≤ i by omega), List.drop_eq_nil_of_le (show m.length ≤ i by omega)]
  simp (disch := omega) only [z3h, Xz, Yi, Zo, Zs, Xh, Yw, Yz, Yu, Zt, Zj, Zf, Kg, Ka, decide_true, Zw, Zc, Zh, Yp, Zq, Nat.zero_add, Bool.and_true, Bool.true_and, cond_true, cond_false, Bool.not_true, Bool.not_false, Zm]
 | k + 1, i, h => by
  obtain ⟨N, hN⟩ := v1v l m hl hm k (i + 1) (by omega)
  refine ⟨N + 1, ?_⟩
  rw [Zv, Yc (show i < l.length by omega), Yc (show i < m.length by omega), z2j]
  rcases Ya (decide (rd l i = rd m i)) with q | q
  ·simp (disch := omega) only [z3h, w4x, q, Xz, Yi, Zo, Zs, Xh, Yw, Yz, Yu, Zt, Zj, Zf, Kg, Ka, decide_true, Zw, Zc, Zh, Yp, Zq, Nat.zero_add, Bool.and_true, Bool.true_and, cond_true, cond_false, Bool.not_true, Bool.not_false, Zm]
   exact hN
  ·simp (disch := omega) only [z3h, w4x, q, Xz, Yi, Zo, Zs, Xh, Yw, Yz, Yu, Zt, Zj, Zf, Kg, Ka, decide_true, Zw, Zc, Zh, Yp, Zq, Nat.zero_add, Bool.and_true, Bool.true_and, cond_true, cond_false, Bool.not_true, Bool.not_false, Zm, Bool.false_and]
theorem v6y (l m : List R4) (h : Wj l m = true) : ∃ N, Yv (z3h l m) N (z4t l m) = .ret [.bool (Up l m)] := by
 have hl : l.length ≤ 1000000 := of_decide_eq_true h
 by_cases hm : l.length = m.length
 ·obtain ⟨N, hN⟩ := v1v l m hl hm l.length 0 (Nat.zero_add _)
  refine ⟨N, ?_⟩
  unfold z4t
  rw [Ka (show (l.length : Int) = (m.length : Nat) by omega)]
  exact hN
 ·refine ⟨0, ?_⟩
  unfold z4t
  rw [Kg (show (l.length : Int) ≠ (m.length : Nat) by omega)]
  have : Up l m = false := decide_eq_false fun e => hm (by rw [e])
  rw [this]; rfl
theorem v1u (l m : List R6) (hl : l.length ≤ 1000000) (hm : l.length = m.length) : ∀ (k i : Nat), i + k = l.length → ∃ N, Yv (z3g l m) N (.to (.h0 (i : Int))) = .ret [.bool (decide (l.drop i = m.drop i))]
 | 0, i, h => by
  refine ⟨1, ?_⟩
  rw [Zv, List.drop_eq_nil_of_le (show l.length ≤ i by omega), List.drop_eq_nil_of_le (show m.length ≤ i by omega)]
  simp (disch := omega) only [z3g, Xz, Yi, Zo, Zs, Xh, Yw, Yz, Yu, Zt, Zj, Zf, Kg, Ka, decide_true, Zw, Zc, Zh, Yp, Zq, Nat.zero_add, Bool.and_true, Bool.true_and, cond_true, cond_false, Bool.not_true, Bool.not_false, Zm]
 | k + 1, i, h => by
  obtain ⟨N, hN⟩ := v1u l m hl hm k (i + 1) (by omega)
  refine ⟨N + 1, ?_⟩
  rw [Zv, Yc (show i < l.length by omega), Yc (show i < m.length by omega), z2j]
  rcases Ya (decide (rd l i = rd m i)) with q | q
  ·simp (disch := omega) only [z3g, w4w, q, Xz, Yi, Zo, Zs, Xh, Yw, Yz, Yu, Zt, Zj, Zf, Kg, Ka, decide_true, Zw, Zc, Zh, Yp, Zq, Nat.zero_add, Bool.and_true, Bool.true_and, cond_true, cond_false, Bool.not_true, Bool.not_false, Zm]
   exact hN
  ·simp (disch := omega) only [z3g, w4w, q, Xz, Yi, Zo, Zs, Xh, Yw, Yz, Yu, Zt, Zj, Zf, Kg, Ka, decide_true, Zw, Zc, Zh, Yp, Zq, Nat.zero_add, Bool.and_true, Bool.true_and, cond_true, cond_false, Bool.not_true, Bool.not_false, Zm, Bool.false_and]
theorem v6x (l m : List R6) (h : Vg l m = true) : ∃ N, Yv (z3g l m) N (z4s l m) = .ret [.bool (Ur l m)] := by
 have hl : l.length ≤ 1000000 := of_decide_eq_true h
 by_cases hm : l.length = m.length
 ·obtain ⟨N, hN⟩ := v1u l m hl hm l.length 0 (Nat.zero_add _)
  refine ⟨N, ?_⟩
  unfold z4s
  rw [Ka (show (l.length : Int) = (m.length : Nat) by omega)]
  exact hN
 ·refine ⟨0, ?_⟩
  unfold z4s
  rw [Kg (show (l.length : Int) ≠ (m.length : Nat) by omega)]
  have : Ur l m = false := decide_eq_false fun e => hm (by rw [e])
  rw [this]; rfl
def in4 (x y : Int) (r : R4) : Bool := decide (r.a ≤ x) && (decide (x < r.c) && (decide (r.b ≤ y) && decide (y < r.d)))
def has4V (l : List R4) (x y : Int) : Bool := l.any (in4 x y)
def Kw (l : List R4) (x y : Int) : Bool := decide (l.length ≤ 1000000)
theorem x9d (l : List R4) (x y : Int) (hl : l.length ≤ 1000000) : ∀ (k i : Nat), i + k = l.length → ∃ N, Yv (z1x l x y) N (.to (.h0 (i : Int))) = .ret [.bool ((l.drop i).any (in4 x y))]
 | 0, i, h => by
  refine ⟨1, ?_⟩
  rw [Zv, List.drop_eq_nil_of_le (show l.length ≤ i by omega)]
  simp (disch := omega) only [z1x, Xz, Yi, Zo, Zs, Xh, Yw, Yz, Yu, Zt, Zj, Zf, Kg, Ka, decide_true, Zw, Zc, Zh, Yp, Zq, Nat.zero_add, Bool.and_true, Bool.true_and, cond_true, cond_false, Bool.not_true, Bool.not_false, Zm]
  rfl
 | k + 1, i, h => by
  obtain ⟨N, hN⟩ := x9d l x y hl k (i + 1) (by omega)
  refine ⟨N + 1, ?_⟩
  rw [Zv, Yc (show i < l.length by omega), List.any_cons]
  unfold in4 at hN ⊢
  rcases Ya (decide ((rd l i).a ≤ x)) with q1 | q1 <;> rcases Ya (decide (x < (rd l i).c)) with q2 | q2 <;> rcases Ya (decide ((rd l i).b ≤ y)) with q3 | q3 <;> rcases Ya (decide (y < (rd l i).d)) with q4 | q4 <;>
   simp (disch := omega) only [z1x, q1, q2, q3, q4, Xz, Yi, Zo, Zs, Xh, Yw, Yz, Yu, Zt, Zj, Zf, Kg, Ka, decide_true, Zw, Zc, Zh, Yp, Zq, Nat.zero_add, Bool.and_true, Bool.true_and, cond_true, cond_false, Bool.not_true, Bool.not_false, Zm, Bool.false_and, Bool.and_false, Bool.false_or, Bool.true_or] <;> exact hN
theorem w4j (l : List R4) (x y : Int) (h : Kw l x y = true) : ∃ N, Yv (z1x l x y) N (z3w l x y) = .ret [.bool (has4V l x y)] := by
 have := x9d l x y (of_decide_eq_true h) l.length 0 (Nat.zero_add _)
 simpa [z3w, has4V] using this
def on6 (z : Int) (b : R6) : Bool := decide (b.c ≤ z) && decide (z < b.f)
def v5s (b : R6) : R4 := ⟨b.a, b.b, b.d, b.e⟩
def atV (l : List R6) (z : Int) : List R4 := (l.filter (on6 z)).map v5s
def z2m (l : List R6) (z : Int) : Bool := decide (l.length ≤ 1000000)
theorem x9u (l : List R6) (z : Int) (hl : l.length ≤ 1000000) : ∀ (k i : Nat) (out : List R4), i + k = l.length → out.length ≤ i → ∃ N, Yv (z3d l z) N (.to (.h0 out (i : Int))) = .ret [.dat (out ++ atV (l.drop i) z).length (Zz (out ++ atV (l.drop i) z))]
 | 0, i, out, h, ho => by
  refine ⟨1, ?_⟩
  rw [Zv, List.drop_eq_nil_of_le (show l.length ≤ i by omega)]
  simp (disch := omega) only [z3d, Xz, Yi, Zo, Zs, Xh, Yw, Yz, Yu, Zt, Zj, Zf, Kg, Ka, decide_true, Zw, Zc, Zh, Yp, Zq, Nat.zero_add, Bool.and_true, Bool.true_and, cond_true, cond_false, Bool.not_true, Bool.not_false, Zm, atV, List.filter_nil, List.map_nil, List.append_nil]
 | k + 1, i, out, h, ho => by
  rw [Yc (show i < l.length by omega)]
  have e : atV (rd l i :: l.drop (i + 1)) z = (bif on6 z (rd l i) then [v5s (rd l i)] else []) ++ atV (l.drop (i + 1)) z := by
   unfold atV; rw [List.filter_cons]; cases on6 z (rd l i) <;> rfl
  rw [e, ← List.append_assoc]
  rcases Ya (decide ((rd l i).c ≤ z)) with q1 | q1 <;> rcases Ya (decide (z < (rd l i).f)) with q2 | q2
  ·obtain ⟨N, hN⟩ := x9u l z hl k (i + 1) (out ++ [v5s (rd l i)]) (by omega) (by simp; omega)
   refine ⟨N + 1, ?_⟩
   rw [Zv]
   simp (disch := omega) only [z3d, q1, q2, on6, Xz, Yi, Zo, Zs, Xh, Yw, Yz, Yu, Zt, Zj, Zf, Kg, Ka, decide_true, Zw, Zc, Zh, Yp, Zq, Nat.zero_add, Bool.and_true, Bool.true_and, cond_true, cond_false, Bool.not_true, Bool.not_false, Zm]
   exact hN
  all_goals
   obtain ⟨N, hN⟩ := x9u l z hl k (i + 1) out (by omega) (by omega)
   refine ⟨N + 1, ?_⟩
   rw [Zv]
   simp (disch := omega) only [z3d, q1, q2, on6, Xz, Yi, Zo, Zs, Xh, Yw, Yz, Yu, Zt, Zj, Zf, Kg, Ka, decide_true, Zw, Zc, Zh, Yp, Zq, Nat.zero_add, Bool.and_true, Bool.true_and, cond_true, cond_false, Bool.not_true, Bool.not_false, Zm, Bool.false_and, Bool.and_false, List.append_nil]
   exact hN
theorem v4l (l : List R6) (z : Int) (h : z2m l z = true) : ∃ N, Yv (z3d l z) N (z8f l z) = .ret [.dat (atV l z).length (Zz (atV l z))] := by
 have := x9u l z (of_decide_eq_true h) l.length 0 [] (Nat.zero_add _) (Nat.le_refl _)
 simpa [z8f] using this
def x7n (cuts : List Int) (ins : List Bool) : Nat → Nat → List R2 → List R2
 | 0, _, out => out
 | k + 1, i, out => x7n cuts ins k (i + 1) (bif rd ins i then (bif decide (0 < out.length) && ((rd out (out.length - 1)).b == rd cuts i) then out.set (out.length - 1) ⟨(rd out (out.length - 1)).a, rd cuts (i + 1)⟩ else out ++ [⟨rd cuts i, rd cuts (i + 1)⟩]) else out)
def z7k (cuts : List Int) (ins : List Bool) : List R2 := x7n cuts ins (cuts.length - 1) 0 []
def z5h (cuts : List Int) (ins : List Bool) : Bool := decide (cuts.length ≤ 1000000 ∧ cuts.length ≤ ins.length + 1)
theorem y3p (cuts : List Int) (ins : List Bool) (hl : cuts.length ≤ 1000000) (hi : cuts.length ≤ ins.length + 1) : ∀ (k i : Nat) (out : List R2), k = cuts.length - 1 - i → i ≤ cuts.length → out.length ≤ i → ∃ N, Yv (Jo cuts ins) N (.to (.h0 out (i : Int))) = .ret [.dat (x7n cuts ins k i out).length (Zz (x7n cuts ins k i out))]
 | 0, i, out, h, hi2, ho => by
  refine ⟨1, ?_⟩
  rw [Zv]
  simp (disch := omega) only [Jo, Xz, Yi, Zo, Zs, Xh, Yw, Yz, Yu, Zt, Zj, Zf, Kg, Ka, decide_true, Zw, Zc, Zh, Yp, Zq, Nat.zero_add, Bool.and_true, Bool.true_and, cond_true, cond_false, Bool.not_true, Bool.not_false, Zm, x7n]
 | k + 1, i, out, h, hi2, ho => by
  unfold x7n
  rcases Ya (rd ins i) with q | q
  ·rcases Ya (decide (0 < out.length) && ((rd out (out.length - 1)).b == rd cuts i)) with q2 | q2
   ·obtain ⟨N, hN⟩ := y3p cuts ins hl hi k (i + 1) (out.set (out.length - 1) ⟨(rd out (out.length - 1)).a, rd cuts (i + 1)⟩) (by omega) (by omega) (by simp; omega)
    refine ⟨N + 1, ?_⟩
    rw [Zv, q, q2]
    simp only [Bool.and_eq_true, decide_eq_true_eq] at q2
    simp (disch := omega) only [Jo, q, q2.2, Xz, Yi, Zo, Zs, Xh, Yw, Yz, Yu, Zt, Zj, Zf, Kg, Ka, decide_true, Zw, Zc, Zh, Yp, Zq, Nat.zero_add, Bool.and_true, Bool.true_and, cond_true, cond_false, Bool.not_true, Bool.not_false, Zm]
    exact hN
   ·obtain ⟨N, hN⟩ := y3p cuts ins hl hi k (i + 1) (out ++ [⟨rd cuts i, rd cuts (i + 1)⟩]) (by omega) (by omega) (by simp; omega)
    refine ⟨N + 1, ?_⟩
    rw [Zv, q, q2]
    by_cases h0 : 0 < out.length
    ·rw [decide_eq_true h0, Bool.true_and] at q2
     simp (disch := omega) only [Jo, q, q2, Xz, Yi, Zo, Zs, Xh, Yw, Yz, Yu, Zt, Zj, Zf, Kg, Ka, decide_true, Zw, Zc, Zh, Yp, Zq, Nat.zero_add, Bool.and_true, Bool.true_and, cond_true, cond_false, Bool.not_true, Bool.not_false, Zm]
     exact hN
    ·simp (disch := omega) only [Jo, q, Xz, Yi, Zo, Zs, Xh, Yw, Yz, Yu, Zt, Zj, Zf, Kg, Ka, decide_true, Zw, Zc, Zh, Yp, Zq, Nat.zero_add, Bool.and_true, Bool.true_and, cond_true, cond_false, Bool.not_true, Bool.not_false, Zm]
     exact hN
  ·obtain ⟨N, hN⟩ := y3p cuts ins hl hi k (i + 1) out (by omega) (by omega) (by omega)
   refine ⟨N + 1, ?_⟩
   rw [Zv, q]
   simp (disch := omega) only [Jo, q, Xz, Yi, Zo, Zs, Xh, Yw, Yz, Yu, Zt, Zj, Zf, Kg, Ka, decide_true, Zw, Zc, Zh, Yp, Zq, Nat.zero_add, Bool.and_true, Bool.true_and, cond_true, cond_false, Bool.not_true, Bool.not_false, Zm]
   exact hN
theorem w4s (cuts : List Int) (ins : List Bool) (h : z5h cuts ins = true) : ∃ N, Yv (Jo cuts ins) N (z4c cuts ins) = .ret [.dat (z7k cuts ins).length (Zz (z7k cuts ins))] := by
 obtain ⟨h1, h2⟩ := of_decide_eq_true h
 have := y3p cuts ins h1 h2 (cuts.length - 1) 0 [] (by omega) (Nat.zero_le _) (Nat.le_refl _)
 simpa [z4c, z7k] using this
end Go.Am
namespace Go.Am
abbrev w0h : Nat := 133
abbrev v0z : Nat := 139
abbrev v0s : Nat := 140
abbrev v0w : Nat := 137
abbrev nHas4 : Nat := 138
abbrev v0r : Nat := 117
abbrev nXs : Nat := 135
abbrev nYs : Nat := 136
abbrev v0v : Nat := 115
abbrev v0q : Nat := 40
abbrev nAt : Nat := 116
abbrev nCuts : Nat := 114
abbrev v0u : Nat := 79
abbrev w0k : Nat := 64
abbrev nEq2 : Nat := 123
abbrev nEq4 : Nat := 82
abbrev nEq6 : Nat := 109
abbrev v0p : Nat := 192
abbrev x3d : Nat := 193
abbrev nSort : Nat := 119
abbrev x3f : Nat := 120
abbrev nFst : Nat := 189
abbrev y6n : Nat := 174
abbrev x3c : Nat := 130
abbrev w0j : Nat := 154
abbrev x3b : Nat := 153
abbrev x3a : Nat := 107
-- not there: gambrel/solid.contact
abbrev y6o : Nat := 72
abbrev nHas6 : Nat := 48
abbrev w0i : Nat := 77
-- not there: gambrel/solid.Volume
abbrev z8g : Nat := 95
abbrev x3e : Nat := 57
abbrev w0n : Nat := 16
abbrev v0y : Nat := 18
abbrev w0o : Nat := 34
abbrev w0p : Nat := 36
abbrev nDown : Nat := 75
abbrev w0q : Nat := 122
abbrev v0t : Nat := 81
abbrev nFull : Nat := 143
abbrev w0m : Nat := 49
abbrev w0l : Nat := 15
abbrev x3g : Nat := 41
abbrev v0x : Nat := 42
end Go.Am
namespace Go.Am
open Go.Proofs.Tryz
open Go.Proofs
def Kt (k : Int) (a b : Bool) : Bool := bif k == 1 then a && b else bif k == 2 then a || b else a && !b
def x3r (a b : Bool) : Bool := a
theorem v5k (k : Int) (a b : Bool) : ∃ N, Yv (x0k k a b) N (z8m k a b) = .ret [.bool (Kt k a b)] := by
 refine ⟨0, ?_⟩
 unfold z8m Kt
 cases a <;> cases b <;> rcases Ya (k == 1) with q | q <;> rcases Ya (k == 2) with q2 | q2 <;> rw [q] <;> (try rw [q2]) <;> rfl
theorem v5p (a b : Bool) : ∃ N, Yv (x0p a b) N (y4f a b) = .ret [.bool (x3r a b)] := ⟨0, rfl⟩
def fSrt : List AVal → Option (AVal × Bool)
 | [a0] => match asL Int a0 with
  | some (L0, g0, n0) => some (.dat (z0a L0).length (Zz (z0a L0)), isT Int n0 g0 && (Jm L0))
  | _ => none
 | _ => none
theorem v5x {S : Specs} (hS : Zu prog S) : Zu prog (S.with w0h fSrt) := by
 refine z2g hS (by kernel_rfl) fun args v h => ?_
 unfold fSrt at h
 split at h
 ·rename_i a0
  split at h
  ·rename_i L0 g0 n0 e0
   simp only [Option.some.injEq, Prod.mk.injEq, Bool.and_eq_true] at h
   obtain ⟨rfl, ho0, hw⟩ := h
   obtain ⟨N, hN⟩ := x8p L0 hw
   exact ⟨_, _, (.cons (asL_le e0 ho0) .nil), rfl, x4z L0 N _ hN, 3, rfl⟩
  ·cases h
 ·cases h
def fCan : List AVal → Option (AVal × Bool)
 | [a0, a1] => match asL Int a0, asL Bool a1 with
  | some (L0, g0, n0), some (L1, g1, n1) => some (.dat (z7k L0 L1).length (Zz (z7k L0 L1)), isT Int n0 g0 && (isT Bool n1 g1 && (z5h L0 L1)))
  | _, _ => none
 | _ => none
theorem v6v {S : Specs} (hS : Zu prog S) : Zu prog (S.with v0z fCan) := by
 refine z2g hS (by kernel_rfl) fun args v h => ?_
 unfold fCan at h
 split at h
 ·rename_i a0 a1
  split at h
  ·rename_i L0 g0 n0 L1 g1 n1 e0 e1
   simp only [Option.some.injEq, Prod.mk.injEq, Bool.and_eq_true] at h
   obtain ⟨rfl, ho0, ho1, hw⟩ := h
   obtain ⟨N, hN⟩ := w4s L0 L1 hw
   exact ⟨_, _, (.cons (asL_le e0 ho0) (.cons (asL_le e1 ho1) .nil)), rfl, x9t L0 L1 N _ hN, 3, rfl⟩
  ·cases h
 ·cases h
def y2s : List AVal → Option (AVal × Bool)
 | [a0, a1] => match asL R2 a0, asL R2 a1 with
  | some (L0, g0, n0), some (L1, g1, n1) => some (.bool (Jg L0 L1), isT R2 n0 g0 && (isT R2 n1 g1 && (Wt L0 L1)))
  | _, _ => none
 | _ => none
theorem w1t {S : Specs} (hS : Zu prog S) : Zu prog (S.with v0s y2s) := by
 refine z2g hS (by kernel_rfl) fun args v h => ?_
 unfold y2s at h
 split at h
 ·rename_i a0 a1
  split at h
  ·rename_i L0 g0 n0 L1 g1 n1 e0 e1
   simp only [Option.some.injEq, Prod.mk.injEq, Bool.and_eq_true] at h
   obtain ⟨rfl, ho0, ho1, hw⟩ := h
   obtain ⟨N, hN⟩ := v3s L0 L1 hw
   exact ⟨_, _, (.cons (asL_le e0 ho0) (.cons (asL_le e1 ho1) .nil)), rfl, w4c L0 L1 N _ hN, 3, rfl⟩
  ·cases h
 ·cases h
def y2r : List AVal → Option (AVal × Bool)
 | [a0, a1] => match asL R4 a0, asL R4 a1 with
  | some (L0, g0, n0), some (L1, g1, n1) => some (.bool (Up L0 L1), isT R4 n0 g0 && (isT R4 n1 g1 && (Wj L0 L1)))
  | _, _ => none
 | _ => none
theorem w1s {S : Specs} (hS : Zu prog S) : Zu prog (S.with v0r y2r) := by
 refine z2g hS (by kernel_rfl) fun args v h => ?_
 unfold y2r at h
 split at h
 ·rename_i a0 a1
  split at h
  ·rename_i L0 g0 n0 L1 g1 n1 e0 e1
   simp only [Option.some.injEq, Prod.mk.injEq, Bool.and_eq_true] at h
   obtain ⟨rfl, ho0, ho1, hw⟩ := h
   obtain ⟨N, hN⟩ := v3r L0 L1 hw
   exact ⟨_, _, (.cons (asL_le e0 ho0) (.cons (asL_le e1 ho1) .nil)), rfl, w4b L0 L1 N _ hN, 3, rfl⟩
  ·cases h
 ·cases h
def y2q : List AVal → Option (AVal × Bool)
 | [a0, a1] => match asL R6 a0, asL R6 a1 with
  | some (L0, g0, n0), some (L1, g1, n1) => some (.bool (Ur L0 L1), isT R6 n0 g0 && (isT R6 n1 g1 && (Vg L0 L1)))
  | _, _ => none
 | _ => none
theorem w1r {S : Specs} (hS : Zu prog S) : Zu prog (S.with v0q y2q) := by
 refine z2g hS (by kernel_rfl) fun args v h => ?_
 unfold y2q at h
 split at h
 ·rename_i a0 a1
  split at h
  ·rename_i L0 g0 n0 L1 g1 n1 e0 e1
   simp only [Option.some.injEq, Prod.mk.injEq, Bool.and_eq_true] at h
   obtain ⟨rfl, ho0, ho1, hw⟩ := h
   obtain ⟨N, hN⟩ := v3t L0 L1 hw
   exact ⟨_, _, (.cons (asL_le e0 ho0) (.cons (asL_le e1 ho1) .nil)), rfl, w4d L0 L1 N _ hN, 3, rfl⟩
  ·cases h
 ·cases h
def v6k : List AVal → Option (AVal × Bool)
 | [a0, .int .i64 x1, .int .i64 x2] => match asL R4 a0 with
  | some (L0, g0, n0) => some (.bool (has4V L0 x1 x2), isT R4 n0 g0 && (Kw L0 x1 x2))
  | _ => none
 | _ => none
theorem w6z {S : Specs} (hS : Zu prog S) : Zu prog (S.with nHas4 v6k) := by
 refine z2g hS (by kernel_rfl) fun args v h => ?_
 unfold v6k at h
 split at h
 ·rename_i a0 x1 x2
  split at h
  ·rename_i L0 g0 n0 e0
   simp only [Option.some.injEq, Prod.mk.injEq, Bool.and_eq_true] at h
   obtain ⟨rfl, ho0, hw⟩ := h
   obtain ⟨N, hN⟩ := w4j L0 x1 x2 hw
   exact ⟨_, _, (.cons (asL_le e0 ho0) (.cons (.refl _) (.cons (.refl _) .nil))), rfl, x9e L0 x1 x2 N _ hN, 3, rfl⟩
  ·cases h
 ·cases h
def fAt : List AVal → Option (AVal × Bool)
 | [a0, .int .i64 x1] => match asL R6 a0 with
  | some (L0, g0, n0) => some (.dat (atV L0 x1).length (Zz (atV L0 x1)), isT R6 n0 g0 && (z2m L0 x1))
  | _ => none
 | _ => none
theorem fAt_ok {S : Specs} (hS : Zu prog S) : Zu prog (S.with nAt fAt) := by
 refine z2g hS (by kernel_rfl) fun args v h => ?_
 unfold fAt at h
 split at h
 ·rename_i a0 x1
  split at h
  ·rename_i L0 g0 n0 e0
   simp only [Option.some.injEq, Prod.mk.injEq, Bool.and_eq_true] at h
   obtain ⟨rfl, ho0, hw⟩ := h
   obtain ⟨N, hN⟩ := v4l L0 x1 hw
   exact ⟨_, _, (.cons (asL_le e0 ho0) (.cons (.refl _) .nil)), rfl, w4t L0 x1 N _ hN, 3, rfl⟩
  ·cases h
 ·cases h
def w1v : List AVal → Option (AVal × Bool)
 | [.int .i64 x0, .bool b1, .bool b2] => some (.bool (Kt x0 b1 b2), true)
 | _ => none
theorem w1u {S : Specs} (hS : Zu prog S) : Zu prog (S.with v0w w1v) := by
 refine z2g hS (by kernel_rfl) fun args v h => ?_
 unfold w1v at h
 split at h
 ·rename_i x0 b1 b2
  simp only [Option.some.injEq, Prod.mk.injEq, and_true] at h
  subst h
  obtain ⟨N, hN⟩ := v5k x0 b1 b2
  exact ⟨_, _, (.cons (.refl _) (.cons (.refl _) (.cons (.refl _) .nil))), rfl, w6k x0 b1 b2 N _ hN, 3, rfl⟩
 ·cases h
def fFst : List AVal → Option (AVal × Bool)
 | [.bool b0, .bool b1] => some (.bool (x3r b0 b1), true)
 | _ => none
theorem v6m {S : Specs} (hS : Zu prog S) : Zu prog (S.with nFst fFst) := by
 refine z2g hS (by kernel_rfl) fun args v h => ?_
 unfold fFst at h
 split at h
 ·rename_i b0 b1
  simp only [Option.some.injEq, Prod.mk.injEq, and_true] at h
  subst h
  obtain ⟨N, hN⟩ := v5p b0 b1
  exact ⟨_, _, (.cons (.refl _) (.cons (.refl _) .nil)), rfl, w6p b0 b1 N _ hN, 3, rfl⟩
 ·cases h
theorem x6k {S : Specs} (hS : Zu prog S) : Zu prog (S.with nEq2 y2s) := by
 refine z2g hS (by kernel_rfl) fun args v h => ?_
 unfold y2s at h
 split at h
 ·rename_i a0 a1
  split at h
  ·rename_i L0 g0 n0 L1 g1 n1 e0 e1
   simp only [Option.some.injEq, Prod.mk.injEq, Bool.and_eq_true] at h
   obtain ⟨rfl, ho0, ho1, hw⟩ := h
   obtain ⟨N, hN⟩ := v6z L0 L1 hw
   exact ⟨_, _, (.cons (asL_le e0 ho0) (.cons (asL_le e1 ho1) .nil)), rfl, w7g L0 L1 N _ hN, 3, rfl⟩
  ·cases h
 ·cases h
theorem x6j {S : Specs} (hS : Zu prog S) : Zu prog (S.with nEq4 y2r) := by
 refine z2g hS (by kernel_rfl) fun args v h => ?_
 unfold y2r at h
 split at h
 ·rename_i a0 a1
  split at h
  ·rename_i L0 g0 n0 L1 g1 n1 e0 e1
   simp only [Option.some.injEq, Prod.mk.injEq, Bool.and_eq_true] at h
   obtain ⟨rfl, ho0, ho1, hw⟩ := h
   obtain ⟨N, hN⟩ := v6y L0 L1 hw
   exact ⟨_, _, (.cons (asL_le e0 ho0) (.cons (asL_le e1 ho1) .nil)), rfl, w7f L0 L1 N _ hN, 3, rfl⟩
  ·cases h
 ·cases h
theorem x6i {S : Specs} (hS : Zu prog S) : Zu prog (S.with nEq6 y2q) := by
 refine z2g hS (by kernel_rfl) fun args v h => ?_
 unfold y2q at h
 split at h
 ·rename_i a0 a1
  split at h
  ·rename_i L0 g0 n0 L1 g1 n1 e0 e1
   simp only [Option.some.injEq, Prod.mk.injEq, Bool.and_eq_true] at h
   obtain ⟨rfl, ho0, ho1, hw⟩ := h
   obtain ⟨N, hN⟩ := v6x L0 L1 hw
   exact ⟨_, _, (.cons (asL_le e0 ho0) (.cons (asL_le e1 ho1) .nil)), rfl, w7e L0 L1 N _ hN, 3, rfl⟩
  ·cases h
 ·cases h
def T1 : Specs := ((((((((((((noSpecs.with w0h fSrt).with v0z fCan).with v0s y2s).with v0r y2r).with v0q y2q).with nHas4 v6k).with nAt fAt).with v0w w1v).with nFst fFst).with nEq2 y2s).with nEq4 y2r).with nEq6 y2q)
theorem z0x : Zu prog T1 := x6i (x6j (x6k (v6m (w1u (fAt_ok (w6z (w1r (w1s (w1t (v6v (v5x Zp)))))))))))
end Go.Am
namespace Go.Am
open Go.Proofs.Tryz
open Go.Proofs
inductive rxsS where
 | h0 (v5 : List Int) (v6 : Int)
 | h1 (v5 : List Int) (v7 : Int)
def rxsC (l0 : List R4) (l1 : List R4) : rxsS → Cfg
 | .h0 v5 v6 => ⟨⟨48, 0, true⟩, none, (Za prog 135 [1, 1, 0, 1, 0, 0] 0), none, (Zy prog 3), ⟨Yk [(0, (.dat l0.length (Zz l0))), (1, (.dat l1.length (Zz l1))), (5, (.sla 0 1 0 v5.length (.un 1))), (6, (ii v6))], Vn [⟨rows v5.length (Zz v5), 3, some ⟨1, v5.length, (Zz v5)⟩⟩] 0, 1, [], true⟩, [], .leaf⟩
 | .h1 v5 v7 => ⟨⟨48, 0, true⟩, none, (Za prog 135 [1, 1, 1, 0, 1, 0, 0] 0), none, (Zy prog 3), ⟨Yk [(1, (.dat l1.length (Zz l1))), (5, (.sla 0 1 0 v5.length (.un 1))), (7, (ii v7))], Vn [⟨rows v5.length (Zz v5), 3, some ⟨1, v5.length, (Zz v5)⟩⟩] 0, 1, [], true⟩, [], .leaf⟩
def rxsN0 : List (Option (List Nat)) := [some [0, 1, 5, 6]]
def rxsM0 : List (Option (List Nat)) := []
def rxsN1 : List (Option (List Nat)) := [some [1, 5, 7]]
def rxsM1 : List (Option (List Nat)) := []
def z0e (l0 : List R4) (l1 : List R4) : rxsS → Xn rxsS
 | .h0 v5 v6 => (bif (decide (v6 < (l0.length : Int))) then (bif ((decide (0 ≤ v6 ∧ v6 < (l0.length : Int))) && true) then (bif (Nat.beq 1 1 && ((decide (0 + v5.length = v5.length)) && decide ((v5.length + 2 + 1) * (8 + 1) ≤ Jp))) then (.to (.h0 (v5 ++ [(rd l0 v6.toNat).a, (rd l0 v6.toNat).c]) (IntKind.wrap .i64 (v6 + 1)))) else .stuck) else .stuck) else (.to (.h1 v5 0)))
 | .h1 v5 v7 => (bif (decide (v7 < (l1.length : Int))) then (bif ((decide (0 ≤ v7 ∧ v7 < (l1.length : Int))) && true) then (bif (Nat.beq 1 1 && ((decide (0 + v5.length = v5.length)) && decide ((v5.length + 2 + 1) * (8 + 1) ≤ Jp))) then (.to (.h1 (v5 ++ [(rd l1 v7.toNat).a, (rd l1 v7.toNat).c]) (IntKind.wrap .i64 (v7 + 1)))) else .stuck) else .stuck) else (bif (Jm (cvT v5)) then (.ret [(.dat (z0a (cvT v5)).length (Zz (z0a (cvT v5))))]) else .stuck))
def z8a (l0 : List R4) (l1 : List R4) : Xn rxsS := (.to (.h0 ([] : List Int) 0))
theorem x4x (l0 : List R4) (l1 : List R4) : ∀ s, Ww prog (Zy prog 135) (rxsC l0 l1) (rxsC l0 l1 s) (z0e l0 l1 s)
 | .h0 v5 v6 => (lb (fun k0 => (lo fun o0 => (lo fun o1 => (sl z0x 20 [] ⟨[2], [], rxsN0, rxsM0⟩ ⟨[(5, .len (v5 ++ [(rd l0 (tn v6)).a, (rd l0 (tn v6)).c]).length)], [.rowed 1 (v5 ++ [(rd l0 (tn v6)).a, (rd l0 (tn v6)).c]).length (Zz (v5 ++ [(rd l0 (tn v6)).a, (rd l0 (tn v6)).c]))], []⟩ [true] (pp (xL (v5.length + 2) (v5 ++ [(rd l0 (tn v6)).a, (rd l0 (tn v6)).c]).length) (pp (xL (v5.length + 2) (v5 ++ [(rd l0 (tn v6)).a, (rd l0 (tn v6)).c]).length) (pp (xS (v5.length + 2) (Zd (Zz v5) 0 v5.length 1 [(ii (rd l0 (tn v6)).a), (ii (rd l0 (tn v6)).c)]) (Zz (v5 ++ [(rd l0 (tn v6)).a, (rd l0 (tn v6)).c]))) (pp (pp (xF (Zd (Zz v5) 0 v5.length 1 [(ii (rd l0 (tn v6)).a), (ii (rd l0 (tn v6)).c)])) nn) (ww o1 (ww o0 (ww o0 (tt k0 nn)))))))))))) (fun k0 => (sl z0x 17 [] ⟨[0], [], rxsN1, rxsM1⟩ ⟨[], [], []⟩ [false] (pp (fl v5 nn) (tt k0 nn)))))
 | .h1 v5 v7 => (lb (fun k0 => (lo fun o0 => (lo fun o1 => (sl z0x 20 [] ⟨[2], [], rxsN1, rxsM1⟩ ⟨[(5, .len (v5 ++ [(rd l1 (tn v7)).a, (rd l1 (tn v7)).c]).length)], [.rowed 1 (v5 ++ [(rd l1 (tn v7)).a, (rd l1 (tn v7)).c]).length (Zz (v5 ++ [(rd l1 (tn v7)).a, (rd l1 (tn v7)).c]))], []⟩ [true] (pp (xL (v5.length + 2) (v5 ++ [(rd l1 (tn v7)).a, (rd l1 (tn v7)).c]).length) (pp (xL (v5.length + 2) (v5 ++ [(rd l1 (tn v7)).a, (rd l1 (tn v7)).c]).length) (pp (xS (v5.length + 2) (Zd (Zz v5) 0 v5.length 1 [(ii (rd l1 (tn v7)).a), (ii (rd l1 (tn v7)).c)]) (Zz (v5 ++ [(rd l1 (tn v7)).a, (rd l1 (tn v7)).c]))) (pp (pp (xF (Zd (Zz v5) 0 v5.length 1 [(ii (rd l1 (tn v7)).a), (ii (rd l1 (tn v7)).c)])) nn) (ww o1 (ww o0 (ww o0 (tt k0 nn)))))))))))) (fun k0 => (Wb (sl z0x (C' := ⟨⟨48, 0, true⟩, (Vk prog 135 [1, 1, 1, 1, 0] 1), (Za prog 135 [1, 1, 1, 1, 0] 1), none, (Zy prog 3), ⟨Yk [(46, (.dat v5.length (Zz v5)))], Vn [] 0, 0, [], true⟩, [], .leaf⟩) 13 [] ⟨[], [0], [some [46]], []⟩ ⟨[(46, .frz v5.length v5.length (Zz v5) (Zz v5))], [], []⟩ [false] (pp (xZ (z4q 1 1 0 v5.length v5.length (Zz v5)) v5.length (Zz v5)) (pp (xL v5.length v5.length) (pp (xS v5.length (Zz v5) (Zz v5)) (pp (fl v5 nn) (tt k0 nn)))))) (lo fun o0 => (lr 48 3 [1, 1, 1, 1, 1, 1, 0] 1 3 [(4, (.dat (z0a (cvT v5)).length (Zz (z0a (cvT v5)))))] (sl z0x 3 [] ⟨[], [], [some [4]], []⟩ ⟨[], [], []⟩ [] (pp (pp (xr v5) (xw o0)) nn)))))))
theorem y8x (l0 : List R4) (l1 : List R4) : Ww prog (Zy prog 135) (rxsC l0 l1) (Zn prog 135 [(.dat l0.length (Zz l0)), (.dat l1.length (Zz l1))] true []) (z8a l0 l1) := (sl z0x 15 [(3, 1, Zz ([] : List Int))] ⟨[0], [], rxsN0, rxsM0⟩ ⟨[(5, .grow 0 1)], [], []⟩ [] (pp (fl ([] : List Int) nn) nn))
theorem w4a (l0 : List R4) (l1 : List R4) (n : Nat) (vs : List AVal) (h : Yv (z0e l0 l1) n (z8a l0 l1) = .ret vs) : Kz prog (Zy prog 135) (Zn prog 135 [(.dat l0.length (Zz l0)), (.dat l1.length (Zz l1))] true []) vs := by
 have := Zr (x4x l0 l1) n _ (y8x l0 l1)
 rwa [h] at this
inductive rysS where
 | h0 (v5 : List Int) (v6 : Int)
 | h1 (v5 : List Int) (v7 : Int)
def rysC (l0 : List R4) (l1 : List R4) : rysS → Cfg
 | .h0 v5 v6 => ⟨⟨48, 0, true⟩, none, (Za prog 136 [1, 1, 0, 1, 0, 0] 0), none, (Zy prog 3), ⟨Yk [(0, (.dat l0.length (Zz l0))), (1, (.dat l1.length (Zz l1))), (5, (.sla 0 1 0 v5.length (.un 1))), (6, (ii v6))], Vn [⟨rows v5.length (Zz v5), 3, some ⟨1, v5.length, (Zz v5)⟩⟩] 0, 1, [], true⟩, [], .leaf⟩
 | .h1 v5 v7 => ⟨⟨48, 0, true⟩, none, (Za prog 136 [1, 1, 1, 0, 1, 0, 0] 0), none, (Zy prog 3), ⟨Yk [(1, (.dat l1.length (Zz l1))), (5, (.sla 0 1 0 v5.length (.un 1))), (7, (ii v7))], Vn [⟨rows v5.length (Zz v5), 3, some ⟨1, v5.length, (Zz v5)⟩⟩] 0, 1, [], true⟩, [], .leaf⟩
def rysN0 : List (Option (List Nat)) := [some [0, 1, 5, 6]]
def rysM0 : List (Option (List Nat)) := []
def rysN1 : List (Option (List Nat)) := [some [1, 5, 7]]
def rysM1 : List (Option (List Nat)) := []
def z0d (l0 : List R4) (l1 : List R4) : rysS → Xn rysS
 | .h0 v5 v6 => (bif (decide (v6 < (l0.length : Int))) then (bif ((decide (0 ≤ v6 ∧ v6 < (l0.length : Int))) && true) then (bif (Nat.beq 1 1 && ((decide (0 + v5.length = v5.length)) && decide ((v5.length + 2 + 1) * (8 + 1) ≤ Jp))) then (.to (.h0 (v5 ++ [(rd l0 v6.toNat).b, (rd l0 v6.toNat).d]) (IntKind.wrap .i64 (v6 + 1)))) else .stuck) else .stuck) else (.to (.h1 v5 0)))
 | .h1 v5 v7 => (bif (decide (v7 < (l1.length : Int))) then (bif ((decide (0 ≤ v7 ∧ v7 < (l1.length : Int))) && true) then (bif (Nat.beq 1 1 && ((decide (0 + v5.length = v5.length)) && decide ((v5.length + 2 + 1) * (8 + 1) ≤ Jp))) then (.to (.h1 (v5 ++ [(rd l1 v7.toNat).b, (rd l1 v7.toNat).d]) (IntKind.wrap .i64 (v7 + 1)))) else .stuck) else .stuck) else (bif (Jm (cvT v5)) then (.ret [(.dat (z0a (cvT v5)).length (Zz (z0a (cvT v5))))]) else .stuck))
def z7z (l0 : List R4) (l1 : List R4) : Xn rysS := (.to (.h0 ([] : List Int) 0))
theorem x4w (l0 : List R4) (l1 : List R4) : ∀ s, Ww prog (Zy prog 136) (rysC l0 l1) (rysC l0 l1 s) (z0d l0 l1 s)
 | .h0 v5 v6 => (lb (fun k0 => (lo fun o0 => (lo fun o1 => (sl z0x 20 [] ⟨[2], [], rysN0, rysM0⟩ ⟨[(5, .len (v5 ++ [(rd l0 (tn v6)).b, (rd l0 (tn v6)).d]).length)], [.rowed 1 (v5 ++ [(rd l0 (tn v6)).b, (rd l0 (tn v6)).d]).length (Zz (v5 ++ [(rd l0 (tn v6)).b, (rd l0 (tn v6)).d]))], []⟩ [true] (pp (xL (v5.length + 2) (v5 ++ [(rd l0 (tn v6)).b, (rd l0 (tn v6)).d]).length) (pp (xL (v5.length + 2) (v5 ++ [(rd l0 (tn v6)).b, (rd l0 (tn v6)).d]).length) (pp (xS (v5.length + 2) (Zd (Zz v5) 0 v5.length 1 [(ii (rd l0 (tn v6)).b), (ii (rd l0 (tn v6)).d)]) (Zz (v5 ++ [(rd l0 (tn v6)).b, (rd l0 (tn v6)).d]))) (pp (pp (xF (Zd (Zz v5) 0 v5.length 1 [(ii (rd l0 (tn v6)).b), (ii (rd l0 (tn v6)).d)])) nn) (ww o1 (ww o0 (ww o0 (tt k0 nn)))))))))))) (fun k0 => (sl z0x 17 [] ⟨[0], [], rysN1, rysM1⟩ ⟨[], [], []⟩ [false] (pp (fl v5 nn) (tt k0 nn)))))
 | .h1 v5 v7 => (lb (fun k0 => (lo fun o0 => (lo fun o1 => (sl z0x 20 [] ⟨[2], [], rysN1, rysM1⟩ ⟨[(5, .len (v5 ++ [(rd l1 (tn v7)).b, (rd l1 (tn v7)).d]).length)], [.rowed 1 (v5 ++ [(rd l1 (tn v7)).b, (rd l1 (tn v7)).d]).length (Zz (v5 ++ [(rd l1 (tn v7)).b, (rd l1 (tn v7)).d]))], []⟩ [true] (pp (xL (v5.length + 2) (v5 ++ [(rd l1 (tn v7)).b, (rd l1 (tn v7)).d]).length) (pp (xL (v5.length + 2) (v5 ++ [(rd l1 (tn v7)).b, (rd l1 (tn v7)).d]).length) (pp (xS (v5.length + 2) (Zd (Zz v5) 0 v5.length 1 [(ii (rd l1 (tn v7)).b), (ii (rd l1 (tn v7)).d)]) (Zz (v5 ++ [(rd l1 (tn v7)).b, (rd l1 (tn v7)).d]))) (pp (pp (xF (Zd (Zz v5) 0 v5.length 1 [(ii (rd l1 (tn v7)).b), (ii (rd l1 (tn v7)).d)])) nn) (ww o1 (ww o0 (ww o0 (tt k0 nn)))))))))))) (fun k0 => (Wb (sl z0x (C' := ⟨⟨48, 0, true⟩, (Vk prog 136 [1, 1, 1, 1, 0] 1), (Za prog 136 [1, 1, 1, 1, 0] 1), none, (Zy prog 3), ⟨Yk [(46, (.dat v5.length (Zz v5)))], Vn [] 0, 0, [], true⟩, [], .leaf⟩) 13 [] ⟨[], [0], [some [46]], []⟩ ⟨[(46, .frz v5.length v5.length (Zz v5) (Zz v5))], [], []⟩ [false] (pp (xZ (z4q 1 1 0 v5.length v5.length (Zz v5)) v5.length (Zz v5)) (pp (xL v5.length v5.length) (pp (xS v5.length (Zz v5) (Zz v5)) (pp (fl v5 nn) (tt k0 nn)))))) (lo fun o0 => (lr 48 3 [1, 1, 1, 1, 1, 1, 0] 1 3 [(4, (.dat (z0a (cvT v5)).length (Zz (z0a (cvT v5)))))] (sl z0x 3 [] ⟨[], [], [some [4]], []⟩ ⟨[], [], []⟩ [] (pp (pp (xr v5) (xw o0)) nn)))))))
theorem y8w (l0 : List R4) (l1 : List R4) : Ww prog (Zy prog 136) (rysC l0 l1) (Zn prog 136 [(.dat l0.length (Zz l0)), (.dat l1.length (Zz l1))] true []) (z7z l0 l1) := (sl z0x 15 [(3, 1, Zz ([] : List Int))] ⟨[0], [], rysN0, rysM0⟩ ⟨[(5, .grow 0 1)], [], []⟩ [] (pp (fl ([] : List Int) nn) nn))
theorem w3z (l0 : List R4) (l1 : List R4) (n : Nat) (vs : List AVal) (h : Yv (z0d l0 l1) n (z7z l0 l1) = .ret vs) : Kz prog (Zy prog 136) (Zn prog 136 [(.dat l0.length (Zz l0)), (.dat l1.length (Zz l1))] true []) vs := by
 have := Zr (x4w l0 l1) n _ (y8w l0 l1)
 rwa [h] at this
inductive rcutS where
 | h0 (v5 : List Int) (v6 : Int)
 | h1 (v5 : List Int) (v7 : Int)
def v4h (l0 : List R6) (l1 : List R6) : rcutS → Cfg
 | .h0 v5 v6 => ⟨⟨52, 0, true⟩, none, (Za prog 114 [1, 1, 0, 1, 0, 0] 0), none, (Zy prog 3), ⟨Yk [(0, (.dat l0.length (Zz l0))), (1, (.dat l1.length (Zz l1))), (5, (.sla 0 1 0 v5.length (.un 1))), (6, (ii v6))], Vn [⟨rows v5.length (Zz v5), 3, some ⟨1, v5.length, (Zz v5)⟩⟩] 0, 1, [], true⟩, [], .leaf⟩
 | .h1 v5 v7 => ⟨⟨52, 0, true⟩, none, (Za prog 114 [1, 1, 1, 0, 1, 0, 0] 0), none, (Zy prog 3), ⟨Yk [(1, (.dat l1.length (Zz l1))), (5, (.sla 0 1 0 v5.length (.un 1))), (7, (ii v7))], Vn [⟨rows v5.length (Zz v5), 3, some ⟨1, v5.length, (Zz v5)⟩⟩] 0, 1, [], true⟩, [], .leaf⟩
def v0e : List (Option (List Nat)) := [some [0, 1, 5, 6]]
def v0g : List (Option (List Nat)) := []
def v0d : List (Option (List Nat)) := [some [1, 5, 7]]
def v0f : List (Option (List Nat)) := []
def Jn (l0 : List R6) (l1 : List R6) : rcutS → Xn rcutS
 | .h0 v5 v6 => (bif (decide (v6 < (l0.length : Int))) then (bif ((decide (0 ≤ v6 ∧ v6 < (l0.length : Int))) && true) then (bif (Nat.beq 1 1 && ((decide (0 + v5.length = v5.length)) && decide ((v5.length + 2 + 1) * (8 + 1) ≤ Jp))) then (.to (.h0 (v5 ++ [(rd l0 v6.toNat).c, (rd l0 v6.toNat).f]) (IntKind.wrap .i64 (v6 + 1)))) else .stuck) else .stuck) else (.to (.h1 v5 0)))
 | .h1 v5 v7 => (bif (decide (v7 < (l1.length : Int))) then (bif ((decide (0 ≤ v7 ∧ v7 < (l1.length : Int))) && true) then (bif (Nat.beq 1 1 && ((decide (0 + v5.length = v5.length)) && decide ((v5.length + 2 + 1) * (8 + 1) ≤ Jp))) then (.to (.h1 (v5 ++ [(rd l1 v7.toNat).c, (rd l1 v7.toNat).f]) (IntKind.wrap .i64 (v7 + 1)))) else .stuck) else .stuck) else (bif (Jm (cvT v5)) then (.ret [(.dat (z0a (cvT v5)).length (Zz (z0a (cvT v5))))]) else .stuck))
def z3z (l0 : List R6) (l1 : List R6) : Xn rcutS := (.to (.h0 ([] : List Int) 0))
theorem y9l (l0 : List R6) (l1 : List R6) : ∀ s, Ww prog (Zy prog 114) (v4h l0 l1) (v4h l0 l1 s) (Jn l0 l1 s)
 | .h0 v5 v6 => (lb (fun k0 => (lo fun o0 => (lo fun o1 => (sl z0x 20 [] ⟨[2], [], v0e, v0g⟩ ⟨[(5, .len (v5 ++ [(rd l0 (tn v6)).c, (rd l0 (tn v6)).f]).length)], [.rowed 1 (v5 ++ [(rd l0 (tn v6)).c, (rd l0 (tn v6)).f]).length (Zz (v5 ++ [(rd l0 (tn v6)).c, (rd l0 (tn v6)).f]))], []⟩ [true] (pp (xL (v5.length + 2) (v5 ++ [(rd l0 (tn v6)).c, (rd l0 (tn v6)).f]).length) (pp (xL (v5.length + 2) (v5 ++ [(rd l0 (tn v6)).c, (rd l0 (tn v6)).f]).length) (pp (xS (v5.length + 2) (Zd (Zz v5) 0 v5.length 1 [(ii (rd l0 (tn v6)).c), (ii (rd l0 (tn v6)).f)]) (Zz (v5 ++ [(rd l0 (tn v6)).c, (rd l0 (tn v6)).f]))) (pp (pp (xF (Zd (Zz v5) 0 v5.length 1 [(ii (rd l0 (tn v6)).c), (ii (rd l0 (tn v6)).f)])) nn) (ww o1 (ww o0 (ww o0 (tt k0 nn)))))))))))) (fun k0 => (sl z0x 17 [] ⟨[0], [], v0d, v0f⟩ ⟨[], [], []⟩ [false] (pp (fl v5 nn) (tt k0 nn)))))
 | .h1 v5 v7 => (lb (fun k0 => (lo fun o0 => (lo fun o1 => (sl z0x 20 [] ⟨[2], [], v0d, v0f⟩ ⟨[(5, .len (v5 ++ [(rd l1 (tn v7)).c, (rd l1 (tn v7)).f]).length)], [.rowed 1 (v5 ++ [(rd l1 (tn v7)).c, (rd l1 (tn v7)).f]).length (Zz (v5 ++ [(rd l1 (tn v7)).c, (rd l1 (tn v7)).f]))], []⟩ [true] (pp (xL (v5.length + 2) (v5 ++ [(rd l1 (tn v7)).c, (rd l1 (tn v7)).f]).length) (pp (xL (v5.length + 2) (v5 ++ [(rd l1 (tn v7)).c, (rd l1 (tn v7)).f]).length) (pp (xS (v5.length + 2) (Zd (Zz v5) 0 v5.length 1 [(ii (rd l1 (tn v7)).c), (ii (rd l1 (tn v7)).f)]) (Zz (v5 ++ [(rd l1 (tn v7)).c, (rd l1 (tn v7)).f]))) (pp (pp (xF (Zd (Zz v5) 0 v5.length 1 [(ii (rd l1 (tn v7)).c), (ii (rd l1 (tn v7)).f)])) nn) (ww o1 (ww o0 (ww o0 (tt k0 nn)))))))))))) (fun k0 => (Wb (sl z0x (C' := ⟨⟨52, 0, true⟩, (Vk prog 114 [1, 1, 1, 1, 0] 1), (Za prog 114 [1, 1, 1, 1, 0] 1), none, (Zy prog 3), ⟨Yk [(50, (.dat v5.length (Zz v5)))], Vn [] 0, 0, [], true⟩, [], .leaf⟩) 13 [] ⟨[], [0], [some [50]], []⟩ ⟨[(50, .frz v5.length v5.length (Zz v5) (Zz v5))], [], []⟩ [false] (pp (xZ (z4q 1 1 0 v5.length v5.length (Zz v5)) v5.length (Zz v5)) (pp (xL v5.length v5.length) (pp (xS v5.length (Zz v5) (Zz v5)) (pp (fl v5 nn) (tt k0 nn)))))) (lo fun o0 => (lr 52 3 [1, 1, 1, 1, 1, 1, 0] 1 3 [(4, (.dat (z0a (cvT v5)).length (Zz (z0a (cvT v5)))))] (sl z0x 3 [] ⟨[], [], [some [4]], []⟩ ⟨[], [], []⟩ [] (pp (pp (xr v5) (xw o0)) nn)))))))
theorem y6d (l0 : List R6) (l1 : List R6) : Ww prog (Zy prog 114) (v4h l0 l1) (Zn prog 114 [(.dat l0.length (Zz l0)), (.dat l1.length (Zz l1))] true []) (z3z l0 l1) := (sl z0x 15 [(3, 1, Zz ([] : List Int))] ⟨[0], [], v0e, v0g⟩ ⟨[(5, .grow 0 1)], [], []⟩ [] (pp (fl ([] : List Int) nn) nn))
theorem x9n (l0 : List R6) (l1 : List R6) (n : Nat) (vs : List AVal) (h : Yv (Jn l0 l1) n (z3z l0 l1) = .ret vs) : Kz prog (Zy prog 114) (Zn prog 114 [(.dat l0.length (Zz l0)), (.dat l1.length (Zz l1))] true []) vs := by
 have := Zr (y9l l0 l1) n _ (y6d l0 l1)
 rwa [h] at this
end Go.Am
namespace Go.Am
open Go.Proofs.Tryz
open Go.Proofs
theorem x5o {α : Type} [Yo α] (L : List α) : lst α L.length (fun k => (Zz L) (0 + k)) = L := Wr L
def z1c (l : List R4) : List Int := l.flatMap fun r => [r.a, r.c]
def Qr (l : List R4) : List Int := l.flatMap fun r => [r.b, r.d]
def z1b (l : List R6) : List Int := l.flatMap fun r => [r.c, r.f]
def xsV (l m : List R4) : List Int := z0a (z1c l ++ z1c m)
def z7r (l m : List R4) : Bool := decide (l.length ≤ 10000 ∧ m.length ≤ 10000)
theorem Kh (l : List R4) : (z1c l).length = 2 * l.length := by
 induction l with
 | nil => rfl
 | cons r l ih => show (_ :: _ :: z1c l).length = _; simp only [List.length_cons, ih]; omega
theorem y1z (l : List R4) (i : Nat) (h : i < l.length) : z1c (l.drop i) = z1c [rd l i] ++ z1c (l.drop (i + 1)) := by
 rw [Yc h]; rfl
theorem w9o (l m : List R4) (hl : l.length ≤ 10000) (hm : m.length ≤ 10000) : ∀ (k i : Nat) (out : List Int), i + k = m.length → out.length = 2 * l.length + 2 * i → ∃ N, Yv (z0e l m) N (.to (.h1 out (i : Int))) = .ret [.dat (z0a (out ++ z1c (m.drop i))).length (Zz (z0a (out ++ z1c (m.drop i))))]
 | 0, i, out, h, ho => by
  refine ⟨1, ?_⟩
  have hw : Jm out = true := decide_eq_true (by omega)
  rw [Zv, List.drop_eq_nil_of_le (show m.length ≤ i by omega), show z1c [] = [] from rfl, List.append_nil]
  simp (disch := omega) only [z0e, Xz, Yi, Zo, Zs, Xh, Yw, Yz, Yu, Zt, Zj, Zf, Kg, Ka, decide_true, Zw, Zc, Zh, Yp, Zq, Nat.zero_add, Bool.and_true, Bool.true_and, cond_true, cond_false, Bool.not_true, Bool.not_false, Zm, Zb, Zk, Wr, Xj, hw]
 | k + 1, i, out, h, ho => by
  obtain ⟨N, hN⟩ := w9o l m hl hm k (i + 1) (out ++ z1c [rd m i]) (by omega) (by rw [List.length_append, Kh]; simp; omega)
  refine ⟨N + 1, ?_⟩
  rw [y1z m i (by omega), ← List.append_assoc, Zv]
  simp (disch := omega) only [z0e, Xz, Yi, Zo, Zs, Xh, Yw, Yz, Yu, Zt, Zj, Zf, Kg, Ka, decide_true, Zw, Zc, Zh, Yp, Zq, Nat.zero_add, Bool.and_true, Bool.true_and, cond_true, cond_false, Bool.not_true, Bool.not_false, Zm, Zb, Zk, Wr, Xj]
  exact hN
theorem w9p (l m : List R4) (hl : l.length ≤ 10000) (hm : m.length ≤ 10000) : ∀ (k i : Nat) (out : List Int), i + k = l.length → out.length = 2 * i → ∃ N, Yv (z0e l m) N (.to (.h0 out (i : Int))) = .ret [.dat (z0a (out ++ z1c (l.drop i) ++ z1c m)).length (Zz (z0a (out ++ z1c (l.drop i) ++ z1c m)))]
 | 0, i, out, h, ho => by
  obtain ⟨N, hN⟩ := w9o l m hl hm m.length 0 out (Nat.zero_add _) (by omega)
  refine ⟨N + 1, ?_⟩
  rw [Zv, List.drop_eq_nil_of_le (show l.length ≤ i by omega), show z1c [] = [] from rfl, List.append_nil]
  simp (disch := omega) only [z0e, Xz, Yi, Zo, Zs, Xh, Yw, Yz, Yu, Zt, Zj, Zf, Kg, Ka, decide_true, Zw, Zc, Zh, Yp, Zq, Nat.zero_add, Bool.and_true, Bool.true_and, cond_true, cond_false, Bool.not_true, Bool.not_false, Zm, Zb, Zk, Wr, Xj]
  exact hN
 | k + 1, i, out, h, ho => by
  obtain ⟨N, hN⟩ := w9p l m hl hm k (i + 1) (out ++ z1c [rd l i]) (by omega) (by rw [List.length_append, Kh]; simp; omega)
  refine ⟨N + 1, ?_⟩
  rw [y1z l i (by omega), ← List.append_assoc, Zv]
  simp (disch := omega) only [z0e, Xz, Yi, Zo, Zs, Xh, Yw, Yz, Yu, Zt, Zj, Zf, Kg, Ka, decide_true, Zw, Zc, Zh, Yp, Zq, Nat.zero_add, Bool.and_true, Bool.true_and, cond_true, cond_false, Bool.not_true, Bool.not_false, Zm, Zb, Zk, Wr, Xj]
  exact hN
theorem v3p (l m : List R4) (h : z7r l m = true) : ∃ N, Yv (z0e l m) N (z8a l m) = .ret [.dat (xsV l m).length (Zz (xsV l m))] := by
 obtain ⟨h1, h2⟩ := of_decide_eq_true h
 have := w9p l m h1 h2 l.length 0 [] (Nat.zero_add _) rfl
 simpa [z8a, xsV] using this
def ysV (l m : List R4) : List Int := z0a (Qr l ++ Qr m)
def z7q (l m : List R4) : Bool := decide (l.length ≤ 10000 ∧ m.length ≤ 10000)
theorem Kf (l : List R4) : (Qr l).length = 2 * l.length := by
 induction l with
 | nil => rfl
 | cons r l ih => show (_ :: _ :: Qr l).length = _; simp only [List.length_cons, ih]; omega
theorem y1y (l : List R4) (i : Nat) (h : i < l.length) : Qr (l.drop i) = Qr [rd l i] ++ Qr (l.drop (i + 1)) := by
 rw [Yc h]; rfl
theorem w9m (l m : List R4) (hl : l.length ≤ 10000) (hm : m.length ≤ 10000) : ∀ (k i : Nat) (out : List Int), i + k = m.length → out.length = 2 * l.length + 2 * i → ∃ N, Yv (z0d l m) N (.to (.h1 out (i : Int))) = .ret [.dat (z0a (out ++ Qr (m.drop i))).length (Zz (z0a (out ++ Qr (m.drop i))))]
 | 0, i, out, h, ho => by
  refine ⟨1, ?_⟩
  have hw : Jm out = true := decide_eq_true (by omega)
  rw [Zv, List.drop_eq_nil_of_le (show m.length ≤ i by omega), show Qr [] = [] from rfl, List.append_nil]
  simp (disch := omega) only [z0d, Xz, Yi, Zo, Zs, Xh, Yw, Yz, Yu, Zt, Zj, Zf, Kg, Ka, decide_true, Zw, Zc, Zh, Yp, Zq, Nat.zero_add, Bool.and_true, Bool.true_and, cond_true, cond_false, Bool.not_true, Bool.not_false, Zm, Zb, Zk, Wr, Xj, hw]
 | k + 1, i, out, h, ho => by
  obtain ⟨N, hN⟩ := w9m l m hl hm k (i + 1) (out ++ Qr [rd m i]) (by omega) (by rw [List.length_append, Kf]; simp; omega)
  refine ⟨N + 1, ?_⟩
  rw [y1y m i (by omega), ← List.append_assoc, Zv]
  simp (disch := omega) only [z0d, Xz, Yi, Zo, Zs, Xh, Yw, Yz, Yu, Zt, Zj, Zf, Kg, Ka, decide_true, Zw, Zc, Zh, Yp, Zq, Nat.zero_add, Bool.and_true, Bool.true_and, cond_true, cond_false, Bool.not_true, Bool.not_false, Zm, Zb, Zk, Wr, Xj]
  exact hN
theorem w9n (l m : List R4) (hl : l.length ≤ 10000) (hm : m.length ≤ 10000) : ∀ (k i : Nat) (out : List Int), i + k = l.length → out.length = 2 * i → ∃ N, Yv (z0d l m) N (.to (.h0 out (i : Int))) = .ret [.dat (z0a (out ++ Qr (l.drop i) ++ Qr m)).length (Zz (z0a (out ++ Qr (l.drop i) ++ Qr m)))]
 | 0, i, out, h, ho => by
  obtain ⟨N, hN⟩ := w9m l m hl hm m.length 0 out (Nat.zero_add _) (by omega)
  refine ⟨N + 1, ?_⟩
  rw [Zv, List.drop_eq_nil_of_le (show l.length ≤ i by omega), show Qr [] = [] from rfl, List.append_nil]
  simp (disch := omega) only [z0d, Xz, Yi, Zo, Zs, Xh, Yw, Yz, Yu, Zt, Zj, Zf, Kg, Ka, decide_true, Zw, Zc, Zh, Yp, Zq, Nat.zero_add, Bool.and_true, Bool.true_and, cond_true, cond_false, Bool.not_true, Bool.not_false, Zm, Zb, Zk, Wr, Xj]
  exact hN
 | k + 1, i, out, h, ho => by
  obtain ⟨N, hN⟩ := w9n l m hl hm k (i + 1) (out ++ Qr [rd l i]) (by omega) (by rw [List.length_append, Kf]; simp; omega)
  refine ⟨N + 1, ?_⟩
  rw [y1y l i (by omega), ← List.append_assoc, Zv]
  simp (disch := omega) only [z0d, Xz, Yi, Zo, Zs, Xh, Yw, Yz, Yu, Zt, Zj, Zf, Kg, Ka, decide_true, Zw, Zc, Zh, Yp, Zq, Nat.zero_add, Bool.and_true, Bool.true_and, cond_true, cond_false, Bool.not_true, Bool.not_false, Zm, Zb, Zk, Wr, Xj]
  exact hN
theorem v3o (l m : List R4) (h : z7q l m = true) : ∃ N, Yv (z0d l m) N (z7z l m) = .ret [.dat (ysV l m).length (Zz (ysV l m))] := by
 obtain ⟨h1, h2⟩ := of_decide_eq_true h
 have := w9n l m h1 h2 l.length 0 [] (Nat.zero_add _) rfl
 simpa [z7z, ysV] using this
def Yh (l m : List R6) : List Int := z0a (z1b l ++ z1b m)
def z5e (l m : List R6) : Bool := decide (l.length ≤ 10000 ∧ m.length ≤ 10000)
theorem Ke (l : List R6) : (z1b l).length = 2 * l.length := by
 induction l with
 | nil => rfl
 | cons r l ih => show (_ :: _ :: z1b l).length = _; simp only [List.length_cons, ih]; omega
theorem y1v (l : List R6) (i : Nat) (h : i < l.length) : z1b (l.drop i) = z1b [rd l i] ++ z1b (l.drop (i + 1)) := by
 rw [Yc h]; rfl
theorem x9l (l m : List R6) (hl : l.length ≤ 10000) (hm : m.length ≤ 10000) : ∀ (k i : Nat) (out : List Int), i + k = m.length → out.length = 2 * l.length + 2 * i → ∃ N, Yv (Jn l m) N (.to (.h1 out (i : Int))) = .ret [.dat (z0a (out ++ z1b (m.drop i))).length (Zz (z0a (out ++ z1b (m.drop i))))]
 | 0, i, out, h, ho => by
  refine ⟨1, ?_⟩
  have hw : Jm out = true := decide_eq_true (by omega)
  rw [Zv, List.drop_eq_nil_of_le (show m.length ≤ i by omega), show z1b [] = [] from rfl, List.append_nil]
  simp (disch := omega) only [Jn, Xz, Yi, Zo, Zs, Xh, Yw, Yz, Yu, Zt, Zj, Zf, Kg, Ka, decide_true, Zw, Zc, Zh, Yp, Zq, Nat.zero_add, Bool.and_true, Bool.true_and, cond_true, cond_false, Bool.not_true, Bool.not_false, Zm, Zb, Zk, Wr, Xj, hw]
 | k + 1, i, out, h, ho => by
  obtain ⟨N, hN⟩ := x9l l m hl hm k (i + 1) (out ++ z1b [rd m i]) (by omega) (by rw [List.length_append, Ke]; simp; omega)
  refine ⟨N + 1, ?_⟩
  rw [y1v m i (by omega), ← List.append_assoc, Zv]
  simp (disch := omega) only [Jn, Xz, Yi, Zo, Zs, Xh, Yw, Yz, Yu, Zt, Zj, Zf, Kg, Ka, decide_true, Zw, Zc, Zh, Yp, Zq, Nat.zero_add, Bool.and_true, Bool.true_and, cond_true, cond_false, Bool.not_true, Bool.not_false, Zm, Zb, Zk, Wr, Xj]
  exact hN
theorem x9m (l m : List R6) (hl : l.length ≤ 10000) (hm : m.length ≤ 10000) : ∀ (k i : Nat) (out : List Int), i + k = l.length → out.length = 2 * i → ∃ N, Yv (Jn l m) N (.to (.h0 out (i : Int))) = .ret [.dat (z0a (out ++ z1b (l.drop i) ++ z1b m)).length (Zz (z0a (out ++ z1b (l.drop i) ++ z1b m)))]
 | 0, i, out, h, ho => by
  obtain ⟨N, hN⟩ := x9l l m hl hm m.length 0 out (Nat.zero_add _) (by omega)
  refine ⟨N + 1, ?_⟩
  rw [Zv, List.drop_eq_nil_of_le (show l.length ≤ i by omega), show z1b [] = [] from rfl, List.append_nil]
  simp (disch := omega) only [Jn, Xz, Yi, Zo, Zs, Xh, Yw, Yz, Yu, Zt, Zj, Zf, Kg, Ka, decide_true, Zw, Zc, Zh, Yp, Zq, Nat.zero_add, Bool.and_true, Bool.true_and, cond_true, cond_false, Bool.not_true, Bool.not_false, Zm, Zb, Zk, Wr, Xj]
  exact hN
 | k + 1, i, out, h, ho => by
  obtain ⟨N, hN⟩ := x9m l m hl hm k (i + 1) (out ++ z1b [rd l i]) (by omega) (by rw [List.length_append, Ke]; simp; omega)
  refine ⟨N + 1, ?_⟩
  rw [y1v l i (by omega), ← List.append_assoc, Zv]
  simp (disch := omega) only [Jn, Xz, Yi, Zo, Zs, Xh, Yw, Yz, Yu, Zt, Zj, Zf, Kg, Ka, decide_true, Zw, Zc, Zh, Yp, Zq, Nat.zero_add, Bool.and_true, Bool.true_and, cond_true, cond_false, Bool.not_true, Bool.not_false, Zm, Zb, Zk, Wr, Xj]
  exact hN
theorem w4m (l m : List R6) (h : z5e l m = true) : ∃ N, Yv (Jn l m) N (z3z l m) = .ret [.dat (Yh l m).length (Zz (Yh l m))] := by
 obtain ⟨h1, h2⟩ := of_decide_eq_true h
 have := x9m l m h1 h2 l.length 0 [] (Nat.zero_add _) rfl
 simpa [z3z, Yh] using this
def fXs : List AVal → Option (AVal × Bool)
 | [a0, a1] => match asL R4 a0, asL R4 a1 with
  | some (L0, g0, n0), some (L1, g1, n1) => some (.dat (xsV L0 L1).length (Zz (xsV L0 L1)), isT R4 n0 g0 && (isT R4 n1 g1 && (z7r L0 L1)))
  | _, _ => none
 | _ => none
theorem fXs_ok {S : Specs} (hS : Zu prog S) : Zu prog (S.with nXs fXs) := by
 refine z2g hS (by kernel_rfl) fun args v h => ?_
 unfold fXs at h
 split at h
 ·rename_i a0 a1
  split at h
  ·rename_i L0 g0 n0 L1 g1 n1 e0 e1
   simp only [Option.some.injEq, Prod.mk.injEq, Bool.and_eq_true] at h
   obtain ⟨rfl, ho0, ho1, hw⟩ := h
   obtain ⟨N, hN⟩ := v3p L0 L1 hw
   exact ⟨_, _, (.cons (asL_le e0 ho0) (.cons (asL_le e1 ho1) .nil)), rfl, w4a L0 L1 N _ hN, 3, rfl⟩
  ·cases h
 ·cases h
def fYs : List AVal → Option (AVal × Bool)
 | [a0, a1] => match asL R4 a0, asL R4 a1 with
  | some (L0, g0, n0), some (L1, g1, n1) => some (.dat (ysV L0 L1).length (Zz (ysV L0 L1)), isT R4 n0 g0 && (isT R4 n1 g1 && (z7q L0 L1)))
  | _, _ => none
 | _ => none
theorem fYs_ok {S : Specs} (hS : Zu prog S) : Zu prog (S.with nYs fYs) := by
 refine z2g hS (by kernel_rfl) fun args v h => ?_
 unfold fYs at h
 split at h
 ·rename_i a0 a1
  split at h
  ·rename_i L0 g0 n0 L1 g1 n1 e0 e1
   simp only [Option.some.injEq, Prod.mk.injEq, Bool.and_eq_true] at h
   obtain ⟨rfl, ho0, ho1, hw⟩ := h
   obtain ⟨N, hN⟩ := v3o L0 L1 hw
   exact ⟨_, _, (.cons (asL_le e0 ho0) (.cons (asL_le e1 ho1) .nil)), rfl, w3z L0 L1 N _ hN, 3, rfl⟩
  ·cases h
 ·cases h
def v6t : List AVal → Option (AVal × Bool)
 | [a0, a1] => match asL R6 a0, asL R6 a1 with
  | some (L0, g0, n0), some (L1, g1, n1) => some (.dat (Yh L0 L1).length (Zz (Yh L0 L1)), isT R6 n0 g0 && (isT R6 n1 g1 && (z5e L0 L1)))
  | _, _ => none
 | _ => none
theorem w7a {S : Specs} (hS : Zu prog S) : Zu prog (S.with nCuts v6t) := by
 refine z2g hS (by kernel_rfl) fun args v h => ?_
 unfold v6t at h
 split at h
 ·rename_i a0 a1
  split at h
  ·rename_i L0 g0 n0 L1 g1 n1 e0 e1
   simp only [Option.some.injEq, Prod.mk.injEq, Bool.and_eq_true] at h
   obtain ⟨rfl, ho0, ho1, hw⟩ := h
   obtain ⟨N, hN⟩ := w4m L0 L1 hw
   exact ⟨_, _, (.cons (asL_le e0 ho0) (.cons (asL_le e1 ho1) .nil)), rfl, x9n L0 L1 N _ hN, 3, rfl⟩
  ·cases h
 ·cases h
def T2 : Specs := ((T1.with nXs fXs).with nYs fYs).with nCuts v6t
theorem z6r : Zu prog T2 := w7a (fYs_ok (fXs_ok z0x))
end Go.Am
namespace Go.Am
open Go.Proofs.Tryz
open Go.Proofs
inductive rjoS where
 | h0 (v9 : List R4) (v10 : List R2) (v11 : Int) (v12 : Int)
 | h1 (v9 : List R4) (v10 : List R2) (v11 : Int) (v12 : Int) (v13 : List Bool) (v14 : Int)
 | h2 (v9 : List R4) (v10 : List R2) (v11 : Int) (v12 : Int) (v15 : List R2) (v17 : Int)
 | h3 (v9 : List R4) (v10 : List R2) (v11 : Int) (v12 : Int) (v16 : Int)
def rjoC (x0 : Int) (l1 : List R4) (l2 : List R4) : rjoS → Cfg
 | .h0 v9 v10 v11 v12 => ⟨⟨121, 0, true⟩, none, (Za prog 115 [1, 1, 1, 1, 1, 0, 1, 0, 0] 0), none, (Zy prog 4), ⟨Yk [(0, (ii x0)), (1, (.dat l1.length (Zz l1))), (2, (.dat l2.length (Zz l2))), (7, (.dat (xsV (cvT l1) (cvT l2)).length (Zz (xsV (cvT l1) (cvT l2))))), (8, (.dat (ysV (cvT l1) (cvT l2)).length (Zz (ysV (cvT l1) (cvT l2))))), (9, (.sla 0 4 0 v9.length (.un 4))), (10, (.dat v10.length (Zz v10))), (11, (ii v11)), (12, (ii v12))], Vn [⟨rows v9.length (Zz v9), 114, some ⟨4, v9.length, (Zz v9)⟩⟩] 0, 1, [], true⟩, [], .leaf⟩
 | .h1 v9 v10 v11 v12 v13 v14 => ⟨⟨121, 0, true⟩, none, (Za prog 115 [1, 1, 1, 1, 1, 0, 1, 0, 0, 1, 0, 0, 1, 0, 1, 0, 0] 0), none, (Zy prog 4), ⟨Yk [(0, (ii x0)), (1, (.dat l1.length (Zz l1))), (2, (.dat l2.length (Zz l2))), (7, (.dat (xsV (cvT l1) (cvT l2)).length (Zz (xsV (cvT l1) (cvT l2))))), (8, (.dat (ysV (cvT l1) (cvT l2)).length (Zz (ysV (cvT l1) (cvT l2))))), (9, (.sla 1 4 0 v9.length (.un 4))), (10, (.dat v10.length (Zz v10))), (11, (ii v11)), (12, (ii v12)), (13, (.sla 0 1 0 v13.length (.un 1))), (14, (ii v14))], Vn [⟨rows v13.length (Zz v13), 4, some ⟨1, v13.length, (Zz v13)⟩⟩, ⟨rows v9.length (Zz v9), 114, some ⟨4, v9.length, (Zz v9)⟩⟩] 0, 2, [], true⟩, [], .leaf⟩
 | .h2 v9 v10 v11 v12 v15 v17 => ⟨⟨121, 0, true⟩, none, (Za prog 115 [1, 1, 1, 1, 1, 0, 1, 0, 0, 1, 0, 0, 1, 1, 1, 1, 1, 1, 0, 0] 0), none, (Zy prog 4), ⟨Yk [(0, (ii x0)), (1, (.dat l1.length (Zz l1))), (2, (.dat l2.length (Zz l2))), (7, (.dat (xsV (cvT l1) (cvT l2)).length (Zz (xsV (cvT l1) (cvT l2))))), (8, (.dat (ysV (cvT l1) (cvT l2)).length (Zz (ysV (cvT l1) (cvT l2))))), (9, (.sla 0 4 0 v9.length (.un 4))), (10, (.dat v10.length (Zz v10))), (11, (ii v11)), (12, (ii v12)), (15, (.dat v15.length (Zz v15))), (17, (ii v17))], Vn [⟨rows v9.length (Zz v9), 114, some ⟨4, v9.length, (Zz v9)⟩⟩] 0, 1, [], true⟩, [], .leaf⟩
 | .h3 v9 v10 v11 v12 v16 => ⟨⟨121, 0, true⟩, none, (Za prog 115 [1, 1, 1, 1, 1, 0, 1, 0, 0, 1, 0, 0, 1, 1, 1, 0, 1, 0, 0, 1, 0, 0] 0), none, (Zy prog 4), ⟨Yk [(0, (ii x0)), (1, (.dat l1.length (Zz l1))), (2, (.dat l2.length (Zz l2))), (7, (.dat (xsV (cvT l1) (cvT l2)).length (Zz (xsV (cvT l1) (cvT l2))))), (8, (.dat (ysV (cvT l1) (cvT l2)).length (Zz (ysV (cvT l1) (cvT l2))))), (9, (.sla 0 4 0 v9.length (.un 4))), (10, (.dat v10.length (Zz v10))), (11, (ii v11)), (12, (ii v12)), (16, (ii v16))], Vn [⟨rows v9.length (Zz v9), 114, some ⟨4, v9.length, (Zz v9)⟩⟩] 0, 1, [], true⟩, [], .leaf⟩
def v4b : List (Option (List Nat)) := [some [0, 1, 2, 7, 8, 9, 10, 11, 12]]
def v4d : List (Option (List Nat)) := []
def rjoN1 : List (Option (List Nat)) := [some [0, 1, 2, 7, 8, 9, 10, 11, 12, 13, 14]]
def rjoM1 : List (Option (List Nat)) := []
def v4a : List (Option (List Nat)) := [some [0, 1, 2, 7, 8, 9, 10, 11, 12, 15, 17]]
def v4c : List (Option (List Nat)) := []
def rjoN3 : List (Option (List Nat)) := [some [0, 1, 2, 7, 8, 9, 10, 11, 12, 16]]
def rjoM3 : List (Option (List Nat)) := []
def Wh (x0 : Int) (l1 : List R4) (l2 : List R4) : rjoS → Xn rjoS
 | .h0 v9 v10 v11 v12 => (bif (decide ((IntKind.wrap .i64 (v12 + 1)) < (((xsV (cvT l1) (cvT l2)).length : Nat) : Int))) then (.to (.h1 v9 v10 v11 v12 ([] : List Bool) 0)) else (.ret [(.dat v9.length (Zz v9))]))
 | .h1 v9 v10 v11 v12 v13 v14 => (bif (decide (v14 < (((ysV (cvT l1) (cvT l2)).length : Nat) : Int))) then (bif (Kw (cvT l1) (rd (xsV (cvT l1) (cvT l2)) v12.toNat) (rd (ysV (cvT l1) (cvT l2)) v14.toNat)) then (bif ((decide (0 ≤ v12 ∧ v12 < (((xsV (cvT l1) (cvT l2)).length : Nat) : Int))) && true) then (bif ((decide (0 ≤ v14 ∧ v14 < (((ysV (cvT l1) (cvT l2)).length : Nat) : Int))) && true) then (bif (Kw (cvT l2) (rd (xsV (cvT l1) (cvT l2)) v12.toNat) (rd (ysV (cvT l1) (cvT l2)) v14.toNat)) then (bif (Nat.beq 1 1 && ((decide (0 + v13.length = v13.length)) && decide ((v13.length + 1 + 1) * (1 + 1) ≤ Jp))) then (.to (.h1 v9 v10 v11 v12 (v13 ++ [(Kt x0 (has4V (cvT l1) (rd (xsV (cvT l1) (cvT l2)) v12.toNat) (rd (ysV (cvT l1) (cvT l2)) v14.toNat)) (has4V (cvT l2) (rd (xsV (cvT l1) (cvT l2)) v12.toNat) (rd (ysV (cvT l1) (cvT l2)) v14.toNat)))]) (IntKind.wrap .i64 (v14 + 1)))) else .stuck) else .stuck) else .stuck) else .stuck) else .stuck) else (bif (z5h (cvT (ysV (cvT l1) (cvT l2))) (cvT v13)) then (bif (decide (v12 > 0)) then (bif (Wt (cvT (z7k (cvT (ysV (cvT l1) (cvT l2))) (cvT v13))) (cvT v10)) then (bif (Jg (cvT (z7k (cvT (ysV (cvT l1) (cvT l2))) (cvT v13))) (cvT v10)) then (.to (.h3 v9 v10 v11 v12 v11)) else (.to (.h2 v9 (z7k (cvT (ysV (cvT l1) (cvT l2))) (cvT v13)) (v9.length : Int) v12 (z7k (cvT (ysV (cvT l1) (cvT l2))) (cvT v13)) 0))) else .stuck) else (.to (.h2 v9 (z7k (cvT (ysV (cvT l1) (cvT l2))) (cvT v13)) (v9.length : Int) v12 (z7k (cvT (ysV (cvT l1) (cvT l2))) (cvT v13)) 0))) else .stuck))
 | .h2 v9 v10 v11 v12 v15 v17 => (bif (decide (v17 < (v15.length : Int))) then (bif ((decide (0 ≤ v12 ∧ v12 < (((xsV (cvT l1) (cvT l2)).length : Nat) : Int))) && true) then (bif ((decide (0 ≤ (IntKind.wrap .i64 (v12 + 1)) ∧ (IntKind.wrap .i64 (v12 + 1)) < (((xsV (cvT l1) (cvT l2)).length : Nat) : Int))) && true) then (bif ((decide (0 ≤ v17 ∧ v17 < (v15.length : Int))) && true) then (bif (Nat.beq 4 4 && ((decide (0 + v9.length = v9.length)) && decide ((v9.length + 1 + 1) * (32 + 1) ≤ Jp))) then (.to (.h2 (v9 ++ [(R4.mk (rd (xsV (cvT l1) (cvT l2)) v12.toNat) (rd v15 v17.toNat).a (rd (xsV (cvT l1) (cvT l2)) (Int.toNat (IntKind.wrap .i64 (v12 + 1)))) (rd v15 v17.toNat).b)]) v10 v11 v12 v15 (IntKind.wrap .i64 (v17 + 1)))) else .stuck) else .stuck) else .stuck) else .stuck) else (.to (.h0 v9 v10 v11 (IntKind.wrap .i64 (v12 + 1)))))
 | .h3 v9 v10 v11 v12 v16 => (bif (decide (v16 < (v9.length : Int))) then (bif ((decide (0 ≤ (IntKind.wrap .i64 (v12 + 1)) ∧ (IntKind.wrap .i64 (v12 + 1)) < (((xsV (cvT l1) (cvT l2)).length : Nat) : Int))) && true) then (bif ((decide (0 ≤ v16 ∧ v16 < (v9.length : Int))) && true) then (bif (decide ((0 + v16.toNat) < v9.length)) then (.to (.h3 (v9.set (0 + v16.toNat) (R4.mk (rd v9 (0 + v16.toNat)).a (rd v9 (0 + v16.toNat)).b (rd (xsV (cvT l1) (cvT l2)) (Int.toNat (IntKind.wrap .i64 (v12 + 1)))) (rd v9 (0 + v16.toNat)).d)) v10 v11 v12 (IntKind.wrap .i64 (v16 + 1)))) else .stuck) else .stuck) else .stuck) else (.to (.h0 v9 v10 v11 (IntKind.wrap .i64 (v12 + 1)))))
def z8e (x0 : Int) (l1 : List R4) (l2 : List R4) : Xn rjoS := (bif (z7r (cvT l1) (cvT l2)) then (bif (z7q (cvT l1) (cvT l2)) then (.to (.h0 ([] : List R4) ([] : List R2) 0 0)) else .stuck) else .stuck)
theorem x5d (x0 : Int) (l1 : List R4) (l2 : List R4) : ∀ s, Ww prog (Zy prog 115) (rjoC x0 l1 l2) (rjoC x0 l1 l2 s) (Wh x0 l1 l2 s)
 | .h0 v9 v10 v11 v12 => (lb (fun k0 => (sl z6r 24 [(4, 1, Zz ([] : List Bool))] ⟨[1, 0], [], rjoN1, rjoM1⟩ ⟨[(13, .grow 0 1)], [], []⟩ [true] (pp (fl ([] : List Bool) (fl v9 nn)) (tt k0 nn)))) (fun k0 => (lr 121 3 [1, 1, 1, 1, 1, 1, 0] 1 4 [(6, (.dat v9.length (Zz v9)))] (sl z6r 16 [] ⟨[], [0], [some [6]], []⟩ ⟨[(6, .frz v9.length v9.length (Zz v9) (Zz v9))], [], []⟩ [false] (pp (xZ (z4q 4 4 0 v9.length v9.length (Zz v9)) v9.length (Zz v9)) (pp (xL v9.length v9.length) (pp (xS v9.length (Zz v9) (Zz v9)) (pp (fl v9 nn) (tt k0 nn)))))))))
 | .h1 v9 v10 v11 v12 v13 v14 => (lb (fun k0 => (lo fun o0 => (lo fun o1 => (lo fun o2 => (lo fun o3 => (lo fun o4 => (sl z6r 20 [] ⟨[3, 1], [], rjoN1, rjoM1⟩ ⟨[(13, .len (v13 ++ [(Kt x0 (has4V (cvT l1) (rd (xsV (cvT l1) (cvT l2)) (tn v12)) (rd (ysV (cvT l1) (cvT l2)) (tn v14))) (has4V (cvT l2) (rd (xsV (cvT l1) (cvT l2)) (tn v12)) (rd (ysV (cvT l1) (cvT l2)) (tn v14))))]).length)], [.rowed 1 (v13 ++ [(Kt x0 (has4V (cvT l1) (rd (xsV (cvT l1) (cvT l2)) (tn v12)) (rd (ysV (cvT l1) (cvT l2)) (tn v14))) (has4V (cvT l2) (rd (xsV (cvT l1) (cvT l2)) (tn v12)) (rd (ysV (cvT l1) (cvT l2)) (tn v14))))]).length (Zz (v13 ++ [(Kt x0 (has4V (cvT l1) (rd (xsV (cvT l1) (cvT l2)) (tn v12)) (rd (ysV (cvT l1) (cvT l2)) (tn v14))) (has4V (cvT l2) (rd (xsV (cvT l1) (cvT l2)) (tn v12)) (rd (ysV (cvT l1) (cvT l2)) (tn v14))))])), .keep], []⟩ [true] (pp (xL (v13.length + 1) (v13 ++ [(Kt x0 (has4V (cvT l1) (rd (xsV (cvT l1) (cvT l2)) (tn v12)) (rd (ysV (cvT l1) (cvT l2)) (tn v14))) (has4V (cvT l2) (rd (xsV (cvT l1) (cvT l2)) (tn v12)) (rd (ysV (cvT l1) (cvT l2)) (tn v14))))]).length) (pp (xL (v13.length + 1) (v13 ++ [(Kt x0 (has4V (cvT l1) (rd (xsV (cvT l1) (cvT l2)) (tn v12)) (rd (ysV (cvT l1) (cvT l2)) (tn v14))) (has4V (cvT l2) (rd (xsV (cvT l1) (cvT l2)) (tn v12)) (rd (ysV (cvT l1) (cvT l2)) (tn v14))))]).length) (pp (xS (v13.length + 1) (Zd (Zz v13) 0 v13.length 1 [(.bool (Kt x0 (has4V (cvT l1) (rd (xsV (cvT l1) (cvT l2)) (tn v12)) (rd (ysV (cvT l1) (cvT l2)) (tn v14))) (has4V (cvT l2) (rd (xsV (cvT l1) (cvT l2)) (tn v12)) (rd (ysV (cvT l1) (cvT l2)) (tn v14)))))]) (Zz (v13 ++ [(Kt x0 (has4V (cvT l1) (rd (xsV (cvT l1) (cvT l2)) (tn v12)) (rd (ysV (cvT l1) (cvT l2)) (tn v14))) (has4V (cvT l2) (rd (xsV (cvT l1) (cvT l2)) (tn v12)) (rd (ysV (cvT l1) (cvT l2)) (tn v14))))]))) (pp (pp (xF (Zd (Zz v13) 0 v13.length 1 [(.bool (Kt x0 (has4V (cvT l1) (rd (xsV (cvT l1) (cvT l2)) (tn v12)) (rd (ysV (cvT l1) (cvT l2)) (tn v14))) (has4V (cvT l2) (rd (xsV (cvT l1) (cvT l2)) (tn v12)) (rd (ysV (cvT l1) (cvT l2)) (tn v14)))))])) (fl v9 nn)) (ww o4 (pp (pp (xr l2) (xw o3)) (ww o2 (ww o1 (pp (pp (xr l1) (xw o0)) (ww o2 (ww o1 (tt k0 nn))))))))))))))))))) (fun k0 => (Wb (sl z6r (C' := ⟨⟨121, 0, true⟩, (Vk prog 115 [1, 1, 1, 1, 1, 0, 1, 0, 0, 1, 0, 0, 1, 1, 0] 2), (Za prog 115 [1, 1, 1, 1, 1, 0, 1, 0, 0, 1, 0, 0, 1, 1, 0] 1), none, (Zy prog 4), ⟨Yk [(0, (ii x0)), (1, (.dat l1.length (Zz l1))), (2, (.dat l2.length (Zz l2))), (7, (.dat (xsV (cvT l1) (cvT l2)).length (Zz (xsV (cvT l1) (cvT l2))))), (8, (.dat (ysV (cvT l1) (cvT l2)).length (Zz (ysV (cvT l1) (cvT l2))))), (9, (.sla 0 4 0 v9.length (.un 4))), (10, (.dat v10.length (Zz v10))), (11, (ii v11)), (12, (ii v12)), (62, (.dat (ysV (cvT l1) (cvT l2)).length (Zz (ysV (cvT l1) (cvT l2))))), (63, (.dat v13.length (Zz v13)))], Vn [⟨rows v9.length (Zz v9), 114, some ⟨4, v9.length, (Zz v9)⟩⟩] 0, 1, [], true⟩, [], .leaf⟩) 14 [] ⟨[1], [0], [some [0, 1, 2, 7, 8, 9, 10, 11, 12, 62, 63]], []⟩ ⟨[(63, .frz v13.length v13.length (Zz v13) (Zz v13))], [], []⟩ [false] (pp (xZ (z4q 1 1 0 v13.length v13.length (Zz v13)) v13.length (Zz v13)) (pp (xL v13.length v13.length) (pp (xS v13.length (Zz v13) (Zz v13)) (pp (fl v9 nn) (pp (fl v13 nn) (tt k0 nn))))))) (lo fun aH => (lb (fun k1 => (lo fun cX => (lb (fun k2 => (sl z6r 23 [] ⟨[0], [], rjoN3, rjoM3⟩ ⟨[], [], []⟩ (trs 4 []) (pp (fl v9 nn) (tt k2 (pp (pp (xI R2 (z7k (cvT (ysV (cvT l1) (cvT l2))) (cvT v13)).length (Zz (z7k (cvT (ysV (cvT l1) (cvT l2))) (cvT v13)))) (pp (xr v10) (xw cX))) (tt k1 (pp (pp (xI Int (ysV (cvT l1) (cvT l2)).length (Zz (ysV (cvT l1) (cvT l2)))) (pp (xr v13) (xw aH))) nn))))))) (fun k2 => (sl z6r 30 [] ⟨[0], [], v4a, v4c⟩ ⟨[], [], []⟩ (trs 3 [false]) (pp (fl v9 nn) (tt k2 (pp (pp (xI R2 (z7k (cvT (ysV (cvT l1) (cvT l2))) (cvT v13)).length (Zz (z7k (cvT (ysV (cvT l1) (cvT l2))) (cvT v13)))) (pp (xr v10) (xw cX))) (tt k1 (pp (pp (xI Int (ysV (cvT l1) (cvT l2)).length (Zz (ysV (cvT l1) (cvT l2)))) (pp (xr v13) (xw aH))) nn)))))))))) (fun k1 => (sl z6r 30 [] ⟨[0], [], v4a, v4c⟩ ⟨[], [], []⟩ [false, false, false, false] (pp (fl v9 nn) (tt k1 (pp (pp (xI Int (ysV (cvT l1) (cvT l2)).length (Zz (ysV (cvT l1) (cvT l2)))) (pp (xr v13) (xw aH))) nn))))))))))
 | .h2 v9 v10 v11 v12 v15 v17 => (lb (fun k0 => (lo fun o0 => (lo fun o1 => (lo fun o2 => (lo fun o3 => (sl z6r 20 [] ⟨[2], [], v4a, v4c⟩ ⟨[(9, .len (v9 ++ [(R4.mk (rd (xsV (cvT l1) (cvT l2)) (tn v12)) (rd v15 (tn v17)).a (rd (xsV (cvT l1) (cvT l2)) (tn (wr (v12 + 1)))) (rd v15 (tn v17)).b)]).length)], [.rowed 4 (v9 ++ [(R4.mk (rd (xsV (cvT l1) (cvT l2)) (tn v12)) (rd v15 (tn v17)).a (rd (xsV (cvT l1) (cvT l2)) (tn (wr (v12 + 1)))) (rd v15 (tn v17)).b)]).length (Zz (v9 ++ [(R4.mk (rd (xsV (cvT l1) (cvT l2)) (tn v12)) (rd v15 (tn v17)).a (rd (xsV (cvT l1) (cvT l2)) (tn (wr (v12 + 1)))) (rd v15 (tn v17)).b)]))], []⟩ [true] (pp (xL (v9.length + 1) (v9 ++ [(R4.mk (rd (xsV (cvT l1) (cvT l2)) (tn v12)) (rd v15 (tn v17)).a (rd (xsV (cvT l1) (cvT l2)) (tn (wr (v12 + 1)))) (rd v15 (tn v17)).b)]).length) (pp (xL (v9.length + 1) (v9 ++ [(R4.mk (rd (xsV (cvT l1) (cvT l2)) (tn v12)) (rd v15 (tn v17)).a (rd (xsV (cvT l1) (cvT l2)) (tn (wr (v12 + 1)))) (rd v15 (tn v17)).b)]).length) (pp (xS (v9.length + 1) (Zd (Zz v9) 0 v9.length 4 [(ii (rd (xsV (cvT l1) (cvT l2)) (tn v12))), (ii (rd v15 (tn v17)).a), (ii (rd (xsV (cvT l1) (cvT l2)) (tn (wr (v12 + 1))))), (ii (rd v15 (tn v17)).b)]) (Zz (v9 ++ [(R4.mk (rd (xsV (cvT l1) (cvT l2)) (tn v12)) (rd v15 (tn v17)).a (rd (xsV (cvT l1) (cvT l2)) (tn (wr (v12 + 1)))) (rd v15 (tn v17)).b)]))) (pp (pp (xF (Zd (Zz v9) 0 v9.length 4 [(ii (rd (xsV (cvT l1) (cvT l2)) (tn v12))), (ii (rd v15 (tn v17)).a), (ii (rd (xsV (cvT l1) (cvT l2)) (tn (wr (v12 + 1))))), (ii (rd v15 (tn v17)).b)])) nn) (ww o3 (ww o2 (ww o1 (ww o2 (ww o0 (tt k0 nn)))))))))))))))) (fun k0 => (sl z6r 17 [] ⟨[0], [], v4b, v4d⟩ ⟨[], [], []⟩ [false] (pp (fl v9 nn) (tt k0 nn)))))
 | .h3 v9 v10 v11 v12 v16 => (lb (fun k0 => (lo fun o0 => (lo fun o1 => (lo fun o2 => (sl z6r 31 [] ⟨[0], [], rjoN3, rjoM3⟩ ⟨[(9, .len (v9.set (0 + (tn v16)) (R4.mk (rd v9 (0 + (tn v16))).a (rd v9 (0 + (tn v16))).b (rd (xsV (cvT l1) (cvT l2)) (tn (wr (v12 + 1)))) (rd v9 (0 + (tn v16))).d)).length)], [.rowed 4 (v9.set (0 + (tn v16)) (R4.mk (rd v9 (0 + (tn v16))).a (rd v9 (0 + (tn v16))).b (rd (xsV (cvT l1) (cvT l2)) (tn (wr (v12 + 1)))) (rd v9 (0 + (tn v16))).d)).length (Zz (v9.set (0 + (tn v16)) (R4.mk (rd v9 (0 + (tn v16))).a (rd v9 (0 + (tn v16))).b (rd (xsV (cvT l1) (cvT l2)) (tn (wr (v12 + 1)))) (rd v9 (0 + (tn v16))).d)))], []⟩ [true] (pp (xL v9.length (v9.set (0 + (tn v16)) (R4.mk (rd v9 (0 + (tn v16))).a (rd v9 (0 + (tn v16))).b (rd (xsV (cvT l1) (cvT l2)) (tn (wr (v12 + 1)))) (rd v9 (0 + (tn v16))).d)).length) (pp (xL v9.length (v9.set (0 + (tn v16)) (R4.mk (rd v9 (0 + (tn v16))).a (rd v9 (0 + (tn v16))).b (rd (xsV (cvT l1) (cvT l2)) (tn (wr (v12 + 1)))) (rd v9 (0 + (tn v16))).d)).length) (pp (xS v9.length (Xc (Zz v9) (0 + (tn v16)) 2 [(ii (rd (xsV (cvT l1) (cvT l2)) (tn (wr (v12 + 1)))))]) (Zz (v9.set (0 + (tn v16)) (R4.mk (rd v9 (0 + (tn v16))).a (rd v9 (0 + (tn v16))).b (rd (xsV (cvT l1) (cvT l2)) (tn (wr (v12 + 1)))) (rd v9 (0 + (tn v16))).d)))) (pp (pp (xF (Xc (Zz v9) (0 + (tn v16)) 2 [(ii (rd (xsV (cvT l1) (cvT l2)) (tn (wr (v12 + 1)))))])) nn) (ww o2 (ww o1 (ww o0 (tt k0 nn))))))))))))) (fun k0 => (sl z6r 17 [] ⟨[0], [], v4b, v4d⟩ ⟨[], [], []⟩ [false] (pp (fl v9 nn) (tt k0 nn)))))
theorem y9e (x0 : Int) (l1 : List R4) (l2 : List R4) : Ww prog (Zy prog 115) (rjoC x0 l1 l2) (Zn prog 115 [(.int .i64 x0), (.dat l1.length (Zz l1)), (.dat l2.length (Zz l2))] true []) (z8e x0 l1 l2) := (lo fun o0 => (lo fun o1 => (sl z6r 34 [(114, 4, Zz ([] : List R4))] ⟨[0], [], v4b, v4d⟩ ⟨[(9, .grow 0 4), (10, .list 0 (Zz ([] : List R2)))], [], []⟩ [] (pp (fl ([] : List R4) nn) (pp (pp (xr l1) (pp (xr l2) (xw o1))) (pp (pp (xr l1) (pp (xr l2) (xw o0))) nn))))))
theorem w4h (x0 : Int) (l1 : List R4) (l2 : List R4) (n : Nat) (vs : List AVal) (h : Yv (Wh x0 l1 l2) n (z8e x0 l1 l2) = .ret vs) : Kz prog (Zy prog 115) (Zn prog 115 [(.int .i64 x0), (.dat l1.length (Zz l1)), (.dat l2.length (Zz l2))] true []) vs := by
 have := Zr (x5d x0 l1 l2) n _ (y9e x0 l1 l2)
 rwa [h] at this
end Go.Am
namespace Go.Am
open Go.Proofs
theorem Qf : ∀ (l out : List Int), (l.foldl z9y out).length ≤ out.length + l.length
 | [], out => Nat.le_refl _
 | x :: l, out => Nat.le_trans (Qf l (z9y out x)) (by have := z9x out x; simp; omega)
theorem z2y (l : List Int) : (z0a l).length ≤ l.length := by
 have := Qf l []
 simpa [z0a] using this
theorem y0w (cuts : List Int) (ins : List Bool) : ∀ (k i : Nat) (out : List R2), (x7n cuts ins k i out).length ≤ out.length + k
 | 0, _, out => Nat.le_refl _
 | k + 1, i, out => by
  unfold x7n
  refine Nat.le_trans (y0w cuts ins k (i + 1) _) ?_
  cases rd ins i
  ·simp only [cond_false]; omega
  ·simp only [cond_true]
   cases (decide (0 < out.length) && ((rd out (out.length - 1)).b == rd cuts i)) <;> simp <;> omega
theorem x1p (cuts : List Int) (ins : List Bool) : (z7k cuts ins).length ≤ cuts.length := by
 have := y0w cuts ins (cuts.length - 1) 0 []
 unfold z7k
 simp only [List.length_nil] at this
 omega
section
variable (kind : Int) (l m : List R4)
def w8h (x : Int) (y : Int) : Bool := Kt kind (has4V l x y) (has4V m x y)
def x2k (x : Int) : List R2 := z7k (ysV l m) ((ysV l m).map (w8h kind l m x))
def w3d (out : List R4) (first : Nat) (x : Int) : List R4 := out.take first ++ (out.drop first).map fun r => ⟨r.a, r.b, x, r.d⟩
def v4n (x x' : Int) (s : List R2) : List R4 := s.map fun p => ⟨x, p.a, x', p.b⟩
def jF : Nat → Nat → List R4 → List R2 → Nat → List R4
 | 0, _, out, _, _ => out
 | k + 1, i, out, last, first =>
  bif decide (0 < i) && Jg (x2k kind l m (rd (xsV l m) i)) last then jF k (i + 1) (w3d out first (rd (xsV l m) (i + 1))) last first
  else jF k (i + 1) (out ++ v4n (rd (xsV l m) i) (rd (xsV l m) (i + 1)) (x2k kind l m (rd (xsV l m) i))) (x2k kind l m (rd (xsV l m) i)) out.length
def joV : List R4 := jF kind l m ((xsV l m).length - 1) 0 [] [] 0
end
def Ks (_ : Int) (l m : List R4) : Bool := decide (l.length ≤ 10000 ∧ m.length ≤ 10000)
theorem Jy (l m : List R4) : (xsV l m).length ≤ 2 * l.length + 2 * m.length := by
 refine Nat.le_trans (z2y _) ?_
 rw [List.length_append, Kh, Kh]; omega
theorem y1w (l m : List R4) : (ysV l m).length ≤ 2 * l.length + 2 * m.length := by
 refine Nat.le_trans (z2y _) ?_
 rw [List.length_append, Kf, Kf]; omega
section
variable (kind : Int) (l m : List R4) (hl : l.length ≤ 10000) (hm : m.length ≤ 10000)
include hl hm
theorem w9y (out : List R4) (last : List R2) (first : Int) (i : Nat) (hi : i + 1 < (xsV l m).length) : ∀ (k j : Nat) (acc : List Bool), j + k = (ysV l m).length → acc.length = j →
  ∃ n, ∀ N, Yv (Wh kind l m) (N + n) (.to (.h1 out last first (i : Int) acc (j : Int))) = Yv (Wh kind l m) N (.to (.h1 out last first (i : Int) (acc ++ ((ysV l m).drop j).map (w8h kind l m (rd (xsV l m) i))) ((ysV l m).length : Int)))
 | 0, j, acc, h, ha => by
  refine ⟨0, fun N => ?_⟩
  rw [List.drop_eq_nil_of_le (by omega), List.map_nil, List.append_nil, Nat.add_zero]
  rw [show j = (ysV l m).length by omega]
 | k + 1, j, acc, h, ha => by
  have hx := Jy l m
  have hy := y1w l m
  obtain ⟨n, hn⟩ := w9y out last first i hi k (j + 1) (acc ++ [w8h kind l m (rd (xsV l m) i) (rd (ysV l m) j)]) (by omega) (by simp [ha])
  refine ⟨n + 1, fun N => ?_⟩
  have w1 : ∀ x y, Kw l x y = true := fun x y => decide_eq_true (by omega)
  have w2 : ∀ x y, Kw m x y = true := fun x y => decide_eq_true (by omega)
  rw [Yc (show j < (ysV l m).length by omega), List.map_cons, ← Nat.add_assoc, Zv]
  simp (disch := omega) only [Wh, Zb, Zk, w1, w2, Zo, Zt, Yz, Yu, Zf, Zj, Zw, Yp, Zq, Nat.zero_add, decide_true, Bool.and_true, Bool.true_and, cond_true]
  have := hn N
  rw [List.append_assoc] at this
  exact this
theorem w9x (last : List R2) (first : Int) (i : Nat) (hi : i + 1 < (xsV l m).length) (s : List R2) (hs : s.length ≤ 1000000) : ∀ (k j : Nat) (out : List R4), j + k = s.length → out.length ≤ 10000000000 + j →
  ∃ n, ∀ N, Yv (Wh kind l m) (N + n) (.to (.h2 out last first (i : Int) s (j : Int))) = Yv (Wh kind l m) N (.to (.h0 (out ++ v4n (rd (xsV l m) i) (rd (xsV l m) (i + 1)) (s.drop j)) last first ((i + 1 : Nat) : Int)))
 | 0, j, out, h, ho => by
  have hx := Jy l m
  refine ⟨1, fun N => ?_⟩
  rw [List.drop_eq_nil_of_le (by omega), Zv]
  simp (disch := omega) only [Wh, Zb, Zk, Zs, Zj, Zw, cond_false, v4n, List.map_nil, List.append_nil]
 | k + 1, j, out, h, ho => by
  have hx := Jy l m
  obtain ⟨n, hn⟩ := w9x last first i hi s hs k (j + 1) (out ++ v4n (rd (xsV l m) i) (rd (xsV l m) (i + 1)) [rd s j]) (by omega) (by simp [v4n]; omega)
  refine ⟨n + 1, fun N => ?_⟩
  have := hn N
  rw [Yc (show j < s.length by omega), ← Nat.add_assoc, Zv]
  simp (disch := omega) only [Wh, Zb, Zk, Zo, Zt, Yz, Yu, Zf, Zj, Zw, Yp, Zq, Nat.zero_add, decide_true, Bool.and_true, Bool.true_and, cond_true]
  rw [List.append_assoc] at this
  exact this
theorem w7d (out : List R4) (j : Nat) (x : Int) (h : j < out.length) : w3d (out.set j ⟨(rd out j).a, (rd out j).b, x, (rd out j).d⟩) (j + 1) x = w3d out j x := by
 have _uhl := hl
 have _uhm := hm
 unfold w3d
 rw [Yc h, List.map_cons]
 have e1 : (out.set j ⟨(rd out j).a, (rd out j).b, x, (rd out j).d⟩).take (j + 1) = out.take j ++ [⟨(rd out j).a, (rd out j).b, x, (rd out j).d⟩] := by
  apply List.ext_getElem
  ·simp; omega
  ·intro n h1 h2
   simp only [List.getElem_take, List.getElem_set]
   by_cases e : j = n
   ·subst e
    rw [if_pos rfl, List.getElem_append_right (by simp only [List.length_take]; omega)]
    simp
   ·rw [if_neg e, List.getElem_append_left (by simp at h1 ⊢; omega), List.getElem_take]
 have e2 : (out.set j ⟨(rd out j).a, (rd out j).b, x, (rd out j).d⟩).drop (j + 1) = out.drop (j + 1) := by
  rw [List.drop_set]; rw [if_pos (by omega)]
 rw [e1, e2, List.append_assoc]; rfl
theorem w9w (last : List R2) (first : Int) (i : Nat) (hi : i + 1 < (xsV l m).length) : ∀ (k j : Nat) (out : List R4), j + k = out.length → out.length ≤ 10000000000 →
  ∃ n, ∀ N, Yv (Wh kind l m) (N + n) (.to (.h3 out last first (i : Int) (j : Int))) = Yv (Wh kind l m) N (.to (.h0 (w3d out j (rd (xsV l m) (i + 1))) last first ((i + 1 : Nat) : Int)))
 | 0, j, out, h, ho => by
  have hx := Jy l m
  refine ⟨1, fun N => ?_⟩
  have e : w3d out j (rd (xsV l m) (i + 1)) = out := by
   unfold w3d; rw [List.drop_eq_nil_of_le (by omega), List.map_nil, List.append_nil, List.take_of_length_le (by omega)]
  rw [e, Zv]
  simp (disch := omega) only [Wh, Zb, Zk, Zs, Zj, Zw, cond_false]
 | k + 1, j, out, h, ho => by
  have hx := Jy l m
  obtain ⟨n, hn⟩ := w9w last first i hi k (j + 1) (out.set j ⟨(rd out j).a, (rd out j).b, rd (xsV l m) (i + 1), (rd out j).d⟩) (by simp; omega) (by simpa using ho)
  refine ⟨n + 1, fun N => ?_⟩
  have := hn N
  rw [w7d l m hl hm out j _ (by omega)] at this
  rw [← Nat.add_assoc, Zv]
  simp (disch := omega) only [Wh, Zb, Zk, Zo, Zt, Yw, Yz, Yu, Zf, Zj, Zw, Yp, Zq, Nat.zero_add, decide_true, Bool.and_true, Bool.true_and, cond_true]
  exact this
theorem x9c : ∀ (k i : Nat) (out : List R4) (last : List R2) (first : Nat), k = (xsV l m).length - 1 - i → i ≤ (xsV l m).length → out.length ≤ i * 40000 → last.length ≤ 40000 → first ≤ out.length →
  ∃ n, Yv (Wh kind l m) n (.to (.h0 out last (first : Int) (i : Int))) = .ret [.dat (jF kind l m k i out last first).length (Zz (jF kind l m k i out last first))]
 | 0, i, out, last, first, h, hi, ho, hla, hf => by
  have hx := Jy l m
  refine ⟨1, ?_⟩
  rw [Zv]
  simp (disch := omega) only [Wh, Zb, Zk, Zs, Zj, Zw, cond_false, Zm, jF]
 | k + 1, i, out, last, first, h, hi, ho, hla, hf => by
  have hx := Jy l m
  have hy := y1w l m
  have hi1 : i + 1 < (xsV l m).length := by omega
  have hsl : (x2k kind l m (rd (xsV l m) i)).length ≤ 40000 := Nat.le_trans (x1p _ _) (by omega)
  have hbig : i * 40000 ≤ 40000 * 40000 := Nat.mul_le_mul_right _ (by omega)
  obtain ⟨n1, h1⟩ := w9y kind l m hl hm out last first i hi1 (ysV l m).length 0 [] (Nat.zero_add _) rfl
  simp only [List.drop_zero, List.nil_append, Qn] at h1
  have w3 : z5h (ysV l m) ((ysV l m).map (w8h kind l m (rd (xsV l m) i))) = true := decide_eq_true ⟨by omega, by rw [List.length_map]; omega⟩
  have w4 : Wt (z7k (ysV l m) ((ysV l m).map (w8h kind l m (rd (xsV l m) i)))) last = true := decide_eq_true (Nat.le_trans hsl (by omega))
  have hy2 : ((ysV l m).length : Int) = (((ysV l m).length : Nat) : Int) := rfl
  unfold jF
  rcases Ya (decide (0 < i) && Jg (x2k kind l m (rd (xsV l m) i)) last) with q | q
  ·obtain ⟨n3, h3⟩ := w9w kind l m hl hm last first i hi1 (out.length - first) first out (by omega) (by omega)
   obtain ⟨n0, h0⟩ := x9c k (i + 1) (w3d out first (rd (xsV l m) (i + 1))) last first (by omega) (by omega) (by simp [w3d]; omega) hla (by simp [w3d]; omega)
   refine ⟨n0 + n3 + 1 + n1 + 1, ?_⟩
   rw [q, cond_true, Zv]
   simp only [Bool.and_eq_true, decide_eq_true_eq] at q
   have q2 : Jg (z7k (ysV l m) ((ysV l m).map (w8h kind l m (rd (xsV l m) i)))) last = true := q.2
   simp (disch := omega) only [Wh, Zb, Zk, Zo, Zj, Zw, cond_true]
   have h1' := h1 (n0 + n3 + 1)
   rw [h1', Zv]
   simp (disch := omega) only [Wh, Zb, Zk, Zs, Yi, q2, w3, w4, cond_true, cond_false]
   rw [h3 n0, h0]
  ·obtain ⟨n2, h2⟩ := w9x kind l m hl hm (x2k kind l m (rd (xsV l m) i)) (out.length : Int) i hi1 (x2k kind l m (rd (xsV l m) i)) (by omega) (x2k kind l m (rd (xsV l m) i)).length 0 out (Nat.zero_add _) (by omega)
   obtain ⟨n0, h0⟩ := x9c k (i + 1) (out ++ v4n (rd (xsV l m) i) (rd (xsV l m) (i + 1)) (x2k kind l m (rd (xsV l m) i))) (x2k kind l m (rd (xsV l m) i)) out.length (by omega) (by omega) (by simp [v4n]; omega) hsl (by simp)
   refine ⟨n0 + n2 + 1 + n1 + 1, ?_⟩
   rw [q, cond_false, Zv]
   simp (disch := omega) only [Wh, Zb, Zk, Zo, Zj, Zw, cond_true]
   have h1' := h1 (n0 + n2 + 1)
   rw [h1', Zv]
   have h2' := h2 n0
   simp only [List.drop_zero, Qn] at h2'
   by_cases hi0 : 0 < i
   ·rw [decide_eq_true hi0, Bool.true_and] at q
    have q2 : Jg (z7k (ysV l m) ((ysV l m).map (w8h kind l m (rd (xsV l m) i)))) last = false := q
    simp (disch := omega) only [Wh, Zb, Zk, Zs, Yi, q2, w3, w4, cond_true, cond_false]
    rw [← h0]; exact h2'
   ·simp (disch := omega) only [Wh, Zb, Zk, Zs, Xz, w3, w4, cond_true, cond_false]
    rw [← h0]; exact h2'
end
theorem v3z (kind : Int) (l m : List R4) (h : Ks kind l m = true) : ∃ N, Yv (Wh kind l m) N (z8e kind l m) = .ret [.dat (joV kind l m).length (Zz (joV kind l m))] := by
 obtain ⟨hl, hm⟩ := of_decide_eq_true h
 obtain ⟨N, hN⟩ := x9c kind l m hl hm ((xsV l m).length - 1) 0 [] [] 0 rfl (Nat.zero_le _) (Nat.zero_le _) (Nat.zero_le _) (Nat.le_refl _)
 refine ⟨N, ?_⟩
 have w1 : z7r l m = true := decide_eq_true ⟨hl, hm⟩
 have w2 : z7q l m = true := decide_eq_true ⟨hl, hm⟩
 simp only [z8e, Zb, Zk, w1, w2, cond_true]
 exact hN
end Go.Am
namespace Go.Am
open Go.Proofs.Tryz
open Go.Proofs
theorem v5w {P : Program} {S : Specs} (hS : Zu P S) {f : FuncId} {F : List AVal → Option (AVal × Bool)} (hf : (P.funcs[f]?).any (fun fn => fn.body.isSome) = true)
  (hF : ∀ args v, F args = some (v, true) → ∃ bs vs, We VLe args bs ∧ (∀ (ρ : Rho) (u : Value), VRel ρ (Kq vs) u → VRel ρ v u) ∧ Kz P (Zy P f) (Zn P f bs true []) vs ∧ ∃ d, pf d (Kq vs) = true) : Zu P (S.with f F) :=
 x4f hS hf fun args v h => by
  obtain ⟨bs, vs, h1, h2, h3, d, h4⟩ := hF args v h
  exact ⟨vs, h2, y7h h1 h3, d, h4⟩
theorem z6v {cs cs' : List AVal} (h : RLe cs cs') (ρ : Rho) (u : Value) (hv : VRel ρ (.tup cs) u) : VRel ρ (.tup cs') u := by
 cases hv with
 | tup _ vs hl hh => exact .tup cs' vs (by rw [← h.len]; exact hl) fun i h1 h2 => h.sound i (by rw [h.len]; exact h1) h1 (hh i (by rw [h.len]; exact h1) h2)
theorem z1k (α : Type) [Yo α] : VLe .nils (.dat ([] : List α).length (Zz ([] : List α))) := .nild _
def fJo : List AVal → Option (AVal × Bool)
 | [.int .i64 x0, a1, a2] => match asL R4 a1, asL R4 a2 with
  | some (L1, g1, n1), some (L2, g2, n2) => some (.dat (joV x0 L1 L2).length (Zz (joV x0 L1 L2)), isT R4 n1 g1 && (isT R4 n2 g2 && (Ks x0 L1 L2)))
  | _, _ => none
 | _ => none
theorem fJo_ok {S : Specs} (hS : Zu prog S) : Zu prog (S.with v0v fJo) := by
 refine z2g hS (by kernel_rfl) fun args v h => ?_
 unfold fJo at h
 split at h
 ·rename_i x0 a1 a2
  split at h
  ·rename_i L1 g1 n1 L2 g2 n2 e1 e2
   simp only [Option.some.injEq, Prod.mk.injEq, Bool.and_eq_true] at h
   obtain ⟨rfl, ho1, ho2, hw⟩ := h
   obtain ⟨N, hN⟩ := v3z x0 L1 L2 hw
   exact ⟨_, _, (.cons (.refl _) (.cons (asL_le e1 ho1) (.cons (asL_le e2 ho2) .nil))), rfl, w4h x0 L1 L2 N _ hN, 3, rfl⟩
  ·cases h
 ·cases h
def T3 : Specs := T2.with v0v fJo
theorem z6q : Zu prog T3 := fJo_ok z6r
end Go.Am
namespace Go.Am
open Go.Proofs Go.Sort
def bnd3 (r : R3) : Bool := decide (-1000000000 ≤ r.a ∧ r.a ≤ 1000000000)
def y5j (l : List R3) : Bool := l.all bnd3
abbrev E3 := { r : R3 // bnd3 r = true }
instance : Inhabited E3 := ⟨⟨⟨0, 0, 0⟩, rfl⟩⟩
def cf3 (x y : E3) : Int := x.1.a - y.1.a
def lt3 (x y : E3) : Bool := decide (cf3 x y < 0)
theorem swo3 : SWO lt3 where
 irrefl x := by unfold lt3 cf3; simp
 trans x y z h1 h2 := by unfold lt3 cf3 at *; simp at *; omega
 ntrans x y z h1 h2 := by unfold lt3 cf3 at *; simp at *; omega
def y5k : (l : List R3) → y5j l = true → List E3
 | [], _ => []
 | r :: l, h => ⟨r, by simp [y5j] at h; exact h.1⟩ :: y5k l (by simp [y5j] at h ⊢; exact h.2)
theorem z8v : ∀ (l : List R3) (h : y5j l = true), (y5k l h).map Subtype.val = l
 | [], _ => rfl
 | r :: l, h => by rw [y5k, List.map_cons, z8v l]
theorem Ju (l : List R3) (h : y5j l = true) : (y5k l h).length = l.length := by
 have := congrArg List.length (z8v l h)
 simpa using this
def z3n (l : List R3) : List R3 := if h : y5j l = true then (pdq lt3 (y5k l h).toArray 0 l.length (Lib.bitLen l.length) true true).toList.map Subtype.val else l
theorem Qp (l : List R3) (h : y5j l = true) : (z3n l).Perm l ∧ ∀ i j, i < j → j < (z3n l).length → (rd (z3n l) i).a ≤ (rd (z3n l) j).a := by
 have hp := pdq_sorts lt3 swo3 (y5k l h).toArray 0 l.length (Lib.bitLen l.length) true true (Nat.zero_le _) (by simp [Ju]) (Or.inl rfl)
 obtain ⟨⟨h1, h2, h3⟩, h4⟩ := hp
 have e : z3n l = (pdq lt3 (y5k l h).toArray 0 l.length (Lib.bitLen l.length) true true).toList.map Subtype.val := by unfold z3n; rw [dif_pos h]
 generalize pdq lt3 (y5k l h).toArray 0 l.length (Lib.bitLen l.length) true true = d at *
 have hs : d.size = l.length := by rw [h1]; simp [Ju]
 constructor
 ·rw [e]
  have x1 : (d.extract 0 l.length).toList = d.toList := by rw [← hs]; simp
  have x2 : ((y5k l h).toArray.extract 0 l.length).toList = y5k l h := by
   rw [show l.length = (y5k l h).toArray.size by simp [Ju]]; simp
  rw [x1, x2] at h3
  have := h3.map Subtype.val
  rw [z8v] at this
  exact this
 ·intro i j hij hj
  rw [e] at hj ⊢
  have hj' : j < d.size := by simpa using hj
  have := h4 i j (Nat.zero_le _) hij (by omega)
  rw [getElem!_pos d i (by omega), getElem!_pos d j hj'] at this
  rw [Xe (by simp; omega), Xe hj]
  simp only [List.getElem_map, Array.getElem_toList]
  unfold lt3 cf3 at this
  have := of_decide_eq_false this
  omega
end Go.Am
namespace Go.Am
open Go.Sort Go.RowKit Go.Proofs Go.Shelf
variable {P : Program} {ρ : Rho}
def valOf : AVal → Value
 | .int k n => .int k n
 | .bool b => .bool b
 | _ => .tuple #[]
def x0h : AVal → Bool
 | .int _ _ => true
 | .bool _ => true
 | _ => false
theorem x7s {a : AVal} (h : x0h a = true) : VRel ρ a (valOf a) := by
 cases a <;> first
  | exact .int _ _
  | exact .bool _
  | (simp [x0h] at h; done)
theorem x9i {a : AVal} {v : Value} (h : x0h a = true) (hv : VRel ρ a v) : v = valOf a := by
 cases hv <;> first
  | rfl
  | (simp [x0h] at h; done)
class v2m (α : Type) extends Yo α where
 num : ∀ a : α, (cells a).all x0h = true
instance : v2m R2 where num _ := rfl
instance : v2m R3 where num _ := rfl
instance : v2m R4 where num _ := rfl
instance : v2m R6 where num _ := rfl
instance {α : Type} [Yo α] : Inhabited α := ⟨Yo.d⟩
section
variable {α : Type} [v2m α]
def y2v (a : α) : List Value := (Yo.cells a).map valOf
theorem y0p (a : α) : (y2v a).length = Yo.w α := by rw [y2v, List.length_map, Yo.len]
theorem x3u (L : List α) (t : Nat) (h : t < L.length * Yo.w α) : (flatK y2v (Yo.w α) L.toArray)[t]? = (Yo.cells (rd L (t / Yo.w α)))[t % Yo.w α]?.map valOf := by
 have hw := Yo.pos (α := α)
 have hq : t / Yo.w α < L.length := Nat.div_lt_of_lt_mul (by rw [Nat.mul_comm]; exact h)
 have hj : t % Yo.w α < Yo.w α := Nat.mod_lt _ hw
 have hs : t < (flatK y2v (Yo.w α) L.toArray).size := by rw [size_flatK]; exact h
 rw [Array.getElem?_eq_getElem hs, ← getElem!_pos (flatK y2v (Yo.w α) L.toArray) t hs, get_flatK y2v (Yo.w α) L.toArray t (by simpa using h)]
 have e1 : L.toArray[t / Yo.w α]! = rd L (t / Yo.w α) := by
  rw [Xe hq, getElem!_pos L.toArray _ (by simpa using hq)]; simp
 rw [e1]
 have hl : t % Yo.w α < (y2v (rd L (t / Yo.w α))).length := by rw [y0p]; exact hj
 have hl2 : t % Yo.w α < (Yo.cells (rd L (t / Yo.w α))).length := by rw [Yo.len]; exact hj
 rw [getElem!_pos (y2v (rd L (t / Yo.w α))) _ hl, List.getElem?_eq_getElem hl2]
 simp [y2v]
theorem x8x (L : List α) (N t : Nat) (h : t < N * Yo.w α) : (rows N (Zz L))[t]? = (Yo.cells (rd L (t / Yo.w α)))[t % Yo.w α]? := by
 have hw := Yo.pos (α := α)
 have := Wp (get := Zz L) (sz := Yo.w α) N (fun _ _ => Yo.len _) (t / Yo.w α) (t % Yo.w α) (Nat.div_lt_of_lt_mul (by rw [Nat.mul_comm]; exact h)) (Nat.mod_lt _ hw)
 rw [show t / Yo.w α * Yo.w α + t % Yo.w α = t by rw [Nat.mul_comm]; exact Nat.div_add_mod t _] at this
 exact this
theorem Qm (L : List α) (N : Nat) : (rows N (Zz L)).length = N * Yo.w α := Yy N fun _ _ => Yo.len _
theorem y0b (w : World) (n blk off : Nat) (d : Array Value) (os : Array Obj) (k : Nat) (hk : k < w.heap.size) :
  (grow (putRow id (Go.Sort.ahead w n) blk off d) os).heap[k]? = if k = blk then (w.heap[k]?).map (onCells (putCells id off d)) else w.heap[k]? := by
 show (((Go.Sort.ahead w n).heap.modify blk (onCells (putCells id off d))) ++ os)[k]? = _
 rw [Array.getElem?_append_left (by simp; exact hk), Array.getElem?_modify]
 show (if blk = k then _ else _) = _
 by_cases h : k = blk
 ·rw [if_pos h.symm, if_pos h]; rfl
 ·rw [if_neg (fun e => h e.symm), if_neg h]; rfl
def x3v (α : Type) [Yo α] (srt : List α → List α) (bnd : List α → Bool) (g : FuncId) (args : List AVal) (mem : Mem) : Option (AVal × Nat × ABlk × Bool) := match args with
 | [.sla b sz off n cap, .fn f []] => bif Nat.beq f g then match Yf mem b with
  | some ⟨_, ty, some A⟩ => some (.tup [], b, ⟨rows A.n (Zz (srt (lst α n A.get))), ty, some ⟨Yo.w α, A.n, Zz (srt (lst α n A.get))⟩⟩,
    Nat.beq sz (Yo.w α) && (Nat.beq A.sz (Yo.w α) && (Nat.beq off 0 && ((decide (n = A.n) && (isT α n A.get && decide (n < 4611686018427387904))) && bnd (lst α n A.get)))))
  | _ => none
  else none
 | _ => none
theorem w1x {f g : FuncId} {srt : List α → List α} {bnd : List α → Bool} (hsl : ∀ L, (srt L).length = L.length)
  (hC : ∀ (blk off cap : Nat) (L : List α) (w : World), bnd L = true → HoldsK y2v (Yo.w α) w blk off L.toArray → blk < w.heap.size → L.length < 4611686018427387904 →
   Calls P f #[.slice (some ⟨blk, off, none⟩) L.length cap, .func (.func g) #[] #[]] w fun e w' => e = .returned (.tuple #[]) ∧ ∃ n os, w' = sortWorldK y2v (Yo.w α) w blk off n (srt L).toArray os)
  (hN : ∀ (p : Option Addr) (cap : Nat) (fv : Value) (w : World), Calls P f #[.slice p 0 cap, fv] w fun e w' => e = .returned (.tuple #[]) ∧ w' = w) : y8b P f (x3v α srt bnd g) := by
 intro args mem v b blk h fZ ρ next floor vals w hfl eC dZ
 have hw0 := Yo.pos (α := α)
 unfold x3v at h
 split at h
 ·rename_i b0 sz off n cap f0
  obtain ⟨hfg, h'⟩ := Js h
  clear h
  obtain rfl := Nat.eq_of_beq_eq_true hfg
  have h := h'
  clear h'
  split at h
  ·rename_i cells ty A hm
   obtain ⟨asz, an, get⟩ := A
   simp only [Option.some.injEq, Prod.mk.injEq, Bool.and_eq_true] at h
   obtain ⟨rfl, rfl, rfl, h1, h2, h3, ⟨h4, h5, h6⟩, h7⟩ := h
   have g1 := Nat.eq_of_beq_eq_true h1
   have g2 := Nat.eq_of_beq_eq_true h2
   have g3 := Nat.eq_of_beq_eq_true h3
   have g4 : n = an := of_decide_eq_true h4
   have h6 : n < 4611686018427387904 := of_decide_eq_true h6
   have g2 : asz = Yo.w α := g2
   subst g1
   subst g2
   subst g3
   subst g4
   have h7 : bnd (lst α n get.get) = true := h7
   have eI := x3o h5
   have eI : ∀ i, i < n → get.get i = Zz (lst α n get.get) i := eI
   have hrows : rows n get.get = rows n (Zz (lst α n get.get)) := z1v n eI
   obtain ⟨u, hu, hvals⟩ : ∃ u, VRel ρ (.sla b0 (Yo.w α) 0 n cap) u ∧ vals = #[u, .func (.func f0) #[] #[]] := by
    obtain ⟨vl⟩ := vals
    cases eC with
    | cons q1 q2 => cases q2 with
     | cons q3 q4 =>
      cases q4
      cases q3 with
      | fn _ _ cvs hl _ =>
       have : cvs = #[] := Array.eq_empty_of_size_eq_zero (by simpa using hl.symm)
       subst this
       exact ⟨_, q1, rfl⟩
   subst hvals
   have hlt : b0 < next := by
    rcases Nat.lt_or_ge b0 next with q | q
    ·exact q
    ·have := dZ.bd b0 q; rw [hm] at this; cases this
   show Calls P f _ w _
   have hAget : (Arr.get ⟨Yo.w α, n, get⟩) = get.get := rfl
   rw [hAget] at *
   generalize hI : lst α n get.get = I at *
   have hIl : I.length = n := by rw [← hI]; exact z5w _ _
   generalize hL : srt I = L
   have hLl : L.length = n := by rw [← hL, hsl, hIl]
   have hnn : ρ b0 = none → ∀ cs ty', Yf mem b0 ≠ some ⟨cs, ty', none⟩ := fun _ cs ty' e => by rw [hm] at e; cases e
   cases hu with
   | sla _ _ _ _ _ l cc e hc eA =>
    have hbk := dZ.blk b0 l _ e hm
    obtain ⟨har, _, _⟩ := hbk.arr _ rfl
    have har : cells = rows n get.get := har
    rw [hrows] at har
    subst har
    obtain ⟨cur, el, hh, hsz, eE⟩ := hbk.cells
    simp only [Qm] at eE
    have htot := hbk.tot
    have hln := hbk.n
    simp only [Qm] at hln
    have eZ : ∀ t, t < n * Yo.w α → cur[l.base + t]? = (Yo.cells (rd I (t / Yo.w α)))[t % Yo.w α]?.map valOf := fun t ht => by
     obtain ⟨v, e1, e2⟩ := eE t ht
     have hj : t % Yo.w α < Yo.w α := Nat.mod_lt _ hw0
     have hl2 : t % Yo.w α < (Yo.cells (rd I (t / Yo.w α))).length := by rw [Yo.len]; exact hj
     have e3 := x8x I n t ht
     rw [List.getElem?_eq_getElem (by rw [Qm]; exact ht), List.getElem?_eq_getElem hl2] at e3
     rw [Option.some.inj e3] at e2
     rw [e1, List.getElem?_eq_getElem hl2, Option.map_some, x9i (List.all_eq_true.1 (v2m.num _) _ (List.getElem_mem hl2)) e2]
    have fK := dZ.real b0 l e
    have hH : HoldsK y2v (Yo.w α) w l.blk (l.base + 0 * Yo.w α) I.toArray := fun j hj => by
     have hj : j < n * Yo.w α := by simpa [hIl] using hj
     have hs : j < (flatK y2v (Yo.w α) I.toArray).size := by simpa [hIl] using hj
     have e1 := x3u I j (by rw [hIl]; exact hj)
     rw [Array.getElem?_eq_getElem hs] at e1
     refine ⟨?_, ?_⟩
     ·simp only [World.cell?, hh, Nat.zero_mul, Nat.add_zero, id]
      rw [eZ j hj, ← e1, getElem!_pos (flatK y2v (Yo.w α) I.toArray) j hs]
      simp
     ·simp [World.frozen?, hh]
    have eP := hC l.blk (l.base + 0 * Yo.w α) cc I w h7 hH fK (by omega)
    rw [hIl, hL] at eP
    refine eP.mono fun e' w' ⟨he, q, os, hw'⟩ => ⟨_, he, ?_, ?_, ?_⟩
    ·exact .tup [] #[] rfl fun i h1 h2 => absurd h1 (Nat.not_lt_zero _)
    ·subst hw'
     refine Rel.setArr ?_ ⟨Yo.w α, n, .flat (Zz L)⟩ rfl hw0 fun _ _ => Yo.len _
     refine Rel.rewritten dZ e hm (by simp only [Qm]) (fun k hk hne => ?_) ?_ ?_
     ·exact (y0b _ _ _ _ _ _ _ hk).trans (if_neg hne)
     ·show _ ≤ (((Go.Sort.ahead w q).heap.modify _ _) ++ os).size
      simp only [Array.size_append, Array.size_modify]
      exact Nat.le_add_right _ _
     ·refine ⟨putCells id (l.base + 0 * Yo.w α) (flatK y2v (Yo.w α) L.toArray) cur, el, ?_, ?_, fun i hi => ?_⟩
      ·refine (y0b _ _ _ _ _ _ _ fK).trans ?_
       rw [if_pos rfl, hh]; rfl
      ·simp only [putCells, Array.size_mapIdx]; exact hsz
      ·rw [Qm] at hi
       have hj : i % Yo.w α < Yo.w α := Nat.mod_lt _ hw0
       have hl2 : i % Yo.w α < (Yo.cells (rd L (i / Yo.w α))).length := by rw [Yo.len]; exact hj
       have hl3 : i % Yo.w α < (Yo.cells (rd I (i / Yo.w α))).length := by rw [Yo.len]; exact hj
       have e1 := x3u L i (by rw [hLl]; exact hi)
       rw [List.getElem?_eq_getElem hl2, Option.map_some] at e1
       have hs : i < (flatK y2v (Yo.w α) L.toArray).size := by simpa [hLl] using hi
       rw [Array.getElem?_eq_getElem hs] at e1
       have e3 := x8x L n i hi
       rw [List.getElem?_eq_getElem (by rw [Qm]; exact hi), List.getElem?_eq_getElem hl2] at e3
       refine ⟨valOf (Yo.cells (rd L (i / Yo.w α)))[i % Yo.w α], ?_, ?_⟩
       ·have hc0 := eZ i hi
        rw [List.getElem?_eq_getElem hl3, Option.map_some] at hc0
        simp only [putCells, Array.getElem?_mapIdx, hc0, Option.map_some, Nat.zero_mul, Nat.add_zero]
        rw [if_pos ⟨by omega, by omega⟩]
        congr 1
        rw [show l.base + i - l.base = i by omega, id, getElem!_pos (flatK y2v (Yo.w α) L.toArray) i hs]
        exact Option.some.inj e1
       ·rw [Option.some.inj e3]
        exact x7s (List.all_eq_true.1 (v2m.num _) _ (List.getElem_mem hl2))
    ·subst hw'
     refine Ev.rewritten dZ _ (fun l' _ => hfl) hnn (fun k hk hne => ?_) ?_ rfl rfl rfl
     ·exact (y0b _ _ _ _ _ _ _ hk).trans (if_neg (hne l e))
     ·show _ ≤ (((Go.Sort.ahead w q).heap.modify _ _) ++ os).size
      simp only [Array.size_append, Array.size_modify]
      exact Nat.le_add_right _ _
   | slan =>
    have hI0 : I = [] := List.eq_nil_of_length_eq_zero hIl
    have hL0 : L = [] := List.eq_nil_of_length_eq_zero hLl
    refine (hN none 0 _ w).mono fun e' w' ⟨he, hw'⟩ => ⟨_, he, ?_, ?_, ?_⟩
    ·exact .tup [] #[] rfl fun i h1 h2 => absurd h1 (Nat.not_lt_zero _)
    ·subst hw'
     refine dZ.reblk hm fun l hρ hbk => ?_
     obtain ⟨har, fW, _⟩ := hbk.arr _ rfl
     have har : cells = rows 0 get.get := har
     subst har
     exact ⟨hbk.n, hbk.tot, fun B hB => by obtain rfl := Option.some.inj hB; exact ⟨rfl, hw0, fun i hi => absurd hi (Nat.not_lt_zero _)⟩, hbk.cells⟩
    ·subst hw'
     exact Ev.rewritten dZ _ (fun l' _ => hfl) hnn (fun _ _ _ => rfl) (Nat.le_refl _) rfl rfl rfl
  ·cases h
 ·cases h
end
def Specs.withE (S : Specs) (f : FuncId) (F : List AVal → Mem → Option (AVal × Nat × ABlk × Bool)) : Specs := fun g => bif Nat.beq g f then some (.eff F) else S g
theorem y3d {P : Program} {S : Specs} (hS : Zu P S) {f : FuncId} {F : List AVal → Mem → Option (AVal × Nat × ABlk × Bool)} (hf : (P.funcs[f]?).any (fun fn => fn.body.isSome) = true) (hF : y8b P f F) : Zu P (S.withE f F) := by
 intro g G hg
 unfold Specs.withE at hg
 cases hgf : Nat.beq g f with
 | false => rw [hgf] at hg; exact hS g G hg
 | true =>
  rw [hgf] at hg
  obtain rfl : Spec.eff F = G := Option.some.inj hg
  obtain rfl : g = f := Nat.eq_of_beq_eq_true hgf
  refine ⟨?_, hF⟩
  cases hfn : P.funcs[g]? with
  | none => rw [hfn] at hf; cases hf
  | some fn => rw [hfn] at hf; exact ⟨fn, rfl, hf⟩
end Go.Am
namespace Go.Proofs
open Go.Proofs.Tryz
open Go.Shelf
def Tryz.lays189_ren : Go.Shelf.Ren := ⟨fun | 189 => 119 | 125 => 142 | 257 => 141 | 128 => 164 | 129 => 165 | 294 => 155 | 295 => 156 | 296 => 157 | 297 => 158 | 298 => 159 | 299 => 160 | 216 => 161 | 300 => 162 | 301 => 163 | 328 => 175 | 329 => 176 | 330 => 177 | 331 => 178 | 332 => 179 | 215 => 180 | 343 => 190 | n => n, fun | 28 => 47 | 3 => 3 | 46 => 165 | 0 => 0 | 51 => 213 | 53 => 215 | 4 => 4 | 183 => 205 | 182 => 204 | 131 => 210 | 5 => 5 | 9 => 9 | 218 => 227 | 222 => 231 | 228 => 242 | 229 => 27 | n => n, fun | n => n⟩
theorem Tryz.lays189 : Go.Proofs.Lays.n189 prog Tryz.lays189_ren := {
 mixed := by kernel_rfl
 f125 := Tryz.func142.trans (congrArg some (by kernel_rfl))
 f128 := Tryz.func164.trans (congrArg some (by kernel_rfl))
 f129 := Tryz.func165.trans (congrArg some (by kernel_rfl))
 f189 := Tryz.func119.trans (congrArg some (by kernel_rfl))
 f215 := Tryz.func180.trans (congrArg some (by kernel_rfl))
 f216 := Tryz.func161.trans (congrArg some (by kernel_rfl))
 f257 := Tryz.func141.trans (congrArg some (by kernel_rfl))
 f294 := Tryz.func155.trans (congrArg some (by kernel_rfl))
 f295 := Tryz.func156.trans (congrArg some (by kernel_rfl))
 f296 := Tryz.func157.trans (congrArg some (by kernel_rfl))
 f297 := Tryz.func158.trans (congrArg some (by kernel_rfl))
 f298 := Tryz.func159.trans (congrArg some (by kernel_rfl))
 f299 := Tryz.func160.trans (congrArg some (by kernel_rfl))
 f300 := Tryz.func162.trans (congrArg some (by kernel_rfl))
 f301 := Tryz.func163.trans (congrArg some (by kernel_rfl))
 f328 := Tryz.func175.trans (congrArg some (by kernel_rfl))
 f329 := Tryz.func176.trans (congrArg some (by kernel_rfl))
 f330 := Tryz.func177.trans (congrArg some (by kernel_rfl))
 f331 := Tryz.func178.trans (congrArg some (by kernel_rfl))
 f332 := Tryz.func179.trans (congrArg some (by kernel_rfl))
 f343 := Tryz.func190.trans (congrArg some (by kernel_rfl))
 t0 := Tryz.underlying0
 a0 := Tryz.isAgg0
 z0 := Tryz.sizeOf0
 v0 := Tryz.zeroValue0
 t3 := Tryz.underlying3
 a3 := Tryz.isAgg3
 z3 := Tryz.sizeOf3
 v3 := Tryz.zeroValue3
 t4 := Tryz.underlying4
 a4 := Tryz.isAgg4
 z4 := Tryz.sizeOf4
 v4 := Tryz.zeroValue4
 t5 := Tryz.underlying5
 a5 := Tryz.isAgg5
 z5 := Tryz.sizeOf5
 v5 := Tryz.zeroValue5
 t9 := Tryz.underlying9
 a9 := Tryz.isAgg9
 z9 := Tryz.sizeOf9
 v9 := Tryz.zeroValue9
 t28 := Tryz.underlying47
 a28 := Tryz.isAgg47
 z28 := Tryz.sizeOf47
 v28 := Tryz.zeroValue47
 t46 := Tryz.underlying165
 a46 := Tryz.isAgg165
 z46 := Tryz.sizeOf165
 v46 := Tryz.zeroValue165
 t51 := Tryz.underlying213
 a51 := Tryz.isAgg213
 z51 := Tryz.sizeOf213
 v51 := Tryz.zeroValue213
 t53 := Tryz.underlying215
 a53 := Tryz.isAgg215
 z53 := Tryz.sizeOf215
 v53 := Tryz.zeroValue215
 t131 := Tryz.underlying210
 a131 := Tryz.isAgg210
 z131 := Tryz.sizeOf210
 v131 := Tryz.zeroValue210
 t182 := Tryz.underlying204
 a182 := Tryz.isAgg204
 z182 := Tryz.sizeOf204
 v182 := Tryz.zeroValue204
 t183 := Tryz.underlying205
 a183 := Tryz.isAgg205
 z183 := Tryz.sizeOf205
 v183 := Tryz.zeroValue205
 t218 := Tryz.underlying227
 a218 := Tryz.isAgg227
 z218 := Tryz.sizeOf227
 v218 := Tryz.zeroValue227
 t222 := Tryz.underlying231
 a222 := Tryz.isAgg231
 z222 := Tryz.sizeOf231
 v222 := Tryz.zeroValue231
 t228 := Tryz.underlying242
 a228 := Tryz.isAgg242
 z228 := Tryz.sizeOf242
 v228 := Tryz.zeroValue242
 t229 := Tryz.underlying27
 a229 := Tryz.isAgg27
 z229 := Tryz.sizeOf27
 v229 := Tryz.zeroValue27 }
open Go.Sort Go.RowKit in
theorem Tryz.slices_Sort_int (blk off cap : Nat) (zs : List Int) (w : World) (hH : Holds (Value.int .i64) w blk off zs.toArray) (fK : blk < w.heap.size) (hsz : zs.length < 4611686018427387904) :
  Calls prog 119 #[.slice (some ⟨blk, off, none⟩) zs.length cap] w fun e w' =>
   e = .returned (.tuple #[]) ∧ ∃ n os, w' = grow (putRow (Value.int .i64) (Sort.ahead w n) blk off (zs.mergeSort fun x y => decide (x ≤ y)).toArray) os := Any.slices_Sort_int Tryz.lays189 blk off cap zs w hH fK hsz
def Tryz.laysNm220_ren : Go.Shelf.Ren := ⟨fun | 20 => 120 | n => n, fun | 22 => 47 | 3 => 3 | 4 => 4 | 0 => 0 | n => n, fun | n => n⟩
theorem Tryz.laysNm220 : Go.Proofs.Lays2.n20 prog Tryz.laysNm220_ren := {
 mixed := by kernel_rfl
 f20 := Tryz.func120.trans (congrArg some (by kernel_rfl))
 t0 := Tryz.underlying0
 a0 := Tryz.isAgg0
 z0 := Tryz.sizeOf0
 v0 := Tryz.zeroValue0
 t3 := Tryz.underlying3
 a3 := Tryz.isAgg3
 z3 := Tryz.sizeOf3
 v3 := Tryz.zeroValue3
 t4 := Tryz.underlying4
 a4 := Tryz.isAgg4
 z4 := Tryz.sizeOf4
 v4 := Tryz.zeroValue4
 t22 := Tryz.underlying47
 a22 := Tryz.isAgg47
 z22 := Tryz.sizeOf47
 v22 := Tryz.zeroValue47
 i3 := by kernel_rfl }
open Go.RowKit Go.Lib Go.Sort in
theorem Tryz.slices_Compact_int (blk off cap : Nat) (zs : List Int) (w : World) (hH : Holds (Value.int .i64) w blk off zs.toArray) (hsz : zs.length ≤ 9223372036854775807) (eG : zs.length ≤ cap) :
  Calls prog 120 #[.slice (some ⟨blk, off, none⟩) zs.length cap] w fun e w' => e = .returned (.slice (some ⟨blk, off, none⟩) (Lib.compact zs).length cap) ∧ ∃ q, w' = putRow (Value.int .i64) (Sort.ahead w q) blk off (Lib.compact zs ++ List.replicate (zs.length - (Lib.compact zs).length) 0).toArray := Any.slices_Compact_int Tryz.laysNm220 blk off cap zs w hH hsz eG
open Go.RowKit Go.Lib Go.Sort in
theorem Tryz.slices_Compact_int_empty (a : Option Addr) (cap : Nat) (w : World) :
  Calls prog 120 #[.slice a 0 cap] w fun e w' => e = .returned (.slice a 0 cap) ∧ w' = w := Any.slices_Compact_int_empty Tryz.laysNm220 a cap w
open Go.RowKit Go.Sort in
theorem Tryz.slices_Sort_int_none (p : Option Addr) (cap : Nat) (w : World) :
  Calls prog 119 #[.slice p 0 cap] w fun e w' => e = .returned (.tuple #[]) ∧ w' = w := Any.slices_Sort_int_none Tryz.lays189 p cap w
def Tryz.sortEnd_ren : Go.Shelf.Ren := ⟨fun | 6 => 192 | 15 => 142 | 14 => 196 | 28 => 164 | 29 => 165 | 20 => 198 | 21 => 199 | 22 => 200 | 23 => 201 | 24 => 202 | 25 => 203 | 26 => 204 | 27 => 205 | 46 => 206 | 47 => 176 | 48 => 177 | 49 => 207 | 50 => 208 | 57 => 209 | n => n, fun | 22 => 245 | 24 => 240 | 25 => 247 | 3 => 3 | 39 => 165 | 0 => 0 | 53 => 213 | 55 => 215 | 4 => 4 | 46 => 205 | 45 => 204 | 50 => 210 | 5 => 5 | 9 => 9 | 66 => 227 | 70 => 231 | 76 => 242 | 77 => 27 | n => n, fun | n => n⟩
theorem Tryz.sortEnd : Go.Proofs.SlLaysF0.n6 prog Tryz.sortEnd_ren := {
 mixed := by kernel_rfl
 f6 := ⟨Tryz.f192.name, by decide, Tryz.func192.trans (congrArg some (by kernel_rfl))⟩
 f14 := ⟨Tryz.f196.name, by decide, Tryz.func196.trans (congrArg some (by kernel_rfl))⟩
 f15 := Tryz.func142.trans (congrArg some (by kernel_rfl))
 f20 := ⟨Tryz.f198.name, by decide, Tryz.func198.trans (congrArg some (by kernel_rfl))⟩
 f21 := ⟨Tryz.f199.name, by decide, Tryz.func199.trans (congrArg some (by kernel_rfl))⟩
 f22 := ⟨Tryz.f200.name, by decide, Tryz.func200.trans (congrArg some (by kernel_rfl))⟩
 f23 := ⟨Tryz.f201.name, by decide, Tryz.func201.trans (congrArg some (by kernel_rfl))⟩
 f24 := ⟨Tryz.f202.name, by decide, Tryz.func202.trans (congrArg some (by kernel_rfl))⟩
 f25 := ⟨Tryz.f203.name, by decide, Tryz.func203.trans (congrArg some (by kernel_rfl))⟩
 f26 := ⟨Tryz.f204.name, by decide, Tryz.func204.trans (congrArg some (by kernel_rfl))⟩
 f27 := ⟨Tryz.f205.name, by decide, Tryz.func205.trans (congrArg some (by kernel_rfl))⟩
 f28 := Tryz.func164.trans (congrArg some (by kernel_rfl))
 f29 := Tryz.func165.trans (congrArg some (by kernel_rfl))
 f46 := ⟨Tryz.f206.name, by decide, Tryz.func206.trans (congrArg some (by kernel_rfl))⟩
 f47 := Tryz.func176.trans (congrArg some (by kernel_rfl))
 f48 := Tryz.func177.trans (congrArg some (by kernel_rfl))
 f49 := ⟨Tryz.f207.name, by decide, Tryz.func207.trans (congrArg some (by kernel_rfl))⟩
 f50 := ⟨Tryz.f208.name, by decide, Tryz.func208.trans (congrArg some (by kernel_rfl))⟩
 f57 := ⟨Tryz.f209.name, by decide, Tryz.func209.trans (congrArg some (by kernel_rfl))⟩
 t0 := Tryz.underlying0
 a0 := Tryz.isAgg0
 z0 := Tryz.sizeOf0
 v0 := Tryz.zeroValue0
 t3 := Tryz.underlying3
 a3 := Tryz.isAgg3
 z3 := Tryz.sizeOf3
 v3 := Tryz.zeroValue3
 t4 := Tryz.underlying4
 a4 := Tryz.isAgg4
 z4 := Tryz.sizeOf4
 v4 := Tryz.zeroValue4
 t5 := Tryz.underlying5
 a5 := Tryz.isAgg5
 z5 := Tryz.sizeOf5
 v5 := Tryz.zeroValue5
 t9 := Tryz.underlying9
 a9 := Tryz.isAgg9
 z9 := Tryz.sizeOf9
 v9 := Tryz.zeroValue9
 t22 := Tryz.underlying245
 a22 := Tryz.isAgg245
 z22 := Tryz.sizeOf245
 v22 := Tryz.zeroValue245
 t25 := Tryz.underlying247
 a25 := Tryz.isAgg247
 z25 := Tryz.sizeOf247
 v25 := Tryz.zeroValue247
 t39 := Tryz.underlying165
 a39 := Tryz.isAgg165
 z39 := Tryz.sizeOf165
 v39 := Tryz.zeroValue165
 t45 := Tryz.underlying204
 a45 := Tryz.isAgg204
 z45 := Tryz.sizeOf204
 v45 := Tryz.zeroValue204
 t46 := Tryz.underlying205
 a46 := Tryz.isAgg205
 z46 := Tryz.sizeOf205
 v46 := Tryz.zeroValue205
 t50 := Tryz.underlying210
 a50 := Tryz.isAgg210
 z50 := Tryz.sizeOf210
 v50 := Tryz.zeroValue210
 t53 := Tryz.underlying213
 a53 := Tryz.isAgg213
 z53 := Tryz.sizeOf213
 v53 := Tryz.zeroValue213
 t55 := Tryz.underlying215
 a55 := Tryz.isAgg215
 z55 := Tryz.sizeOf215
 v55 := Tryz.zeroValue215
 t66 := Tryz.underlying227
 a66 := Tryz.isAgg227
 z66 := Tryz.sizeOf227
 v66 := Tryz.zeroValue227
 t70 := Tryz.underlying231
 a70 := Tryz.isAgg231
 z70 := Tryz.sizeOf231
 v70 := Tryz.zeroValue231
 t76 := Tryz.underlying242
 a76 := Tryz.isAgg242
 z76 := Tryz.sizeOf242
 v76 := Tryz.zeroValue242
 t77 := Tryz.underlying27
 a77 := Tryz.isAgg27
 z77 := Tryz.sizeOf27
 v77 := Tryz.zeroValue27 }
end Go.Proofs
namespace Go.Proofs
open Go.Proofs.Tryz
open Go.Shelf Go.RowKit Go.Lib Go.Sort
theorem Tryz.cmpEnd (a b c a' b' c' : Int) (h : -1000000000 ≤ a ∧ a ≤ 1000000000) (h' : -1000000000 ≤ a' ∧ a' ≤ 1000000000) (W : World) :
  Calls prog 193 #[.agg #[.int .i64 a, .int .i64 b, .int .i64 c], .agg #[.int .i64 a', .int .i64 b', .int .i64 c']] W fun e w' => e = .returned (.int .i64 (a - a')) ∧ ∃ q os', w' = grow (W.drewN q) os' := by
 go_enter Tryz.func193, Tryz.ntmps193
 go_wp2
 go_ret
 exact ⟨rfl, 0, _, by rw [alloc_eq_grow, alloc_eq_grow, grow_grow]; rfl⟩
end Go.Proofs
namespace Go.Am
open Go.Proofs.Tryz
open Go.Proofs
inductive rjsS where
 | h0 (v9 : List R6) (v10 : List R4) (v11 : Int) (v12 : Int)
 | h1 (v9 : List R6) (v10 : List R4) (v11 : Int) (v12 : Int) (v13 : List R4) (v15 : Int)
 | h2 (v9 : List R6) (v10 : List R4) (v11 : Int) (v12 : Int) (v14 : Int)
def rjsC (x0 : Int) (l1 : List R6) (l2 : List R6) : rjsS → Cfg
 | .h0 v9 v10 v11 v12 => ⟨⟨137, 0, true⟩, none, (Za prog 79 [1, 1, 1, 1, 1, 0, 1, 0, 0] 0), none, (Zy prog 23), ⟨Yk [(0, (ii x0)), (1, (.dat l1.length (Zz l1))), (2, (.dat l2.length (Zz l2))), (8, (.dat (Yh (cvT l1) (cvT l2)).length (Zz (Yh (cvT l1) (cvT l2))))), (9, (.sla 0 6 0 v9.length (.un 6))), (10, (.dat v10.length (Zz v10))), (11, (ii v11)), (12, (ii v12))], Vn [⟨rows v9.length (Zz v9), 68, some ⟨6, v9.length, (Zz v9)⟩⟩] 0, 1, [], true⟩, [], .leaf⟩
 | .h1 v9 v10 v11 v12 v13 v15 => ⟨⟨137, 0, true⟩, none, (Za prog 79 [1, 1, 1, 1, 1, 0, 1, 0, 0, 1, 0, 0, 1, 1, 1, 1, 1, 0, 0] 0), none, (Zy prog 23), ⟨Yk [(0, (ii x0)), (1, (.dat l1.length (Zz l1))), (2, (.dat l2.length (Zz l2))), (8, (.dat (Yh (cvT l1) (cvT l2)).length (Zz (Yh (cvT l1) (cvT l2))))), (9, (.sla 0 6 0 v9.length (.un 6))), (10, (.dat v10.length (Zz v10))), (11, (ii v11)), (12, (ii v12)), (13, (.dat v13.length (Zz v13))), (15, (ii v15))], Vn [⟨rows v9.length (Zz v9), 68, some ⟨6, v9.length, (Zz v9)⟩⟩] 0, 1, [], true⟩, [], .leaf⟩
 | .h2 v9 v10 v11 v12 v14 => ⟨⟨137, 0, true⟩, none, (Za prog 79 [1, 1, 1, 1, 1, 0, 1, 0, 0, 1, 0, 0, 1, 1, 0, 1, 0, 0, 1, 0, 0] 0), none, (Zy prog 23), ⟨Yk [(0, (ii x0)), (1, (.dat l1.length (Zz l1))), (2, (.dat l2.length (Zz l2))), (8, (.dat (Yh (cvT l1) (cvT l2)).length (Zz (Yh (cvT l1) (cvT l2))))), (9, (.sla 0 6 0 v9.length (.un 6))), (10, (.dat v10.length (Zz v10))), (11, (ii v11)), (12, (ii v12)), (14, (ii v14))], Vn [⟨rows v9.length (Zz v9), 68, some ⟨6, v9.length, (Zz v9)⟩⟩] 0, 1, [], true⟩, [], .leaf⟩
def v3w : List (Option (List Nat)) := [some [0, 1, 2, 8, 9, 10, 11, 12]]
def v3y : List (Option (List Nat)) := []
def v3v : List (Option (List Nat)) := [some [0, 1, 2, 8, 9, 10, 11, 12, 13, 15]]
def v3x : List (Option (List Nat)) := []
def rjsN2 : List (Option (List Nat)) := [some [0, 1, 2, 8, 9, 10, 11, 12, 14]]
def rjsM2 : List (Option (List Nat)) := []
def Vz (x0 : Int) (l1 : List R6) (l2 : List R6) : rjsS → Xn rjsS
 | .h0 v9 v10 v11 v12 => (bif (decide ((IntKind.wrap .i64 (v12 + 1)) < (((Yh (cvT l1) (cvT l2)).length : Nat) : Int))) then (bif (z2m (cvT l1) (rd (Yh (cvT l1) (cvT l2)) v12.toNat)) then (bif ((decide (0 ≤ v12 ∧ v12 < (((Yh (cvT l1) (cvT l2)).length : Nat) : Int))) && true) then (bif (z2m (cvT l2) (rd (Yh (cvT l1) (cvT l2)) v12.toNat)) then (bif (Ks x0 (cvT (atV (cvT l1) (rd (Yh (cvT l1) (cvT l2)) v12.toNat))) (cvT (atV (cvT l2) (rd (Yh (cvT l1) (cvT l2)) v12.toNat)))) then (bif (decide ((((joV x0 (cvT (atV (cvT l1) (rd (Yh (cvT l1) (cvT l2)) v12.toNat))) (cvT (atV (cvT l2) (rd (Yh (cvT l1) (cvT l2)) v12.toNat)))).length : Nat) : Int) > 400)) then (.ret [.nils, (.bool false)]) else (bif (Ks 2 (cvT (atV (cvT l1) (rd (Yh (cvT l1) (cvT l2)) v12.toNat))) ([] : List R4)) then (bif (decide ((((joV 2 (cvT (atV (cvT l1) (rd (Yh (cvT l1) (cvT l2)) v12.toNat))) ([] : List R4)).length : Nat) : Int) > 400)) then (.ret [.nils, (.bool false)]) else (bif (Ks 2 (cvT (atV (cvT l2) (rd (Yh (cvT l1) (cvT l2)) v12.toNat))) ([] : List R4)) then (bif (decide ((((joV 2 (cvT (atV (cvT l2) (rd (Yh (cvT l1) (cvT l2)) v12.toNat))) ([] : List R4)).length : Nat) : Int) > 400)) then (.ret [.nils, (.bool false)]) else (bif (decide (v12 > 0)) then (bif (Wj (cvT (joV x0 (cvT (atV (cvT l1) (rd (Yh (cvT l1) (cvT l2)) v12.toNat))) (cvT (atV (cvT l2) (rd (Yh (cvT l1) (cvT l2)) v12.toNat))))) (cvT v10)) then (bif (Up (cvT (joV x0 (cvT (atV (cvT l1) (rd (Yh (cvT l1) (cvT l2)) v12.toNat))) (cvT (atV (cvT l2) (rd (Yh (cvT l1) (cvT l2)) v12.toNat))))) (cvT v10)) then (.to (.h2 v9 v10 v11 v12 v11)) else (.to (.h1 v9 (joV x0 (cvT (atV (cvT l1) (rd (Yh (cvT l1) (cvT l2)) v12.toNat))) (cvT (atV (cvT l2) (rd (Yh (cvT l1) (cvT l2)) v12.toNat)))) (v9.length : Int) v12 (joV x0 (cvT (atV (cvT l1) (rd (Yh (cvT l1) (cvT l2)) v12.toNat))) (cvT (atV (cvT l2) (rd (Yh (cvT l1) (cvT l2)) v12.toNat)))) 0))) else .stuck) else (.to (.h1 v9 (joV x0 (cvT (atV (cvT l1) (rd (Yh (cvT l1) (cvT l2)) v12.toNat))) (cvT (atV (cvT l2) (rd (Yh (cvT l1) (cvT l2)) v12.toNat)))) (v9.length : Int) v12 (joV x0 (cvT (atV (cvT l1) (rd (Yh (cvT l1) (cvT l2)) v12.toNat))) (cvT (atV (cvT l2) (rd (Yh (cvT l1) (cvT l2)) v12.toNat)))) 0)))) else .stuck)) else .stuck)) else .stuck) else .stuck) else .stuck) else .stuck) else (.ret [(.dat v9.length (Zz v9)), (.bool (decide ((v9.length : Int) ≤ 400)))]))
 | .h1 v9 v10 v11 v12 v13 v15 => (bif (decide (v15 < (v13.length : Int))) then (bif ((decide (0 ≤ v12 ∧ v12 < (((Yh (cvT l1) (cvT l2)).length : Nat) : Int))) && true) then (bif ((decide (0 ≤ v15 ∧ v15 < (v13.length : Int))) && true) then (bif ((decide (0 ≤ (IntKind.wrap .i64 (v12 + 1)) ∧ (IntKind.wrap .i64 (v12 + 1)) < (((Yh (cvT l1) (cvT l2)).length : Nat) : Int))) && true) then (bif (Nat.beq 6 6 && ((decide (0 + v9.length = v9.length)) && decide ((v9.length + 1 + 1) * (48 + 1) ≤ Jp))) then (.to (.h1 (v9 ++ [(R6.mk (rd v13 v15.toNat).a (rd v13 v15.toNat).b (rd (Yh (cvT l1) (cvT l2)) v12.toNat) (rd v13 v15.toNat).c (rd v13 v15.toNat).d (rd (Yh (cvT l1) (cvT l2)) (Int.toNat (IntKind.wrap .i64 (v12 + 1)))))]) v10 v11 v12 v13 (IntKind.wrap .i64 (v15 + 1)))) else .stuck) else .stuck) else .stuck) else .stuck) else (.to (.h0 v9 v10 v11 (IntKind.wrap .i64 (v12 + 1)))))
 | .h2 v9 v10 v11 v12 v14 => (bif (decide (v14 < (v9.length : Int))) then (bif ((decide (0 ≤ (IntKind.wrap .i64 (v12 + 1)) ∧ (IntKind.wrap .i64 (v12 + 1)) < (((Yh (cvT l1) (cvT l2)).length : Nat) : Int))) && true) then (bif ((decide (0 ≤ v14 ∧ v14 < (v9.length : Int))) && true) then (bif (decide ((0 + v14.toNat) < v9.length)) then (.to (.h2 (v9.set (0 + v14.toNat) (R6.mk (rd v9 (0 + v14.toNat)).a (rd v9 (0 + v14.toNat)).b (rd v9 (0 + v14.toNat)).c (rd v9 (0 + v14.toNat)).d (rd v9 (0 + v14.toNat)).e (rd (Yh (cvT l1) (cvT l2)) (Int.toNat (IntKind.wrap .i64 (v12 + 1)))))) v10 v11 v12 (IntKind.wrap .i64 (v14 + 1)))) else .stuck) else .stuck) else .stuck) else (.to (.h0 v9 v10 v11 (IntKind.wrap .i64 (v12 + 1)))))
def z8d (x0 : Int) (l1 : List R6) (l2 : List R6) : Xn rjsS := (bif (z5e (cvT l1) (cvT l2)) then (.to (.h0 ([] : List R6) ([] : List R4) 0 0)) else .stuck)
theorem x5c (x0 : Int) (l1 : List R6) (l2 : List R6) : ∀ s, Ww prog (Zy prog 79) (rjsC x0 l1 l2) (rjsC x0 l1 l2 s) (Vz x0 l1 l2 s)
 | .h0 v9 v10 v11 v12 => (lb (fun k0 => (lo fun aH => (lo fun bK => (lo fun cJ => (lo fun dG => (lb (fun k1 => (lr 137 79 [1, 1, 1, 1, 1, 0, 1, 0, 0, 1, 0, 0, 1, 0, 1, 0, 0] 1 23 [(6, .nils), (7, (.bool false))] (sl z6q 50 [] ⟨[], [], [some [6, 7]], []⟩ ⟨[], [], []⟩ (trs 20 []) (tt k1 (pp (pp (xI R4 (atV (cvT l1) (rd (Yh (cvT l1) (cvT l2)) (tn v12))).length (Zz (atV (cvT l1) (rd (Yh (cvT l1) (cvT l2)) (tn v12))))) (pp (xI R4 (atV (cvT l2) (rd (Yh (cvT l1) (cvT l2)) (tn v12))).length (Zz (atV (cvT l2) (rd (Yh (cvT l1) (cvT l2)) (tn v12))))) (xw dG))) (pp (pp (xr l2) (xw cJ)) (ww bK (pp (pp (xr l1) (xw aH)) (ww bK (tt k0 nn)))))))))) (fun k1 => (lo fun cX => (lb (fun k2 => (lr 137 79 [1, 1, 1, 1, 1, 0, 1, 0, 0, 1, 0, 0, 1, 0, 1, 0, 0] 1 23 [(6, .nils), (7, (.bool false))] (sl z6q 50 [] ⟨[], [], [some [6, 7]], []⟩ ⟨[], [], []⟩ [true, false, false, false, false, false, false, false, false, false, true, true, true, true, true, true, true, true, true, true] (tt k2 (pp (pp (xI R4 (atV (cvT l1) (rd (Yh (cvT l1) (cvT l2)) (tn v12))).length (Zz (atV (cvT l1) (rd (Yh (cvT l1) (cvT l2)) (tn v12))))) (pp (xI R4 0 (fun _ => [])) (xw cX))) (pp (pp (xr l1) (xw aH)) (ww bK (tt k1 (pp (pp (xI R4 (atV (cvT l1) (rd (Yh (cvT l1) (cvT l2)) (tn v12))).length (Zz (atV (cvT l1) (rd (Yh (cvT l1) (cvT l2)) (tn v12))))) (pp (xI R4 (atV (cvT l2) (rd (Yh (cvT l1) (cvT l2)) (tn v12))).length (Zz (atV (cvT l2) (rd (Yh (cvT l1) (cvT l2)) (tn v12))))) (xw dG))) (pp (pp (xr l2) (xw cJ)) (ww bK (pp (pp (xr l1) (xw aH)) (ww bK (tt k0 nn)))))))))))))) (fun k2 => (lo fun cP => (lb (fun k3 => (lr 137 79 [1, 1, 1, 1, 1, 0, 1, 0, 0, 1, 0, 0, 1, 0, 1, 0, 0] 1 23 [(6, .nils), (7, (.bool false))] (sl z6q 50 [] ⟨[], [], [some [6, 7]], []⟩ ⟨[], [], []⟩ [true, false, false, false, false, false, false, false, false, false, false, false, false, false, false, false, false, false, false, true] (tt k3 (pp (pp (xI R4 (atV (cvT l2) (rd (Yh (cvT l1) (cvT l2)) (tn v12))).length (Zz (atV (cvT l2) (rd (Yh (cvT l1) (cvT l2)) (tn v12))))) (pp (xI R4 0 (fun _ => [])) (xw cP))) (pp (pp (xr l2) (xw cJ)) (ww bK (tt k2 (pp (pp (xI R4 (atV (cvT l1) (rd (Yh (cvT l1) (cvT l2)) (tn v12))).length (Zz (atV (cvT l1) (rd (Yh (cvT l1) (cvT l2)) (tn v12))))) (pp (xI R4 0 (fun _ => [])) (xw cX))) (pp (pp (xr l1) (xw aH)) (ww bK (tt k1 (pp (pp (xI R4 (atV (cvT l1) (rd (Yh (cvT l1) (cvT l2)) (tn v12))).length (Zz (atV (cvT l1) (rd (Yh (cvT l1) (cvT l2)) (tn v12))))) (pp (xI R4 (atV (cvT l2) (rd (Yh (cvT l1) (cvT l2)) (tn v12))).length (Zz (atV (cvT l2) (rd (Yh (cvT l1) (cvT l2)) (tn v12))))) (xw dG))) (pp (pp (xr l2) (xw cJ)) (ww bK (pp (pp (xr l1) (xw aH)) (ww bK (tt k0 nn)))))))))))))))))) (fun k3 => (lb (fun k4 => (lo fun dV => (lb (fun k5 => (sl z6q 66 [] ⟨[0], [], rjsN2, rjsM2⟩ ⟨[], [], []⟩ [true, false, false, false, false, false, false, false, false, false, false, false, false, false, false, false, false, false, false, false, true, true, true, true] (pp (fl v9 nn) (tt k5 (pp (pp (xI R4 (joV x0 (cvT (atV (cvT l1) (rd (Yh (cvT l1) (cvT l2)) (tn v12)))) (cvT (atV (cvT l2) (rd (Yh (cvT l1) (cvT l2)) (tn v12))))).length (Zz (joV x0 (cvT (atV (cvT l1) (rd (Yh (cvT l1) (cvT l2)) (tn v12)))) (cvT (atV (cvT l2) (rd (Yh (cvT l1) (cvT l2)) (tn v12))))))) (pp (xr v10) (xw dV))) (tt k4 (tt k3 (pp (pp (xI R4 (atV (cvT l2) (rd (Yh (cvT l1) (cvT l2)) (tn v12))).length (Zz (atV (cvT l2) (rd (Yh (cvT l1) (cvT l2)) (tn v12))))) (pp (xI R4 0 (fun _ => [])) (xw cP))) (pp (pp (xr l2) (xw cJ)) (ww bK (tt k2 (pp (pp (xI R4 (atV (cvT l1) (rd (Yh (cvT l1) (cvT l2)) (tn v12))).length (Zz (atV (cvT l1) (rd (Yh (cvT l1) (cvT l2)) (tn v12))))) (pp (xI R4 0 (fun _ => [])) (xw cX))) (pp (pp (xr l1) (xw aH)) (ww bK (tt k1 (pp (pp (xI R4 (atV (cvT l1) (rd (Yh (cvT l1) (cvT l2)) (tn v12))).length (Zz (atV (cvT l1) (rd (Yh (cvT l1) (cvT l2)) (tn v12))))) (pp (xI R4 (atV (cvT l2) (rd (Yh (cvT l1) (cvT l2)) (tn v12))).length (Zz (atV (cvT l2) (rd (Yh (cvT l1) (cvT l2)) (tn v12))))) (xw dG))) (pp (pp (xr l2) (xw cJ)) (ww bK (pp (pp (xr l1) (xw aH)) (ww bK (tt k0 nn))))))))))))))))))))) (fun k5 => (sl z6q 73 [] ⟨[0], [], v3v, v3x⟩ ⟨[], [], []⟩ [true, false, false, false, false, false, false, false, false, false, false, false, false, false, false, false, false, false, false, false, true, true, true, false] (pp (fl v9 nn) (tt k5 (pp (pp (xI R4 (joV x0 (cvT (atV (cvT l1) (rd (Yh (cvT l1) (cvT l2)) (tn v12)))) (cvT (atV (cvT l2) (rd (Yh (cvT l1) (cvT l2)) (tn v12))))).length (Zz (joV x0 (cvT (atV (cvT l1) (rd (Yh (cvT l1) (cvT l2)) (tn v12)))) (cvT (atV (cvT l2) (rd (Yh (cvT l1) (cvT l2)) (tn v12))))))) (pp (xr v10) (xw dV))) (tt k4 (tt k3 (pp (pp (xI R4 (atV (cvT l2) (rd (Yh (cvT l1) (cvT l2)) (tn v12))).length (Zz (atV (cvT l2) (rd (Yh (cvT l1) (cvT l2)) (tn v12))))) (pp (xI R4 0 (fun _ => [])) (xw cP))) (pp (pp (xr l2) (xw cJ)) (ww bK (tt k2 (pp (pp (xI R4 (atV (cvT l1) (rd (Yh (cvT l1) (cvT l2)) (tn v12))).length (Zz (atV (cvT l1) (rd (Yh (cvT l1) (cvT l2)) (tn v12))))) (pp (xI R4 0 (fun _ => [])) (xw cX))) (pp (pp (xr l1) (xw aH)) (ww bK (tt k1 (pp (pp (xI R4 (atV (cvT l1) (rd (Yh (cvT l1) (cvT l2)) (tn v12))).length (Zz (atV (cvT l1) (rd (Yh (cvT l1) (cvT l2)) (tn v12))))) (pp (xI R4 (atV (cvT l2) (rd (Yh (cvT l1) (cvT l2)) (tn v12))).length (Zz (atV (cvT l2) (rd (Yh (cvT l1) (cvT l2)) (tn v12))))) (xw dG))) (pp (pp (xr l2) (xw cJ)) (ww bK (pp (pp (xr l1) (xw aH)) (ww bK (tt k0 nn)))))))))))))))))))))))) (fun k4 => (sl z6q 73 [] ⟨[0], [], v3v, v3x⟩ ⟨[], [], []⟩ [true, false, false, false, false, false, false, false, false, false, false, false, false, false, false, false, false, false, false, false, false, false, false, false] (pp (fl v9 nn) (tt k4 (tt k3 (pp (pp (xI R4 (atV (cvT l2) (rd (Yh (cvT l1) (cvT l2)) (tn v12))).length (Zz (atV (cvT l2) (rd (Yh (cvT l1) (cvT l2)) (tn v12))))) (pp (xI R4 0 (fun _ => [])) (xw cP))) (pp (pp (xr l2) (xw cJ)) (ww bK (tt k2 (pp (pp (xI R4 (atV (cvT l1) (rd (Yh (cvT l1) (cvT l2)) (tn v12))).length (Zz (atV (cvT l1) (rd (Yh (cvT l1) (cvT l2)) (tn v12))))) (pp (xI R4 0 (fun _ => [])) (xw cX))) (pp (pp (xr l1) (xw aH)) (ww bK (tt k1 (pp (pp (xI R4 (atV (cvT l1) (rd (Yh (cvT l1) (cvT l2)) (tn v12))).length (Zz (atV (cvT l1) (rd (Yh (cvT l1) (cvT l2)) (tn v12))))) (pp (xI R4 (atV (cvT l2) (rd (Yh (cvT l1) (cvT l2)) (tn v12))).length (Zz (atV (cvT l2) (rd (Yh (cvT l1) (cvT l2)) (tn v12))))) (xw dG))) (pp (pp (xr l2) (xw cJ)) (ww bK (pp (pp (xr l1) (xw aH)) (ww bK (tt k0 nn))))))))))))))))))))))))))))))))) (fun k0 => (lr 137 3 [1, 1, 1, 1, 1, 1, 0] 1 23 [(6, (.dat v9.length (Zz v9))), (7, (.bool (decide ((v9.length : Int) ≤ 400))))] (sl z6q 20 [] ⟨[], [0], [some [6, 7]], []⟩ ⟨[(6, .frz v9.length v9.length (Zz v9) (Zz v9))], [], []⟩ [false] (pp (xZ (z4q 6 6 0 v9.length v9.length (Zz v9)) v9.length (Zz v9)) (pp (xL v9.length v9.length) (pp (xS v9.length (Zz v9) (Zz v9)) (pp (fl v9 nn) (tt k0 nn)))))))))
 | .h1 v9 v10 v11 v12 v13 v15 => (lb (fun k0 => (lo fun o0 => (lo fun o1 => (lo fun o2 => (lo fun o3 => (sl z6q 20 [] ⟨[2], [], v3v, v3x⟩ ⟨[(9, .len (v9 ++ [(R6.mk (rd v13 (tn v15)).a (rd v13 (tn v15)).b (rd (Yh (cvT l1) (cvT l2)) (tn v12)) (rd v13 (tn v15)).c (rd v13 (tn v15)).d (rd (Yh (cvT l1) (cvT l2)) (tn (wr (v12 + 1)))))]).length)], [.rowed 6 (v9 ++ [(R6.mk (rd v13 (tn v15)).a (rd v13 (tn v15)).b (rd (Yh (cvT l1) (cvT l2)) (tn v12)) (rd v13 (tn v15)).c (rd v13 (tn v15)).d (rd (Yh (cvT l1) (cvT l2)) (tn (wr (v12 + 1)))))]).length (Zz (v9 ++ [(R6.mk (rd v13 (tn v15)).a (rd v13 (tn v15)).b (rd (Yh (cvT l1) (cvT l2)) (tn v12)) (rd v13 (tn v15)).c (rd v13 (tn v15)).d (rd (Yh (cvT l1) (cvT l2)) (tn (wr (v12 + 1)))))]))], []⟩ [true] (pp (xL (v9.length + 1) (v9 ++ [(R6.mk (rd v13 (tn v15)).a (rd v13 (tn v15)).b (rd (Yh (cvT l1) (cvT l2)) (tn v12)) (rd v13 (tn v15)).c (rd v13 (tn v15)).d (rd (Yh (cvT l1) (cvT l2)) (tn (wr (v12 + 1)))))]).length) (pp (xL (v9.length + 1) (v9 ++ [(R6.mk (rd v13 (tn v15)).a (rd v13 (tn v15)).b (rd (Yh (cvT l1) (cvT l2)) (tn v12)) (rd v13 (tn v15)).c (rd v13 (tn v15)).d (rd (Yh (cvT l1) (cvT l2)) (tn (wr (v12 + 1)))))]).length) (pp (xS (v9.length + 1) (Zd (Zz v9) 0 v9.length 6 [(ii (rd v13 (tn v15)).a), (ii (rd v13 (tn v15)).b), (ii (rd (Yh (cvT l1) (cvT l2)) (tn v12))), (ii (rd v13 (tn v15)).c), (ii (rd v13 (tn v15)).d), (ii (rd (Yh (cvT l1) (cvT l2)) (tn (wr (v12 + 1)))))]) (Zz (v9 ++ [(R6.mk (rd v13 (tn v15)).a (rd v13 (tn v15)).b (rd (Yh (cvT l1) (cvT l2)) (tn v12)) (rd v13 (tn v15)).c (rd v13 (tn v15)).d (rd (Yh (cvT l1) (cvT l2)) (tn (wr (v12 + 1)))))]))) (pp (pp (xF (Zd (Zz v9) 0 v9.length 6 [(ii (rd v13 (tn v15)).a), (ii (rd v13 (tn v15)).b), (ii (rd (Yh (cvT l1) (cvT l2)) (tn v12))), (ii (rd v13 (tn v15)).c), (ii (rd v13 (tn v15)).d), (ii (rd (Yh (cvT l1) (cvT l2)) (tn (wr (v12 + 1)))))])) nn) (ww o3 (ww o2 (ww o1 (ww o1 (ww o0 (ww o1 (ww o1 (tt k0 nn)))))))))))))))))) (fun k0 => (sl z6q 17 [] ⟨[0], [], v3w, v3y⟩ ⟨[], [], []⟩ [false] (pp (fl v9 nn) (tt k0 nn)))))
 | .h2 v9 v10 v11 v12 v14 => (lb (fun k0 => (lo fun o0 => (lo fun o1 => (lo fun o2 => (sl z6q 32 [] ⟨[0], [], rjsN2, rjsM2⟩ ⟨[(9, .len (v9.set (0 + (tn v14)) (R6.mk (rd v9 (0 + (tn v14))).a (rd v9 (0 + (tn v14))).b (rd v9 (0 + (tn v14))).c (rd v9 (0 + (tn v14))).d (rd v9 (0 + (tn v14))).e (rd (Yh (cvT l1) (cvT l2)) (tn (wr (v12 + 1)))))).length)], [.rowed 6 (v9.set (0 + (tn v14)) (R6.mk (rd v9 (0 + (tn v14))).a (rd v9 (0 + (tn v14))).b (rd v9 (0 + (tn v14))).c (rd v9 (0 + (tn v14))).d (rd v9 (0 + (tn v14))).e (rd (Yh (cvT l1) (cvT l2)) (tn (wr (v12 + 1)))))).length (Zz (v9.set (0 + (tn v14)) (R6.mk (rd v9 (0 + (tn v14))).a (rd v9 (0 + (tn v14))).b (rd v9 (0 + (tn v14))).c (rd v9 (0 + (tn v14))).d (rd v9 (0 + (tn v14))).e (rd (Yh (cvT l1) (cvT l2)) (tn (wr (v12 + 1)))))))], []⟩ [true] (pp (xL v9.length (v9.set (0 + (tn v14)) (R6.mk (rd v9 (0 + (tn v14))).a (rd v9 (0 + (tn v14))).b (rd v9 (0 + (tn v14))).c (rd v9 (0 + (tn v14))).d (rd v9 (0 + (tn v14))).e (rd (Yh (cvT l1) (cvT l2)) (tn (wr (v12 + 1)))))).length) (pp (xL v9.length (v9.set (0 + (tn v14)) (R6.mk (rd v9 (0 + (tn v14))).a (rd v9 (0 + (tn v14))).b (rd v9 (0 + (tn v14))).c (rd v9 (0 + (tn v14))).d (rd v9 (0 + (tn v14))).e (rd (Yh (cvT l1) (cvT l2)) (tn (wr (v12 + 1)))))).length) (pp (xS v9.length (Xc (Zz v9) (0 + (tn v14)) 5 [(ii (rd (Yh (cvT l1) (cvT l2)) (tn (wr (v12 + 1)))))]) (Zz (v9.set (0 + (tn v14)) (R6.mk (rd v9 (0 + (tn v14))).a (rd v9 (0 + (tn v14))).b (rd v9 (0 + (tn v14))).c (rd v9 (0 + (tn v14))).d (rd v9 (0 + (tn v14))).e (rd (Yh (cvT l1) (cvT l2)) (tn (wr (v12 + 1)))))))) (pp (pp (xF (Xc (Zz v9) (0 + (tn v14)) 5 [(ii (rd (Yh (cvT l1) (cvT l2)) (tn (wr (v12 + 1)))))])) nn) (ww o2 (ww o1 (ww o0 (tt k0 nn))))))))))))) (fun k0 => (sl z6q 17 [] ⟨[0], [], v3w, v3y⟩ ⟨[], [], []⟩ [false] (pp (fl v9 nn) (tt k0 nn)))))
theorem y9d (x0 : Int) (l1 : List R6) (l2 : List R6) : Ww prog (Zy prog 79) (rjsC x0 l1 l2) (Zn prog 79 [(.int .i64 x0), (.dat l1.length (Zz l1)), (.dat l2.length (Zz l2))] true []) (z8d x0 l1 l2) := (lo fun o0 => (sl z6q 31 [(68, 6, Zz ([] : List R6))] ⟨[0], [], v3w, v3y⟩ ⟨[(9, .grow 0 6), (10, .list 0 (Zz ([] : List R4)))], [], []⟩ [] (pp (fl ([] : List R6) nn) (pp (pp (xr l1) (pp (xr l2) (xw o0))) nn))))
theorem w4g (x0 : Int) (l1 : List R6) (l2 : List R6) (n : Nat) (vs : List AVal) (h : Yv (Vz x0 l1 l2) n (z8d x0 l1 l2) = .ret vs) : Kz prog (Zy prog 79) (Zn prog 79 [(.int .i64 x0), (.dat l1.length (Zz l1)), (.dat l2.length (Zz l2))] true []) vs := by
 have := Zr (x5c x0 l1 l2) n _ (y9d x0 l1 l2)
 rwa [h] at this
end Go.Am
namespace Go.Am
open Go.Proofs.Tryz
open Go.Proofs
theorem Jv (l m : List R6) : (Yh l m).length ≤ 2 * l.length + 2 * m.length := by
 refine Nat.le_trans (z2y _) ?_
 rw [List.length_append, Ke, Ke]; omega
theorem Qo (l : List R6) (z : Int) : (atV l z).length ≤ l.length := by
 unfold atV
 rw [List.length_map]
 exact List.length_filter_le _ _
def w3c (out : List R6) (first : Nat) (z : Int) : List R6 := out.take first ++ (out.drop first).map fun r => ⟨r.a, r.b, r.c, r.d, r.e, z⟩
def v4m (z z' : Int) (s : List R4) : List R6 := s.map fun p => ⟨p.a, p.b, z, p.c, p.d, z'⟩
section
variable (kind : Int) (l m : List R6)
def y5h (z : Int) : List R4 := joV kind (atV l z) (atV m z)
def z7j (z : Int) : Bool := decide (400 < (y5h kind l m z).length) || (decide (400 < (joV 2 (atV l z) []).length) || decide (400 < (joV 2 (atV m z) []).length))
def jsF : Nat → Nat → List R6 → List R4 → Nat → Option (List R6)
 | 0, _, out, _, _ => some out
 | k + 1, i, out, last, first =>
  bif z7j kind l m (rd (Yh l m) i) then none
  else bif decide (0 < i) && Up (y5h kind l m (rd (Yh l m) i)) last then jsF k (i + 1) (w3c out first (rd (Yh l m) (i + 1))) last first
  else jsF k (i + 1) (out ++ v4m (rd (Yh l m) i) (rd (Yh l m) (i + 1)) (y5h kind l m (rd (Yh l m) i))) (y5h kind l m (rd (Yh l m) i)) out.length
def jsO : Option (List R6) := jsF kind l m ((Yh l m).length - 1) 0 [] [] 0
def x0f : Option (List R6) → List AVal
 | none => [.nils, .bool false]
 | some out => [.dat out.length (Zz out), .bool (decide ((out.length : Int) ≤ 400))]
def z3f : List R6 := (jsO kind l m).getD []
def y6x : Bool := match jsO kind l m with
 | none => false
 | some out => decide ((out.length : Int) ≤ 400)
end
def z8i (_ : Int) (l m : List R6) : Bool := decide (l.length ≤ 5000 ∧ m.length ≤ 5000)
section
variable (kind : Int) (l m : List R6) (hl : l.length ≤ 5000) (hm : m.length ≤ 5000)
include hl hm
theorem w9v (last : List R4) (first : Int) (i : Nat) (hi : i + 1 < (Yh l m).length) (s : List R4) (hs : s.length ≤ 1000000) : ∀ (k j : Nat) (out : List R6), j + k = s.length → out.length ≤ 10000000000 + j →
  ∃ n, ∀ N, Yv (Vz kind l m) (N + n) (.to (.h1 out last first (i : Int) s (j : Int))) = Yv (Vz kind l m) N (.to (.h0 (out ++ v4m (rd (Yh l m) i) (rd (Yh l m) (i + 1)) (s.drop j)) last first ((i + 1 : Nat) : Int)))
 | 0, j, out, h, ho => by
  have hx := Jv l m
  refine ⟨1, fun N => ?_⟩
  rw [List.drop_eq_nil_of_le (by omega), Zv]
  simp (disch := omega) only [Vz, Zb, Zk, Zs, Zj, Zw, cond_false, v4m, List.map_nil, List.append_nil]
 | k + 1, j, out, h, ho => by
  have hx := Jv l m
  obtain ⟨n, hn⟩ := w9v last first i hi s hs k (j + 1) (out ++ v4m (rd (Yh l m) i) (rd (Yh l m) (i + 1)) [rd s j]) (by omega) (by simp [v4m]; omega)
  refine ⟨n + 1, fun N => ?_⟩
  have := hn N
  rw [Yc (show j < s.length by omega), ← Nat.add_assoc, Zv]
  simp (disch := omega) only [Vz, Zb, Zk, Zo, Zt, Yz, Yu, Zf, Zj, Zw, Yp, Zq, Nat.zero_add, decide_true, Bool.and_true, Bool.true_and, cond_true]
  rw [List.append_assoc] at this
  exact this
omit hl hm in
theorem w7c (out : List R6) (j : Nat) (x : Int) (h : j < out.length) : w3c (out.set j ⟨(rd out j).a, (rd out j).b, (rd out j).c, (rd out j).d, (rd out j).e, x⟩) (j + 1) x = w3c out j x := by
 unfold w3c
 rw [Yc h, List.map_cons]
 have e1 : (out.set j ⟨(rd out j).a, (rd out j).b, (rd out j).c, (rd out j).d, (rd out j).e, x⟩).take (j + 1) = out.take j ++ [⟨(rd out j).a, (rd out j).b, (rd out j).c, (rd out j).d, (rd out j).e, x⟩] := by
  apply List.ext_getElem
  ·simp; omega
  ·intro n h1 h2
   simp only [List.getElem_take, List.getElem_set]
   by_cases e : j = n
   ·subst e
    rw [if_pos rfl, List.getElem_append_right (by simp only [List.length_take]; omega)]
    simp
   ·rw [if_neg e, List.getElem_append_left (by simp at h1 ⊢; omega), List.getElem_take]
 have e2 : (out.set j ⟨(rd out j).a, (rd out j).b, (rd out j).c, (rd out j).d, (rd out j).e, x⟩).drop (j + 1) = out.drop (j + 1) := by
  rw [List.drop_set]; rw [if_pos (by omega)]
 rw [e1, e2, List.append_assoc]; rfl
theorem w9u (last : List R4) (first : Int) (i : Nat) (hi : i + 1 < (Yh l m).length) : ∀ (k j : Nat) (out : List R6), j + k = out.length → out.length ≤ 10000000000 →
  ∃ n, ∀ N, Yv (Vz kind l m) (N + n) (.to (.h2 out last first (i : Int) (j : Int))) = Yv (Vz kind l m) N (.to (.h0 (w3c out j (rd (Yh l m) (i + 1))) last first ((i + 1 : Nat) : Int)))
 | 0, j, out, h, ho => by
  have hx := Jv l m
  refine ⟨1, fun N => ?_⟩
  have e : w3c out j (rd (Yh l m) (i + 1)) = out := by
   unfold w3c; rw [List.drop_eq_nil_of_le (by omega), List.map_nil, List.append_nil, List.take_of_length_le (by omega)]
  rw [e, Zv]
  simp (disch := omega) only [Vz, Zb, Zk, Zs, Zj, Zw, cond_false]
 | k + 1, j, out, h, ho => by
  have hx := Jv l m
  obtain ⟨n, hn⟩ := w9u last first i hi k (j + 1) (out.set j ⟨(rd out j).a, (rd out j).b, (rd out j).c, (rd out j).d, (rd out j).e, rd (Yh l m) (i + 1)⟩) (by simp; omega) (by simpa using ho)
  refine ⟨n + 1, fun N => ?_⟩
  have := hn N
  rw [w7c out j _ (by omega)] at this
  rw [← Nat.add_assoc, Zv]
  simp (disch := omega) only [Vz, Zb, Zk, Zo, Zt, Yw, Yz, Yu, Zf, Zj, Zw, Yp, Zq, Nat.zero_add, decide_true, Bool.and_true, Bool.true_and, cond_true]
  exact this
theorem x9b : ∀ (k i : Nat) (out : List R6) (last : List R4) (first : Nat), k = (Yh l m).length - 1 - i → i ≤ (Yh l m).length → out.length ≤ i * 400 → last.length ≤ 400 → first ≤ out.length →
  ∃ n, Yv (Vz kind l m) n (.to (.h0 out last (first : Int) (i : Int))) = .ret (x0f (jsF kind l m k i out last first))
 | 0, i, out, last, first, h, hi, ho, hla, hf => by
  have hx := Jv l m
  refine ⟨1, ?_⟩
  rw [Zv]
  simp (disch := omega) only [Vz, Zb, Zk, Zs, Zj, Zw, cond_false, Zm, jsF, x0f]
 | k + 1, i, out, last, first, h, hi, ho, hla, hf => by
  have hx := Jv l m
  have hi1 : i + 1 < (Yh l m).length := by omega
  have hbig : i * 400 ≤ 20000 * 400 := Nat.mul_le_mul_right _ (by omega)
  have a1 := fun z => Qo l z
  have a2 := fun z => Qo m z
  have w1 : ∀ z, z2m l z = true := fun z => decide_eq_true (by omega)
  have w2 : ∀ z, z2m m z = true := fun z => decide_eq_true (by omega)
  have w3 : ∀ k z, Ks k (atV l z) (atV m z) = true := fun k z => decide_eq_true (by have := a1 z; have := a2 z; omega)
  have w4 : ∀ k z, Ks k (atV l z) ([] : List R4) = true := fun k z => decide_eq_true (by have := a1 z; simp; omega)
  have w5 : ∀ k z, Ks k (atV m z) ([] : List R4) = true := fun k z => decide_eq_true (by have := a2 z; simp; omega)
  unfold jsF
  have fD : y5h kind l m (rd (Yh l m) i) = joV kind (atV l (rd (Yh l m) i)) (atV m (rd (Yh l m) i)) := rfl
  by_cases c1 : 400 < (y5h kind l m (rd (Yh l m) i)).length
  ·refine ⟨1, ?_⟩
   have hb : z7j kind l m (rd (Yh l m) i) = true := by unfold z7j; rw [decide_eq_true c1]; rfl
   rw [hb, cond_true, Zv]
   rw [fD] at c1
   simp (disch := omega) only [Vz, Zb, Zk, Zo, Yi, Zt, Zj, Zw, Zq, w1, w2, w3, w4, w5, Bool.and_true, cond_true, Zm, x0f]
  by_cases c2 : 400 < (joV 2 (atV l (rd (Yh l m) i)) []).length
  ·refine ⟨1, ?_⟩
   have hb : z7j kind l m (rd (Yh l m) i) = true := by unfold z7j; rw [decide_eq_true c2, Bool.true_or, Bool.or_true]
   rw [hb, cond_true, Zv]
   rw [fD] at c1
   simp (disch := omega) only [Vz, Zb, Zk, Zo, Yi, Xz, Zt, Zj, Zw, Zq, w1, w2, w3, w4, w5, Bool.and_true, cond_true, cond_false, Zm, x0f]
  by_cases c3 : 400 < (joV 2 (atV m (rd (Yh l m) i)) []).length
  ·refine ⟨1, ?_⟩
   have hb : z7j kind l m (rd (Yh l m) i) = true := by unfold z7j; rw [decide_eq_true c3, Bool.or_true, Bool.or_true]
   rw [hb, cond_true, Zv]
   rw [fD] at c1
   simp (disch := omega) only [Vz, Zb, Zk, Zo, Yi, Xz, Zt, Zj, Zw, Zq, w1, w2, w3, w4, w5, Bool.and_true, cond_true, cond_false, Zm, x0f]
  have hb : z7j kind l m (rd (Yh l m) i) = false := by unfold z7j; rw [decide_eq_false c1, decide_eq_false c2, decide_eq_false c3]; rfl
  rw [hb, cond_false]
  have w6 : Wj (joV kind (atV l (rd (Yh l m) i)) (atV m (rd (Yh l m) i))) last = true := decide_eq_true (by rw [← fD]; omega)
  rcases Ya (decide (0 < i) && Up (y5h kind l m (rd (Yh l m) i)) last) with q | q
  ·obtain ⟨n3, h3⟩ := w9u kind l m hl hm last first i hi1 (out.length - first) first out (by omega) (by omega)
   obtain ⟨n0, h0⟩ := x9b k (i + 1) (w3c out first (rd (Yh l m) (i + 1))) last first (by omega) (by omega) (by simp [w3c]; omega) hla (by simp [w3c]; omega)
   refine ⟨n0 + n3 + 1, ?_⟩
   rw [q, cond_true, Zv]
   simp only [Bool.and_eq_true, decide_eq_true_eq] at q
   obtain ⟨q1, q2⟩ := q
   rw [fD] at c1 q2
   simp (disch := omega) only [Vz, Zb, Zk, Zo, Yi, Xz, Zt, Zj, Zw, Zq, w1, w2, w3, w4, w5, w6, q2, Bool.and_true, cond_true, cond_false]
   rw [h3 n0, h0]
  ·obtain ⟨n2, h2⟩ := w9v kind l m hl hm (y5h kind l m (rd (Yh l m) i)) (out.length : Int) i hi1 (y5h kind l m (rd (Yh l m) i)) (by omega) (y5h kind l m (rd (Yh l m) i)).length 0 out (Nat.zero_add _) (by omega)
   obtain ⟨n0, h0⟩ := x9b k (i + 1) (out ++ v4m (rd (Yh l m) i) (rd (Yh l m) (i + 1)) (y5h kind l m (rd (Yh l m) i))) (y5h kind l m (rd (Yh l m) i)) out.length (by omega) (by omega) (by simp [v4m]; omega) (by omega) (by simp)
   refine ⟨n0 + n2 + 1, ?_⟩
   rw [q, cond_false, Zv]
   have h2' := h2 n0
   simp only [List.drop_zero, Qn] at h2'
   have c1' := c1
   rw [fD] at c1'
   by_cases hi0 : 0 < i
   ·rw [decide_eq_true hi0, Bool.true_and, fD] at q
    simp (disch := omega) only [Vz, Zb, Zk, Zo, Yi, Xz, Zt, Zj, Zw, Zq, w1, w2, w3, w4, w5, w6, q, Bool.and_true, cond_true, cond_false]
    rw [← h0]; exact h2'
   ·simp (disch := omega) only [Vz, Zb, Zk, Zo, Yi, Xz, Zt, Zj, Zw, Zq, w1, w2, w3, w4, w5, w6, Bool.and_true, cond_true, cond_false]
    rw [← h0]; exact h2'
end
theorem v3u (kind : Int) (l m : List R6) (h : z8i kind l m = true) : ∃ N, Yv (Vz kind l m) N (z8d kind l m) = .ret (x0f (jsO kind l m)) := by
 obtain ⟨hl, hm⟩ := of_decide_eq_true h
 obtain ⟨N, hN⟩ := x9b kind l m hl hm ((Yh l m).length - 1) 0 [] [] 0 rfl (Nat.zero_le _) (Nat.zero_le _) (Nat.zero_le _) (Nat.le_refl _)
 refine ⟨N, ?_⟩
 have w1 : z5e l m = true := decide_eq_true ⟨by omega, by omega⟩
 simp only [z8d, Zb, Zk, w1, cond_true]
 exact hN
def fJs : List AVal → Option (AVal × Bool)
 | [.int .i64 x0, a1, a2] => match asL R6 a1, asL R6 a2 with
  | some (L1, g1, n1), some (L2, g2, n2) => some (.tup [.dat (z3f x0 L1 L2).length (Zz (z3f x0 L1 L2)), .bool (y6x x0 L1 L2)], isT R6 n1 g1 && (isT R6 n2 g2 && (z8i x0 L1 L2)))
  | _, _ => none
 | _ => none
theorem fJs_ok {S : Specs} (hS : Zu prog S) : Zu prog (S.with v0u fJs) := by
 refine v5w hS (by kernel_rfl) fun args v h => ?_
 unfold fJs at h
 split at h
 ·rename_i x0 a1 a2
  split at h
  ·rename_i L1 g1 n1 L2 g2 n2 e1 e2
   simp only [Option.some.injEq, Prod.mk.injEq, Bool.and_eq_true] at h
   obtain ⟨rfl, ho1, ho2, hw⟩ := h
   obtain ⟨N, hN⟩ := v3u x0 L1 L2 hw
   refine ⟨_, x0f (jsO x0 L1 L2), (.cons (.refl _) (.cons (asL_le e1 ho1) (.cons (asL_le e2 ho2) .nil))), ?_, w4g x0 L1 L2 N _ hN, 3, ?_⟩
   ·unfold z3f y6x
    cases jsO x0 L1 L2 with
    | none => exact fun ρ u hu => z6v (.cons (z1k R6) (RLe.refl _)) ρ u hu
    | some out => exact fun ρ u hu => hu
   ·cases jsO x0 L1 L2 <;> rfl
  ·cases h
 ·cases h
def T4 : Specs := T3.with v0u fJs
theorem T4_ok : Zu prog T4 := fJs_ok z6q
end Go.Am
namespace Go.Am
open Go.Proofs.Tryz
open Go.Proofs Go.Sort Go.Shelf Go.RowKit Go.Lib
def v7b (x : E3) : List Value := y2v x.1
theorem v7a (l : List R3) (h : y5j l = true) : Go.Sort.flatK v7b 3 (y5k l h).toArray = Go.Sort.flatK y2v 3 l.toArray := by
 have hl := Ju l h
 unfold Go.Sort.flatK
 rw [show (y5k l h).toArray.size = l.toArray.size by simpa using hl]
 apply Array.ext
 ·simp
 ·intro t h1 h2
  simp only [Array.getElem_map, Array.getElem_range]
  have ht : t < l.length * 3 := by simpa using h1
  have hq : t / 3 < l.length := by omega
  congr 1
  rw [getElem!_pos (y5k l h).toArray (t / 3) (by simpa [hl] using hq), getElem!_pos l.toArray (t / 3) (by simpa using hq)]
  unfold v7b
  congr 1
  have := z8v l h
  have e := congrArg (fun z : List R3 => z[t / 3]?) this
  simp only [List.getElem?_map] at e
  rw [List.getElem?_eq_getElem (by rw [hl]; exact hq), List.getElem?_eq_getElem hq] at e
  simpa using e
theorem w6s (d : Array E3) : Go.Sort.flatK v7b 3 d = Go.Sort.flatK y2v 3 (d.toList.map Subtype.val).toArray := by
 unfold Go.Sort.flatK
 rw [show d.size = (d.toList.map Subtype.val).toArray.size by simp]
 apply Array.ext
 ·simp
 ·intro t h1 h2
  simp only [Array.getElem_map, Array.getElem_range]
  have ht : t < d.size * 3 := by simpa using h1
  have hq : t / 3 < d.size := by omega
  congr 1
  rw [getElem!_pos d (t / 3) hq, getElem!_pos (d.toList.map Subtype.val).toArray (t / 3) (by simpa using hq)]
  simp [v7b]
theorem y6r (l : List R3) : y3y l.length (z3n (cvT l)).length = true := Uy (by
 rw [Zb]
 by_cases h : y5j l = true
 ·exact (Qp l h).1.length_eq.symm
 ·unfold z3n; rw [dif_neg h])
theorem isAgg3 : ∀ w, (isAgg (Tryz.sortEnd_ren.t 24)).run prog w = .ok true w := fun w => by rfl
theorem size3 : ∀ w, (Go.sizeOf (Tryz.sortEnd_ren.t 24)).run prog w = .ok 3 w := fun w => by rfl
theorem x8c : y8b prog v0p (x3v R3 z3n y5j x3d) := by
 refine w1x (fun L => ?_) (fun blk off cap L w hb hH fK hsz => ?_) fun p cap fv w => AnyF.slices_SortFunc_none Tryz.sortEnd p cap fv w
 ·by_cases h : y5j L = true
  ·exact (Qp L h).1.length_eq
  ·unfold z3n; rw [dif_neg h]
 ·have eg : ∀ args w, (callFunc 193 args).run prog w = .ok (.enter 193 args) w := enters_of Tryz.func193 (by kernel_rfl) rfl
  have hcmp : CmpLays prog 193 #[] v7b 3 cf3 blk off (y5k L hb).toArray.size w := fun m os dk _ x y => by
   have hx := of_decide_eq_true x.2
   have hy := of_decide_eq_true y.2
   exact Tryz.cmpEnd x.1.a x.1.b x.1.c y.1.a y.1.b y.1.c hx hy _
  have hH' : HoldsK v7b 3 w blk off (y5k L hb).toArray := by
   unfold HoldsK
   rw [v7a L hb]; exact hH
  have hcon := AnyQ.slices_SortFunc_eq Tryz.sortEnd 3 isAgg3 size3 v7b (fun x => y0p x.1) (fun x v hv => by
   obtain ⟨a, ha, rfl⟩ := List.mem_map.1 hv
   have : x0h a = true := List.all_eq_true.1 (v2m.num x.1) a ha
   cases a <;> first | rfl | (simp [x0h] at this; done)) cf3 swo3 193 #[] blk off cap (y5k L hb).toArray w eg hcmp hH' fK (by simpa [Ju] using hsz)
  have hs : (y5k L hb).toArray.size = L.length := by simp [Ju]
  rw [hs] at hcon
  refine Calls.mono hcon fun e w' ⟨he, n, os, hw⟩ => ⟨he, n, os, ?_⟩
  rw [hw]
  unfold sortWorldK putRowK
  rw [w6s]
  unfold z3n
  rw [dif_pos hb]
  rfl
def Ye (zs : List Int) : List Int := zs.mergeSort fun x y => decide (x ≤ y)
theorem x8b : y8b prog nSort (fRow Ye) :=
 v7c (fun zs => List.length_mergeSort zs) (fun blk off cap zs w hH hb hz => Tryz.slices_Sort_int blk off cap zs w hH hb hz) fun p cap w => Tryz.slices_Sort_int_none p cap w
def Xy (zs : List Int) : List Int := compact zs ++ List.replicate (zs.length - (compact zs).length) 0
def w8i (zs : List Int) : Nat := (compact zs).length
theorem Wi (zs : List Int) : (Xy zs).length = zs.length := by have := compact_length_le zs; simp [Xy]; omega
theorem Qc (n : Nat) (c : Nat → Int) : y3y n (Xy (Zg n c)).length = true := Uy (by rw [Wi]; simp [Zg])
theorem w1h (w : World) : grow w #[] = w := by simp [grow]
theorem x1l : y8b prog x3f (fCut Xy w8i) :=
 v7d (fun zs => by have := compact_length_le zs; simp [Xy]; omega) (fun zs => compact_length_le zs)
  (fun blk off cap zs w hH hb hz eG => (Tryz.slices_Compact_int blk off cap zs w hH (by omega) eG).mono fun e w' ⟨he, q, hw⟩ => ⟨he, q, #[], by rw [hw, w1h]; rfl⟩)
  fun p cap w => Tryz.slices_Compact_int_empty p cap w
def T5 : Specs := ((T4.withE v0p (x3v R3 z3n y5j x3d)).withE nSort (fRow Ye)).withE x3f (fCut Xy w8i)
theorem Jt : Zu prog T5 := y3d (y3d (y3d T4_ok (by kernel_rfl) x8c) (by kernel_rfl) x8b) (by kernel_rfl) x1l
end Go.Am
namespace Go.Am
open Go.Proofs.Tryz
open Go.Proofs
-- h2: index into an array (choices [true, true, false, false])
-- h2: index into an array (choices [true, false, true, false, false])
-- h2: index into an array (choices [true, false, false, true, true, false, false])
-- h2: index into an array (choices [true, false, false, true, false, false, false])
-- h2: index into an array (choices [true, false, false, false, false, false])
inductive spmS where
 | h0 (v8 : Int)
 | h1 (v3 : List R3) (v17 : Int)
 | h2 (v5 : List R3) (v6 : Int) (v7 : Int) (aA : Int) (cK : Int) (aB : Int) (aC : Bool) (aF : List R2)
def spmC (l0 : List R2) : spmS → Cfg
 | .h0 v8 => ⟨⟨19, 0, true⟩, none, (Za prog 195 [1, 0, 1, 0, 0] 0), none, (Zy prog 3), ⟨Yk [(0, (.dat l0.length (Zz l0))), (1, (.fn 188 [])), (7, (ii (l0.length : Int))), (8, (ii v8))], Vn [] 0, 0, [], true⟩, [⟨⟨9, 0, true⟩, (Vk prog 187 [1, 0] 2), (Za prog 187 [1, 0] 1), none, (Zy prog 3), Yk [(5, (.dat l0.length (Zz l0))), (6, (.fn 188 []))]⟩, ⟨⟨11, 0, true⟩, (Vk prog 174 [1, 1, 0, 0] 1), (Za prog 174 [1, 1, 0, 0] 1), none, (Zy prog 77), Yk [(0, (.dat l0.length (Zz l0))), (7, (.dat l0.length (Zz l0)))]⟩], .leaf⟩
 | .h1 v3 v17 => ⟨⟨38, 0, true⟩, none, (Za prog 185 [1, 1, 0, 1, 0, 0, 1, 1, 0, 0, 1, 1, 0, 0] 0), none, (Zy prog 15), ⟨Yk [(3, (.sla 7 3 0 v3.length (.un 3))), (4, (ii 0)), (8, (.sl 0 0 2 (.un 1))), (9, (ii 2)), (10, (ii 0)), (15, (.dat l0.length (Zz l0))), (16, (ii (l0.length : Int))), (17, (ii v17))], Vn [⟨[(.dat l0.length (Zz l0)), .nils], 158, none⟩, ⟨[(.fn 189 [])], 198, none⟩, ⟨[(ii 0), (ii 0)], 235, none⟩, ⟨[.nils], 158, none⟩, ⟨[(ii 0)], 3, none⟩, ⟨[(.bool false)], 4, none⟩, ⟨[(.fn 184 [(.ptr 5 0), (.ptr 4 0), (.ptr 3 0)])], 236, none⟩, ⟨rows v3.length (Zz v3), 240, some ⟨3, v3.length, (Zz v3)⟩⟩] 0, 8, [], true⟩, [⟨⟨42, 0, true⟩, (Vk prog 170 [1, 1, 1, 1, 1, 0, 0] 3), (Za prog 170 [1, 1, 1, 1, 1, 0, 0] 1), none, (Zy prog 4), Yk [(5, (.ptr 1 0)), (6, .nils), (7, (.ptr 2 0)), (8, (.ptr 3 0)), (9, (.ptr 4 0)), (10, (.ptr 5 0)), (11, (.ptr 6 0)), (16, (.sl 0 0 2 (.un 1)))]⟩, ⟨⟨11, 0, true⟩, (Vk prog 174 [1, 1, 1, 0] 1), (Za prog 174 [1, 1, 1, 0] 1), none, (Zy prog 77), Yk [(9, (.dat l0.length (Zz l0)))]⟩], .leaf⟩
 | .h2 v5 v6 v7 aA cK aB aC aF => ⟨⟨16, 0, true⟩, none, (Za prog 197 [1, 0, 0] 0), none, [], ⟨Yk [(0, (.yld 0)), (5, (.sla 7 3 0 v5.length (.un 3))), (6, (ii v6)), (7, (ii v7))], z4j [(1, ⟨[(.fn 189 [])], 198, none⟩), (2, ⟨[(ii aA), (ii cK)], 235, none⟩), (3, ⟨[(ii aB)], 3, none⟩), (4, ⟨[(.bool aC)], 4, none⟩), (5, ⟨[(.fn 184 [(.ptr 4 0), (.ptr 3 0), (.ptr 6 0)])], 236, none⟩), (6, ⟨[(.sla 8 2 0 aF.length (.un 2))], 158, none⟩), (7, ⟨rows v5.length (Zz v5), 240, some ⟨3, v5.length, (Zz v5)⟩⟩), (8, ⟨rows aF.length (Zz aF), 110, some ⟨2, aF.length, (Zz aF)⟩⟩)], 9, [], true⟩, [⟨⟨42, 0, true⟩, none, (.inRangeFunc 0 :: (Za prog 170 [1, 1, 1, 1, 1, 0, 1, 0] 1)), none, (Zy prog 4), Yk [(6, .nils), (8, (.ptr 6 0))]⟩, ⟨⟨11, 0, true⟩, (Vk prog 174 [1, 1, 1, 0] 1), (Za prog 174 [1, 1, 1, 0] 1), none, (Zy prog 77), Yk [(9, (.dat l0.length (Zz l0)))]⟩], (z4l [(0, ⟨.ready, none, 42, Yk [(5, (.ptr 1 0)), (7, (.ptr 2 0)), (9, (.ptr 3 0)), (10, (.ptr 4 0)), (11, (.ptr 5 0))], [18], (Xi prog 170 [1, 1, 1, 1, 1, 0, 1, 0, 0]), (Xi prog 170 [1, 1, 1, 1, 1, 0, 1, 0, 1])⟩)])⟩
def spmN0 : List (Option (List Nat)) := [some [0, 1, 7, 8], some [5, 6], some [0, 7]]
def spmM0 : List (Option (List Nat)) := []
def x7z : List (Option (List Nat)) := [some [3, 4, 8, 9, 10, 15, 16, 17], some [5, 6, 7, 8, 9, 10, 11, 16], some [9]]
def x8a : List (Option (List Nat)) := []
def z9b : List (Option (List Nat)) := [some [0, 5, 6, 7], some [6, 8], some [9]]
def z9c : List (Option (List Nat)) := [some [5, 7, 9, 10, 11], none, none, none, none, none, none, none, none]
def Vm (l0 : List R2) : spmS → Xn spmS
 | .h0 v8 => (bif (decide (v8 < (l0.length : Int))) then (bif ((decide (0 ≤ v8 ∧ v8 < (l0.length : Int))) && true) then (bif (decide ((rd l0 v8.toNat).a < (rd l0 v8.toNat).b)) then (bif (decide ((rd l0 v8.toNat).a ≥ (-1000000))) then (bif (!(decide ((rd l0 v8.toNat).b ≤ 1000000))) then (bif (decide (v8 ≥ 0)) then (.ret [.nils, (.int .i64 8)]) else (.to (.h1 ([] : List R3) 0))) else (.to (.h0 (IntKind.wrap .i64 (v8 + 1))))) else (bif (decide (v8 ≥ 0)) then (.ret [.nils, (.int .i64 8)]) else (.to (.h1 ([] : List R3) 0)))) else (bif (decide (v8 ≥ 0)) then (.ret [.nils, (.int .i64 8)]) else (.to (.h1 ([] : List R3) 0)))) else .stuck) else (.to (.h1 ([] : List R3) 0)))
 | .h1 v3 v17 => (bif (decide (v17 < (l0.length : Int))) then (bif ((decide (0 ≤ v17 ∧ v17 < (l0.length : Int))) && true) then (bif (Nat.beq 3 3 && ((decide (0 + v3.length = v3.length)) && decide ((v3.length + 2 + 1) * (24 + 1) ≤ Jp))) then (.to (.h1 (v3 ++ [(R3.mk (rd l0 v17.toNat).a 0 1), (R3.mk (rd l0 v17.toNat).b 0 (-1))]) (IntKind.wrap .i64 (v17 + 1)))) else .stuck) else .stuck) else (bif (y5j (cvT v3)) then (bif (decide (v3.length < 4611686018427387904)) then (bif (decide (v3.length = v3.length)) then (.to (.h2 (z3n (cvT v3)) (v3.length : Int) 0 0 0 0 false ([] : List R2))) else .stuck) else .stuck) else .stuck))
 | .h2 v5 v6 v7 aA cK aB aC aF => (bif (decide (v7 < v6)) then (bif ((decide (0 ≤ v7 ∧ v7 < (v5.length : Int))) && true) then (bif (decide ((0 + v7.toNat) < v5.length)) then (bif (!aC) then (bif (decide ((rd v5 (0 + v7.toNat)).b = Int.ofNat 0)) then (.to (.h2 v5 v6 (IntKind.wrap .i64 (v7 + 1)) (IntKind.wrap .i64 (aA + (rd v5 (0 + v7.toNat)).c)) cK (rd v5 (0 + v7.toNat)).a (x3r (decide ((IntKind.wrap .i64 (aA + (rd v5 (0 + v7.toNat)).c)) > 0)) (decide (cK > 0))) aF)) else (bif (decide ((rd v5 (0 + v7.toNat)).b = Int.ofNat 1)) then (.to (.h2 v5 v6 (IntKind.wrap .i64 (v7 + 1)) aA (IntKind.wrap .i64 (cK + (rd v5 (0 + v7.toNat)).c)) (rd v5 (0 + v7.toNat)).a (x3r (decide (aA > 0)) (decide ((IntKind.wrap .i64 (cK + (rd v5 (0 + v7.toNat)).c)) > 0))) aF)) else .stuck)) else (bif (aB == (rd v5 (0 + v7.toNat)).a) then (bif (decide ((rd v5 (0 + v7.toNat)).b = Int.ofNat 0)) then (.to (.h2 v5 v6 (IntKind.wrap .i64 (v7 + 1)) (IntKind.wrap .i64 (aA + (rd v5 (0 + v7.toNat)).c)) cK (rd v5 (0 + v7.toNat)).a (x3r (decide ((IntKind.wrap .i64 (aA + (rd v5 (0 + v7.toNat)).c)) > 0)) (decide (cK > 0))) aF)) else (bif (decide ((rd v5 (0 + v7.toNat)).b = Int.ofNat 1)) then (.to (.h2 v5 v6 (IntKind.wrap .i64 (v7 + 1)) aA (IntKind.wrap .i64 (cK + (rd v5 (0 + v7.toNat)).c)) (rd v5 (0 + v7.toNat)).a (x3r (decide (aA > 0)) (decide ((IntKind.wrap .i64 (cK + (rd v5 (0 + v7.toNat)).c)) > 0))) aF)) else .stuck)) else (bif (decide ((aF.length : Int) > 0)) then (bif ((decide (0 ≤ (IntKind.wrap .i64 ((aF.length : Int) - 1)) ∧ (IntKind.wrap .i64 ((aF.length : Int) - 1)) < (aF.length : Int))) && true) then (bif (decide ((0 + (Int.toNat (IntKind.wrap .i64 ((aF.length : Int) - 1)))) < aF.length)) then (bif ((rd aF (0 + (Int.toNat (IntKind.wrap .i64 ((aF.length : Int) - 1))))).b == aB) then (bif (decide ((rd v5 (0 + v7.toNat)).b = Int.ofNat 0)) then (.to (.h2 v5 v6 (IntKind.wrap .i64 (v7 + 1)) (IntKind.wrap .i64 (aA + (rd v5 (0 + v7.toNat)).c)) cK (rd v5 (0 + v7.toNat)).a (x3r (decide ((IntKind.wrap .i64 (aA + (rd v5 (0 + v7.toNat)).c)) > 0)) (decide (cK > 0))) (aF.set (0 + (Int.toNat (IntKind.wrap .i64 ((aF.length : Int) - 1)))) (R2.mk (rd aF (0 + (Int.toNat (IntKind.wrap .i64 ((aF.length : Int) - 1))))).a (rd v5 (0 + v7.toNat)).a)))) else (bif (decide ((rd v5 (0 + v7.toNat)).b = Int.ofNat 1)) then (.to (.h2 v5 v6 (IntKind.wrap .i64 (v7 + 1)) aA (IntKind.wrap .i64 (cK + (rd v5 (0 + v7.toNat)).c)) (rd v5 (0 + v7.toNat)).a (x3r (decide (aA > 0)) (decide ((IntKind.wrap .i64 (cK + (rd v5 (0 + v7.toNat)).c)) > 0))) (aF.set (0 + (Int.toNat (IntKind.wrap .i64 ((aF.length : Int) - 1)))) (R2.mk (rd aF (0 + (Int.toNat (IntKind.wrap .i64 ((aF.length : Int) - 1))))).a (rd v5 (0 + v7.toNat)).a)))) else .stuck)) else (bif (Nat.beq 2 2 && ((decide (0 + aF.length = aF.length)) && decide ((aF.length + 1 + 1) * (16 + 1) ≤ Jp))) then (bif (decide ((rd v5 (0 + v7.toNat)).b = Int.ofNat 0)) then (.to (.h2 v5 v6 (IntKind.wrap .i64 (v7 + 1)) (IntKind.wrap .i64 (aA + (rd v5 (0 + v7.toNat)).c)) cK (rd v5 (0 + v7.toNat)).a (x3r (decide ((IntKind.wrap .i64 (aA + (rd v5 (0 + v7.toNat)).c)) > 0)) (decide (cK > 0))) (aF ++ [(R2.mk aB (rd v5 (0 + v7.toNat)).a)]))) else (bif (decide ((rd v5 (0 + v7.toNat)).b = Int.ofNat 1)) then (.to (.h2 v5 v6 (IntKind.wrap .i64 (v7 + 1)) aA (IntKind.wrap .i64 (cK + (rd v5 (0 + v7.toNat)).c)) (rd v5 (0 + v7.toNat)).a (x3r (decide (aA > 0)) (decide ((IntKind.wrap .i64 (cK + (rd v5 (0 + v7.toNat)).c)) > 0))) (aF ++ [(R2.mk aB (rd v5 (0 + v7.toNat)).a)]))) else .stuck)) else .stuck)) else .stuck) else .stuck) else (bif (Nat.beq 2 2 && ((decide (0 + aF.length = aF.length)) && decide ((aF.length + 1 + 1) * (16 + 1) ≤ Jp))) then (bif (decide ((rd v5 (0 + v7.toNat)).b = Int.ofNat 0)) then (.to (.h2 v5 v6 (IntKind.wrap .i64 (v7 + 1)) (IntKind.wrap .i64 (aA + (rd v5 (0 + v7.toNat)).c)) cK (rd v5 (0 + v7.toNat)).a (x3r (decide ((IntKind.wrap .i64 (aA + (rd v5 (0 + v7.toNat)).c)) > 0)) (decide (cK > 0))) (aF ++ [(R2.mk aB (rd v5 (0 + v7.toNat)).a)]))) else (bif (decide ((rd v5 (0 + v7.toNat)).b = Int.ofNat 1)) then (.to (.h2 v5 v6 (IntKind.wrap .i64 (v7 + 1)) aA (IntKind.wrap .i64 (cK + (rd v5 (0 + v7.toNat)).c)) (rd v5 (0 + v7.toNat)).a (x3r (decide (aA > 0)) (decide ((IntKind.wrap .i64 (cK + (rd v5 (0 + v7.toNat)).c)) > 0))) (aF ++ [(R2.mk aB (rd v5 (0 + v7.toNat)).a)]))) else .stuck)) else .stuck)))) else .stuck) else .stuck) else (.ret [(.dat aF.length (Zz aF)), (.int .i64 0)]))
def z7v (l0 : List R2) : Xn spmS := (bif (decide ((l0.length : Int) > 400)) then (.ret [.nils, (.int .i64 4)]) else (.to (.h0 0)))
theorem x4p (l0 : List R2) : ∀ s, Ww prog (Zy prog 174) (spmC l0) (spmC l0 s) (Vm l0 s)
 | .h0 v8 => (lb (fun k0 => (lo fun aH => (lb (fun k1 => (lb (fun k2 => (lb (fun k3 => (lb (fun k4 => (lr 11 174 [1, 1, 0, 1, 0, 0] 1 77 [(2, .nils), (3, (ii 8))] (sl Jt 79 [] ⟨[], [], [some [2, 3]], []⟩ ⟨[], [], []⟩ (trs 9 []) (tt k4 (tt k3 (tt k2 (tt k1 (ww aH (tt k0 nn))))))))) (fun k4 => (sl Jt 154 [(240, 3, Zz ([] : List R3))] ⟨[8, 2, 3, 4, 5, 6, 7, 9], [], x7z, x8a⟩ ⟨[(3, .grow 7 3)], [], []⟩ (trs 8 [false, true]) (pp (fl ([] : List R3) nn) (tt k4 (tt k3 (tt k2 (tt k1 (ww aH (tt k0 nn))))))))))) (fun k3 => (sl Jt 69 [] ⟨[], [], spmN0, spmM0⟩ ⟨[], [], []⟩ (trs 7 [false]) (tt k3 (tt k2 (tt k1 (ww aH (tt k0 nn))))))))) (fun k2 => (lb (fun k3 => (lr 11 174 [1, 1, 0, 1, 0, 0] 1 77 [(2, .nils), (3, (ii 8))] (sl Jt 79 [] ⟨[], [], [some [2, 3]], []⟩ ⟨[], [], []⟩ (trs 4 [false, false, false, true, true]) (tt k3 (tt k2 (tt k1 (ww aH (tt k0 nn)))))))) (fun k3 => (sl Jt 154 [(240, 3, Zz ([] : List R3))] ⟨[8, 2, 3, 4, 5, 6, 7, 9], [], x7z, x8a⟩ ⟨[(3, .grow 7 3)], [], []⟩ (trs 4 [false, false, false, true, false, true]) (pp (fl ([] : List R3) nn) (tt k3 (tt k2 (tt k1 (ww aH (tt k0 nn)))))))))))) (fun k1 => (lb (fun k2 => (lr 11 174 [1, 1, 0, 1, 0, 0] 1 77 [(2, .nils), (3, (ii 8))] (sl Jt 79 [] ⟨[], [], [some [2, 3]], []⟩ ⟨[], [], []⟩ [true, false, false, false, false, false, false, true, true] (tt k2 (tt k1 (ww aH (tt k0 nn))))))) (fun k2 => (sl Jt 154 [(240, 3, Zz ([] : List R3))] ⟨[8, 2, 3, 4, 5, 6, 7, 9], [], x7z, x8a⟩ ⟨[(3, .grow 7 3)], [], []⟩ [true, false, false, false, false, false, false, true, false, true] (pp (fl ([] : List R3) nn) (tt k2 (tt k1 (ww aH (tt k0 nn)))))))))))) (fun k0 => (sl Jt 98 [(240, 3, Zz ([] : List R3))] ⟨[6, 0, 1, 2, 3, 4, 5, 7], [], x7z, x8a⟩ ⟨[(3, .grow 7 3)], [], []⟩ [false, false, true] (pp (fl ([] : List R3) nn) (tt k0 nn)))))
 | .h1 v3 v17 => (lb (fun k0 => (lo fun o0 => (lo fun o1 => (sl Jt 36 [] ⟨[0, 1, 2, 3, 4, 5, 6, 10], [], x7z, x8a⟩ ⟨[(3, .len (v3 ++ [(R3.mk (rd l0 (tn v17)).a 0 1), (R3.mk (rd l0 (tn v17)).b 0 (-1))]).length)], (kpB 7 [.rowed 3 (v3 ++ [(R3.mk (rd l0 (tn v17)).a 0 1), (R3.mk (rd l0 (tn v17)).b 0 (-1))]).length (Zz (v3 ++ [(R3.mk (rd l0 (tn v17)).a 0 1), (R3.mk (rd l0 (tn v17)).b 0 (-1))]))]), []⟩ [true] (pp (xL (v3.length + 2) (v3 ++ [(R3.mk (rd l0 (tn v17)).a 0 1), (R3.mk (rd l0 (tn v17)).b 0 (-1))]).length) (pp (xL (v3.length + 2) (v3 ++ [(R3.mk (rd l0 (tn v17)).a 0 1), (R3.mk (rd l0 (tn v17)).b 0 (-1))]).length) (pp (xS (v3.length + 2) (Zd (Zz v3) 0 v3.length 3 [(ii (rd l0 (tn v17)).a), (ii 0), (ii 1), (ii (rd l0 (tn v17)).b), (ii 0), (ii (-1))]) (Zz (v3 ++ [(R3.mk (rd l0 (tn v17)).a 0 1), (R3.mk (rd l0 (tn v17)).b 0 (-1))]))) (pp (pp (xF (Zd (Zz v3) 0 v3.length 3 [(ii (rd l0 (tn v17)).a), (ii 0), (ii 1), (ii (rd l0 (tn v17)).b), (ii 0), (ii (-1))])) nn) (ww o1 (ww o0 (tt k0 nn))))))))))) (fun k0 => (lo fun o0 => (lo fun o1 => (lo fun o2 => (sl Jt 92 [(110, 2, Zz ([] : List R2))] ⟨[9, 1, 2, 4, 5, 6, 3, 7, 10], [], z9b, z9c⟩ ⟨[(5, .len (z3n (cvT v3)).length)], (kpB 6 [.cells [.grow 8 2], .rowed 3 (z3n (cvT v3)).length (Zz (z3n (cvT v3))), .keep]), []⟩ [false, true, false, false] (pp (xL v3.length (z3n (cvT v3)).length (by first | exact y6r _ | exact Uy rfl)) (pp (xL v3.length (z3n (cvT v3)).length (by first | exact y6r _ | exact Uy rfl)) (pp (xS v3.length (Zz (z3n (cvT v3))) (Zz (z3n (cvT v3)))) (pp (fl (z3n (cvT v3)) (fl ([] : List R2) nn)) (pp (pp (xG (Nat.beq 3 3)) (pp (xG (Nat.beq 3 3)) (pp (xG (Nat.beq 0 0)) (pp (pp (xG (decide (v3.length = v3.length))) (pp (xr v3) (xG (decide (v3.length < 4611686018427387904))))) (xG (y5j (cvT v3))))))) (tt k0 nn))))))))))))
 | .h2 v5 v6 v7 aA cK aB aC aF => (lb (fun k0 => (lo fun aH => (lo fun bK => (lb (fun k1 => (lb (fun k2 => (sl Jt 62 [] ⟨(List.range 9), [], z9b, z9c⟩ ⟨[], [], []⟩ (trs 5 [false, false, false]) (pp (fl v5 (fl aF nn)) (ww k2 (tt k1 (ww bK (ww aH (tt k0 nn)))))))) (fun k2 => (lb (fun k3 => (sl Jt 62 [] ⟨(List.range 9), [], z9b, z9c⟩ ⟨[], [], []⟩ (trs 6 [false, true, false, false]) (pp (fl v5 (fl aF nn)) (ww k3 (tt k1 (ww bK (ww aH (tt k0 nn)))))))) (fun k3 => trivial))))) (fun k1 => (lb (fun k2 => (lb (fun k3 => (sl Jt 62 [] ⟨(List.range 9), [], z9b, z9c⟩ ⟨[], [], []⟩ [true, false, false, false, true, false, false, false] (pp (fl v5 (fl aF nn)) (ww k3 (tt k2 (tt k1 (ww bK (ww aH (tt k0 nn))))))))) (fun k3 => (lb (fun k4 => (sl Jt 62 [] ⟨(List.range 9), [], z9b, z9c⟩ ⟨[], [], []⟩ [true, false, false, false, true, true, false, true, false, false] (pp (fl v5 (fl aF nn)) (ww k4 (tt k2 (tt k1 (ww bK (ww aH (tt k0 nn))))))))) (fun k4 => trivial))))) (fun k2 => (lb (fun k3 => (lo fun cO => (lo fun dS => (lb (fun k4 => (lb (fun k5 => (sl Jt 81 [] ⟨(List.range 9), [], z9b, z9c⟩ ⟨[], (kpB 6 [.cells [.len (aF.set (0 + (tn (wr ((aF.length : Int) - 1)))) (R2.mk (rd aF (0 + (tn (wr ((aF.length : Int) - 1))))).a (rd v5 (0 + (tn v7))).a)).length], .keep, .rowed 2 (aF.set (0 + (tn (wr ((aF.length : Int) - 1)))) (R2.mk (rd aF (0 + (tn (wr ((aF.length : Int) - 1))))).a (rd v5 (0 + (tn v7))).a)).length (Zz (aF.set (0 + (tn (wr ((aF.length : Int) - 1)))) (R2.mk (rd aF (0 + (tn (wr ((aF.length : Int) - 1))))).a (rd v5 (0 + (tn v7))).a)))]), []⟩ [true, false, false, false, false, true, true, true, true, true, true, true, true, true, false, false, false] (pp (xL aF.length (aF.set (0 + (tn (wr ((aF.length : Int) - 1)))) (R2.mk (rd aF (0 + (tn (wr ((aF.length : Int) - 1))))).a (rd v5 (0 + (tn v7))).a)).length) (pp (xL aF.length (aF.set (0 + (tn (wr ((aF.length : Int) - 1)))) (R2.mk (rd aF (0 + (tn (wr ((aF.length : Int) - 1))))).a (rd v5 (0 + (tn v7))).a)).length) (pp (xS aF.length (Xc (Zz aF) (0 + (tn (wr ((aF.length : Int) - 1)))) 1 [(ii (rd v5 (0 + (tn v7))).a)]) (Zz (aF.set (0 + (tn (wr ((aF.length : Int) - 1)))) (R2.mk (rd aF (0 + (tn (wr ((aF.length : Int) - 1))))).a (rd v5 (0 + (tn v7))).a)))) (pp (fl v5 (pp (xF (Xc (Zz aF) (0 + (tn (wr ((aF.length : Int) - 1)))) 1 [(ii (rd v5 (0 + (tn v7))).a)])) nn)) (ww k5 (ww dS (ww cO (tt k4 (ww dS (ww cO (tt k3 (tt k2 (tt k1 (ww bK (ww aH (tt k0 nn)))))))))))))))))) (fun k5 => (lb (fun k6 => (sl Jt 81 [] ⟨(List.range 9), [], z9b, z9c⟩ ⟨[], (kpB 6 [.cells [.len (aF.set (0 + (tn (wr ((aF.length : Int) - 1)))) (R2.mk (rd aF (0 + (tn (wr ((aF.length : Int) - 1))))).a (rd v5 (0 + (tn v7))).a)).length], .keep, .rowed 2 (aF.set (0 + (tn (wr ((aF.length : Int) - 1)))) (R2.mk (rd aF (0 + (tn (wr ((aF.length : Int) - 1))))).a (rd v5 (0 + (tn v7))).a)).length (Zz (aF.set (0 + (tn (wr ((aF.length : Int) - 1)))) (R2.mk (rd aF (0 + (tn (wr ((aF.length : Int) - 1))))).a (rd v5 (0 + (tn v7))).a)))]), []⟩ [true, false, false, false, false, true, true, true, true, true, true, true, true, true, true, false, true, false, false] (pp (xL aF.length (aF.set (0 + (tn (wr ((aF.length : Int) - 1)))) (R2.mk (rd aF (0 + (tn (wr ((aF.length : Int) - 1))))).a (rd v5 (0 + (tn v7))).a)).length) (pp (xL aF.length (aF.set (0 + (tn (wr ((aF.length : Int) - 1)))) (R2.mk (rd aF (0 + (tn (wr ((aF.length : Int) - 1))))).a (rd v5 (0 + (tn v7))).a)).length) (pp (xS aF.length (Xc (Zz aF) (0 + (tn (wr ((aF.length : Int) - 1)))) 1 [(ii (rd v5 (0 + (tn v7))).a)]) (Zz (aF.set (0 + (tn (wr ((aF.length : Int) - 1)))) (R2.mk (rd aF (0 + (tn (wr ((aF.length : Int) - 1))))).a (rd v5 (0 + (tn v7))).a)))) (pp (fl v5 (pp (xF (Xc (Zz aF) (0 + (tn (wr ((aF.length : Int) - 1)))) 1 [(ii (rd v5 (0 + (tn v7))).a)])) nn)) (ww k6 (ww dS (ww cO (tt k4 (ww dS (ww cO (tt k3 (tt k2 (tt k1 (ww bK (ww aH (tt k0 nn)))))))))))))))))) (fun k6 => trivial))))) (fun k4 => (lo fun dV => (lb (fun k5 => (sl Jt 81 [] ⟨[0, 1, 2, 3, 4, 5, 6, 7, 12], [], z9b, z9c⟩ ⟨[], (kpB 6 [.cells [.len (aF ++ [(R2.mk aB (rd v5 (0 + (tn v7))).a)]).length], .keep, .rowed 2 (aF ++ [(R2.mk aB (rd v5 (0 + (tn v7))).a)]).length (Zz (aF ++ [(R2.mk aB (rd v5 (0 + (tn v7))).a)]))]), []⟩ [true, false, false, false, false, true, true, true, true, true, true, true, true, false, false, false, false] (pp (xL (aF.length + 1) (aF ++ [(R2.mk aB (rd v5 (0 + (tn v7))).a)]).length) (pp (xL (aF.length + 1) (aF ++ [(R2.mk aB (rd v5 (0 + (tn v7))).a)]).length) (pp (xS (aF.length + 1) (Zd (Zz aF) 0 aF.length 2 [(ii aB), (ii (rd v5 (0 + (tn v7))).a)]) (Zz (aF ++ [(R2.mk aB (rd v5 (0 + (tn v7))).a)]))) (pp (fl v5 (pp (xF (Zd (Zz aF) 0 aF.length 2 [(ii aB), (ii (rd v5 (0 + (tn v7))).a)])) nn)) (ww k5 (ww dV (tt k4 (ww dS (ww cO (tt k3 (tt k2 (tt k1 (ww bK (ww aH (tt k0 nn))))))))))))))))) (fun k5 => (lb (fun k6 => (sl Jt 81 [] ⟨[0, 1, 2, 3, 4, 5, 6, 7, 12], [], z9b, z9c⟩ ⟨[], (kpB 6 [.cells [.len (aF ++ [(R2.mk aB (rd v5 (0 + (tn v7))).a)]).length], .keep, .rowed 2 (aF ++ [(R2.mk aB (rd v5 (0 + (tn v7))).a)]).length (Zz (aF ++ [(R2.mk aB (rd v5 (0 + (tn v7))).a)]))]), []⟩ [true, false, false, false, false, true, true, true, true, true, true, true, true, false, true, false, true, false, false] (pp (xL (aF.length + 1) (aF ++ [(R2.mk aB (rd v5 (0 + (tn v7))).a)]).length) (pp (xL (aF.length + 1) (aF ++ [(R2.mk aB (rd v5 (0 + (tn v7))).a)]).length) (pp (xS (aF.length + 1) (Zd (Zz aF) 0 aF.length 2 [(ii aB), (ii (rd v5 (0 + (tn v7))).a)]) (Zz (aF ++ [(R2.mk aB (rd v5 (0 + (tn v7))).a)]))) (pp (fl v5 (pp (xF (Zd (Zz aF) 0 aF.length 2 [(ii aB), (ii (rd v5 (0 + (tn v7))).a)])) nn)) (ww k6 (ww dV (tt k4 (ww dS (ww cO (tt k3 (tt k2 (tt k1 (ww bK (ww aH (tt k0 nn))))))))))))))))) (fun k6 => trivial)))))))))) (fun k3 => (lo fun cO => (lb (fun k4 => (sl Jt 81 [] ⟨[0, 1, 2, 3, 4, 5, 6, 7, 12], [], z9b, z9c⟩ ⟨[], (kpB 6 [.cells [.len (aF ++ [(R2.mk aB (rd v5 (0 + (tn v7))).a)]).length], .keep, .rowed 2 (aF ++ [(R2.mk aB (rd v5 (0 + (tn v7))).a)]).length (Zz (aF ++ [(R2.mk aB (rd v5 (0 + (tn v7))).a)]))]), []⟩ [true, false, false, false, false, false, false, false, false, false, false, false, false, false, false, false, false] (pp (xL (aF.length + 1) (aF ++ [(R2.mk aB (rd v5 (0 + (tn v7))).a)]).length) (pp (xL (aF.length + 1) (aF ++ [(R2.mk aB (rd v5 (0 + (tn v7))).a)]).length) (pp (xS (aF.length + 1) (Zd (Zz aF) 0 aF.length 2 [(ii aB), (ii (rd v5 (0 + (tn v7))).a)]) (Zz (aF ++ [(R2.mk aB (rd v5 (0 + (tn v7))).a)]))) (pp (fl v5 (pp (xF (Zd (Zz aF) 0 aF.length 2 [(ii aB), (ii (rd v5 (0 + (tn v7))).a)])) nn)) (ww k4 (ww cO (tt k3 (tt k2 (tt k1 (ww bK (ww aH (tt k0 nn)))))))))))))) (fun k4 => (lb (fun k5 => (sl Jt 81 [] ⟨[0, 1, 2, 3, 4, 5, 6, 7, 12], [], z9b, z9c⟩ ⟨[], (kpB 6 [.cells [.len (aF ++ [(R2.mk aB (rd v5 (0 + (tn v7))).a)]).length], .keep, .rowed 2 (aF ++ [(R2.mk aB (rd v5 (0 + (tn v7))).a)]).length (Zz (aF ++ [(R2.mk aB (rd v5 (0 + (tn v7))).a)]))]), []⟩ [true, false, false, false, false, false, false, false, false, false, false, false, false, false, true, false, true, false, false] (pp (xL (aF.length + 1) (aF ++ [(R2.mk aB (rd v5 (0 + (tn v7))).a)]).length) (pp (xL (aF.length + 1) (aF ++ [(R2.mk aB (rd v5 (0 + (tn v7))).a)]).length) (pp (xS (aF.length + 1) (Zd (Zz aF) 0 aF.length 2 [(ii aB), (ii (rd v5 (0 + (tn v7))).a)]) (Zz (aF ++ [(R2.mk aB (rd v5 (0 + (tn v7))).a)]))) (pp (fl v5 (pp (xF (Zd (Zz aF) 0 aF.length 2 [(ii aB), (ii (rd v5 (0 + (tn v7))).a)])) nn)) (ww k5 (ww cO (tt k3 (tt k2 (tt k1 (ww bK (ww aH (tt k0 nn)))))))))))))) (fun k5 => trivial)))))))))))))) (fun k0 => (lr 11 3 [1, 1, 1, 1, 1, 1, 0] 1 77 [(2, (.dat aF.length (Zz aF))), (3, (ii 0))] (sl Jt 19 [] ⟨[], [8], [some [2, 3]], []⟩ ⟨[(2, .frz aF.length aF.length (Zz aF) (Zz aF))], [], []⟩ [false] (pp (xZ (z4q 2 2 0 aF.length aF.length (Zz aF)) aF.length (Zz aF)) (pp (xL aF.length aF.length) (pp (xS aF.length (Zz aF) (Zz aF)) (pp (fl aF nn) (tt k0 nn)))))))))
theorem y8q (l0 : List R2) : Ww prog (Zy prog 174) (spmC l0) (Zn prog 174 [(.dat l0.length (Zz l0))] true []) (z7v l0) := (lb (fun k0 => (lr 11 174 [1, 0, 1, 0, 0] 1 77 [(2, .nils), (3, (ii 4))] (sl Jt 18 [] ⟨[], [], [some [2, 3]], []⟩ ⟨[], [], []⟩ [true] (tt k0 nn)))) (fun k0 => (sl Jt 41 [] ⟨[], [], spmN0, spmM0⟩ ⟨[], [], []⟩ [false] (tt k0 nn))))
theorem w3k (l0 : List R2) (n : Nat) (vs : List AVal) (h : Yv (Vm l0) n (z7v l0) = .ret vs) : Kz prog (Zy prog 174) (Zn prog 174 [(.dat l0.length (Zz l0))] true []) vs := by
 have := Zr (x4p l0) n _ (y8q l0)
 rwa [h] at this
end Go.Am
namespace Go.Am
open Go.Proofs
def z7i (s : R2) : Bool := decide (s.a < s.b) && (decide (s.a ≥ -1000000) && decide (s.b ≤ 1000000))
def Uo (l : List R2) : List R3 := l.flatMap fun s => [⟨s.a, 0, 1⟩, ⟨s.b, 0, -1⟩]
def Qy (out : List R2) (last : Int) (inn : Bool) (at' : Int) : List R2 :=
 bif !inn then out else bif last == at' then out else
 bif decide (0 < out.length) && ((rd out (out.length - 1)).b == last) then out.set (out.length - 1) ⟨(rd out (out.length - 1)).a, at'⟩ else out ++ [⟨last, at'⟩]
def swF : List R3 → Int → Int → Bool → List R2 → List R2
 | [], _, _, _, out => out
 | e :: r, o, last, inn, out => swF r (o + e.c) e.a (decide (o + e.c > 0)) (Qy out last inn e.a)
def swV (l : List R2) : List R2 := swF (z3n (Uo l)) 0 0 false []
def Xp (l : List R2) : List R2 := bif decide (400 < l.length) then [] else bif l.all z7i then swV l else []
def w9b (l : List R2) : Int := bif decide (400 < l.length) then 4 else bif l.all z7i then 0 else 8
def z9a (l : List R2) : Bool := true
def y5s (l : List R2) : List AVal := bif decide (400 < l.length) then [.nils, .int .i64 4] else bif l.all z7i then [.dat (swV l).length (Zz (swV l)), .int .i64 0] else [.nils, .int .i64 8]
theorem z1q (l : List R2) : (Uo l).length = 2 * l.length := by
 induction l with
 | nil => rfl
 | cons r l ih => show (_ :: _ :: Uo l).length = _; simp only [List.length_cons, ih]; omega
theorem z5f (out : List R2) (last : Int) (inn : Bool) (a : Int) : (Qy out last inn a).length ≤ out.length + 1 := by
 unfold Qy
 cases inn <;> simp only [Bool.not_true, Bool.not_false, cond_true, cond_false]
 ·omega
 ·cases (last == a) <;> simp only [cond_true, cond_false]
  ·cases (decide (0 < out.length) && ((rd out (out.length - 1)).b == last)) <;> simp
  ·omega
theorem z7u (e : R3) (r : List R3) (o last : Int) (inn : Bool) (out : List R2) : swF (e :: r) o last inn out = swF r (o + e.c) e.a (decide (o + e.c > 0)) (Qy out last inn e.a) := rfl
theorem v4p {a : Int} (k : Nat) (h : a = (k : Int)) : decide (a = Int.ofNat k) = true := decide_eq_true h
section
variable (l : List R2) (hl : l.length ≤ 400)
include hl
theorem w8y (L : List R3) (hL : L.length ≤ 800) (hE : ∀ i, i < L.length → (rd L i).b = 0 ∧ ((rd L i).c = 1 ∨ (rd L i).c = -1)) : ∀ (k i : Nat) (o last : Int) (inn : Bool) (out : List R2), i + k = L.length → -(i : Int) ≤ o → o ≤ i → out.length ≤ i →
  ∃ n, Yv (Vm l) n (.to (.h2 L (L.length : Int) (i : Int) o 0 last inn out)) = .ret [.dat (swF (L.drop i) o last inn out).length (Zz (swF (L.drop i) o last inn out)), .int .i64 0]
 | 0, i, o, last, inn, out, h, ho1, ho2, hout => by
  have _uhl := hl
  refine ⟨1, ?_⟩
  rw [Zv, List.drop_eq_nil_of_le (by omega)]
  simp (disch := omega) only [Vm, Zs, cond_false, Zm, swF]
 | k + 1, i, o, last, inn, out, h, ho1, ho2, hout => by
  obtain ⟨hb, hc⟩ := hE i (by omega)
  have hcl := z5f out last inn (rd L i).a
  obtain ⟨n, hn⟩ := w8y L hL hE k (i + 1) (o + (rd L i).c) (rd L i).a (decide (o + (rd L i).c > 0)) (Qy out last inn (rd L i).a) (by omega) (by rcases hc with hc | hc <;> omega) (by rcases hc with hc | hc <;> omega) (by omega)
  refine ⟨n + 1, ?_⟩
  rw [Yc (show i < L.length by omega), Zv]
  have hf : ∀ b, x3r b (decide ((0 : Int) > 0)) = b := fun b => rfl
  have hw : IntKind.wrap .i64 (o + (rd L i).c) = o + (rd L i).c := Zj (by rcases hc with hc | hc <;> omega)
  rw [z7u]
  have hf' : ∀ b, x3r b false = b := fun b => rfl
  have hz := v4p 0 hb
  unfold Qy at hn ⊢
  cases inn with
  | false =>
   simp only [Bool.not_false, cond_true] at hn ⊢
   simp (disch := omega) only [Vm, Bool.not_false, hz, hw, hf, hf', Zo, Zt, Yw, Zj, Zw, Zq, Nat.zero_add, Bool.and_true, cond_true]
   exact hn
  | true =>
   simp only [Bool.not_true, cond_false] at hn ⊢
   rcases Ya (last == (rd L i).a) with q | q
   ·rw [q] at hn ⊢
    simp only [cond_true] at hn ⊢
    simp (disch := omega) only [Vm, Bool.not_true, q, hz, hw, hf, hf', Zo, Zt, Yw, Zj, Zw, Zq, Nat.zero_add, Bool.and_true, cond_true, cond_false]
    exact hn
   ·rw [q] at hn ⊢
    simp only [cond_false] at hn ⊢
    by_cases h0 : 0 < out.length
    ·rw [decide_eq_true h0, Bool.true_and] at hn ⊢
     rcases Ya ((rd out (out.length - 1)).b == last) with q2 | q2
     ·rw [q2] at hn ⊢
      simp only [cond_true] at hn ⊢
      simp (disch := omega) only [Vm, Bool.not_true, q, q2, hz, hw, hf, hf', Zo, Yi, Zt, Yw, Zj, Zw, Zq, Zh, Nat.zero_add, Bool.and_true, cond_true, cond_false]
      exact hn
     ·rw [q2] at hn ⊢
      simp only [cond_false] at hn ⊢
      simp (disch := omega) only [Vm, Bool.not_true, q, q2, hz, hw, hf, hf', Zo, Yi, Zt, Yw, Yu, Zf, Yp, decide_true, Zj, Zw, Zq, Zh, Nat.zero_add, Bool.and_true, Bool.true_and, cond_true, cond_false]
      exact hn
    ·rw [decide_eq_false h0, Bool.false_and] at hn ⊢
     simp only [cond_false] at hn ⊢
     simp (disch := omega) only [Vm, Bool.not_true, q, hz, hw, hf, hf', Zo, Xz, Zt, Yw, Yu, Zf, Yp, decide_true, Zj, Zw, Zq, Nat.zero_add, Bool.and_true, Bool.true_and, cond_true, cond_false]
     exact hn
theorem w1w (h : l.all z7i = true) : ∀ e ∈ Uo l, bnd3 e = true ∧ e.b = 0 ∧ (e.c = 1 ∨ e.c = -1) := by
 have _uhl := hl
 intro e he
 obtain ⟨s, hs, h1⟩ := List.mem_flatMap.1 he
 have hv := List.all_eq_true.1 h s hs
 simp only [z7i, Bool.and_eq_true, decide_eq_true_eq] at hv
 simp only [List.mem_cons, List.not_mem_nil, or_false] at h1
 rcases h1 with rfl | rfl
 ·exact ⟨decide_eq_true (by simp only; omega), rfl, .inl rfl⟩
 ·exact ⟨decide_eq_true (by simp only; omega), rfl, .inr rfl⟩
theorem w8z (hv : l.all z7i = true) : ∀ (k i : Nat) (acc : List R3), i + k = l.length → acc = Uo (l.take i) → ∃ n, Yv (Vm l) n (.to (.h1 acc (i : Int))) = .ret [.dat (swV l).length (Zz (swV l)), .int .i64 0]
 | 0, i, acc, h, ha => by
  have e : acc = Uo l := by rw [ha, List.take_of_length_le (by omega)]
  subst e
  have hle := z1q l
  have fB := w1w l hl hv
  have hb : y5j (Uo l) = true := List.all_eq_true.2 fun e he => (fB e he).1
  obtain ⟨hp, _⟩ := Qp (Uo l) hb
  have hpl := hp.length_eq
  obtain ⟨n, hn⟩ := w8y l hl (z3n (Uo l)) (by omega) (fun i hi => by
   rw [Xe hi]
   exact (fB _ (hp.mem_iff.1 (List.getElem_mem hi))).2) (z3n (Uo l)).length 0 0 0 false [] (Nat.zero_add _) (by omega) (by omega) (Nat.zero_le _)
  refine ⟨n + 1, ?_⟩
  rw [Zv]
  simp (disch := omega) only [Vm, Zb, Zk, hb, Zs, Yw, Yu, decide_true, cond_true, cond_false]
  rw [← hpl]
  simp only [Qn, List.drop_zero] at hn
  exact hn
 | k + 1, i, acc, h, ha => by
  have hle := z1q (l.take i)
  have fP : acc.length ≤ 2 * i := by rw [ha, hle]; simp; omega
  obtain ⟨n, hn⟩ := w8z hv k (i + 1) (acc ++ Uo [rd l i]) (by omega) (by
   rw [ha, List.take_add_one]
   have : l[i]? = some (rd l i) := by rw [Xe (show i < l.length by omega)]; exact List.getElem?_eq_getElem _
   rw [this]
   simp [Uo])
  refine ⟨n + 1, ?_⟩
  rw [Zv]
  simp (disch := omega) only [Vm, Zo, Zt, Yz, Yu, Zf, Yp, decide_true, Zj, Zw, Zq, Nat.zero_add, Bool.and_true, Bool.true_and, cond_true]
  exact hn
theorem w9a : ∀ (k i : Nat), i + k = l.length → (∀ s ∈ l.take i, z7i s = true) → ∃ n, Yv (Vm l) n (.to (.h0 (i : Int))) = .ret (bif l.all z7i then [.dat (swV l).length (Zz (swV l)), .int .i64 0] else [.nils, .int .i64 8])
 | 0, i, h, ht => by
  have hv : l.all z7i = true := List.all_eq_true.2 fun s hs => ht s (by rw [List.take_of_length_le (by omega)]; exact hs)
  obtain ⟨n, hn⟩ := w8z l hl hv l.length 0 [] (Nat.zero_add _) rfl
  refine ⟨n + 1, ?_⟩
  rw [Zv, hv, cond_true]
  simp (disch := omega) only [Vm, Zs, cond_false]
  exact hn
 | k + 1, i, h, ht => by
  have hi : i < l.length := by omega
  rcases Ya (z7i (rd l i)) with q | q
  ·obtain ⟨n, hn⟩ := w9a k (i + 1) (by omega) (fun s hs => by
    rw [List.take_add_one] at hs
    have e : l[i]? = some (rd l i) := by rw [Xe hi]; exact List.getElem?_eq_getElem _
    rw [e] at hs
    simp only [Option.toList_some, List.mem_append, List.mem_singleton] at hs
    rcases hs with hs | rfl
    ·exact ht s hs
    ·exact q)
   refine ⟨n + 1, ?_⟩
   rw [Zv]
   simp only [z7i, Bool.and_eq_true, decide_eq_true_eq] at q
   simp (disch := omega) only [Vm, Zo, Xh, w7o, Zt, Zj, Zw, Zq, Bool.not_true, Bool.and_true, cond_true, cond_false]
   exact hn
  ·have hv : l.all z7i = false := Bool.eq_false_iff.2 fun e => by
    have := List.all_eq_true.1 e (rd l i) (by rw [Xe hi]; exact List.getElem_mem hi)
    rw [this] at q; cases q
   refine ⟨1, ?_⟩
   rw [Zv, hv, cond_false]
   unfold z7i at q
   rcases Ya (decide ((rd l i).a < (rd l i).b)) with q1 | q1 <;> rcases Ya (decide ((rd l i).a ≥ -1000000)) with q2 | q2 <;> rcases Ya (decide ((rd l i).b ≤ 1000000)) with q3 | q3 <;>
    rw [q1, q2, q3] at q <;> first
    | (exfalso; revert q; decide)
    | simp (disch := omega) only [Vm, q1, q2, q3, Zo, w7o, Zt, Zj, Zw, Zq, Bool.not_true, Bool.not_false, Bool.and_true, cond_true, cond_false, Zm]
end
theorem v2w (l : List R2) : ∃ n, Yv (Vm l) n (z7v l) = .ret (y5s l) := by
 unfold z7v y5s
 by_cases h : 400 < l.length
 ·refine ⟨0, ?_⟩
  rw [decide_eq_true h, Yi (show (l.length : Int) > 400 by omega)]; rfl
 ·obtain ⟨n, hn⟩ := w9a l (by omega) l.length 0 (Nat.zero_add _) (fun s hs => by simp at hs)
  refine ⟨n, ?_⟩
  rw [decide_eq_false h, Xz (show ¬ (l.length : Int) > 400 by omega), cond_false, cond_false]
  exact hn
end Go.Am
namespace Go.Am
open Go.Proofs.Tryz
open Go.Proofs
def fSpm : List AVal → Option (AVal × Bool)
 | [a1] => match asL R2 a1 with
  | some (L1, g1, n1) => some (.tup [.dat (Xp L1).length (Zz (Xp L1)), .int .i64 (w9b L1)], isT R2 n1 g1 && z9a L1)
  | _ => none
 | _ => none
theorem v5y {S : Specs} (hS : Zu prog S) : Zu prog (S.with y6n fSpm) := by
 refine v5w hS (by kernel_rfl) fun args v h => ?_
 unfold fSpm at h
 split at h
 ·rename_i a1
  split at h
  ·rename_i L1 g1 n1 e1
   simp only [Option.some.injEq, Prod.mk.injEq, Bool.and_eq_true] at h
   obtain ⟨rfl, ho1, hw⟩ := h
   obtain ⟨N, hN⟩ := v2w L1
   refine ⟨_, y5s L1, (.cons (asL_le e1 ho1) .nil), ?_, w3k L1 N _ hN, 3, ?_⟩
   ·unfold Xp w9b y5s
    cases decide (400 < L1.length) <;> simp only [cond_true, cond_false]
    ·cases L1.all z7i <;> simp only [cond_true, cond_false]
     ·exact fun ρ u hu => z6v (.cons (z1k R2) (RLe.refl _)) ρ u hu
     ·exact fun ρ u hu => hu
    ·exact fun ρ u hu => z6v (.cons (z1k R2) (RLe.refl _)) ρ u hu
   ·unfold y5s
    cases decide (400 < L1.length) <;> simp only [cond_true, cond_false]
    ·cases L1.all z7i <;> rfl
    ·rfl
  ·cases h
 ·cases h
def T6 : Specs := T5.with y6n fSpm
theorem Ui : Zu prog T6 := v5y Jt
end Go.Am
namespace Go.Am
open Go.Proofs Go.Sort Go.Shelf Go.RowKit Go.Lib
theorem x1r {γ : Type} (a b : Bool) (x y : γ) : (bif a && b then x else y) = bif a then (bif b then x else y) else y := by cases a <;> rfl
theorem y4q {γ : Type} (a : Bool) (x y : γ) : (bif !a then x else y) = bif a then y else x := by cases a <;> rfl
structure Dim (α β : Type) where
 lo : α → Int
 hi : α → Int
 pr : α → β
 put : Int → Int → β → α
 ext : Int → α → α
 mak : List β → List β
 same : List β → List β → Bool
structure Sw (α β : Type) where
 out : List α
 last : List β
 first : Nat
 fin : Int
def Jh (zs : List Int) : List Int := compact (Ye zs)
theorem z6j (zs : List Int) : w8i (Ye zs) = (Jh zs).length := rfl
theorem Wu (zs : List Int) : (Ye zs).length = zs.length := List.length_mergeSort zs
theorem z5d (zs : List Int) : (Jh zs).length ≤ zs.length := by
 have := compact_length_le (Ye zs)
 rw [Wu] at this
 exact this
theorem Us (zs : List Int) (i : Nat) (h : i < (Jh zs).length) : rd (Xy (Ye zs)) i = rd (Jh zs) i := by
 change i < (compact (Ye zs)).length at h
 show rd (compact (Ye zs) ++ _) i = rd (compact (Ye zs)) i
 rw [Xe (by rw [List.length_append]; exact Nat.lt_add_right _ h), Xe h, List.getElem_append_left h]
theorem Kx (zs : List Int) : Zg zs.length (cOf (Zz (Ye zs))) = Ye zs := by
 have := Ux (Ye zs)
 rw [Wu] at this
 exact this
namespace Dim
variable {α β : Type} (D : Dim α β) (l : List α)
def ends : List Int := l.flatMap fun r => [D.lo r, D.hi r]
def cuts : List Int := Jh (D.ends l)
def inn (x : Int) : List β := (l.filter fun r => decide (D.lo r ≤ x) && decide (x < D.hi r)).map D.pr
def sec (x : Int) : List β := D.mak (D.inn l x)
def grow (out : List α) (k : Nat) (x : Int) : List α := out.take k ++ (out.drop k).map (D.ext x)
def one (x x' : Int) (s : Sw α β) : Sw α β :=
 bif decide (0 < (D.sec l x).length) && ((s.fin == x) && D.same s.last (D.sec l x)) then ⟨D.grow s.out s.first x', s.last, s.first, x'⟩
 else ⟨s.out ++ (D.sec l x).map (D.put x x'), D.sec l x, s.out.length, x'⟩
def go : Nat → Nat → Sw α β → Sw α β
 | 0, _, s => s
 | k + 1, i, s => go k (i + 1) (D.one l (rd (D.cuts l) i) (rd (D.cuts l) (i + 1)) s)
def out : List α := (D.go l ((D.cuts l).length - 1) 0 ⟨[], [], 0, 0⟩).out
theorem ends_length : (D.ends l).length = 2 * l.length := by
 induction l with
 | nil => rfl
 | cons r l ih => show (_ :: _ :: D.ends l).length = _; simp only [List.length_cons, ih]; omega
theorem cuts_length : (D.cuts l).length ≤ 2 * l.length := by
 have := z5d (D.ends l)
 rw [D.ends_length] at this
 exact this
theorem ends_append (m : List α) : D.ends (l ++ m) = D.ends l ++ D.ends m := by simp [ends]
theorem inn_append (m : List α) (x : Int) : D.inn (l ++ m) x = D.inn l x ++ D.inn m x := by simp [inn]
theorem inn_length (x : Int) : (D.inn l x).length ≤ l.length := by simpa [inn] using List.length_filter_le _ l
theorem inn_t (r : α) (x : Int) (h1 : D.lo r ≤ x) (h2 : x < D.hi r) : D.inn [r] x = [D.pr r] := by simp [inn, h1, h2]
theorem inn_f1 (r : α) (x : Int) (h1 : ¬ D.lo r ≤ x) : D.inn [r] x = [] := by simp [inn, h1]
theorem inn_f2 (r : α) (x : Int) (h1 : ¬ x < D.hi r) : D.inn [r] x = [] := by simp [inn, h1]
theorem grow_nil (out : List α) (k : Nat) (x : Int) (h : out.length ≤ k) : D.grow out k x = out := by
 unfold grow; rw [List.drop_eq_nil_of_le h, List.map_nil, List.append_nil, List.take_of_length_le h]
theorem grow_length (out : List α) (k : Nat) (x : Int) : (D.grow out k x).length = out.length := by
 unfold grow; simp; omega
theorem grow_set [Yo α] (out : List α) (j : Nat) (x : Int) (h : j < out.length) : D.grow (out.set j (D.ext x (rd out j))) (j + 1) x = D.grow out j x := by
 unfold grow
 rw [Yc h, List.map_cons]
 have e1 : (out.set j (D.ext x (rd out j))).take (j + 1) = out.take j ++ [D.ext x (rd out j)] := by
  apply List.ext_getElem
  ·simp; omega
  ·intro n h1 h2
   simp only [List.getElem_take, List.getElem_set]
   by_cases e : j = n
   ·subst e
    rw [if_pos rfl, List.getElem_append_right (by simp only [List.length_take]; omega)]
    simp
   ·rw [if_neg e, List.getElem_append_left (by simp at h1 ⊢; omega), List.getElem_take]
 have e2 : (out.set j (D.ext x (rd out j))).drop (j + 1) = out.drop (j + 1) := by
  rw [List.drop_set]; rw [if_pos (by omega)]
 rw [e1, e2, List.append_assoc]; rfl
theorem one_length (x x' : Int) (s : Sw α β) : (D.one l x x' s).out.length ≤ s.out.length + (D.sec l x).length := by
 unfold one
 cases (decide (0 < (D.sec l x).length) && ((s.fin == x) && D.same s.last (D.sec l x))) <;> simp [grow_length]
end Dim
end Go.Am
namespace Go.Am
open Go.Proofs.Tryz
open Go.Proofs
inductive vl4S where
def vl4C (aZ : Int) (aU : Int) (aR : Int) (bF : Int) : vl4S → Cfg
 := nofun
def y8f (aZ : Int) (aU : Int) (aR : Int) (bF : Int) : vl4S → Xn vl4S
 := nofun
def z7t (aZ : Int) (aU : Int) (aR : Int) (bF : Int) : Xn vl4S := (bif (decide (aZ < aR)) then (bif (decide (aU < bF)) then (bif (decide (aZ ≥ (-1000000))) then (bif (decide (aZ ≤ 1000000)) then (bif (decide (aR ≥ (-1000000))) then (bif (decide (aR ≤ 1000000)) then (bif (decide (aU ≥ (-1000000))) then (bif (decide (aU ≤ 1000000)) then (bif (decide (bF ≥ (-1000000))) then (.ret [(.bool (decide (bF ≤ 1000000)))]) else (.ret [(.bool false)])) else (.ret [(.bool false)])) else (.ret [(.bool false)])) else (.ret [(.bool false)])) else (.ret [(.bool false)])) else (.ret [(.bool false)])) else (.ret [(.bool false)])) else (.ret [(.bool false)])) else (.ret [(.bool false)]))
theorem x4h (aZ : Int) (aU : Int) (aR : Int) (bF : Int) : ∀ s, Ww prog (Zy prog 153) (vl4C aZ aU aR bF) (vl4C aZ aU aR bF s) (y8f aZ aU aR bF s)
 := nofun
theorem y8g (aZ : Int) (aU : Int) (aR : Int) (bF : Int) : Ww prog (Zy prog 153) (vl4C aZ aU aR bF) (Zn prog 153 [(.agg [(.int .i64 aZ), (.int .i64 aU), (.int .i64 aR), (.int .i64 bF)])] true []) (z7t aZ aU aR bF) := (lb (fun k0 => (lb (fun k1 => (lb (fun k2 => (lb (fun k3 => (lb (fun k4 => (lb (fun k5 => (lb (fun k6 => (lb (fun k7 => (lb (fun k8 => (lr 35 3 [1, 1, 1, 1, 1, 1, 0] 1 15 [(2, (.bool (decide (bF ≤ 1000000))))] (sl Ui 101 [] ⟨[], [], [some [2]], []⟩ ⟨[], [], []⟩ (trs 25 []) (tt k8 (tt k7 (tt k6 (tt k5 (tt k4 (tt k3 (tt k2 (tt k1 (tt k0 nn)))))))))))) (fun k8 => (lr 35 3 [1, 1, 1, 1, 1, 1, 0] 1 15 [(2, (.bool false))] (sl Ui 101 [] ⟨[], [], [some [2]], []⟩ ⟨[], [], []⟩ (trs 23 [false, false]) (tt k8 (tt k7 (tt k6 (tt k5 (tt k4 (tt k3 (tt k2 (tt k1 (tt k0 nn)))))))))))))) (fun k7 => (lr 35 3 [1, 1, 1, 1, 1, 1, 0] 1 15 [(2, (.bool false))] (sl Ui 86 [] ⟨[], [], [some [2]], []⟩ ⟨[], [], []⟩ (trs 20 [false, false, false]) (tt k7 (tt k6 (tt k5 (tt k4 (tt k3 (tt k2 (tt k1 (tt k0 nn))))))))))))) (fun k6 => (lr 35 3 [1, 1, 1, 1, 1, 1, 0] 1 15 [(2, (.bool false))] (sl Ui 86 [] ⟨[], [], [some [2]], []⟩ ⟨[], [], []⟩ (trs 18 [false, false, false, false, false]) (tt k6 (tt k5 (tt k4 (tt k3 (tt k2 (tt k1 (tt k0 nn)))))))))))) (fun k5 => (lr 35 3 [1, 1, 1, 1, 1, 1, 0] 1 15 [(2, (.bool false))] (sl Ui 71 [] ⟨[], [], [some [2]], []⟩ ⟨[], [], []⟩ (trs 15 [false, false, false, false, false, false]) (tt k5 (tt k4 (tt k3 (tt k2 (tt k1 (tt k0 nn))))))))))) (fun k4 => (lr 35 3 [1, 1, 1, 1, 1, 1, 0] 1 15 [(2, (.bool false))] (sl Ui 71 [] ⟨[], [], [some [2]], []⟩ ⟨[], [], []⟩ (trs 13 [false, false, false, false, false, false, false, false]) (tt k4 (tt k3 (tt k2 (tt k1 (tt k0 nn)))))))))) (fun k3 => (lr 35 3 [1, 1, 1, 1, 1, 1, 0] 1 15 [(2, (.bool false))] (sl Ui 56 [] ⟨[], [], [some [2]], []⟩ ⟨[], [], []⟩ (trs 10 [false, false, false, false, false, false, false, false, false]) (tt k3 (tt k2 (tt k1 (tt k0 nn))))))))) (fun k2 => (lr 35 3 [1, 1, 1, 1, 1, 1, 0] 1 15 [(2, (.bool false))] (sl Ui 56 [] ⟨[], [], [some [2]], []⟩ ⟨[], [], []⟩ (trs 8 [false, false, false, false, false, false, false, false, false, false, false]) (tt k2 (tt k1 (tt k0 nn)))))))) (fun k1 => (lr 35 3 [1, 1, 1, 1, 1, 1, 0] 1 15 [(2, (.bool false))] (sl Ui 41 [] ⟨[], [], [some [2]], []⟩ ⟨[], [], []⟩ (trs 5 [false, false, false, false, false, false, false, false, false, false, false, false]) (tt k1 (tt k0 nn))))))) (fun k0 => (lr 35 3 [1, 1, 1, 1, 1, 1, 0] 1 15 [(2, (.bool false))] (sl Ui 41 [] ⟨[], [], [some [2]], []⟩ ⟨[], [], []⟩ [false, false, false, false, false, false, false, false, false, false, false, false, false, false, false, false, false] (tt k0 nn)))))
theorem w3h (aZ : Int) (aU : Int) (aR : Int) (bF : Int) (n : Nat) (vs : List AVal) (h : Yv (y8f aZ aU aR bF) n (z7t aZ aU aR bF) = .ret vs) : Kz prog (Zy prog 153) (Zn prog 153 [(.agg [(.int .i64 aZ), (.int .i64 aU), (.int .i64 aR), (.int .i64 bF)])] true []) vs := by
 have := Zr (x4h aZ aU aR bF) n _ (y8g aZ aU aR bF)
 rwa [h] at this
inductive madS where
 | h0 (v16 : Int) (aA : List Int)
 | h1 (v4 : Int) (aE : List R4) (aN : List R2) (aP : Int) (aQ : Int) (bC : Nat) (bM : List Int)
 | h2 (v4 : Int) (v38 : Int) (aE : List R4) (aN : List R2) (aP : Int) (aQ : Int) (bC : Nat) (bM : List Int) (aF : Int) (cZ : Int) (aK : List R2)
 | h3 (v1 : Int) (v2 : Int) (v71 : List R2) (v72 : Int) (v73 : Int) (cM : List R2) (bH : Int) (aG : List R4) (bR : List R2) (bY : Int) (bC : Nat) (bM : List Int) (aF : List R2)
 | h4 (v2 : Int) (v8 : Int) (dF : Int) (cM : List R2) (bH : Int) (aG : List R4) (bR : List R2) (bY : Int) (cR : Int) (cW : Nat) (dD : List Int) (aK : List R2)
def madC (l0 : List R4) : madS → Cfg
 | .h0 v16 aA => ⟨⟨34, 0, true⟩, none, (Za prog 173 [1, 1, 0, 1, 0, 0, 1, 1, 0, 0, 1, 1, 0, 0] 0), none, (Zy prog 15), ⟨Yk [(1, (.ptr 0 0)), (3, (.ptr 2 0)), (8, (.sl 1 0 1 (.un 1))), (9, (ii 1)), (10, (ii 0)), (14, (.dat l0.length (Zz l0))), (15, (ii (l0.length : Int))), (16, (ii v16))], Vn [⟨[(.sl 1 0 1 (.un 1))], 173, none⟩, ⟨[(.dat l0.length (Zz l0))], 105, none⟩, ⟨[(.sla 4 1 0 aA.length (.un 1))], 47, none⟩, ⟨[.nils, .nils, (ii 0), (ii 0)], 188, none⟩, ⟨rows aA.length (Zz aA), 3, some ⟨1, aA.length, (Zz aA)⟩⟩] 0, 5, [], true⟩, [⟨⟨29, 0, true⟩, (Vk prog 154 [1, 1, 0, 0] 2), (Za prog 154 [1, 1, 0, 0] 1), none, (Zy prog 77), Yk [(2, .nils), (3, (ii 0)), (4, (.ptr 3 0)), (9, (.sl 1 0 1 (.un 1)))]⟩], .leaf⟩
 | .h1 v4 aE aN aP aQ bC bM => ⟨⟨76, 0, true⟩, none, (Za prog 186 [1, 0, 0] 0), none, [], ⟨Yk [(0, (.yld 0)), (1, (.ptr 2 0)), (2, (.ptr 4 0)), (4, (ii v4))], z4j [(1, ⟨[(.sla 6 4 0 aE.length (.un 4)), (.dat aN.length (Zz aN)), (ii aP), (ii aQ)], 188, none⟩), (2, ⟨[(.sla 3 1 0 bC (.un 1))], 47, none⟩), (3, ⟨rows bM.length (Zz bM), 3, some ⟨1, bM.length, (Zz bM)⟩⟩), (4, ⟨[(.sl 5 0 1 (.un 1))], 173, none⟩), (5, ⟨[(.dat l0.length (Zz l0))], 105, none⟩), (6, ⟨rows aE.length (Zz aE), 114, some ⟨4, aE.length, (Zz aE)⟩⟩)], 7, [], true⟩, [⟨⟨29, 0, true⟩, none, (.inRangeFunc 0 :: (Za prog 154 [1, 1, 0, 1, 0] 1)), none, (Zy prog 77), Yk [(2, .nils), (3, (ii 0)), (4, (.ptr 1 0))]⟩], (z4l [(0, ⟨.ready, none, 29, Yk [(4, (.ptr 1 0))], [11], (Xi prog 154 [1, 1, 0, 1, 0, 0]), (Xi prog 154 [1, 1, 0, 1, 0, 1])⟩)])⟩
 | .h2 v4 v38 aE aN aP aQ bC bM aF cZ aK => ⟨⟨76, 0, true⟩, none, (Za prog 186 [1, 0, 0, 1, 0, 0, 1, 0, 1, 0, 0, 1, 1, 0, 0, 1, 1, 0, 0] 0), none, [], ⟨Yk [(0, (.yld 0)), (1, (.ptr 2 0)), (2, (.ptr 4 0)), (4, (ii v4)), (5, (.ptr 6 0)), (6, (ii 0)), (29, (.sl 5 0 1 (.un 1))), (30, (ii 1)), (31, (ii 0)), (36, (.dat l0.length (Zz l0))), (37, (ii (l0.length : Int))), (38, (ii v38))], z4j [(1, ⟨[(.sla 9 4 0 aE.length (.un 4)), (.dat aN.length (Zz aN)), (ii aP), (ii aQ)], 188, none⟩), (2, ⟨[(.sla 3 1 0 bC (.un 1))], 47, none⟩), (3, ⟨rows bM.length (Zz bM), 3, some ⟨1, bM.length, (Zz bM)⟩⟩), (4, ⟨[(.sl 5 0 1 (.un 1))], 173, none⟩), (5, ⟨[(.dat l0.length (Zz l0))], 105, none⟩), (6, ⟨[(ii aF), (ii cZ), (.sl 7 0 1 (.ex 1))], 193, none⟩), (7, ⟨[(.sla 8 2 0 aK.length (.un 2))], 158, none⟩), (8, ⟨rows aK.length (Zz aK), 110, some ⟨2, aK.length, (Zz aK)⟩⟩), (9, ⟨rows aE.length (Zz aE), 114, some ⟨4, aE.length, (Zz aE)⟩⟩)], 10, [], true⟩, [⟨⟨29, 0, true⟩, none, (.inRangeFunc 0 :: (Za prog 154 [1, 1, 0, 1, 0] 1)), none, (Zy prog 77), Yk [(2, .nils), (3, (ii 0)), (4, (.ptr 1 0))]⟩], (z4l [(0, ⟨.ready, none, 29, Yk [(4, (.ptr 1 0))], [11], (Xi prog 154 [1, 1, 0, 1, 0, 0]), (Xi prog 154 [1, 1, 0, 1, 0, 1])⟩)])⟩
 | .h3 v1 v2 v71 v72 v73 cM bH aG bR bY bC bM aF => ⟨⟨94, 0, true⟩, none, (Za prog 146 [1, 1, 1, 0, 0] 0), none, [], ⟨Yk [(0, (.ptr 0 0)), (1, (ii v1)), (2, (ii v2)), (71, (.dat v71.length (Zz v71))), (72, (ii v72)), (73, (ii v73))], z4j [(0, ⟨[(.sla 7 4 0 aG.length (.un 4)), (.dat bR.length (Zz bR)), (ii bY), (ii v2)], 188, none⟩), (2, ⟨[(.sla 3 1 0 bC (.un 1))], 47, none⟩), (3, ⟨rows bM.length (Zz bM), 3, some ⟨1, bM.length, (Zz bM)⟩⟩), (4, ⟨[(.sl 5 0 1 (.un 1))], 173, none⟩), (5, ⟨[(.dat l0.length (Zz l0))], 105, none⟩), (6, ⟨[(.dat aF.length (Zz aF))], 158, none⟩), (7, ⟨rows aG.length (Zz aG), 114, some ⟨4, aG.length, (Zz aG)⟩⟩)], 8, [], true⟩, [⟨⟨29, 0, true⟩, (Vk prog 154 [1, 1, 0, 1, 0, 1, 0, 1] 5), (Za prog 154 [1, 1, 0, 1, 0, 1, 0, 1] 1), (some 1), [], Yk [(4, (.ptr 0 0)), (21, (ii v1)), (23, (ii v2)), (24, (.dat cM.length (Zz cM)))]⟩, ⟨⟨76, 0, true⟩, (Vk prog 186 [1, 0, 0, 1, 0, 0, 1, 1, 0] 2), (Za prog 186 [1, 0, 0, 1, 0, 0, 1, 1, 0] 1), none, [], Yk [(0, (.yld 1)), (1, (.ptr 2 0)), (2, (.ptr 4 0)), (4, (ii bH)), (72, (.yld 1)), (73, (.agg [(ii v1), (ii v2), (.sl 6 0 1 (.ex 1))]))]⟩, ⟨⟨29, 0, true⟩, none, (.inRangeFunc 1 :: (Za prog 154 [1, 1, 0, 1, 0] 1)), none, (Zy prog 77), Yk [(2, .nils), (3, (ii 0)), (4, (.ptr 0 0))]⟩], (z4l [(1, ⟨.busy, none, 29, Yk [(4, (.ptr 0 0))], [11], (Xi prog 154 [1, 1, 0, 1, 0, 0]), (Xi prog 154 [1, 1, 0, 1, 0, 1])⟩)])⟩
 | .h4 v2 v8 dF cM bH aG bR bY cR cW dD aK => ⟨⟨94, 0, true⟩, none, (Za prog 146 [0, 1, 0, 0, 1, 0, 0] 0), none, [], ⟨Yk [(0, (.ptr 0 0)), (2, (ii v2)), (8, (ii v8))], z4j [(0, ⟨[(.sla 1 4 0 aG.length (.un 4)), (.dat bR.length (Zz bR)), (ii bY), (ii cR)], 188, none⟩), (1, ⟨rows aG.length (Zz aG), 114, some ⟨4, aG.length, (Zz aG)⟩⟩), (3, ⟨[(.sla 4 1 0 cW (.un 1))], 47, none⟩), (4, ⟨rows dD.length (Zz dD), 3, some ⟨1, dD.length, (Zz dD)⟩⟩), (5, ⟨[(.sl 6 0 1 (.un 1))], 173, none⟩), (6, ⟨[(.dat l0.length (Zz l0))], 105, none⟩), (7, ⟨[(.dat aK.length (Zz aK))], 158, none⟩)], 8, [], true⟩, [⟨⟨29, 0, true⟩, (Vk prog 154 [1, 1, 0, 1, 0, 1, 0, 1] 5), (Za prog 154 [1, 1, 0, 1, 0, 1, 0, 1] 1), (some 2), [], Yk [(4, (.ptr 0 0)), (21, (ii dF)), (23, (ii v2)), (24, (.dat cM.length (Zz cM)))]⟩, ⟨⟨76, 0, true⟩, (Vk prog 186 [1, 0, 0, 1, 0, 0, 1, 1, 0] 2), (Za prog 186 [1, 0, 0, 1, 0, 0, 1, 1, 0] 1), none, [], Yk [(0, (.yld 2)), (1, (.ptr 3 0)), (2, (.ptr 5 0)), (4, (ii bH)), (72, (.yld 2)), (73, (.agg [(ii dF), (ii v2), (.sl 7 0 1 (.ex 1))]))]⟩, ⟨⟨29, 0, true⟩, none, (.inRangeFunc 2 :: (Za prog 154 [1, 1, 0, 1, 0] 1)), none, (Zy prog 77), Yk [(2, .nils), (3, (ii 0)), (4, (.ptr 0 0))]⟩], (z4l [(2, ⟨.busy, none, 29, Yk [(4, (.ptr 0 0))], [11], (Xi prog 154 [1, 1, 0, 1, 0, 0]), (Xi prog 154 [1, 1, 0, 1, 0, 1])⟩)])⟩
def madN0 : List (Option (List Nat)) := [some [1, 3, 8, 9, 10, 14, 15, 16], some [2, 3, 4, 9]]
def madM0 : List (Option (List Nat)) := []
def v4u : List (Option (List Nat)) := [some [0, 1, 2, 4], some [2, 3, 4]]
def v4v : List (Option (List Nat)) := [some [4], none, none, none, none, none, none]
def w5l : List (Option (List Nat)) := [some [0, 1, 2, 4, 5, 6, 29, 30, 31, 36, 37, 38], some [2, 3, 4]]
def w5n : List (Option (List Nat)) := [some [4], none, none, none, none, none, none, none, none, none]
def w5k : List (Option (List Nat)) := [some [0, 1, 2, 71, 72, 73], some [4, 21, 23, 24], some [0, 1, 2, 4, 72, 73], some [2, 3, 4]]
def w5m : List (Option (List Nat)) := [none, some [4], none, none, none, none, none, none]
def madN4 : List (Option (List Nat)) := [some [0, 2, 8], some [4, 21, 23, 24], some [0, 1, 2, 4, 72, 73], some [2, 3, 4]]
def madM4 : List (Option (List Nat)) := [none, none, some [4], none, none, none, none, none]
def Xa (l0 : List R4) : madS → Xn madS
 | .h0 v16 aA => (bif (decide (v16 < (l0.length : Int))) then (bif ((decide (0 ≤ v16 ∧ v16 < (l0.length : Int))) && true) then (bif (Nat.beq 1 1 && ((decide (0 + aA.length = aA.length)) && decide ((aA.length + 2 + 1) * (8 + 1) ≤ Jp))) then (.to (.h0 (IntKind.wrap .i64 (v16 + 1)) (aA ++ [(rd l0 v16.toNat).a, (rd l0 v16.toNat).c]))) else .stuck) else .stuck) else (bif (decide (aA.length < 4611686018427387904)) then (bif (decide (aA.length = aA.length)) then (.to (.h1 1 ([] : List R4) ([] : List R2) 0 0 (w8i (Zg aA.length (cOf (Zz (Ye (Zg aA.length (cOf (Zz aA)))))))) (Xy (Zg aA.length (cOf (Zz (Ye (Zg aA.length (cOf (Zz aA)))))))))) else .stuck) else .stuck))
 | .h1 v4 aE aN aP aQ bC bM => (bif (decide (v4 < ((bC : Nat) : Int))) then (bif ((decide (0 ≤ (IntKind.wrap .i64 (v4 - 1)) ∧ (IntKind.wrap .i64 (v4 - 1)) < ((bC : Nat) : Int))) && true) then (bif (decide ((0 + (Int.toNat (IntKind.wrap .i64 (v4 - 1)))) < bM.length)) then (bif ((decide (0 ≤ v4 ∧ v4 < ((bC : Nat) : Int))) && true) then (bif (decide ((0 + v4.toNat) < bM.length)) then (.to (.h2 v4 0 aE aN aP aQ bC bM (rd bM (0 + (Int.toNat (IntKind.wrap .i64 (v4 - 1))))) (rd bM (0 + v4.toNat)) ([] : List R2))) else .stuck) else .stuck) else .stuck) else .stuck) else (bif (decide ((aE.length : Int) > 400)) then (.ret [.nils, (.int .i64 4)]) else (.ret [(.dat aE.length (Zz aE)), (.int .i64 0)])))
 | .h2 v4 v38 aE aN aP aQ bC bM aF cZ aK => (bif (decide (v38 < (l0.length : Int))) then (bif ((decide (0 ≤ v38 ∧ v38 < (l0.length : Int))) && true) then (bif (decide ((rd l0 v38.toNat).a ≤ aF)) then (bif (decide (aF < (rd l0 v38.toNat).c)) then (bif (Nat.beq 2 2 && ((decide (0 + aK.length = aK.length)) && decide ((aK.length + 1 + 1) * (16 + 1) ≤ Jp))) then (.to (.h2 v4 (IntKind.wrap .i64 (v38 + 1)) aE aN aP aQ bC bM aF cZ (aK ++ [(R2.mk (rd l0 v38.toNat).b (rd l0 v38.toNat).d)]))) else .stuck) else (.to (.h2 v4 (IntKind.wrap .i64 (v38 + 1)) aE aN aP aQ bC bM aF cZ aK))) else (.to (.h2 v4 (IntKind.wrap .i64 (v38 + 1)) aE aN aP aQ bC bM aF cZ aK))) else .stuck) else (bif (z9a (cvT aK)) then (bif (decide ((((Xp (cvT aK)).length : Nat) : Int) > 0)) then (bif (aQ == aF) then (bif (Wt (cvT aN) (cvT (Xp (cvT aK)))) then (bif (Jg (cvT aN) (cvT (Xp (cvT aK)))) then (.to (.h4 cZ aP aF (Xp (cvT aK)) v4 aE aN aP aQ bC bM aK)) else (.to (.h3 aF cZ (Xp (cvT aK)) (((Xp (cvT aK)).length : Nat) : Int) 0 (Xp (cvT aK)) v4 aE (Xp (cvT aK)) (aE.length : Int) bC bM aK))) else .stuck) else (.to (.h3 aF cZ (Xp (cvT aK)) (((Xp (cvT aK)).length : Nat) : Int) 0 (Xp (cvT aK)) v4 aE (Xp (cvT aK)) (aE.length : Int) bC bM aK))) else (.to (.h3 aF cZ (Xp (cvT aK)) (((Xp (cvT aK)).length : Nat) : Int) 0 (Xp (cvT aK)) v4 aE (Xp (cvT aK)) (aE.length : Int) bC bM aK))) else .stuck))
 | .h3 v1 v2 v71 v72 v73 cM bH aG bR bY bC bM aF => (bif (decide (v73 < v72)) then (bif ((decide (0 ≤ v73 ∧ v73 < (v71.length : Int))) && true) then (bif (Nat.beq 4 4 && ((decide (0 + aG.length = aG.length)) && decide ((aG.length + 1 + 1) * (32 + 1) ≤ Jp))) then (.to (.h3 v1 v2 v71 v72 (IntKind.wrap .i64 (v73 + 1)) cM bH (aG ++ [(R4.mk v1 (rd v71 v73.toNat).a v2 (rd v71 v73.toNat).b)]) bR bY bC bM aF)) else .stuck) else .stuck) else (.to (.h1 (IntKind.wrap .i64 (bH + 1)) aG bR bY v2 bC bM)))
 | .h4 v2 v8 dF cM bH aG bR bY cR cW dD aK => (bif (decide (v8 < (aG.length : Int))) then (bif ((decide (0 ≤ v8 ∧ v8 < (aG.length : Int))) && true) then (bif (decide ((0 + v8.toNat) < aG.length)) then (.to (.h4 v2 (IntKind.wrap .i64 (v8 + 1)) dF cM bH (aG.set (0 + v8.toNat) (R4.mk (rd aG (0 + v8.toNat)).a (rd aG (0 + v8.toNat)).b v2 (rd aG (0 + v8.toNat)).d)) bR bY cR cW dD aK)) else .stuck) else .stuck) else (.to (.h1 (IntKind.wrap .i64 (bH + 1)) aG bR bY v2 cW dD)))
def y3t (l0 : List R4) : Xn madS := (.to (.h0 0 ([] : List Int)))
theorem x5n (l0 : List R4) : ∀ s, Ww prog (Zy prog 154) (madC l0) (madC l0 s) (Xa l0 s)
 | .h0 v16 aA => (lb (fun k0 => (lo fun o0 => (lo fun o1 => (sl Ui 32 [] ⟨[0, 1, 2, 3, 7], [], madN0, madM0⟩ ⟨[], [.keep, .keep, .cells [.len (aA ++ [(rd l0 (tn v16)).a, (rd l0 (tn v16)).c]).length], .keep, .rowed 1 (aA ++ [(rd l0 (tn v16)).a, (rd l0 (tn v16)).c]).length (Zz (aA ++ [(rd l0 (tn v16)).a, (rd l0 (tn v16)).c]))], []⟩ [true] (pp (xL (aA.length + 2) (aA ++ [(rd l0 (tn v16)).a, (rd l0 (tn v16)).c]).length) (pp (xL (aA.length + 2) (aA ++ [(rd l0 (tn v16)).a, (rd l0 (tn v16)).c]).length) (pp (xS (aA.length + 2) (Zd (Zz aA) 0 aA.length 1 [(ii (rd l0 (tn v16)).a), (ii (rd l0 (tn v16)).c)]) (Zz (aA ++ [(rd l0 (tn v16)).a, (rd l0 (tn v16)).c]))) (pp (pp (xF (Zd (Zz aA) 0 aA.length 1 [(ii (rd l0 (tn v16)).a), (ii (rd l0 (tn v16)).c)])) nn) (ww o1 (ww o0 (tt k0 nn))))))))))) (fun k0 => (lo fun o0 => (lo fun o1 => (sl Ui 46 [(114, 4, Zz ([] : List R4))] ⟨[5, 3, 2, 4, 0, 1, 6], [], v4u, v4v⟩ ⟨[], [.keep, .cells [.grow 6 4, .list 0 (Zz ([] : List R2)), .keep, .keep], .keep, .rowed 1 (Xy (Zg aA.length (cOf (Zz (Ye (Zg aA.length (cOf (Zz aA)))))))).length (Zz (Xy (Zg aA.length (cOf (Zz (Ye (Zg aA.length (cOf (Zz aA))))))))), .keep, .keep, .keep], []⟩ [false, false] (pp (xL aA.length (Xy (Zg aA.length (cOf (Zz (Ye (Zg aA.length (cOf (Zz aA)))))))).length (by first | exact Qc _ _ | exact Uy rfl)) (pp (xS aA.length (Zz (Xy (Zg aA.length (cOf (Zz (Ye (Zg aA.length (cOf (Zz aA))))))))) (Zz (Xy (Zg aA.length (cOf (Zz (Ye (Zg aA.length (cOf (Zz aA)))))))))) (pp (fl (Xy (Zg aA.length (cOf (Zz (Ye (Zg aA.length (cOf (Zz aA)))))))) (fl ([] : List R4) nn)) (pp (pp (xG (Nat.beq 1 1)) (pp (xG (Nat.beq 1 1)) (pp (xG (Nat.beq 0 0)) (pp (xG (decide (aA.length = aA.length))) (pp (xG (isI (Zz (Ye (Zg aA.length (cOf (Zz aA))))))) (xG (decide (aA.length < 4611686018427387904)))))))) (pp (pp (xG (Nat.beq 1 1)) (pp (xG (Nat.beq 1 1)) (pp (xG (Nat.beq 0 0)) (pp (xG (decide (aA.length = aA.length))) (pp (xG (isI (Zz aA))) (xG (decide (aA.length < 4611686018427387904)))))))) (tt k0 nn)))))))))))
 | .h1 v4 aE aN aP aQ bC bM => (lb (fun k0 => (lo fun o0 => (lo fun o1 => (lo fun o2 => (lo fun o3 => (sl Ui 48 [(110, 2, Zz ([] : List R2))] ⟨[0, 1, 2, 3, 4, 5, 7, 8, 9, 6], [], w5l, w5n⟩ ⟨[], (kpB 7 [.cells [.grow 8 2], .keep, .keep]), []⟩ (trs 3 []) (pp (fl bM (fl ([] : List R2) (fl aE nn))) (ww o3 (ww o2 (ww o1 (ww o0 (tt k0 nn)))))))))))) (fun k0 => (lb (fun k1 => (lr 29 3 [1, 1, 1, 1, 1, 1, 0] 1 77 [(2, .nils), (3, (ii 4))] (sl Ui 43 [] ⟨[], [], [some [2, 3]], []⟩ ⟨[], [], []⟩ [false, true] (tt k1 (tt k0 nn))))) (fun k1 => (lr 29 3 [1, 1, 1, 1, 1, 1, 0] 1 77 [(2, (.dat aE.length (Zz aE))), (3, (ii 0))] (sl Ui 48 [] ⟨[], [6], [some [2, 3]], []⟩ ⟨[(2, .frz aE.length aE.length (Zz aE) (Zz aE))], [], []⟩ [false, false] (pp (xZ (z4q 4 4 0 aE.length aE.length (Zz aE)) aE.length (Zz aE)) (pp (xL aE.length aE.length) (pp (xS aE.length (Zz aE) (Zz aE)) (pp (fl aE nn) (tt k1 (tt k0 nn))))))))))))
 | .h2 v4 v38 aE aN aP aQ bC bM aF cZ aK => (lb (fun k0 => (lo fun aH => (lb (fun k1 => (lb (fun k2 => (lo fun o0 => (sl Ui 39 [] ⟨[0, 1, 2, 3, 4, 5, 6, 7, 12, 9], [], w5l, w5n⟩ ⟨[], (kpB 7 [.cells [.len (aK ++ [(R2.mk (rd l0 (tn v38)).b (rd l0 (tn v38)).d)]).length], .rowed 2 (aK ++ [(R2.mk (rd l0 (tn v38)).b (rd l0 (tn v38)).d)]).length (Zz (aK ++ [(R2.mk (rd l0 (tn v38)).b (rd l0 (tn v38)).d)])), .keep]), []⟩ (trs 7 []) (pp (xL (aK.length + 1) (aK ++ [(R2.mk (rd l0 (tn v38)).b (rd l0 (tn v38)).d)]).length) (pp (xL (aK.length + 1) (aK ++ [(R2.mk (rd l0 (tn v38)).b (rd l0 (tn v38)).d)]).length) (pp (xS (aK.length + 1) (Zd (Zz aK) 0 aK.length 2 [(ii (rd l0 (tn v38)).b), (ii (rd l0 (tn v38)).d)]) (Zz (aK ++ [(R2.mk (rd l0 (tn v38)).b (rd l0 (tn v38)).d)]))) (pp (fl bM (pp (xF (Zd (Zz aK) 0 aK.length 2 [(ii (rd l0 (tn v38)).b), (ii (rd l0 (tn v38)).d)])) (fl aE nn))) (ww o0 (tt k2 (tt k1 (ww aH (tt k0 nn)))))))))))) (fun k2 => (sl Ui 39 [] ⟨(List.range 10), [], w5l, w5n⟩ ⟨[], [], []⟩ (trs 6 [false]) (pp (fl bM (fl aK (fl aE nn))) (tt k2 (tt k1 (ww aH (tt k0 nn))))))))) (fun k1 => (sl Ui 39 [] ⟨(List.range 10), [], w5l, w5n⟩ ⟨[], [], []⟩ [true, false, false, false, false, false, false] (pp (fl bM (fl aK (fl aE nn))) (tt k1 (ww aH (tt k0 nn))))))))) (fun k0 => (Wb (sl Ui (C' := ⟨⟨29, 0, true⟩, (Vk prog 154 [1, 1, 0, 1, 0, 1, 0, 0] 4), (Za prog 154 [1, 1, 0, 1, 0, 1, 0, 0] 1), (some 0), [], ⟨Yk [(4, (.ptr 1 0)), (5, (.ptr 3 0)), (16, (.dat aK.length (Zz aK)))], z4j [(1, ⟨[(.sla 2 4 0 aE.length (.un 4)), (.dat aN.length (Zz aN)), (ii aP), (ii aQ)], 188, none⟩), (2, ⟨rows aE.length (Zz aE), 114, some ⟨4, aE.length, (Zz aE)⟩⟩), (3, ⟨[(ii aF), (ii cZ), (.sl 4 0 1 (.ex 1))], 193, none⟩), (4, ⟨[(.dat aK.length (Zz aK))], 158, none⟩), (5, ⟨[(.sla 6 1 0 bC (.un 1))], 47, none⟩), (6, ⟨rows bM.length (Zz bM), 3, some ⟨1, bM.length, (Zz bM)⟩⟩), (7, ⟨[(.sl 8 0 1 (.un 1))], 173, none⟩), (8, ⟨[(.dat l0.length (Zz l0))], 105, none⟩)], 9, [], true⟩, [⟨⟨76, 0, true⟩, (Vk prog 186 [1, 0, 0, 1, 0, 0, 1, 1, 0] 2), (Za prog 186 [1, 0, 0, 1, 0, 0, 1, 1, 0] 1), none, [], Yk [(0, (.yld 0)), (1, (.ptr 5 0)), (2, (.ptr 7 0)), (4, (ii v4)), (72, (.yld 0)), (73, (.agg [(ii aF), (ii cZ), (.sl 4 0 1 (.ex 1))]))]⟩, ⟨⟨29, 0, true⟩, none, (.inRangeFunc 0 :: (Za prog 154 [1, 1, 0, 1, 0] 1)), none, (Zy prog 77), Yk [(2, .nils), (3, (ii 0)), (4, (.ptr 1 0))]⟩], (z4l [(0, ⟨.busy, none, 29, Yk [(4, (.ptr 1 0))], [11], (Xi prog 154 [1, 1, 0, 1, 0, 0]), (Xi prog 154 [1, 1, 0, 1, 0, 1])⟩)])⟩) 37 [] ⟨[0, 1, 9, 10, 7, 2, 3, 4, 5], [8], [some [4, 5, 16], some [0, 1, 2, 4, 72, 73], some [2, 3, 4]], [some [4], none, none, none, none, none, none, none, none]⟩ ⟨[(16, .frz aK.length aK.length (Zz aK) (Zz aK))], [.keep, .keep, .keep, .keep, .cells [.frz aK.length aK.length (Zz aK) (Zz aK)], .keep, .keep, .keep, .keep], []⟩ [false, false] (pp (xZ (z4q 2 2 0 aK.length aK.length (Zz aK)) aK.length (Zz aK)) (pp (xL aK.length aK.length) (pp (xS aK.length (Zz aK) (Zz aK)) (pp (xZ (z4q 2 2 0 aK.length aK.length (Zz aK)) aK.length (Zz aK)) (pp (xL aK.length aK.length) (pp (xS aK.length (Zz aK) (Zz aK)) (pp (fl aE (fl bM nn)) (pp (fl aK nn) (tt k0 nn)))))))))) (lo fun aH => (lb (fun k1 => (lb (fun k2 => (lo fun cP => (lb (fun k3 => (sl Ui 49 [] ⟨[1, 2, 0, 5, 6, 7, 8, 4], [], madN4, madM4⟩ ⟨[], [], []⟩ (trs 13 []) (pp (fl aE (fl bM nn)) (tt k3 (pp (pp (xr aN) (pp (xI R2 (Xp (cvT aK)).length (Zz (Xp (cvT aK)))) (xw cP))) (tt k2 (tt k1 (pp (pp (xr aK) (xw aH)) nn)))))))) (fun k3 => (sl Ui 69 [] ⟨[1, 0, 5, 6, 7, 8, 4, 2], [], w5k, w5m⟩ ⟨[], [], []⟩ (trs 12 [false]) (pp (fl bM (fl aE nn)) (tt k3 (pp (pp (xr aN) (pp (xI R2 (Xp (cvT aK)).length (Zz (Xp (cvT aK)))) (xw cP))) (tt k2 (tt k1 (pp (pp (xr aK) (xw aH)) nn))))))))))) (fun k2 => (sl Ui 69 [] ⟨[1, 0, 5, 6, 7, 8, 4, 2], [], w5k, w5m⟩ ⟨[], [], []⟩ (trs 6 [false, false, false, false, false, false, false]) (pp (fl bM (fl aE nn)) (tt k2 (tt k1 (pp (pp (xr aK) (xw aH)) nn)))))))) (fun k1 => (sl Ui 69 [] ⟨[1, 0, 5, 6, 7, 8, 4, 2], [], w5k, w5m⟩ ⟨[], [], []⟩ [false, false, false, false, false, false, false, false, false, false, false, false, false] (pp (fl bM (fl aE nn)) (tt k1 (pp (pp (xr aK) (xw aH)) nn))))))))))
 | .h3 v1 v2 v71 v72 v73 cM bH aG bR bY bC bM aF => (lb (fun k0 => (lo fun o0 => (lo fun o1 => (sl Ui 23 [] ⟨[0, 1, 2, 3, 4, 5, 6, 10], [], w5k, w5m⟩ ⟨[], [.cells [.len (aG ++ [(R4.mk v1 (rd v71 (tn v73)).a v2 (rd v71 (tn v73)).b)]).length, .keep, .keep, .keep], .keep, .keep, .keep, .keep, .keep, .keep, .rowed 4 (aG ++ [(R4.mk v1 (rd v71 (tn v73)).a v2 (rd v71 (tn v73)).b)]).length (Zz (aG ++ [(R4.mk v1 (rd v71 (tn v73)).a v2 (rd v71 (tn v73)).b)]))], []⟩ [true] (pp (xL (aG.length + 1) (aG ++ [(R4.mk v1 (rd v71 (tn v73)).a v2 (rd v71 (tn v73)).b)]).length) (pp (xL (aG.length + 1) (aG ++ [(R4.mk v1 (rd v71 (tn v73)).a v2 (rd v71 (tn v73)).b)]).length) (pp (xS (aG.length + 1) (Zd (Zz aG) 0 aG.length 4 [(ii v1), (ii (rd v71 (tn v73)).a), (ii v2), (ii (rd v71 (tn v73)).b)]) (Zz (aG ++ [(R4.mk v1 (rd v71 (tn v73)).a v2 (rd v71 (tn v73)).b)]))) (pp (fl bM (pp (xF (Zd (Zz aG) 0 aG.length 4 [(ii v1), (ii (rd v71 (tn v73)).a), (ii v2), (ii (rd v71 (tn v73)).b)])) nn)) (ww o1 (ww o0 (tt k0 nn))))))))))) (fun k0 => (sl Ui 22 [] ⟨[1, 0, 2, 3, 4, 5, 7], [], v4u, v4v⟩ ⟨[], [], []⟩ [false, false] (pp (fl bM (fl aG nn)) (tt k0 nn)))))
 | .h4 v2 v8 dF cM bH aG bR bY cR cW dD aK => (lb (fun k0 => (lo fun o0 => (lo fun o1 => (sl Ui 33 [] ⟨(List.range 8), [], madN4, madM4⟩ ⟨[], [.cells [.len (aG.set (0 + (tn v8)) (R4.mk (rd aG (0 + (tn v8))).a (rd aG (0 + (tn v8))).b v2 (rd aG (0 + (tn v8))).d)).length, .keep, .keep, .keep], .rowed 4 (aG.set (0 + (tn v8)) (R4.mk (rd aG (0 + (tn v8))).a (rd aG (0 + (tn v8))).b v2 (rd aG (0 + (tn v8))).d)).length (Zz (aG.set (0 + (tn v8)) (R4.mk (rd aG (0 + (tn v8))).a (rd aG (0 + (tn v8))).b v2 (rd aG (0 + (tn v8))).d))), .keep, .keep, .keep, .keep, .keep, .keep], []⟩ [true] (pp (xL aG.length (aG.set (0 + (tn v8)) (R4.mk (rd aG (0 + (tn v8))).a (rd aG (0 + (tn v8))).b v2 (rd aG (0 + (tn v8))).d)).length) (pp (xL aG.length (aG.set (0 + (tn v8)) (R4.mk (rd aG (0 + (tn v8))).a (rd aG (0 + (tn v8))).b v2 (rd aG (0 + (tn v8))).d)).length) (pp (xS aG.length (Xc (Zz aG) (0 + (tn v8)) 2 [(ii v2)]) (Zz (aG.set (0 + (tn v8)) (R4.mk (rd aG (0 + (tn v8))).a (rd aG (0 + (tn v8))).b v2 (rd aG (0 + (tn v8))).d)))) (pp (pp (xF (Xc (Zz aG) (0 + (tn v8)) 2 [(ii v2)])) (fl dD nn)) (ww o1 (ww o0 (tt k0 nn))))))))))) (fun k0 => (sl Ui 36 [] ⟨[2, 0, 3, 4, 5, 6, 1], [], v4u, v4v⟩ ⟨[], [], []⟩ [false, false] (pp (fl dD (fl aG nn)) (tt k0 nn)))))
theorem y9w (l0 : List R4) : Ww prog (Zy prog 154) (madC l0) (Zn prog 154 [(.dat l0.length (Zz l0))] true []) (y3t l0) := (sl Ui 56 [(3, 1, Zz ([] : List Int))] ⟨[2, 1, 3, 0, 4], [], madN0, madM0⟩ ⟨[], [.keep, .keep, .cells [.grow 4 1], .keep, .keep], []⟩ [true] (pp (fl ([] : List Int) nn) nn))
theorem w5j (l0 : List R4) (n : Nat) (vs : List AVal) (h : Yv (Xa l0) n (y3t l0) = .ret vs) : Kz prog (Zy prog 154) (Zn prog 154 [(.dat l0.length (Zz l0))] true []) vs := by
 have := Zr (x5n l0) n _ (y9w l0)
 rwa [h] at this
end Go.Am
namespace Go.Am
open Go.Proofs.Tryz
open Go.Proofs Go.Sort Go.Shelf Go.RowKit Go.Lib
theorem x3y {i n : Nat} (h : i < n) : decide ((i : Int) < (n : Int)) = true := decide_eq_true (by omega)
theorem y0g {σ : Type} (step : σ → Xn σ) (a b : Nat) (s : Xn σ) : Yv step (a + b) s = Yv step a (Yv step b s) := by
 induction b generalizing s with
 | zero => cases s <;> simp [Yv]
 | succ b ih => cases s with
  | to s => exact ih (step s)
  | ret vs => simp only [Zm]
  | stuck => cases a <;> cases b <;> rfl
theorem x3z {i : Nat} : decide ((i : Int) ≥ 0) = true := decide_eq_true (by omega)
def z1a {α : Type} [Yo α] (out : List α) : List AVal := bif decide ((out.length : Int) > 400) then [.nils, .int .i64 4] else [.dat out.length (Zz out), .int .i64 0]
def x7h {α : Type} [Yo α] (e : Int) (L : List α) : List AVal := bif e != 0 then [.nils, .int .i64 e] else [.dat L.length (Zz L), .int .i64 0]
def v1t {α : Type} (e : Int) (L : List α) : List α := bif e != 0 then [] else L
theorem y3m {α : Type} [Yo α] (e : Int) (L : List α) (ρ : Rho) (u : Value) (hu : VRel ρ (Kq (x7h e L)) u) : VRel ρ (.tup [.dat (v1t e L).length (Zz (v1t e L)), .int .i64 e]) u := by
 unfold x7h at hu
 unfold v1t
 by_cases h : e = 0
 ·subst h; exact hu
 ·have h : (e != 0) = true := by simpa using h
  rw [h] at hu ⊢
  exact z6v (.cons (z1k α) (RLe.refl _)) ρ u hu
theorem y9j {α : Type} [Yo α] (e : Int) (L : List α) : pf 3 (Kq (x7h e L)) = true := by
 unfold x7h
 cases (e != 0) <;> rfl
def v2f (n : Nat) : Int := bif decide ((n : Int) > 400) then 4 else 0
theorem y0v {α : Type} [Yo α] (L : List α) : z1a L = x7h (v2f L.length) L := by
 unfold z1a x7h v2f
 cases decide ((L.length : Int) > 400) <;> rfl
theorem x2t {α : Type} [Yo α] {e : Int} (L : List α) (h : (e != 0) = true) : x7h e L = [.nils, .int .i64 e] := by unfold x7h; rw [h]; rfl
theorem y2c : ∀ (L : List R3) (o last : Int) (inn : Bool) (out : List R2), (swF L o last inn out).length ≤ out.length + L.length
 | [], _, _, _, out => Nat.le_refl _
 | e :: r, o, last, inn, out => by
  rw [z7u]
  have := y2c r (o + e.c) e.a (decide (o + e.c > 0)) (Qy out last inn e.a)
  have := z5f out last inn e.a
  simp only [List.length_cons]; omega
theorem y8n (l : List R3) : (z3n l).length = l.length := by
 by_cases h : y5j l = true
 ·exact (Qp l h).1.length_eq
 ·unfold z3n; rw [dif_neg h]
theorem y8r (l : List R2) : (Xp l).length ≤ 800 := by
 unfold Xp
 by_cases h : 400 < l.length
 ·rw [decide_eq_true h]; exact Nat.zero_le _
 ·rw [decide_eq_false h]
  cases l.all z7i
  ·exact Nat.zero_le _
  ·show (swV l).length ≤ 800
   have h1 := y2c (z3n (Uo l)) 0 0 false []
   rw [y8n, z1q] at h1
   simp only [List.length_nil] at h1
   unfold swV; omega
def z2o (r : R4) : Bool := decide (r.a < r.c) && (decide (r.b < r.d) && (decide (r.a ≥ -1000000) && (decide (r.a ≤ 1000000) && (decide (r.c ≥ -1000000) && (decide (r.c ≤ 1000000) && (decide (r.b ≥ -1000000) && (decide (r.b ≤ 1000000) && (decide (r.d ≥ -1000000) && decide (r.d ≤ 1000000)))))))))
def D4 : Dim R4 R2 := ⟨R4.a, R4.c, fun r => ⟨r.b, r.d⟩, fun x x' s => ⟨x, s.a, x', s.b⟩, fun x r => ⟨r.a, r.b, x, r.d⟩, Xp, Jg⟩
theorem D4_sec (l : List R4) (x : Int) : (D4.sec l x).length ≤ 1000 := Nat.le_trans (y8r _) (by omega)
section
variable (l : List R4) (hl : l.length ≤ 400)
include hl
theorem v1c (i : Nat) (out : List R4) (last : List R2) (first fin x x' : Int) : ∀ (k j : Nat) (acc : List R2), j + k = l.length → acc.length ≤ j →
  ∃ n, ∀ N, Yv (Xa l) (N + n) (.to (.h2 (i : Int) (j : Int) out last first fin ((D4.cuts l).length) (Xy (Ye (D4.ends l))) x x' acc)) = Yv (Xa l) N (.to (.h2 (i : Int) (l.length : Int) out last first fin ((D4.cuts l).length) (Xy (Ye (D4.ends l))) x x' (acc ++ D4.inn (l.drop j) x)))
 | 0, j, acc, h, ha => by
  refine ⟨0, fun N => ?_⟩
  rw [List.drop_eq_nil_of_le (by omega), show D4.inn ([] : List R4) x = [] from rfl, List.append_nil, Nat.add_zero, show j = l.length by omega]
 | k + 1, j, acc, h, ha => by
  have hj : j < l.length := by omega
  obtain ⟨n, hn⟩ := v1c i out last first fin x x' k (j + 1) (acc ++ D4.inn [rd l j] x) (by omega) (by have := D4.inn_length [rd l j] x; simp only [List.length_append, List.length_singleton] at *; omega)
  refine ⟨n + 1, fun N => ?_⟩
  have e : D4.inn (l.drop j) x = D4.inn [rd l j] x ++ D4.inn (l.drop (j + 1)) x := by
   rw [Yc hj, ← D4.inn_append]; rfl
  rw [e, ← Nat.add_assoc, Zv, ← List.append_assoc, ← hn N]
  by_cases h1 : D4.lo (rd l j) ≤ x
  ·by_cases h2 : x < D4.hi (rd l j)
   ·rw [D4.inn_t _ _ h1 h2]
    simp only [D4] at h1 h2 ⊢
    simp (disch := omega) only [Xa, Xh, Zb, Zk, Zo, Zt, Yz, Yw, Yu, Zf, Zj, Zw, Yp, Zq, Nat.zero_add, decide_true, Bool.and_true, Bool.true_and, cond_true, cond_false]
   ·rw [D4.inn_f2 _ _ h2, List.append_nil]
    simp only [D4] at h1 h2
    simp (disch := omega) only [Xa, Xh, Zs, Zb, Zk, Zo, Zt, Yz, Yw, Yu, Zf, Zj, Zw, Yp, Zq, Nat.zero_add, decide_true, Bool.and_true, Bool.true_and, cond_true, cond_false]
  ·rw [D4.inn_f1 _ _ h1, List.append_nil]
   simp only [D4] at h1
   simp (disch := omega) only [Xa, v7g, Zb, Zk, Zo, Zt, Yz, Yw, Yu, Zf, Zj, Zw, Yp, Zq, Nat.zero_add, decide_true, Bool.and_true, Bool.true_and, cond_true, cond_false]
theorem v1b (i : Nat) (hi : i ≤ 1000) (x x' : Int) (s last : List R2) (first : Int) (inn : List R2) (hs : s.length ≤ 1000) : ∀ (k j : Nat) (out : List R4), j + k = s.length → out.length ≤ 10000000 + j →
  ∃ n, ∀ N, Yv (Xa l) (N + n) (.to (.h3 x x' s (s.length : Int) (j : Int) s (i : Int) out last first ((D4.cuts l).length) (Xy (Ye (D4.ends l))) inn)) = Yv (Xa l) N (.to (.h1 ((i + 1 : Nat) : Int) (out ++ (s.drop j).map (D4.put x x')) last first x' ((D4.cuts l).length) (Xy (Ye (D4.ends l)))))
 | 0, j, out, h, ho => by
  have _u := hl
  refine ⟨1, fun N => ?_⟩
  rw [List.drop_eq_nil_of_le (by omega), Zv]
  simp (disch := omega) only [Xa, Zs, Zj, Zw, cond_false, List.map_nil, List.append_nil]
 | k + 1, j, out, h, ho => by
  obtain ⟨n, hn⟩ := v1b i hi x x' s last first inn hs k (j + 1) (out ++ [D4.put x x' (rd s j)]) (by omega) (by simp; omega)
  refine ⟨n + 1, fun N => ?_⟩
  have := hn N
  rw [Yc (show j < s.length by omega), List.map_cons, ← Nat.add_assoc, Zv]
  simp (disch := omega) only [Xa, Zb, Zk, Zo, Zt, Yz, Yw, Yu, Zf, Zj, Zw, Yp, Zq, Nat.zero_add, decide_true, Bool.and_true, Bool.true_and, cond_true, cond_false]
  rw [List.append_assoc] at this
  exact this
theorem v1a (i : Nat) (hi : i ≤ 1000) (x x' fin : Int) (s last : List R2) (first : Int) (inn : List R2) : ∀ (k j : Nat) (out : List R4), j + k = out.length → out.length ≤ 10000000 →
  ∃ n, ∀ N, Yv (Xa l) (N + n) (.to (.h4 x' (j : Int) x s (i : Int) out last first fin ((D4.cuts l).length) (Xy (Ye (D4.ends l))) inn)) = Yv (Xa l) N (.to (.h1 ((i + 1 : Nat) : Int) (D4.grow out j x') last first x' ((D4.cuts l).length) (Xy (Ye (D4.ends l)))))
 | 0, j, out, h, ho => by
  have _u := hl
  refine ⟨1, fun N => ?_⟩
  rw [D4.grow_nil _ _ _ (by omega), Zv]
  simp (disch := omega) only [Xa, Zs, Zj, Zw, cond_false]
 | k + 1, j, out, h, ho => by
  obtain ⟨n, hn⟩ := v1a i hi x x' fin s last first inn k (j + 1) (out.set j (D4.ext x' (rd out j))) (by simp; omega) (by simpa using ho)
  refine ⟨n + 1, fun N => ?_⟩
  have := hn N
  rw [D4.grow_set out j _ (by omega)] at this
  rw [← Nat.add_assoc, Zv]
  simp (disch := omega) only [Xa, Zb, Zk, Zo, Zt, Yz, Yw, Yu, Zf, Zj, Zw, Yp, Zq, Nat.zero_add, decide_true, Bool.and_true, Bool.true_and, cond_true, cond_false]
  exact this
theorem w0r : ∀ (k i : Nat) (s : Sw R4 R2), k = (D4.cuts l).length - 1 - i → i ≤ (D4.cuts l).length → s.out.length ≤ i * 1000 → s.last.length ≤ 1000 → s.first ≤ s.out.length →
  ∃ n, Yv (Xa l) n (.to (.h1 ((i + 1 : Nat) : Int) s.out s.last (s.first : Int) s.fin ((D4.cuts l).length) (Xy (Ye (D4.ends l))))) = .ret (z1a (D4.go l k i s).out)
 | 0, i, s, h, hi, ho, hla, hf => by
  have hc := D4.cuts_length l
  refine ⟨1, ?_⟩
  rw [Zv, show D4.go l 0 i s = s from rfl]
  unfold z1a
  by_cases q : (s.out.length : Int) > 400
  ·simp (disch := omega) only [Xa, Zs, Yi, cond_true, cond_false, Zm]
  ·simp (disch := omega) only [Xa, Zs, Xz, cond_true, cond_false, Zm]
 | k + 1, i, s, h, hi, ho, hla, hf => by
  have hc := D4.cuts_length l
  have hi1 : i + 1 < (D4.cuts l).length := by omega
  have hpl : (Xy (Ye (D4.ends l))).length = 2 * l.length := by rw [Wi, Wu, D4.ends_length]
  have r0 : rd (Xy (Ye (D4.ends l))) i = rd (D4.cuts l) i := Us _ _ (by show i < (D4.cuts l).length; omega)
  have r1 : rd (Xy (Ye (D4.ends l))) (i + 1) = rd (D4.cuts l) (i + 1) := Us _ _ (by show i + 1 < (D4.cuts l).length; omega)
  have hbig : i * 1000 ≤ 1000 * 1000 := Nat.mul_le_mul_right _ (by omega)
  have hsl := D4_sec l (rd (D4.cuts l) i)
  have hsd : D4.sec l (rd (D4.cuts l) i) = Xp (D4.inn l (rd (D4.cuts l) i)) := rfl
  obtain ⟨n3, h3⟩ := v1c l hl (i + 1) s.out s.last (s.first : Int) s.fin (rd (D4.cuts l) i) (rd (D4.cuts l) (i + 1)) l.length 0 [] (Nat.zero_add _) (Nat.le_refl _)
  simp only [List.drop_zero, List.nil_append, Qn] at h3
  have w1 : z9a (D4.inn l (rd (D4.cuts l) i)) = true := rfl
  have w2 : Wt s.last (Xp (D4.inn l (rd (D4.cuts l) i))) = true := decide_eq_true (by omega)
  have ol := D4.one_length l (rd (D4.cuts l) i) (rd (D4.cuts l) (i + 1)) s
  have st0 : ∀ N, Yv (Xa l) (N + n3 + 1) (.to (.h1 ((i + 1 : Nat) : Int) s.out s.last (s.first : Int) s.fin ((D4.cuts l).length) (Xy (Ye (D4.ends l))))) = Yv (Xa l) N (.to (.h2 ((i + 1 : Nat) : Int) (l.length : Int) s.out s.last (s.first : Int) s.fin ((D4.cuts l).length) (Xy (Ye (D4.ends l))) (rd (D4.cuts l) i) (rd (D4.cuts l) (i + 1)) (D4.inn l (rd (D4.cuts l) i)))) := fun N => by
   rw [← h3 N, Zv]
   have e1 : IntKind.wrap .i64 (((i + 1 : Nat) : Int) - 1) = (i : Int) := by rw [Zc]; exact Zj (by omega)
   simp (disch := omega) only [Xa, e1, r0, r1, Zb, Zk, Zo, Zt, Yz, Yw, Yu, Zf, Zj, Zw, Yp, Zq, Nat.zero_add, decide_true, Bool.and_true, Bool.true_and, cond_true, cond_false]
  rcases Ya (decide (0 < (D4.sec l (rd (D4.cuts l) i)).length) && ((s.fin == rd (D4.cuts l) i) && D4.same s.last (D4.sec l (rd (D4.cuts l) i)))) with q | q
  ·obtain ⟨n5, h5⟩ := v1a l hl (i + 1) (by omega) (rd (D4.cuts l) i) (rd (D4.cuts l) (i + 1)) s.fin (D4.sec l (rd (D4.cuts l) i)) s.last (s.first : Int) (D4.inn l (rd (D4.cuts l) i)) (s.out.length - s.first) s.first s.out (by omega) (by omega)
   have e : D4.one l (rd (D4.cuts l) i) (rd (D4.cuts l) (i + 1)) s = ⟨D4.grow s.out s.first (rd (D4.cuts l) (i + 1)), s.last, s.first, rd (D4.cuts l) (i + 1)⟩ := by unfold Dim.one; rw [q]; rfl
   obtain ⟨n0, h0⟩ := w0r k (i + 1) (D4.one l (rd (D4.cuts l) i) (rd (D4.cuts l) (i + 1)) s) (by omega) (by omega) (by omega) (by rw [e]; exact hla) (by rw [e]; simpa [Dim.grow_length] using hf)
   refine ⟨n0 + n5 + 1 + n3 + 1, ?_⟩
   rw [st0 (n0 + n5 + 1), Zv]
   simp only [Bool.and_eq_true, decide_eq_true_eq] at q
   obtain ⟨q1, q2, q3⟩ := q
   have q3' : Jg s.last (Xp (D4.inn l (rd (D4.cuts l) i))) = true := q3
   rw [hsd] at q1
   simp (disch := omega) only [Xa, Zb, Zk, Zs, Yi, q2, q3', w1, w2, cond_true, cond_false]
   rw [← hsd, h5 n0]
   simp only [Dim.go]
   rw [e] at h0 ⊢
   exact h0
  ·obtain ⟨n4, h4⟩ := v1b l hl (i + 1) (by omega) (rd (D4.cuts l) i) (rd (D4.cuts l) (i + 1)) (D4.sec l (rd (D4.cuts l) i)) (D4.sec l (rd (D4.cuts l) i)) (s.out.length : Int) (D4.inn l (rd (D4.cuts l) i)) hsl (D4.sec l (rd (D4.cuts l) i)).length 0 s.out (Nat.zero_add _) (by omega)
   simp only [List.drop_zero, Qn] at h4
   have e : D4.one l (rd (D4.cuts l) i) (rd (D4.cuts l) (i + 1)) s = ⟨s.out ++ (D4.sec l (rd (D4.cuts l) i)).map (D4.put (rd (D4.cuts l) i) (rd (D4.cuts l) (i + 1))), D4.sec l (rd (D4.cuts l) i), s.out.length, rd (D4.cuts l) (i + 1)⟩ := by unfold Dim.one; rw [q]; rfl
   obtain ⟨n0, h0⟩ := w0r k (i + 1) (D4.one l (rd (D4.cuts l) i) (rd (D4.cuts l) (i + 1)) s) (by omega) (by omega) (by omega) (by rw [e]; exact hsl) (by rw [e]; simp)
   have hg : Yv (Xa l) 1 (.to (.h2 ((i + 1 : Nat) : Int) (l.length : Int) s.out s.last (s.first : Int) s.fin ((D4.cuts l).length) (Xy (Ye (D4.ends l))) (rd (D4.cuts l) i) (rd (D4.cuts l) (i + 1)) (D4.inn l (rd (D4.cuts l) i)))) = .to (.h3 (rd (D4.cuts l) i) (rd (D4.cuts l) (i + 1)) (D4.sec l (rd (D4.cuts l) i)) ((D4.sec l (rd (D4.cuts l) i)).length : Int) 0 (D4.sec l (rd (D4.cuts l) i)) ((i + 1 : Nat) : Int) s.out (D4.sec l (rd (D4.cuts l) i)) (s.out.length : Int) ((D4.cuts l).length) (Xy (Ye (D4.ends l))) (D4.inn l (rd (D4.cuts l) i))) := by
    rw [show (1 : Nat) = 0 + 1 from rfl, Zv]
    rw [hsd] at q ⊢
    have e3 : D4.same s.last (Xp (D4.inn l (rd (D4.cuts l) i))) = Jg s.last (Xp (D4.inn l (rd (D4.cuts l) i))) := rfl
    rw [e3] at q
    by_cases q1 : 0 < (Xp (D4.inn l (rd (D4.cuts l) i))).length
    ·rw [decide_eq_true q1, Bool.true_and] at q
     rcases Ya (s.fin == rd (D4.cuts l) i) with q2 | q2
     ·rw [q2, Bool.true_and] at q
      simp (disch := omega) only [Xa, Zb, Zk, Zs, Yi, q2, q, w1, w2, cond_true, cond_false]
      rfl
     ·simp (disch := omega) only [Xa, Zb, Zk, Zs, Yi, q2, w1, w2, cond_true, cond_false]
      rfl
    ·simp (disch := omega) only [Xa, Zb, Zk, Zs, Xz, w1, w2, cond_true, cond_false]
     rfl
   refine ⟨n0 + n4 + 1 + n3 + 1, ?_⟩
   rw [st0 (n0 + n4 + 1), y0g _ (n0 + n4) 1, hg, h4 n0]
   simp only [Dim.go]
   rw [e] at h0 ⊢
   exact h0
theorem v1d : ∀ (k i : Nat) (acc : List Int), i + k = l.length → acc = D4.ends (l.take i) → ∃ n, Yv (Xa l) n (.to (.h0 (i : Int) acc)) = .ret (z1a (D4.go l ((D4.cuts l).length - 1) 0 ⟨[], [], 0, 0⟩).out)
 | 0, i, acc, h, ha => by
  have e : acc = D4.ends l := by rw [ha, List.take_of_length_le (by omega)]
  subst e
  have hle := D4.ends_length l
  obtain ⟨n, hn⟩ := w0r l hl ((D4.cuts l).length - 1) 0 ⟨[], [], 0, 0⟩ (by omega) (Nat.zero_le _) (Nat.zero_le _) (Nat.zero_le _) (Nat.zero_le _)
  refine ⟨n + 1, ?_⟩
  rw [Zv]
  simp (disch := omega) only [Xa, Ux, Kx, z6j, Zs, Yw, Yu, decide_true, cond_true, cond_false]
  exact hn
 | k + 1, i, acc, h, ha => by
  have hle := D4.ends_length (l.take i)
  have fP : acc.length ≤ 2 * i := by rw [ha, hle]; simp; omega
  obtain ⟨n, hn⟩ := v1d k (i + 1) (acc ++ D4.ends [rd l i]) (by omega) (by
   rw [ha, List.take_add_one]
   have : l[i]? = some (rd l i) := by rw [Xe (show i < l.length by omega)]; exact List.getElem?_eq_getElem _
   rw [this, D4.ends_append]; rfl)
  refine ⟨n + 1, ?_⟩
  rw [Zv]
  simp (disch := omega) only [Xa, Zb, Zk, Zo, Zt, Yz, Yw, Yu, Zf, Zj, Zw, Yp, Zq, Nat.zero_add, decide_true, Bool.and_true, Bool.true_and, cond_true, cond_false]
  exact hn
end
def madE (l : List R4) : Int := v2f (D4.out l).length
def Jf (l : List R4) : List R4 := v1t (madE l) (D4.out l)
def z4k (l : List R4) : Int := madE l
def z1l (l : List R4) : Bool := decide (l.length ≤ 400)
theorem v4t (l : List R4) (h : z1l l = true) : ∃ n, Yv (Xa l) n (y3t l) = .ret (x7h (madE l) (D4.out l)) := by
 rw [show x7h (madE l) (D4.out l) = z1a (D4.out l) from (y0v _).symm]
 exact v1d l (of_decide_eq_true h) l.length 0 [] (Nat.zero_add _) rfl
def vl4V (a b c d : Int) : Bool := z2o ⟨a, b, c, d⟩
theorem v2r (a b c d : Int) : ∃ N, Yv (y8f a b c d) N (z7t a b c d) = .ret [.bool (vl4V a b c d)] := ⟨0, by
 unfold z7t vl4V z2o
 simp only [x1r]
 cases decide (a < c) <;> cases decide (b < d) <;> cases decide (a ≥ -1000000) <;> cases decide (a ≤ 1000000) <;> cases decide (c ≥ -1000000) <;> cases decide (c ≤ 1000000) <;> cases decide (b ≥ -1000000) <;> cases decide (b ≤ 1000000) <;> cases decide (d ≥ -1000000) <;> rfl⟩
def fVl4 : List AVal → Option (AVal × Bool)
 | [.agg [.int .i64 aZ, .int .i64 aU, .int .i64 aR, .int .i64 bF]] => some (.bool (vl4V aZ aU aR bF), true)
 | _ => none
theorem v5v {S : Specs} (hS : Zu prog S) : Zu prog (S.with x3b fVl4) := by
 refine z2g hS (by kernel_rfl) fun args v h => ?_
 unfold fVl4 at h
 split at h
 ·rename_i aZ aU aR bF
  simp only [Option.some.injEq, Prod.mk.injEq, and_true] at h
  subst h
  obtain ⟨N, hN⟩ := v2r aZ aU aR bF
  exact ⟨_, _, (.cons (.refl _) .nil), rfl, w3h aZ aU aR bF N _ hN, 3, rfl⟩
 ·cases h
def fMad : List AVal → Option (AVal × Bool)
 | [a0] => match asL R4 a0 with
  | some (L0, g0, n0) => some (.tup [.dat (Jf L0).length (Zz (Jf L0)), .int .i64 (z4k L0)], isT R4 n0 g0 && (z1l L0))
  | _ => none
 | _ => none
theorem v6g {S : Specs} (hS : Zu prog S) : Zu prog (S.with w0j fMad) := by
 refine v5w hS (by kernel_rfl) fun args v h => ?_
 unfold fMad at h
 split at h
 ·rename_i a0
  split at h
  ·rename_i L0 g0 n0 e0
   simp only [Option.some.injEq, Prod.mk.injEq, Bool.and_eq_true] at h
   obtain ⟨rfl, ho0, hw⟩ := h
   obtain ⟨N, hN⟩ := v4t L0 hw
   exact ⟨_, _, (.cons (asL_le e0 ho0) .nil), y3m _ _, w5j L0 N _ hN, 3, y9j _ _⟩
  ·cases h
 ·cases h
def T6v : Specs := (T6.with x3b fVl4)
theorem T6v_ok : Zu prog T6v := (v5v Ui)
def T6m : Specs := (T6v.with w0j fMad)
theorem y1k : Zu prog T6m := (v6g T6v_ok)
end Go.Am
namespace Go.Am
open Go.Proofs.Tryz
open Go.Proofs
inductive rgmS where
 | h0 (v8 : Int)
def rgmC (l0 : List R4) : rgmS → Cfg
 | .h0 v8 => ⟨⟨19, 0, true⟩, none, (Za prog 171 [1, 0, 1, 0, 0] 0), none, (Zy prog 3), ⟨Yk [(0, (.dat l0.length (Zz l0))), (1, (.fn 152 [])), (7, (ii (l0.length : Int))), (8, (ii v8))], Vn [] 0, 0, [], true⟩, [⟨⟨9, 0, true⟩, (Vk prog 151 [1, 0] 2), (Za prog 151 [1, 0] 1), none, (Zy prog 3), Yk [(5, (.dat l0.length (Zz l0))), (6, (.fn 152 []))]⟩, ⟨⟨13, 0, true⟩, (Vk prog 130 [1, 1, 0, 0] 1), (Za prog 130 [1, 1, 0, 0] 1), none, (Zy prog 77), Yk [(0, (.dat l0.length (Zz l0))), (7, (.dat l0.length (Zz l0)))]⟩], .leaf⟩
def rgmN0 : List (Option (List Nat)) := [some [0, 1, 7, 8], some [5, 6], some [0, 7]]
def rgmM0 : List (Option (List Nat)) := []
def z1g (l0 : List R4) : rgmS → Xn rgmS
 | .h0 v8 => (bif (decide (v8 < (l0.length : Int))) then (bif ((decide (0 ≤ v8 ∧ v8 < (l0.length : Int))) && true) then (bif (!(vl4V (rd l0 v8.toNat).a (rd l0 v8.toNat).b (rd l0 v8.toNat).c (rd l0 v8.toNat).d)) then (bif (decide (v8 ≥ 0)) then (.ret [.nils, (.int .i64 8)]) else (bif (z1l (cvT l0)) then (.ret [(.dat (Jf (cvT l0)).length (Zz (Jf (cvT l0)))), (.int .i64 (z4k (cvT l0)))]) else .stuck)) else (.to (.h0 (IntKind.wrap .i64 (v8 + 1))))) else .stuck) else (bif (z1l (cvT l0)) then (.ret [(.dat (Jf (cvT l0)).length (Zz (Jf (cvT l0)))), (.int .i64 (z4k (cvT l0)))]) else .stuck))
def z3x (l0 : List R4) : Xn rgmS := (bif (decide ((l0.length : Int) > 400)) then (.ret [.nils, (.int .i64 4)]) else (.to (.h0 0)))
theorem x5e (l0 : List R4) : ∀ s, Ww prog (Zy prog 130) (rgmC l0) (rgmC l0 s) (z1g l0 s)
 | .h0 v8 => (lb (fun k0 => (lo fun aH => (lb (fun k1 => (lb (fun k2 => (lr 13 130 [1, 1, 0, 1, 0, 0] 1 77 [(2, .nils), (3, (ii 8))] (sl y1k 54 [] ⟨[], [], [some [2, 3]], []⟩ ⟨[], [], []⟩ (trs 3 []) (tt k2 (tt k1 (ww aH (tt k0 nn))))))) (fun k2 => (lo fun o0 => (lr 13 3 [1, 1, 1, 1, 1, 1, 0] 1 77 [(2, (.dat (Jf (cvT l0)).length (Zz (Jf (cvT l0))))), (3, (ii (z4k (cvT l0))))] (sl y1k 59 [] ⟨[], [], [some [2, 3]], []⟩ ⟨[], [], []⟩ [true, true, false] (pp (pp (xr l0) (xw o0)) (tt k2 (tt k1 (ww aH (tt k0 nn))))))))))) (fun k1 => (sl y1k 44 [] ⟨[], [], rgmN0, rgmM0⟩ ⟨[], [], []⟩ [true, false] (tt k1 (ww aH (tt k0 nn)))))))) (fun k0 => (lo fun o0 => (lr 13 3 [1, 1, 1, 1, 1, 1, 0] 1 77 [(2, (.dat (Jf (cvT l0)).length (Zz (Jf (cvT l0))))), (3, (ii (z4k (cvT l0))))] (sl y1k 28 [] ⟨[], [], [some [2, 3]], []⟩ ⟨[], [], []⟩ [false, false] (pp (pp (xr l0) (xw o0)) (tt k0 nn)))))))
theorem y9h (l0 : List R4) : Ww prog (Zy prog 130) (rgmC l0) (Zn prog 130 [(.dat l0.length (Zz l0))] true []) (z3x l0) := (lb (fun k0 => (lr 13 130 [1, 0, 1, 0, 0] 1 77 [(2, .nils), (3, (ii 4))] (sl y1k 18 [] ⟨[], [], [some [2, 3]], []⟩ ⟨[], [], []⟩ [true] (tt k0 nn)))) (fun k0 => (sl y1k 41 [] ⟨[], [], rgmN0, rgmM0⟩ ⟨[], [], []⟩ [false] (tt k0 nn))))
theorem w4l (l0 : List R4) (n : Nat) (vs : List AVal) (h : Yv (z1g l0) n (z3x l0) = .ret vs) : Kz prog (Zy prog 130) (Zn prog 130 [(.dat l0.length (Zz l0))] true []) vs := by
 have := Zr (x5e l0) n _ (y9h l0)
 rwa [h] at this
end Go.Am
namespace Go.Am
open Go.Proofs.Tryz
open Go.Proofs
open Go.Sort Go.Shelf Go.RowKit Go.Lib
theorem v0a (l : List R4) (hl : l.length ≤ 400) : ∀ (k i : Nat), i + k = l.length → (∀ s ∈ l.take i, z2o s = true) → ∃ n, Yv (z1g l) n (.to (.h0 (i : Int))) = .ret (bif l.all z2o then [.dat (Jf l).length (Zz (Jf l)), .int .i64 (z4k l)] else [.nils, .int .i64 8])
 | 0, i, h, ht => by
  have hv : l.all z2o = true := List.all_eq_true.2 fun s hs => ht s (by rw [List.take_of_length_le (by omega)]; exact hs)
  have w : z1l l = true := decide_eq_true hl
  refine ⟨1, ?_⟩
  rw [Zv, hv, cond_true]
  simp (disch := omega) only [z1g, Zb, w, Zs, cond_true, cond_false, Zm]
 | k + 1, i, h, ht => by
  have hi : i < l.length := by omega
  have hs : z1g l (.h0 (i : Int)) = bif z2o (rd l i) then .to (.h0 ((i + 1 : Nat) : Int)) else .ret [.nils, .int .i64 8] := by
   have e : vl4V (rd l i).a (rd l i).b (rd l i).c (rd l i).d = z2o (rd l i) := rfl
   simp (disch := omega) only [z1g, e, y4q, x3y, x3z, Zt, Zj, Zw, Zq, Bool.and_true, cond_true, cond_false]
  rcases Ya (z2o (rd l i)) with q | q
  ·obtain ⟨n, hn⟩ := v0a l hl k (i + 1) (by omega) (fun s hs => by
    rw [List.take_add_one] at hs
    have e : l[i]? = some (rd l i) := by rw [Xe hi]; exact List.getElem?_eq_getElem _
    rw [e] at hs
    simp only [Option.toList_some, List.mem_append, List.mem_singleton] at hs
    rcases hs with hs | rfl
    ·exact ht s hs
    ·exact q)
   refine ⟨n + 1, ?_⟩
   rw [Zv, hs, q, cond_true]
   exact hn
  ·have hv : l.all z2o = false := Bool.eq_false_iff.2 fun e => by
    have := List.all_eq_true.1 e (rd l i) (by rw [Xe hi]; exact List.getElem_mem hi)
    rw [this] at q; cases q
   refine ⟨1, ?_⟩
   rw [Zv, hv, cond_false, hs, q, cond_false, Zm]
theorem w4k (l : List R4) : ∃ n, Yv (z1g l) n (z3x l) = .ret (bif decide (400 < l.length) then [.nils, .int .i64 4] else bif l.all z2o then [.dat (Jf l).length (Zz (Jf l)), .int .i64 (z4k l)] else [.nils, .int .i64 8]) := by
 unfold z3x
 by_cases h : 400 < l.length
 ·refine ⟨0, ?_⟩
  rw [decide_eq_true h, Yi (show (l.length : Int) > 400 by omega)]; rfl
 ·obtain ⟨n, hn⟩ := v0a l (by omega) l.length 0 (Nat.zero_add _) (fun s hs => by simp at hs)
  refine ⟨n, ?_⟩
  rw [decide_eq_false h, Xz (show ¬ (l.length : Int) > 400 by omega), cond_false, cond_false]
  exact hn
def Yj (l : List R4) : List R4 := bif decide (400 < l.length) then [] else bif l.all z2o then (bif decide (((D4.out l).length : Int) > 400) then [] else D4.out l) else []
def Uc (l : List R4) : Int := bif decide (400 < l.length) then 4 else bif l.all z2o then (bif decide (((D4.out l).length : Int) > 400) then 4 else 0) else 8
def Qg (l : List R4) : Bool := true
theorem v4f (l : List R4) (h : Qg l = true) : ∃ n, Yv (z1g l) n (z3x l) = .ret (bif decide (400 < l.length) then [.nils, .int .i64 4] else bif l.all z2o then [.dat (Yj l).length (Zz (Yj l)), .int .i64 (Uc l)] else [.nils, .int .i64 8]) := by
 obtain ⟨n, hn⟩ := w4k l
 refine ⟨n, hn.trans ?_⟩
 cases h1 : decide (400 < l.length) <;> cases h2 : l.all z2o <;> simp only [cond_true, cond_false]
 have e0 : Jf l = Yj l := by
  unfold Jf madE v1t v2f Yj
  rw [h1, h2]
  cases decide (((D4.out l).length : Int) > 400) <;> rfl
 have e1 : z4k l = Uc l := by
  unfold z4k madE v2f Uc
  rw [h1, h2]; rfl
 rw [e0, e1]
def fRgm : List AVal → Option (AVal × Bool)
 | [a0] => match asL R4 a0 with
  | some (L0, g0, n0) => some (.tup [.dat (Yj L0).length (Zz (Yj L0)), .int .i64 (Uc L0)], isT R4 n0 g0 && (Qg L0))
  | _ => none
 | _ => none
theorem v6b {S : Specs} (hS : Zu prog S) : Zu prog (S.with x3c fRgm) := by
 refine v5w hS (by kernel_rfl) fun args v h => ?_
 unfold fRgm at h
 split at h
 ·rename_i a0
  split at h
  ·rename_i L0 g0 n0 e0
   simp only [Option.some.injEq, Prod.mk.injEq, Bool.and_eq_true] at h
   obtain ⟨rfl, ho0, hw⟩ := h
   obtain ⟨N, hN⟩ := v4f L0 hw
   refine ⟨_, _, (.cons (asL_le e0 ho0) .nil), ?_, w4l L0 N _ hN, 3, ?_⟩
   ·cases h1 : decide (400 < L0.length) <;> cases h2 : L0.all z2o <;> simp only [Yj, Uc, h1, h2, cond_true, cond_false]
    ·exact fun ρ u hu => z6v (.cons (z1k R4) (RLe.refl _)) ρ u hu
    ·exact fun ρ u hu => hu
    ·exact fun ρ u hu => z6v (.cons (z1k R4) (RLe.refl _)) ρ u hu
    ·exact fun ρ u hu => z6v (.cons (z1k R4) (RLe.refl _)) ρ u hu
   ·cases decide (400 < L0.length) <;> cases L0.all z2o <;> rfl
  ·cases h
 ·cases h
def T7 : Specs := (T6m.with x3c fRgm)
theorem y7y : Zu prog T7 := (v6b y1k)
end Go.Am
namespace Go.Am
open Go.Proofs.Tryz
open Go.Proofs
inductive vl6S where
def vl6C (aZ : Int) (aU : Int) (aR : Int) (bF : Int) (bQ : Int) (bG : Int) : vl6S → Cfg
 := nofun
def y8d (aZ : Int) (aU : Int) (aR : Int) (bF : Int) (bQ : Int) (bG : Int) : vl6S → Xn vl6S
 := nofun
def z7s (aZ : Int) (aU : Int) (aR : Int) (bF : Int) (bQ : Int) (bG : Int) : Xn vl6S := (bif (decide (aZ < bF)) then (bif (decide (aU < bQ)) then (bif (decide (aR < bG)) then (bif (decide ((Uw (Uw aZ aU) aR) ≥ (-1000000))) then (bif (decide ((Wg (Wg aZ aU) aR) ≤ 1000000)) then (bif (decide ((Uw (Uw bF bQ) bG) ≥ (-1000000))) then (.ret [(.bool (decide ((Wg (Wg bF bQ) bG) ≤ 1000000)))]) else (.ret [(.bool false)])) else (.ret [(.bool false)])) else (.ret [(.bool false)])) else (.ret [(.bool false)])) else (.ret [(.bool false)])) else (.ret [(.bool false)]))
theorem x4g (aZ : Int) (aU : Int) (aR : Int) (bF : Int) (bQ : Int) (bG : Int) : ∀ s, Ww prog (Zy prog 107) (vl6C aZ aU aR bF bQ bG) (vl6C aZ aU aR bF bQ bG s) (y8d aZ aU aR bF bQ bG s)
 := nofun
theorem y8e (aZ : Int) (aU : Int) (aR : Int) (bF : Int) (bQ : Int) (bG : Int) : Ww prog (Zy prog 107) (vl6C aZ aU aR bF bQ bG) (Zn prog 107 [(.agg [(.int .i64 aZ), (.int .i64 aU), (.int .i64 aR), (.int .i64 bF), (.int .i64 bQ), (.int .i64 bG)])] true []) (z7s aZ aU aR bF bQ bG) := (lb (fun k0 => (lb (fun k1 => (lb (fun k2 => (lb (fun k3 => (lb (fun k4 => (lb (fun k5 => (lr 38 3 [1, 1, 1, 1, 1, 1, 0] 1 15 [(2, (.bool (decide ((Wg (Wg bF bQ) bG) ≤ 1000000))))] (sl y7y 100 [] ⟨[], [], [some [2]], []⟩ ⟨[], [], []⟩ (trs 36 []) (tt k5 (tt k4 (tt k3 (tt k2 (tt k1 (tt k0 nn))))))))) (fun k5 => (lr 38 3 [1, 1, 1, 1, 1, 1, 0] 1 15 [(2, (.bool false))] (sl y7y 100 [] ⟨[], [], [some [2]], []⟩ ⟨[], [], []⟩ (trs 28 [false, false, false, false, false, false, false, false]) (tt k5 (tt k4 (tt k3 (tt k2 (tt k1 (tt k0 nn))))))))))) (fun k4 => (lr 38 3 [1, 1, 1, 1, 1, 1, 0] 1 15 [(2, (.bool false))] (sl y7y 72 [] ⟨[], [], [some [2]], []⟩ ⟨[], [], []⟩ (trs 25 [false, false, false]) (tt k4 (tt k3 (tt k2 (tt k1 (tt k0 nn)))))))))) (fun k3 => (lr 38 3 [1, 1, 1, 1, 1, 1, 0] 1 15 [(2, (.bool false))] (sl y7y 72 [] ⟨[], [], [some [2]], []⟩ ⟨[], [], []⟩ (trs 17 [false, false, false, false, false, false, false, false, false, false, false]) (tt k3 (tt k2 (tt k1 (tt k0 nn))))))))) (fun k2 => (lr 38 3 [1, 1, 1, 1, 1, 1, 0] 1 15 [(2, (.bool false))] (sl y7y 44 [] ⟨[], [], [some [2]], []⟩ ⟨[], [], []⟩ (trs 14 [false, false, false, false, false, false]) (tt k2 (tt k1 (tt k0 nn)))))))) (fun k1 => (lr 38 3 [1, 1, 1, 1, 1, 1, 0] 1 15 [(2, (.bool false))] (sl y7y 44 [] ⟨[], [], [some [2]], []⟩ ⟨[], [], []⟩ (trs 7 [false, false, false, false, false, false, false, false, false, false, false, false, false]) (tt k1 (tt k0 nn))))))) (fun k0 => (lr 38 3 [1, 1, 1, 1, 1, 1, 0] 1 15 [(2, (.bool false))] (sl y7y 44 [] ⟨[], [], [some [2]], []⟩ ⟨[], [], []⟩ [false, false, false, false, false, false, false, false, false, false, false, false, false, false, false, false, false, false, false, false] (tt k0 nn)))))
theorem w3g (aZ : Int) (aU : Int) (aR : Int) (bF : Int) (bQ : Int) (bG : Int) (n : Nat) (vs : List AVal) (h : Yv (y8d aZ aU aR bF bQ bG) n (z7s aZ aU aR bF bQ bG) = .ret vs) : Kz prog (Zy prog 107) (Zn prog 107 [(.agg [(.int .i64 aZ), (.int .i64 aU), (.int .i64 aR), (.int .i64 bF), (.int .i64 bQ), (.int .i64 bG)])] true []) vs := by
 have := Zr (x4g aZ aU aR bF bQ bG) n _ (y8e aZ aU aR bF bQ bG)
 rwa [h] at this
end Go.Am
namespace Go.Am
open Go.Proofs.Tryz
open Go.Proofs
open Go.Sort Go.Shelf Go.RowKit Go.Lib
def Ja (r : R6) : Bool := decide (r.a < r.d) && (decide (r.b < r.e) && (decide (r.c < r.f) && (decide ((Uw (Uw r.a r.b) r.c) ≥ (-1000000)) && (decide ((Wg (Wg r.a r.b) r.c) ≤ 1000000) && (decide ((Uw (Uw r.d r.e) r.f) ≥ (-1000000)) && decide ((Wg (Wg r.d r.e) r.f) ≤ 1000000))))))
def v2q (a b c d e f : Int) : Bool := Ja ⟨a, b, c, d, e, f⟩
theorem v2p (a b c d e f : Int) : ∃ N, Yv (y8d a b c d e f) N (z7s a b c d e f) = .ret [.bool (v2q a b c d e f)] := ⟨0, by
 unfold z7s v2q Ja
 simp only [x1r]
 cases decide (a < d) <;> cases decide (b < e) <;> cases decide (c < f) <;> cases decide ((Uw (Uw a b) c) ≥ (-1000000)) <;> cases decide ((Wg (Wg a b) c) ≤ 1000000) <;> cases decide ((Uw (Uw d e) f) ≥ (-1000000)) <;> rfl⟩
def fVl6 : List AVal → Option (AVal × Bool)
 | [.agg [.int .i64 aZ, .int .i64 aU, .int .i64 aR, .int .i64 bF, .int .i64 bQ, .int .i64 bG]] => some (.bool (v2q aZ aU aR bF bQ bG), true)
 | _ => none
theorem v5u {S : Specs} (hS : Zu prog S) : Zu prog (S.with x3a fVl6) := by
 refine z2g hS (by kernel_rfl) fun args v h => ?_
 unfold fVl6 at h
 split at h
 ·rename_i aZ aU aR bF bQ bG
  simp only [Option.some.injEq, Prod.mk.injEq, and_true] at h
  subst h
  obtain ⟨N, hN⟩ := v2p aZ aU aR bF bQ bG
  exact ⟨_, _, (.cons (.refl _) .nil), rfl, w3g aZ aU aR bF bQ bG N _ hN, 3, rfl⟩
 ·cases h
def T7v : Specs := (T7.with x3a fVl6)
theorem Ws : Zu prog T7v := (v5u y7y)
end Go.Am
end
