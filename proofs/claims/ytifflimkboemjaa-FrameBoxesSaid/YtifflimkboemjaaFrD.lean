/- Checks, axes, frames within frames: contracts. (The laws of single paths are printed by a program.) -/
import Derived.Test.YtifflimkboemjaaFrC
namespace Go.Am
open Go.Proofs
set_option maxRecDepth 100000
set_option linter.unusedVariables false
set_option linter.unusedSimpArgs false

theorem pCheck_0 (t : Int) (x : Int) (y : Int) (z : Int) (h0 : ((decide (t ≥ 24)) = true)) :
    callA Try.prog S1 300 true [true, true, true, true, true] 21 [AVal.agg [AVal.int IntKind.u8 t, AVal.int IntKind.i64 x, AVal.int IntKind.i64 y, AVal.int IntKind.i64 z]] = some (AVal.int IntKind.i64 8, true) := by
  have e : callA Try.prog S1 300 true [true, true, true, true, true] 21 [AVal.agg [AVal.int IntKind.u8 t, AVal.int IntKind.i64 x, AVal.int IntKind.i64 y, AVal.int IntKind.i64 z]] = some (AVal.int IntKind.i64 8, (((((((((((true && true) && true) && true) && true) && ((decide (t ≥ 24)) == true)) && true) && true) && true) && true) && true) && true)) := by kernel_rfl
  rw [e]; simp only [h0, Bool.and_true, Bool.and_self, beq_self_eq_true]
theorem pCheck_1 (t : Int) (x : Int) (y : Int) (z : Int) (h0 : ((decide (t ≥ 24)) = false)) (h1 : ((!fineL x y z (-1000000)) = true)) :
    callA Try.prog S1 300 true [false, false, false, false, true] 21 [AVal.agg [AVal.int IntKind.u8 t, AVal.int IntKind.i64 x, AVal.int IntKind.i64 y, AVal.int IntKind.i64 z]] = some (AVal.int IntKind.i64 8, true) := by
  have e : callA Try.prog S1 300 true [false, false, false, false, true] 21 [AVal.agg [AVal.int IntKind.u8 t, AVal.int IntKind.i64 x, AVal.int IntKind.i64 y, AVal.int IntKind.i64 z]] = some (AVal.int IntKind.i64 8, ((((((((((((((true && true) && true) && true) && true) && ((decide (t ≥ 24)) == false)) && true) && true) && true) && true) && true) && true) && true) && ((!fineL x y z (-1000000)) == true)) && true)) := by kernel_rfl
  rw [e]; simp only [h0, h1, Bool.and_true, Bool.and_self, beq_self_eq_true]
theorem pCheck_2 (t : Int) (x : Int) (y : Int) (z : Int) (h0 : ((decide (t ≥ 24)) = false)) (h1 : ((!fineL x y z (-1000000)) = false)) :
    callA Try.prog S1 300 true [false, false, false, false, false] 21 [AVal.agg [AVal.int IntKind.u8 t, AVal.int IntKind.i64 x, AVal.int IntKind.i64 y, AVal.int IntKind.i64 z]] = some (AVal.int IntKind.i64 0, true) := by
  have e : callA Try.prog S1 300 true [false, false, false, false, false] 21 [AVal.agg [AVal.int IntKind.u8 t, AVal.int IntKind.i64 x, AVal.int IntKind.i64 y, AVal.int IntKind.i64 z]] = some (AVal.int IntKind.i64 0, ((((((((((((((true && true) && true) && true) && true) && ((decide (t ≥ 24)) == false)) && true) && true) && true) && true) && true) && true) && true) && ((!fineL x y z (-1000000)) == false)) && true)) := by kernel_rfl
  rw [e]; simp only [h0, h1, Bool.and_true, Bool.and_self, beq_self_eq_true]
theorem rCheck_0 (t : Int) (x : Int) (y : Int) (z : Int) (h0 : ((decide (t ≥ 24)) = true)) :
    callA Try.prog S1 300 true [true, true, true, true, true] 22 [AVal.agg [AVal.int IntKind.u8 t, AVal.int IntKind.i64 x, AVal.int IntKind.i64 y, AVal.int IntKind.i64 z]] = some (AVal.int IntKind.i64 8, true) := by
  have e : callA Try.prog S1 300 true [true, true, true, true, true] 22 [AVal.agg [AVal.int IntKind.u8 t, AVal.int IntKind.i64 x, AVal.int IntKind.i64 y, AVal.int IntKind.i64 z]] = some (AVal.int IntKind.i64 8, (((((((((((true && true) && true) && true) && true) && ((decide (t ≥ 24)) == true)) && true) && true) && true) && true) && true) && true)) := by kernel_rfl
  rw [e]; simp only [h0, Bool.and_true, Bool.and_self, beq_self_eq_true]
theorem rCheck_1 (t : Int) (x : Int) (y : Int) (z : Int) (h0 : ((decide (t ≥ 24)) = false)) (h1 : ((!fineL x y z (-1000000)) = true)) :
    callA Try.prog S1 300 true [false, false, false, false, true] 22 [AVal.agg [AVal.int IntKind.u8 t, AVal.int IntKind.i64 x, AVal.int IntKind.i64 y, AVal.int IntKind.i64 z]] = some (AVal.int IntKind.i64 8, true) := by
  have e : callA Try.prog S1 300 true [false, false, false, false, true] 22 [AVal.agg [AVal.int IntKind.u8 t, AVal.int IntKind.i64 x, AVal.int IntKind.i64 y, AVal.int IntKind.i64 z]] = some (AVal.int IntKind.i64 8, ((((((((((((((true && true) && true) && true) && true) && ((decide (t ≥ 24)) == false)) && true) && true) && true) && true) && true) && true) && true) && ((!fineL x y z (-1000000)) == true)) && true)) := by kernel_rfl
  rw [e]; simp only [h0, h1, Bool.and_true, Bool.and_self, beq_self_eq_true]
theorem rCheck_2 (t : Int) (x : Int) (y : Int) (z : Int) (h0 : ((decide (t ≥ 24)) = false)) (h1 : ((!fineL x y z (-1000000)) = false)) :
    callA Try.prog S1 300 true [false, false, false, false, false] 22 [AVal.agg [AVal.int IntKind.u8 t, AVal.int IntKind.i64 x, AVal.int IntKind.i64 y, AVal.int IntKind.i64 z]] = some (AVal.int IntKind.i64 0, true) := by
  have e : callA Try.prog S1 300 true [false, false, false, false, false] 22 [AVal.agg [AVal.int IntKind.u8 t, AVal.int IntKind.i64 x, AVal.int IntKind.i64 y, AVal.int IntKind.i64 z]] = some (AVal.int IntKind.i64 0, ((((((((((((((true && true) && true) && true) && true) && ((decide (t ≥ 24)) == false)) && true) && true) && true) && true) && true) && true) && true) && ((!fineL x y z (-1000000)) == false)) && true)) := by kernel_rfl
  rw [e]; simp only [h0, h1, Bool.and_true, Bool.and_self, beq_self_eq_true]
theorem pAxes_0 (t : Int) (h0 : ((decide (t ≥ 24)) = true)) :
    callA Try.prog S1 300 true [true] 11 [AVal.int IntKind.u8 t] = some (AVal.tup [AVal.agg [AVal.int IntKind.i64 0, AVal.int IntKind.i64 0, AVal.int IntKind.i64 0, AVal.int IntKind.i64 0, AVal.int IntKind.i64 0, AVal.int IntKind.i64 0, AVal.int IntKind.i64 0, AVal.int IntKind.i64 0, AVal.int IntKind.i64 0], AVal.int IntKind.i64 2], true) := by
  have e : callA Try.prog S1 300 true [true] 11 [AVal.int IntKind.u8 t] = some (AVal.tup [AVal.agg [AVal.int IntKind.i64 0, AVal.int IntKind.i64 0, AVal.int IntKind.i64 0, AVal.int IntKind.i64 0, AVal.int IntKind.i64 0, AVal.int IntKind.i64 0, AVal.int IntKind.i64 0, AVal.int IntKind.i64 0, AVal.int IntKind.i64 0], AVal.int IntKind.i64 2], ((((((true && true) && true) && true) && ((decide (t ≥ 24)) == true)) && true) && true)) := by kernel_rfl
  rw [e]; simp only [h0, Bool.and_true, Bool.and_self, beq_self_eq_true]
theorem pAxes_1 (t : Int) (h0 : ((decide (t ≥ 24)) = false)) (h1 : ((decide (0 ≤ t) && decide (t < 24)) = true)) :
    callA Try.prog S1 300 true [false] 11 [AVal.int IntKind.u8 t] = some (AVal.tup [AVal.agg [AVal.int IntKind.i64 (tb t 0), AVal.int IntKind.i64 (tb t 1), AVal.int IntKind.i64 (tb t 2), AVal.int IntKind.i64 (tb t 3), AVal.int IntKind.i64 (tb t 4), AVal.int IntKind.i64 (tb t 5), AVal.int IntKind.i64 (tb t 6), AVal.int IntKind.i64 (tb t 7), AVal.int IntKind.i64 (tb t 8)], AVal.int IntKind.i64 0], true) := by
  have e : callA Try.prog S1 300 true [false] 11 [AVal.int IntKind.u8 t] = some (AVal.tup [AVal.agg [AVal.int IntKind.i64 (tb t 0), AVal.int IntKind.i64 (tb t 1), AVal.int IntKind.i64 (tb t 2), AVal.int IntKind.i64 (tb t 3), AVal.int IntKind.i64 (tb t 4), AVal.int IntKind.i64 (tb t 5), AVal.int IntKind.i64 (tb t 6), AVal.int IntKind.i64 (tb t 7), AVal.int IntKind.i64 (tb t 8)], AVal.int IntKind.i64 0], (((((((true && true) && true) && true) && ((decide (t ≥ 24)) == false)) && true) && (decide (0 ≤ t) && decide (t < 24))) && true)) := by kernel_rfl
  rw [e]; simp only [h0, h1, Bool.and_true, Bool.and_self, beq_self_eq_true]
theorem rAxes_0 (t : Int) (h0 : ((decide (t ≥ 24)) = true)) :
    callA Try.prog S1 300 true [true] 12 [AVal.int IntKind.u8 t] = some (AVal.tup [AVal.agg [AVal.int IntKind.i64 0, AVal.int IntKind.i64 0, AVal.int IntKind.i64 0, AVal.int IntKind.i64 0, AVal.int IntKind.i64 0, AVal.int IntKind.i64 0, AVal.int IntKind.i64 0, AVal.int IntKind.i64 0, AVal.int IntKind.i64 0], AVal.int IntKind.i64 2], true) := by
  have e : callA Try.prog S1 300 true [true] 12 [AVal.int IntKind.u8 t] = some (AVal.tup [AVal.agg [AVal.int IntKind.i64 0, AVal.int IntKind.i64 0, AVal.int IntKind.i64 0, AVal.int IntKind.i64 0, AVal.int IntKind.i64 0, AVal.int IntKind.i64 0, AVal.int IntKind.i64 0, AVal.int IntKind.i64 0, AVal.int IntKind.i64 0], AVal.int IntKind.i64 2], ((((((true && true) && true) && true) && ((decide (t ≥ 24)) == true)) && true) && true)) := by kernel_rfl
  rw [e]; simp only [h0, Bool.and_true, Bool.and_self, beq_self_eq_true]
theorem rAxes_1 (t : Int) (h0 : ((decide (t ≥ 24)) = false)) (h1 : ((decide (0 ≤ IntKind.wrap IntKind.i64 t) && decide (IntKind.wrap IntKind.i64 t < 24)) = true)) :
    callA Try.prog S1 300 true [false] 12 [AVal.int IntKind.u8 t] = some (AVal.tup [AVal.agg [AVal.int IntKind.i64 (tb (IntKind.wrap IntKind.i64 t) 0), AVal.int IntKind.i64 (tb (IntKind.wrap IntKind.i64 t) 1), AVal.int IntKind.i64 (tb (IntKind.wrap IntKind.i64 t) 2), AVal.int IntKind.i64 (tb (IntKind.wrap IntKind.i64 t) 3), AVal.int IntKind.i64 (tb (IntKind.wrap IntKind.i64 t) 4), AVal.int IntKind.i64 (tb (IntKind.wrap IntKind.i64 t) 5), AVal.int IntKind.i64 (tb (IntKind.wrap IntKind.i64 t) 6), AVal.int IntKind.i64 (tb (IntKind.wrap IntKind.i64 t) 7), AVal.int IntKind.i64 (tb (IntKind.wrap IntKind.i64 t) 8)], AVal.int IntKind.i64 0], true) := by
  have e : callA Try.prog S1 300 true [false] 12 [AVal.int IntKind.u8 t] = some (AVal.tup [AVal.agg [AVal.int IntKind.i64 (tb (IntKind.wrap IntKind.i64 t) 0), AVal.int IntKind.i64 (tb (IntKind.wrap IntKind.i64 t) 1), AVal.int IntKind.i64 (tb (IntKind.wrap IntKind.i64 t) 2), AVal.int IntKind.i64 (tb (IntKind.wrap IntKind.i64 t) 3), AVal.int IntKind.i64 (tb (IntKind.wrap IntKind.i64 t) 4), AVal.int IntKind.i64 (tb (IntKind.wrap IntKind.i64 t) 5), AVal.int IntKind.i64 (tb (IntKind.wrap IntKind.i64 t) 6), AVal.int IntKind.i64 (tb (IntKind.wrap IntKind.i64 t) 7), AVal.int IntKind.i64 (tb (IntKind.wrap IntKind.i64 t) 8)], AVal.int IntKind.i64 0], ((((((((true && true) && true) && true) && ((decide (t ≥ 24)) == false)) && true) && true) && (decide (0 ≤ IntKind.wrap IntKind.i64 t) && decide (IntKind.wrap IntKind.i64 t < 24))) && true)) := by kernel_rfl
  rw [e]; simp only [h0, h1, Bool.and_true, Bool.and_self, beq_self_eq_true]
theorem pWithin0_0 (s : Int) (a : Int) (b : Int) (c : Int) (t : Int) (x : Int) (y : Int) (z : Int) (h0 : ((decide (0 ≤ s) && decide (s < 24)) = true)) (h1 : ((decide (0 ≤ t) && decide (t < 24)) = true)) (h2 : ((isRow [IntKind.wrap IntKind.i64 (IntKind.wrap IntKind.i64 (IntKind.wrap IntKind.i64 (tb s 0 * tb t 0) + IntKind.wrap IntKind.i64 (tb s 1 * tb t 3)) + IntKind.wrap IntKind.i64 (tb s 2 * tb t 6)), IntKind.wrap IntKind.i64 (IntKind.wrap IntKind.i64 (IntKind.wrap IntKind.i64 (tb s 0 * tb t 1) + IntKind.wrap IntKind.i64 (tb s 1 * tb t 4)) + IntKind.wrap IntKind.i64 (tb s 2 * tb t 7)), IntKind.wrap IntKind.i64 (IntKind.wrap IntKind.i64 (IntKind.wrap IntKind.i64 (tb s 0 * tb t 2) + IntKind.wrap IntKind.i64 (tb s 1 * tb t 5)) + IntKind.wrap IntKind.i64 (tb s 2 * tb t 8)), IntKind.wrap IntKind.i64 (IntKind.wrap IntKind.i64 (IntKind.wrap IntKind.i64 (tb s 3 * tb t 0) + IntKind.wrap IntKind.i64 (tb s 4 * tb t 3)) + IntKind.wrap IntKind.i64 (tb s 5 * tb t 6)), IntKind.wrap IntKind.i64 (IntKind.wrap IntKind.i64 (IntKind.wrap IntKind.i64 (tb s 3 * tb t 1) + IntKind.wrap IntKind.i64 (tb s 4 * tb t 4)) + IntKind.wrap IntKind.i64 (tb s 5 * tb t 7)), IntKind.wrap IntKind.i64 (IntKind.wrap IntKind.i64 (IntKind.wrap IntKind.i64 (tb s 3 * tb t 2) + IntKind.wrap IntKind.i64 (tb s 4 * tb t 5)) + IntKind.wrap IntKind.i64 (tb s 5 * tb t 8)), IntKind.wrap IntKind.i64 (IntKind.wrap IntKind.i64 (IntKind.wrap IntKind.i64 (tb s 6 * tb t 0) + IntKind.wrap IntKind.i64 (tb s 7 * tb t 3)) + IntKind.wrap IntKind.i64 (tb s 8 * tb t 6)), IntKind.wrap IntKind.i64 (IntKind.wrap IntKind.i64 (IntKind.wrap IntKind.i64 (tb s 6 * tb t 1) + IntKind.wrap IntKind.i64 (tb s 7 * tb t 4)) + IntKind.wrap IntKind.i64 (tb s 8 * tb t 7)), IntKind.wrap IntKind.i64 (IntKind.wrap IntKind.i64 (IntKind.wrap IntKind.i64 (tb s 6 * tb t 2) + IntKind.wrap IntKind.i64 (tb s 7 * tb t 5)) + IntKind.wrap IntKind.i64 (tb s 8 * tb t 8))]) = true)) :
    callA Try.prog S1 300 true [true, true, true, false] 44 [AVal.agg [AVal.int IntKind.u8 s, AVal.int IntKind.i64 a, AVal.int IntKind.i64 b, AVal.int IntKind.i64 c], AVal.agg [AVal.int IntKind.u8 t, AVal.int IntKind.i64 x, AVal.int IntKind.i64 y, AVal.int IntKind.i64 z]] = some (AVal.agg [AVal.int IntKind.u8 (nm [IntKind.wrap IntKind.i64 (IntKind.wrap IntKind.i64 (IntKind.wrap IntKind.i64 (tb s 0 * tb t 0) + IntKind.wrap IntKind.i64 (tb s 1 * tb t 3)) + IntKind.wrap IntKind.i64 (tb s 2 * tb t 6)), IntKind.wrap IntKind.i64 (IntKind.wrap IntKind.i64 (IntKind.wrap IntKind.i64 (tb s 0 * tb t 1) + IntKind.wrap IntKind.i64 (tb s 1 * tb t 4)) + IntKind.wrap IntKind.i64 (tb s 2 * tb t 7)), IntKind.wrap IntKind.i64 (IntKind.wrap IntKind.i64 (IntKind.wrap IntKind.i64 (tb s 0 * tb t 2) + IntKind.wrap IntKind.i64 (tb s 1 * tb t 5)) + IntKind.wrap IntKind.i64 (tb s 2 * tb t 8)), IntKind.wrap IntKind.i64 (IntKind.wrap IntKind.i64 (IntKind.wrap IntKind.i64 (tb s 3 * tb t 0) + IntKind.wrap IntKind.i64 (tb s 4 * tb t 3)) + IntKind.wrap IntKind.i64 (tb s 5 * tb t 6)), IntKind.wrap IntKind.i64 (IntKind.wrap IntKind.i64 (IntKind.wrap IntKind.i64 (tb s 3 * tb t 1) + IntKind.wrap IntKind.i64 (tb s 4 * tb t 4)) + IntKind.wrap IntKind.i64 (tb s 5 * tb t 7)), IntKind.wrap IntKind.i64 (IntKind.wrap IntKind.i64 (IntKind.wrap IntKind.i64 (tb s 3 * tb t 2) + IntKind.wrap IntKind.i64 (tb s 4 * tb t 5)) + IntKind.wrap IntKind.i64 (tb s 5 * tb t 8)), IntKind.wrap IntKind.i64 (IntKind.wrap IntKind.i64 (IntKind.wrap IntKind.i64 (tb s 6 * tb t 0) + IntKind.wrap IntKind.i64 (tb s 7 * tb t 3)) + IntKind.wrap IntKind.i64 (tb s 8 * tb t 6)), IntKind.wrap IntKind.i64 (IntKind.wrap IntKind.i64 (IntKind.wrap IntKind.i64 (tb s 6 * tb t 1) + IntKind.wrap IntKind.i64 (tb s 7 * tb t 4)) + IntKind.wrap IntKind.i64 (tb s 8 * tb t 7)), IntKind.wrap IntKind.i64 (IntKind.wrap IntKind.i64 (IntKind.wrap IntKind.i64 (tb s 6 * tb t 2) + IntKind.wrap IntKind.i64 (tb s 7 * tb t 5)) + IntKind.wrap IntKind.i64 (tb s 8 * tb t 8))]), AVal.int IntKind.i64 (imgL t 0 x a b c), AVal.int IntKind.i64 (imgL t 1 y a b c), AVal.int IntKind.i64 (imgL t 2 z a b c)], true) := by
  have e : callA Try.prog S1 300 true [true, true, true, false] 44 [AVal.agg [AVal.int IntKind.u8 s, AVal.int IntKind.i64 a, AVal.int IntKind.i64 b, AVal.int IntKind.i64 c], AVal.agg [AVal.int IntKind.u8 t, AVal.int IntKind.i64 x, AVal.int IntKind.i64 y, AVal.int IntKind.i64 z]] = some (AVal.agg [AVal.int IntKind.u8 (nm [IntKind.wrap IntKind.i64 (IntKind.wrap IntKind.i64 (IntKind.wrap IntKind.i64 (tb s 0 * tb t 0) + IntKind.wrap IntKind.i64 (tb s 1 * tb t 3)) + IntKind.wrap IntKind.i64 (tb s 2 * tb t 6)), IntKind.wrap IntKind.i64 (IntKind.wrap IntKind.i64 (IntKind.wrap IntKind.i64 (tb s 0 * tb t 1) + IntKind.wrap IntKind.i64 (tb s 1 * tb t 4)) + IntKind.wrap IntKind.i64 (tb s 2 * tb t 7)), IntKind.wrap IntKind.i64 (IntKind.wrap IntKind.i64 (IntKind.wrap IntKind.i64 (tb s 0 * tb t 2) + IntKind.wrap IntKind.i64 (tb s 1 * tb t 5)) + IntKind.wrap IntKind.i64 (tb s 2 * tb t 8)), IntKind.wrap IntKind.i64 (IntKind.wrap IntKind.i64 (IntKind.wrap IntKind.i64 (tb s 3 * tb t 0) + IntKind.wrap IntKind.i64 (tb s 4 * tb t 3)) + IntKind.wrap IntKind.i64 (tb s 5 * tb t 6)), IntKind.wrap IntKind.i64 (IntKind.wrap IntKind.i64 (IntKind.wrap IntKind.i64 (tb s 3 * tb t 1) + IntKind.wrap IntKind.i64 (tb s 4 * tb t 4)) + IntKind.wrap IntKind.i64 (tb s 5 * tb t 7)), IntKind.wrap IntKind.i64 (IntKind.wrap IntKind.i64 (IntKind.wrap IntKind.i64 (tb s 3 * tb t 2) + IntKind.wrap IntKind.i64 (tb s 4 * tb t 5)) + IntKind.wrap IntKind.i64 (tb s 5 * tb t 8)), IntKind.wrap IntKind.i64 (IntKind.wrap IntKind.i64 (IntKind.wrap IntKind.i64 (tb s 6 * tb t 0) + IntKind.wrap IntKind.i64 (tb s 7 * tb t 3)) + IntKind.wrap IntKind.i64 (tb s 8 * tb t 6)), IntKind.wrap IntKind.i64 (IntKind.wrap IntKind.i64 (IntKind.wrap IntKind.i64 (tb s 6 * tb t 1) + IntKind.wrap IntKind.i64 (tb s 7 * tb t 4)) + IntKind.wrap IntKind.i64 (tb s 8 * tb t 7)), IntKind.wrap IntKind.i64 (IntKind.wrap IntKind.i64 (IntKind.wrap IntKind.i64 (tb s 6 * tb t 2) + IntKind.wrap IntKind.i64 (tb s 7 * tb t 5)) + IntKind.wrap IntKind.i64 (tb s 8 * tb t 8))]), AVal.int IntKind.i64 (imgL t 0 x a b c), AVal.int IntKind.i64 (imgL t 1 y a b c), AVal.int IntKind.i64 (imgL t 2 z a b c)], ((((((((((((((((((((((((((((((((((((((((((((((((((((((((((((((((((((((((((((((((((((((((((((((((((((((((((((((((((((((((((((((((((((((((((((((((((((((((((((((((((((((((((true && true) && (decide (0 ≤ s) && decide (s < 24))) && true) && (decide (0 ≤ t) && decide (t < 24))) && true) && true) && true) && true) && true) && true) && true) && true) && true) && true) && true) && true) && true) && true) && true) && true) && true) && true) && true) && true) && true) && true) && true) && true) && true) && true) && true) && true) && true) && true) && true) && true) && true) && true) && true) && true) && true) && true) && true) && true) && true) && true) && true) && true) && true) && true) && true) && true) && true) && true) && true) && true) && true) && true) && true) && true) && true) && true) && true) && true) && true) && true) && true) && true) && true) && true) && true) && true) && true) && true) && true) && true) && true) && true) && true) && true) && true) && true) && true) && true) && true) && true) && true) && true) && true) && true) && true) && true) && true) && true) && true) && true) && true) && true) && true) && true) && true) && true) && true) && true) && true) && true) && true) && true) && true) && true) && true) && true) && true) && true) && true) && true) && true) && true) && true) && true) && true) && true) && true) && true) && true) && true) && true) && true) && true) && true) && true) && true) && true) && true) && true) && true) && true) && true) && true) && true) && true) && true) && true) && true) && true) && true) && true) && true) && true) && true) && true) && true) && true) && true) && true) && true) && true) && true) && true) && true) && true) && true) && true) && true) && true) && true) && (isRow [IntKind.wrap IntKind.i64 (IntKind.wrap IntKind.i64 (IntKind.wrap IntKind.i64 (tb s 0 * tb t 0) + IntKind.wrap IntKind.i64 (tb s 1 * tb t 3)) + IntKind.wrap IntKind.i64 (tb s 2 * tb t 6)), IntKind.wrap IntKind.i64 (IntKind.wrap IntKind.i64 (IntKind.wrap IntKind.i64 (tb s 0 * tb t 1) + IntKind.wrap IntKind.i64 (tb s 1 * tb t 4)) + IntKind.wrap IntKind.i64 (tb s 2 * tb t 7)), IntKind.wrap IntKind.i64 (IntKind.wrap IntKind.i64 (IntKind.wrap IntKind.i64 (tb s 0 * tb t 2) + IntKind.wrap IntKind.i64 (tb s 1 * tb t 5)) + IntKind.wrap IntKind.i64 (tb s 2 * tb t 8)), IntKind.wrap IntKind.i64 (IntKind.wrap IntKind.i64 (IntKind.wrap IntKind.i64 (tb s 3 * tb t 0) + IntKind.wrap IntKind.i64 (tb s 4 * tb t 3)) + IntKind.wrap IntKind.i64 (tb s 5 * tb t 6)), IntKind.wrap IntKind.i64 (IntKind.wrap IntKind.i64 (IntKind.wrap IntKind.i64 (tb s 3 * tb t 1) + IntKind.wrap IntKind.i64 (tb s 4 * tb t 4)) + IntKind.wrap IntKind.i64 (tb s 5 * tb t 7)), IntKind.wrap IntKind.i64 (IntKind.wrap IntKind.i64 (IntKind.wrap IntKind.i64 (tb s 3 * tb t 2) + IntKind.wrap IntKind.i64 (tb s 4 * tb t 5)) + IntKind.wrap IntKind.i64 (tb s 5 * tb t 8)), IntKind.wrap IntKind.i64 (IntKind.wrap IntKind.i64 (IntKind.wrap IntKind.i64 (tb s 6 * tb t 0) + IntKind.wrap IntKind.i64 (tb s 7 * tb t 3)) + IntKind.wrap IntKind.i64 (tb s 8 * tb t 6)), IntKind.wrap IntKind.i64 (IntKind.wrap IntKind.i64 (IntKind.wrap IntKind.i64 (tb s 6 * tb t 1) + IntKind.wrap IntKind.i64 (tb s 7 * tb t 4)) + IntKind.wrap IntKind.i64 (tb s 8 * tb t 7)), IntKind.wrap IntKind.i64 (IntKind.wrap IntKind.i64 (IntKind.wrap IntKind.i64 (tb s 6 * tb t 2) + IntKind.wrap IntKind.i64 (tb s 7 * tb t 5)) + IntKind.wrap IntKind.i64 (tb s 8 * tb t 8))])) && true) && (decide (0 ≤ t) && decide (t < 24))) && true)) := by kernel_rfl
  rw [e]; simp only [h0, h1, h2, Bool.and_true, Bool.and_self, beq_self_eq_true]

/-! ### Plain laws of the table -/
theorem nmGo_range (l : List Int) : ∀ (rs : List (List Int)) (k : Nat), nmGo l rs k = 0 ∨ ((k : Int) ≤ nmGo l rs k ∧ nmGo l rs k < k + rs.length)
  | [], _ => .inl rfl
  | r :: rs, k => by
    unfold nmGo
    cases r == l with
    | true => right; simp only [cond_true, List.length_cons]; omega
    | false =>
      simp only [cond_false, List.length_cons]
      rcases nmGo_range l rs (k + 1) with h | h
      · exact .inl h
      · right; push_cast at h ⊢; omega
theorem nm_range (l : List Int) : 0 ≤ nm l ∧ nm l < 24 := by
  have : tabL.length = 24 := rfl
  rcases nmGo_range l tabL 0 with h | h <;> unfold nm <;> omega
theorem nm_u8 (l : List Int) : IntKind.u8.wrap (nm l) = nm l := by
  have := nm_range l
  rw [IntKind.wrap_u8]; omega
theorem tabL_all : tabL.all (fun r => r.all fun x => decide (-1 ≤ x) && decide (x ≤ 1)) = true := by kernel_rfl
theorem tb_range (t : Int) (j : Nat) : -1 ≤ tb t j ∧ tb t j ≤ 1 := by
  unfold tb row
  simp only [List.getD_eq_getElem?_getD]
  cases h : tabL[t.toNat]? with
  | none => simp
  | some r =>
    have h1 := List.all_eq_true.mp tabL_all _ (List.mem_of_getElem? h)
    cases h' : r[j]? with
    | none => simp [h']
    | some x =>
      have h2 := List.all_eq_true.mp h1 _ (List.mem_of_getElem? h')
      simpa [h'] using h2
theorem mul_range {x y : Int} (hx : -1 ≤ x ∧ x ≤ 1) (hy : -1 ≤ y ∧ y ≤ 1) : -1 ≤ x * y ∧ x * y ≤ 1 := by
  have : x = -1 ∨ x = 0 ∨ x = 1 := by omega
  rcases this with rfl | rfl | rfl <;> omega
theorem w_tb (s t : Int) (i j k l m n : Nat) : IntKind.i64.wrap (tb s i * tb t j + (tb s k * tb t l + tb s m * tb t n)) = tb s i * tb t j + (tb s k * tb t l + tb s m * tb t n) := by
  have h1 := mul_range (tb_range s i) (tb_range t j)
  have h2 := mul_range (tb_range s k) (tb_range t l)
  have h3 := mul_range (tb_range s m) (tb_range t n)
  exact w_in (by omega) (by omega)

/-- The images of the axes by one turn, then another. -/
def mulL (s t : Int) : List Int := [
  tb s 0 * tb t 0 + (tb s 1 * tb t 3 + tb s 2 * tb t 6), tb s 0 * tb t 1 + (tb s 1 * tb t 4 + tb s 2 * tb t 7), tb s 0 * tb t 2 + (tb s 1 * tb t 5 + tb s 2 * tb t 8),
  tb s 3 * tb t 0 + (tb s 4 * tb t 3 + tb s 5 * tb t 6), tb s 3 * tb t 1 + (tb s 4 * tb t 4 + tb s 5 * tb t 7), tb s 3 * tb t 2 + (tb s 4 * tb t 5 + tb s 5 * tb t 8),
  tb s 6 * tb t 0 + (tb s 7 * tb t 3 + tb s 8 * tb t 6), tb s 6 * tb t 1 + (tb s 7 * tb t 4 + tb s 8 * tb t 7), tb s 6 * tb t 2 + (tb s 7 * tb t 5 + tb s 8 * tb t 8)]
def cmp (s t : Int) : Int := nm (mulL s t)

theorem all_turns {p : Int → Bool} (h : (List.range 24).all (fun n => p n) = true) {t : Int} (h0 : 0 ≤ t) (h1 : t < 24) : p t = true := by
  have := List.all_eq_true.mp h t.toNat (List.mem_range.mpr (by omega))
  rwa [show ((t.toNat : Nat) : Int) = t from by omega] at this
theorem all_turns2 {p : Int → Int → Bool} (h : (List.range 24).all (fun m => (List.range 24).all fun n => p m n) = true) {s t : Int} (h0 : 0 ≤ s) (h1 : s < 24) (h2 : 0 ≤ t) (h3 : t < 24) : p s t = true :=
  all_turns (p := fun t => p s t) (all_turns (p := fun s => (List.range 24).all fun n => p s n) h h0 h1) h2 h3
theorem mul_isRow {s t : Int} (h0 : 0 ≤ s) (h1 : s < 24) (h2 : 0 ≤ t) (h3 : t < 24) : isRow (mulL s t) = true :=
  all_turns2 (p := fun s t => isRow (mulL s t)) (by kernel_rfl) h0 h1 h2 h3

/-! ### The contracts -/
def chk (t x y z : Int) : Int := bif decide (t < 24) && fineL x y z (-1000000) then 0 else 8
def fCheck : List AVal → Option (AVal × Bool)
  | [.agg [.int .u8 t, .int .i64 x, .int .i64 y, .int .i64 z]] => some (.int .i64 (chk t x y z), true)
  | _ => none
def i9 (a b c d e f g h i : Int) : AVal := .agg [.int .i64 a, .int .i64 b, .int .i64 c, .int .i64 d, .int .i64 e, .int .i64 f, .int .i64 g, .int .i64 h, .int .i64 i]
def axP (t : Int) (j : Nat) : Int := bif decide (t < 24) then tb t j else 0
def axE (t : Int) : Int := bif decide (t < 24) then 0 else 2
def fAxesE : List AVal → Option (AVal × Bool)
  | [.int .u8 t] => some (.tup [i9 (axP t 0) (axP t 1) (axP t 2) (axP t 3) (axP t 4) (axP t 5) (axP t 6) (axP t 7) (axP t 8), .int .i64 (axE t)], decide (0 ≤ t))
  | _ => none
def fWithin0 : List AVal → Option (AVal × Bool)
  | [.agg [.int .u8 s, .int .i64 a, .int .i64 b, .int .i64 c], .agg [.int .u8 t, .int .i64 x, .int .i64 y, .int .i64 z]] =>
    some (.agg [.int .u8 (cmp s t), .int .i64 (imgL t 0 x a b c), .int .i64 (imgL t 1 y a b c), .int .i64 (imgL t 2 z a b c)], (decide (0 ≤ s) && decide (s < 24)) && (decide (0 ≤ t) && decide (t < 24)))
  | _ => none

theorem lt_of_ge {t : Int} {b : Bool} (h : decide (t ≥ 24) = b) : decide (t < 24) = !b := by
  subst h
  by_cases h : t < 24
  · simp [h, show ¬ (24 ≤ t) by omega]
  · simp [h, show 24 ≤ t by omega]

theorem fCheck_ok {args : List AVal} {v : AVal} (h : fCheck args = some (v, true)) : (Gives Try.prog S1 21 args v ∧ ∃ d, pf d v = true) ∧ (Gives Try.prog S1 22 args v ∧ ∃ d, pf d v = true) := by
  unfold fCheck at h
  split at h
  · rename_i t x y z
    cases h
    refine ⟨⟨?_, 2, rfl⟩, ⟨?_, 2, rfl⟩⟩
    all_goals
      cases h0 : decide (t ≥ 24) with
      | true =>
        first
        | exact gives (pCheck_0 t x y z h0) (congrArg (AVal.int .i64) (by simp only [chk, lt_of_ge h0, Bool.not_true, Bool.false_and, cond_false]))
        | exact gives (rCheck_0 t x y z h0) (congrArg (AVal.int .i64) (by simp only [chk, lt_of_ge h0, Bool.not_true, Bool.false_and, cond_false]))
      | false =>
        cases h1 : fineL x y z (-1000000) with
        | false =>
          first
          | exact gives (pCheck_1 t x y z h0 (by rw [h1]; rfl)) (congrArg (AVal.int .i64) (by simp only [chk, h1, Bool.and_false, cond_false]))
          | exact gives (rCheck_1 t x y z h0 (by rw [h1]; rfl)) (congrArg (AVal.int .i64) (by simp only [chk, h1, Bool.and_false, cond_false]))
        | true =>
          first
          | exact gives (pCheck_2 t x y z h0 (by rw [h1]; rfl)) (congrArg (AVal.int .i64) (by simp only [chk, lt_of_ge h0, h1, Bool.not_false, Bool.and_true, cond_true]))
          | exact gives (rCheck_2 t x y z h0 (by rw [h1]; rfl)) (congrArg (AVal.int .i64) (by simp only [chk, lt_of_ge h0, h1, Bool.not_false, Bool.and_true, cond_true]))
  · cases h

theorem fAxesE_ok {args : List AVal} {v : AVal} (h : fAxesE args = some (v, true)) : (Gives Try.prog S1 11 args v ∧ ∃ d, pf d v = true) ∧ (Gives Try.prog S1 12 args v ∧ ∃ d, pf d v = true) := by
  unfold fAxesE at h
  split at h
  · rename_i t
    simp only [Option.some.injEq, Prod.mk.injEq, decide_eq_true_eq] at h
    obtain ⟨rfl, ht⟩ := h
    unfold axP axE
    cases h0 : decide (t ≥ 24) with
    | true =>
      have h1 := lt_of_ge h0
      rw [h1]
      exact ⟨⟨gives (pAxes_0 t h0) rfl, 4, rfl⟩, ⟨gives (rAxes_0 t h0) rfl, 4, rfl⟩⟩
    | false =>
      have h1 := lt_of_ge h0
      have h2 : t < 24 := of_decide_eq_true h1
      have e : IntKind.i64.wrap t = t := w_in (by omega) (by omega)
      have hb : (decide (0 ≤ t) && decide (t < 24)) = true := by simp [ht, h2]
      rw [h1]
      refine ⟨⟨gives (pAxes_1 t h0 hb) rfl, 4, rfl⟩, ⟨gives (rAxes_1 t h0 (by rw [e]; exact hb)) (by rw [e]; rfl), 4, rfl⟩⟩
  · cases h

theorem fWithin0_ok {args : List AVal} {v : AVal} (h : fWithin0 args = some (v, true)) : Gives Try.prog S1 44 args v ∧ ∃ d, pf d v = true := by
  unfold fWithin0 at h
  split at h
  · rename_i s a b c t x y z
    simp only [Option.some.injEq, Prod.mk.injEq] at h
    obtain ⟨rfl, h⟩ := h
    obtain ⟨hs, ht⟩ := Bool.and_eq_true_iff.mp h
    have hs' := hs; have ht' := ht
    simp only [Bool.and_eq_true, decide_eq_true_eq] at hs' ht'
    refine ⟨gives (pWithin0_0 s a b c t x y z hs ht ?_) ?_, 3, rfl⟩
    · simp only [w_l, w_r, Int.add_assoc, w_tb]
      exact mul_isRow hs'.1 hs'.2 ht'.1 ht'.2
    · simp only [w_l, w_r, Int.add_assoc, w_tb]
      rfl
  · cases h

noncomputable def S2 : Specs := ((((S1.with 21 fCheck).with 22 fCheck).with 11 fAxesE).with 12 fAxesE).with 44 fWithin0
theorem S2_ok : SpecsOk Try.prog noOld S2 :=
  with_ok (with_ok (with_ok (with_ok (with_ok S1_ok S1_ok (by kernel_rfl) fun _ _ h => (fCheck_ok h).1) S1_ok (by kernel_rfl) fun _ _ h => (fCheck_ok h).2) S1_ok (by kernel_rfl) fun _ _ h => (fAxesE_ok h).1) S1_ok (by kernel_rfl) fun _ _ h => (fAxesE_ok h).2)
    S1_ok (by kernel_rfl) fun _ _ h => fWithin0_ok h

end Go.Am
