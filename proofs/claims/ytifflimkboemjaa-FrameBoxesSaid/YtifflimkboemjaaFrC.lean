/- Bounds of vectors, images of vectors: contracts. (The laws of single paths are printed by a program.) -/
import Derived.Test.YtifflimkboemjaaFrB
namespace Go.Am
open Go.Proofs
set_option maxRecDepth 100000
set_option linter.unusedVariables false
set_option linter.unusedSimpArgs false

theorem w64 (n : Int) : IntKind.i64.wrap n = (n + 9223372036854775808) % 18446744073709551616 - 9223372036854775808 := by
  rw [IntKind.wrap_i64]
theorem w_l (a b : Int) : IntKind.i64.wrap (IntKind.i64.wrap a + b) = IntKind.i64.wrap (a + b) := by simp only [w64]; omega
theorem w_r (a b : Int) : IntKind.i64.wrap (a + IntKind.i64.wrap b) = IntKind.i64.wrap (a + b) := by simp only [w64]; omega
theorem w_in {n : Int} (h : -9223372036854775808 ≤ n) (h' : n ≤ 9223372036854775807) : IntKind.i64.wrap n = n := by simp only [w64]; omega

theorem pFine_0 (x : Int) (y : Int) (z : Int) (lo : Int) (h0 : ((decide ((if z < if y < x then y else x then z else if y < x then y else x) ≥ lo)) = true)) :
    callA Try.prog noSpecs 300 true [true, true, true, true, true, true, true, true] 41 [AVal.agg [AVal.int IntKind.i64 x, AVal.int IntKind.i64 y, AVal.int IntKind.i64 z], AVal.int IntKind.i64 lo] = some (AVal.bool (decide ((if z > if y > x then y else x then z else if y > x then y else x) ≤ 1000000)), true) := by
  have e : callA Try.prog noSpecs 300 true [true, true, true, true, true, true, true, true] 41 [AVal.agg [AVal.int IntKind.i64 x, AVal.int IntKind.i64 y, AVal.int IntKind.i64 z], AVal.int IntKind.i64 lo] = some (AVal.bool (decide ((if z > if y > x then y else x then z else if y > x then y else x) ≤ 1000000)), (((((((((((((((((((((((true && true) && true) && true) && true) && true) && true) && true) && true) && (decide ((if z < if y < x then y else x then z else if y < x then y else x) ≥ lo) == true)) && true) && true) && true) && true) && true) && true) && true) && true) && true) && true) && true) && true) && true) && true)) := by kernel_rfl
  rw [e]; simp only [h0, Bool.and_true, Bool.and_self, beq_self_eq_true]
theorem pFine_1 (x : Int) (y : Int) (z : Int) (lo : Int) (h0 : ((decide ((if z < if y < x then y else x then z else if y < x then y else x) ≥ lo)) = false)) :
    callA Try.prog noSpecs 300 true [false, false, false, false, false, false, false, false] 41 [AVal.agg [AVal.int IntKind.i64 x, AVal.int IntKind.i64 y, AVal.int IntKind.i64 z], AVal.int IntKind.i64 lo] = some (AVal.bool false, true) := by
  have e : callA Try.prog noSpecs 300 true [false, false, false, false, false, false, false, false] 41 [AVal.agg [AVal.int IntKind.i64 x, AVal.int IntKind.i64 y, AVal.int IntKind.i64 z], AVal.int IntKind.i64 lo] = some (AVal.bool false, ((((((((((((((((((true && true) && true) && true) && true) && true) && true) && true) && true) && (decide ((if z < if y < x then y else x then z else if y < x then y else x) ≥ lo) == false)) && true) && true) && true) && true) && true) && true) && true) && true) && true)) := by kernel_rfl
  rw [e]; simp only [h0, Bool.and_true, Bool.and_self, beq_self_eq_true]
theorem pIn_0 (x : Int) (y : Int) (z : Int) (lo : Int) (h0 : ((decide (x ≥ lo)) = true)) (h1 : ((decide (y ≥ lo)) = true)) (h2 : ((decide (z ≥ lo)) = true)) (h3 : ((decide (x ≤ 1000000)) = true)) (h4 : ((decide (y ≤ 1000000)) = true)) :
    callA Try.prog noSpecs 300 true [true, true, true, true, true, true, true, true, true, true, true, true, true, true, true, true, true] 24 [AVal.agg [AVal.int IntKind.i64 x, AVal.int IntKind.i64 y, AVal.int IntKind.i64 z], AVal.int IntKind.i64 lo] = some (AVal.bool (decide (z ≤ 1000000)), true) := by
  have e : callA Try.prog noSpecs 300 true [true, true, true, true, true, true, true, true, true, true, true, true, true, true, true, true, true] 24 [AVal.agg [AVal.int IntKind.i64 x, AVal.int IntKind.i64 y, AVal.int IntKind.i64 z], AVal.int IntKind.i64 lo] = some (AVal.bool (decide (z ≤ 1000000)), ((((((((((((((((((((((((((((((((((((((((((((true && true) && true) && true) && true) && true) && (decide (x ≥ lo) == true)) && true) && true) && true) && true) && true) && true) && true) && true) && (decide (y ≥ lo) == true)) && true) && true) && true) && true) && true) && true) && true) && true) && (decide (z ≥ lo) == true)) && true) && true) && true) && true) && true) && true) && (decide (x ≤ 1000000) == true)) && true) && true) && true) && true) && true) && true) && (decide (y ≤ 1000000) == true)) && true) && true) && true) && true) && true) && true)) := by kernel_rfl
  rw [e]; simp only [h0, h1, h2, h3, h4, Bool.and_true, Bool.and_self, beq_self_eq_true]
theorem pIn_1 (x : Int) (y : Int) (z : Int) (lo : Int) (h0 : ((decide (x ≥ lo)) = true)) (h1 : ((decide (y ≥ lo)) = true)) (h2 : ((decide (z ≥ lo)) = true)) (h3 : ((decide (x ≤ 1000000)) = true)) (h4 : ((decide (y ≤ 1000000)) = false)) :
    callA Try.prog noSpecs 300 true [true, true, true, true, true, true, true, true, true, true, true, true, true, true, false, false, false] 24 [AVal.agg [AVal.int IntKind.i64 x, AVal.int IntKind.i64 y, AVal.int IntKind.i64 z], AVal.int IntKind.i64 lo] = some (AVal.bool false, true) := by
  have e : callA Try.prog noSpecs 300 true [true, true, true, true, true, true, true, true, true, true, true, true, true, true, false, false, false] 24 [AVal.agg [AVal.int IntKind.i64 x, AVal.int IntKind.i64 y, AVal.int IntKind.i64 z], AVal.int IntKind.i64 lo] = some (AVal.bool false, ((((((((((((((((((((((((((((((((((((((((((true && true) && true) && true) && true) && true) && (decide (x ≥ lo) == true)) && true) && true) && true) && true) && true) && true) && true) && true) && (decide (y ≥ lo) == true)) && true) && true) && true) && true) && true) && true) && true) && true) && (decide (z ≥ lo) == true)) && true) && true) && true) && true) && true) && true) && (decide (x ≤ 1000000) == true)) && true) && true) && true) && true) && true) && true) && (decide (y ≤ 1000000) == false)) && true) && true) && true) && true)) := by kernel_rfl
  rw [e]; simp only [h0, h1, h2, h3, h4, Bool.and_true, Bool.and_self, beq_self_eq_true]
theorem pIn_2 (x : Int) (y : Int) (z : Int) (lo : Int) (h0 : ((decide (x ≥ lo)) = true)) (h1 : ((decide (y ≥ lo)) = true)) (h2 : ((decide (z ≥ lo)) = true)) (h3 : ((decide (x ≤ 1000000)) = false)) :
    callA Try.prog noSpecs 300 true [true, true, true, true, true, true, true, true, true, true, true, false, false, false, false, false, false] 24 [AVal.agg [AVal.int IntKind.i64 x, AVal.int IntKind.i64 y, AVal.int IntKind.i64 z], AVal.int IntKind.i64 lo] = some (AVal.bool false, true) := by
  have e : callA Try.prog noSpecs 300 true [true, true, true, true, true, true, true, true, true, true, true, false, false, false, false, false, false] 24 [AVal.agg [AVal.int IntKind.i64 x, AVal.int IntKind.i64 y, AVal.int IntKind.i64 z], AVal.int IntKind.i64 lo] = some (AVal.bool false, ((((((((((((((((((((((((((((((((((((((((true && true) && true) && true) && true) && true) && (decide (x ≥ lo) == true)) && true) && true) && true) && true) && true) && true) && true) && true) && (decide (y ≥ lo) == true)) && true) && true) && true) && true) && true) && true) && true) && true) && (decide (z ≥ lo) == true)) && true) && true) && true) && true) && true) && true) && (decide (x ≤ 1000000) == false)) && true) && true) && true) && true) && true) && true) && true) && true) && true)) := by kernel_rfl
  rw [e]; simp only [h0, h1, h2, h3, Bool.and_true, Bool.and_self, beq_self_eq_true]
theorem pIn_3 (x : Int) (y : Int) (z : Int) (lo : Int) (h0 : ((decide (x ≥ lo)) = true)) (h1 : ((decide (y ≥ lo)) = true)) (h2 : ((decide (z ≥ lo)) = false)) :
    callA Try.prog noSpecs 300 true [true, true, true, true, true, true, true, true, false, false, false, false, false, false, false, false, false] 24 [AVal.agg [AVal.int IntKind.i64 x, AVal.int IntKind.i64 y, AVal.int IntKind.i64 z], AVal.int IntKind.i64 lo] = some (AVal.bool false, true) := by
  have e : callA Try.prog noSpecs 300 true [true, true, true, true, true, true, true, true, false, false, false, false, false, false, false, false, false] 24 [AVal.agg [AVal.int IntKind.i64 x, AVal.int IntKind.i64 y, AVal.int IntKind.i64 z], AVal.int IntKind.i64 lo] = some (AVal.bool false, ((((((((((((((((((((((((((((((((((((((true && true) && true) && true) && true) && true) && (decide (x ≥ lo) == true)) && true) && true) && true) && true) && true) && true) && true) && true) && (decide (y ≥ lo) == true)) && true) && true) && true) && true) && true) && true) && true) && true) && (decide (z ≥ lo) == false)) && true) && true) && true) && true) && true) && true) && true) && true) && true) && true) && true) && true) && true) && true)) := by kernel_rfl
  rw [e]; simp only [h0, h1, h2, Bool.and_true, Bool.and_self, beq_self_eq_true]
theorem pIn_4 (x : Int) (y : Int) (z : Int) (lo : Int) (h0 : ((decide (x ≥ lo)) = true)) (h1 : ((decide (y ≥ lo)) = false)) :
    callA Try.prog noSpecs 300 true [true, true, true, true, false, false, false, false, false, false, false, false, false, false, false, false, false] 24 [AVal.agg [AVal.int IntKind.i64 x, AVal.int IntKind.i64 y, AVal.int IntKind.i64 z], AVal.int IntKind.i64 lo] = some (AVal.bool false, true) := by
  have e : callA Try.prog noSpecs 300 true [true, true, true, true, false, false, false, false, false, false, false, false, false, false, false, false, false] 24 [AVal.agg [AVal.int IntKind.i64 x, AVal.int IntKind.i64 y, AVal.int IntKind.i64 z], AVal.int IntKind.i64 lo] = some (AVal.bool false, (((((((((((((((((((((((((((((((((((true && true) && true) && true) && true) && true) && (decide (x ≥ lo) == true)) && true) && true) && true) && true) && true) && true) && true) && true) && (decide (y ≥ lo) == false)) && true) && true) && true) && true) && true) && true) && true) && true) && true) && true) && true) && true) && true) && true) && true) && true) && true) && true) && true) && true)) := by kernel_rfl
  rw [e]; simp only [h0, h1, Bool.and_true, Bool.and_self, beq_self_eq_true]
theorem pIn_5 (x : Int) (y : Int) (z : Int) (lo : Int) (h0 : ((decide (x ≥ lo)) = false)) :
    callA Try.prog noSpecs 300 true [false, false, false, false, false, false, false, false, false, false, false, false, false, false, false, false, false] 24 [AVal.agg [AVal.int IntKind.i64 x, AVal.int IntKind.i64 y, AVal.int IntKind.i64 z], AVal.int IntKind.i64 lo] = some (AVal.bool false, true) := by
  have e : callA Try.prog noSpecs 300 true [false, false, false, false, false, false, false, false, false, false, false, false, false, false, false, false, false] 24 [AVal.agg [AVal.int IntKind.i64 x, AVal.int IntKind.i64 y, AVal.int IntKind.i64 z], AVal.int IntKind.i64 lo] = some (AVal.bool false, ((((((((((((((((((((((((((((((((true && true) && true) && true) && true) && true) && (decide (x ≥ lo) == false)) && true) && true) && true) && true) && true) && true) && true) && true) && true) && true) && true) && true) && true) && true) && true) && true) && true) && true) && true) && true) && true) && true) && true) && true) && true) && true)) := by kernel_rfl
  rw [e]; simp only [h0, Bool.and_true, Bool.and_self, beq_self_eq_true]
theorem pImage_0 (t : Int) (x : Int) (y : Int) (z : Int) (a : Int) (b : Int) (c : Int) (h0 : ((decide (0 ≤ t) && decide (t < 24)) = true)) :
    callA Try.prog S0 300 true [] 42 [AVal.agg [AVal.int IntKind.u8 t, AVal.int IntKind.i64 a, AVal.int IntKind.i64 b, AVal.int IntKind.i64 c], AVal.agg [AVal.int IntKind.i64 x, AVal.int IntKind.i64 y, AVal.int IntKind.i64 z]] = some (AVal.agg [AVal.int IntKind.i64 (IntKind.wrap IntKind.i64 (IntKind.wrap IntKind.i64 (IntKind.wrap IntKind.i64 (IntKind.wrap IntKind.i64 (x * tb t 0) + IntKind.wrap IntKind.i64 (y * tb t 3)) + IntKind.wrap IntKind.i64 (z * tb t 6)) + a)), AVal.int IntKind.i64 (IntKind.wrap IntKind.i64 (IntKind.wrap IntKind.i64 (IntKind.wrap IntKind.i64 (IntKind.wrap IntKind.i64 (x * tb t 1) + IntKind.wrap IntKind.i64 (y * tb t 4)) + IntKind.wrap IntKind.i64 (z * tb t 7)) + b)), AVal.int IntKind.i64 (IntKind.wrap IntKind.i64 (IntKind.wrap IntKind.i64 (IntKind.wrap IntKind.i64 (IntKind.wrap IntKind.i64 (x * tb t 2) + IntKind.wrap IntKind.i64 (y * tb t 5)) + IntKind.wrap IntKind.i64 (z * tb t 8)) + c))], true) := by
  have e : callA Try.prog S0 300 true [] 42 [AVal.agg [AVal.int IntKind.u8 t, AVal.int IntKind.i64 a, AVal.int IntKind.i64 b, AVal.int IntKind.i64 c], AVal.agg [AVal.int IntKind.i64 x, AVal.int IntKind.i64 y, AVal.int IntKind.i64 z]] = some (AVal.agg [AVal.int IntKind.i64 (IntKind.wrap IntKind.i64 (IntKind.wrap IntKind.i64 (IntKind.wrap IntKind.i64 (IntKind.wrap IntKind.i64 (x * tb t 0) + IntKind.wrap IntKind.i64 (y * tb t 3)) + IntKind.wrap IntKind.i64 (z * tb t 6)) + a)), AVal.int IntKind.i64 (IntKind.wrap IntKind.i64 (IntKind.wrap IntKind.i64 (IntKind.wrap IntKind.i64 (IntKind.wrap IntKind.i64 (x * tb t 1) + IntKind.wrap IntKind.i64 (y * tb t 4)) + IntKind.wrap IntKind.i64 (z * tb t 7)) + b)), AVal.int IntKind.i64 (IntKind.wrap IntKind.i64 (IntKind.wrap IntKind.i64 (IntKind.wrap IntKind.i64 (IntKind.wrap IntKind.i64 (x * tb t 2) + IntKind.wrap IntKind.i64 (y * tb t 5)) + IntKind.wrap IntKind.i64 (z * tb t 8)) + c))], ((((((((((((((((((((((((((((((((((((((((((((((((((((((((((true && true) && (decide (0 ≤ t) && decide (t < 24))) && true) && true) && true) && true) && true) && true) && true) && true) && true) && true) && true) && true) && true) && true) && true) && true) && true) && true) && true) && true) && true) && true) && true) && true) && true) && true) && true) && true) && true) && true) && true) && true) && true) && true) && true) && true) && true) && true) && true) && true) && true) && true) && true) && true) && true) && true) && true) && true) && true) && true) && true) && true) && true) && true) && true) && true)) := by kernel_rfl
  rw [e]; simp only [h0, Bool.and_true, Bool.and_self, beq_self_eq_true]
theorem rImage_0 (t : Int) (x : Int) (y : Int) (z : Int) (a : Int) (b : Int) (c : Int) (h0 : ((decide (0 ≤ IntKind.wrap IntKind.i64 t) && decide (IntKind.wrap IntKind.i64 t < 24)) = true)) :
    callA Try.prog S0 300 true [] 43 [AVal.agg [AVal.int IntKind.u8 t, AVal.int IntKind.i64 a, AVal.int IntKind.i64 b, AVal.int IntKind.i64 c], AVal.agg [AVal.int IntKind.i64 x, AVal.int IntKind.i64 y, AVal.int IntKind.i64 z]] = some (AVal.agg [AVal.int IntKind.i64 (IntKind.wrap IntKind.i64 (IntKind.wrap IntKind.i64 (IntKind.wrap IntKind.i64 (x * tb (IntKind.wrap IntKind.i64 t) 0) + IntKind.wrap IntKind.i64 (IntKind.wrap IntKind.i64 (y * tb (IntKind.wrap IntKind.i64 t) 3) + IntKind.wrap IntKind.i64 (z * tb (IntKind.wrap IntKind.i64 t) 6))) + a)), AVal.int IntKind.i64 (IntKind.wrap IntKind.i64 (IntKind.wrap IntKind.i64 (IntKind.wrap IntKind.i64 (x * tb (IntKind.wrap IntKind.i64 t) 1) + IntKind.wrap IntKind.i64 (IntKind.wrap IntKind.i64 (y * tb (IntKind.wrap IntKind.i64 t) 4) + IntKind.wrap IntKind.i64 (z * tb (IntKind.wrap IntKind.i64 t) 7))) + b)), AVal.int IntKind.i64 (IntKind.wrap IntKind.i64 (IntKind.wrap IntKind.i64 (IntKind.wrap IntKind.i64 (x * tb (IntKind.wrap IntKind.i64 t) 2) + IntKind.wrap IntKind.i64 (IntKind.wrap IntKind.i64 (y * tb (IntKind.wrap IntKind.i64 t) 5) + IntKind.wrap IntKind.i64 (z * tb (IntKind.wrap IntKind.i64 t) 8))) + c))], true) := by
  have e : callA Try.prog S0 300 true [] 43 [AVal.agg [AVal.int IntKind.u8 t, AVal.int IntKind.i64 a, AVal.int IntKind.i64 b, AVal.int IntKind.i64 c], AVal.agg [AVal.int IntKind.i64 x, AVal.int IntKind.i64 y, AVal.int IntKind.i64 z]] = some (AVal.agg [AVal.int IntKind.i64 (IntKind.wrap IntKind.i64 (IntKind.wrap IntKind.i64 (IntKind.wrap IntKind.i64 (x * tb (IntKind.wrap IntKind.i64 t) 0) + IntKind.wrap IntKind.i64 (IntKind.wrap IntKind.i64 (y * tb (IntKind.wrap IntKind.i64 t) 3) + IntKind.wrap IntKind.i64 (z * tb (IntKind.wrap IntKind.i64 t) 6))) + a)), AVal.int IntKind.i64 (IntKind.wrap IntKind.i64 (IntKind.wrap IntKind.i64 (IntKind.wrap IntKind.i64 (x * tb (IntKind.wrap IntKind.i64 t) 1) + IntKind.wrap IntKind.i64 (IntKind.wrap IntKind.i64 (y * tb (IntKind.wrap IntKind.i64 t) 4) + IntKind.wrap IntKind.i64 (z * tb (IntKind.wrap IntKind.i64 t) 7))) + b)), AVal.int IntKind.i64 (IntKind.wrap IntKind.i64 (IntKind.wrap IntKind.i64 (IntKind.wrap IntKind.i64 (x * tb (IntKind.wrap IntKind.i64 t) 2) + IntKind.wrap IntKind.i64 (IntKind.wrap IntKind.i64 (y * tb (IntKind.wrap IntKind.i64 t) 5) + IntKind.wrap IntKind.i64 (z * tb (IntKind.wrap IntKind.i64 t) 8))) + c))], ((((((((((((((((((((((((((((((((((((((((((((((((((((((((((((((((((((((true && true) && true) && (decide (0 ≤ IntKind.wrap IntKind.i64 t) && decide (IntKind.wrap IntKind.i64 t < 24))) && true) && true) && true) && true) && true) && true) && true) && true) && true) && true) && true) && true) && true) && true) && true) && true) && true) && true) && true) && true) && true) && true) && true) && true) && true) && true) && true) && true) && true) && true) && true) && true) && true) && true) && true) && true) && true) && true) && true) && true) && true) && true) && true) && true) && true) && true) && true) && true) && true) && true) && true) && true) && true) && true) && true) && true) && true) && true) && true) && true) && true) && true) && true) && true) && true) && true) && true)) := by kernel_rfl
  rw [e]; simp only [h0, Bool.and_true, Bool.and_self, beq_self_eq_true]
theorem rSum_0 (a : Int) (b : Int) (c : Int) (d : Int) (e : Int) (f : Int) (g : Int) (h : Int) (i : Int) (x : Int) (y : Int) (z : Int)  :
    callA Try.prog S0 300 true [] 45 [AVal.agg [AVal.int IntKind.i64 a, AVal.int IntKind.i64 b, AVal.int IntKind.i64 c, AVal.int IntKind.i64 d, AVal.int IntKind.i64 e, AVal.int IntKind.i64 f, AVal.int IntKind.i64 g, AVal.int IntKind.i64 h, AVal.int IntKind.i64 i], AVal.agg [AVal.int IntKind.i64 x, AVal.int IntKind.i64 y, AVal.int IntKind.i64 z]] = some (AVal.agg [AVal.int IntKind.i64 (IntKind.wrap IntKind.i64 (IntKind.wrap IntKind.i64 (x * a) + IntKind.wrap IntKind.i64 (IntKind.wrap IntKind.i64 (y * d) + IntKind.wrap IntKind.i64 (z * g)))), AVal.int IntKind.i64 (IntKind.wrap IntKind.i64 (IntKind.wrap IntKind.i64 (x * b) + IntKind.wrap IntKind.i64 (IntKind.wrap IntKind.i64 (y * e) + IntKind.wrap IntKind.i64 (z * h)))), AVal.int IntKind.i64 (IntKind.wrap IntKind.i64 (IntKind.wrap IntKind.i64 (x * c) + IntKind.wrap IntKind.i64 (IntKind.wrap IntKind.i64 (y * f) + IntKind.wrap IntKind.i64 (z * i))))], true) := by
  have e : callA Try.prog S0 300 true [] 45 [AVal.agg [AVal.int IntKind.i64 a, AVal.int IntKind.i64 b, AVal.int IntKind.i64 c, AVal.int IntKind.i64 d, AVal.int IntKind.i64 e, AVal.int IntKind.i64 f, AVal.int IntKind.i64 g, AVal.int IntKind.i64 h, AVal.int IntKind.i64 i], AVal.agg [AVal.int IntKind.i64 x, AVal.int IntKind.i64 y, AVal.int IntKind.i64 z]] = some (AVal.agg [AVal.int IntKind.i64 (IntKind.wrap IntKind.i64 (IntKind.wrap IntKind.i64 (x * a) + IntKind.wrap IntKind.i64 (IntKind.wrap IntKind.i64 (y * d) + IntKind.wrap IntKind.i64 (z * g)))), AVal.int IntKind.i64 (IntKind.wrap IntKind.i64 (IntKind.wrap IntKind.i64 (x * b) + IntKind.wrap IntKind.i64 (IntKind.wrap IntKind.i64 (y * e) + IntKind.wrap IntKind.i64 (z * h)))), AVal.int IntKind.i64 (IntKind.wrap IntKind.i64 (IntKind.wrap IntKind.i64 (x * c) + IntKind.wrap IntKind.i64 (IntKind.wrap IntKind.i64 (y * f) + IntKind.wrap IntKind.i64 (z * i))))], ((((((((((((((((((((((((((((((((((((((((((((((((((((((((true && true) && true) && true) && true) && true) && true) && true) && true) && true) && true) && true) && true) && true) && true) && true) && true) && true) && true) && true) && true) && true) && true) && true) && true) && true) && true) && true) && true) && true) && true) && true) && true) && true) && true) && true) && true) && true) && true) && true) && true) && true) && true) && true) && true) && true) && true) && true) && true) && true) && true) && true) && true) && true) && true) && true) && true)) := by kernel_rfl
  rw [e]; simp only [Bool.and_true, Bool.and_self, beq_self_eq_true]

/-! ### The contracts -/
/-- The coordinates are from lo to 1,000,000. -/
def fineL (x y z lo : Int) : Bool := decide (lo ≤ x) && decide (lo ≤ y) && decide (lo ≤ z) && decide (x ≤ 1000000) && decide (y ≤ 1000000) && decide (z ≤ 1000000)
def fFine : List AVal → Option (AVal × Bool)
  | [.agg [.int .i64 x, .int .i64 y, .int .i64 z], .int .i64 lo] => some (.bool (fineL x y z lo), true)
  | _ => none
def imgL (t : Int) (j : Nat) (a x y z : Int) : Int := IntKind.i64.wrap (x * tb t j + (y * tb t (j + 3) + (z * tb t (j + 6) + a)))
def fImage : List AVal → Option (AVal × Bool)
  | [.agg [.int .u8 t, .int .i64 a, .int .i64 b, .int .i64 c], .agg [.int .i64 x, .int .i64 y, .int .i64 z]] =>
    some (.agg [.int .i64 (imgL t 0 a x y z), .int .i64 (imgL t 1 b x y z), .int .i64 (imgL t 2 c x y z)], decide (0 ≤ t) && decide (t < 24))
  | _ => none

theorem gives {S : Specs} {f : FuncId} {args : List AVal} {v v' : AVal} {fuel : Nat} {sym : Bool} {orc : List Bool} (h : callA Try.prog S fuel sym orc f args = some (v', true)) (e : v' = v) : Gives Try.prog S f args v := by
  subst e; exact ⟨_, _, _, h⟩

theorem fFine_ok {args : List AVal} {v : AVal} (h : fFine args = some (v, true)) : Gives Try.prog noSpecs 41 args v ∧ ∃ d, pf d v = true := by
  unfold fFine at h
  split at h
  · rename_i x y z lo
    cases h
    refine ⟨?_, 2, rfl⟩
    cases h0 : decide ((if z < if y < x then y else x then z else if y < x then y else x) ≥ lo) with
    | true =>
      refine gives (pFine_0 x y z lo h0) (congrArg AVal.bool ?_)
      have h0 := of_decide_eq_true h0
      unfold fineL
      rw [Bool.eq_iff_iff]
      simp only [decide_eq_true_eq, Bool.and_eq_true]
      split at h0 <;> split at h0 <;> split <;> split <;> (try split at *) <;> omega
    | false =>
      refine gives (pFine_1 x y z lo h0) (congrArg AVal.bool ?_)
      have h0 := of_decide_eq_false h0
      unfold fineL
      symm
      rw [Bool.eq_false_iff]
      simp only [ne_eq, decide_eq_true_eq, Bool.and_eq_true]
      split at h0 <;> (try split at h0) <;> omega
  · cases h

theorem fIn_ok {args : List AVal} {v : AVal} (h : fFine args = some (v, true)) : Gives Try.prog noSpecs 24 args v ∧ ∃ d, pf d v = true := by
  unfold fFine at h
  split at h
  · rename_i x y z lo
    cases h
    refine ⟨?_, 2, rfl⟩
    cases h0 : decide (x ≥ lo) with
    | false => exact gives (pIn_5 x y z lo h0) (congrArg AVal.bool (by unfold fineL; simp only [ge_iff_le] at h0; simp only [h0, Bool.false_and]))
    | true =>
    cases h1 : decide (y ≥ lo) with
    | false => exact gives (pIn_4 x y z lo h0 h1) (congrArg AVal.bool (by unfold fineL; simp only [ge_iff_le] at h0 h1; simp only [h1, Bool.false_and, Bool.and_false]))
    | true =>
    cases h2 : decide (z ≥ lo) with
    | false => exact gives (pIn_3 x y z lo h0 h1 h2) (congrArg AVal.bool (by unfold fineL; simp only [ge_iff_le] at h0 h2; simp only [h2, Bool.false_and, Bool.and_false]))
    | true =>
    cases h3 : decide (x ≤ 1000000) with
    | false => exact gives (pIn_2 x y z lo h0 h1 h2 h3) (congrArg AVal.bool (by unfold fineL; simp only [h3, Bool.false_and, Bool.and_false]))
    | true =>
    cases h4 : decide (y ≤ 1000000) with
    | false => exact gives (pIn_1 x y z lo h0 h1 h2 h3 h4) (congrArg AVal.bool (by unfold fineL; simp only [h4, Bool.false_and, Bool.and_false]))
    | true => exact gives (pIn_0 x y z lo h0 h1 h2 h3 h4) (congrArg AVal.bool (by unfold fineL; simp only [ge_iff_le] at h0 h1 h2; simp only [h0, h1, h2, h3, h4, Bool.true_and, Bool.and_true]))
  · cases h

theorem fImage_ok {args : List AVal} {v : AVal} (h : fImage args = some (v, true)) : Gives Try.prog S0 42 args v ∧ ∃ d, pf d v = true := by
  unfold fImage at h
  split at h
  · rename_i t a b c x y z
    simp only [Option.some.injEq, Prod.mk.injEq] at h
    obtain ⟨rfl, h⟩ := h
    refine ⟨gives (pImage_0 t x y z a b c h) ?_, 3, rfl⟩
    simp only [imgL, w_l, w_r, Int.add_assoc]
  · cases h

theorem fRefImage_ok {args : List AVal} {v : AVal} (h : fImage args = some (v, true)) : Gives Try.prog S0 43 args v ∧ ∃ d, pf d v = true := by
  unfold fImage at h
  split at h
  · rename_i t a b c x y z
    simp only [Option.some.injEq, Prod.mk.injEq] at h
    obtain ⟨rfl, h⟩ := h
    have ht := h
    simp only [Bool.and_eq_true, decide_eq_true_eq] at ht
    have e : IntKind.i64.wrap t = t := w_in (by omega) (by omega)
    refine ⟨gives (rImage_0 t x y z a b c (by rw [e]; exact h)) ?_, 3, rfl⟩
    simp only [imgL, w_l, w_r, Int.add_assoc, e]
  · cases h

noncomputable def S1 : Specs := ((((((S0.with 39 (fNamed .u8)).with 40 (fNamed .i64)).with 41 fFine).with 24 fFine).with 42 fImage).with 43 fImage)
theorem S1_ok : SpecsOk Try.prog noOld S1 :=
  with_ok (with_ok (with_ok (with_ok (with_ok (with_ok S0_ok S0_ok (by kernel_rfl) fun _ _ => named_ok) S0_ok (by kernel_rfl) fun _ _ => turned_ok) noSpecs_ok (by kernel_rfl) fun _ _ => fFine_ok) noSpecs_ok (by kernel_rfl) fun _ _ => fIn_ok)
    S0_ok (by kernel_rfl) fun _ _ => fImage_ok) S0_ok (by kernel_rfl) fun _ _ => fRefImage_ok

end Go.Am
