/- The run of the law FrameTurns. (The law of a path is printed by a program.) -/
import Derived.Test.YtifflimkboemjaaFrS
namespace Go.Am
open Go.Proofs
set_option maxRecDepth 100000
set_option linter.unusedVariables false
theorem pT_0 (t : Int) (a : Int) (q : Int) (h0 : ((axP t 0 == axP t 0 && (axP t 1 == axP t 1 && (axP t 2 == axP t 2 && true)) && (axP t 3 == axP t 3 && (axP t 4 == axP t 4 && (axP t 5 == axP t 5 && true)) && (axP t 6 == axP t 6 && (axP t 7 == axP t 7 && (axP t 8 == axP t 8 && true)) && true))) = true)) (h1 : ((axE t == axE t) = true)) (h2 : (((bif axOk a then abt a (q % 4) else 0) == bif axOk a then abt a (q % 4) else 0) = true)) (h3 : ((decide (0 ≤ t)) = true)) :
    callA Try.prog S7 300 true [true, true, true, true, true, true, true] 3 [AVal.int IntKind.u8 t, AVal.int IntKind.i64 a, AVal.int IntKind.i64 q] = some (AVal.bool ((bif axOk a then (0 : Int) else 2) == bif axOk a then (0 : Int) else 2), true) := by
  have e : callA Try.prog S7 300 true [true, true, true, true, true, true, true] 3 [AVal.int IntKind.u8 t, AVal.int IntKind.i64 a, AVal.int IntKind.i64 q] = some (AVal.bool ((bif axOk a then (0 : Int) else 2) == bif axOk a then (0 : Int) else 2), (((((((((((((((((((((((((((((((((((((((((((((((((((((true && true) && true) && (decide (0 ≤ t))) && true) && true) && true) && true) && true) && (decide (0 ≤ t))) && true) && true) && true) && true) && true) && true) && true) && true) && true) && true) && true) && true) && true) && true) && true) && true) && true) && true) && true) && true) && true) && true) && ((axP t 0 == axP t 0 && (axP t 1 == axP t 1 && (axP t 2 == axP t 2 && true)) && (axP t 3 == axP t 3 && (axP t 4 == axP t 4 && (axP t 5 == axP t 5 && true)) && (axP t 6 == axP t 6 && (axP t 7 == axP t 7 && (axP t 8 == axP t 8 && true)) && true))) == true)) && true) && true) && true) && true) && true) && true) && true) && ((axE t == axE t) == true)) && true) && true) && true) && true) && true) && true) && true) && (((bif axOk a then abt a (q % 4) else 0) == bif axOk a then abt a (q % 4) else 0) == true)) && true) && true) && true) && true) && true)) := by kernel_rfl
  exact e.trans (some_t (by repeat' (first | with_reducible exact h0 | with_reducible exact h1 | with_reducible exact h2 | with_reducible exact h3 | rfl | apply and_t | apply beq_t)))
theorem turns_run (t a q : Int) (ht : 0 ≤ t ∧ t ≤ 255) (ha : -9223372036854775808 ≤ a ∧ a ≤ 9223372036854775807) (hq : -9223372036854775808 ≤ q ∧ q ≤ 9223372036854775807) :
    Gives Try.prog S7 3 [.int .u8 t, .int .i64 a, .int .i64 q] (.bool true) :=
  gives (pT_0 t a q (by simp) (by simp) (by simp) (by simp [ht.1])) (by simp)
end Go.Am
