/- The run of the law MeshSums. (The laws of single paths are printed by a program.) -/
import Derived.Test.YtddebhpbnpldnaaMsD
import Derived.Test.YtddebhpbnpldnaaAmP
namespace Go.Am
open Go.Proofs
variable {H : Old}
set_option maxRecDepth 100000
set_option linter.unusedVariables false
theorem law_0 (n : Nat) (c : Nat → Nat → Int) (a : Int) (h0 : ((okQ n (qget c)) = true)) (h1 : ((wideM n (cOf (qget c))) = true)) :
    callA Try.prog S4 200 true [true] 3 [AVal.dat n (qget c), AVal.int IntKind.i64 a] = some (AVal.bool true, true) := by
  have e : callA Try.prog S4 200 true [true] 3 [AVal.dat n (qget c), AVal.int IntKind.i64 a] = some (AVal.bool true, (((((true && true) && true) && (okQ n (qget c))) && ((wideM n (cOf (qget c))) == true)) && true)) := by kernel_rfl
  exact e.trans (some_t (by repeat' (first | with_reducible exact h0 | with_reducible exact h1 | rfl | apply and_t | apply beq_t)))
theorem law_1 (n : Nat) (c : Nat → Nat → Int) (a : Int) (h0 : ((okQ n (qget c)) = true)) (h1 : ((wideM n (cOf (qget c))) = false)) (h2 : ((areaV n (cOf (qget c)) == areaV n (cOf (qget c))) = true)) (h3 : ((chkM n (cOf (qget c)) == chkM n (cOf (qget c))) = true)) (h4 : ((volV n (cOf (qget c)) a == volV n (cOf (qget c)) a) = true)) :
    callA Try.prog S4 200 true [false, true, true, true, true, true, true, true, true, true] 3 [AVal.dat n (qget c), AVal.int IntKind.i64 a] = some (AVal.bool (volE n (cOf (qget c)) a == volE n (cOf (qget c)) a), true) := by
  have e : callA Try.prog S4 200 true [false, true, true, true, true, true, true, true, true, true] 3 [AVal.dat n (qget c), AVal.int IntKind.i64 a] = some (AVal.bool (volE n (cOf (qget c)) a == volE n (cOf (qget c)) a), ((((((((((((((((((((((((((((((((((((((((((((((((((((((((((((((true && true) && true) && (okQ n (qget c))) && ((wideM n (cOf (qget c))) == false)) && true) && (okQ n (qget c))) && true) && true) && true) && true) && true) && true) && (okQ n (qget c))) && true) && true) && true) && true) && true) && true) && true) && (okQ n (qget c))) && true) && true) && true) && true) && true) && true) && true) && (okQ n (qget c))) && true) && true) && true) && true) && true) && true) && true) && true) && true) && ((areaV n (cOf (qget c)) == areaV n (cOf (qget c))) == true)) && true) && true) && true) && true) && true) && true) && true) && ((chkM n (cOf (qget c)) == chkM n (cOf (qget c))) == true)) && true) && true) && true) && true) && true) && true) && true) && ((volV n (cOf (qget c)) a == volV n (cOf (qget c)) a) == true)) && true) && true) && true) && true) && true) && true) && true)) := by kernel_rfl
  exact e.trans (some_t (by repeat' (first | with_reducible exact h0 | with_reducible exact h1 | with_reducible exact h2 | with_reducible exact h3 | with_reducible exact h4 | rfl | apply and_t | apply beq_t)))
theorem sums_run (n : Nat) (c : Nat → Nat → Int) (a : Int) (hc : ∀ i, i < n → 0 ≤ c i 0) : Gives Try.prog S4 3 [.dat n (qget c), .int .i64 a] (.bool true) := by
  cases h : wideM n (cOf (qget c)) with
  | true => exact gives (law_0 n c a (okQ_of hc) h) rfl
  | false => exact gives (law_1 n c a (okQ_of hc) h (by simp) (by simp) (by simp)) (by simp)
end Go.Am
