/- Frames that are near: the contract of the laws' own test. (The laws of single paths are printed by a program.) -/
import Derived.Test.YtifflimkboemjaaFrH
namespace Go.Am
open Go.Proofs
set_option maxRecDepth 100000
set_option linter.unusedVariables false

theorem pNear_0 (t : Int) (x : Int) (y : Int) (z : Int) (h0 : ((chk t x y z == 0) = true)) (h1 : ((fineL x y z (-100000)) = true)) :
    callA Try.prog S3 300 true [true, true, true, true] 36 [AVal.agg [AVal.int IntKind.u8 t, AVal.int IntKind.i64 x, AVal.int IntKind.i64 y, AVal.int IntKind.i64 z]] = some (AVal.bool (fineL (IntKind.wrap IntKind.i64 (-1 * x)) (IntKind.wrap IntKind.i64 (-1 * y)) (IntKind.wrap IntKind.i64 (-1 * z)) (-100000)), true) := by
  have e : callA Try.prog S3 300 true [true, true, true, true] 36 [AVal.agg [AVal.int IntKind.u8 t, AVal.int IntKind.i64 x, AVal.int IntKind.i64 y, AVal.int IntKind.i64 z]] = some (AVal.bool (fineL (IntKind.wrap IntKind.i64 (-1 * x)) (IntKind.wrap IntKind.i64 (-1 * y)) (IntKind.wrap IntKind.i64 (-1 * z)) (-100000)), ((((((((((((((((((((((((((true && true) && true) && true) && true) && ((chk t x y z == 0) == true)) && true) && true) && true) && true) && true) && true) && ((fineL x y z (-100000)) == true)) && true) && true) && true) && true) && true) && true) && true) && true) && true) && true) && true) && true) && true) && true)) := by kernel_rfl
  exact e.trans (some_t (by repeat' (first | with_reducible exact h0 | with_reducible exact h1 | rfl | apply and_t | apply beq_t)))
theorem pNear_1 (t : Int) (x : Int) (y : Int) (z : Int) (h0 : ((chk t x y z == 0) = true)) (h1 : ((fineL x y z (-100000)) = false)) :
    callA Try.prog S3 300 true [true, true, true, false] 36 [AVal.agg [AVal.int IntKind.u8 t, AVal.int IntKind.i64 x, AVal.int IntKind.i64 y, AVal.int IntKind.i64 z]] = some (AVal.bool false, true) := by
  have e : callA Try.prog S3 300 true [true, true, true, false] 36 [AVal.agg [AVal.int IntKind.u8 t, AVal.int IntKind.i64 x, AVal.int IntKind.i64 y, AVal.int IntKind.i64 z]] = some (AVal.bool false, ((((((((((((((true && true) && true) && true) && true) && ((chk t x y z == 0) == true)) && true) && true) && true) && true) && true) && true) && ((fineL x y z (-100000)) == false)) && true) && true)) := by kernel_rfl
  exact e.trans (some_t (by repeat' (first | with_reducible exact h0 | with_reducible exact h1 | rfl | apply and_t | apply beq_t)))
theorem pNear_2 (t : Int) (x : Int) (y : Int) (z : Int) (h0 : ((chk t x y z == 0) = false)) :
    callA Try.prog S3 300 true [false] 36 [AVal.agg [AVal.int IntKind.u8 t, AVal.int IntKind.i64 x, AVal.int IntKind.i64 y, AVal.int IntKind.i64 z]] = some (AVal.bool false, true) := by
  have e : callA Try.prog S3 300 true [false] 36 [AVal.agg [AVal.int IntKind.u8 t, AVal.int IntKind.i64 x, AVal.int IntKind.i64 y, AVal.int IntKind.i64 z]] = some (AVal.bool false, (((((((((true && true) && true) && true) && true) && ((chk t x y z == 0) == false)) && true) && true) && true) && true)) := by kernel_rfl
  exact e.trans (some_t (by repeat' (first | with_reducible exact h0 | rfl | apply and_t | apply beq_t)))

def nearL (t x y z : Int) : Bool := (chk t x y z == 0) && (fineL x y z (-100000) && fineL (IntKind.i64.wrap (-1 * x)) (IntKind.i64.wrap (-1 * y)) (IntKind.i64.wrap (-1 * z)) (-100000))
def fNear : List AVal → Option (AVal × Bool)
  | [.agg [.int .u8 t, .int .i64 x, .int .i64 y, .int .i64 z]] => some (.bool (nearL t x y z), true)
  | _ => none
theorem fNear_ok {args : List AVal} {v : AVal} (h : fNear args = some (v, true)) : Gives Try.prog S3 36 args v ∧ ∃ d, pf d v = true := by
  unfold fNear at h
  split at h
  · rename_i t x y z
    cases h
    unfold nearL
    cases h0 : chk t x y z == 0 with
    | false => exact ⟨gives (pNear_2 t x y z h0) rfl, 2, rfl⟩
    | true =>
      cases h1 : fineL x y z (-100000) with
      | false => exact ⟨gives (pNear_1 t x y z h0 h1) rfl, 2, rfl⟩
      | true => exact ⟨gives (pNear_0 t x y z h0 h1) rfl, 2, rfl⟩
  · cases h
noncomputable def S5 : Specs := S4.with 36 fNear
theorem S5_ok : SpecsOk Try.prog noOld S5 := with_ok S4_ok S3_ok (by kernel_rfl) fun _ _ h => fNear_ok h
end Go.Am
