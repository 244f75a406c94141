/- The contracts of Corners and Box once more, in short names. -/
import Derived.Test.YtifflimkboemjaaFrW
namespace Go.Am
open Go.Proofs
set_option maxRecDepth 100000
set_option linter.unusedVariables false
def ax3 (j : Nat) (x y z : Int) : Int := match j with | 0 => x | 1 => y | _ => z
/-- A corner along an axis; the first one, the last one. -/
def cC (t : Int) (j i : Nat) (x y z a b c : Int) : Int := corP t x y z a b c (imgL t j (ax3 j x y z) (bif i.testBit 0 then a else 0) (bif i.testBit 1 then b else 0) (bif i.testBit 2 then c else 0))
def cL (t : Int) (j : Nat) (x y z a b c : Int) : Int := boxP t x y z a b c (iMin (imgL t j (ax3 j x y z) 0 0 0) (imgL t j (ax3 j x y z) a b c))
def cH (t : Int) (j : Nat) (x y z a b c : Int) : Int := boxP t x y z a b c (iMax (imgL t j (ax3 j x y z) 0 0 0) (imgL t j (ax3 j x y z) a b c))
def fCorners3 : List AVal → Option (AVal × Bool)
  | [.agg [.int .u8 t, .int .i64 x, .int .i64 y, .int .i64 z, .int .i64 a, .int .i64 b, .int .i64 c]] => some (.tup [.agg [.int .i64 (cC t 0 0 x y z a b c), .int .i64 (cC t 1 0 x y z a b c), .int .i64 (cC t 2 0 x y z a b c), .int .i64 (cC t 0 1 x y z a b c), .int .i64 (cC t 1 1 x y z a b c), .int .i64 (cC t 2 1 x y z a b c), .int .i64 (cC t 0 2 x y z a b c), .int .i64 (cC t 1 2 x y z a b c), .int .i64 (cC t 2 2 x y z a b c), .int .i64 (cC t 0 3 x y z a b c), .int .i64 (cC t 1 3 x y z a b c), .int .i64 (cC t 2 3 x y z a b c), .int .i64 (cC t 0 4 x y z a b c), .int .i64 (cC t 1 4 x y z a b c), .int .i64 (cC t 2 4 x y z a b c), .int .i64 (cC t 0 5 x y z a b c), .int .i64 (cC t 1 5 x y z a b c), .int .i64 (cC t 2 5 x y z a b c), .int .i64 (cC t 0 6 x y z a b c), .int .i64 (cC t 1 6 x y z a b c), .int .i64 (cC t 2 6 x y z a b c), .int .i64 (cC t 0 7 x y z a b c), .int .i64 (cC t 1 7 x y z a b c), .int .i64 (cC t 2 7 x y z a b c)], .int .i64 (corE t x y z a b c)], decide (0 ≤ t))
  | _ => none
def fBox3 : List AVal → Option (AVal × Bool)
  | [.agg [.int .u8 t, .int .i64 x, .int .i64 y, .int .i64 z, .int .i64 a, .int .i64 b, .int .i64 c]] => some (.tup [.agg [.int .i64 (cL t 0 x y z a b c), .int .i64 (cL t 1 x y z a b c), .int .i64 (cL t 2 x y z a b c), .int .i64 (cH t 0 x y z a b c), .int .i64 (cH t 1 x y z a b c), .int .i64 (cH t 2 x y z a b c)], .int .i64 (boxE t x y z a b c)], decide (0 ≤ t))
  | _ => none
theorem fCorners3_ok {args : List AVal} {v : AVal} (h : fCorners3 args = some (v, true)) : Gives Try.prog S3 28 args v ∧ ∃ d, pf d v = true := by
  unfold fCorners3 at h
  split at h
  · rename_i t x y z a b c
    exact (fCorners_ok (args := [.agg [.int .u8 t, .int .i64 x, .int .i64 y, .int .i64 z, .int .i64 a, .int .i64 b, .int .i64 c]]) h).1
  · cases h
theorem fBox3_ok {args : List AVal} {v : AVal} (h : fBox3 args = some (v, true)) : Gives Try.prog S8 30 args v ∧ ∃ d, pf d v = true := by
  unfold fBox3 at h
  split at h
  · rename_i t x y z a b c
    exact (fBox_ok (args := [.agg [.int .u8 t, .int .i64 x, .int .i64 y, .int .i64 z, .int .i64 a, .int .i64 b, .int .i64 c]]) h).1
  · cases h
noncomputable def S10 : Specs := (S9.with 28 fCorners3).with 30 fBox3
theorem S10_ok : SpecsOk Try.prog noOld S10 := with_ok (with_ok S9_ok S3_ok (by kernel_rfl) fun _ _ h => fCorners3_ok h) S8_ok (by kernel_rfl) fun _ _ h => fBox3_ok h
end Go.Am
