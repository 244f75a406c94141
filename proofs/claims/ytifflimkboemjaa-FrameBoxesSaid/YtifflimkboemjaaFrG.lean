/- The laws' own check of the chapter's examples: it holds. -/
import Derived.Test.YtifflimkboemjaaFrE
namespace Go.Am
open Go.Proofs
def fAlive : List AVal → Option (AVal × Bool)
  | [] => some (.bool true, true)
  | _ => none
set_option maxRecDepth 100000 in
theorem alive_run : callA Try.prog S3 3000 false [] 23 [] = some (.bool true, true) := by kernel_rfl
theorem fAlive_ok {args : List AVal} {v : AVal} (h : fAlive args = some (v, true)) : Gives Try.prog S3 23 args v ∧ ∃ d, pf d v = true := by
  unfold fAlive at h
  split at h
  · cases h; exact ⟨⟨_, _, _, alive_run⟩, 2, rfl⟩
  · cases h
noncomputable def S4 : Specs := S3.with 23 fAlive
theorem S4_ok : SpecsOk Try.prog noOld S4 := with_ok S3_ok S3_ok (by kernel_rfl) fun _ _ h => fAlive_ok h

theorem some_t {v : AVal} {b : Bool} (h : b = true) : some (v, b) = some (v, true) := by rw [h]
theorem and_t {a b : Bool} (h : a = true) (k : b = true) : (a && b) = true := by rw [h, k]; rfl
theorem beq_t {a b : Bool} (h : a = b) : (a == b) = true := by rw [h]; exact beq_self_eq_true b
end Go.Am
