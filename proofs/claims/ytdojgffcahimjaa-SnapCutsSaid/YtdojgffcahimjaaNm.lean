/- The two closed facts about this program that the runner's soundness asks for. -/
import Derived.Test.YtdojgffcahimjaaProg
import Derived.Test.YtdojgffcahimjaaAmN
namespace Go.Am
open Go.Proofs
def namedB (P : Program) : Bool := P.funcs.toList.all fun fn => fn.body.isNone || !(fn.name == "runtime.NumGoroutine")
theorem named_of {P : Program} (h : namedB P = true) : Named P := by
  intro f fn hf hb
  have hm : fn ∈ P.funcs.toList := by
    rw [Array.mem_toList_iff]
    exact Array.mem_of_getElem? hf
  have := List.all_eq_true.mp h fn hm
  cases hbb : fn.body with
  | none => rw [hbb] at hb; cases hb
  | some b => simpa [hbb] using this
theorem named : Named Try.prog := named_of (by kernel_rfl)
theorem mixed : Try.prog.follows .mixedOrders = true := by kernel_rfl
#print axioms named
end Go.Am
