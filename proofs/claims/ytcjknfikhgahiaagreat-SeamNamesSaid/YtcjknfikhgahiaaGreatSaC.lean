/- The examples hold: a closed run; it is a contract from here on. -/
import Derived.Test.YtcjknfikhgahiaaGreatSa6
namespace Go.Am
open Go.Proofs
noncomputable def SSe : Specs := noSpecs.with 11 (fClosed (.bool true))
theorem SSe_ok : SpecsOk Tryz.prog SSe := with_closed noSpecs_ok (by kernel_rfl) Sag66 (by kernel_rfl) (by kernel_rfl) rfl
end Go.Am
