/- A run of a call without arguments, cut into stretches. (Printed by a program.) -/
import Derived.Test.YtcghcgmolnmoeaaOc6
namespace Go.Am
open Go.Proofs
set_option maxRecDepth 1000000
noncomputable def Occ57 : Cfg := ⟨⟨198, 0, false⟩, none, (todoP Try.prog 3 [1, 1, 1, 1, 1, 1, 1, 1, 1, 1, 1, 1, 1, 1, 1, 0] 1), none, (resultsOf Try.prog 3), ⟨(.node (.bool true) .leaf .leaf), .leaf, 0, [], true⟩, [], .leaf⟩
theorem Ocg57 : Goes Try.prog Occ0 Occ57 := Ocg56.trans (stretch named mixed noSpecs_ok (n := 372) (m := 100000) (d := 4) (N := ⟨[], [], [some [0]], []⟩) (by kernel_rfl) rfl (by kernel_rfl)).1
end Go.Am
