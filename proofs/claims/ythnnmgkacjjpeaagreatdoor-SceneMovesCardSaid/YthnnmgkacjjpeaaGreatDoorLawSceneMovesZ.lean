/- The law SceneMoves holds: every call of it gives true, whatever its arguments. -/
import Derived.Test.YthnnmgkacjjpeaaGreatDoorNe9
namespace Go.Proofs.YthnnmgkacjjpeaaGreatDoor.sceneMoves
open Go.ChangeShapes Go.WideShapes Go.ChangeAt Go.RowKit Go.ChangeMaps
set_option linter.unusedVariables false
theorem over : Rows.sceneMovesRow.holds Tryz.pinned (OpenSpec.ofChange Rows.sceneMovesSpec) :=
 OpenClaim.holds_of_wide 7 Tryz.f7 rfl rfl rfl rfl rfl rfl rfl ⟨rfl, rfl, rfl, rfl, rfl⟩ rfl rfl rfl rfl rfl (by kernel_rfl) Tryz.func7 closed
  (of_decide_eq_true (by kernel_rfl)) (by unfold Func.isWrapper; first | (rw [if_pos (by decide +kernel)]; kernel_rfl) | (rw [if_neg (by decide +kernel)]; exact ⟨rfl, rfl⟩))
  (fun os started H enc _ => lifted os started H enc)
theorem proved : Rows.SceneMovesCardSaid :=
 Claim7.holds_tied_plain_at .later [] [.data, .data, .data, .data, .sentinel, .sentinel, .pinned] true (true, "2e7522bbf07e5eac7f1a96b843b60b4cb4eceb120060e2f0f403d8dc4e229722") true
  over (fun _ h => by cases h) (by kernel_rfl) (fun _ h => by cases h) sceneMoves_row_tie rfl ⟨rfl, rfl⟩ (by kernel_rfl) rfl
  (fun f fn hf hfn => by
   obtain rfl : f = 7 := Option.some.inj ((show Tryz.prog.funcNamed "gambrel/gambrellaw44.SceneMoves" = some 7 by kernel_rfl).symm.trans hf) |>.symm
   obtain rfl : fn = Tryz.f7 := (Option.some.inj (Tryz.func7.symm.trans hfn)).symm
   exact ⟨by kernel_rfl, fun j t ht => by
    rw [Tryz.params7] at ht
    have hm : t ∈ [22, 3, 42] := by simpa using Array.mem_of_getElem? ht
    have hall : ([22, 3, 42].all fun u => !Tryz.prog.wantsStandIn u) = true := by kernel_rfl
    exact (show Tryz.prog.wantsStandIn t = false by simpa using List.all_eq_true.1 hall t hm)⟩)
  (by kernel_rfl)
#print axioms proved
end Go.Proofs.YthnnmgkacjjpeaaGreatDoor.sceneMoves
