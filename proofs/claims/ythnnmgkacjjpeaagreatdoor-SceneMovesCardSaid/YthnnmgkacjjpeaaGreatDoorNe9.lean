/- Facts of the program that the law SceneMoves rests on, each told by itself. -/
import Derived.Test.YthnnmgkacjjpeaaGreatDoorNe8
namespace Go.Proofs.YthnnmgkacjjpeaaGreatDoor.sceneMoves
open Go.ChangeShapes Go.WideShapes Go.ChangeAt Go.RowKit Go.ChangeMaps
theorem q1 : (Rows.sceneMovesRow.inPlace == Tryz.prog.inPlace 7) = true := by kernel_rfl
theorem q2 : (Rows.sceneMovesRow.unfollowed == Tryz.prog.unfollowed 7) = true := by kernel_rfl
theorem q3 : (Rows.sceneMovesRow.recurses == Tryz.prog.recurses 7) = true := by kernel_rfl
theorem q4 : (Rows.sceneMovesRow.named == Tryz.prog.varsNamed 7) = true := by kernel_rfl
theorem closed : joinedFacts Tryz.prog 7 Tryz.f7 Rows.sceneMovesSpec Rows.sceneMovesRow = true := by
  unfold joinedFacts
  rw [q1, q2, q3, q4]
  kernel_rfl
end Go.Proofs.YthnnmgkacjjpeaaGreatDoor.sceneMoves
