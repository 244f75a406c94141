/-
  DERIVED. GIVEN WITH THE SEED: THE CARDS: each row of YthnnmgkacjjpeaaGreatDoorRows.lean that lists a variable, with what it lists TIED to the program's text (the seventh form; the later family's looks); each row that meets fmt, with fmt's text TOLD by the authors' own Lean function (tested against real Go, not proved from fmt's source: count such statements apart). THE CARD IS WHAT COUNTS. Prove the row's statement (the work); the ties are given (YthnnmgkacjjpeaaGreatDoorTie.lean); close each card by the builder's one call (the guide's Derived/Test/ToyasCard.lean, 'card_holds'). Laid BY PROGRAM, IN A SANDBOX (cutbox-door.mjs). By AI agents, Wed Nov 11 2026. No macro, syntax, notation, axiom, sorry.
-/
import Derived.Test.YthnnmgkacjjpeaaGreatDoorRows
import GoSem.ClaimSeven
namespace Go.Proofs.YthnnmgkacjjpeaaGreatDoor
namespace Rows

/-- THE TIED CARD OF 'gambrellaw44.SceneTexts'. -/
def sceneTextsCard : Claim7 := { stood := { row := sceneTextsRow, standIns := [], harness := (true, "2e7522bbf07e5eac7f1a96b843b60b4cb4eceb120060e2f0f403d8dc4e229722"), looks := true }, kinds := [], alts := [], laidByText := true, laidKinds := [.data, .data, .data, .data, .sentinel, .sentinel, .pinned], laidTests := true, laidLooks := .later }
def SceneTextsCardSaid : Prop := Claim7.holds Tryz.pinned (.plain (OpenSpec.ofChange sceneTextsSpec)) sceneTextsCard

/-- THE TIED CARD OF 'gambrellaw44.SceneBack'. -/
def sceneBackCard : Claim7 := { stood := { row := sceneBackRow, standIns := [], harness := (true, "2e7522bbf07e5eac7f1a96b843b60b4cb4eceb120060e2f0f403d8dc4e229722"), looks := true }, kinds := [], alts := [], laidByText := true, laidKinds := [.data, .data, .data, .data, .sentinel, .sentinel, .pinned], laidTests := true, laidLooks := .later }
def SceneBackCardSaid : Prop := Claim7.holds Tryz.pinned (.plain (OpenSpec.ofChange sceneBackSpec)) sceneBackCard

/-- THE TIED CARD OF 'gambrellaw44.SceneWays'. -/
def sceneWaysCard : Claim7 := { stood := { row := sceneWaysRow, standIns := [], harness := (true, "2e7522bbf07e5eac7f1a96b843b60b4cb4eceb120060e2f0f403d8dc4e229722"), looks := true }, kinds := [], alts := [], laidByText := true, laidKinds := [.data, .data, .data, .data, .sentinel, .sentinel, .pinned], laidTests := true, laidLooks := .later }
def SceneWaysCardSaid : Prop := Claim7.holds Tryz.pinned (.plain (OpenSpec.ofChange sceneWaysSpec)) sceneWaysCard

/-- THE TIED CARD OF 'gambrellaw44.SceneMeshBack'. -/
def sceneMeshBackCard : Claim7 := { stood := { row := sceneMeshBackRow, standIns := [], harness := (true, "2e7522bbf07e5eac7f1a96b843b60b4cb4eceb120060e2f0f403d8dc4e229722"), looks := true }, kinds := [], alts := [], laidByText := true, laidKinds := [.data, .data, .data, .data, .sentinel, .sentinel, .pinned], laidTests := true, laidLooks := .later }
def SceneMeshBackCardSaid : Prop := Claim7.holds Tryz.pinned (.plain (OpenSpec.ofChange sceneMeshBackSpec)) sceneMeshBackCard

/-- THE TIED CARD OF 'gambrellaw44.SceneMoves'. -/
def sceneMovesCard : Claim7 := { stood := { row := sceneMovesRow, standIns := [], harness := (true, "2e7522bbf07e5eac7f1a96b843b60b4cb4eceb120060e2f0f403d8dc4e229722"), looks := true }, kinds := [], alts := [], laidByText := true, laidKinds := [.data, .data, .data, .data, .sentinel, .sentinel, .pinned], laidTests := true, laidLooks := .later }
def SceneMovesCardSaid : Prop := Claim7.holds Tryz.pinned (.plain (OpenSpec.ofChange sceneMovesSpec)) sceneMovesCard

/-- THE TIED CARD OF 'gambrellaw44.SceneNames'. -/
def sceneNamesCard : Claim7 := { stood := { row := sceneNamesRow, standIns := [], harness := (true, "2e7522bbf07e5eac7f1a96b843b60b4cb4eceb120060e2f0f403d8dc4e229722"), looks := true }, kinds := [], alts := [], laidByText := true, laidKinds := [.data, .data, .data, .data, .sentinel, .sentinel, .pinned], laidTests := true, laidLooks := .later }
def SceneNamesCardSaid : Prop := Claim7.holds Tryz.pinned (.plain (OpenSpec.ofChange sceneNamesSpec)) sceneNamesCard

/-- THE SECOND FORM's CARD OF 'gambrellaw44.SceneTexts'. -/
def sceneTextsUptoCard : Claim7 := { stood := { row := sceneTextsUptoRow, standIns := [], harness := (true, "2e7522bbf07e5eac7f1a96b843b60b4cb4eceb120060e2f0f403d8dc4e229722"), looks := true }, kinds := [], alts := [], laidByText := true, laidKinds := [.data, .data, .data, .data, .sentinel, .sentinel, .pinned], laidTests := true, laidLooks := .later }
def SceneTextsUptoCardSaid : Prop := Claim7.holds Tryz.pinned (.plain (OpenSpec.upto sceneTextsSpec)) sceneTextsUptoCard

/-- THE SECOND FORM's CARD OF 'gambrellaw44.SceneBack'. -/
def sceneBackUptoCard : Claim7 := { stood := { row := sceneBackUptoRow, standIns := [], harness := (true, "2e7522bbf07e5eac7f1a96b843b60b4cb4eceb120060e2f0f403d8dc4e229722"), looks := true }, kinds := [], alts := [], laidByText := true, laidKinds := [.data, .data, .data, .data, .sentinel, .sentinel, .pinned], laidTests := true, laidLooks := .later }
def SceneBackUptoCardSaid : Prop := Claim7.holds Tryz.pinned (.plain (OpenSpec.upto sceneBackSpec)) sceneBackUptoCard

/-- THE SECOND FORM's CARD OF 'gambrellaw44.SceneWays'. -/
def sceneWaysUptoCard : Claim7 := { stood := { row := sceneWaysUptoRow, standIns := [], harness := (true, "2e7522bbf07e5eac7f1a96b843b60b4cb4eceb120060e2f0f403d8dc4e229722"), looks := true }, kinds := [], alts := [], laidByText := true, laidKinds := [.data, .data, .data, .data, .sentinel, .sentinel, .pinned], laidTests := true, laidLooks := .later }
def SceneWaysUptoCardSaid : Prop := Claim7.holds Tryz.pinned (.plain (OpenSpec.upto sceneWaysSpec)) sceneWaysUptoCard

/-- THE SECOND FORM's CARD OF 'gambrellaw44.SceneMeshBack'. -/
def sceneMeshBackUptoCard : Claim7 := { stood := { row := sceneMeshBackUptoRow, standIns := [], harness := (true, "2e7522bbf07e5eac7f1a96b843b60b4cb4eceb120060e2f0f403d8dc4e229722"), looks := true }, kinds := [], alts := [], laidByText := true, laidKinds := [.data, .data, .data, .data, .sentinel, .sentinel, .pinned], laidTests := true, laidLooks := .later }
def SceneMeshBackUptoCardSaid : Prop := Claim7.holds Tryz.pinned (.plain (OpenSpec.upto sceneMeshBackSpec)) sceneMeshBackUptoCard

/-- THE SECOND FORM's CARD OF 'gambrellaw44.SceneMoves'. -/
def sceneMovesUptoCard : Claim7 := { stood := { row := sceneMovesUptoRow, standIns := [], harness := (true, "2e7522bbf07e5eac7f1a96b843b60b4cb4eceb120060e2f0f403d8dc4e229722"), looks := true }, kinds := [], alts := [], laidByText := true, laidKinds := [.data, .data, .data, .data, .sentinel, .sentinel, .pinned], laidTests := true, laidLooks := .later }
def SceneMovesUptoCardSaid : Prop := Claim7.holds Tryz.pinned (.plain (OpenSpec.upto sceneMovesSpec)) sceneMovesUptoCard

/-- THE SECOND FORM's CARD OF 'gambrellaw44.SceneNames'. -/
def sceneNamesUptoCard : Claim7 := { stood := { row := sceneNamesUptoRow, standIns := [], harness := (true, "2e7522bbf07e5eac7f1a96b843b60b4cb4eceb120060e2f0f403d8dc4e229722"), looks := true }, kinds := [], alts := [], laidByText := true, laidKinds := [.data, .data, .data, .data, .sentinel, .sentinel, .pinned], laidTests := true, laidLooks := .later }
def SceneNamesUptoCardSaid : Prop := Claim7.holds Tryz.pinned (.plain (OpenSpec.upto sceneNamesSpec)) sceneNamesUptoCard
end Rows
end Go.Proofs.YthnnmgkacjjpeaaGreatDoor
