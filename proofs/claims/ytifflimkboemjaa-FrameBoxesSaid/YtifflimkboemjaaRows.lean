/-
  No cell of these rows narrows 'for every input' (looked for: loops, veiled, ifaces, maps, wideKeys, modest, calm, conditions, laid).
  DERIVED. THE GIVEN ROWS OF THIS SEAT. 8 by the template 'for every input the law returns true; each argument reads behind the call as it read before'; 0 by the template 'total and deterministic' (their statements: YtifflimkboemjaaTotals.lean).
  GIVEN WITH THE SEED: the statements are not yours to turn. If you find one false, say at which input.
  Laid BY PROGRAM, IN A SANDBOX (cutbox-rows.mjs): the forced cells as the released guide's own fill.sh prints them over the translation 0c442222f0972782… (all of the seat's roots in one cut). By AI agents, Wed Nov 11 2026. No macro, syntax, notation, axiom, sorry.
-/
import Derived.Test.YtifflimkboemjaaChecked
import GoSem.Claim
import GoSem.ClaimJoined
import GoSem.ClaimMapViews
import Derived.JoinedTies
import Derived.KernelRfl
namespace Go.Proofs.Ytifflimkboemjaa
/- THE CELL 'sum', in the pinned program and in every row, IS THE sha256 OF THE DUMP (.gsa) THAT YtifflimkboemjaaProg.lean LOADS. Nothing in Lean hashes anything: it is a label: what it is worth is what the hold of that sum in a sandbox is worth. -/
noncomputable def Try.pinned : Pinned := { name := "ytifflimkboemjaa", sum := "0c442222f0972782b6a3cb042f117920f3d23ffadbb31542f32b71b5449a721b", checked := Try.checked }
namespace Rows
def none {H : Type} : Left H := { results := [], args := [] }

/-- 'gambrellaw16.FrameTurns': WHATEVER THE INPUT: true; the input reads as it did. -/
def frameTurnsSpec : ChangeSpec := { name := "frameTurns", fn := fun _ => fun
  | [d1, d2, d3] => { results := [.lit (.bool true)], args := [d1, d2, d3] }
  | _ => none }
def frameTurnsRow : OpenClaim := { program := "ytifflimkboemjaa", sum := "0c442222f0972782b6a3cb042f117920f3d23ffadbb31542f32b71b5449a721b", func := "gambrel/gambrellaw16.FrameTurns", spec := "frameTurns", unfollowed := true, recurses := true, apart := false }
def FrameTurnsSaid : Prop := frameTurnsRow.holds Try.pinned (OpenSpec.ofChange frameTurnsSpec)

/-- ITS FALSE NEIGHBOUR: 'it returns false'. Refute it at one input. -/
def frameTurnsWrong : ChangeSpec := { name := "frameTurns", fn := fun _ => fun
  | [d1, d2, d3] => { results := [.lit (.bool false)], args := [d1, d2, d3] }
  | _ => none }
def FrameTurnsWrongFalsely : Prop := frameTurnsRow.holds Try.pinned (OpenSpec.ofChange frameTurnsWrong)

/-- 'gambrellaw16.FrameMoves': WHATEVER THE INPUT: true; the input reads as it did. -/
def frameMovesSpec : ChangeSpec := { name := "frameMoves", fn := fun _ => fun
  | [d1, d2, d3] => { results := [.lit (.bool true)], args := [d1, d2, d3] }
  | _ => none }
def frameMovesRow : OpenClaim := { program := "ytifflimkboemjaa", sum := "0c442222f0972782b6a3cb042f117920f3d23ffadbb31542f32b71b5449a721b", func := "gambrel/gambrellaw16.FrameMoves", spec := "frameMoves", apart := false }
def FrameMovesSaid : Prop := frameMovesRow.holds Try.pinned (OpenSpec.ofChange frameMovesSpec)

/-- ITS FALSE NEIGHBOUR: 'it returns false'. Refute it at one input. -/
def frameMovesWrong : ChangeSpec := { name := "frameMoves", fn := fun _ => fun
  | [d1, d2, d3] => { results := [.lit (.bool false)], args := [d1, d2, d3] }
  | _ => none }
def FrameMovesWrongFalsely : Prop := frameMovesRow.holds Try.pinned (OpenSpec.ofChange frameMovesWrong)

/-- 'gambrellaw16.FrameKeeps': WHATEVER THE INPUT: true; the input reads as it did. -/
def frameKeepsSpec : ChangeSpec := { name := "frameKeeps", fn := fun _ => fun
  | [d1, d2, d3, d4] => { results := [.lit (.bool true)], args := [d1, d2, d3, d4] }
  | _ => none }
def frameKeepsRow : OpenClaim := { program := "ytifflimkboemjaa", sum := "0c442222f0972782b6a3cb042f117920f3d23ffadbb31542f32b71b5449a721b", func := "gambrel/gambrellaw16.FrameKeeps", spec := "frameKeeps", unfollowed := true, recurses := true, apart := false }
def FrameKeepsSaid : Prop := frameKeepsRow.holds Try.pinned (OpenSpec.ofChange frameKeepsSpec)

/-- ITS FALSE NEIGHBOUR: 'it returns false'. Refute it at one input. -/
def frameKeepsWrong : ChangeSpec := { name := "frameKeeps", fn := fun _ => fun
  | [d1, d2, d3, d4] => { results := [.lit (.bool false)], args := [d1, d2, d3, d4] }
  | _ => none }
def FrameKeepsWrongFalsely : Prop := frameKeepsRow.holds Try.pinned (OpenSpec.ofChange frameKeepsWrong)

/-- 'gambrellaw16.FrameScopes': WHATEVER THE INPUT: true; the input reads as it did. -/
def frameScopesSpec : ChangeSpec := { name := "frameScopes", fn := fun _ => fun
  | [d1, d2, d3, d4] => { results := [.lit (.bool true)], args := [d1, d2, d3, d4] }
  | _ => none }
def frameScopesRow : OpenClaim := { program := "ytifflimkboemjaa", sum := "0c442222f0972782b6a3cb042f117920f3d23ffadbb31542f32b71b5449a721b", func := "gambrel/gambrellaw16.FrameScopes", spec := "frameScopes", apart := false }
def FrameScopesSaid : Prop := frameScopesRow.holds Try.pinned (OpenSpec.ofChange frameScopesSpec)

/-- ITS FALSE NEIGHBOUR: 'it returns false'. Refute it at one input. -/
def frameScopesWrong : ChangeSpec := { name := "frameScopes", fn := fun _ => fun
  | [d1, d2, d3, d4] => { results := [.lit (.bool false)], args := [d1, d2, d3, d4] }
  | _ => none }
def FrameScopesWrongFalsely : Prop := frameScopesRow.holds Try.pinned (OpenSpec.ofChange frameScopesWrong)

/-- 'gambrellaw16.FrameQuarters': WHATEVER THE INPUT: true; the input reads as it did. -/
def frameQuartersSpec : ChangeSpec := { name := "frameQuarters", fn := fun _ => fun
  | [d1, d2, d3] => { results := [.lit (.bool true)], args := [d1, d2, d3] }
  | _ => none }
def frameQuartersRow : OpenClaim := { program := "ytifflimkboemjaa", sum := "0c442222f0972782b6a3cb042f117920f3d23ffadbb31542f32b71b5449a721b", func := "gambrel/gambrellaw16.FrameQuarters", spec := "frameQuarters", unfollowed := true, recurses := true, apart := false }
def FrameQuartersSaid : Prop := frameQuartersRow.holds Try.pinned (OpenSpec.ofChange frameQuartersSpec)

/-- ITS FALSE NEIGHBOUR: 'it returns false'. Refute it at one input. -/
def frameQuartersWrong : ChangeSpec := { name := "frameQuarters", fn := fun _ => fun
  | [d1, d2, d3] => { results := [.lit (.bool false)], args := [d1, d2, d3] }
  | _ => none }
def FrameQuartersWrongFalsely : Prop := frameQuartersRow.holds Try.pinned (OpenSpec.ofChange frameQuartersWrong)

/-- 'gambrellaw16.FrameBoxes': WHATEVER THE INPUT: true; the input reads as it did. -/
def frameBoxesSpec : ChangeSpec := { name := "frameBoxes", fn := fun _ => fun
  | [d] => { results := [.lit (.bool true)], args := [d] }
  | _ => none }
def frameBoxesRow : OpenClaim := { program := "ytifflimkboemjaa", sum := "0c442222f0972782b6a3cb042f117920f3d23ffadbb31542f32b71b5449a721b", func := "gambrel/gambrellaw16.FrameBoxes", spec := "frameBoxes", unfollowed := true, recurses := true, apart := false }
def FrameBoxesSaid : Prop := frameBoxesRow.holds Try.pinned (OpenSpec.ofChange frameBoxesSpec)

/-- ITS FALSE NEIGHBOUR: 'it returns false'. Refute it at one input. -/
def frameBoxesWrong : ChangeSpec := { name := "frameBoxes", fn := fun _ => fun
  | [d] => { results := [.lit (.bool false)], args := [d] }
  | _ => none }
def FrameBoxesWrongFalsely : Prop := frameBoxesRow.holds Try.pinned (OpenSpec.ofChange frameBoxesWrong)

/-- 'gambrellaw16.FrameGroup': WHATEVER THE INPUT: true; the input reads as it did. -/
def frameGroupSpec : ChangeSpec := { name := "frameGroup", fn := fun _ => fun
  | [d1, d2, d3, d4] => { results := [.lit (.bool true)], args := [d1, d2, d3, d4] }
  | _ => none }
def frameGroupRow : OpenClaim := { program := "ytifflimkboemjaa", sum := "0c442222f0972782b6a3cb042f117920f3d23ffadbb31542f32b71b5449a721b", func := "gambrel/gambrellaw16.FrameGroup", spec := "frameGroup", unfollowed := true, recurses := true, apart := false }
def FrameGroupSaid : Prop := frameGroupRow.holds Try.pinned (OpenSpec.ofChange frameGroupSpec)

/-- ITS FALSE NEIGHBOUR: 'it returns false'. Refute it at one input. -/
def frameGroupWrong : ChangeSpec := { name := "frameGroup", fn := fun _ => fun
  | [d1, d2, d3, d4] => { results := [.lit (.bool false)], args := [d1, d2, d3, d4] }
  | _ => none }
def FrameGroupWrongFalsely : Prop := frameGroupRow.holds Try.pinned (OpenSpec.ofChange frameGroupWrong)

/-- 'gambrellaw16.FrameNames': WHATEVER THE INPUT: true; the input reads as it did. -/
def frameNamesSpec : ChangeSpec := { name := "frameNames", fn := fun _ => fun
  | [] => { results := [.lit (.bool true)], args := [] }
  | _ => none }
def frameNamesRow : OpenClaim := { program := "ytifflimkboemjaa", sum := "0c442222f0972782b6a3cb042f117920f3d23ffadbb31542f32b71b5449a721b", func := "gambrel/gambrellaw16.FrameNames", spec := "frameNames", unfollowed := true, recurses := true, apart := false }
def FrameNamesSaid : Prop := frameNamesRow.holds Try.pinned (OpenSpec.ofChange frameNamesSpec)

/-- ITS FALSE NEIGHBOUR: 'it returns false'. Refute it at one input. -/
def frameNamesWrong : ChangeSpec := { name := "frameNames", fn := fun _ => fun
  | [] => { results := [.lit (.bool false)], args := [] }
  | _ => none }
def FrameNamesWrongFalsely : Prop := frameNamesRow.holds Try.pinned (OpenSpec.ofChange frameNamesWrong)

/- THE SECOND FORM. 'bulk': how many values and letters a reading holds, each counted each time it is reached (what is shared counts as often as it is met; a slice's spare places count too). A statement '..UptoSaid' is the law's where the arguments, and the package variables that the reading takes, are together of bulk at most 1048576: NARROWER than '..Said'. Prove '..Said' where nothing that the law and all that it calls make is longer than what came in: it says more and counts as full. Else prove '..UptoSaid'. A law counts once. -/
mutual
def uptoBulk {H : Type} : DataW H → Nat
  | .lit (.string bytes) => bytes.length + 1
  | .lit _ => 1
  | .nil => 1
  | .ptr d => uptoBulk d + 1
  | .slice elems spare => uptoBulkAll elems + uptoBulkAll spare + 1
  | .agg parts => uptoBulkAll parts + 1
  | .iface _ d => uptoBulk d + 1
  | .map entries => uptoBulkEntries entries + 1
  | .held _ => 1
def uptoBulkAll {H : Type} : List (DataW H) → Nat
  | [] => 0
  | d :: r => uptoBulk d + uptoBulkAll r
def uptoBulkEntries {H : Type} : List (Lit × DataW H) → Nat
  | [] => 0
  | x :: r => uptoBulkEntry x + uptoBulkEntries r
def uptoBulkEntry {H : Type} : Lit × DataW H → Nat
  | (.string bytes, d) => bytes.length + uptoBulk d + 1
  | (_, d) => uptoBulk d + 1
 end
def uptoSmall : (H : Type) → List (DataW H) → Bool := fun _ ds => decide (uptoBulkAll ds ≤ 1048576)
def OpenSpec.upto (s : _root_.Go.ChangeSpec) : _root_.Go.OpenSpec := { _root_.Go.OpenSpec.ofChange s with cond := some uptoSmall }

/-- 'gambrellaw16.FrameTurns', WHERE WHAT IT READS IS OF BULK AT MOST 1048576: true; the input reads as it did. -/
def frameTurnsUptoRow : OpenClaim := { program := "ytifflimkboemjaa", sum := "0c442222f0972782b6a3cb042f117920f3d23ffadbb31542f32b71b5449a721b", func := "gambrel/gambrellaw16.FrameTurns", spec := "frameTurns", unfollowed := true, recurses := true, apart := false, narrowed := true }
def FrameTurnsUptoSaid : Prop := frameTurnsUptoRow.holds Try.pinned (OpenSpec.upto frameTurnsSpec)

/-- 'gambrellaw16.FrameMoves', WHERE WHAT IT READS IS OF BULK AT MOST 1048576: true; the input reads as it did. -/
def frameMovesUptoRow : OpenClaim := { program := "ytifflimkboemjaa", sum := "0c442222f0972782b6a3cb042f117920f3d23ffadbb31542f32b71b5449a721b", func := "gambrel/gambrellaw16.FrameMoves", spec := "frameMoves", apart := false, narrowed := true }
def FrameMovesUptoSaid : Prop := frameMovesUptoRow.holds Try.pinned (OpenSpec.upto frameMovesSpec)

/-- 'gambrellaw16.FrameKeeps', WHERE WHAT IT READS IS OF BULK AT MOST 1048576: true; the input reads as it did. -/
def frameKeepsUptoRow : OpenClaim := { program := "ytifflimkboemjaa", sum := "0c442222f0972782b6a3cb042f117920f3d23ffadbb31542f32b71b5449a721b", func := "gambrel/gambrellaw16.FrameKeeps", spec := "frameKeeps", unfollowed := true, recurses := true, apart := false, narrowed := true }
def FrameKeepsUptoSaid : Prop := frameKeepsUptoRow.holds Try.pinned (OpenSpec.upto frameKeepsSpec)

/-- 'gambrellaw16.FrameScopes', WHERE WHAT IT READS IS OF BULK AT MOST 1048576: true; the input reads as it did. -/
def frameScopesUptoRow : OpenClaim := { program := "ytifflimkboemjaa", sum := "0c442222f0972782b6a3cb042f117920f3d23ffadbb31542f32b71b5449a721b", func := "gambrel/gambrellaw16.FrameScopes", spec := "frameScopes", apart := false, narrowed := true }
def FrameScopesUptoSaid : Prop := frameScopesUptoRow.holds Try.pinned (OpenSpec.upto frameScopesSpec)

/-- 'gambrellaw16.FrameQuarters', WHERE WHAT IT READS IS OF BULK AT MOST 1048576: true; the input reads as it did. -/
def frameQuartersUptoRow : OpenClaim := { program := "ytifflimkboemjaa", sum := "0c442222f0972782b6a3cb042f117920f3d23ffadbb31542f32b71b5449a721b", func := "gambrel/gambrellaw16.FrameQuarters", spec := "frameQuarters", unfollowed := true, recurses := true, apart := false, narrowed := true }
def FrameQuartersUptoSaid : Prop := frameQuartersUptoRow.holds Try.pinned (OpenSpec.upto frameQuartersSpec)

/-- 'gambrellaw16.FrameBoxes', WHERE WHAT IT READS IS OF BULK AT MOST 1048576: true; the input reads as it did. -/
def frameBoxesUptoRow : OpenClaim := { program := "ytifflimkboemjaa", sum := "0c442222f0972782b6a3cb042f117920f3d23ffadbb31542f32b71b5449a721b", func := "gambrel/gambrellaw16.FrameBoxes", spec := "frameBoxes", unfollowed := true, recurses := true, apart := false, narrowed := true }
def FrameBoxesUptoSaid : Prop := frameBoxesUptoRow.holds Try.pinned (OpenSpec.upto frameBoxesSpec)

/-- 'gambrellaw16.FrameGroup', WHERE WHAT IT READS IS OF BULK AT MOST 1048576: true; the input reads as it did. -/
def frameGroupUptoRow : OpenClaim := { program := "ytifflimkboemjaa", sum := "0c442222f0972782b6a3cb042f117920f3d23ffadbb31542f32b71b5449a721b", func := "gambrel/gambrellaw16.FrameGroup", spec := "frameGroup", unfollowed := true, recurses := true, apart := false, narrowed := true }
def FrameGroupUptoSaid : Prop := frameGroupUptoRow.holds Try.pinned (OpenSpec.upto frameGroupSpec)

/-- 'gambrellaw16.FrameNames', WHERE WHAT IT READS IS OF BULK AT MOST 1048576: true; the input reads as it did. -/
def frameNamesUptoRow : OpenClaim := { program := "ytifflimkboemjaa", sum := "0c442222f0972782b6a3cb042f117920f3d23ffadbb31542f32b71b5449a721b", func := "gambrel/gambrellaw16.FrameNames", spec := "frameNames", unfollowed := true, recurses := true, apart := false, narrowed := true }
def FrameNamesUptoSaid : Prop := frameNamesUptoRow.holds Try.pinned (OpenSpec.upto frameNamesSpec)

end Rows
end Go.Proofs.Ytifflimkboemjaa
