/-
  No cell of these rows narrows 'for every input' (looked for: loops, veiled, ifaces, maps, wideKeys, modest, calm, conditions, laid).
  DERIVED. THE GIVEN ROWS OF THIS SEAT. 7 by the template 'for every input the law returns true; each argument reads behind the call as it read before'; 0 by the template 'total and deterministic' (their statements: YtdojgffcahimjaaTotals.lean).
  GIVEN WITH THE SEED: the statements are not yours to turn. If you find one false, say at which input.
  Laid BY PROGRAM, IN A SANDBOX (cutbox-rows.mjs): the forced cells as the released guide's own fill.sh prints them over the translation b6f7126f492ab4c7… (all of the seat's roots in one cut). By AI agents, Wed Nov 11 2026. No macro, syntax, notation, axiom, sorry.
-/
import Derived.Test.YtdojgffcahimjaaChecked
import GoSem.Claim
import GoSem.ClaimJoined
import GoSem.ClaimMapViews
import Derived.JoinedTies
import Derived.KernelRfl
namespace Go.Proofs.Ytdojgffcahimjaa
/- THE CELL 'sum', in the pinned program and in every row, IS THE sha256 OF THE DUMP (.gsa) THAT YtdojgffcahimjaaProg.lean LOADS. Nothing in Lean hashes anything: it is a label: what it is worth is what the hold of that sum in a sandbox is worth. -/
noncomputable def Try.pinned : Pinned := { name := "ytdojgffcahimjaa", sum := "b6f7126f492ab4c75212f39cdf5a4887f5287cb46cc3e0b2d07185c75030ffa2", checked := Try.checked }
namespace Rows
def none {H : Type} : Left H := { results := [], args := [] }

/-- 'gambrellaw29.SnapCuts': WHATEVER THE INPUT: true; the input reads as it did. -/
def snapCutsSpec : ChangeSpec := { name := "snapCuts", fn := fun _ => fun
  | [d1, d2, d3] => { results := [.lit (.bool true)], args := [d1, d2, d3] }
  | _ => none }
def snapCutsRow : OpenClaim := { program := "ytdojgffcahimjaa", sum := "b6f7126f492ab4c75212f39cdf5a4887f5287cb46cc3e0b2d07185c75030ffa2", func := "gambrel/gambrellaw29.SnapCuts", spec := "snapCuts", recurses := true, apart := false }
def SnapCutsSaid : Prop := snapCutsRow.holds Try.pinned (OpenSpec.ofChange snapCutsSpec)

/-- ITS FALSE NEIGHBOUR: 'it returns false'. Refute it at one input. -/
def snapCutsWrong : ChangeSpec := { name := "snapCuts", fn := fun _ => fun
  | [d1, d2, d3] => { results := [.lit (.bool false)], args := [d1, d2, d3] }
  | _ => none }
def SnapCutsWrongFalsely : Prop := snapCutsRow.holds Try.pinned (OpenSpec.ofChange snapCutsWrong)

/-- 'gambrellaw29.SnapBest': WHATEVER THE INPUT: true; the input reads as it did. -/
def snapBestSpec : ChangeSpec := { name := "snapBest", fn := fun _ => fun
  | [d1, d2, d3, d4] => { results := [.lit (.bool true)], args := [d1, d2, d3, d4] }
  | _ => none }
def snapBestRow : OpenClaim := { program := "ytdojgffcahimjaa", sum := "b6f7126f492ab4c75212f39cdf5a4887f5287cb46cc3e0b2d07185c75030ffa2", func := "gambrel/gambrellaw29.SnapBest", spec := "snapBest", unfollowed := true, recurses := true, apart := false }
def SnapBestSaid : Prop := snapBestRow.holds Try.pinned (OpenSpec.ofChange snapBestSpec)

/-- ITS FALSE NEIGHBOUR: 'it returns false'. Refute it at one input. -/
def snapBestWrong : ChangeSpec := { name := "snapBest", fn := fun _ => fun
  | [d1, d2, d3, d4] => { results := [.lit (.bool false)], args := [d1, d2, d3, d4] }
  | _ => none }
def SnapBestWrongFalsely : Prop := snapBestRow.holds Try.pinned (OpenSpec.ofChange snapBestWrong)

/-- 'gambrellaw29.SnapKeeps': WHATEVER THE INPUT: true; the input reads as it did. -/
def snapKeepsSpec : ChangeSpec := { name := "snapKeeps", fn := fun _ => fun
  | [d1, d2, d3] => { results := [.lit (.bool true)], args := [d1, d2, d3] }
  | _ => none }
def snapKeepsRow : OpenClaim := { program := "ytdojgffcahimjaa", sum := "b6f7126f492ab4c75212f39cdf5a4887f5287cb46cc3e0b2d07185c75030ffa2", func := "gambrel/gambrellaw29.SnapKeeps", spec := "snapKeeps", unfollowed := true, recurses := true, apart := false }
def SnapKeepsSaid : Prop := snapKeepsRow.holds Try.pinned (OpenSpec.ofChange snapKeepsSpec)

/-- ITS FALSE NEIGHBOUR: 'it returns false'. Refute it at one input. -/
def snapKeepsWrong : ChangeSpec := { name := "snapKeeps", fn := fun _ => fun
  | [d1, d2, d3] => { results := [.lit (.bool false)], args := [d1, d2, d3] }
  | _ => none }
def SnapKeepsWrongFalsely : Prop := snapKeepsRow.holds Try.pinned (OpenSpec.ofChange snapKeepsWrong)

/-- 'gambrellaw29.SnapMoves': WHATEVER THE INPUT: true; the input reads as it did. -/
def snapMovesSpec : ChangeSpec := { name := "snapMoves", fn := fun _ => fun
  | [d1, d2, d3, d4] => { results := [.lit (.bool true)], args := [d1, d2, d3, d4] }
  | _ => none }
def snapMovesRow : OpenClaim := { program := "ytdojgffcahimjaa", sum := "b6f7126f492ab4c75212f39cdf5a4887f5287cb46cc3e0b2d07185c75030ffa2", func := "gambrel/gambrellaw29.SnapMoves", spec := "snapMoves", unfollowed := true, recurses := true, apart := false }
def SnapMovesSaid : Prop := snapMovesRow.holds Try.pinned (OpenSpec.ofChange snapMovesSpec)

/-- ITS FALSE NEIGHBOUR: 'it returns false'. Refute it at one input. -/
def snapMovesWrong : ChangeSpec := { name := "snapMoves", fn := fun _ => fun
  | [d1, d2, d3, d4] => { results := [.lit (.bool false)], args := [d1, d2, d3, d4] }
  | _ => none }
def SnapMovesWrongFalsely : Prop := snapMovesRow.holds Try.pinned (OpenSpec.ofChange snapMovesWrong)

/-- 'gambrellaw29.SnapLines': WHATEVER THE INPUT: true; the input reads as it did. -/
def snapLinesSpec : ChangeSpec := { name := "snapLines", fn := fun _ => fun
  | [d1, d2, d3, d4, d5] => { results := [.lit (.bool true)], args := [d1, d2, d3, d4, d5] }
  | _ => none }
def snapLinesRow : OpenClaim := { program := "ytdojgffcahimjaa", sum := "b6f7126f492ab4c75212f39cdf5a4887f5287cb46cc3e0b2d07185c75030ffa2", func := "gambrel/gambrellaw29.SnapLines", spec := "snapLines", unfollowed := true, recurses := true, apart := false }
def SnapLinesSaid : Prop := snapLinesRow.holds Try.pinned (OpenSpec.ofChange snapLinesSpec)

/-- ITS FALSE NEIGHBOUR: 'it returns false'. Refute it at one input. -/
def snapLinesWrong : ChangeSpec := { name := "snapLines", fn := fun _ => fun
  | [d1, d2, d3, d4, d5] => { results := [.lit (.bool false)], args := [d1, d2, d3, d4, d5] }
  | _ => none }
def SnapLinesWrongFalsely : Prop := snapLinesRow.holds Try.pinned (OpenSpec.ofChange snapLinesWrong)

/-- 'gambrellaw29.SnapNearest': WHATEVER THE INPUT: true; the input reads as it did. -/
def snapNearestSpec : ChangeSpec := { name := "snapNearest", fn := fun _ => fun
  | [d1, d2, d3, d4] => { results := [.lit (.bool true)], args := [d1, d2, d3, d4] }
  | _ => none }
def snapNearestRow : OpenClaim := { program := "ytdojgffcahimjaa", sum := "b6f7126f492ab4c75212f39cdf5a4887f5287cb46cc3e0b2d07185c75030ffa2", func := "gambrel/gambrellaw29.SnapNearest", spec := "snapNearest", unfollowed := true, recurses := true, apart := false }
def SnapNearestSaid : Prop := snapNearestRow.holds Try.pinned (OpenSpec.ofChange snapNearestSpec)

/-- ITS FALSE NEIGHBOUR: 'it returns false'. Refute it at one input. -/
def snapNearestWrong : ChangeSpec := { name := "snapNearest", fn := fun _ => fun
  | [d1, d2, d3, d4] => { results := [.lit (.bool false)], args := [d1, d2, d3, d4] }
  | _ => none }
def SnapNearestWrongFalsely : Prop := snapNearestRow.holds Try.pinned (OpenSpec.ofChange snapNearestWrong)

/-- 'gambrellaw29.SnapNames': WHATEVER THE INPUT: true; the input reads as it did. -/
def snapNamesSpec : ChangeSpec := { name := "snapNames", fn := fun _ => fun
  | [] => { results := [.lit (.bool true)], args := [] }
  | _ => none }
def snapNamesRow : OpenClaim := { program := "ytdojgffcahimjaa", sum := "b6f7126f492ab4c75212f39cdf5a4887f5287cb46cc3e0b2d07185c75030ffa2", func := "gambrel/gambrellaw29.SnapNames", spec := "snapNames", unfollowed := true, recurses := true, apart := false }
def SnapNamesSaid : Prop := snapNamesRow.holds Try.pinned (OpenSpec.ofChange snapNamesSpec)

/-- ITS FALSE NEIGHBOUR: 'it returns false'. Refute it at one input. -/
def snapNamesWrong : ChangeSpec := { name := "snapNames", fn := fun _ => fun
  | [] => { results := [.lit (.bool false)], args := [] }
  | _ => none }
def SnapNamesWrongFalsely : Prop := snapNamesRow.holds Try.pinned (OpenSpec.ofChange snapNamesWrong)

/- THE SECOND FORM. 'bulk': how many values and letters a reading holds, each counted each time it is reached (what is shared counts as often as it is met; a slice's spare places count too). A statement '..UptoSaid' is the law's where the arguments, and the package variables that the reading takes, are together of bulk at most 1048576: NARROWER than '..Said'. Prove '..Said' where nothing that the law and all that it calls make is longer than what came in: it says more and counts as full. Else prove '..UptoSaid'. A law counts once. -/
mutual
def uptoBulk {H : Type} : DataW H → Nat
  | .lit (.string bytes) => bytes.length + 1
  | .lit _ => 1
  | .nil => 1
  | .ptr d => uptoBulk d + 1
  | .slice elems spare => uptoBulkAll elems + uptoBulkAll spare + 1
  | .agg parts => uptoBulkAll parts + 1
  | .iface _ d => uptoBulk d + 1
  | .map entries => uptoBulkEntries entries + 1
  | .held _ => 1
def uptoBulkAll {H : Type} : List (DataW H) → Nat
  | [] => 0
  | d :: r => uptoBulk d + uptoBulkAll r
def uptoBulkEntries {H : Type} : List (Lit × DataW H) → Nat
  | [] => 0
  | x :: r => uptoBulkEntry x + uptoBulkEntries r
def uptoBulkEntry {H : Type} : Lit × DataW H → Nat
  | (.string bytes, d) => bytes.length + uptoBulk d + 1
  | (_, d) => uptoBulk d + 1
 end
def uptoSmall : (H : Type) → List (DataW H) → Bool := fun _ ds => decide (uptoBulkAll ds ≤ 1048576)
def OpenSpec.upto (s : _root_.Go.ChangeSpec) : _root_.Go.OpenSpec := { _root_.Go.OpenSpec.ofChange s with cond := some uptoSmall }

/-- 'gambrellaw29.SnapCuts', WHERE WHAT IT READS IS OF BULK AT MOST 1048576: true; the input reads as it did. -/
def snapCutsUptoRow : OpenClaim := { program := "ytdojgffcahimjaa", sum := "b6f7126f492ab4c75212f39cdf5a4887f5287cb46cc3e0b2d07185c75030ffa2", func := "gambrel/gambrellaw29.SnapCuts", spec := "snapCuts", recurses := true, apart := false, narrowed := true }
def SnapCutsUptoSaid : Prop := snapCutsUptoRow.holds Try.pinned (OpenSpec.upto snapCutsSpec)

/-- 'gambrellaw29.SnapBest', WHERE WHAT IT READS IS OF BULK AT MOST 1048576: true; the input reads as it did. -/
def snapBestUptoRow : OpenClaim := { program := "ytdojgffcahimjaa", sum := "b6f7126f492ab4c75212f39cdf5a4887f5287cb46cc3e0b2d07185c75030ffa2", func := "gambrel/gambrellaw29.SnapBest", spec := "snapBest", unfollowed := true, recurses := true, apart := false, narrowed := true }
def SnapBestUptoSaid : Prop := snapBestUptoRow.holds Try.pinned (OpenSpec.upto snapBestSpec)

/-- 'gambrellaw29.SnapKeeps', WHERE WHAT IT READS IS OF BULK AT MOST 1048576: true; the input reads as it did. -/
def snapKeepsUptoRow : OpenClaim := { program := "ytdojgffcahimjaa", sum := "b6f7126f492ab4c75212f39cdf5a4887f5287cb46cc3e0b2d07185c75030ffa2", func := "gambrel/gambrellaw29.SnapKeeps", spec := "snapKeeps", unfollowed := true, recurses := true, apart := false, narrowed := true }
def SnapKeepsUptoSaid : Prop := snapKeepsUptoRow.holds Try.pinned (OpenSpec.upto snapKeepsSpec)

/-- 'gambrellaw29.SnapMoves', WHERE WHAT IT READS IS OF BULK AT MOST 1048576: true; the input reads as it did. -/
def snapMovesUptoRow : OpenClaim := { program := "ytdojgffcahimjaa", sum := "b6f7126f492ab4c75212f39cdf5a4887f5287cb46cc3e0b2d07185c75030ffa2", func := "gambrel/gambrellaw29.SnapMoves", spec := "snapMoves", unfollowed := true, recurses := true, apart := false, narrowed := true }
def SnapMovesUptoSaid : Prop := snapMovesUptoRow.holds Try.pinned (OpenSpec.upto snapMovesSpec)

/-- 'gambrellaw29.SnapLines', WHERE WHAT IT READS IS OF BULK AT MOST 1048576: true; the input reads as it did. -/
def snapLinesUptoRow : OpenClaim := { program := "ytdojgffcahimjaa", sum := "b6f7126f492ab4c75212f39cdf5a4887f5287cb46cc3e0b2d07185c75030ffa2", func := "gambrel/gambrellaw29.SnapLines", spec := "snapLines", unfollowed := true, recurses := true, apart := false, narrowed := true }
def SnapLinesUptoSaid : Prop := snapLinesUptoRow.holds Try.pinned (OpenSpec.upto snapLinesSpec)

/-- 'gambrellaw29.SnapNearest', WHERE WHAT IT READS IS OF BULK AT MOST 1048576: true; the input reads as it did. -/
def snapNearestUptoRow : OpenClaim := { program := "ytdojgffcahimjaa", sum := "b6f7126f492ab4c75212f39cdf5a4887f5287cb46cc3e0b2d07185c75030ffa2", func := "gambrel/gambrellaw29.SnapNearest", spec := "snapNearest", unfollowed := true, recurses := true, apart := false, narrowed := true }
def SnapNearestUptoSaid : Prop := snapNearestUptoRow.holds Try.pinned (OpenSpec.upto snapNearestSpec)

/-- 'gambrellaw29.SnapNames', WHERE WHAT IT READS IS OF BULK AT MOST 1048576: true; the input reads as it did. -/
def snapNamesUptoRow : OpenClaim := { program := "ytdojgffcahimjaa", sum := "b6f7126f492ab4c75212f39cdf5a4887f5287cb46cc3e0b2d07185c75030ffa2", func := "gambrel/gambrellaw29.SnapNames", spec := "snapNames", unfollowed := true, recurses := true, apart := false, narrowed := true }
def SnapNamesUptoSaid : Prop := snapNamesUptoRow.holds Try.pinned (OpenSpec.upto snapNamesSpec)

end Rows
end Go.Proofs.Ytdojgffcahimjaa
