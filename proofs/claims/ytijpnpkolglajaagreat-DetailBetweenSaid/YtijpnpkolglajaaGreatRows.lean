/-
  No cell of these rows narrows 'for every input' (looked for: loops, veiled, ifaces, maps, wideKeys, modest, calm, conditions, laid).
  DERIVED. THE GIVEN ROWS OF THIS SEAT. 12 by the template 'for every input the law returns true; each argument reads behind the call as it read before'; 0 by the template 'total and deterministic' (their statements: YtijpnpkolglajaaGreatTotals.lean).
  GIVEN WITH THE SEED: the statements are not yours to turn. If you find one false, say at which input.
  Laid BY PROGRAM, IN A SANDBOX (cutbox-rows.mjs): the forced cells as the released guide's own fill.sh prints them over the translation 7be104bf53e1a639… (all of the seat's roots in one cut). By AI agents, Wed Nov 11 2026. No macro, syntax, notation, axiom, sorry.
-/
import Derived.Test.YtijpnpkolglajaaGreatChecked
import GoSem.Claim
import GoSem.ClaimJoined
import GoSem.ClaimMapViews
import Derived.JoinedTies
import Derived.KernelRfl
namespace Go.Proofs.YtijpnpkolglajaaGreat
/- THE CELL 'sum', in the pinned program and in every row, IS THE sha256 OF THE DUMP (.gsa) THAT YtijpnpkolglajaaGreatProg.lean LOADS. Nothing in Lean hashes anything: it is a label: what it is worth is what the hold of that sum in a sandbox is worth. -/
noncomputable def Tryz.pinned : Pinned := { name := "ytijpnpkolglajaagreat", sum := "7be104bf53e1a63970ebab33de1f4955a2572dfc2b1d4a3282187222b4cd43b5", checked := Tryz.checked }
namespace Rows
def none {H : Type} : Left H := { results := [], args := [] }

/-- 'gambrellaw39.DetailReaches': WHATEVER THE INPUT: true; the input reads as it did. -/
def detailReachesSpec : ChangeSpec := { name := "detailReaches", fn := fun _ => fun
  | [d1, d2] => { results := [.lit (.bool true)], args := [d1, d2] }
  | _ => none }
def detailReachesRow : OpenClaim := { program := "ytijpnpkolglajaagreat", sum := "7be104bf53e1a63970ebab33de1f4955a2572dfc2b1d4a3282187222b4cd43b5", func := "gambrel/gambrellaw39.DetailReaches", spec := "detailReaches", unfollowed := true, recurses := true, apart := false }
def DetailReachesSaid : Prop := detailReachesRow.holds Tryz.pinned (OpenSpec.ofChange detailReachesSpec)

/-- ITS FALSE NEIGHBOUR: 'it returns false'. Refute it at one input. -/
def detailReachesWrong : ChangeSpec := { name := "detailReaches", fn := fun _ => fun
  | [d1, d2] => { results := [.lit (.bool false)], args := [d1, d2] }
  | _ => none }
def DetailReachesWrongFalsely : Prop := detailReachesRow.holds Tryz.pinned (OpenSpec.ofChange detailReachesWrong)

/-- 'gambrellaw28.OccludeSides': WHATEVER THE INPUT: true; the input reads as it did. -/
def occludeSidesSpec : ChangeSpec := { name := "occludeSides", fn := fun _ => fun
  | [d1, d2, d3] => { results := [.lit (.bool true)], args := [d1, d2, d3] }
  | _ => none }
def occludeSidesRow : OpenClaim := { program := "ytijpnpkolglajaagreat", sum := "7be104bf53e1a63970ebab33de1f4955a2572dfc2b1d4a3282187222b4cd43b5", func := "gambrel/gambrellaw28.OccludeSides", spec := "occludeSides", unfollowed := true, recurses := true, apart := false }
def OccludeSidesSaid : Prop := occludeSidesRow.holds Tryz.pinned (OpenSpec.ofChange occludeSidesSpec)

/-- ITS FALSE NEIGHBOUR: 'it returns false'. Refute it at one input. -/
def occludeSidesWrong : ChangeSpec := { name := "occludeSides", fn := fun _ => fun
  | [d1, d2, d3] => { results := [.lit (.bool false)], args := [d1, d2, d3] }
  | _ => none }
def OccludeSidesWrongFalsely : Prop := occludeSidesRow.holds Tryz.pinned (OpenSpec.ofChange occludeSidesWrong)

/-- 'gambrellaw28.OccludeRelates': WHATEVER THE INPUT: true; the input reads as it did. -/
def occludeRelatesSpec : ChangeSpec := { name := "occludeRelates", fn := fun _ => fun
  | [d1, d2] => { results := [.lit (.bool true)], args := [d1, d2] }
  | _ => none }
def occludeRelatesRow : OpenClaim := { program := "ytijpnpkolglajaagreat", sum := "7be104bf53e1a63970ebab33de1f4955a2572dfc2b1d4a3282187222b4cd43b5", func := "gambrel/gambrellaw28.OccludeRelates", spec := "occludeRelates", unfollowed := true, recurses := true, apart := false }
def OccludeRelatesSaid : Prop := occludeRelatesRow.holds Tryz.pinned (OpenSpec.ofChange occludeRelatesSpec)

/-- ITS FALSE NEIGHBOUR: 'it returns false'. Refute it at one input. -/
def occludeRelatesWrong : ChangeSpec := { name := "occludeRelates", fn := fun _ => fun
  | [d1, d2] => { results := [.lit (.bool false)], args := [d1, d2] }
  | _ => none }
def OccludeRelatesWrongFalsely : Prop := occludeRelatesRow.holds Tryz.pinned (OpenSpec.ofChange occludeRelatesWrong)

/-- 'gambrellaw28.OccludeNears': WHATEVER THE INPUT: true; the input reads as it did. -/
def occludeNearsSpec : ChangeSpec := { name := "occludeNears", fn := fun _ => fun
  | [d1, d2] => { results := [.lit (.bool true)], args := [d1, d2] }
  | _ => none }
def occludeNearsRow : OpenClaim := { program := "ytijpnpkolglajaagreat", sum := "7be104bf53e1a63970ebab33de1f4955a2572dfc2b1d4a3282187222b4cd43b5", func := "gambrel/gambrellaw28.OccludeNears", spec := "occludeNears", unfollowed := true, recurses := true, apart := false }
def OccludeNearsSaid : Prop := occludeNearsRow.holds Tryz.pinned (OpenSpec.ofChange occludeNearsSpec)

/-- ITS FALSE NEIGHBOUR: 'it returns false'. Refute it at one input. -/
def occludeNearsWrong : ChangeSpec := { name := "occludeNears", fn := fun _ => fun
  | [d1, d2] => { results := [.lit (.bool false)], args := [d1, d2] }
  | _ => none }
def OccludeNearsWrongFalsely : Prop := occludeNearsRow.holds Tryz.pinned (OpenSpec.ofChange occludeNearsWrong)

/-- 'gambrellaw39.DetailLevels': WHATEVER THE INPUT: true; the input reads as it did. -/
def detailLevelsSpec : ChangeSpec := { name := "detailLevels", fn := fun _ => fun
  | [d1, d2] => { results := [.lit (.bool true)], args := [d1, d2] }
  | _ => none }
def detailLevelsRow : OpenClaim := { program := "ytijpnpkolglajaagreat", sum := "7be104bf53e1a63970ebab33de1f4955a2572dfc2b1d4a3282187222b4cd43b5", func := "gambrel/gambrellaw39.DetailLevels", spec := "detailLevels", unfollowed := true, recurses := true, apart := false }
def DetailLevelsSaid : Prop := detailLevelsRow.holds Tryz.pinned (OpenSpec.ofChange detailLevelsSpec)

/-- ITS FALSE NEIGHBOUR: 'it returns false'. Refute it at one input. -/
def detailLevelsWrong : ChangeSpec := { name := "detailLevels", fn := fun _ => fun
  | [d1, d2] => { results := [.lit (.bool false)], args := [d1, d2] }
  | _ => none }
def DetailLevelsWrongFalsely : Prop := detailLevelsRow.holds Tryz.pinned (OpenSpec.ofChange detailLevelsWrong)

/-- 'gambrellaw39.DetailCells': WHATEVER THE INPUT: true; the input reads as it did. -/
def detailCellsSpec : ChangeSpec := { name := "detailCells", fn := fun _ => fun
  | [d1, d2, d3] => { results := [.lit (.bool true)], args := [d1, d2, d3] }
  | _ => none }
def detailCellsRow : OpenClaim := { program := "ytijpnpkolglajaagreat", sum := "7be104bf53e1a63970ebab33de1f4955a2572dfc2b1d4a3282187222b4cd43b5", func := "gambrel/gambrellaw39.DetailCells", spec := "detailCells", unfollowed := true, recurses := true, apart := false }
def DetailCellsSaid : Prop := detailCellsRow.holds Tryz.pinned (OpenSpec.ofChange detailCellsSpec)

/-- ITS FALSE NEIGHBOUR: 'it returns false'. Refute it at one input. -/
def detailCellsWrong : ChangeSpec := { name := "detailCells", fn := fun _ => fun
  | [d1, d2, d3] => { results := [.lit (.bool false)], args := [d1, d2, d3] }
  | _ => none }
def DetailCellsWrongFalsely : Prop := detailCellsRow.holds Tryz.pinned (OpenSpec.ofChange detailCellsWrong)

/-- 'gambrellaw39.DetailSteps': WHATEVER THE INPUT: true; the input reads as it did. -/
def detailStepsSpec : ChangeSpec := { name := "detailSteps", fn := fun _ => fun
  | [d1, d2, d3] => { results := [.lit (.bool true)], args := [d1, d2, d3] }
  | _ => none }
def detailStepsRow : OpenClaim := { program := "ytijpnpkolglajaagreat", sum := "7be104bf53e1a63970ebab33de1f4955a2572dfc2b1d4a3282187222b4cd43b5", func := "gambrel/gambrellaw39.DetailSteps", spec := "detailSteps", unfollowed := true, recurses := true, apart := false }
def DetailStepsSaid : Prop := detailStepsRow.holds Tryz.pinned (OpenSpec.ofChange detailStepsSpec)

/-- ITS FALSE NEIGHBOUR: 'it returns false'. Refute it at one input. -/
def detailStepsWrong : ChangeSpec := { name := "detailSteps", fn := fun _ => fun
  | [d1, d2, d3] => { results := [.lit (.bool false)], args := [d1, d2, d3] }
  | _ => none }
def DetailStepsWrongFalsely : Prop := detailStepsRow.holds Tryz.pinned (OpenSpec.ofChange detailStepsWrong)

/-- 'gambrellaw39.DetailMetric': WHATEVER THE INPUT: true; the input reads as it did. -/
def detailMetricSpec : ChangeSpec := { name := "detailMetric", fn := fun _ => fun
  | [d1, d2, d3] => { results := [.lit (.bool true)], args := [d1, d2, d3] }
  | _ => none }
def detailMetricRow : OpenClaim := { program := "ytijpnpkolglajaagreat", sum := "7be104bf53e1a63970ebab33de1f4955a2572dfc2b1d4a3282187222b4cd43b5", func := "gambrel/gambrellaw39.DetailMetric", spec := "detailMetric", unfollowed := true, recurses := true, apart := false }
def DetailMetricSaid : Prop := detailMetricRow.holds Tryz.pinned (OpenSpec.ofChange detailMetricSpec)

/-- ITS FALSE NEIGHBOUR: 'it returns false'. Refute it at one input. -/
def detailMetricWrong : ChangeSpec := { name := "detailMetric", fn := fun _ => fun
  | [d1, d2, d3] => { results := [.lit (.bool false)], args := [d1, d2, d3] }
  | _ => none }
def DetailMetricWrongFalsely : Prop := detailMetricRow.holds Tryz.pinned (OpenSpec.ofChange detailMetricWrong)

/-- 'gambrellaw39.DetailPoints': WHATEVER THE INPUT: true; the input reads as it did. -/
def detailPointsSpec : ChangeSpec := { name := "detailPoints", fn := fun _ => fun
  | [d1, d2, d3] => { results := [.lit (.bool true)], args := [d1, d2, d3] }
  | _ => none }
def detailPointsRow : OpenClaim := { program := "ytijpnpkolglajaagreat", sum := "7be104bf53e1a63970ebab33de1f4955a2572dfc2b1d4a3282187222b4cd43b5", func := "gambrel/gambrellaw39.DetailPoints", spec := "detailPoints", unfollowed := true, recurses := true, apart := false }
def DetailPointsSaid : Prop := detailPointsRow.holds Tryz.pinned (OpenSpec.ofChange detailPointsSpec)

/-- ITS FALSE NEIGHBOUR: 'it returns false'. Refute it at one input. -/
def detailPointsWrong : ChangeSpec := { name := "detailPoints", fn := fun _ => fun
  | [d1, d2, d3] => { results := [.lit (.bool false)], args := [d1, d2, d3] }
  | _ => none }
def DetailPointsWrongFalsely : Prop := detailPointsRow.holds Tryz.pinned (OpenSpec.ofChange detailPointsWrong)

/-- 'gambrellaw39.DetailFar': WHATEVER THE INPUT: true; the input reads as it did. -/
def detailFarSpec : ChangeSpec := { name := "detailFar", fn := fun _ => fun
  | [d1, d2, d3, d4, d5] => { results := [.lit (.bool true)], args := [d1, d2, d3, d4, d5] }
  | _ => none }
def detailFarRow : OpenClaim := { program := "ytijpnpkolglajaagreat", sum := "7be104bf53e1a63970ebab33de1f4955a2572dfc2b1d4a3282187222b4cd43b5", func := "gambrel/gambrellaw39.DetailFar", spec := "detailFar", unfollowed := true, recurses := true, apart := false }
def DetailFarSaid : Prop := detailFarRow.holds Tryz.pinned (OpenSpec.ofChange detailFarSpec)

/-- ITS FALSE NEIGHBOUR: 'it returns false'. Refute it at one input. -/
def detailFarWrong : ChangeSpec := { name := "detailFar", fn := fun _ => fun
  | [d1, d2, d3, d4, d5] => { results := [.lit (.bool false)], args := [d1, d2, d3, d4, d5] }
  | _ => none }
def DetailFarWrongFalsely : Prop := detailFarRow.holds Tryz.pinned (OpenSpec.ofChange detailFarWrong)

/-- 'gambrellaw39.DetailNames': WHATEVER THE INPUT: true; the input reads as it did. -/
def detailNamesSpec : ChangeSpec := { name := "detailNames", fn := fun _ => fun
  | [] => { results := [.lit (.bool true)], args := [] }
  | _ => none }
def detailNamesRow : OpenClaim := { program := "ytijpnpkolglajaagreat", sum := "7be104bf53e1a63970ebab33de1f4955a2572dfc2b1d4a3282187222b4cd43b5", func := "gambrel/gambrellaw39.DetailNames", spec := "detailNames", unfollowed := true, recurses := true, apart := false }
def DetailNamesSaid : Prop := detailNamesRow.holds Tryz.pinned (OpenSpec.ofChange detailNamesSpec)

/-- ITS FALSE NEIGHBOUR: 'it returns false'. Refute it at one input. -/
def detailNamesWrong : ChangeSpec := { name := "detailNames", fn := fun _ => fun
  | [] => { results := [.lit (.bool false)], args := [] }
  | _ => none }
def DetailNamesWrongFalsely : Prop := detailNamesRow.holds Tryz.pinned (OpenSpec.ofChange detailNamesWrong)

/-- 'gambrellaw39.DetailBetween': WHATEVER THE INPUT: true; the input reads as it did. -/
def detailBetweenSpec : ChangeSpec := { name := "detailBetween", fn := fun _ => fun
  | [d1, d2, d3] => { results := [.lit (.bool true)], args := [d1, d2, d3] }
  | _ => none }
def detailBetweenRow : OpenClaim := { program := "ytijpnpkolglajaagreat", sum := "7be104bf53e1a63970ebab33de1f4955a2572dfc2b1d4a3282187222b4cd43b5", func := "gambrel/gambrellaw39.DetailBetween", spec := "detailBetween", unfollowed := true, recurses := true, apart := false }
def DetailBetweenSaid : Prop := detailBetweenRow.holds Tryz.pinned (OpenSpec.ofChange detailBetweenSpec)

/-- ITS FALSE NEIGHBOUR: 'it returns false'. Refute it at one input. -/
def detailBetweenWrong : ChangeSpec := { name := "detailBetween", fn := fun _ => fun
  | [d1, d2, d3] => { results := [.lit (.bool false)], args := [d1, d2, d3] }
  | _ => none }
def DetailBetweenWrongFalsely : Prop := detailBetweenRow.holds Tryz.pinned (OpenSpec.ofChange detailBetweenWrong)

/- THE SECOND FORM. 'bulk': how many values and letters a reading holds, each counted each time it is reached (what is shared counts as often as it is met; a slice's spare places count too). A statement '..UptoSaid' is the law's where the arguments, and the package variables that the reading takes, are together of bulk at most 1048576: NARROWER than '..Said'. Prove '..Said' where nothing that the law and all that it calls make is longer than what came in: it says more and counts as full. Else prove '..UptoSaid'. A law counts once. -/
mutual
def uptoBulk {H : Type} : DataW H → Nat
  | .lit (.string bytes) => bytes.length + 1
  | .lit _ => 1
  | .nil => 1
  | .ptr d => uptoBulk d + 1
  | .slice elems spare => uptoBulkAll elems + uptoBulkAll spare + 1
  | .agg parts => uptoBulkAll parts + 1
  | .iface _ d => uptoBulk d + 1
  | .map entries => uptoBulkEntries entries + 1
  | .held _ => 1
def uptoBulkAll {H : Type} : List (DataW H) → Nat
  | [] => 0
  | d :: r => uptoBulk d + uptoBulkAll r
def uptoBulkEntries {H : Type} : List (Lit × DataW H) → Nat
  | [] => 0
  | x :: r => uptoBulkEntry x + uptoBulkEntries r
def uptoBulkEntry {H : Type} : Lit × DataW H → Nat
  | (.string bytes, d) => bytes.length + uptoBulk d + 1
  | (_, d) => uptoBulk d + 1
 end
def uptoSmall : (H : Type) → List (DataW H) → Bool := fun _ ds => decide (uptoBulkAll ds ≤ 1048576)
def OpenSpec.upto (s : _root_.Go.ChangeSpec) : _root_.Go.OpenSpec := { _root_.Go.OpenSpec.ofChange s with cond := some uptoSmall }

/-- 'gambrellaw39.DetailReaches', WHERE WHAT IT READS IS OF BULK AT MOST 1048576: true; the input reads as it did. -/
def detailReachesUptoRow : OpenClaim := { program := "ytijpnpkolglajaagreat", sum := "7be104bf53e1a63970ebab33de1f4955a2572dfc2b1d4a3282187222b4cd43b5", func := "gambrel/gambrellaw39.DetailReaches", spec := "detailReaches", unfollowed := true, recurses := true, apart := false, narrowed := true }
def DetailReachesUptoSaid : Prop := detailReachesUptoRow.holds Tryz.pinned (OpenSpec.upto detailReachesSpec)

/-- 'gambrellaw28.OccludeSides', WHERE WHAT IT READS IS OF BULK AT MOST 1048576: true; the input reads as it did. -/
def occludeSidesUptoRow : OpenClaim := { program := "ytijpnpkolglajaagreat", sum := "7be104bf53e1a63970ebab33de1f4955a2572dfc2b1d4a3282187222b4cd43b5", func := "gambrel/gambrellaw28.OccludeSides", spec := "occludeSides", unfollowed := true, recurses := true, apart := false, narrowed := true }
def OccludeSidesUptoSaid : Prop := occludeSidesUptoRow.holds Tryz.pinned (OpenSpec.upto occludeSidesSpec)

/-- 'gambrellaw28.OccludeRelates', WHERE WHAT IT READS IS OF BULK AT MOST 1048576: true; the input reads as it did. -/
def occludeRelatesUptoRow : OpenClaim := { program := "ytijpnpkolglajaagreat", sum := "7be104bf53e1a63970ebab33de1f4955a2572dfc2b1d4a3282187222b4cd43b5", func := "gambrel/gambrellaw28.OccludeRelates", spec := "occludeRelates", unfollowed := true, recurses := true, apart := false, narrowed := true }
def OccludeRelatesUptoSaid : Prop := occludeRelatesUptoRow.holds Tryz.pinned (OpenSpec.upto occludeRelatesSpec)

/-- 'gambrellaw28.OccludeNears', WHERE WHAT IT READS IS OF BULK AT MOST 1048576: true; the input reads as it did. -/
def occludeNearsUptoRow : OpenClaim := { program := "ytijpnpkolglajaagreat", sum := "7be104bf53e1a63970ebab33de1f4955a2572dfc2b1d4a3282187222b4cd43b5", func := "gambrel/gambrellaw28.OccludeNears", spec := "occludeNears", unfollowed := true, recurses := true, apart := false, narrowed := true }
def OccludeNearsUptoSaid : Prop := occludeNearsUptoRow.holds Tryz.pinned (OpenSpec.upto occludeNearsSpec)

/-- 'gambrellaw39.DetailLevels', WHERE WHAT IT READS IS OF BULK AT MOST 1048576: true; the input reads as it did. -/
def detailLevelsUptoRow : OpenClaim := { program := "ytijpnpkolglajaagreat", sum := "7be104bf53e1a63970ebab33de1f4955a2572dfc2b1d4a3282187222b4cd43b5", func := "gambrel/gambrellaw39.DetailLevels", spec := "detailLevels", unfollowed := true, recurses := true, apart := false, narrowed := true }
def DetailLevelsUptoSaid : Prop := detailLevelsUptoRow.holds Tryz.pinned (OpenSpec.upto detailLevelsSpec)

/-- 'gambrellaw39.DetailCells', WHERE WHAT IT READS IS OF BULK AT MOST 1048576: true; the input reads as it did. -/
def detailCellsUptoRow : OpenClaim := { program := "ytijpnpkolglajaagreat", sum := "7be104bf53e1a63970ebab33de1f4955a2572dfc2b1d4a3282187222b4cd43b5", func := "gambrel/gambrellaw39.DetailCells", spec := "detailCells", unfollowed := true, recurses := true, apart := false, narrowed := true }
def DetailCellsUptoSaid : Prop := detailCellsUptoRow.holds Tryz.pinned (OpenSpec.upto detailCellsSpec)

/-- 'gambrellaw39.DetailSteps', WHERE WHAT IT READS IS OF BULK AT MOST 1048576: true; the input reads as it did. -/
def detailStepsUptoRow : OpenClaim := { program := "ytijpnpkolglajaagreat", sum := "7be104bf53e1a63970ebab33de1f4955a2572dfc2b1d4a3282187222b4cd43b5", func := "gambrel/gambrellaw39.DetailSteps", spec := "detailSteps", unfollowed := true, recurses := true, apart := false, narrowed := true }
def DetailStepsUptoSaid : Prop := detailStepsUptoRow.holds Tryz.pinned (OpenSpec.upto detailStepsSpec)

/-- 'gambrellaw39.DetailMetric', WHERE WHAT IT READS IS OF BULK AT MOST 1048576: true; the input reads as it did. -/
def detailMetricUptoRow : OpenClaim := { program := "ytijpnpkolglajaagreat", sum := "7be104bf53e1a63970ebab33de1f4955a2572dfc2b1d4a3282187222b4cd43b5", func := "gambrel/gambrellaw39.DetailMetric", spec := "detailMetric", unfollowed := true, recurses := true, apart := false, narrowed := true }
def DetailMetricUptoSaid : Prop := detailMetricUptoRow.holds Tryz.pinned (OpenSpec.upto detailMetricSpec)

/-- 'gambrellaw39.DetailPoints', WHERE WHAT IT READS IS OF BULK AT MOST 1048576: true; the input reads as it did. -/
def detailPointsUptoRow : OpenClaim := { program := "ytijpnpkolglajaagreat", sum := "7be104bf53e1a63970ebab33de1f4955a2572dfc2b1d4a3282187222b4cd43b5", func := "gambrel/gambrellaw39.DetailPoints", spec := "detailPoints", unfollowed := true, recurses := true, apart := false, narrowed := true }
def DetailPointsUptoSaid : Prop := detailPointsUptoRow.holds Tryz.pinned (OpenSpec.upto detailPointsSpec)

/-- 'gambrellaw39.DetailFar', WHERE WHAT IT READS IS OF BULK AT MOST 1048576: true; the input reads as it did. -/
def detailFarUptoRow : OpenClaim := { program := "ytijpnpkolglajaagreat", sum := "7be104bf53e1a63970ebab33de1f4955a2572dfc2b1d4a3282187222b4cd43b5", func := "gambrel/gambrellaw39.DetailFar", spec := "detailFar", unfollowed := true, recurses := true, apart := false, narrowed := true }
def DetailFarUptoSaid : Prop := detailFarUptoRow.holds Tryz.pinned (OpenSpec.upto detailFarSpec)

/-- 'gambrellaw39.DetailNames', WHERE WHAT IT READS IS OF BULK AT MOST 1048576: true; the input reads as it did. -/
def detailNamesUptoRow : OpenClaim := { program := "ytijpnpkolglajaagreat", sum := "7be104bf53e1a63970ebab33de1f4955a2572dfc2b1d4a3282187222b4cd43b5", func := "gambrel/gambrellaw39.DetailNames", spec := "detailNames", unfollowed := true, recurses := true, apart := false, narrowed := true }
def DetailNamesUptoSaid : Prop := detailNamesUptoRow.holds Tryz.pinned (OpenSpec.upto detailNamesSpec)

/-- 'gambrellaw39.DetailBetween', WHERE WHAT IT READS IS OF BULK AT MOST 1048576: true; the input reads as it did. -/
def detailBetweenUptoRow : OpenClaim := { program := "ytijpnpkolglajaagreat", sum := "7be104bf53e1a63970ebab33de1f4955a2572dfc2b1d4a3282187222b4cd43b5", func := "gambrel/gambrellaw39.DetailBetween", spec := "detailBetween", unfollowed := true, recurses := true, apart := false, narrowed := true }
def DetailBetweenUptoSaid : Prop := detailBetweenUptoRow.holds Tryz.pinned (OpenSpec.upto detailBetweenSpec)

end Rows
end Go.Proofs.YtijpnpkolglajaaGreat
