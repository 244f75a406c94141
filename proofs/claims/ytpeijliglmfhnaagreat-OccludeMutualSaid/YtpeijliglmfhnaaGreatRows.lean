/-
  No cell of these rows narrows 'for every input' (looked for: loops, veiled, ifaces, maps, wideKeys, modest, calm, conditions, laid).
  DERIVED. THE GIVEN ROWS OF THIS SEAT. 5 by the template 'for every input the law returns true; each argument reads behind the call as it read before'; 0 by the template 'total and deterministic' (their statements: YtpeijliglmfhnaaGreatTotals.lean).
  GIVEN WITH THE SEED: the statements are not yours to turn. If you find one false, say at which input.
  Laid BY PROGRAM, IN A SANDBOX (cutbox-rows.mjs): the forced cells as the released guide's own fill.sh prints them over the translation c1e996f2fe0dcaab… (all of the seat's roots in one cut). By AI agents, Wed Nov 11 2026. No macro, syntax, notation, axiom, sorry.
-/
import Derived.Test.YtpeijliglmfhnaaGreatChecked
import GoSem.Claim
import GoSem.ClaimJoined
import GoSem.ClaimMapViews
import Derived.JoinedTies
import Derived.KernelRfl
namespace Go.Proofs.YtpeijliglmfhnaaGreat
/- THE CELL 'sum', in the pinned program and in every row, IS THE sha256 OF THE DUMP (.gsa) THAT YtpeijliglmfhnaaGreatProg.lean LOADS. Nothing in Lean hashes anything: it is a label: what it is worth is what the hold of that sum in a sandbox is worth. -/
noncomputable def Tryz.pinned : Pinned := { name := "ytpeijliglmfhnaagreat", sum := "c1e996f2fe0dcaabcaf8937c49a7a8ba030d431d0882ec94b0b9aaa57bc5c67a", checked := Tryz.checked }
namespace Rows
def none {H : Type} : Left H := { results := [], args := [] }

/-- 'gambrellaw28.OccludeSides': WHATEVER THE INPUT: true; the input reads as it did. -/
def occludeSidesSpec : ChangeSpec := { name := "occludeSides", fn := fun _ => fun
  | [d1, d2, d3] => { results := [.lit (.bool true)], args := [d1, d2, d3] }
  | _ => none }
def occludeSidesRow : OpenClaim := { program := "ytpeijliglmfhnaagreat", sum := "c1e996f2fe0dcaabcaf8937c49a7a8ba030d431d0882ec94b0b9aaa57bc5c67a", func := "gambrel/gambrellaw28.OccludeSides", spec := "occludeSides", unfollowed := true, recurses := true, apart := false }
def OccludeSidesSaid : Prop := occludeSidesRow.holds Tryz.pinned (OpenSpec.ofChange occludeSidesSpec)

/-- ITS FALSE NEIGHBOUR: 'it returns false'. Refute it at one input. -/
def occludeSidesWrong : ChangeSpec := { name := "occludeSides", fn := fun _ => fun
  | [d1, d2, d3] => { results := [.lit (.bool false)], args := [d1, d2, d3] }
  | _ => none }
def OccludeSidesWrongFalsely : Prop := occludeSidesRow.holds Tryz.pinned (OpenSpec.ofChange occludeSidesWrong)

/-- 'gambrellaw28.OccludeRelates': WHATEVER THE INPUT: true; the input reads as it did. -/
def occludeRelatesSpec : ChangeSpec := { name := "occludeRelates", fn := fun _ => fun
  | [d1, d2] => { results := [.lit (.bool true)], args := [d1, d2] }
  | _ => none }
def occludeRelatesRow : OpenClaim := { program := "ytpeijliglmfhnaagreat", sum := "c1e996f2fe0dcaabcaf8937c49a7a8ba030d431d0882ec94b0b9aaa57bc5c67a", func := "gambrel/gambrellaw28.OccludeRelates", spec := "occludeRelates", unfollowed := true, recurses := true, apart := false }
def OccludeRelatesSaid : Prop := occludeRelatesRow.holds Tryz.pinned (OpenSpec.ofChange occludeRelatesSpec)

/-- ITS FALSE NEIGHBOUR: 'it returns false'. Refute it at one input. -/
def occludeRelatesWrong : ChangeSpec := { name := "occludeRelates", fn := fun _ => fun
  | [d1, d2] => { results := [.lit (.bool false)], args := [d1, d2] }
  | _ => none }
def OccludeRelatesWrongFalsely : Prop := occludeRelatesRow.holds Tryz.pinned (OpenSpec.ofChange occludeRelatesWrong)

/-- 'gambrellaw28.OccludeNears': WHATEVER THE INPUT: true; the input reads as it did. -/
def occludeNearsSpec : ChangeSpec := { name := "occludeNears", fn := fun _ => fun
  | [d1, d2] => { results := [.lit (.bool true)], args := [d1, d2] }
  | _ => none }
def occludeNearsRow : OpenClaim := { program := "ytpeijliglmfhnaagreat", sum := "c1e996f2fe0dcaabcaf8937c49a7a8ba030d431d0882ec94b0b9aaa57bc5c67a", func := "gambrel/gambrellaw28.OccludeNears", spec := "occludeNears", unfollowed := true, recurses := true, apart := false }
def OccludeNearsSaid : Prop := occludeNearsRow.holds Tryz.pinned (OpenSpec.ofChange occludeNearsSpec)

/-- ITS FALSE NEIGHBOUR: 'it returns false'. Refute it at one input. -/
def occludeNearsWrong : ChangeSpec := { name := "occludeNears", fn := fun _ => fun
  | [d1, d2] => { results := [.lit (.bool false)], args := [d1, d2] }
  | _ => none }
def OccludeNearsWrongFalsely : Prop := occludeNearsRow.holds Tryz.pinned (OpenSpec.ofChange occludeNearsWrong)

/-- 'gambrellaw28.OccludeTurns': WHATEVER THE INPUT: true; the input reads as it did. -/
def occludeTurnsSpec : ChangeSpec := { name := "occludeTurns", fn := fun _ => fun
  | [d1, d2] => { results := [.lit (.bool true)], args := [d1, d2] }
  | _ => none }
def occludeTurnsRow : OpenClaim := { program := "ytpeijliglmfhnaagreat", sum := "c1e996f2fe0dcaabcaf8937c49a7a8ba030d431d0882ec94b0b9aaa57bc5c67a", func := "gambrel/gambrellaw28.OccludeTurns", spec := "occludeTurns", unfollowed := true, recurses := true, apart := false }
def OccludeTurnsSaid : Prop := occludeTurnsRow.holds Tryz.pinned (OpenSpec.ofChange occludeTurnsSpec)

/-- ITS FALSE NEIGHBOUR: 'it returns false'. Refute it at one input. -/
def occludeTurnsWrong : ChangeSpec := { name := "occludeTurns", fn := fun _ => fun
  | [d1, d2] => { results := [.lit (.bool false)], args := [d1, d2] }
  | _ => none }
def OccludeTurnsWrongFalsely : Prop := occludeTurnsRow.holds Tryz.pinned (OpenSpec.ofChange occludeTurnsWrong)

/-- 'gambrellaw28.OccludeMutual': WHATEVER THE INPUT: true; the input reads as it did. -/
def occludeMutualSpec : ChangeSpec := { name := "occludeMutual", fn := fun _ => fun
  | [d1, d2] => { results := [.lit (.bool true)], args := [d1, d2] }
  | _ => none }
def occludeMutualRow : OpenClaim := { program := "ytpeijliglmfhnaagreat", sum := "c1e996f2fe0dcaabcaf8937c49a7a8ba030d431d0882ec94b0b9aaa57bc5c67a", func := "gambrel/gambrellaw28.OccludeMutual", spec := "occludeMutual", unfollowed := true, recurses := true, apart := false }
def OccludeMutualSaid : Prop := occludeMutualRow.holds Tryz.pinned (OpenSpec.ofChange occludeMutualSpec)

/-- ITS FALSE NEIGHBOUR: 'it returns false'. Refute it at one input. -/
def occludeMutualWrong : ChangeSpec := { name := "occludeMutual", fn := fun _ => fun
  | [d1, d2] => { results := [.lit (.bool false)], args := [d1, d2] }
  | _ => none }
def OccludeMutualWrongFalsely : Prop := occludeMutualRow.holds Tryz.pinned (OpenSpec.ofChange occludeMutualWrong)

/- THE SECOND FORM. 'bulk': how many values and letters a reading holds, each counted each time it is reached (what is shared counts as often as it is met; a slice's spare places count too). A statement '..UptoSaid' is the law's where the arguments, and the package variables that the reading takes, are together of bulk at most 1048576: NARROWER than '..Said'. Prove '..Said' where nothing that the law and all that it calls make is longer than what came in: it says more and counts as full. Else prove '..UptoSaid'. A law counts once. -/
mutual
def uptoBulk {H : Type} : DataW H → Nat
  | .lit (.string bytes) => bytes.length + 1
  | .lit _ => 1
  | .nil => 1
  | .ptr d => uptoBulk d + 1
  | .slice elems spare => uptoBulkAll elems + uptoBulkAll spare + 1
  | .agg parts => uptoBulkAll parts + 1
  | .iface _ d => uptoBulk d + 1
  | .map entries => uptoBulkEntries entries + 1
  | .held _ => 1
def uptoBulkAll {H : Type} : List (DataW H) → Nat
  | [] => 0
  | d :: r => uptoBulk d + uptoBulkAll r
def uptoBulkEntries {H : Type} : List (Lit × DataW H) → Nat
  | [] => 0
  | x :: r => uptoBulkEntry x + uptoBulkEntries r
def uptoBulkEntry {H : Type} : Lit × DataW H → Nat
  | (.string bytes, d) => bytes.length + uptoBulk d + 1
  | (_, d) => uptoBulk d + 1
 end
def uptoSmall : (H : Type) → List (DataW H) → Bool := fun _ ds => decide (uptoBulkAll ds ≤ 1048576)
def OpenSpec.upto (s : _root_.Go.ChangeSpec) : _root_.Go.OpenSpec := { _root_.Go.OpenSpec.ofChange s with cond := some uptoSmall }

/-- 'gambrellaw28.OccludeSides', WHERE WHAT IT READS IS OF BULK AT MOST 1048576: true; the input reads as it did. -/
def occludeSidesUptoRow : OpenClaim := { program := "ytpeijliglmfhnaagreat", sum := "c1e996f2fe0dcaabcaf8937c49a7a8ba030d431d0882ec94b0b9aaa57bc5c67a", func := "gambrel/gambrellaw28.OccludeSides", spec := "occludeSides", unfollowed := true, recurses := true, apart := false, narrowed := true }
def OccludeSidesUptoSaid : Prop := occludeSidesUptoRow.holds Tryz.pinned (OpenSpec.upto occludeSidesSpec)

/-- 'gambrellaw28.OccludeRelates', WHERE WHAT IT READS IS OF BULK AT MOST 1048576: true; the input reads as it did. -/
def occludeRelatesUptoRow : OpenClaim := { program := "ytpeijliglmfhnaagreat", sum := "c1e996f2fe0dcaabcaf8937c49a7a8ba030d431d0882ec94b0b9aaa57bc5c67a", func := "gambrel/gambrellaw28.OccludeRelates", spec := "occludeRelates", unfollowed := true, recurses := true, apart := false, narrowed := true }
def OccludeRelatesUptoSaid : Prop := occludeRelatesUptoRow.holds Tryz.pinned (OpenSpec.upto occludeRelatesSpec)

/-- 'gambrellaw28.OccludeNears', WHERE WHAT IT READS IS OF BULK AT MOST 1048576: true; the input reads as it did. -/
def occludeNearsUptoRow : OpenClaim := { program := "ytpeijliglmfhnaagreat", sum := "c1e996f2fe0dcaabcaf8937c49a7a8ba030d431d0882ec94b0b9aaa57bc5c67a", func := "gambrel/gambrellaw28.OccludeNears", spec := "occludeNears", unfollowed := true, recurses := true, apart := false, narrowed := true }
def OccludeNearsUptoSaid : Prop := occludeNearsUptoRow.holds Tryz.pinned (OpenSpec.upto occludeNearsSpec)

/-- 'gambrellaw28.OccludeTurns', WHERE WHAT IT READS IS OF BULK AT MOST 1048576: true; the input reads as it did. -/
def occludeTurnsUptoRow : OpenClaim := { program := "ytpeijliglmfhnaagreat", sum := "c1e996f2fe0dcaabcaf8937c49a7a8ba030d431d0882ec94b0b9aaa57bc5c67a", func := "gambrel/gambrellaw28.OccludeTurns", spec := "occludeTurns", unfollowed := true, recurses := true, apart := false, narrowed := true }
def OccludeTurnsUptoSaid : Prop := occludeTurnsUptoRow.holds Tryz.pinned (OpenSpec.upto occludeTurnsSpec)

/-- 'gambrellaw28.OccludeMutual', WHERE WHAT IT READS IS OF BULK AT MOST 1048576: true; the input reads as it did. -/
def occludeMutualUptoRow : OpenClaim := { program := "ytpeijliglmfhnaagreat", sum := "c1e996f2fe0dcaabcaf8937c49a7a8ba030d431d0882ec94b0b9aaa57bc5c67a", func := "gambrel/gambrellaw28.OccludeMutual", spec := "occludeMutual", unfollowed := true, recurses := true, apart := false, narrowed := true }
def OccludeMutualUptoSaid : Prop := occludeMutualUptoRow.holds Tryz.pinned (OpenSpec.upto occludeMutualSpec)

end Rows
end Go.Proofs.YtpeijliglmfhnaaGreat
