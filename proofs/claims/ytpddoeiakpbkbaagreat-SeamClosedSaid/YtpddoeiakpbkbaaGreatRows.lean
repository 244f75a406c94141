/-
  No cell of these rows narrows 'for every input' (looked for: loops, veiled, ifaces, maps, wideKeys, modest, calm, conditions, laid).
  DERIVED. THE GIVEN ROWS OF THIS SEAT. 6 by the template 'for every input the law returns true; each argument reads behind the call as it read before'; 0 by the template 'total and deterministic' (their statements: YtpddoeiakpbkbaaGreatTotals.lean).
  GIVEN WITH THE SEED: the statements are not yours to turn. If you find one false, say at which input.
  Laid BY PROGRAM, IN A SANDBOX (cutbox-rows.mjs): the forced cells as the released guide's own fill.sh prints them over the translation 7ab5ecbfc17348de… (all of the seat's roots in one cut). By AI agents, Wed Nov 11 2026. No macro, syntax, notation, axiom, sorry.
-/
import Derived.Test.YtpddoeiakpbkbaaGreatChecked
import GoSem.Claim
import GoSem.ClaimJoined
import GoSem.ClaimMapViews
import Derived.JoinedTies
import Derived.KernelRfl
namespace Go.Proofs.YtpddoeiakpbkbaaGreat
/- THE CELL 'sum', in the pinned program and in every row, IS THE sha256 OF THE DUMP (.gsa) THAT YtpddoeiakpbkbaaGreatProg.lean LOADS. Nothing in Lean hashes anything: it is a label: what it is worth is what the hold of that sum in a sandbox is worth. -/
noncomputable def Tryz.pinned : Pinned := { name := "ytpddoeiakpbkbaagreat", sum := "7ab5ecbfc17348de900d06f04b994b7c883d4689a22b6cc1cea6942991b2b6f3", checked := Tryz.checked }
namespace Rows
def none {H : Type} : Left H := { results := [], args := [] }

/-- 'gambrellaw40.SeamLevels': WHATEVER THE INPUT: true; the input reads as it did. -/
def seamLevelsSpec : ChangeSpec := { name := "seamLevels", fn := fun _ => fun
  | [d1, d2, d3] => { results := [.lit (.bool true)], args := [d1, d2, d3] }
  | _ => none }
def seamLevelsRow : OpenClaim := { program := "ytpddoeiakpbkbaagreat", sum := "7ab5ecbfc17348de900d06f04b994b7c883d4689a22b6cc1cea6942991b2b6f3", func := "gambrel/gambrellaw40.SeamLevels", spec := "seamLevels", unfollowed := true, recurses := true, apart := false }
def SeamLevelsSaid : Prop := seamLevelsRow.holds Tryz.pinned (OpenSpec.ofChange seamLevelsSpec)

/-- ITS FALSE NEIGHBOUR: 'it returns false'. Refute it at one input. -/
def seamLevelsWrong : ChangeSpec := { name := "seamLevels", fn := fun _ => fun
  | [d1, d2, d3] => { results := [.lit (.bool false)], args := [d1, d2, d3] }
  | _ => none }
def SeamLevelsWrongFalsely : Prop := seamLevelsRow.holds Tryz.pinned (OpenSpec.ofChange seamLevelsWrong)

/-- 'gambrellaw40.SeamSkins': WHATEVER THE INPUT: true; the input reads as it did. -/
def seamSkinsSpec : ChangeSpec := { name := "seamSkins", fn := fun _ => fun
  | [d1, d2, d3] => { results := [.lit (.bool true)], args := [d1, d2, d3] }
  | _ => none }
def seamSkinsRow : OpenClaim := { program := "ytpddoeiakpbkbaagreat", sum := "7ab5ecbfc17348de900d06f04b994b7c883d4689a22b6cc1cea6942991b2b6f3", func := "gambrel/gambrellaw40.SeamSkins", spec := "seamSkins", unfollowed := true, recurses := true, apart := false }
def SeamSkinsSaid : Prop := seamSkinsRow.holds Tryz.pinned (OpenSpec.ofChange seamSkinsSpec)

/-- ITS FALSE NEIGHBOUR: 'it returns false'. Refute it at one input. -/
def seamSkinsWrong : ChangeSpec := { name := "seamSkins", fn := fun _ => fun
  | [d1, d2, d3] => { results := [.lit (.bool false)], args := [d1, d2, d3] }
  | _ => none }
def SeamSkinsWrongFalsely : Prop := seamSkinsRow.holds Tryz.pinned (OpenSpec.ofChange seamSkinsWrong)

/-- 'gambrellaw40.SeamSteps': WHATEVER THE INPUT: true; the input reads as it did. -/
def seamStepsSpec : ChangeSpec := { name := "seamSteps", fn := fun _ => fun
  | [d1, d2, d3, d4, d5] => { results := [.lit (.bool true)], args := [d1, d2, d3, d4, d5] }
  | _ => none }
def seamStepsRow : OpenClaim := { program := "ytpddoeiakpbkbaagreat", sum := "7ab5ecbfc17348de900d06f04b994b7c883d4689a22b6cc1cea6942991b2b6f3", func := "gambrel/gambrellaw40.SeamSteps", spec := "seamSteps", unfollowed := true, recurses := true, apart := false }
def SeamStepsSaid : Prop := seamStepsRow.holds Tryz.pinned (OpenSpec.ofChange seamStepsSpec)

/-- ITS FALSE NEIGHBOUR: 'it returns false'. Refute it at one input. -/
def seamStepsWrong : ChangeSpec := { name := "seamSteps", fn := fun _ => fun
  | [d1, d2, d3, d4, d5] => { results := [.lit (.bool false)], args := [d1, d2, d3, d4, d5] }
  | _ => none }
def SeamStepsWrongFalsely : Prop := seamStepsRow.holds Tryz.pinned (OpenSpec.ofChange seamStepsWrong)

/-- 'gambrellaw40.SeamAlone': WHATEVER THE INPUT: true; the input reads as it did. -/
def seamAloneSpec : ChangeSpec := { name := "seamAlone", fn := fun _ => fun
  | [d1, d2] => { results := [.lit (.bool true)], args := [d1, d2] }
  | _ => none }
def seamAloneRow : OpenClaim := { program := "ytpddoeiakpbkbaagreat", sum := "7ab5ecbfc17348de900d06f04b994b7c883d4689a22b6cc1cea6942991b2b6f3", func := "gambrel/gambrellaw40.SeamAlone", spec := "seamAlone", unfollowed := true, recurses := true, apart := false }
def SeamAloneSaid : Prop := seamAloneRow.holds Tryz.pinned (OpenSpec.ofChange seamAloneSpec)

/-- ITS FALSE NEIGHBOUR: 'it returns false'. Refute it at one input. -/
def seamAloneWrong : ChangeSpec := { name := "seamAlone", fn := fun _ => fun
  | [d1, d2] => { results := [.lit (.bool false)], args := [d1, d2] }
  | _ => none }
def SeamAloneWrongFalsely : Prop := seamAloneRow.holds Tryz.pinned (OpenSpec.ofChange seamAloneWrong)

/-- 'gambrellaw40.SeamOthers': WHATEVER THE INPUT: true; the input reads as it did. -/
def seamOthersSpec : ChangeSpec := { name := "seamOthers", fn := fun _ => fun
  | [d1, d2, d3] => { results := [.lit (.bool true)], args := [d1, d2, d3] }
  | _ => none }
def seamOthersRow : OpenClaim := { program := "ytpddoeiakpbkbaagreat", sum := "7ab5ecbfc17348de900d06f04b994b7c883d4689a22b6cc1cea6942991b2b6f3", func := "gambrel/gambrellaw40.SeamOthers", spec := "seamOthers", unfollowed := true, recurses := true, apart := false }
def SeamOthersSaid : Prop := seamOthersRow.holds Tryz.pinned (OpenSpec.ofChange seamOthersSpec)

/-- ITS FALSE NEIGHBOUR: 'it returns false'. Refute it at one input. -/
def seamOthersWrong : ChangeSpec := { name := "seamOthers", fn := fun _ => fun
  | [d1, d2, d3] => { results := [.lit (.bool false)], args := [d1, d2, d3] }
  | _ => none }
def SeamOthersWrongFalsely : Prop := seamOthersRow.holds Tryz.pinned (OpenSpec.ofChange seamOthersWrong)

/-- 'gambrellaw40.SeamClosed': WHATEVER THE INPUT: true; the input reads as it did. -/
def seamClosedSpec : ChangeSpec := { name := "seamClosed", fn := fun _ => fun
  | [d1, d2, d3, d4, d5] => { results := [.lit (.bool true)], args := [d1, d2, d3, d4, d5] }
  | _ => none }
def seamClosedRow : OpenClaim := { program := "ytpddoeiakpbkbaagreat", sum := "7ab5ecbfc17348de900d06f04b994b7c883d4689a22b6cc1cea6942991b2b6f3", func := "gambrel/gambrellaw40.SeamClosed", spec := "seamClosed", unfollowed := true, recurses := true, apart := false }
def SeamClosedSaid : Prop := seamClosedRow.holds Tryz.pinned (OpenSpec.ofChange seamClosedSpec)

/-- ITS FALSE NEIGHBOUR: 'it returns false'. Refute it at one input. -/
def seamClosedWrong : ChangeSpec := { name := "seamClosed", fn := fun _ => fun
  | [d1, d2, d3, d4, d5] => { results := [.lit (.bool false)], args := [d1, d2, d3, d4, d5] }
  | _ => none }
def SeamClosedWrongFalsely : Prop := seamClosedRow.holds Tryz.pinned (OpenSpec.ofChange seamClosedWrong)

/- THE SECOND FORM. 'bulk': how many values and letters a reading holds, each counted each time it is reached (what is shared counts as often as it is met; a slice's spare places count too). A statement '..UptoSaid' is the law's where the arguments, and the package variables that the reading takes, are together of bulk at most 1048576: NARROWER than '..Said'. Prove '..Said' where nothing that the law and all that it calls make is longer than what came in: it says more and counts as full. Else prove '..UptoSaid'. A law counts once. -/
mutual
def uptoBulk {H : Type} : DataW H → Nat
  | .lit (.string bytes) => bytes.length + 1
  | .lit _ => 1
  | .nil => 1
  | .ptr d => uptoBulk d + 1
  | .slice elems spare => uptoBulkAll elems + uptoBulkAll spare + 1
  | .agg parts => uptoBulkAll parts + 1
  | .iface _ d => uptoBulk d + 1
  | .map entries => uptoBulkEntries entries + 1
  | .held _ => 1
def uptoBulkAll {H : Type} : List (DataW H) → Nat
  | [] => 0
  | d :: r => uptoBulk d + uptoBulkAll r
def uptoBulkEntries {H : Type} : List (Lit × DataW H) → Nat
  | [] => 0
  | x :: r => uptoBulkEntry x + uptoBulkEntries r
def uptoBulkEntry {H : Type} : Lit × DataW H → Nat
  | (.string bytes, d) => bytes.length + uptoBulk d + 1
  | (_, d) => uptoBulk d + 1
 end
def uptoSmall : (H : Type) → List (DataW H) → Bool := fun _ ds => decide (uptoBulkAll ds ≤ 1048576)
def OpenSpec.upto (s : _root_.Go.ChangeSpec) : _root_.Go.OpenSpec := { _root_.Go.OpenSpec.ofChange s with cond := some uptoSmall }

/-- 'gambrellaw40.SeamLevels', WHERE WHAT IT READS IS OF BULK AT MOST 1048576: true; the input reads as it did. -/
def seamLevelsUptoRow : OpenClaim := { program := "ytpddoeiakpbkbaagreat", sum := "7ab5ecbfc17348de900d06f04b994b7c883d4689a22b6cc1cea6942991b2b6f3", func := "gambrel/gambrellaw40.SeamLevels", spec := "seamLevels", unfollowed := true, recurses := true, apart := false, narrowed := true }
def SeamLevelsUptoSaid : Prop := seamLevelsUptoRow.holds Tryz.pinned (OpenSpec.upto seamLevelsSpec)

/-- 'gambrellaw40.SeamSkins', WHERE WHAT IT READS IS OF BULK AT MOST 1048576: true; the input reads as it did. -/
def seamSkinsUptoRow : OpenClaim := { program := "ytpddoeiakpbkbaagreat", sum := "7ab5ecbfc17348de900d06f04b994b7c883d4689a22b6cc1cea6942991b2b6f3", func := "gambrel/gambrellaw40.SeamSkins", spec := "seamSkins", unfollowed := true, recurses := true, apart := false, narrowed := true }
def SeamSkinsUptoSaid : Prop := seamSkinsUptoRow.holds Tryz.pinned (OpenSpec.upto seamSkinsSpec)

/-- 'gambrellaw40.SeamSteps', WHERE WHAT IT READS IS OF BULK AT MOST 1048576: true; the input reads as it did. -/
def seamStepsUptoRow : OpenClaim := { program := "ytpddoeiakpbkbaagreat", sum := "7ab5ecbfc17348de900d06f04b994b7c883d4689a22b6cc1cea6942991b2b6f3", func := "gambrel/gambrellaw40.SeamSteps", spec := "seamSteps", unfollowed := true, recurses := true, apart := false, narrowed := true }
def SeamStepsUptoSaid : Prop := seamStepsUptoRow.holds Tryz.pinned (OpenSpec.upto seamStepsSpec)

/-- 'gambrellaw40.SeamAlone', WHERE WHAT IT READS IS OF BULK AT MOST 1048576: true; the input reads as it did. -/
def seamAloneUptoRow : OpenClaim := { program := "ytpddoeiakpbkbaagreat", sum := "7ab5ecbfc17348de900d06f04b994b7c883d4689a22b6cc1cea6942991b2b6f3", func := "gambrel/gambrellaw40.SeamAlone", spec := "seamAlone", unfollowed := true, recurses := true, apart := false, narrowed := true }
def SeamAloneUptoSaid : Prop := seamAloneUptoRow.holds Tryz.pinned (OpenSpec.upto seamAloneSpec)

/-- 'gambrellaw40.SeamOthers', WHERE WHAT IT READS IS OF BULK AT MOST 1048576: true; the input reads as it did. -/
def seamOthersUptoRow : OpenClaim := { program := "ytpddoeiakpbkbaagreat", sum := "7ab5ecbfc17348de900d06f04b994b7c883d4689a22b6cc1cea6942991b2b6f3", func := "gambrel/gambrellaw40.SeamOthers", spec := "seamOthers", unfollowed := true, recurses := true, apart := false, narrowed := true }
def SeamOthersUptoSaid : Prop := seamOthersUptoRow.holds Tryz.pinned (OpenSpec.upto seamOthersSpec)

/-- 'gambrellaw40.SeamClosed', WHERE WHAT IT READS IS OF BULK AT MOST 1048576: true; the input reads as it did. -/
def seamClosedUptoRow : OpenClaim := { program := "ytpddoeiakpbkbaagreat", sum := "7ab5ecbfc17348de900d06f04b994b7c883d4689a22b6cc1cea6942991b2b6f3", func := "gambrel/gambrellaw40.SeamClosed", spec := "seamClosed", unfollowed := true, recurses := true, apart := false, narrowed := true }
def SeamClosedUptoSaid : Prop := seamClosedUptoRow.holds Tryz.pinned (OpenSpec.upto seamClosedSpec)

end Rows
end Go.Proofs.YtpddoeiakpbkbaaGreat
