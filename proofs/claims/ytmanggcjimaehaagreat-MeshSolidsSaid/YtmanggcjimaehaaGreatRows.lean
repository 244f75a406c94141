/-
  No cell of these rows narrows 'for every input' (looked for: loops, veiled, ifaces, maps, wideKeys, modest, calm, conditions, laid).
  DERIVED. THE GIVEN ROWS OF THIS SEAT. 10 by the template 'for every input the law returns true; each argument reads behind the call as it read before'; 0 by the template 'total and deterministic' (their statements: YtmanggcjimaehaaGreatTotals.lean).
  GIVEN WITH THE SEED: the statements are not yours to turn. If you find one false, say at which input.
  Laid BY PROGRAM, IN A SANDBOX (cutbox-rows.mjs): the forced cells as the released guide's own fill.sh prints them over the translation 8b561bb65918be16… (all of the seat's roots in one cut). By AI agents, Wed Nov 11 2026. No macro, syntax, notation, axiom, sorry.
-/
import Derived.Test.YtmanggcjimaehaaGreatChecked
import GoSem.Claim
import GoSem.ClaimJoined
import GoSem.ClaimMapViews
import Derived.JoinedTies
import Derived.KernelRfl
namespace Go.Proofs.YtmanggcjimaehaaGreat
/- THE CELL 'sum', in the pinned program and in every row, IS THE sha256 OF THE DUMP (.gsa) THAT YtmanggcjimaehaaGreatProg.lean LOADS. Nothing in Lean hashes anything: it is a label: what it is worth is what the hold of that sum in a sandbox is worth. -/
noncomputable def Tryz.pinned : Pinned := { name := "ytmanggcjimaehaagreat", sum := "8b561bb65918be1686393e9d56208a42905addaedcbecef7121355b732720c85", checked := Tryz.checked }
namespace Rows
def none {H : Type} : Left H := { results := [], args := [] }

/-- 'gambrellaw19.MeshMakes': WHATEVER THE INPUT: true; the input reads as it did. -/
def meshMakesSpec : ChangeSpec := { name := "meshMakes", fn := fun _ => fun
  | [d] => { results := [.lit (.bool true)], args := [d] }
  | _ => none }
def meshMakesRow : OpenClaim := { program := "ytmanggcjimaehaagreat", sum := "8b561bb65918be1686393e9d56208a42905addaedcbecef7121355b732720c85", func := "gambrel/gambrellaw19.MeshMakes", spec := "meshMakes", unfollowed := true, recurses := true, apart := false }
def MeshMakesSaid : Prop := meshMakesRow.holds Tryz.pinned (OpenSpec.ofChange meshMakesSpec)

/-- ITS FALSE NEIGHBOUR: 'it returns false'. Refute it at one input. -/
def meshMakesWrong : ChangeSpec := { name := "meshMakes", fn := fun _ => fun
  | [d] => { results := [.lit (.bool false)], args := [d] }
  | _ => none }
def MeshMakesWrongFalsely : Prop := meshMakesRow.holds Tryz.pinned (OpenSpec.ofChange meshMakesWrong)

/-- 'gambrellaw19.MeshSolids': WHATEVER THE INPUT: true; the input reads as it did. -/
def meshSolidsSpec : ChangeSpec := { name := "meshSolids", fn := fun _ => fun
  | [d] => { results := [.lit (.bool true)], args := [d] }
  | _ => none }
def meshSolidsRow : OpenClaim := { program := "ytmanggcjimaehaagreat", sum := "8b561bb65918be1686393e9d56208a42905addaedcbecef7121355b732720c85", func := "gambrel/gambrellaw19.MeshSolids", spec := "meshSolids", unfollowed := true, recurses := true, apart := false }
def MeshSolidsSaid : Prop := meshSolidsRow.holds Tryz.pinned (OpenSpec.ofChange meshSolidsSpec)

/-- ITS FALSE NEIGHBOUR: 'it returns false'. Refute it at one input. -/
def meshSolidsWrong : ChangeSpec := { name := "meshSolids", fn := fun _ => fun
  | [d] => { results := [.lit (.bool false)], args := [d] }
  | _ => none }
def MeshSolidsWrongFalsely : Prop := meshSolidsRow.holds Tryz.pinned (OpenSpec.ofChange meshSolidsWrong)

/-- 'gambrellaw28.OccludeVolumes': WHATEVER THE INPUT: true; the input reads as it did. -/
def occludeVolumesSpec : ChangeSpec := { name := "occludeVolumes", fn := fun _ => fun
  | [d1, d2] => { results := [.lit (.bool true)], args := [d1, d2] }
  | _ => none }
def occludeVolumesRow : OpenClaim := { program := "ytmanggcjimaehaagreat", sum := "8b561bb65918be1686393e9d56208a42905addaedcbecef7121355b732720c85", func := "gambrel/gambrellaw28.OccludeVolumes", spec := "occludeVolumes", unfollowed := true, recurses := true, apart := false }
def OccludeVolumesSaid : Prop := occludeVolumesRow.holds Tryz.pinned (OpenSpec.ofChange occludeVolumesSpec)

/-- ITS FALSE NEIGHBOUR: 'it returns false'. Refute it at one input. -/
def occludeVolumesWrong : ChangeSpec := { name := "occludeVolumes", fn := fun _ => fun
  | [d1, d2] => { results := [.lit (.bool false)], args := [d1, d2] }
  | _ => none }
def OccludeVolumesWrongFalsely : Prop := occludeVolumesRow.holds Tryz.pinned (OpenSpec.ofChange occludeVolumesWrong)

/-- 'gambrellaw28.OccludeSurface': WHATEVER THE INPUT: true; the input reads as it did. -/
def occludeSurfaceSpec : ChangeSpec := { name := "occludeSurface", fn := fun _ => fun
  | [d1, d2] => { results := [.lit (.bool true)], args := [d1, d2] }
  | _ => none }
def occludeSurfaceRow : OpenClaim := { program := "ytmanggcjimaehaagreat", sum := "8b561bb65918be1686393e9d56208a42905addaedcbecef7121355b732720c85", func := "gambrel/gambrellaw28.OccludeSurface", spec := "occludeSurface", unfollowed := true, recurses := true, apart := false }
def OccludeSurfaceSaid : Prop := occludeSurfaceRow.holds Tryz.pinned (OpenSpec.ofChange occludeSurfaceSpec)

/-- ITS FALSE NEIGHBOUR: 'it returns false'. Refute it at one input. -/
def occludeSurfaceWrong : ChangeSpec := { name := "occludeSurface", fn := fun _ => fun
  | [d1, d2] => { results := [.lit (.bool false)], args := [d1, d2] }
  | _ => none }
def OccludeSurfaceWrongFalsely : Prop := occludeSurfaceRow.holds Tryz.pinned (OpenSpec.ofChange occludeSurfaceWrong)

/-- 'gambrellaw19.MeshBack': WHATEVER THE INPUT: true; the input reads as it did. -/
def meshBackSpec : ChangeSpec := { name := "meshBack", fn := fun _ => fun
  | [d] => { results := [.lit (.bool true)], args := [d] }
  | _ => none }
def meshBackRow : OpenClaim := { program := "ytmanggcjimaehaagreat", sum := "8b561bb65918be1686393e9d56208a42905addaedcbecef7121355b732720c85", func := "gambrel/gambrellaw19.MeshBack", spec := "meshBack", unfollowed := true, recurses := true, apart := false }
def MeshBackSaid : Prop := meshBackRow.holds Tryz.pinned (OpenSpec.ofChange meshBackSpec)

/-- ITS FALSE NEIGHBOUR: 'it returns false'. Refute it at one input. -/
def meshBackWrong : ChangeSpec := { name := "meshBack", fn := fun _ => fun
  | [d] => { results := [.lit (.bool false)], args := [d] }
  | _ => none }
def MeshBackWrongFalsely : Prop := meshBackRow.holds Tryz.pinned (OpenSpec.ofChange meshBackWrong)

/-- 'gambrellaw19.MeshFaces': WHATEVER THE INPUT: true; the input reads as it did. -/
def meshFacesSpec : ChangeSpec := { name := "meshFaces", fn := fun _ => fun
  | [d1, d2, d3] => { results := [.lit (.bool true)], args := [d1, d2, d3] }
  | _ => none }
def meshFacesRow : OpenClaim := { program := "ytmanggcjimaehaagreat", sum := "8b561bb65918be1686393e9d56208a42905addaedcbecef7121355b732720c85", func := "gambrel/gambrellaw19.MeshFaces", spec := "meshFaces", unfollowed := true, recurses := true, apart := false }
def MeshFacesSaid : Prop := meshFacesRow.holds Tryz.pinned (OpenSpec.ofChange meshFacesSpec)

/-- ITS FALSE NEIGHBOUR: 'it returns false'. Refute it at one input. -/
def meshFacesWrong : ChangeSpec := { name := "meshFaces", fn := fun _ => fun
  | [d1, d2, d3] => { results := [.lit (.bool false)], args := [d1, d2, d3] }
  | _ => none }
def MeshFacesWrongFalsely : Prop := meshFacesRow.holds Tryz.pinned (OpenSpec.ofChange meshFacesWrong)

/-- 'gambrellaw19.MeshOrder': WHATEVER THE INPUT: true; the input reads as it did. -/
def meshOrderSpec : ChangeSpec := { name := "meshOrder", fn := fun _ => fun
  | [d1, d2] => { results := [.lit (.bool true)], args := [d1, d2] }
  | _ => none }
def meshOrderRow : OpenClaim := { program := "ytmanggcjimaehaagreat", sum := "8b561bb65918be1686393e9d56208a42905addaedcbecef7121355b732720c85", func := "gambrel/gambrellaw19.MeshOrder", spec := "meshOrder", unfollowed := true, recurses := true, apart := false }
def MeshOrderSaid : Prop := meshOrderRow.holds Tryz.pinned (OpenSpec.ofChange meshOrderSpec)

/-- ITS FALSE NEIGHBOUR: 'it returns false'. Refute it at one input. -/
def meshOrderWrong : ChangeSpec := { name := "meshOrder", fn := fun _ => fun
  | [d1, d2] => { results := [.lit (.bool false)], args := [d1, d2] }
  | _ => none }
def MeshOrderWrongFalsely : Prop := meshOrderRow.holds Tryz.pinned (OpenSpec.ofChange meshOrderWrong)

/-- 'gambrellaw19.MeshNames': WHATEVER THE INPUT: true; the input reads as it did. -/
def meshNamesSpec : ChangeSpec := { name := "meshNames", fn := fun _ => fun
  | [] => { results := [.lit (.bool true)], args := [] }
  | _ => none }
def meshNamesRow : OpenClaim := { program := "ytmanggcjimaehaagreat", sum := "8b561bb65918be1686393e9d56208a42905addaedcbecef7121355b732720c85", func := "gambrel/gambrellaw19.MeshNames", spec := "meshNames", unfollowed := true, recurses := true, apart := false }
def MeshNamesSaid : Prop := meshNamesRow.holds Tryz.pinned (OpenSpec.ofChange meshNamesSpec)

/-- ITS FALSE NEIGHBOUR: 'it returns false'. Refute it at one input. -/
def meshNamesWrong : ChangeSpec := { name := "meshNames", fn := fun _ => fun
  | [] => { results := [.lit (.bool false)], args := [] }
  | _ => none }
def MeshNamesWrongFalsely : Prop := meshNamesRow.holds Tryz.pinned (OpenSpec.ofChange meshNamesWrong)

/-- 'gambrellaw19.MeshClosed': WHATEVER THE INPUT: true; the input reads as it did. -/
def meshClosedSpec : ChangeSpec := { name := "meshClosed", fn := fun _ => fun
  | [d] => { results := [.lit (.bool true)], args := [d] }
  | _ => none }
def meshClosedRow : OpenClaim := { program := "ytmanggcjimaehaagreat", sum := "8b561bb65918be1686393e9d56208a42905addaedcbecef7121355b732720c85", func := "gambrel/gambrellaw19.MeshClosed", spec := "meshClosed", unfollowed := true, recurses := true, apart := false }
def MeshClosedSaid : Prop := meshClosedRow.holds Tryz.pinned (OpenSpec.ofChange meshClosedSpec)

/-- ITS FALSE NEIGHBOUR: 'it returns false'. Refute it at one input. -/
def meshClosedWrong : ChangeSpec := { name := "meshClosed", fn := fun _ => fun
  | [d] => { results := [.lit (.bool false)], args := [d] }
  | _ => none }
def MeshClosedWrongFalsely : Prop := meshClosedRow.holds Tryz.pinned (OpenSpec.ofChange meshClosedWrong)

/-- 'gambrellaw19.MeshPinches': WHATEVER THE INPUT: true; the input reads as it did. -/
def meshPinchesSpec : ChangeSpec := { name := "meshPinches", fn := fun _ => fun
  | [d1, d2] => { results := [.lit (.bool true)], args := [d1, d2] }
  | _ => none }
def meshPinchesRow : OpenClaim := { program := "ytmanggcjimaehaagreat", sum := "8b561bb65918be1686393e9d56208a42905addaedcbecef7121355b732720c85", func := "gambrel/gambrellaw19.MeshPinches", spec := "meshPinches", unfollowed := true, recurses := true, apart := false }
def MeshPinchesSaid : Prop := meshPinchesRow.holds Tryz.pinned (OpenSpec.ofChange meshPinchesSpec)

/-- ITS FALSE NEIGHBOUR: 'it returns false'. Refute it at one input. -/
def meshPinchesWrong : ChangeSpec := { name := "meshPinches", fn := fun _ => fun
  | [d1, d2] => { results := [.lit (.bool false)], args := [d1, d2] }
  | _ => none }
def MeshPinchesWrongFalsely : Prop := meshPinchesRow.holds Tryz.pinned (OpenSpec.ofChange meshPinchesWrong)

/- THE SECOND FORM. 'bulk': how many values and letters a reading holds, each counted each time it is reached (what is shared counts as often as it is met; a slice's spare places count too). A statement '..UptoSaid' is the law's where the arguments, and the package variables that the reading takes, are together of bulk at most 1048576: NARROWER than '..Said'. Prove '..Said' where nothing that the law and all that it calls make is longer than what came in: it says more and counts as full. Else prove '..UptoSaid'. A law counts once. -/
mutual
def uptoBulk {H : Type} : DataW H → Nat
  | .lit (.string bytes) => bytes.length + 1
  | .lit _ => 1
  | .nil => 1
  | .ptr d => uptoBulk d + 1
  | .slice elems spare => uptoBulkAll elems + uptoBulkAll spare + 1
  | .agg parts => uptoBulkAll parts + 1
  | .iface _ d => uptoBulk d + 1
  | .map entries => uptoBulkEntries entries + 1
  | .held _ => 1
def uptoBulkAll {H : Type} : List (DataW H) → Nat
  | [] => 0
  | d :: r => uptoBulk d + uptoBulkAll r
def uptoBulkEntries {H : Type} : List (Lit × DataW H) → Nat
  | [] => 0
  | x :: r => uptoBulkEntry x + uptoBulkEntries r
def uptoBulkEntry {H : Type} : Lit × DataW H → Nat
  | (.string bytes, d) => bytes.length + uptoBulk d + 1
  | (_, d) => uptoBulk d + 1
 end
def uptoSmall : (H : Type) → List (DataW H) → Bool := fun _ ds => decide (uptoBulkAll ds ≤ 1048576)
def OpenSpec.upto (s : _root_.Go.ChangeSpec) : _root_.Go.OpenSpec := { _root_.Go.OpenSpec.ofChange s with cond := some uptoSmall }

/-- 'gambrellaw19.MeshMakes', WHERE WHAT IT READS IS OF BULK AT MOST 1048576: true; the input reads as it did. -/
def meshMakesUptoRow : OpenClaim := { program := "ytmanggcjimaehaagreat", sum := "8b561bb65918be1686393e9d56208a42905addaedcbecef7121355b732720c85", func := "gambrel/gambrellaw19.MeshMakes", spec := "meshMakes", unfollowed := true, recurses := true, apart := false, narrowed := true }
def MeshMakesUptoSaid : Prop := meshMakesUptoRow.holds Tryz.pinned (OpenSpec.upto meshMakesSpec)

/-- 'gambrellaw19.MeshSolids', WHERE WHAT IT READS IS OF BULK AT MOST 1048576: true; the input reads as it did. -/
def meshSolidsUptoRow : OpenClaim := { program := "ytmanggcjimaehaagreat", sum := "8b561bb65918be1686393e9d56208a42905addaedcbecef7121355b732720c85", func := "gambrel/gambrellaw19.MeshSolids", spec := "meshSolids", unfollowed := true, recurses := true, apart := false, narrowed := true }
def MeshSolidsUptoSaid : Prop := meshSolidsUptoRow.holds Tryz.pinned (OpenSpec.upto meshSolidsSpec)

/-- 'gambrellaw28.OccludeVolumes', WHERE WHAT IT READS IS OF BULK AT MOST 1048576: true; the input reads as it did. -/
def occludeVolumesUptoRow : OpenClaim := { program := "ytmanggcjimaehaagreat", sum := "8b561bb65918be1686393e9d56208a42905addaedcbecef7121355b732720c85", func := "gambrel/gambrellaw28.OccludeVolumes", spec := "occludeVolumes", unfollowed := true, recurses := true, apart := false, narrowed := true }
def OccludeVolumesUptoSaid : Prop := occludeVolumesUptoRow.holds Tryz.pinned (OpenSpec.upto occludeVolumesSpec)

/-- 'gambrellaw28.OccludeSurface', WHERE WHAT IT READS IS OF BULK AT MOST 1048576: true; the input reads as it did. -/
def occludeSurfaceUptoRow : OpenClaim := { program := "ytmanggcjimaehaagreat", sum := "8b561bb65918be1686393e9d56208a42905addaedcbecef7121355b732720c85", func := "gambrel/gambrellaw28.OccludeSurface", spec := "occludeSurface", unfollowed := true, recurses := true, apart := false, narrowed := true }
def OccludeSurfaceUptoSaid : Prop := occludeSurfaceUptoRow.holds Tryz.pinned (OpenSpec.upto occludeSurfaceSpec)

/-- 'gambrellaw19.MeshBack', WHERE WHAT IT READS IS OF BULK AT MOST 1048576: true; the input reads as it did. -/
def meshBackUptoRow : OpenClaim := { program := "ytmanggcjimaehaagreat", sum := "8b561bb65918be1686393e9d56208a42905addaedcbecef7121355b732720c85", func := "gambrel/gambrellaw19.MeshBack", spec := "meshBack", unfollowed := true, recurses := true, apart := false, narrowed := true }
def MeshBackUptoSaid : Prop := meshBackUptoRow.holds Tryz.pinned (OpenSpec.upto meshBackSpec)

/-- 'gambrellaw19.MeshFaces', WHERE WHAT IT READS IS OF BULK AT MOST 1048576: true; the input reads as it did. -/
def meshFacesUptoRow : OpenClaim := { program := "ytmanggcjimaehaagreat", sum := "8b561bb65918be1686393e9d56208a42905addaedcbecef7121355b732720c85", func := "gambrel/gambrellaw19.MeshFaces", spec := "meshFaces", unfollowed := true, recurses := true, apart := false, narrowed := true }
def MeshFacesUptoSaid : Prop := meshFacesUptoRow.holds Tryz.pinned (OpenSpec.upto meshFacesSpec)

/-- 'gambrellaw19.MeshOrder', WHERE WHAT IT READS IS OF BULK AT MOST 1048576: true; the input reads as it did. -/
def meshOrderUptoRow : OpenClaim := { program := "ytmanggcjimaehaagreat", sum := "8b561bb65918be1686393e9d56208a42905addaedcbecef7121355b732720c85", func := "gambrel/gambrellaw19.MeshOrder", spec := "meshOrder", unfollowed := true, recurses := true, apart := false, narrowed := true }
def MeshOrderUptoSaid : Prop := meshOrderUptoRow.holds Tryz.pinned (OpenSpec.upto meshOrderSpec)

/-- 'gambrellaw19.MeshNames', WHERE WHAT IT READS IS OF BULK AT MOST 1048576: true; the input reads as it did. -/
def meshNamesUptoRow : OpenClaim := { program := "ytmanggcjimaehaagreat", sum := "8b561bb65918be1686393e9d56208a42905addaedcbecef7121355b732720c85", func := "gambrel/gambrellaw19.MeshNames", spec := "meshNames", unfollowed := true, recurses := true, apart := false, narrowed := true }
def MeshNamesUptoSaid : Prop := meshNamesUptoRow.holds Tryz.pinned (OpenSpec.upto meshNamesSpec)

/-- 'gambrellaw19.MeshClosed', WHERE WHAT IT READS IS OF BULK AT MOST 1048576: true; the input reads as it did. -/
def meshClosedUptoRow : OpenClaim := { program := "ytmanggcjimaehaagreat", sum := "8b561bb65918be1686393e9d56208a42905addaedcbecef7121355b732720c85", func := "gambrel/gambrellaw19.MeshClosed", spec := "meshClosed", unfollowed := true, recurses := true, apart := false, narrowed := true }
def MeshClosedUptoSaid : Prop := meshClosedUptoRow.holds Tryz.pinned (OpenSpec.upto meshClosedSpec)

/-- 'gambrellaw19.MeshPinches', WHERE WHAT IT READS IS OF BULK AT MOST 1048576: true; the input reads as it did. -/
def meshPinchesUptoRow : OpenClaim := { program := "ytmanggcjimaehaagreat", sum := "8b561bb65918be1686393e9d56208a42905addaedcbecef7121355b732720c85", func := "gambrel/gambrellaw19.MeshPinches", spec := "meshPinches", unfollowed := true, recurses := true, apart := false, narrowed := true }
def MeshPinchesUptoSaid : Prop := meshPinchesUptoRow.holds Tryz.pinned (OpenSpec.upto meshPinchesSpec)

end Rows
end Go.Proofs.YtmanggcjimaehaaGreat
