/- The law MeshSolids holds: every call of it gives true, whatever its arguments. -/
import Derived.Test.YtmanggcjimaehaaGreatLh6
import Derived.Test.YtmanggcjimaehaaGreatRows
import Derived.WalkKit
import Derived.ProofKit
import Derived.OpenShut
import Derived.Below
import Derived.Carry
import Derived.ShutString
import Derived.ChangeOld
namespace Go.Proofs.YtmanggcjimaehaaGreat.meshSolids
open Go.ChangeShapes Go.WideShapes Go.ChangeAt Go.RowKit
set_option linter.unusedVariables false
theorem own : ownKnob Tryz.prog.godebug = none := by kernel_rfl
theorem laidOut : laidOutB Tryz.prog = true := by kernel_rfl
set_option maxRecDepth 100000 in
theorem lifted (os : Os) (started : os.Started) (H : Type) (enc : TypeId × Value → H) :
    ReturnsInHanded {} Tryz.checked os 4 .any (Rows.meshSolidsSpec.pre6 enc Tryz.prog Tryz.f4 Rows.meshSolidsRow.domain false) (Rows.meshSolidsSpec.post enc Tryz.prog Tryz.f4 false true false false) := by
  refine returnsInHanded_of_change (C := Tryz.checked) own started (by kernel_rfl) Tryz.func4
    (ChangeSpec.witness6 (enc := enc) (C := Tryz.checked) false ⟨#[], #[.slice none 0 0], []⟩ 8 (by kernel_rfl) (by kernel_rfl) (by kernel_rfl) (by kernel_rfl)) ?_
  intro W base args ds gs before hval0 hW hcnd _
  have hval : ∀ (j : Nat) t v, Tryz.f4.params[j]? = some t → args[j]? = some v → Value.okWide Tryz.prog W .any base t v := hval0
  have hW' := hW
  obtain ⟨p, q, hA0, hV, rfl, hfz, hnd⟩ := hW
  have hA : DataW.TrodAll enc Tryz.prog W 0 (fun _ => true) true Tryz.f4.params.toList args.toList ds p := hA0
  rw [Tryz.params4] at hA hval
  obtain ⟨v0, vs0, d0, ds0, p0, q0, hargs, rfl, rfl, h0, r0⟩ := trodAll_cons hA
  obtain ⟨rfl, rfl, rfl⟩ := trodAll_nil r0
  obtain rfl : args = #[v0] := by cases args; simp_all
  obtain ⟨rfl, rfl⟩ := trodVars_none hV
  have k0 := h0
  have lt0 : ∀ x ∈ p0, x.block < W.heap.size := by obtain ⟨m, hm⟩ := k0; exact DataW.trod_lt m _ _ _ hm
  obtain ⟨n0, c0, hrel0, hbd0, hmx0⟩ := Go.Am.open_dat (P := Tryz.prog) (t := 25) (e := 62) (ks := [.u8, .i64, .i64, .i64, .i64, .i64, .i64]) (by kernel_rfl) (by kernel_rfl) (hval 0 25 v0 rfl rfl) h0
  have rel0 := (Go.Am.asL_le (α := Go.Am.R7) (v := .dat n0 fun i => Go.Am.rowOf [.u8, .i64, .i64, .i64, .i64, .i64, .i64] (c0 i)) rfl (Go.Am.pd_true fun i _ => rfl)).sound hrel0
  have m0 := Go.Am.mck_lst c0 hbd0
  generalize Go.Am.lst (Go.Am.R7) n0 (fun i => Go.Am.rowOf [.u8, .i64, .i64, .i64, .i64, .i64, .i64] (c0 i)) = X0 at rel0 m0
  clear hA0 hval0
  obtain ⟨steps, hrun⟩ := Go.Am.msl_run X0 m0
  obtain ⟨C', hgo, hfin, hres⟩ := Go.Am.msl_ends X0 steps _ hrun
  refine (Go.Am.goes_call (H := fun k => W.heap[k]?) (by kernel_rfl) hgo hfin hres (vals := #[v0]) (.cons rel0 (.nil)) (fun k o h => h)).mono fun e W' ⟨ρ, u, he, ho⟩ => ?_
  subst he
  have hu := ho.val
  have bel := ho.below
  cases hu
  exact ⟨_, rfl, _, _, _, [], _, [], hW', trodAll_mk1 (shut_bool Tryz.underlying4 _), (trodAll_cons_mk (Below.trod laidOut (by kernel_rfl) (of_decide_eq_true (by kernel_rfl)) k0 bel lt0) trodAll_mk0), rfl, bel.frame _, fun h => by cases h⟩

theorem over : Rows.meshSolidsRow.holds Tryz.pinned (OpenSpec.ofChange Rows.meshSolidsSpec) :=
  OpenClaim.holds_of_wide 4 Tryz.f4 rfl rfl rfl rfl rfl rfl rfl ⟨rfl, rfl, rfl, rfl, rfl⟩ rfl rfl rfl rfl rfl (by kernel_rfl) Tryz.func4 (by kernel_rfl)
    (of_decide_eq_true (by kernel_rfl)) (by unfold Func.isWrapper; first | (rw [if_pos (by decide +kernel)]; kernel_rfl) | (rw [if_neg (by decide +kernel)]; exact ⟨rfl, rfl⟩))
    (fun os started H enc _ => lifted os started H enc)

theorem proved : Rows.MeshSolidsSaid :=
  over
#print axioms proved
end Go.Proofs.YtmanggcjimaehaaGreat.meshSolids
