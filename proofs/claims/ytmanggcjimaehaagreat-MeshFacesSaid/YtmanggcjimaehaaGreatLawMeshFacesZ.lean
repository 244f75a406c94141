/- The law MeshFaces holds: every call of it gives true, whatever its arguments. -/
import Derived.Test.YtmanggcjimaehaaGreatLb6
import Derived.Test.YtmanggcjimaehaaGreatRows
import Derived.WalkKit
import Derived.ProofKit
import Derived.OpenShut
import Derived.Below
import Derived.Carry
import Derived.ShutString
import Derived.ChangeOld
namespace Go.Proofs.YtmanggcjimaehaaGreat.meshFaces
open Go.ChangeShapes Go.WideShapes Go.ChangeAt Go.RowKit
set_option linter.unusedVariables false
theorem own : ownKnob Tryz.prog.godebug = none := by kernel_rfl
theorem laidOut : laidOutB Tryz.prog = true := by kernel_rfl
set_option maxRecDepth 100000 in
theorem lifted (os : Os) (started : os.Started) (H : Type) (enc : TypeId × Value → H) :
    ReturnsInHanded {} Tryz.checked os 8 .any (Rows.meshFacesSpec.pre6 enc Tryz.prog Tryz.f8 Rows.meshFacesRow.domain false) (Rows.meshFacesSpec.post enc Tryz.prog Tryz.f8 false true false false) := by
  refine returnsInHanded_of_change (C := Tryz.checked) own started (by kernel_rfl) Tryz.func8
    (ChangeSpec.witness6 (enc := enc) (C := Tryz.checked) false ⟨#[], #[.slice none 0 0, .agg #[.int .i64 0, .int .i64 0, .int .i64 0], .int .u8 0], []⟩ 8 (by kernel_rfl) (by kernel_rfl) (by kernel_rfl) (by kernel_rfl)) ?_
  intro W base args ds gs before hval0 hW hcnd _
  have hval : ∀ (j : Nat) t v, Tryz.f8.params[j]? = some t → args[j]? = some v → Value.okWide Tryz.prog W .any base t v := hval0
  have hW' := hW
  obtain ⟨p, q, hA0, hV, rfl, hfz, hnd⟩ := hW
  have hA : DataW.TrodAll enc Tryz.prog W 0 (fun _ => true) true Tryz.f8.params.toList args.toList ds p := hA0
  rw [Tryz.params8] at hA hval
  obtain ⟨v0, vs0, d0, ds0, p0, q0, hargs, rfl, rfl, h0, r0⟩ := trodAll_cons hA
  obtain ⟨v1, vs1, d1, ds1, p1, q1, rfl, rfl, rfl, h1, r1⟩ := trodAll_cons r0
  obtain ⟨v2, vs2, d2, ds2, p2, q2, rfl, rfl, rfl, h2, r2⟩ := trodAll_cons r1
  obtain ⟨rfl, rfl, rfl⟩ := trodAll_nil r2
  obtain rfl : args = #[v0, v1, v2] := by cases args; simp_all
  obtain ⟨rfl, rfl⟩ := trodVars_none hV
  have k0 := h0
  have lt0 : ∀ x ∈ p0, x.block < W.heap.size := by obtain ⟨m, hm⟩ := k0; exact DataW.trod_lt m _ _ _ hm
  have k1 := h1
  have lt1 : ∀ x ∈ p1, x.block < W.heap.size := by obtain ⟨m, hm⟩ := k1; exact DataW.trod_lt m _ _ _ hm
  obtain ⟨n0, c0, hrel0, hbd0, hmx0⟩ := Go.Am.open_dat (P := Tryz.prog) (t := 22) (e := 67) (ks := [.i64, .i64, .i64, .i64, .i64, .i64]) (by kernel_rfl) (by kernel_rfl) (hval 0 22 v0 rfl rfl) h0
  have rel0 := (Go.Am.asL_le (α := Go.Am.R6) (v := .dat n0 fun i => Go.Am.rowOf [.i64, .i64, .i64, .i64, .i64, .i64] (c0 i)) rfl (Go.Am.pd_true fun i _ => rfl)).sound hrel0
  generalize Go.Am.lst (Go.Am.R6) n0 (fun i => Go.Am.rowOf [.i64, .i64, .i64, .i64, .i64, .i64] (c0 i)) = X0 at rel0
  obtain ⟨ns1, l1, e1, b1⟩ := Go.Am.open_agg_ints (P := Tryz.prog) (t := 55) (us := [3, 3, 3]) (ks := [.i64, .i64, .i64]) (by kernel_rfl) (by kernel_rfl) (by kernel_rfl) (by kernel_rfl) (hval 1 55 v1 rfl rfl)
  obtain ⟨X1_0, X1_1, X1_2, rfl⟩ : ∃ X1_0 X1_1 X1_2, ns1 = [X1_0, X1_1, X1_2] := by
    obtain _ | ⟨X1_0, ns1⟩ := ns1
    · simp at l1
    obtain _ | ⟨X1_1, ns1⟩ := ns1
    · simp at l1
    obtain _ | ⟨X1_2, ns1⟩ := ns1
    · simp at l1
    obtain _ | ⟨y, ns1⟩ := ns1
    · exact ⟨X1_0, X1_1, X1_2, rfl⟩
    · simp at l1
  have rel1 : Go.Am.VRel (Go.Am.rhoOf fun k => W.heap[k]?) (.agg [.int .i64 X1_0, .int .i64 X1_1, .int .i64 X1_2]) v1 := e1 ▸ Go.Am.vrel_ints [.i64, .i64, .i64] [X1_0, X1_1, X1_2]
  obtain ⟨X2, rfl, rfl, rfl, w2⟩ := open_int Tryz.underlying5 (hval 2 5 v2 rfl rfl) h2
  clear hA0 hval0
  obtain ⟨steps, hrun⟩ := Go.Am.mfa_run X0 X1_0 X1_1 X1_2 X2 ⟨of_decide_eq_true (Bool.and_eq_true_iff.1 w2).1, Int.lt_of_le_of_lt (of_decide_eq_true (Bool.and_eq_true_iff.1 w2).2) (by decide)⟩
  obtain ⟨C', hgo, hfin, hres⟩ := Go.Am.mfa_ends X0 X1_0 X1_1 X1_2 X2 steps _ hrun
  refine (Go.Am.goes_call (H := fun k => W.heap[k]?) (by kernel_rfl) hgo hfin hres (vals := #[v0, v1, .int .u8 X2]) (.cons rel0 (.cons rel1 (.cons (.int _ _) (.nil)))) (fun k o h => h)).mono fun e W' ⟨ρ, u, he, ho⟩ => ?_
  subst he
  have hu := ho.val
  have bel := ho.below
  cases hu
  exact ⟨_, rfl, _, _, _, [], _, [], hW', trodAll_mk1 (shut_bool Tryz.underlying4 _), (trodAll_cons_mk (Below.trod laidOut (by kernel_rfl) (of_decide_eq_true (by kernel_rfl)) k0 bel lt0) (trodAll_cons_mk (Below.trod laidOut (by kernel_rfl) (of_decide_eq_true (by kernel_rfl)) k1 bel lt1) (trodAll_cons_mk (shut_int Tryz.underlying5 w2) trodAll_mk0))), rfl, bel.frame _, fun h => by cases h⟩

theorem over : Rows.meshFacesRow.holds Tryz.pinned (OpenSpec.ofChange Rows.meshFacesSpec) :=
  OpenClaim.holds_of_wide 8 Tryz.f8 rfl rfl rfl rfl rfl rfl rfl ⟨rfl, rfl, rfl, rfl, rfl⟩ rfl rfl rfl rfl rfl (by kernel_rfl) Tryz.func8 (by kernel_rfl)
    (of_decide_eq_true (by kernel_rfl)) (by unfold Func.isWrapper; first | (rw [if_pos (by decide +kernel)]; kernel_rfl) | (rw [if_neg (by decide +kernel)]; exact ⟨rfl, rfl⟩))
    (fun os started H enc _ => lifted os started H enc)

theorem proved : Rows.MeshFacesSaid :=
  over
#print axioms proved
end Go.Proofs.YtmanggcjimaehaaGreat.meshFaces
