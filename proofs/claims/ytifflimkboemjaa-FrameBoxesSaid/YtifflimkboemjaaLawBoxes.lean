/- The law FrameBoxes: the row around the run. -/
import Derived.Test.YtifflimkboemjaaRows
import Derived.WalkKit
import Derived.ProofKit
import Derived.OpenShut
import Derived.Below
import Derived.Carry
import Derived.ShutString
import Derived.ChangeOld
import Derived.Test.YtifflimkboemjaaOp
import Derived.Test.YtifflimkboemjaaFrZ5
import Derived.Test.YtifflimkboemjaaRows
namespace Go.Proofs.Ytifflimkboemjaa.frameBoxes
open Go.ChangeShapes Go.WideShapes Go.ChangeAt Go.RowKit
set_option linter.unusedVariables false
theorem own : ownKnob Try.prog.godebug = none := by kernel_rfl
theorem laidOut : laidOutB Try.prog = true := by kernel_rfl
set_option maxRecDepth 100000 in
theorem lifted (os : Os) (started : os.Started) (H : Type) (enc : TypeId × Value → H) :
    ReturnsInHanded {} Try.checked os 8 .any (Rows.frameBoxesSpec.pre6 enc Try.prog Try.f8 Rows.frameBoxesRow.domain false) (Rows.frameBoxesSpec.post enc Try.prog Try.f8 false true false false) := by
  refine returnsInHanded_of_change (C := Try.checked) own started (by kernel_rfl) Try.func8
    (ChangeSpec.witness6 (enc := enc) (C := Try.checked) false ⟨#[], #[.agg #[.int .u8 0, .int .i64 0, .int .i64 0, .int .i64 0, .int .i64 0, .int .i64 0, .int .i64 0]], []⟩ 8 (by kernel_rfl) (by kernel_rfl) (by kernel_rfl) (by kernel_rfl)) ?_
  intro W base args ds gs before hval0 hW hcnd _
  have hval : ∀ (j : Nat) t v, Try.f8.params[j]? = some t → args[j]? = some v → Value.okWide Try.prog W .any base t v := hval0
  have hW' := hW
  obtain ⟨p, q, hA0, hV, rfl, hfz, hnd⟩ := hW
  have hA : DataW.TrodAll enc Try.prog W 0 (fun _ => true) true Try.f8.params.toList args.toList ds p := hA0
  rw [Try.params8] at hA hval
  obtain ⟨v0, vs0, d0, ds0, p0, q0, hargs, rfl, rfl, h0, r0⟩ := trodAll_cons hA
  obtain ⟨rfl, rfl, rfl⟩ := trodAll_nil r0
  obtain rfl : args = #[v0] := by cases args; simp_all
  obtain ⟨rfl, rfl⟩ := trodVars_none hV
  have k0 := h0
  have lt0 : ∀ x ∈ p0, x.block < W.heap.size := by obtain ⟨m, hm⟩ := k0; exact DataW.trod_lt m _ _ _ hm
  obtain ⟨ns0, l0, e0, b0⟩ := Go.Am.open_agg_ints (P := Try.prog) (t := 57) (us := [5, 3, 3, 3, 3, 3, 3]) (ks := [.u8, .i64, .i64, .i64, .i64, .i64, .i64]) (by kernel_rfl) (by kernel_rfl) (by kernel_rfl) (by kernel_rfl) (hval 0 57 v0 rfl rfl)
  obtain ⟨x0_0, x0_1, x0_2, x0_3, x0_4, x0_5, x0_6, rfl⟩ : ∃ x0_0 x0_1 x0_2 x0_3 x0_4 x0_5 x0_6, ns0 = [x0_0, x0_1, x0_2, x0_3, x0_4, x0_5, x0_6] := by
    obtain _ | ⟨x0_0, ns0⟩ := ns0
    · simp at l0
    obtain _ | ⟨x0_1, ns0⟩ := ns0
    · simp at l0
    obtain _ | ⟨x0_2, ns0⟩ := ns0
    · simp at l0
    obtain _ | ⟨x0_3, ns0⟩ := ns0
    · simp at l0
    obtain _ | ⟨x0_4, ns0⟩ := ns0
    · simp at l0
    obtain _ | ⟨x0_5, ns0⟩ := ns0
    · simp at l0
    obtain _ | ⟨x0_6, ns0⟩ := ns0
    · simp at l0
    obtain _ | ⟨y, ns0⟩ := ns0
    · exact ⟨x0_0, x0_1, x0_2, x0_3, x0_4, x0_5, x0_6, rfl⟩
    · simp at l0
  have m0 : ∀ p : IntKind × Int, p ∈ [((.u8 : IntKind), x0_0), ((.i64 : IntKind), x0_1), ((.i64 : IntKind), x0_2), ((.i64 : IntKind), x0_3), ((.i64 : IntKind), x0_4), ((.i64 : IntKind), x0_5), ((.i64 : IntKind), x0_6)] → p.1.has p.2 = true := b0
  have g0_0 := Go.Am.has_u8 (m0 (.u8, x0_0) (by simp))
  have g0_1 := Go.Am.has_i64 (m0 (.i64, x0_1) (by simp))
  have g0_2 := Go.Am.has_i64 (m0 (.i64, x0_2) (by simp))
  have g0_3 := Go.Am.has_i64 (m0 (.i64, x0_3) (by simp))
  have g0_4 := Go.Am.has_i64 (m0 (.i64, x0_4) (by simp))
  have g0_5 := Go.Am.has_i64 (m0 (.i64, x0_5) (by simp))
  have g0_6 := Go.Am.has_i64 (m0 (.i64, x0_6) (by simp))
  clear hA0 hval0
  refine (Go.Am.Comes.call (H := Go.Am.noOld) (args := [.agg [.int .u8 x0_0, .int .i64 x0_1, .int .i64 x0_2, .int .i64 x0_3, .int .i64 x0_4, .int .i64 x0_5, .int .i64 x0_6]]) Go.Am.fn8_some (body := Go.Am.bodyOf Try.prog 8) (by kernel_rfl) (Go.Am.boxes_run x0_0 x0_1 x0_2 x0_3 x0_4 x0_5 x0_6 g0_0) (vals := #[v0]) (.cons (e0 ▸ Go.Am.vrel_ints [.u8, .i64, .i64, .i64, .i64, .i64, .i64] [x0_0, x0_1, x0_2, x0_3, x0_4, x0_5, x0_6]) .nil) (fun k o h => by cases h)).mono fun e W' ⟨ρ, u, he, hu, bel⟩ => ?_
  subst he
  cases hu
  exact ⟨_, rfl, _, _, _, [], _, [], hW', trodAll_mk1 (shut_bool Try.underlying4 _), (trodAll_cons_mk (Below.trod laidOut (by kernel_rfl) (of_decide_eq_true (by kernel_rfl)) k0 bel lt0) trodAll_mk0), rfl, bel.frame _, fun h => by cases h⟩

theorem over : Rows.frameBoxesRow.holds Try.pinned (OpenSpec.ofChange Rows.frameBoxesSpec) :=
  OpenClaim.holds_of_wide 8 Try.f8 rfl rfl rfl rfl rfl rfl rfl ⟨rfl, rfl, rfl, rfl, rfl⟩ rfl rfl rfl rfl rfl (by kernel_rfl) Try.func8 (by kernel_rfl)
    (of_decide_eq_true (by kernel_rfl)) (by unfold Func.isWrapper; first | (rw [if_pos (by decide +kernel)]; kernel_rfl) | (rw [if_neg (by decide +kernel)]; exact ⟨rfl, rfl⟩))
    (fun os started H enc _ => lifted os started H enc)

theorem proved : Rows.FrameBoxesSaid :=
  over
#print axioms proved
end Go.Proofs.Ytifflimkboemjaa.frameBoxes
