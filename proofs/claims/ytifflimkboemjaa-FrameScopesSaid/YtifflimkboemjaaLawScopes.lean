/- The law FrameScopes: the row around the run. -/
import Derived.Test.YtifflimkboemjaaRows
import Derived.WalkKit
import Derived.ProofKit
import Derived.OpenShut
import Derived.Below
import Derived.Carry
import Derived.ShutString
import Derived.ChangeOld
import Derived.Test.YtifflimkboemjaaOp
import Derived.Test.YtifflimkboemjaaFrX
import Derived.Test.YtifflimkboemjaaRows
namespace Go.Proofs.Ytifflimkboemjaa.frameScopes
open Go.ChangeShapes Go.WideShapes Go.ChangeAt Go.RowKit
set_option linter.unusedVariables false
theorem own : ownKnob Try.prog.godebug = none := by kernel_rfl
theorem laidOut : laidOutB Try.prog = true := by kernel_rfl
set_option maxRecDepth 100000 in
theorem lifted (os : Os) (started : os.Started) (H : Type) (enc : TypeId × Value → H) :
    ReturnsInHanded {} Try.checked os 6 .any (Rows.frameScopesSpec.pre6 enc Try.prog Try.f6 Rows.frameScopesRow.domain false) (Rows.frameScopesSpec.post enc Try.prog Try.f6 false true false false) := by
  refine returnsInHanded_of_change (C := Try.checked) own started (by kernel_rfl) Try.func6
    (ChangeSpec.witness6 (enc := enc) (C := Try.checked) false ⟨#[], #[.agg #[.int .u8 0, .int .i64 0, .int .i64 0, .int .i64 0, .int .i64 0, .int .i64 0, .int .i64 0], .agg #[.int .i64 0, .int .i64 0, .int .i64 0], .agg #[.int .i64 0, .int .i64 0, .int .i64 0], .int .u8 0], []⟩ 8 (by kernel_rfl) (by kernel_rfl) (by kernel_rfl) (by kernel_rfl)) ?_
  intro W base args ds gs before hval0 hW hcnd _
  have hval : ∀ (j : Nat) t v, Try.f6.params[j]? = some t → args[j]? = some v → Value.okWide Try.prog W .any base t v := hval0
  have hW' := hW
  obtain ⟨p, q, hA0, hV, rfl, hfz, hnd⟩ := hW
  have hA : DataW.TrodAll enc Try.prog W 0 (fun _ => true) true Try.f6.params.toList args.toList ds p := hA0
  rw [Try.params6] at hA hval
  obtain ⟨v0, vs0, d0, ds0, p0, q0, hargs, rfl, rfl, h0, r0⟩ := trodAll_cons hA
  obtain ⟨v1, vs1, d1, ds1, p1, q1, rfl, rfl, rfl, h1, r1⟩ := trodAll_cons r0
  obtain ⟨v2, vs2, d2, ds2, p2, q2, rfl, rfl, rfl, h2, r2⟩ := trodAll_cons r1
  obtain ⟨v3, vs3, d3, ds3, p3, q3, rfl, rfl, rfl, h3, r3⟩ := trodAll_cons r2
  obtain ⟨rfl, rfl, rfl⟩ := trodAll_nil r3
  obtain rfl : args = #[v0, v1, v2, v3] := by cases args; simp_all
  obtain ⟨rfl, rfl⟩ := trodVars_none hV
  have k0 := h0
  have lt0 : ∀ x ∈ p0, x.block < W.heap.size := by obtain ⟨m, hm⟩ := k0; exact DataW.trod_lt m _ _ _ hm
  have k1 := h1
  have lt1 : ∀ x ∈ p1, x.block < W.heap.size := by obtain ⟨m, hm⟩ := k1; exact DataW.trod_lt m _ _ _ hm
  have k2 := h2
  have lt2 : ∀ x ∈ p2, x.block < W.heap.size := by obtain ⟨m, hm⟩ := k2; exact DataW.trod_lt m _ _ _ hm
  have k3 := h3
  have lt3 : ∀ x ∈ p3, x.block < W.heap.size := by obtain ⟨m, hm⟩ := k3; exact DataW.trod_lt m _ _ _ hm
  obtain ⟨ns0, l0, e0, b0⟩ := Go.Am.open_agg_ints (P := Try.prog) (t := 57) (us := [5, 3, 3, 3, 3, 3, 3]) (ks := [.u8, .i64, .i64, .i64, .i64, .i64, .i64]) (by kernel_rfl) (by kernel_rfl) (by kernel_rfl) (by kernel_rfl) (hval 0 57 v0 rfl rfl)
  obtain ⟨x0_0, x0_1, x0_2, x0_3, x0_4, x0_5, x0_6, rfl⟩ : ∃ x0_0 x0_1 x0_2 x0_3 x0_4 x0_5 x0_6, ns0 = [x0_0, x0_1, x0_2, x0_3, x0_4, x0_5, x0_6] := by
    obtain _ | ⟨x0_0, ns0⟩ := ns0
    · simp at l0
    obtain _ | ⟨x0_1, ns0⟩ := ns0
    · simp at l0
    obtain _ | ⟨x0_2, ns0⟩ := ns0
    · simp at l0
    obtain _ | ⟨x0_3, ns0⟩ := ns0
    · simp at l0
    obtain _ | ⟨x0_4, ns0⟩ := ns0
    · simp at l0
    obtain _ | ⟨x0_5, ns0⟩ := ns0
    · simp at l0
    obtain _ | ⟨x0_6, ns0⟩ := ns0
    · simp at l0
    obtain _ | ⟨y, ns0⟩ := ns0
    · exact ⟨x0_0, x0_1, x0_2, x0_3, x0_4, x0_5, x0_6, rfl⟩
    · simp at l0
  have m0 : ∀ p : IntKind × Int, p ∈ [((.u8 : IntKind), x0_0), ((.i64 : IntKind), x0_1), ((.i64 : IntKind), x0_2), ((.i64 : IntKind), x0_3), ((.i64 : IntKind), x0_4), ((.i64 : IntKind), x0_5), ((.i64 : IntKind), x0_6)] → p.1.has p.2 = true := b0
  have g0_0 := Go.Am.has_u8 (m0 (.u8, x0_0) (by simp))
  have g0_1 := Go.Am.has_i64 (m0 (.i64, x0_1) (by simp))
  have g0_2 := Go.Am.has_i64 (m0 (.i64, x0_2) (by simp))
  have g0_3 := Go.Am.has_i64 (m0 (.i64, x0_3) (by simp))
  have g0_4 := Go.Am.has_i64 (m0 (.i64, x0_4) (by simp))
  have g0_5 := Go.Am.has_i64 (m0 (.i64, x0_5) (by simp))
  have g0_6 := Go.Am.has_i64 (m0 (.i64, x0_6) (by simp))
  obtain ⟨ns1, l1, e1, b1⟩ := Go.Am.open_agg_ints (P := Try.prog) (t := 23) (us := [3, 3, 3]) (ks := [.i64, .i64, .i64]) (by kernel_rfl) (by kernel_rfl) (by kernel_rfl) (by kernel_rfl) (hval 1 23 v1 rfl rfl)
  obtain ⟨x1_0, x1_1, x1_2, rfl⟩ : ∃ x1_0 x1_1 x1_2, ns1 = [x1_0, x1_1, x1_2] := by
    obtain _ | ⟨x1_0, ns1⟩ := ns1
    · simp at l1
    obtain _ | ⟨x1_1, ns1⟩ := ns1
    · simp at l1
    obtain _ | ⟨x1_2, ns1⟩ := ns1
    · simp at l1
    obtain _ | ⟨y, ns1⟩ := ns1
    · exact ⟨x1_0, x1_1, x1_2, rfl⟩
    · simp at l1
  have m1 : ∀ p : IntKind × Int, p ∈ [((.i64 : IntKind), x1_0), ((.i64 : IntKind), x1_1), ((.i64 : IntKind), x1_2)] → p.1.has p.2 = true := b1
  have g1_0 := Go.Am.has_i64 (m1 (.i64, x1_0) (by simp))
  have g1_1 := Go.Am.has_i64 (m1 (.i64, x1_1) (by simp))
  have g1_2 := Go.Am.has_i64 (m1 (.i64, x1_2) (by simp))
  obtain ⟨ns2, l2, e2, b2⟩ := Go.Am.open_agg_ints (P := Try.prog) (t := 23) (us := [3, 3, 3]) (ks := [.i64, .i64, .i64]) (by kernel_rfl) (by kernel_rfl) (by kernel_rfl) (by kernel_rfl) (hval 2 23 v2 rfl rfl)
  obtain ⟨x2_0, x2_1, x2_2, rfl⟩ : ∃ x2_0 x2_1 x2_2, ns2 = [x2_0, x2_1, x2_2] := by
    obtain _ | ⟨x2_0, ns2⟩ := ns2
    · simp at l2
    obtain _ | ⟨x2_1, ns2⟩ := ns2
    · simp at l2
    obtain _ | ⟨x2_2, ns2⟩ := ns2
    · simp at l2
    obtain _ | ⟨y, ns2⟩ := ns2
    · exact ⟨x2_0, x2_1, x2_2, rfl⟩
    · simp at l2
  have m2 : ∀ p : IntKind × Int, p ∈ [((.i64 : IntKind), x2_0), ((.i64 : IntKind), x2_1), ((.i64 : IntKind), x2_2)] → p.1.has p.2 = true := b2
  have g2_0 := Go.Am.has_i64 (m2 (.i64, x2_0) (by simp))
  have g2_1 := Go.Am.has_i64 (m2 (.i64, x2_1) (by simp))
  have g2_2 := Go.Am.has_i64 (m2 (.i64, x2_2) (by simp))
  obtain ⟨x3, rfl, rfl, rfl, w3⟩ := open_int Try.underlying5 (hval 3 5 v3 rfl rfl) h3
  have g3_0 := Go.Am.has_u8 (by simpa [Lit.wf, IntKind.has] using w3)
  clear hA0 hval0
  obtain ⟨fuel, sym, orc, run⟩ := Go.Am.scopes_run x0_0 x0_1 x0_2 x0_3 x0_4 x0_5 x0_6 x1_0 x1_1 x1_2 x2_0 x2_1 x2_2 x3 g0_0 g0_1 g0_2 g0_3 g0_4 g0_5 g0_6 g1_0 g1_1 g1_2 g2_0 g2_1 g2_2 g3_0
  refine (Go.Am.callA_sound (H := Go.Am.noOld) Go.Am.named Go.Am.mixed Go.Am.S9_ok run (vals := #[v0, v1, v2, .int .u8 x3]) (.cons (e0 ▸ Go.Am.vrel_ints [.u8, .i64, .i64, .i64, .i64, .i64, .i64] [x0_0, x0_1, x0_2, x0_3, x0_4, x0_5, x0_6]) (.cons (e1 ▸ Go.Am.vrel_ints [.i64, .i64, .i64] [x1_0, x1_1, x1_2]) (.cons (e2 ▸ Go.Am.vrel_ints [.i64, .i64, .i64] [x2_0, x2_1, x2_2]) (.cons (.int _ _) .nil)))) (fun k o h => by cases h)).mono fun e W' ⟨ρ, u, he, hu, bel⟩ => ?_
  subst he
  cases hu
  exact ⟨_, rfl, _, _, _, [], _, [], hW', trodAll_mk1 (shut_bool Try.underlying4 _), (trodAll_cons_mk (Below.trod laidOut (by kernel_rfl) (of_decide_eq_true (by kernel_rfl)) k0 bel lt0) (trodAll_cons_mk (Below.trod laidOut (by kernel_rfl) (of_decide_eq_true (by kernel_rfl)) k1 bel lt1) (trodAll_cons_mk (Below.trod laidOut (by kernel_rfl) (of_decide_eq_true (by kernel_rfl)) k2 bel lt2) (trodAll_cons_mk (shut_int Try.underlying5 w3) trodAll_mk0)))), rfl, bel.frame _, fun h => by cases h⟩

theorem over : Rows.frameScopesRow.holds Try.pinned (OpenSpec.ofChange Rows.frameScopesSpec) :=
  OpenClaim.holds_of_wide 6 Try.f6 rfl rfl rfl rfl rfl rfl rfl ⟨rfl, rfl, rfl, rfl, rfl⟩ rfl rfl rfl rfl rfl (by kernel_rfl) Try.func6 (by kernel_rfl)
    (of_decide_eq_true (by kernel_rfl)) (by unfold Func.isWrapper; first | (rw [if_pos (by decide +kernel)]; kernel_rfl) | (rw [if_neg (by decide +kernel)]; exact ⟨rfl, rfl⟩))
    (fun os started H enc _ => lifted os started H enc)

theorem proved : Rows.FrameScopesSaid :=
  over
#print axioms proved
end Go.Proofs.Ytifflimkboemjaa.frameScopes
