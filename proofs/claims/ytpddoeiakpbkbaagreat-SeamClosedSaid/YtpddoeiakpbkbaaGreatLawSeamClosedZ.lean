/- The law SeamClosed holds: every call of it gives true, whatever its arguments. -/
import Derived.Test.YtpddoeiakpbkbaaGreatLo7
import Derived.Test.YtpddoeiakpbkbaaGreatRows
import Derived.WalkKit
import Derived.ProofKit
import Derived.OpenShut
import Derived.Below
import Derived.Carry
import Derived.ShutString
import Derived.ChangeOld
namespace Go.Proofs.YtpddoeiakpbkbaaGreat.seamClosed
open Go.ChangeShapes Go.WideShapes Go.ChangeAt Go.RowKit
set_option linter.unusedVariables false
theorem own : ownKnob Tryz.prog.godebug = none := by kernel_rfl
theorem laidOut : laidOutB Tryz.prog = true := by kernel_rfl
set_option maxRecDepth 100000 in
theorem lifted (os : Os) (started : os.Started) (H : Type) (enc : TypeId × Value → H) :
    ReturnsInHanded {} Tryz.checked os 8 .any (Rows.seamClosedSpec.pre6 enc Tryz.prog Tryz.f8 Rows.seamClosedRow.domain false) (Rows.seamClosedSpec.post enc Tryz.prog Tryz.f8 false true false false) := by
  refine returnsInHanded_of_change (C := Tryz.checked) own started (by kernel_rfl) Tryz.func8
    (ChangeSpec.witness6 (enc := enc) (C := Tryz.checked) false ⟨#[], #[.slice none 0 0, .int .i64 0, .int .i64 0, .agg #[.int .i64 0, .int .i64 0, .int .i64 0], .int .u8 0], []⟩ 8 (by kernel_rfl) (by kernel_rfl) (by kernel_rfl) (by kernel_rfl)) ?_
  intro W base args ds gs before hval0 hW hcnd _
  have hval : ∀ (j : Nat) t v, Tryz.f8.params[j]? = some t → args[j]? = some v → Value.okWide Tryz.prog W .any base t v := hval0
  have hW' := hW
  obtain ⟨p, q, hA0, hV, rfl, hfz, hnd⟩ := hW
  have hA : DataW.TrodAll enc Tryz.prog W 0 (fun _ => true) true Tryz.f8.params.toList args.toList ds p := hA0
  rw [Tryz.params8] at hA hval
  obtain ⟨v0, vs0, d0, ds0, p0, q0, hargs, rfl, rfl, h0, r0⟩ := trodAll_cons hA
  obtain ⟨v1, vs1, d1, ds1, p1, q1, rfl, rfl, rfl, h1, r1⟩ := trodAll_cons r0
  obtain ⟨v2, vs2, d2, ds2, p2, q2, rfl, rfl, rfl, h2, r2⟩ := trodAll_cons r1
  obtain ⟨v3, vs3, d3, ds3, p3, q3, rfl, rfl, rfl, h3, r3⟩ := trodAll_cons r2
  obtain ⟨v4, vs4, d4, ds4, p4, q4, rfl, rfl, rfl, h4, r4⟩ := trodAll_cons r3
  obtain ⟨rfl, rfl, rfl⟩ := trodAll_nil r4
  obtain rfl : args = #[v0, v1, v2, v3, v4] := by cases args; simp_all
  obtain ⟨rfl, rfl⟩ := trodVars_none hV
  have k0 := h0
  have lt0 : ∀ x ∈ p0, x.block < W.heap.size := by obtain ⟨m, hm⟩ := k0; exact DataW.trod_lt m _ _ _ hm
  have k3 := h3
  have lt3 : ∀ x ∈ p3, x.block < W.heap.size := by obtain ⟨m, hm⟩ := k3; exact DataW.trod_lt m _ _ _ hm
  obtain ⟨X0, rel0, bk0⟩ := Go.Am.open_land (P := Tryz.prog) (t := 22) (e := 59) (t0 := 57) (t1 := 33) (b := 57) (f0 := 50) (f1 := 50) (o0 := 0) (o1 := 3) (by kernel_rfl) (by kernel_rfl) (by kernel_rfl) (by kernel_rfl) (by kernel_rfl) (by kernel_rfl) (by kernel_rfl) (by kernel_rfl) (by kernel_rfl) (hval 0 22 v0 rfl rfl) h0
  obtain ⟨X1, rfl, rfl, rfl, w1⟩ := open_int Tryz.underlying3 (hval 1 3 v1 rfl rfl) h1
  obtain ⟨X2, rfl, rfl, rfl, w2⟩ := open_int Tryz.underlying3 (hval 2 3 v2 rfl rfl) h2
  obtain ⟨ns3, l3, e3, b3⟩ := Go.Am.open_agg_ints (P := Tryz.prog) (t := 50) (us := [3, 3, 3]) (ks := [.i64, .i64, .i64]) (by kernel_rfl) (by kernel_rfl) (by kernel_rfl) (by kernel_rfl) (hval 3 50 v3 rfl rfl)
  obtain ⟨X3_0, X3_1, X3_2, rfl⟩ : ∃ X3_0 X3_1 X3_2, ns3 = [X3_0, X3_1, X3_2] := by
    obtain _ | ⟨X3_0, ns3⟩ := ns3
    · simp at l3
    obtain _ | ⟨X3_1, ns3⟩ := ns3
    · simp at l3
    obtain _ | ⟨X3_2, ns3⟩ := ns3
    · simp at l3
    obtain _ | ⟨y, ns3⟩ := ns3
    · exact ⟨X3_0, X3_1, X3_2, rfl⟩
    · simp at l3
  have rel3 : Go.Am.VRel (Go.Am.rhoOf fun k => W.heap[k]?) (.agg [.int .i64 X3_0, .int .i64 X3_1, .int .i64 X3_2]) v3 := e3 ▸ Go.Am.vrel_ints [.i64, .i64, .i64] [X3_0, X3_1, X3_2]
  obtain ⟨X4, rfl, rfl, rfl, w4⟩ := open_int Tryz.underlying5 (hval 4 5 v4 rfl rfl) h4
  clear hA0 hval0
  obtain ⟨steps, hrun⟩ := Go.Am.lcl_run X0 X1 X2 X3_0 X3_1 X3_2 X4 ⟨of_decide_eq_true (Bool.and_eq_true_iff.1 w4).1, Int.lt_of_le_of_lt (of_decide_eq_true (Bool.and_eq_true_iff.1 w4).2) (by decide)⟩
  obtain ⟨C', hgo, hfin, hres⟩ := Go.Am.lcl_ends X0 X1 X2 X3_0 X3_1 X3_2 X4 steps _ hrun
  refine (Go.Am.goes_call (H := fun k => W.heap[k]?) (by kernel_rfl) hgo hfin hres (vals := #[v0, .int .i64 X1, .int .i64 X2, v3, .int .u8 X4]) (.cons rel0 (.cons (.int _ _) (.cons (.int _ _) (.cons rel3 (.cons (.int _ _) (.nil)))))) (fun k o h => h)).mono fun e W' ⟨ρ, u, he, ho⟩ => ?_
  subst he
  have hu := ho.val
  have bel := ho.below
  cases hu
  exact ⟨_, rfl, _, _, _, [], _, [], hW', trodAll_mk1 (shut_bool Tryz.underlying4 _), (trodAll_cons_mk (Below.trod laidOut (by kernel_rfl) (of_decide_eq_true (by kernel_rfl)) k0 bel lt0) (trodAll_cons_mk (shut_int Tryz.underlying3 w1) (trodAll_cons_mk (shut_int Tryz.underlying3 w2) (trodAll_cons_mk (Below.trod laidOut (by kernel_rfl) (of_decide_eq_true (by kernel_rfl)) k3 bel lt3) (trodAll_cons_mk (shut_int Tryz.underlying5 w4) trodAll_mk0))))), rfl, bel.frame _, fun h => by cases h⟩

theorem over : Rows.seamClosedRow.holds Tryz.pinned (OpenSpec.ofChange Rows.seamClosedSpec) :=
  OpenClaim.holds_of_wide 8 Tryz.f8 rfl rfl rfl rfl rfl rfl rfl ⟨rfl, rfl, rfl, rfl, rfl⟩ rfl rfl rfl rfl rfl (by kernel_rfl) Tryz.func8 (by kernel_rfl)
    (of_decide_eq_true (by kernel_rfl)) (by unfold Func.isWrapper; first | (rw [if_pos (by decide +kernel)]; kernel_rfl) | (rw [if_neg (by decide +kernel)]; exact ⟨rfl, rfl⟩))
    (fun os started H enc _ => lifted os started H enc)

theorem proved : Rows.SeamClosedSaid :=
  over
#print axioms proved
end Go.Proofs.YtpddoeiakpbkbaaGreat.seamClosed
