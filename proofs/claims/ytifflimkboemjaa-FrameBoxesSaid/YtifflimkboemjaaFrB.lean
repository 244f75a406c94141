/- The turn with some images: its contracts. -/
import Derived.Test.YtifflimkboemjaaFrA
namespace Go.Am
open Go.Proofs

noncomputable def S0 : Specs := (noSpecs.with 37 (fAxes .u8)).with 34 (fAxes .i64)
theorem S0_ok : SpecsOk Try.prog noOld S0 :=
  with_ok (with_ok noSpecs_ok noSpecs_ok (by kernel_rfl) fun _ _ => axes_ok) noSpecs_ok (by kernel_rfl) fun _ _ => images_ok

theorem fNamed_inv {k : IntKind} {args : List AVal} {v : AVal} (h : fNamed k args = some (v, true)) : ∃ t, 0 ≤ t ∧ t < 24 ∧ args = [.agg (i64s (row t))] ∧ v = .int k (nm (row t)) := by
  unfold fNamed at h
  split at h
  · simp only [Option.some.injEq, Prod.mk.injEq] at h
    obtain ⟨t, h0, h1, e⟩ := in_tab h.2
    refine ⟨t, h0, h1, ?_, ?_⟩
    · rw [← e]; rfl
    · rw [← e]; exact h.1.symm
  · cases h

set_option maxRecDepth 100000 in
theorem named_ok {args : List AVal} {v : AVal} (h : fNamed .u8 args = some (v, true)) : Gives Try.prog S0 39 args v ∧ ∃ d, pf d v = true := by
  obtain ⟨t, h0, h1, rfl, rfl⟩ := fNamed_inv h
  clear h
  rcases turn_cases h0 h1 with rfl|rfl|rfl|rfl|rfl|rfl|rfl|rfl|rfl|rfl|rfl|rfl|rfl|rfl|rfl|rfl|rfl|rfl|rfl|rfl|rfl|rfl|rfl|rfl
  all_goals exact ⟨⟨1000, false, [], by kernel_rfl⟩, 5, by kernel_rfl⟩

set_option maxRecDepth 100000 in
theorem turned_ok {args : List AVal} {v : AVal} (h : fNamed .i64 args = some (v, true)) : Gives Try.prog S0 40 args v ∧ ∃ d, pf d v = true := by
  obtain ⟨t, h0, h1, rfl, rfl⟩ := fNamed_inv h
  clear h
  rcases turn_cases h0 h1 with rfl|rfl|rfl|rfl|rfl|rfl|rfl|rfl|rfl|rfl|rfl|rfl|rfl|rfl|rfl|rfl|rfl|rfl|rfl|rfl|rfl|rfl|rfl|rfl
  all_goals exact ⟨⟨1000, false, [], by kernel_rfl⟩, 5, by kernel_rfl⟩

end Go.Am
