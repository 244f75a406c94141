/- The contracts of alive (a closed run) and valid. -/
import Derived.Test.YtdojgffcahimjaaSpN
namespace Go.Am
open Go.Proofs
set_option maxRecDepth 100000
set_option linter.unusedVariables false
set_option linter.unusedSimpArgs false

def validV (n : Nat) (c : Nat → Int) (m : Nat) (d : Nat → Int) (w : Int) : Bool :=
  bif decide ((n : Int) ≤ 40) then bif decide ((m : Int) ≤ 40) then bif chkV n c == 0 then bif chkV m d == 0 then bif decide (w ≥ 0) then decide (w ≤ 2000000) else false else false else false else false else false
noncomputable def fValid : List AVal → Option (AVal × Bool)
  | [.dat n g, .dat m e, .int .i64 w] => some (.bool (validV n (cOf g) m (cOf e) w), isI g && isI e)
  | _ => none
noncomputable def S7 : Specs := (S6.with 14 (fClosed (.bool true))).with 13 fValid
theorem S7_ok : SpecsOk Try.prog S7 := by
  refine with_ends (with_closed S6_ok (by kernel_rfl) Alg5 (by kernel_rfl) (by kernel_rfl) rfl) (by kernel_rfl) ?_
  intro args v h
  unfold fValid at h
  split at h
  · rename_i n g m e w
    simp only [Option.some.injEq, Prod.mk.injEq, Bool.and_eq_true] at h
    obtain ⟨rfl, h1, h2⟩ := h
    obtain ⟨c, rfl⟩ := isI_spec h1
    obtain ⟨d, rfl⟩ := isI_spec h2
    refine ⟨[_], rfl, valid_ends n c m d w 0 _ ?_, 1, rfl⟩
    show validstart n c m d w = _
    unfold validstart validV
    simp only [show cOf (iget c) = c from rfl, show cOf (iget d) = d from rfl]
    cases decide ((n : Int) ≤ 40) <;> cases decide ((m : Int) ≤ 40) <;> cases chkV n c == 0 <;> cases chkV m d == 0 <;> cases decide (w ≥ 0) <;> rfl
  · cases h
end Go.Am
