/- The contract of frame.About. -/
import Derived.Test.YtifflimkboemjaaFrQ
import Derived.Test.YtifflimkboemjaaFrL
namespace Go.Am
open Go.Proofs
set_option maxRecDepth 100000
set_option linter.unusedVariables false

theorem tmod4 (q : Int) : Int.tmod (IntKind.i64.wrap (Int.tmod q 4 + 4)) 4 = q % 4 := by
  have h1 : -4 < q.tmod 4 ∧ q.tmod 4 < 4 := ⟨by have := Int.lt_tmod_of_pos q (b := 4) (by omega); omega, Int.tmod_lt_of_pos q (by omega)⟩
  have h2 := Int.mul_tdiv_add_tmod q 4
  rw [w_in (by omega) (by omega), Int.tmod_eq_emod_of_nonneg (by omega)]
  omega

def abtL : List (List Int) := [[0, 2, 1, 3], [0, 22, 4, 18], [0, 9, 5, 12]]
/-- The turn about an axis by some quarters. -/
def abt (a n : Int) : Int := (abtL.getD a.toNat []).getD n.toNat 0
def axOk (a : Int) : Bool := decide (0 ≤ a) && decide (a ≤ 2)
def fAbout : List AVal → Option (AVal × Bool)
  | [.int .i64 a, .int .i64 q] => some (.tup [.int .u8 (bif axOk a then abt a (q % 4) else 0), .int .i64 (bif axOk a then 0 else 2)], true)
  | _ => none
theorem fAbout_ok {args : List AVal} {v : AVal} (h : fAbout args = some (v, true)) : Gives Try.prog S2 13 args v ∧ ∃ d, pf d v = true := by
  unfold fAbout at h
  split at h
  · rename_i a q
    cases h
    by_cases h0 : a < 0
    · have : axOk a = false := by simp [axOk]; omega
      rw [this]
      exact ⟨gives (pAboutX_0 a q (decide_eq_true h0)) rfl, 4, rfl⟩
    by_cases h1 : a > 2
    · have : axOk a = false := by simp [axOk]; omega
      rw [this]
      exact ⟨gives (pAboutX_1 a q (decide_eq_false h0) (decide_eq_true h1)) rfl, 4, rfl⟩
    have hn : q % 4 = 0 ∨ q % 4 = 1 ∨ q % 4 = 2 ∨ q % 4 = 3 := by omega
    obtain rfl | rfl | rfl : a = 0 ∨ a = 1 ∨ a = 2 := by omega
    · rcases hn with e | e | e | e
      · exact ⟨gives (pAbout0_3 q (by rw [tmod4]; exact decide_eq_false (by show ¬ (0 : Int) < q % 4; omega))) (by rw [e]; kernel_rfl), 4, rfl⟩
      · exact ⟨gives (pAbout0_2 q (by rw [tmod4]; exact decide_eq_true (by show (0 : Int) < q % 4; omega)) (by rw [tmod4]; exact decide_eq_false (by show ¬ (1 : Int) < q % 4; omega))) (by rw [e]; kernel_rfl), 4, rfl⟩
      · exact ⟨gives (pAbout0_1 q (by rw [tmod4]; exact decide_eq_true (by show (0 : Int) < q % 4; omega)) (by rw [tmod4]; exact decide_eq_true (by show (1 : Int) < q % 4; omega)) (by rw [tmod4]; exact decide_eq_false (by show ¬ (2 : Int) < q % 4; omega))) (by rw [e]; kernel_rfl), 4, rfl⟩
      · exact ⟨gives (pAbout0_0 q (by rw [tmod4]; exact decide_eq_true (by show (0 : Int) < q % 4; omega)) (by rw [tmod4]; exact decide_eq_true (by show (1 : Int) < q % 4; omega)) (by rw [tmod4]; exact decide_eq_true (by show (2 : Int) < q % 4; omega)) (by rw [tmod4]; exact decide_eq_false (by show ¬ (3 : Int) < q % 4; omega))) (by rw [e]; kernel_rfl), 4, rfl⟩
    · rcases hn with e | e | e | e
      · exact ⟨gives (pAbout1_3 q (by rw [tmod4]; exact decide_eq_false (by show ¬ (0 : Int) < q % 4; omega))) (by rw [e]; kernel_rfl), 4, rfl⟩
      · exact ⟨gives (pAbout1_2 q (by rw [tmod4]; exact decide_eq_true (by show (0 : Int) < q % 4; omega)) (by rw [tmod4]; exact decide_eq_false (by show ¬ (1 : Int) < q % 4; omega))) (by rw [e]; kernel_rfl), 4, rfl⟩
      · exact ⟨gives (pAbout1_1 q (by rw [tmod4]; exact decide_eq_true (by show (0 : Int) < q % 4; omega)) (by rw [tmod4]; exact decide_eq_true (by show (1 : Int) < q % 4; omega)) (by rw [tmod4]; exact decide_eq_false (by show ¬ (2 : Int) < q % 4; omega))) (by rw [e]; kernel_rfl), 4, rfl⟩
      · exact ⟨gives (pAbout1_0 q (by rw [tmod4]; exact decide_eq_true (by show (0 : Int) < q % 4; omega)) (by rw [tmod4]; exact decide_eq_true (by show (1 : Int) < q % 4; omega)) (by rw [tmod4]; exact decide_eq_true (by show (2 : Int) < q % 4; omega)) (by rw [tmod4]; exact decide_eq_false (by show ¬ (3 : Int) < q % 4; omega))) (by rw [e]; kernel_rfl), 4, rfl⟩
    · rcases hn with e | e | e | e
      · exact ⟨gives (pAbout2_3 q (by rw [tmod4]; exact decide_eq_false (by show ¬ (0 : Int) < q % 4; omega))) (by rw [e]; kernel_rfl), 4, rfl⟩
      · exact ⟨gives (pAbout2_2 q (by rw [tmod4]; exact decide_eq_true (by show (0 : Int) < q % 4; omega)) (by rw [tmod4]; exact decide_eq_false (by show ¬ (1 : Int) < q % 4; omega))) (by rw [e]; kernel_rfl), 4, rfl⟩
      · exact ⟨gives (pAbout2_1 q (by rw [tmod4]; exact decide_eq_true (by show (0 : Int) < q % 4; omega)) (by rw [tmod4]; exact decide_eq_true (by show (1 : Int) < q % 4; omega)) (by rw [tmod4]; exact decide_eq_false (by show ¬ (2 : Int) < q % 4; omega))) (by rw [e]; kernel_rfl), 4, rfl⟩
      · exact ⟨gives (pAbout2_0 q (by rw [tmod4]; exact decide_eq_true (by show (0 : Int) < q % 4; omega)) (by rw [tmod4]; exact decide_eq_true (by show (1 : Int) < q % 4; omega)) (by rw [tmod4]; exact decide_eq_true (by show (2 : Int) < q % 4; omega)) (by rw [tmod4]; exact decide_eq_false (by show ¬ (3 : Int) < q % 4; omega))) (by rw [e]; kernel_rfl), 4, rfl⟩
  · cases h
noncomputable def S6 : Specs := S5.with 13 fAbout
theorem S6_ok : SpecsOk Try.prog noOld S6 := with_ok S5_ok S2_ok (by kernel_rfl) fun _ _ h => fAbout_ok h
end Go.Am
