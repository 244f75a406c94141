/- The run of the law FrameGroup. -/
import Derived.Test.YtifflimkboemjaaFrM
import Derived.Test.YtifflimkboemjaaFrN
namespace Go.Am
open Go.Proofs
set_option maxRecDepth 100000
set_option linter.unusedVariables false

theorem near_of {t x y z : Int} (h : nearL t x y z = true) (hx : -9223372036854775807 ≤ x ∧ x ≤ 9223372036854775807) (hy : -9223372036854775807 ≤ y ∧ y ≤ 9223372036854775807) (hz : -9223372036854775807 ≤ z ∧ z ≤ 9223372036854775807) :
    chk t x y z = 0 ∧ t < 24 ∧ (-100000 ≤ x ∧ x ≤ 100000) ∧ (-100000 ≤ y ∧ y ≤ 100000) ∧ (-100000 ≤ z ∧ z ≤ 100000) := by
  unfold nearL at h
  simp only [Bool.and_eq_true, beq_iff_eq] at h
  obtain ⟨h0, h1, h2⟩ := h
  obtain ⟨a1, b1, c1, a2, b2, c2⟩ := fine_of h1
  obtain ⟨a3, b3, c3, -⟩ := fine_of h2
  rw [w_in (by omega) (by omega)] at a3 b3 c3
  exact ⟨h0, chk_lt (by rw [h0]; rfl), ⟨by omega, by omega⟩, ⟨by omega, by omega⟩, ⟨by omega, by omega⟩⟩

theorem chk_of {t x y z : Int} (h : t < 24) (hx : -1000000 ≤ x ∧ x ≤ 1000000) (hy : -1000000 ≤ y ∧ y ≤ 1000000) (hz : -1000000 ≤ z ∧ z ≤ 1000000) : chk t x y z = 0 := by
  unfold chk
  rw [of_fine ⟨hx.1, hy.1, hz.1, hx.2, hy.2, hz.2⟩, show decide (t < 24) = true from decide_eq_true h]
  rfl

theorem wit_of {s a b c t x y z : Int} (h : chk s a b c = 0) (k : chk t x y z = 0) (l : chk (cmp s t) (imgL t 0 x a b c) (imgL t 1 y a b c) (imgL t 2 z a b c) = 0) :
    witE s a b c t x y z = 0 ∧ ∀ v, witP s a b c t x y z v = v := by
  refine ⟨?_, fun v => ?_⟩
  · unfold witE; rw [h, k, l]; rfl
  · unfold witP; rw [h, k, l]; rfl
theorem app_of {t x y z a b c : Int} (h : chk t x y z = 0) (k : fineL a b c (-1000000) = true) (l : fineL (imgL t 0 x a b c) (imgL t 1 y a b c) (imgL t 2 z a b c) (-1000000) = true) :
    appE t x y z a b c = 0 ∧ ∀ v, appP t x y z a b c v = v := by
  refine ⟨?_, fun v => ?_⟩
  · unfold appE; rw [h, k, l]; rfl
  · unfold appP; rw [h, k, l]; rfl
theorem inv_of {t x y z : Int} (h : chk t x y z = 0) : invE t x y z = 0 ∧ ∀ v, invP t x y z v = v := by
  refine ⟨?_, fun v => ?_⟩
  · unfold invE; rw [h]; rfl
  · unfold invP; rw [h]; rfl
theorem cmp_inv {t : Int} (h0 : 0 ≤ t) (h1 : t < 24) : cmp t (inv t) = 0 ∧ cmp (inv t) t = 0 := by
  have := all_turns (p := fun t => cmp t (inv t) == 0 && cmp (inv t) t == 0) (by kernel_rfl) h0 h1
  simpa only [Bool.and_eq_true, beq_iff_eq] using this
theorem img_one (j : Nat) (hj : j < 3) {x y z p : Int} (hx : -10000000 ≤ x ∧ x ≤ 10000000) (hy : -10000000 ≤ y ∧ y ≤ 10000000) (hz : -10000000 ≤ z ∧ z ≤ 10000000) (hp : -10000000 ≤ p ∧ p ≤ 10000000) :
    imgL 0 j p x y z = (if j = 0 then x else if j = 1 then y else z) + p := by
  rw [img_lin 0 j p x y z (by omega) (by omega) (by omega) (by omega)]
  obtain ⟨e0, e1, e2, e3, e4, e5, e6, e7, e8⟩ := tv0
  obtain rfl | rfl | rfl : j = 0 ∨ j = 1 ∨ j = 2 := by omega
  all_goals
    simp only [Nat.reduceAdd, Nat.zero_add, e0, e1, e2, e3, e4, e5, e6, e7, e8]
    simp
end Go.Am
