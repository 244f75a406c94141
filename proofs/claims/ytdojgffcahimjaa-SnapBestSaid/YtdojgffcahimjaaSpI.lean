/- The line at a number, by the program: the same value; its contract. -/
import Derived.Test.YtdojgffcahimjaaSpH
namespace Go.Am
open Go.Proofs
set_option maxRecDepth 100000
set_option linter.unusedVariables false
set_option linter.unusedSimpArgs false

theorem abs_apart {a x : Int} (h1 : -1000000 ≤ a) (h2 : a ≤ 1000000) (h3 : -4000000 ≤ x) (h4 : x ≤ 4000000) : absV (IntKind.i64.wrap (a - x)) = apartV a x := by
  unfold absV apartV
  rw [w_in (n := a - x) (by omega) (by omega), show (0 : Int) - (a - x) = x - a by omega]

theorem pick_nat (c : Nat → Int) (x : Int) (j : Nat) : pickV c x (j : Int) = c j := by
  unfold pickV; rw [decide_eq_false (by omega)]; rfl
theorem pick_m1 (c : Nat → Int) (x : Int) : pickV c x (-1) = x := rfl
theorem pnear_run (n : Nat) (c : Nat → Int) (x w : Int) : pnearstart n c x w = .ret [.int .i64 (nearV_0 n c x w), .int .i64 (nearV_1 n c x w)] := by
  unfold pnearstart nearV_0 nearV_1
  rcases bool_cases (chkV n c != 0) with h0 | h0
  · simp only [h0, cond_true]
  rcases bool_cases (decide (w < 0)) with hw | hw
  · simp only [h0, hw, cond_true, cond_false]
  rcases bool_cases (decide (w > 2000000)) with hw2 | hw2
  · simp only [h0, hw, hw2, cond_true, cond_false]
  have L := lines_of h0
  have gw := of_decide_eq_false hw
  have gw2 := of_decide_eq_false hw2
  have far : -4000000 ≤ x → x ≤ 4000000 → (x < -3000000 ∨ x > 3000000) → bestF c x w n 0 (-1) = -1 := fun a b hx => best_high c x w n 0 (-1) fun m _ hm => .inl (by
    rw [apart_eq (L.lo m (by omega)) (L.hi m (by omega)) a b]
    have := L.lo m (by omega)
    have := L.hi m (by omega)
    omega)
  have pick1 : pickV c x (-1) = x := rfl
  simp only [h0, hw, hw2, cond_false]
  by_cases hx1 : x < -3000000
  · rw [decide_eq_true hx1, cond_true]
    by_cases hx3 : x < -4000000
    · rw [decide_eq_true hx3, cond_true]
    · rw [decide_eq_false hx3, cond_false, decide_eq_false (by omega), cond_false, far (by omega) (by omega) (.inl hx1), pick1]
  rw [decide_eq_false hx1, cond_false]
  by_cases hx2 : x > 3000000
  · rw [decide_eq_true hx2, cond_true, decide_eq_false (show ¬ x < -4000000 by omega), cond_false]
    by_cases hx4 : x > 4000000
    · rw [decide_eq_true hx4, cond_true]
    · rw [decide_eq_false hx4, cond_false, far (by omega) (by omega) (.inr hx2), pick1]
  rw [decide_eq_false hx2, cond_false, decide_eq_false (show ¬ x < -4000000 by omega), cond_false, decide_eq_false (show ¬ x > 4000000 by omega), cond_false, best_mid L (by omega) (by omega)]
  have hb : bsV_owed n c x = true := pd_true ⟨by have := L.len; omega, fun i j h1 h2 => Int.le_of_lt (L.up i j h1 h2)⟩
  obtain ⟨h1, _, _⟩ := bs_spec (x := x) L
  have hv : bsV_0 n c x = (bsN n c x : Int) := rfl
  have hlen := L.len
  rw [hv]
  generalize bsN n c x = j at *
  have c4 : decide ((j : Int) ≥ 0) = true := decide_eq_true (by omega)
  cases j with
  | zero =>
    have e1 : IntKind.i64.wrap (((0 : Nat) : Int) - 1) = -1 := by rw [w_in (by omega) (by omega)]; rfl
    have c1 : decide ((-1 : Int) ≥ 0) = false := rfl
    simp only [e1, c1, c4, cond_true, cond_false, hb, Int.toNat_natCast, midB, lowB]
    by_cases hn : 0 < n
    · have c5 : decide (((0 : Nat) : Int) < (n : Int)) = true := decide_eq_true (by omega)
      have c6 : (decide (0 ≤ ((0 : Nat) : Int) ∧ ((0 : Nat) : Int) < (n : Int)) && true) = true := by rw [Bool.and_true]; exact decide_eq_true (by omega)
      have c7 : decide (0 < n) = true := decide_eq_true hn
      simp only [c5, c6, c7, cond_true, abs_apart (L.lo 0 hn) (L.hi 0 hn) (show -4000000 ≤ x by omega) (show x ≤ 4000000 by omega)]
      rcases bool_cases (decide (apartV (c 0) x ≤ w)) with e | e <;> simp only [e, cond_true, cond_false] <;> rfl
    · have c5 : decide (((0 : Nat) : Int) < (n : Int)) = false := decide_eq_false (by omega)
      have c7 : decide (0 < n) = false := decide_eq_false hn
      simp only [c5, c7, cond_false]
      rfl
  | succ i =>
    have e1 : IntKind.i64.wrap (((i + 1 : Nat) : Int) - 1) = (i : Int) := by rw [w_in (by omega) (by omega)]; omega
    have c1 : decide ((i : Int) ≥ 0) = true := decide_eq_true (by omega)
    have c2 : decide ((i : Int) < (n : Int)) = true := decide_eq_true (by omega)
    have c2' : (decide (0 ≤ (i : Int) ∧ (i : Int) < (n : Int)) && true) = true := by rw [Bool.and_true]; exact decide_eq_true (by omega)
    have hneg : decide ((i : Int) < 0) = false := decide_eq_false (by omega)
    have hm1 : decide ((-1 : Int) < 0) = true := rfl
    have ai := abs_apart (L.lo i (by omega)) (L.hi i (by omega)) (show -4000000 ≤ x by omega) (show x ≤ 4000000 by omega)
    simp only [e1, c1, c2, c2', c4, cond_true, cond_false, hb, Int.toNat_natCast, midB, lowB, ai]
    by_cases hn : i + 1 < n
    · have c5 : decide (((i + 1 : Nat) : Int) < (n : Int)) = true := decide_eq_true (by omega)
      have c6 : (decide (0 ≤ ((i + 1 : Nat) : Int) ∧ ((i + 1 : Nat) : Int) < (n : Int)) && true) = true := by rw [Bool.and_true]; exact decide_eq_true (by omega)
      have c7 : decide (i + 1 < n) = true := decide_eq_true hn
      have aj := abs_apart (L.lo (i + 1) hn) (L.hi (i + 1) hn) (show -4000000 ≤ x by omega) (show x ≤ 4000000 by omega)
      simp only [c5, c6, c7, cond_true, aj]
      rcases bool_cases (decide (apartV (c i) x ≤ w)) with e | e <;> rcases bool_cases (decide (apartV (c (i + 1)) x ≤ w)) with e' | e' <;> simp only [e, e', cond_true, cond_false, hneg, hm1, Int.toNat_natCast, pick_nat, pick_m1]
      rcases bool_cases (decide (apartV (c (i + 1)) x < apartV (c i) x)) with e3 | e3 <;> simp only [e3, cond_true, cond_false, Int.toNat_natCast, hneg, pick_nat]
    · have c5 : decide (((i + 1 : Nat) : Int) < (n : Int)) = false := decide_eq_false (by omega)
      have c7 : decide (i + 1 < n) = false := decide_eq_false hn
      simp only [c5, c7, cond_false]
      rcases bool_cases (decide (apartV (c i) x ≤ w)) with e | e <;> simp only [e, cond_true, cond_false, hneg, Int.toNat_natCast, pick_nat, pick_m1]

noncomputable def S4 : Specs := S3.with 19 fNear
theorem S4_ok : SpecsOk Try.prog S4 := by
  refine with_ends S3_ok (by kernel_rfl) ?_
  intro args v h
  unfold fNear at h
  split at h
  · rename_i n g x w
    simp only [Option.some.injEq, Prod.mk.injEq] at h
    obtain ⟨rfl, h1⟩ := h
    obtain ⟨c, rfl⟩ := isI_spec h1
    exact ⟨[_, _], rfl, pnear_ends n c x w 0 _ (pnear_run n c x w), 3, rfl⟩
  · cases h
end Go.Am
