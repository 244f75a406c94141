/- The line at a number, by the reference: its value and its contract. -/
import Derived.Test.YtdojgffcahimjaaSpF
namespace Go.Am
open Go.Proofs
set_option maxRecDepth 100000
set_option linter.unusedVariables false
set_option linter.unusedSimpArgs false

/-- The best line so far (-1: none), from i on, over k of them. -/
def bestF (c : Nat → Int) (x w : Int) : Nat → Nat → Int → Int
  | 0, _, b => b
  | k + 1, i, b => bestF c x w k (i + 1) (bif decide (apartV (c i) x ≤ w) then (bif decide (b < 0) then (i : Int) else bif decide (apartV (c i) x < apartV (c b.toNat) x) then (i : Int) else b) else b)
/-- The line that is chosen; the number itself if there is none. -/
def pickV (c : Nat → Int) (x b : Int) : Int := bif decide (b < 0) then x else c b.toNat
def nearV_0 (n : Nat) (c : Nat → Int) (x w : Int) : Int :=
  bif chkV n c != 0 then 0 else bif decide (w < 0) then 0 else bif decide (w > 2000000) then 0 else bif decide (x < -4000000) then x else bif decide (x > 4000000) then x else
    pickV c x (bestF c x w n 0 (-1))
def nearV_1 (n : Nat) (c : Nat → Int) (x w : Int) : Int :=
  bif chkV n c != 0 then chkV n c else bif decide (w < 0) then 2 else bif decide (w > 2000000) then 2 else 0

theorem chk_len {n : Nat} {c : Nat → Int} (h : (chkV n c != 0) = false) : n ≤ 100 := by
  unfold chkV at h
  cases hn : decide ((n : Int) > 100) with
  | true => rw [hn] at h; cases h
  | false => have := of_decide_eq_false hn; omega

theorem bool_cases (b : Bool) : b = true ∨ b = false := by cases b <;> simp
theorem rnear_go (n : Nat) (c : Nat → Int) (x w : Int) (hn : n ≤ 100) : ∀ k i b, i + k = n → b < (i : Int) → goOn (rnearstep n c x w) (k + 1) (.to (.h0 b (i : Int))) = .ret [.int .i64 (pickV c x (bestF c x w k i b)), .int .i64 0]
  | 0, i, b, h, hb => by
    rw [goOn_to]
    simp only [rnearstep, lt_f h, cond_false, bestF]
    rcases bool_cases (decide (b < 0)) with hb0 | hb0
    · simp only [hb0, cond_true, goOn_ret, pickV]
    · have hb1 := of_decide_eq_false hb0
      have k2 : (decide (0 ≤ b ∧ b < (n : Int)) && true) = true := by rw [Bool.and_true]; exact decide_eq_true (by omega)
      simp only [hb0, cond_false, k2, cond_true, goOn_ret, pickV]
  | k + 1, i, b, h, hb => by
    have ih := fun b' hb' => rnear_go n c x w hn k (i + 1) b' (by omega) hb'
    rw [goOn_to]
    simp only [rnearstep, lt_t h, cond_true, in_t h, Int.toNat_natCast, bestF]
    rw [w_nat (i := i) (by omega)]
    rcases bool_cases (decide (apartV (c i) x ≤ w)) with h1 | h1
    · simp only [h1, cond_true]
      rcases bool_cases (decide (b < 0)) with h2 | h2
      · simp only [h2, cond_true]; exact ih i (by omega)
      · have hb0 := of_decide_eq_false h2
        have k2 : (decide (0 ≤ b ∧ b < (n : Int)) && true) = true := by rw [Bool.and_true]; exact decide_eq_true (by omega)
        simp only [h2, cond_false, k2, cond_true]
        rcases bool_cases (decide (apartV (c i) x < apartV (c b.toNat) x)) with h3 | h3
        · simp only [h3, cond_true]; exact ih i (by omega)
        · simp only [h3, cond_false]; exact ih b (by omega)
    · simp only [h1, cond_false]; exact ih b (by omega)
theorem rnear_run (n : Nat) (c : Nat → Int) (x w : Int) : ∃ N, goOn (rnearstep n c x w) N (rnearstart n c x w) = .ret [.int .i64 (nearV_0 n c x w), .int .i64 (nearV_1 n c x w)] := by
  refine ⟨n + 1, ?_⟩
  unfold rnearstart nearV_0 nearV_1
  cases h0 : chkV n c != 0 with
  | true => rfl
  | false =>
  cases decide (w < 0) with
  | true => rfl
  | false =>
  cases decide (w > 2000000) with
  | true => rfl
  | false =>
  cases decide (x < -4000000) with
  | true => rfl
  | false =>
  cases decide (x > 4000000) with
  | true => rfl
  | false => exact rnear_go n c x w (chk_len h0) n 0 (-1) (Nat.zero_add _) (by omega)
noncomputable def fNear : List AVal → Option (AVal × Bool)
  | [.dat n g, .int .i64 x, .int .i64 w] => some (.tup [.int .i64 (nearV_0 n (cOf g) x w), .int .i64 (nearV_1 n (cOf g) x w)], isI g)
  | _ => none
noncomputable def S3 : Specs := S2.with 20 fNear
theorem S3_ok : SpecsOk Try.prog S3 := by
  refine with_ends S2_ok (by kernel_rfl) ?_
  intro args v h
  unfold fNear at h
  split at h
  · rename_i n g x w
    simp only [Option.some.injEq, Prod.mk.injEq] at h
    obtain ⟨rfl, h1⟩ := h
    obtain ⟨c, rfl⟩ := isI_spec h1
    obtain ⟨N, hN⟩ := rnear_run n c x w
    exact ⟨[_, _], rfl, rnear_ends n c x w N _ hN, 3, rfl⟩
  · cases h
end Go.Am
