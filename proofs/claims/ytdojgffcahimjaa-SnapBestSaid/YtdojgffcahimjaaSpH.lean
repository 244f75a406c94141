/- The line at a number: the best of all lines is one of the two beside the number. (Plain law.) -/
import Derived.Test.YtdojgffcahimjaaSpG
namespace Go.Am
open Go.Proofs
set_option maxRecDepth 100000
set_option linter.unusedVariables false
set_option linter.unusedSimpArgs false

theorem anyF_false {p : Nat → Bool} : ∀ (k i : Nat), anyF p k i = false → ∀ m, i ≤ m → m < i + k → p m = false
  | 0, i, _, m, h1, h2 => by omega
  | k + 1, i, h, m, h1, h2 => by
    unfold anyF at h
    rcases bool_cases (p i) with hp | hp
    · rw [hp] at h; cases h
    · rw [hp, cond_false] at h
      by_cases e : m = i
      · rw [e]; exact hp
      · exact anyF_false k (i + 1) h m (by omega) (by omega)

/-- A list of lines. -/
structure Lines (n : Nat) (c : Nat → Int) : Prop where
  len : n ≤ 100
  lo : ∀ i, i < n → -1000000 ≤ c i
  hi : ∀ i, i < n → c i ≤ 1000000
  up : ∀ i j, i < j → j < n → c i < c j

theorem lines_of {n : Nat} {c : Nat → Int} (h : (chkV n c != 0) = false) : Lines n c := by
  have hl := chk_len h
  unfold chkV at h
  have hn : decide ((n : Int) > 100) = false := decide_eq_false (by omega)
  rw [hn, cond_false] at h
  rcases bool_cases (anyF (badV c) n 0) with e | e
  · rw [e] at h; cases h
  · have hb : ∀ m, m < n → badV c m = false := fun m hm => anyF_false n 0 e m (Nat.zero_le _) (by omega)
    have h1 : ∀ m, m < n → -1000000 ≤ c m ∧ c m ≤ 1000000 ∧ (m > 0 → c (m - 1) < c m) := fun m hm => by
      have := hb m hm
      unfold badV at this
      rcases bool_cases (decide (c m < -1000000)) with e1 | e1
      · rw [e1] at this; cases this
      rcases bool_cases (decide (c m > 1000000)) with e2 | e2
      · rw [e1, e2] at this; cases this
      have g1 := of_decide_eq_false e1
      have g2 := of_decide_eq_false e2
      refine ⟨by omega, by omega, fun h0 => ?_⟩
      rw [e1, e2, cond_false, cond_false, decide_eq_true h0, cond_true] at this
      have := of_decide_eq_false this
      omega
    refine ⟨hl, fun i hi => (h1 i hi).1, fun i hi => (h1 i hi).2.1, fun i j hij => ?_⟩
    induction j with
    | zero => omega
    | succ j ih =>
      intro hj
      have := (h1 (j + 1) hj).2.2 (by omega)
      rw [Nat.add_sub_cancel] at this
      by_cases e : i = j
      · rw [e]; exact this
      · have := ih (by omega) (by omega); omega

theorem apart_eq {a x : Int} (h1 : -1000000 ≤ a) (h2 : a ≤ 1000000) (h3 : -4000000 ≤ x) (h4 : x ≤ 4000000) : apartV a x = max (a - x) (x - a) := by
  unfold apartV
  rw [w_in (by omega) (by omega), w_in (by omega) (by omega), iMax_eq]
theorem abs_eq' {y : Int} (h1 : -9000000 ≤ y) (h2 : y ≤ 9000000) : absV y = max y (-y) := by
  unfold absV
  rw [w_in (by omega) (by omega), iMax_eq, Int.zero_sub]

/-- Where a number would stand. -/
theorem bs_spec {n : Nat} {c : Nat → Int} {x : Int} (L : Lines n c) : bsN n c x ≤ n ∧ (∀ m, m < bsN n c x → c m < x) ∧ ∀ m, bsN n c x ≤ m → m < n → x ≤ c m := by
  suffices h : ∀ k i, i + k = n → (∀ m, m < i → c m < x) → firstF (fun i => !decide (c i < x)) k i ≤ n ∧ (∀ m, m < firstF (fun i => !decide (c i < x)) k i → c m < x) ∧ ∀ m, firstF (fun i => !decide (c i < x)) k i ≤ m → m < n → x ≤ c m from
    h n 0 (Nat.zero_add _) fun m hm => absurd hm (Nat.not_lt_zero _)
  intro k
  induction k with
  | zero => intro i h h1; unfold firstF; exact ⟨by omega, h1, fun m h2 h3 => by omega⟩
  | succ k ih =>
    intro i h h1
    unfold firstF
    rcases bool_cases (decide (c i < x)) with e | e
    · simp only [e, Bool.not_true, cond_false]
      have e := of_decide_eq_true e
      exact ih (i + 1) (by omega) fun m hm => by
        by_cases q : m = i
        · rw [q]; exact e
        · exact h1 m (by omega)
    · simp only [e, Bool.not_false, cond_true]
      have e := of_decide_eq_false e
      refine ⟨by omega, h1, fun m h2 h3 => ?_⟩
      by_cases q : m = i
      · rw [q]; omega
      · have := L.up i m (by omega) h3; omega

theorem bestF_succ (c : Nat → Int) (x w : Int) (k i : Nat) (b : Int) : bestF c x w (k + 1) i b = bestF c x w k (i + 1) (bif decide (apartV (c i) x ≤ w) then (bif decide (b < 0) then (i : Int) else bif decide (apartV (c i) x < apartV (c b.toNat) x) then (i : Int) else b) else b) := rfl
theorem best_high (c : Nat → Int) (x w : Int) : ∀ (k i : Nat) (b : Int), (∀ m, i ≤ m → m < i + k → ¬ apartV (c m) x ≤ w ∨ (¬ b < 0 ∧ ¬ apartV (c m) x < apartV (c b.toNat) x)) → bestF c x w k i b = b
  | 0, i, b, _ => rfl
  | k + 1, i, b, h => by
    have ih := best_high c x w k (i + 1) b fun m h1 h2 => h m (by omega) (by omega)
    unfold bestF
    rcases h i (Nat.le_refl _) (by omega) with g | ⟨g1, g2⟩
    · simp only [decide_eq_false g, cond_false]; exact ih
    · simp only [decide_eq_false g1, decide_eq_false g2, cond_false]
      rcases bool_cases (decide (apartV (c i) x ≤ w)) with e | e
      · simp only [e, cond_true]; exact ih
      · simp only [e, cond_false]; exact ih

/-- The best of the lines below the number. -/
def lowB (c : Nat → Int) (x w : Int) : Nat → Int
  | 0 => -1
  | i + 1 => bif decide (apartV (c i) x ≤ w) then (i : Int) else -1
theorem best_low {n j : Nat} {c : Nat → Int} {x w : Int} (L : Lines n c) (h3 : -4000000 ≤ x) (h4 : x ≤ 4000000) (hj : j ≤ n) (hlt : ∀ m, m < j → c m < x) : ∀ (k i r : Nat), i + k = j → bestF c x w (k + r) i (lowB c x w i) = bestF c x w r j (lowB c x w j)
  | 0, i, r, h => by rw [Nat.zero_add]; rw [show i = j by omega]
  | k + 1, i, r, h => by
    have ih := best_low (w := w) L h3 h4 hj hlt k (i + 1) r (by omega)
    have ai := apart_eq (L.lo i (by omega)) (L.hi i (by omega)) h3 h4
    have hi := hlt i (by omega)
    rw [show k + 1 + r = (k + r) + 1 by omega]
    rw [bestF_succ]
    have e : (bif decide (apartV (c i) x ≤ w) then (bif decide (lowB c x w i < 0) then (i : Int) else bif decide (apartV (c i) x < apartV (c (lowB c x w i).toNat) x) then (i : Int) else lowB c x w i) else lowB c x w i) = lowB c x w (i + 1) := by
      rcases bool_cases (decide (apartV (c i) x ≤ w)) with e | e
      · simp only [lowB, e, cond_true]
        cases i with
        | zero => rfl
        | succ i' =>
          simp only [lowB]
          rcases bool_cases (decide (apartV (c i') x ≤ w)) with e' | e'
          · have a' := apart_eq (L.lo i' (by omega)) (L.hi i' (by omega)) h3 h4
            have u := L.up i' (i' + 1) (by omega) (by omega)
            have hn : decide (((i' : Nat) : Int) < 0) = false := decide_eq_false (by omega)
            have hl : decide (apartV (c (i' + 1)) x < apartV (c i') x) = true := decide_eq_true (by rw [ai, a']; omega)
            simp only [e', cond_true, hn, cond_false, Int.toNat_natCast, hl]
          · simp only [e', cond_false]; rfl
      · simp only [lowB, e, cond_false]
        cases i with
        | zero => rfl
        | succ i' =>
          have a' := apart_eq (L.lo i' (by omega)) (L.hi i' (by omega)) h3 h4
          have u := L.up i' (i' + 1) (by omega) (by omega)
          have e := of_decide_eq_false e
          have hl : decide (apartV (c i') x ≤ w) = false := decide_eq_false (by rw [ai] at e; rw [a']; omega)
          simp only [lowB, hl, cond_false]
    rw [e]
    exact ih

/-- The better one of the two lines beside the number. -/
def midB (c : Nat → Int) (x w : Int) (n j : Nat) : Int := bif decide (j < n) then (bif decide (apartV (c j) x ≤ w) then (bif decide (lowB c x w j < 0) then (j : Int) else bif decide (apartV (c j) x < apartV (c (lowB c x w j).toNat) x) then (j : Int) else lowB c x w j) else lowB c x w j) else lowB c x w j
theorem best_mid {n : Nat} {c : Nat → Int} {x w : Int} (L : Lines n c) (h3 : -4000000 ≤ x) (h4 : x ≤ 4000000) : bestF c x w n 0 (-1) = midB c x w n (bsN n c x) := by
  obtain ⟨h1, h2, h5⟩ := bs_spec (x := x) L
  generalize bsN n c x = j at *
  have e := best_low (w := w) L h3 h4 h1 h2 j 0 (n - j) (Nat.zero_add _)
  rw [show j + (n - j) = n by omega] at e
  rw [show bestF c x w n 0 (-1) = bestF c x w n 0 (lowB c x w 0) from rfl, e]
  unfold midB
  by_cases hj : j < n
  · rw [decide_eq_true hj, cond_true]
    obtain ⟨r, hr⟩ : ∃ r, n - j = r + 1 := ⟨n - j - 1, by omega⟩
    rw [hr, bestF_succ]
    have aj := apart_eq (L.lo j hj) (L.hi j hj) h3 h4
    have up : ∀ m, j + 1 ≤ m → m < j + 1 + r → apartV (c j) x < apartV (c m) x := fun m hm hm2 => by
      have am := apart_eq (L.lo m (by omega)) (L.hi m (by omega)) h3 h4
      have u := L.up j m (by omega) (by omega)
      have u2 := h5 j (Nat.le_refl _) hj
      rw [aj, am]; omega
    rcases bool_cases (decide (apartV (c j) x ≤ w)) with e1 | e1
    · simp only [e1, cond_true]
      rcases bool_cases (decide (lowB c x w j < 0)) with e2 | e2
      · simp only [e2, cond_true]
        exact best_high c x w r (j + 1) j fun m hm hm2 => .inr ⟨by omega, by have := up m hm hm2; rw [Int.toNat_natCast]; omega⟩
      · simp only [e2, cond_false]
        rcases bool_cases (decide (apartV (c j) x < apartV (c (lowB c x w j).toNat) x)) with e3 | e3
        · simp only [e3, cond_true]
          exact best_high c x w r (j + 1) j fun m hm hm2 => .inr ⟨by omega, by have := up m hm hm2; rw [Int.toNat_natCast]; omega⟩
        · simp only [e3, cond_false]
          have e2 := of_decide_eq_false e2
          have e3 := of_decide_eq_false e3
          exact best_high c x w r (j + 1) _ fun m hm hm2 => .inr ⟨e2, by have := up m hm hm2; omega⟩
    · simp only [e1, cond_false]
      have e1 := of_decide_eq_false e1
      exact best_high c x w r (j + 1) _ fun m hm hm2 => .inl (by have := up m hm hm2; omega)
  · rw [decide_eq_false hj, cond_false, show n - j = 0 by omega]
    rfl
end Go.Am
