/- The line at a number, by the reference: its value and its contract. -/
import Derived.Test.YtdojgffcahimjaaSpF
namespace Go.Am
open Go.Proofs
set_option maxRecDepth 100000
set_option linter.unusedVariables false
set_option linter.unusedSimpArgs false

/-- The best line so far (-1: none), from i on, over k of them. -/
def bestF (c : Nat → Int) (x w : Int) : Nat → Nat → Int → Int
  | 0, _, b => b
  | k + 1, i, b => bestF c x w k (i + 1) (bif decide (apartV (c i) x ≤ w) then (bif decide (b < 0) then (i : Int) else bif decide (apartV (c i) x < apartV (c b.toNat) x) then (i : Int) else b) else b)
/-- The line that is chosen; the number itself if there is none. -/
def pickV (c : Nat → Int) (x b : Int) : Int := bif decide (b < 0) then x else c b.toNat
def nearV_0 (n : Nat) (c : Nat → Int) (x w : Int) : Int :=
  bif chkV n c != 0 then 0 else bif decide (w < 0) then 0 else bif decide (w > 2000000) then 0 else bif decide (x < -4000000) then x else bif decide (x > 4000000) then x else
    pickV c x (bestF c x w n 0 (-1))
def nearV_1 (n : Nat) (c : Nat → Int) (x w : Int) : Int :=
  bif chkV n c != 0 then chkV n c else bif decide (w < 0) then 2 else bif decide (w > 2000000) then 2 else 0

theorem chk_len {n : Nat} {c : Nat → Int} (h : (chkV n c != 0) = false) : n ≤ 100 := by
  unfold chkV at h
  cases hn : decide ((n : Int) > 100) with
  | true => rw [hn] at h; cases h
  | false => have := of_decide_eq_false hn; omega

theorem bool_cases (b : Bool) : b = true ∨ b = false := by cases b <;> simp
theorem rnear_go (n : Nat) (c : Nat → Int) (x w : Int) (hn : n ≤ 100) : ∀ k i b, i + k = n → b < (i : Int) → goOn (rnearstep n c x w) (k + 1) (.to (.h0 b (i : Int))) = .ret [.int .i64 (pickV c x (bestF c x w k i b)), .int .i64 0]
  | 0, i, b, h, hb => by
    rw [goOn_to]
    simp only [rnearstep, lt_f h, cond_false, bestF]
    rcases bool_cases (decide (b < 0)) with hb0 | hb0
    · simp only [hb0, cond_true, goOn_ret, pickV]
    · have hb1 := of_decide_eq_false hb0
      have k2 : (decide (0 ≤ b ∧ b < (n : Int)) && true) = true := by rw [Bool.and_true]; exact decide_eq_true (by omega)
      simp only [hb0, cond_false, k2, cond_true, goOn_ret, pickV]
  | k + 1, i, b, h, hb => by
    have ih := fun b' hb' => rnear_go n c x w hn k (i + 1) b' (by omega) hb'
    rw [goOn_to]
    simp only [rnearstep, lt_t h, cond_true, in_t h, Int.toNat_natCast, bestF]
    rw [w_nat (i := i) (by omega)]
    rcases bool_cases (decide (apartV (c i) x ≤ w)) with h1 | h1
    · simp only [h1, cond_true]
      rcases bool_cases (decide (b < 0)) with h2 | h2
      · simp only [h2, cond_true]; exact ih i (by omega)
      · have hb0 := of_decide_eq_false h2
        have k2 : (decide (0 ≤ b ∧ b < (n : Int)) && true) = true := by rw [Bool.and_true]; exact decide_eq_true (by omega)
        simp only [h2, cond_false, k2, cond_true]
        rcases bool_cases (decide (apartV (c i) x < apartV (c b.toNat) x)) with h3 | h3
        · simp only [h3, cond_true]; exact ih i (by omega)
        · simp only [h3, cond_false]; exact ih b (by omega)
    · simp only [h1, cond_false]; exact ih b (by omega)
theorem rnear_run (n : Nat) (c : Nat → Int) (x w : Int) : ∃ N, goOn (rnearstep n c x w) N (rnearstart n c x w) = .ret [.int .i64 (nearV_0 n c x w), .int .i64 (nearV_1 n c x w)] := by
  refine ⟨n + 1, ?_⟩
  unfold rnearstart nearV_0 nearV_1
  cases h0 : chkV n c != 0 with
  | true => rfl
  | false =>
  cases decide (w < 0) with
  | true => rfl
  | false =>
  cases decide (w > 2000000) with
  | true => rfl
  | false =>
  cases decide (x < -4000000) with
  | true => rfl
  | false =>
  cases decide (x > 4000000) with
  | true => rfl
  | false => exact rnear_go n c x w (chk_len h0) n 0 (-1) (Nat.zero_add _) (by omega)
noncomputable def fNear : List AVal → Option (AVal × Bool)
  | [.dat n g, .int .i64 x, .int .i64 w] => some (.tup [.int .i64 (nearV_0 n (cOf g) x w), .int .i64 (nearV_1 n (cOf g) x w)], isI g)
  | _ => none
noncomputable def S3 : Specs := S2.with 20 fNear
theorem S3_ok : SpecsOk Try.prog S3 := by
  refine with_ends S2_ok (by kernel_rfl) ?_
  intro args v h
  unfold fNear at h
  split at h
  · rename_i n g x w
    simp only [Option.some.injEq, Prod.mk.injEq] at h
    obtain ⟨rfl, h1⟩ := h
    obtain ⟨c, rfl⟩ := isI_spec h1
    obtain ⟨N, hN⟩ := rnear_run n c x w
    exact ⟨[_, _], rfl, rnear_ends n c x w N _ hN, 3, rfl⟩
  · cases h
end Go.Am
/- The line at a number: the best of all lines is one of the two beside the number. (Plain law.) -/
namespace Go.Am
open Go.Proofs
set_option maxRecDepth 100000
set_option linter.unusedVariables false
set_option linter.unusedSimpArgs false

theorem anyF_false {p : Nat → Bool} : ∀ (k i : Nat), anyF p k i = false → ∀ m, i ≤ m → m < i + k → p m = false
  | 0, i, _, m, h1, h2 => by omega
  | k + 1, i, h, m, h1, h2 => by
    unfold anyF at h
    rcases bool_cases (p i) with hp | hp
    · rw [hp] at h; cases h
    · rw [hp, cond_false] at h
      by_cases e : m = i
      · rw [e]; exact hp
      · exact anyF_false k (i + 1) h m (by omega) (by omega)

/-- A list of lines. -/
structure Lines (n : Nat) (c : Nat → Int) : Prop where
  len : n ≤ 100
  lo : ∀ i, i < n → -1000000 ≤ c i
  hi : ∀ i, i < n → c i ≤ 1000000
  up : ∀ i j, i < j → j < n → c i < c j

theorem lines_of {n : Nat} {c : Nat → Int} (h : (chkV n c != 0) = false) : Lines n c := by
  have hl := chk_len h
  unfold chkV at h
  have hn : decide ((n : Int) > 100) = false := decide_eq_false (by omega)
  rw [hn, cond_false] at h
  rcases bool_cases (anyF (badV c) n 0) with e | e
  · rw [e] at h; cases h
  · have hb : ∀ m, m < n → badV c m = false := fun m hm => anyF_false n 0 e m (Nat.zero_le _) (by omega)
    have h1 : ∀ m, m < n → -1000000 ≤ c m ∧ c m ≤ 1000000 ∧ (m > 0 → c (m - 1) < c m) := fun m hm => by
      have := hb m hm
      unfold badV at this
      rcases bool_cases (decide (c m < -1000000)) with e1 | e1
      · rw [e1] at this; cases this
      rcases bool_cases (decide (c m > 1000000)) with e2 | e2
      · rw [e1, e2] at this; cases this
      have g1 := of_decide_eq_false e1
      have g2 := of_decide_eq_false e2
      refine ⟨by omega, by omega, fun h0 => ?_⟩
      rw [e1, e2, cond_false, cond_false, decide_eq_true h0, cond_true] at this
      have := of_decide_eq_false this
      omega
    refine ⟨hl, fun i hi => (h1 i hi).1, fun i hi => (h1 i hi).2.1, fun i j hij => ?_⟩
    induction j with
    | zero => omega
    | succ j ih =>
      intro hj
      have := (h1 (j + 1) hj).2.2 (by omega)
      rw [Nat.add_sub_cancel] at this
      by_cases e : i = j
      · rw [e]; exact this
      · have := ih (by omega) (by omega); omega

theorem apart_eq {a x : Int} (h1 : -1000000 ≤ a) (h2 : a ≤ 1000000) (h3 : -4000000 ≤ x) (h4 : x ≤ 4000000) : apartV a x = max (a - x) (x - a) := by
  unfold apartV
  rw [w_in (by omega) (by omega), w_in (by omega) (by omega), iMax_eq]
theorem abs_eq' {y : Int} (h1 : -9000000 ≤ y) (h2 : y ≤ 9000000) : absV y = max y (-y) := by
  unfold absV
  rw [w_in (by omega) (by omega), iMax_eq, Int.zero_sub]

/-- Where a number would stand. -/
theorem bs_spec {n : Nat} {c : Nat → Int} {x : Int} (L : Lines n c) : bsN n c x ≤ n ∧ (∀ m, m < bsN n c x → c m < x) ∧ ∀ m, bsN n c x ≤ m → m < n → x ≤ c m := by
  suffices h : ∀ k i, i + k = n → (∀ m, m < i → c m < x) → firstF (fun i => !decide (c i < x)) k i ≤ n ∧ (∀ m, m < firstF (fun i => !decide (c i < x)) k i → c m < x) ∧ ∀ m, firstF (fun i => !decide (c i < x)) k i ≤ m → m < n → x ≤ c m from
    h n 0 (Nat.zero_add _) fun m hm => absurd hm (Nat.not_lt_zero _)
  intro k
  induction k with
  | zero => intro i h h1; unfold firstF; exact ⟨by omega, h1, fun m h2 h3 => by omega⟩
  | succ k ih =>
    intro i h h1
    unfold firstF
    rcases bool_cases (decide (c i < x)) with e | e
    · simp only [e, Bool.not_true, cond_false]
      have e := of_decide_eq_true e
      exact ih (i + 1) (by omega) fun m hm => by
        by_cases q : m = i
        · rw [q]; exact e
        · exact h1 m (by omega)
    · simp only [e, Bool.not_false, cond_true]
      have e := of_decide_eq_false e
      refine ⟨by omega, h1, fun m h2 h3 => ?_⟩
      by_cases q : m = i
      · rw [q]; omega
      · have := L.up i m (by omega) h3; omega

theorem bestF_succ (c : Nat → Int) (x w : Int) (k i : Nat) (b : Int) : bestF c x w (k + 1) i b = bestF c x w k (i + 1) (bif decide (apartV (c i) x ≤ w) then (bif decide (b < 0) then (i : Int) else bif decide (apartV (c i) x < apartV (c b.toNat) x) then (i : Int) else b) else b) := rfl
theorem best_high (c : Nat → Int) (x w : Int) : ∀ (k i : Nat) (b : Int), (∀ m, i ≤ m → m < i + k → ¬ apartV (c m) x ≤ w ∨ (¬ b < 0 ∧ ¬ apartV (c m) x < apartV (c b.toNat) x)) → bestF c x w k i b = b
  | 0, i, b, _ => rfl
  | k + 1, i, b, h => by
    have ih := best_high c x w k (i + 1) b fun m h1 h2 => h m (by omega) (by omega)
    unfold bestF
    rcases h i (Nat.le_refl _) (by omega) with g | ⟨g1, g2⟩
    · simp only [decide_eq_false g, cond_false]; exact ih
    · simp only [decide_eq_false g1, decide_eq_false g2, cond_false]
      rcases bool_cases (decide (apartV (c i) x ≤ w)) with e | e
      · simp only [e, cond_true]; exact ih
      · simp only [e, cond_false]; exact ih

/-- The best of the lines below the number. -/
def lowB (c : Nat → Int) (x w : Int) : Nat → Int
  | 0 => -1
  | i + 1 => bif decide (apartV (c i) x ≤ w) then (i : Int) else -1
theorem best_low {n j : Nat} {c : Nat → Int} {x w : Int} (L : Lines n c) (h3 : -4000000 ≤ x) (h4 : x ≤ 4000000) (hj : j ≤ n) (hlt : ∀ m, m < j → c m < x) : ∀ (k i r : Nat), i + k = j → bestF c x w (k + r) i (lowB c x w i) = bestF c x w r j (lowB c x w j)
  | 0, i, r, h => by rw [Nat.zero_add]; rw [show i = j by omega]
  | k + 1, i, r, h => by
    have ih := best_low (w := w) L h3 h4 hj hlt k (i + 1) r (by omega)
    have ai := apart_eq (L.lo i (by omega)) (L.hi i (by omega)) h3 h4
    have hi := hlt i (by omega)
    rw [show k + 1 + r = (k + r) + 1 by omega]
    rw [bestF_succ]
    have e : (bif decide (apartV (c i) x ≤ w) then (bif decide (lowB c x w i < 0) then (i : Int) else bif decide (apartV (c i) x < apartV (c (lowB c x w i).toNat) x) then (i : Int) else lowB c x w i) else lowB c x w i) = lowB c x w (i + 1) := by
      rcases bool_cases (decide (apartV (c i) x ≤ w)) with e | e
      · simp only [lowB, e, cond_true]
        cases i with
        | zero => rfl
        | succ i' =>
          simp only [lowB]
          rcases bool_cases (decide (apartV (c i') x ≤ w)) with e' | e'
          · have a' := apart_eq (L.lo i' (by omega)) (L.hi i' (by omega)) h3 h4
            have u := L.up i' (i' + 1) (by omega) (by omega)
            have hn : decide (((i' : Nat) : Int) < 0) = false := decide_eq_false (by omega)
            have hl : decide (apartV (c (i' + 1)) x < apartV (c i') x) = true := decide_eq_true (by rw [ai, a']; omega)
            simp only [e', cond_true, hn, cond_false, Int.toNat_natCast, hl]
          · simp only [e', cond_false]; rfl
      · simp only [lowB, e, cond_false]
        cases i with
        | zero => rfl
        | succ i' =>
          have a' := apart_eq (L.lo i' (by omega)) (L.hi i' (by omega)) h3 h4
          have u := L.up i' (i' + 1) (by omega) (by omega)
          have e := of_decide_eq_false e
          have hl : decide (apartV (c i') x ≤ w) = false := decide_eq_false (by rw [ai] at e; rw [a']; omega)
          simp only [lowB, hl, cond_false]
    rw [e]
    exact ih

/-- The better one of the two lines beside the number. -/
def midB (c : Nat → Int) (x w : Int) (n j : Nat) : Int := bif decide (j < n) then (bif decide (apartV (c j) x ≤ w) then (bif decide (lowB c x w j < 0) then (j : Int) else bif decide (apartV (c j) x < apartV (c (lowB c x w j).toNat) x) then (j : Int) else lowB c x w j) else lowB c x w j) else lowB c x w j
theorem best_mid {n : Nat} {c : Nat → Int} {x w : Int} (L : Lines n c) (h3 : -4000000 ≤ x) (h4 : x ≤ 4000000) : bestF c x w n 0 (-1) = midB c x w n (bsN n c x) := by
  obtain ⟨h1, h2, h5⟩ := bs_spec (x := x) L
  generalize bsN n c x = j at *
  have e := best_low (w := w) L h3 h4 h1 h2 j 0 (n - j) (Nat.zero_add _)
  rw [show j + (n - j) = n by omega] at e
  rw [show bestF c x w n 0 (-1) = bestF c x w n 0 (lowB c x w 0) from rfl, e]
  unfold midB
  by_cases hj : j < n
  · rw [decide_eq_true hj, cond_true]
    obtain ⟨r, hr⟩ : ∃ r, n - j = r + 1 := ⟨n - j - 1, by omega⟩
    rw [hr, bestF_succ]
    have aj := apart_eq (L.lo j hj) (L.hi j hj) h3 h4
    have up : ∀ m, j + 1 ≤ m → m < j + 1 + r → apartV (c j) x < apartV (c m) x := fun m hm hm2 => by
      have am := apart_eq (L.lo m (by omega)) (L.hi m (by omega)) h3 h4
      have u := L.up j m (by omega) (by omega)
      have u2 := h5 j (Nat.le_refl _) hj
      rw [aj, am]; omega
    rcases bool_cases (decide (apartV (c j) x ≤ w)) with e1 | e1
    · simp only [e1, cond_true]
      rcases bool_cases (decide (lowB c x w j < 0)) with e2 | e2
      · simp only [e2, cond_true]
        exact best_high c x w r (j + 1) j fun m hm hm2 => .inr ⟨by omega, by have := up m hm hm2; rw [Int.toNat_natCast]; omega⟩
      · simp only [e2, cond_false]
        rcases bool_cases (decide (apartV (c j) x < apartV (c (lowB c x w j).toNat) x)) with e3 | e3
        · simp only [e3, cond_true]
          exact best_high c x w r (j + 1) j fun m hm hm2 => .inr ⟨by omega, by have := up m hm hm2; rw [Int.toNat_natCast]; omega⟩
        · simp only [e3, cond_false]
          have e2 := of_decide_eq_false e2
          have e3 := of_decide_eq_false e3
          exact best_high c x w r (j + 1) _ fun m hm hm2 => .inr ⟨e2, by have := up m hm hm2; omega⟩
    · simp only [e1, cond_false]
      have e1 := of_decide_eq_false e1
      exact best_high c x w r (j + 1) _ fun m hm hm2 => .inl (by have := up m hm hm2; omega)
  · rw [decide_eq_false hj, cond_false, show n - j = 0 by omega]
    rfl
end Go.Am
/- The line at a number, by the program: the same value; its contract. -/
namespace Go.Am
open Go.Proofs
set_option maxRecDepth 100000
set_option linter.unusedVariables false
set_option linter.unusedSimpArgs false

theorem abs_apart {a x : Int} (h1 : -1000000 ≤ a) (h2 : a ≤ 1000000) (h3 : -4000000 ≤ x) (h4 : x ≤ 4000000) : absV (IntKind.i64.wrap (a - x)) = apartV a x := by
  unfold absV apartV
  rw [w_in (n := a - x) (by omega) (by omega), show (0 : Int) - (a - x) = x - a by omega]

theorem pick_nat (c : Nat → Int) (x : Int) (j : Nat) : pickV c x (j : Int) = c j := by
  unfold pickV; rw [decide_eq_false (by omega)]; rfl
theorem pick_m1 (c : Nat → Int) (x : Int) : pickV c x (-1) = x := rfl
theorem pnear_run (n : Nat) (c : Nat → Int) (x w : Int) : pnearstart n c x w = .ret [.int .i64 (nearV_0 n c x w), .int .i64 (nearV_1 n c x w)] := by
  unfold pnearstart nearV_0 nearV_1
  rcases bool_cases (chkV n c != 0) with h0 | h0
  · simp only [h0, cond_true]
  rcases bool_cases (decide (w < 0)) with hw | hw
  · simp only [h0, hw, cond_true, cond_false]
  rcases bool_cases (decide (w > 2000000)) with hw2 | hw2
  · simp only [h0, hw, hw2, cond_true, cond_false]
  have L := lines_of h0
  have gw := of_decide_eq_false hw
  have gw2 := of_decide_eq_false hw2
  have far : -4000000 ≤ x → x ≤ 4000000 → (x < -3000000 ∨ x > 3000000) → bestF c x w n 0 (-1) = -1 := fun a b hx => best_high c x w n 0 (-1) fun m _ hm => .inl (by
    rw [apart_eq (L.lo m (by omega)) (L.hi m (by omega)) a b]
    have := L.lo m (by omega)
    have := L.hi m (by omega)
    omega)
  have pick1 : pickV c x (-1) = x := rfl
  simp only [h0, hw, hw2, cond_false]
  by_cases hx1 : x < -3000000
  · rw [decide_eq_true hx1, cond_true]
    by_cases hx3 : x < -4000000
    · rw [decide_eq_true hx3, cond_true]
    · rw [decide_eq_false hx3, cond_false, decide_eq_false (by omega), cond_false, far (by omega) (by omega) (.inl hx1), pick1]
  rw [decide_eq_false hx1, cond_false]
  by_cases hx2 : x > 3000000
  · rw [decide_eq_true hx2, cond_true, decide_eq_false (show ¬ x < -4000000 by omega), cond_false]
    by_cases hx4 : x > 4000000
    · rw [decide_eq_true hx4, cond_true]
    · rw [decide_eq_false hx4, cond_false, far (by omega) (by omega) (.inr hx2), pick1]
  rw [decide_eq_false hx2, cond_false, decide_eq_false (show ¬ x < -4000000 by omega), cond_false, decide_eq_false (show ¬ x > 4000000 by omega), cond_false, best_mid L (by omega) (by omega)]
  have hb : bsV_owed n c x = true := pd_true ⟨by have := L.len; omega, fun i j h1 h2 => Int.le_of_lt (L.up i j h1 h2)⟩
  obtain ⟨h1, _, _⟩ := bs_spec (x := x) L
  have hv : bsV_0 n c x = (bsN n c x : Int) := rfl
  have hlen := L.len
  rw [hv]
  generalize bsN n c x = j at *
  have c4 : decide ((j : Int) ≥ 0) = true := decide_eq_true (by omega)
  cases j with
  | zero =>
    have e1 : IntKind.i64.wrap (((0 : Nat) : Int) - 1) = -1 := by rw [w_in (by omega) (by omega)]; rfl
    have c1 : decide ((-1 : Int) ≥ 0) = false := rfl
    simp only [e1, c1, c4, cond_true, cond_false, hb, Int.toNat_natCast, midB, lowB]
    by_cases hn : 0 < n
    · have c5 : decide (((0 : Nat) : Int) < (n : Int)) = true := decide_eq_true (by omega)
      have c6 : (decide (0 ≤ ((0 : Nat) : Int) ∧ ((0 : Nat) : Int) < (n : Int)) && true) = true := by rw [Bool.and_true]; exact decide_eq_true (by omega)
      have c7 : decide (0 < n) = true := decide_eq_true hn
      simp only [c5, c6, c7, cond_true, abs_apart (L.lo 0 hn) (L.hi 0 hn) (show -4000000 ≤ x by omega) (show x ≤ 4000000 by omega)]
      rcases bool_cases (decide (apartV (c 0) x ≤ w)) with e | e <;> simp only [e, cond_true, cond_false] <;> rfl
    · have c5 : decide (((0 : Nat) : Int) < (n : Int)) = false := decide_eq_false (by omega)
      have c7 : decide (0 < n) = false := decide_eq_false hn
      simp only [c5, c7, cond_false]
      rfl
  | succ i =>
    have e1 : IntKind.i64.wrap (((i + 1 : Nat) : Int) - 1) = (i : Int) := by rw [w_in (by omega) (by omega)]; omega
    have c1 : decide ((i : Int) ≥ 0) = true := decide_eq_true (by omega)
    have c2 : decide ((i : Int) < (n : Int)) = true := decide_eq_true (by omega)
    have c2' : (decide (0 ≤ (i : Int) ∧ (i : Int) < (n : Int)) && true) = true := by rw [Bool.and_true]; exact decide_eq_true (by omega)
    have hneg : decide ((i : Int) < 0) = false := decide_eq_false (by omega)
    have hm1 : decide ((-1 : Int) < 0) = true := rfl
    have ai := abs_apart (L.lo i (by omega)) (L.hi i (by omega)) (show -4000000 ≤ x by omega) (show x ≤ 4000000 by omega)
    simp only [e1, c1, c2, c2', c4, cond_true, cond_false, hb, Int.toNat_natCast, midB, lowB, ai]
    by_cases hn : i + 1 < n
    · have c5 : decide (((i + 1 : Nat) : Int) < (n : Int)) = true := decide_eq_true (by omega)
      have c6 : (decide (0 ≤ ((i + 1 : Nat) : Int) ∧ ((i + 1 : Nat) : Int) < (n : Int)) && true) = true := by rw [Bool.and_true]; exact decide_eq_true (by omega)
      have c7 : decide (i + 1 < n) = true := decide_eq_true hn
      have aj := abs_apart (L.lo (i + 1) hn) (L.hi (i + 1) hn) (show -4000000 ≤ x by omega) (show x ≤ 4000000 by omega)
      simp only [c5, c6, c7, cond_true, aj]
      rcases bool_cases (decide (apartV (c i) x ≤ w)) with e | e <;> rcases bool_cases (decide (apartV (c (i + 1)) x ≤ w)) with e' | e' <;> simp only [e, e', cond_true, cond_false, hneg, hm1, Int.toNat_natCast, pick_nat, pick_m1]
      rcases bool_cases (decide (apartV (c (i + 1)) x < apartV (c i) x)) with e3 | e3 <;> simp only [e3, cond_true, cond_false, Int.toNat_natCast, hneg, pick_nat]
    · have c5 : decide (((i + 1 : Nat) : Int) < (n : Int)) = false := decide_eq_false (by omega)
      have c7 : decide (i + 1 < n) = false := decide_eq_false hn
      simp only [c5, c7, cond_false]
      rcases bool_cases (decide (apartV (c i) x ≤ w)) with e | e <;> simp only [e, cond_true, cond_false, hneg, Int.toNat_natCast, pick_nat, pick_m1]

noncomputable def S4 : Specs := S3.with 19 fNear
theorem S4_ok : SpecsOk Try.prog S4 := by
  refine with_ends S3_ok (by kernel_rfl) ?_
  intro args v h
  unfold fNear at h
  split at h
  · rename_i n g x w
    simp only [Option.some.injEq, Prod.mk.injEq] at h
    obtain ⟨rfl, h1⟩ := h
    obtain ⟨c, rfl⟩ := isI_spec h1
    exact ⟨[_, _], rfl, pnear_ends n c x w 0 _ (pnear_run n c x w), 3, rfl⟩
  · cases h
end Go.Am
