/- What the simple functions of the chapter compute, and their contracts. -/
import Derived.Test.YtdojgffcahimjaaSpA
namespace Go.Am
open Go.Proofs
set_option maxRecDepth 100000
set_option linter.unusedVariables false
set_option linter.unusedSimpArgs false

/-- Some number from i on, of k of them, is so. -/
def anyF (p : Nat → Bool) : Nat → Nat → Bool
  | 0, _ => false
  | k + 1, i => bif p i then true else anyF p k (i + 1)

theorem lt_t {i n k : Nat} (h : i + (k + 1) = n) : decide ((i : Int) < (n : Int)) = true := decide_eq_true (by omega)
theorem lt_f {i n : Nat} (h : i + 0 = n) : decide ((i : Int) < (n : Int)) = false := decide_eq_false (by omega)
theorem in_t {i n k : Nat} (h : i + (k + 1) = n) : (decide (0 ≤ (i : Int) ∧ (i : Int) < (n : Int)) && true) = true := by
  rw [Bool.and_true]; exact decide_eq_true (by omega)

/-! ### Has, Same -/
def short (n : Nat) : Bool := decide (n ≤ 4611686018427387904)
theorem short_le {n : Nat} (h : short n = true) : n ≤ 4611686018427387904 := of_decide_eq_true h
def hasV (n : Nat) (c : Nat → Int) (x : Int) : Bool := anyF (fun i => c i == x) n 0
def hasV_owed (n : Nat) (c : Nat → Int) (x : Int) : Bool := short n
theorem has_go (n : Nat) (c : Nat → Int) (x : Int) (hn : n ≤ 4611686018427387904) : ∀ k i, i + k = n → goOn (hasstep n c x) (k + 1) (.to (.h0 (i : Int))) = .ret [.bool (anyF (fun i => c i == x) k i)]
  | 0, i, h => by
    rw [goOn_to]
    simp only [hasstep, lt_f h, cond_false, anyF]
    rfl
  | k + 1, i, h => by
    rw [goOn_to]
    simp only [hasstep, lt_t h, cond_true, in_t h, Int.toNat_natCast, anyF]
    cases c i == x with
    | true => rfl
    | false =>
      simp only [cond_false]
      rw [w_nat (by omega)]
      exact has_go n c x hn k (i + 1) (by omega)
noncomputable def fHas : List AVal → Option (AVal × Bool)
  | [.dat n g, .int .i64 x] => some (.bool (hasV n (cOf g) x), isI g && hasV_owed n (cOf g) x)
  | _ => none

def sameV (n : Nat) (c : Nat → Int) (m : Nat) (d : Nat → Int) : Bool := bif ((n : Int) != (m : Int)) then false else !(anyF (fun i => c i != d i) n 0)
def sameV_owed (n : Nat) (c : Nat → Int) (m : Nat) (d : Nat → Int) : Bool := short n
theorem same_go (n : Nat) (c d : Nat → Int) (hn : n ≤ 4611686018427387904) : ∀ k i, i + k = n → goOn (samestep n c n d) (k + 1) (.to (.h0 (i : Int))) = .ret [.bool (!(anyF (fun i => c i != d i) k i))]
  | 0, i, h => by
    rw [goOn_to]
    simp only [samestep, lt_f h, cond_false, anyF]
    rfl
  | k + 1, i, h => by
    rw [goOn_to]
    simp only [samestep, lt_t h, cond_true, in_t h, Int.toNat_natCast, anyF]
    cases c i != d i with
    | true => rfl
    | false =>
      simp only [cond_false]
      rw [w_nat (by omega)]
      exact same_go n c d hn k (i + 1) (by omega)
noncomputable def fSame : List AVal → Option (AVal × Bool)
  | [.dat n g, .dat m e] => some (.bool (sameV n (cOf g) m (cOf e)), isI g && (isI e && sameV_owed n (cOf g) m (cOf e)))
  | _ => none

/-! ### Check, on both sides -/
def badV (c : Nat → Int) (i : Nat) : Bool := bif decide (c i < -1000000) then true else bif decide (c i > 1000000) then true else bif decide (i > 0) then decide (c i ≤ c (i - 1)) else false
def chkV (n : Nat) (c : Nat → Int) : Int := bif decide ((n : Int) > 100) then 4 else bif anyF (badV c) n 0 then 8 else 0

theorem pred_in {i n k : Nat} (h : i + (k + 1) = n) (h0 : i > 0) : (decide (0 ≤ ((i - 1 : Nat) : Int) ∧ ((i - 1 : Nat) : Int) < (n : Int)) && true) = true := by
  rw [Bool.and_true]; exact decide_eq_true (by omega)
theorem w_pred {i : Nat} (h0 : i > 0) (h : i ≤ 4611686018427387904) : IntKind.i64.wrap ((i : Int) - 1) = ((i - 1 : Nat) : Int) := by
  rw [w_in (by omega) (by omega)]; omega
theorem pos_int {i : Nat} : decide ((i : Int) > 0) = decide (i > 0) := by
  by_cases h : i > 0
  · rw [decide_eq_true h]; exact decide_eq_true (by omega)
  · rw [decide_eq_false h]; exact decide_eq_false (by omega)

theorem rchk_go (n : Nat) (c : Nat → Int) (hn : n ≤ 100) : ∀ k i, i + k = n → goOn (rchkstep n c) (k + 1) (.to (.h0 (i : Int))) = .ret [.int .i64 (bif anyF (badV c) k i then 8 else 0)]
  | 0, i, h => by
    rw [goOn_to]
    simp only [rchkstep, lt_f h, cond_false, anyF]
    rfl
  | k + 1, i, h => by
    have ih := rchk_go n c hn k (i + 1) (by omega)
    rw [goOn_to]
    simp only [rchkstep, lt_t h, cond_true, in_t h, Int.toNat_natCast, anyF, badV, pos_int]
    cases decide (c i < -1000000) with
    | true => rfl
    | false =>
    cases decide (c i > 1000000) with
    | true => rfl
    | false =>
    cases h0 : decide (i > 0) with
    | false =>
      simp only [cond_false]
      rw [w_nat (by omega)]
      exact ih
    | true =>
      have h0 := of_decide_eq_true h0
      simp only [cond_true, cond_false, w_pred h0 (by omega), Int.toNat_natCast, pred_in h h0]
      cases decide (c i ≤ c (i - 1)) with
      | true => rfl
      | false =>
        simp only [cond_false]
        rw [w_nat (by omega)]
        exact ih
theorem pchk_go (n : Nat) (c : Nat → Int) (hn : n ≤ 100) : ∀ k i, i + k = n → goOn (pchkstep n c) (k + 1) (.to (.h0 (i : Int))) = .ret [.int .i64 (bif anyF (badV c) k i then 8 else 0)]
  | 0, i, h => by
    rw [goOn_to]
    simp only [pchkstep, lt_f h, cond_false, anyF]
    rfl
  | k + 1, i, h => by
    have ih := pchk_go n c hn k (i + 1) (by omega)
    rw [goOn_to]
    simp only [pchkstep, lt_t h, cond_true, in_t h, Int.toNat_natCast, anyF, badV, pos_int]
    cases decide (c i < -1000000) with
    | true => rfl
    | false =>
    cases decide (c i > 1000000) with
    | true => rfl
    | false =>
    cases h0 : decide (i > 0) with
    | false =>
      simp only [cond_false]
      rw [w_nat (by omega)]
      exact ih
    | true =>
      have h0 := of_decide_eq_true h0
      simp only [cond_true, cond_false, w_pred h0 (by omega), Int.toNat_natCast, pred_in h h0]
      cases decide (c i ≤ c (i - 1)) with
      | true => rfl
      | false =>
        simp only [cond_false]
        rw [w_nat (by omega)]
        exact ih
noncomputable def fChk : List AVal → Option (AVal × Bool)
  | [.dat n g] => some (.int .i64 (chkV n (cOf g)), isI g)
  | _ => none

/-! ### abs, Apart, the orders of scores -/
def absV (x : Int) : Int := iMax x (IntKind.wrap IntKind.i64 (0 - x))
noncomputable def fAbs : List AVal → Option (AVal × Bool)
  | [.int .i64 x] => some (.int .i64 (absV x), true)
  | _ => none
def apartV (x y : Int) : Int := iMax (IntKind.wrap IntKind.i64 (x - y)) (IntKind.wrap IntKind.i64 (y - x))
noncomputable def fApart : List AVal → Option (AVal × Bool)
  | [.int .i64 x, .int .i64 y] => some (.int .i64 (apartV x y), true)
  | _ => none
/-- A score is better. -/
def betV (a b c d : Int) : Bool := bif decide (a > c) then true else bif a == c then decide (b < d) else false
noncomputable def fBef : List AVal → Option (AVal × Bool)
  | [.agg [.int .i64 a, .int .i64 b], .agg [.int .i64 c, .int .i64 d]] => some (.bool (betV a b c d), true)
  | _ => none
def betterV (_ a b _ _ c d _ : Int) : Bool := betV a b c d
noncomputable def fBet : List AVal → Option (AVal × Bool)
  | [.agg [.int .i64 p, .int .i64 a, .int .i64 b, .int .i64 q], .agg [.int .i64 r, .int .i64 c, .int .i64 d, .int .i64 s]] => some (.bool (betterV p a b q r c d s), true)
  | _ => none

/-! ### The contracts -/
noncomputable def S1 : Specs := ((((((((noSpecs.with 15 fHas).with 12 fSame).with 25 fChk).with 26 fChk).with 28 fAbs).with 16 fApart).with 31 fBef).with 33 fBet)
theorem S1_ok : SpecsOk Try.prog S1 := by
  refine with_ends (with_ends (with_ends (with_ends (with_ends (with_ends (with_ends (with_ends noSpecs_ok (by kernel_rfl) ?_) (by kernel_rfl) ?_) (by kernel_rfl) ?_) (by kernel_rfl) ?_) (by kernel_rfl) ?_) (by kernel_rfl) ?_) (by kernel_rfl) ?_) (by kernel_rfl) ?_
  · intro args v h
    unfold fHas at h
    split at h
    · simp only [Option.some.injEq, Prod.mk.injEq, Bool.and_eq_true] at h
      obtain ⟨rfl, h1, h2⟩ := h
      obtain ⟨c, rfl⟩ := isI_spec h1
      exact ⟨[_], rfl, has_ends _ c _ _ _ (has_go _ c _ (short_le h2) _ 0 (Nat.zero_add _)), 1, rfl⟩
    · cases h
  · intro args v h
    unfold fSame at h
    split at h
    · rename_i n g m e
      simp only [Option.some.injEq, Prod.mk.injEq, Bool.and_eq_true] at h
      obtain ⟨rfl, h1, h2, h3⟩ := h
      obtain ⟨c, rfl⟩ := isI_spec h1
      obtain ⟨d, rfl⟩ := isI_spec h2
      refine ⟨[_], rfl, same_ends n c m d (n + 1) _ ?_, 1, rfl⟩
      unfold samestart sameV
      cases hn : ((n : Int) != (m : Int)) with
      | true => rfl
      | false =>
        have : (n : Int) = m := by simpa using hn
        have : n = m := by omega
        subst this
        exact same_go n c d (short_le h3) n 0 (Nat.zero_add _)
    · cases h
  · intro args v h
    unfold fChk at h
    split at h
    · rename_i n g
      simp only [Option.some.injEq, Prod.mk.injEq] at h
      obtain ⟨rfl, h1⟩ := h
      obtain ⟨c, rfl⟩ := isI_spec h1
      refine ⟨[_], rfl, pchk_ends n c (n + 1) _ ?_, 1, rfl⟩
      unfold pchkstart chkV
      cases hn : decide ((n : Int) > 100) with
      | true => rfl
      | false => exact pchk_go n c (by have := of_decide_eq_false hn; omega) n 0 (Nat.zero_add _)
    · cases h
  · intro args v h
    unfold fChk at h
    split at h
    · rename_i n g
      simp only [Option.some.injEq, Prod.mk.injEq] at h
      obtain ⟨rfl, h1⟩ := h
      obtain ⟨c, rfl⟩ := isI_spec h1
      refine ⟨[_], rfl, rchk_ends n c (n + 1) _ ?_, 1, rfl⟩
      unfold rchkstart chkV
      cases hn : decide ((n : Int) > 100) with
      | true => rfl
      | false => exact rchk_go n c (by have := of_decide_eq_false hn; omega) n 0 (Nat.zero_add _)
    · cases h
  · intro args v h
    unfold fAbs at h
    split at h
    · simp only [Option.some.injEq, Prod.mk.injEq] at h
      obtain ⟨rfl, _⟩ := h
      exact ⟨[_], rfl, abs_ends _ 0 _ rfl, 1, rfl⟩
    · cases h
  · intro args v h
    unfold fApart at h
    split at h
    · simp only [Option.some.injEq, Prod.mk.injEq] at h
      obtain ⟨rfl, _⟩ := h
      exact ⟨[_], rfl, apart_ends _ _ 0 _ rfl, 1, rfl⟩
    · cases h
  · intro args v h
    unfold fBef at h
    split at h
    · rename_i a b c d
      simp only [Option.some.injEq, Prod.mk.injEq] at h
      obtain ⟨rfl, _⟩ := h
      refine ⟨[_], rfl, bef_ends a b c d 0 _ ?_, 1, rfl⟩
      show befstart a b c d = _
      unfold befstart betV
      cases decide (a > c) <;> cases a == c <;> rfl
    · cases h
  · intro args v h
    unfold fBet at h
    split at h
    · rename_i p a b q r c d s
      simp only [Option.some.injEq, Prod.mk.injEq] at h
      obtain ⟨rfl, _⟩ := h
      refine ⟨[_], rfl, bet_ends p a b q r c d s 0 _ ?_, 1, rfl⟩
      show betstart p a b q r c d s = _
      unfold betstart betterV betV
      cases decide (a > c) <;> cases a == c <;> rfl
    · cases h
end Go.Am
