/- slices.BinarySearch over sorted integers: its value and its contract; slices.Sort's contract. -/
import Derived.Test.YtdojgffcahimjaaSpB
import Derived.Test.YtdojgffcahimjaaAm1
import Derived.Test.YtdojgffcahimjaaShelf
namespace Go.Am
open Go.Proofs
set_option maxRecDepth 100000
set_option linter.unusedVariables false
set_option linter.unusedSimpArgs false

/-- The first number from i on, of k of them, that is so; i + k if none is. -/
def firstF (p : Nat → Bool) : Nat → Nat → Nat
  | 0, i => i
  | k + 1, i => bif p i then i else firstF p k (i + 1)
theorem firstF_eq {p : Nat → Bool} {j : Nat} : ∀ (k i : Nat), i ≤ j → j ≤ i + k → (∀ m, i ≤ m → m < j → p m = false) → (j < i + k → p j = true) → firstF p k i = j
  | 0, i, h1, h2, _, _ => by unfold firstF; omega
  | k + 1, i, h1, h2, h3, h4 => by
    unfold firstF
    by_cases e : i = j
    · subst e
      rw [h4 (by omega)]; rfl
    · rw [h3 i (Nat.le_refl _) (by omega), cond_false]
      exact firstF_eq k (i + 1) (by omega) (by omega) (fun m hm hj => h3 m (by omega) hj) fun h => h4 (by omega)

def bsN (n : Nat) (c : Nat → Int) (x : Int) : Nat := firstF (fun i => !decide (c i < x)) n 0
def bsV_0 (n : Nat) (c : Nat → Int) (x : Int) : Int := (bsN n c x : Int)
def bsV_1 (n : Nat) (c : Nat → Int) (x : Int) : Bool := bif decide (bsN n c x < n) then c (bsN n c x) == x else false
/-- A list that increases, of not too many numbers. -/
noncomputable def bsV_owed (n : Nat) (c : Nat → Int) (x : Int) : Bool := pd (n ≤ 1152921504606846976 ∧ ∀ i j, i < j → j < n → c i ≤ c j)

theorem mid_eq {lo hi : Nat} (h : hi ≤ 1152921504606846976) (hl : lo ≤ hi) : IntKind.i64.wrap (Int.fdiv (IntKind.u64.wrap (IntKind.i64.wrap ((lo : Int) + (hi : Int)))) 2) = (((lo + hi) / 2 : Nat) : Int) := by
  rw [w_in (n := (lo : Int) + hi) (by omega) (by omega)]
  have e : IntKind.u64.wrap ((lo : Int) + hi) = ((lo + hi : Nat) : Int) := by
    rw [IntKind.wrap_u64]; omega
  rw [e, Int.fdiv_eq_ediv_of_nonneg _ (by omega)]
  rw [w_in (by omega) (by omega)]
  omega

theorem bs_go (n : Nat) (c : Nat → Int) (x : Int) (hn : n ≤ 1152921504606846976) (hs : ∀ i j, i < j → j < n → c i ≤ c j) : ∀ k lo hi, hi - lo ≤ k → lo ≤ hi → hi ≤ n → (∀ i, i < lo → c i < x) → (∀ i, hi ≤ i → i < n → ¬ c i < x) →
    goOn (bsstep n c x) (k + 1) (.to (.h0 (lo : Int) (hi : Int))) = .ret [.int .i64 (bsV_0 n c x), .bool (bsV_1 n c x)] := by
  intro k
  induction k with
  | zero =>
    intro lo hi h1 h2 h3 h4 h5
    have e : lo = hi := by omega
    subst e
    have hf : bsN n c x = lo := firstF_eq n 0 (Nat.zero_le _) (by omega) (fun m _ hm => by rw [decide_eq_true (h4 m hm)]; rfl) fun hlt => by rw [decide_eq_false (h5 lo (Nat.le_refl _) (by omega))]; rfl
    rw [goOn_to]
    unfold bsV_0 bsV_1
    rw [hf]
    have k0 : decide ((lo : Int) < (lo : Int)) = false := decide_eq_false (by omega)
    simp only [bsstep, k0, cond_false, Int.toNat_natCast]
    by_cases hlt : lo < n
    · have k1 : decide ((lo : Int) < (n : Int)) = true := decide_eq_true (by omega)
      have k2 : (decide (0 ≤ (lo : Int) ∧ (lo : Int) < (n : Int)) && true) = true := by rw [Bool.and_true]; exact decide_eq_true (by omega)
      have k3 : decide (lo < n) = true := decide_eq_true hlt
      simp only [k1, k2, k3, cond_true]
      cases c lo == x <;> rfl
    · have k1 : decide ((lo : Int) < (n : Int)) = false := decide_eq_false (by omega)
      have k3 : decide (lo < n) = false := decide_eq_false hlt
      simp only [k1, k3, cond_false]
      rfl
  | succ k ih =>
    intro lo hi h1 h2 h3 h4 h5
    by_cases hlt : lo < hi
    · rw [goOn_to]
      have k0 : decide ((lo : Int) < (hi : Int)) = true := decide_eq_true (by omega)
      simp only [bsstep, k0, cond_true, mid_eq (lo := lo) (hi := hi) (by omega) h2, Int.toNat_natCast]
      have hm1 : (lo + hi) / 2 < hi := by omega
      have hm2 : lo ≤ (lo + hi) / 2 := by omega
      generalize (lo + hi) / 2 = m at *
      have k2 : (decide (0 ≤ (m : Int) ∧ (m : Int) < (n : Int)) && true) = true := by rw [Bool.and_true]; exact decide_eq_true (by omega)
      simp only [k2, cond_true]
      cases hc : decide (c m < x) with
      | true =>
        have hc := of_decide_eq_true hc
        simp only [cond_true]
        rw [w_nat (by omega)]
        refine ih (m + 1) hi (by omega) (by omega) h3 (fun i hi' => ?_) h5
        rcases Nat.lt_or_ge i m with h | h
        · exact Int.lt_of_le_of_lt (hs i m h (by omega)) hc
        · have : i = m := by omega
          subst this; exact hc
      | false =>
        have hc := of_decide_eq_false hc
        simp only [cond_false]
        refine ih lo m (by omega) hm2 (by omega) h4 fun i hi' hin hlt' => ?_
        rcases Nat.lt_or_ge m i with h | h
        · exact hc (Int.lt_of_le_of_lt (hs m i h hin) hlt')
        · have : i = m := by omega
          subst this; exact hc hlt'
    · have e : lo = hi := by omega
      have hz := ih lo hi (by omega) h2 h3 h4 h5
      subst e
      -- one step more does no harm at the end
      rw [goOn_to] at hz ⊢
      have k0 : decide ((lo : Int) < (lo : Int)) = false := decide_eq_false (by omega)
      simp only [bsstep, k0, cond_false, Int.toNat_natCast] at hz ⊢
      by_cases hlt : lo < n
      · have k1 : decide ((lo : Int) < (n : Int)) = true := decide_eq_true (by omega)
        have k2 : (decide (0 ≤ (lo : Int) ∧ (lo : Int) < (n : Int)) && true) = true := by rw [Bool.and_true]; exact decide_eq_true (by omega)
        simp only [k1, k2, cond_true] at hz ⊢
        cases hx : c lo == x <;> simp only [hx, cond_true, cond_false, goOn_ret] at hz ⊢ <;> exact hz
      · have k1 : decide ((lo : Int) < (n : Int)) = false := decide_eq_false (by omega)
        simp only [k1, cond_false, goOn_ret] at hz ⊢
        exact hz
noncomputable def fBs : List AVal → Option (AVal × Bool)
  | [.dat n g, .int .i64 x] => some (.tup [.int .i64 (bsV_0 n (cOf g) x), .bool (bsV_1 n (cOf g) x)], isI g && bsV_owed n (cOf g) x)
  | _ => none

noncomputable def Specs.withE (S : Specs) (f : FuncId) (F : List AVal → Mem → Option (AVal × Nat × ABlk × Bool)) : Specs := fun g => bif Nat.beq g f then some (.eff F) else S g
theorem with_eff {P : Program} {S : Specs} (hS : SpecsOk P S) {f : FuncId} {F : List AVal → Mem → Option (AVal × Nat × ABlk × Bool)} (hf : (P.funcs[f]?).any (fun fn => fn.body.isSome) = true) (hF : EffOk P f F) : SpecsOk P (S.withE f F) := by
  intro g G hg
  unfold Specs.withE at hg
  cases hgf : Nat.beq g f with
  | false => rw [hgf] at hg; exact hS g G hg
  | true =>
    rw [hgf] at hg
    obtain rfl : Spec.eff F = G := Option.some.inj hg
    obtain rfl : g = f := Nat.eq_of_beq_eq_true hgf
    refine ⟨?_, hF⟩
    cases hfn : P.funcs[g]? with
    | none => rw [hfn] at hf; cases hf
    | some fn => rw [hfn] at hf; exact ⟨fn, rfl, hf⟩

def srtI (zs : List Int) : List Int := zs.mergeSort fun x y => decide (x ≤ y)
theorem sort_eff : EffOk Try.prog 29 (fRow srtI) :=
  eff_row (fun zs => List.length_mergeSort zs) (fun blk off cap zs w hH hb hz => Try.slices_Sort_int blk off cap zs w hH hb hz) fun p cap w => Try.slices_Sort_int_none p cap w

noncomputable def S2 : Specs := (S1.with 30 fBs).withE 29 (fRow srtI)
theorem S2_ok : SpecsOk Try.prog S2 := by
  refine with_eff (with_ends S1_ok (by kernel_rfl) ?_) (by kernel_rfl) sort_eff
  intro args v h
  unfold fBs at h
  split at h
  · rename_i n g x
    simp only [Option.some.injEq, Prod.mk.injEq, Bool.and_eq_true] at h
    obtain ⟨rfl, h1, h2⟩ := h
    obtain ⟨c, rfl⟩ := isI_spec h1
    obtain ⟨h3, h4⟩ := pd_of h2
    exact ⟨[_, _], rfl, bs_ends n c x (n + 1) _ (bs_go n c x h3 h4 n 0 n (by omega) (Nat.zero_le _) (Nat.le_refl _) (fun i hi => absurd hi (Nat.not_lt_zero _)) fun i h1 h2 => absurd h2 (by omega)), 3, rfl⟩
  · cases h
end Go.Am
