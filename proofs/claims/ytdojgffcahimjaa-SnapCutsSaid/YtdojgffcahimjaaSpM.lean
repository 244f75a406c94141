/- Two lists of lines together, by the reference. -/
import Derived.Test.YtdojgffcahimjaaSpL
namespace Go.Am
open Go.Proofs
set_option maxRecDepth 100000
set_option linter.unusedVariables false
set_option linter.unusedSimpArgs false

/-- What is left of two lists, put together. -/
def mrgF (n : Nat) (c : Nat → Int) (m : Nat) (d : Nat → Int) : Nat → Nat → Nat → List Int
  | 0, _, _ => []
  | k + 1, i, j => bif decide (i < n) then (bif decide (j < m) then (bif decide (c i < d j) then c i :: mrgF n c m d k (i + 1) j else bif decide (d j < c i) then d j :: mrgF n c m d k i (j + 1) else c i :: mrgF n c m d k (i + 1) (j + 1)) else c i :: mrgF n c m d k (i + 1) j)
    else bif decide (j < m) then d j :: mrgF n c m d k i (j + 1) else []

theorem listC_app {L : List Int} {cc : Nat → Int} (h : ∀ t, t < L.length → cc t = listC L t) (x : Int) : ∀ t, t < (L ++ [x]).length → appC cc L.length x t = listC (L ++ [x]) t := fun t ht => by
  unfold appC listC
  rcases bool_cases (Nat.ble L.length t) with q | q
  · have := Nat.le_of_ble_eq_true q
    have e : t = L.length := by simp at ht; omega
    rw [q, e]; simp
  · have hlt : t < L.length := Nat.lt_of_not_le fun q' => by rw [Nat.ble_eq_true_of_le q'] at q; cases q
    rw [q, cond_false, h t hlt]
    simp [listC, List.getElem?_append_left hlt]

def mrgEnd (R : List Int) (o : Out' rmergeS) : Prop := (bif decide ((R.length : Int) > 100) then o = .ret [.nils, .int .i64 4] else ∃ cc, o = .ret [frzS 1 1 0 R.length R.length (iget cc), .int .i64 0] ∧ ∀ t, t < R.length → cc t = listC R t)

theorem rmerge_go (n : Nat) (c : Nat → Int) (m : Nat) (d : Nat → Int) (hn : n ≤ 100) (hm : m ≤ 100) : ∀ (k i j : Nat) (L : List Int) (cc : Nat → Int), i ≤ n → j ≤ m → (n - i) + (m - j) ≤ k → L.length ≤ i + j → (∀ t, t < L.length → cc t = listC L t) →
    mrgEnd (L ++ mrgF n c m d k i j) (goOn (rmergestep n c m d) (k + 1) (.to (.h0 L.length cc (i : Int) (j : Int)))) := by
  intro k
  induction k with
  | zero =>
    intro i j L cc hi hj hk hL hc
    obtain rfl : i = n := by omega
    obtain rfl : j = m := by omega
    have k0 : decide ((i : Int) < (i : Int)) = false := decide_eq_false (by omega)
    have k1 : decide ((j : Int) < (j : Int)) = false := decide_eq_false (by omega)
    rw [goOn_to]
    simp only [rmergestep, k0, k1, cond_false, mrgF, List.append_nil]
    unfold mrgEnd
    rcases bool_cases (decide ((L.length : Int) > 100)) with e | e
    · rw [e, cond_true, cond_true, goOn_ret]
    · rw [e, cond_false, cond_false, goOn_ret]
      exact ⟨cc, rfl, hc⟩
  | succ k ih =>
    intro i j L cc hi hj hk hL hc
    have hr : (Nat.beq 1 1 && (decide (0 + L.length = L.length) && decide ((L.length + 1 + 1) * (8 + 1) ≤ room))) = true := by
      have : decide (0 + L.length = L.length) = true := decide_eq_true (Nat.zero_add _)
      rw [this, decide_eq_true (show (L.length + 1 + 1) * (8 + 1) ≤ room by unfold room; omega)]
      rfl
    have len1 : ∀ x : Int, (L ++ [x]).length = L.length + 1 := fun x => by simp
    have go : ∀ (x : Int) (i' j' : Nat), i' ≤ n → j' ≤ m → (n - i') + (m - j') ≤ k → L.length + 1 ≤ i' + j' → mrgEnd (L ++ x :: mrgF n c m d k i' j') (goOn (rmergestep n c m d) (k + 1) (.to (.h0 (L.length + 1) (appC cc L.length x) (i' : Int) (j' : Int)))) := fun x i' j' h1 h2 h3 h4 => by
      have := ih i' j' (L ++ [x]) (appC cc L.length x) h1 h2 h3 (by rw [len1]; exact h4) (listC_app hc x)
      rw [len1, List.append_assoc, List.singleton_append] at this
      exact this
    rw [goOn_to]
    by_cases hin : i < n
    · have k0 : decide ((i : Int) < (n : Int)) = true := decide_eq_true (by omega)
      have k0' : decide (i < n) = true := decide_eq_true hin
      have k2 : (decide (0 ≤ (i : Int) ∧ (i : Int) < (n : Int)) && true) = true := by rw [Bool.and_true]; exact decide_eq_true (by omega)
      have k3 : ((i : Int) == (n : Int)) = false := by simp; omega
      by_cases hjm : j < m
      · have k1' : decide (j < m) = true := decide_eq_true hjm
        have k4 : (decide (0 ≤ (j : Int) ∧ (j : Int) < (m : Int)) && true) = true := by rw [Bool.and_true]; exact decide_eq_true (by omega)
        have k5 : ((j : Int) == (m : Int)) = false := by simp; omega
        simp only [rmergestep, mrgF, k0, k0', k1', k2, k3, k4, k5, hr, cond_true, cond_false, Int.toNat_natCast]
        rcases bool_cases (decide (c i < d j)) with e | e
        · simp only [e, cond_true]
          rw [w_nat (i := i) (by omega)]
          exact go (c i) (i + 1) j (by omega) hj (by omega) (by omega)
        · simp only [e, cond_false]
          rcases bool_cases (decide (d j < c i)) with e' | e'
          · simp only [e', cond_true]
            rw [w_nat (i := j) (by omega)]
            exact go (d j) i (j + 1) hi (by omega) (by omega) (by omega)
          · simp only [e', cond_false]
            rw [w_nat (i := i) (by omega), w_nat (i := j) (by omega)]
            exact go (c i) (i + 1) (j + 1) (by omega) (by omega) (by omega) (by omega)
      · obtain rfl : j = m := by omega
        have k1' : decide (j < j) = false := decide_eq_false (by omega)
        have k5 : ((j : Int) == (j : Int)) = true := by simp
        simp only [rmergestep, mrgF, k0, k0', k1', k2, k5, hr, cond_true, cond_false, Int.toNat_natCast]
        rw [w_nat (i := i) (by omega)]
        exact go (c i) (i + 1) j (by omega) hj (by omega) (by omega)
    · obtain rfl : i = n := by omega
      have k0 : decide ((i : Int) < (i : Int)) = false := decide_eq_false (by omega)
      have k0' : decide (i < i) = false := decide_eq_false (by omega)
      have k3 : ((i : Int) == (i : Int)) = true := by simp
      by_cases hjm : j < m
      · have k1 : decide ((j : Int) < (m : Int)) = true := decide_eq_true (by omega)
        have k1' : decide (j < m) = true := decide_eq_true hjm
        have k4 : (decide (0 ≤ (j : Int) ∧ (j : Int) < (m : Int)) && true) = true := by rw [Bool.and_true]; exact decide_eq_true (by omega)
        have k5 : ((j : Int) == (m : Int)) = false := by simp; omega
        simp only [rmergestep, mrgF, k0, k0', k1, k1', k3, k4, k5, hr, cond_true, cond_false, Int.toNat_natCast]
        rw [w_nat (i := j) (by omega)]
        exact go (d j) i (j + 1) hi (by omega) (by omega) (by omega)
      · obtain rfl : j = m := by omega
        have k1 : decide ((j : Int) < (j : Int)) = false := decide_eq_false (by omega)
        have k1' : decide (j < j) = false := decide_eq_false (by omega)
        simp only [rmergestep, mrgF, k0, k0', k1, k1', cond_false, List.append_nil]
        unfold mrgEnd
        rcases bool_cases (decide ((L.length : Int) > 100)) with e | e
        · rw [e, cond_true, cond_true, goOn_ret]
        · rw [e, cond_false, cond_false, goOn_ret]
          exact ⟨cc, rfl, hc⟩

def mergeE (n : Nat) (c : Nat → Int) (m : Nat) (d : Nat → Int) : Int := bif chkV n c != 0 then chkV n c else bif chkV m d != 0 then chkV m d else bif decide (((mrgF n c m d (n + m) 0 0).length : Int) > 100) then 4 else 0
def mergeL (n : Nat) (c : Nat → Int) (m : Nat) (d : Nat → Int) : List Int := bif mergeE n c m d != 0 then [] else mrgF n c m d (n + m) 0 0
noncomputable def mergeV (n : Nat) (c : Nat → Int) (m : Nat) (d : Nat → Int) : AVal := .tup [.dat (mergeL n c m d).length (iget (listC (mergeL n c m d))), .int .i64 (mergeE n c m d)]
theorem merge_err {n : Nat} {c : Nat → Int} {m : Nat} {d : Nat → Int} {e : Int} (he : mergeE n c m d = e) (h0 : (e != 0) = true) : ∀ (ρ : Rho) (u : Value), VRel ρ (packed [.nils, .int .i64 e]) u → VRel ρ (mergeV n c m d) u := by
  unfold mergeV mergeL
  rw [he, h0, cond_true]
  exact vrel_tup2 fun ρ u h => vrel_nils_dat h
theorem rmerge_run (n : Nat) (c : Nat → Int) (m : Nat) (d : Nat → Int) : ∃ N vs, goOn (rmergestep n c m d) N (rmergestart n c m d) = .ret vs ∧ (∀ (ρ : Rho) (u : Value), VRel ρ (packed vs) u → VRel ρ (mergeV n c m d) u) ∧ pf 4 (packed vs) = true := by
  unfold rmergestart
  rcases bool_cases (chkV n c != 0) with h0 | h0
  · exact ⟨0, _, by rw [h0, cond_true]; rfl, merge_err (by simp only [mergeE, h0, cond_true]) h0, rfl⟩
  rcases bool_cases (chkV m d != 0) with h1 | h1
  · exact ⟨0, _, by rw [h0, h1, cond_true, cond_false]; rfl, merge_err (by simp only [mergeE, h0, h1, cond_true, cond_false]) h1, rfl⟩
  have g := rmerge_go n c m d (chk_len h0) (chk_len h1) (n + m) 0 0 [] (listC []) (Nat.zero_le _) (Nat.zero_le _) (by omega) (Nat.le_refl _) fun t ht => absurd ht (Nat.not_lt_zero _)
  rw [List.nil_append] at g
  unfold mrgEnd at g
  refine ⟨n + m + 1, ?_⟩
  rw [h0, h1, cond_false, cond_false]
  rcases bool_cases (decide (((mrgF n c m d (n + m) 0 0).length : Int) > 100)) with e | e
  · rw [e, cond_true] at g
    exact ⟨_, g, merge_err (by simp only [mergeE, h0, h1, e, cond_true, cond_false]) rfl, rfl⟩
  · rw [e, cond_false] at g
    obtain ⟨cc, a, b⟩ := g
    have he : mergeE n c m d = 0 := by simp only [mergeE, h0, h1, e, cond_false]
    refine ⟨_, a, ?_, ?_⟩
    · have hl : mergeL n c m d = mrgF n c m d (n + m) 0 0 := by unfold mergeL; rw [he]; rfl
      unfold mergeV
      rw [he, hl]
      refine vrel_tup2 fun ρ u h => ?_
      rw [frzS_eq] at h
      exact vrel_dat_congr (fun i hi => by unfold iget; rw [b i hi]) h
    · show pf 4 (.tup [frzS 1 1 0 _ _ (iget cc), .int .i64 0]) = true
      rw [frzS_eq]; rfl
noncomputable def fMerge : List AVal → Option (AVal × Bool)
  | [.dat n g, .dat m e] => some (mergeV n (cOf g) m (cOf e), isI g && isI e)
  | _ => none
noncomputable def S6 : Specs := S5.with 22 fMerge
theorem S6_ok : SpecsOk Try.prog S6 := by
  refine with_ends' S5_ok (by kernel_rfl) ?_
  intro args v h
  unfold fMerge at h
  split at h
  · rename_i n g m e
    simp only [Option.some.injEq, Prod.mk.injEq, Bool.and_eq_true] at h
    obtain ⟨rfl, h1, h2⟩ := h
    obtain ⟨c, rfl⟩ := isI_spec h1
    obtain ⟨d, rfl⟩ := isI_spec h2
    obtain ⟨N, vs, a, b, p⟩ := rmerge_run n c m d
    exact ⟨vs, b, rmerge_ends n c m d N vs a, 4, p⟩
  · cases h
end Go.Am
